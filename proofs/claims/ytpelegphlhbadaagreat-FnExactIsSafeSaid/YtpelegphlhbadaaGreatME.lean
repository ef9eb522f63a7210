/- Lemmas, plain functions of the program, and what they answer. No condition. -/
import Derived.Test.YtpelegphlhbadaaGreatMD
namespace Go.Proofs.YtpelegphlhbadaaGreat
set_option linter.unusedVariables false
set_option linter.unusedSimpArgs false
open Go Go.VL
theorem o6 {n:Nat}(h:n<=10000000):U ((n:Int)+1)=((n+1:Nat):Int):=by rw[cQ (by omega) (by omega)];rfl
theorem sH {n:Nat}(h:n<=10000000):U ((n:Int)-1)=(n:Int)-1:=cQ (by omega) (by omega)
theorem MQ {n:Nat}(h:n<=10000000):U (((n+1:Nat):Int)-1)=n:=by rw[cQ (by omega) (by omega)];omega
theorem gu (l:ar):len_ eI l=l.length:=fs _ l
theorem ad8 {l:ar}{k:Nat}{x:Int}(aa:l[k]? = some x)(aT:l.length<=5000000):xu l ((k+1:Nat):Int)=some (if x=0 then .inl (k:Int) else .inr ((k+1:Nat):Int)):=by have aX:=f5 aa;unfold xu;rw[MQ (by omega),dw (by simp),dw (by omega),dy,aa];by_cases h:x=0<;>simp[h]
theorem uc {l:ar}(aV:cX l)(aT:l.length<=5000000):sg l=some (L (V l)):=by
 have : ∃r,iter (fun w:Int=>xu l w) (l.length:Int)=some r/\ ∃k:Nat,r=k/\k<=l.length/\l.take k=L (V l):=by
  refine jT (e9:=fun w:Int=> ∃k:Nat,w=k/\k<=l.length/\V (l.take k)=V l) (m:=fun w:Int=>w.toNat) _ ?_ _ ⟨l.length,rfl,by omega,by simp⟩;rintro _ ⟨k,rfl,aX,bh⟩
  cases k with
  | zero =>
   refine .inr ⟨0,by simp[xu],0,rfl,by omega,?_⟩;rw[<- bh];simp[V,rv]
  | succ k =>
   have aa:=dz (show k<l.length by omega);rw[ad8 aa aT];by_cases h:l[k]=0
   ·refine .inl ⟨_,by simp[h],⟨k,rfl,by omega,?_⟩,by omega⟩;have:=vd aa;rw[h] at this;simp at this;omega
   ·refine .inr ⟨_,by simp[h],k+1,rfl,aX,?_⟩
    rcases fS.Mh aV k (fun x h1=>by rw[aa] at h1;simp at h1;omega) with h1|h1
    ·exact wJ h1 bh
    ·omega
 obtain⟨r,ai,k,rfl,h1,h2⟩:=this;unfold sg Rx;rw[gu,ai];simp[h1,h2]
theorem B4 {l:ar}(aV:cX l)(aT:l.length<=5000000):sn l=some (L (V l)):=by
 have : ∃r,iter (fun w:ar=>A9 w) l=some r/\r=L (V l):=by
  refine jT (e9:=fun w=> ∃k:Nat,w=l.take k/\k<=l.length/\V (l.take k)=V l) (m:=fun w:ar=>w.length) _ ?_ _ ⟨l.length,by simp,by omega,by simp⟩;rintro _ ⟨k,rfl,aX,bh⟩;have hlen:(l.take k).length=k:=by simp;omega
  cases k with
  | zero =>
   refine .inr ⟨[],by simp[A9,gu],?_⟩;rw[<- bh];simp[V,rv]
  | succ k =>
   have aa:=dz (show k<l.length by omega);have et:(l.take (k+1))[k]? = some l[k]:=(by rw[List.getElem?_take];simp[aa]);unfold A9;simp only[gu,hlen];rw[MQ (by omega),dw (by simp),dw (by omega),dy,et];by_cases h:l[k]=0
   ·refine .inl ⟨l.take k,by simp[h,List.take_take,Nat.min_eq_left],⟨k,rfl,by omega,?_⟩,by simp;omega⟩;have:=vd aa;rw[h] at this;simp at this;omega
   ·refine .inr ⟨l.take (k+1),by simp[h],?_⟩
    rcases fS.Mh aV k (fun x h1=>by rw[aa] at h1;simp at h1;omega) with h1|h1
    ·exact wJ h1 bh
    ·omega
 obtain⟨r,ai,rfl⟩:=this;unfold sn Sn;rw[ai];rfl
theorem ad9 {l:ar}(aV:cX l)(aT:l.length<=5000000): ∃k,Eo l=some k/\k<=l.length/\l.take k=L (V l):=by
 have : ∃r,iter (fun w:Nat=>AZ l w) l.length=some r/\r<=l.length/\l.take r=L (V l):=by
  refine jT (e9:=fun k=>k<=l.length/\V (l.take k)=V l) (m:=fun w:Nat=>w) _ ?_ _ ⟨by omega,by simp⟩;rintro k ⟨aX,bh⟩
  cases k with
  | zero =>
   refine .inr ⟨0,by simp[AZ],by omega,?_⟩;rw[<- bh];simp[V,rv]
  | succ k =>
   have aa:=dz (show k<l.length by omega);unfold AZ;rw[MQ (by omega),dw (by simp),dw (by omega),dy,dG,aa];by_cases h:l[k]=0
   ·refine .inl ⟨k,by simp[h],⟨by omega,?_⟩,by omega⟩;have:=vd aa;rw[h] at this;simp at this;omega
   ·refine .inr ⟨k+1,by simp[h],aX,?_⟩
    rcases fS.Mh aV k (fun x h1=>by rw[aa] at h1;simp at h1;omega) with h1|h1
    ·exact wJ h1 bh
    ·omega
 obtain⟨r,ai,h1,h2⟩:=this;unfold Eo R1;rw[ai];exact⟨r,rfl,h1,h2⟩
theorem vg {a b:ar}(bG:fS a)(aW:fS b)(aT:a.length<=5000000):sj a b=some (kZ (V a) (V b)):=by
 unfold sj kZ;simp only[gu];by_cases h1:a.length=b.length
 ·rw[dA (by simp[h1])]
  have : ∃r,iter (fun w:Int=>AW a b w) ((a.length:Int)-1)=some r/\(r.elim (fun _=>V a=V b) (fun c=>(c = -1/\V a<V b)\/(c=1/\V b<V a))):=by
   refine jT (e9:=fun w:Int=> ∃k:Nat,w=(k:Int)-1/\k<=a.length/\V (a.drop k)=V (b.drop k)) (m:=fun w:Int=>(w+1).toNat) _ ?_ _ ⟨a.length,rfl,by omega,by rw[List.drop_length,h1,List.drop_length]⟩;rintro _ ⟨k,rfl,aX,bh⟩
   cases k with
   | zero=>exact .inr ⟨.inl (),by simp[AW],by simpa using bh⟩
   | succ k =>
    have aa:=dz (show k<a.length by omega);have aU:=dz (show k<b.length by omega);have e:((k+1:Nat):Int)-1=k:=(by omega);unfold AW;rw[e,sH (by omega),dw (by simp),dw (by omega),dy,aa];simp only[dC,dx];rw[dw (by omega),aU];by_cases h2:a[k]<b[k]
    ·exact .inr ⟨.inr (-1),by simp[h2],.inl ⟨rfl,UM bG.1 aW.1 aa aU bh h2⟩⟩
    ·by_cases J:b[k]<a[k]
     ·exact .inr ⟨.inr 1,by simp[h2,J],.inr ⟨rfl,UM aW.1 bG.1 aU aa bh.symm J⟩⟩
     ·refine .inl ⟨(k:Int)-1,by simp[h2,J],⟨k,rfl,by omega,?_⟩,by omega⟩;rw[p9 aa,p9 aU,bh,show a[k]=b[k] by omega]
  obtain⟨r,ai,h2⟩:=this;unfold RS;rw[sH (by omega),ai]
  cases r with
  | inl u =>
   simp at h2;simp[h2]
  | inr c =>
   rcases h2 with ⟨rfl,h2⟩|⟨rfl,h2⟩
   ·simp[h2]
   ·simp[h2];omega
 ·rw[dw (by simp;omega)]
  by_cases h2:a.length<b.length
  ·have:=Ii bG aW h2;simp[h2,this]
  ·have:=Ii aW bG (by omega);rw[dA (by simp;omega),dA (by omega),dw this]
theorem acD:rl=sj:=rfl
theorem HJ {a b:ar}(bG:fS a)(aW:fS b)(aT:a.length<=5000000):rl a b=some (kZ (V a) (V b)):=vg bG aW aT
theorem E5 {x y:Int}(aa:0<=x/\x<1000000000)(aU:0<=y/\y<1000000000):0<=x*y/\x*y<=999999998000000001:=by have h1:=Int.mul_nonneg aa.1 aU.1;have h2:x*y<=999999999*999999999:=Int.mul_le_mul (by omega) (by omega) aU.1 (by omega);omega
theorem r5 {a b:Int}(h:0<=a):a.tmod b=a % b:=Int.tmod_eq_emod_of_nonneg h
theorem om {a b:Int}(h:0<=a):a.tdiv b=a / b:=Int.tdiv_eq_ediv_of_nonneg h
theorem Mj (k:Nat)(x:Int)(q:ar):(List.replicate (k+1) 0++q).set k x=List.replicate k 0++x::q:=by
 induction k with
 | zero=>rfl
 | succ k ih =>
  show (0::(List.replicate (k+1) 0++q)).set (k+1) x=_;rw[List.set_cons_succ,ih];rfl
theorem adv {a:ar}{d rest:Int}{row:ar}{k:Nat}{x:Int}(aa:a[k]? = some x)(jZ:0<=x/\x<1000000000)(bC:0<d/\d<1000000000)(ai:0<=rest/\rest<d)(d6:row.length=a.length)(aT:a.length<=1000000):
 Ax a d rest (k:Int) row=some (.inl ((rest*1000000000+x) % d,(k:Int)-1,row.set k ((rest*1000000000+x) / d))):=by
 have aX:=f5 aa;unfold Ax;rw[dw (by simp),dw (by omega),dy,aa];simp only[dC,dx];rw[dw (by omega),dw (by omega),dw (by omega),sH (by omega)];have h1:U (U (rest*1000000000)+x)=rest*1000000000+x:=by rw[cQ (x:=rest*1000000000) (by omega) (by omega)];exact cQ (by omega) (by omega)
 have h2:0<=rest*1000000000+x:=by omega
 have J:(rest*1000000000+x) / d<=rest*1000000000+x:=Int.ediv_le_self _ h2;have aj:0<=(rest*1000000000+x) / d:=Int.ediv_nonneg h2 (by omega);rw[h1,r5 h2,om h2,cQ (by omega) (by omega),dG]
theorem Tf {a:ar}{d:Int}(bG:cX a)(bC:0<d/\d<1000000000)(aT:a.length<=1000000):
 ∃r,KA a d 0 ((a.length:Int)-1) (List.replicate a.length 0)=some r/\r.1=V a % d/\cX r.2/\r.2.length=a.length/\V r.2=V a / d:=by
 refine jT (e9:=fun w:Int×Int×ar=> ∃(k:Nat) (q:ar),w.2.1=(k:Int)-1/\k<=a.length/\w.2.2=List.replicate k 0++q/\q.length+k=a.length/\cX q/\0<=w.1/\w.1<d/\V (a.drop k)=V q*d+w.1) (m:=fun w:Int×Int×ar=>(w.2.1+1).toNat) _ ?_ _ ⟨a.length,[],rfl,by omega,by simp,by simp,cX.nil,by omega,by omega,by simp[V]⟩;rintro⟨rest,i,row⟩ ⟨k,q,h1,aX,h2,aZ,rX,mx,ji,bh⟩;simp only at h1 h2 mx ji bh ⊢;subst h1 h2
 cases k with
 | zero =>
  refine .inr ⟨(rest,q),by simp[Ax],?_,rX,by simpa using aZ,?_⟩
  ·simp at bh;rw[bh,Int.add_comm,Int.add_mul_emod_self_right];exact(Int.emod_eq_of_lt mx ji).symm
  ·simp at bh;rw[bh,Int.add_comm,Int.add_mul_ediv_right _ _ (by omega),Int.ediv_eq_zero_of_lt mx ji];simp
 | succ k =>
  have aa:=dz (show k<a.length by omega);have jZ:=bG.get aa;rw[show ((k+1:Nat):Int)-1=k by omega,adv aa jZ bC ⟨mx,ji⟩ (by simp;omega) aT];refine .inl ⟨_,rfl,⟨k,(rest*1000000000+a[k]) / d::q,rfl,by omega,Mj _ _ _,by simp;omega,cX.cons ⟨Int.ediv_nonneg (by omega) (by omega),?_⟩ rX,Int.emod_nonneg _ (by omega),Int.emod_lt_of_pos _ bC.1,?_⟩,by simp⟩
  ·refine Int.ediv_lt_of_lt_mul bC.1 ?_;omega
  ·rw[p9 aa,bh,mn];have:=Int.mul_ediv_add_emod (rest*1000000000+a[k]) d;generalize (rest*1000000000+a[k]) / d=u at *;generalize (rest*1000000000+a[k]) % d=t at *;grind
theorem afj {a:ar}{d:Int}(bG:cX a)(bC:0<d/\d<1000000000)(aT:a.length<=1000000):DT a d=some (L (V a / d),V a % d):=by obtain⟨r,ai,h1,h2,J,aj⟩:=Tf bG bC aT;unfold DT;simp only[gu];rw[dw (by omega),sH (by omega),dy,ai];simp only[dC,dx];rw[uc h2 (by omega),h1,aj];rfl
theorem abH:QR=KA:=rfl
theorem Sq {a:ar}{d:Int}(bG:cX a)(bC:0<d/\d<1000000000)(aT:a.length<=1000000):Bn a d=some (L (V a / d),V a % d):=by obtain⟨r,ai,h1,h2,J,aj⟩:=Tf bG bC aT;unfold Bn;simp only[gu];rw[dw (by omega),sH (by omega),dy,abH,ai];simp only[dC,dx];rw[B4 h2 (by omega),h1,aj];rfl
theorem aea {b:ar}{i j:Nat}{x y z carry:Int}{row t26:ar}{t27:Int}(aU:b[j]? = some y)(cC:row[i+j]? = some z)(aa:0<=x/\x<1000000000)(pV:0<=y/\y<1000000000)(tB:0<=z/\z<1000000000)(aY:0<=carry/\carry<1000000000)(aT:row.length<=2000000):
 AX b i x t26 t27 b.length carry j row=some (.inl ((z+x*y+carry) / 1000000000,((j+1:Nat):Int),row.set (i+j) ((z+x*y+carry) % 1000000000))):=by
 have aq:=f5 aU;have rO:=f5 cC;obtain⟨jl,ik⟩:=E5 aa pV;unfold AX;have e:U ((i:Int)+(j:Int))=((i+j:Nat):Int):=by rw[cQ (by omega) (by omega)];rfl
 rw[dw (by simp;omega),dw (by omega),dy,aU];simp only[dC,dx,e,dy,dG];rw[dw (by omega),cC];simp only[dx];rw[dw (by omega),o6 (by omega),cQ (x:=x*y) (by omega) (by omega),cQ (x:=z+x*y) (by omega) (by omega),cQ (x:=z+x*y+carry) (by omega) (by omega),r5 (by omega),om (by omega),cQ (by omega) (by omega)]
theorem aeb {b:ar}{i:Nat}{x:Int}{row t26:ar}{t27:Int}(aW:cX b)(d6:cX row)(aa:0<=x/\x<1000000000)(aV:i+b.length<row.length)(aT:row.length<=2000000):
 ∃r,RU b i x t26 t27 b.length 0 0 row=some r/\0<=r.1/\r.1<1000000000/\cX r.2/\r.2.length=row.length/\V r.2+r.1*B (i+b.length)=V row+x*B i*V b/\ ∀j,i+b.length<=j->r.2[j]? = row[j]? := by
 refine jT (e9:=fun w:Int×Int×ar=> ∃(j:Nat),w.2.1=(j:Int)/\j<=b.length/\0<=w.1/\w.1<1000000000/\cX w.2.2/\w.2.2.length=row.length/\V w.2.2+w.1*B (i+j)=V row+x*B i*V (b.take j)/\ ∀j,i+b.length<=j->w.2.2[j]? = row[j]?) (m:=fun w:Int×Int×ar=>b.length-w.2.1.toNat) _ ?_ _ ⟨0,rfl,by omega,by simp,by simp,d6,rfl,by simp[V],fun _ _=>rfl⟩;rintro⟨carry,ajY,fm⟩ ⟨j,h1,aq,nI,n4,lo,hlen,bh,mr⟩;simp only at h1 nI n4 lo hlen bh mr ⊢;subst h1;by_cases aiW:j=b.length
 ·subst aiW;refine .inr ⟨(carry,fm),by simp[AX],nI,n4,lo,hlen,by simpa using bh,mr⟩
 ·have aU:=dz (show j<b.length by omega)
  have cC:=dz (show i+j<fm.length by omega);have pV:=aW.get aU;have tB:=lo.get cC;obtain⟨jl,ik⟩:=E5 aa pV;rw[aea aU cC aa pV tB ⟨nI,n4⟩ (by omega)];refine .inl ⟨_,rfl,⟨j+1,rfl,by omega,by simp only;omega,by simp only;omega,lo.set (by omega),by simpa using hlen,?_,fun ja uA=> ?_⟩,by simp;omega⟩
  ·simp only;rw[us cC,vd aU,<- Nat.add_assoc,nm];rw[Fk] at bh ⊢;have:=Int.mul_ediv_add_emod (fm[i+j]+x*b[j]+carry) 1000000000;generalize (fm[i+j]+x*b[j]+carry) / 1000000000=u at *;generalize (fm[i+j]+x*b[j]+carry) % 1000000000=t at *;grind
  ·rw[<- mr ja uA];exact List.getElem?_set_ne (by omega)
theorem LH {a b:ar}(bG:cX a)(aW:cX b)(aT:a.length<=1000000)(hm:b.length<=1000000):
 ∃r,Hk b a a.length 0 (List.replicate (a.length+b.length) 0)=some r/\cX r/\r.length=a.length+b.length/\V r=V a*V b:=by
 refine jT (e9:=fun w:Int×ar=> ∃(i:Nat),w.1=(i:Int)/\i<=a.length/\cX w.2/\w.2.length=a.length+b.length/\V w.2=V (a.take i)*V b/\ ∀j,i+b.length<=j->j<a.length+b.length->w.2[j]? = some 0) (m:=fun w:Int×ar=>a.length-w.1.toNat) _ ?_ _ ⟨0,rfl,by omega,cX.NJ _,by simp,by simp[V,MN],fun j _ h=>by simp[List.getElem?_replicate,h]⟩;rintro⟨ii,row⟩ ⟨i,h1,ab,lo,hlen,bh,h0⟩;simp only at h1 lo hlen bh h0 ⊢;subst h1;by_cases Gp:i=a.length
 ·subst Gp;refine .inr ⟨row,by simp[Dq],lo,hlen,by simpa using bh⟩
 ·have aa:=dz (show i<a.length by omega)
  have jZ:=bG.get aa;obtain⟨r,ai,nI,n4,ahZ,VM,FU,mr⟩:=aeb (i:=i) (t26:=a) (t27:=a.length) aW lo jZ (by omega) (by omega);have e:U ((i:Int)+(b.length:Int))=((i+b.length:Nat):Int):=(by rw[cQ (by omega) (by omega)];rfl);have cC:r.2[i+b.length]? = some 0:=(by rw[mr _ (dD _)];exact h0 _ (dD _) (by omega));refine .inl ⟨(((i+1:Nat):Int),r.2.set (i+b.length) r.1),?_,⟨i+1,rfl,by omega,ahZ.set ⟨nI,n4⟩,by simp;omega,?_,fun j alu aiX=> ?_⟩,by simp;omega⟩
  ·unfold Dq;rw[dw (by simp;omega),dw (by omega),dy,aa];simp only[dC,dx,gu];rw[ai];simp only[dx,e,dy,dG];rw[dw (by omega),dw (by omega),o6 (n:=i) (by omega)]
  ·simp only;rw[us cC,vd aa];grind
  ·simp only;rw[List.getElem?_set_ne (by omega),mr _ (by omega)];exact h0 _ (by omega) aiX
theorem mul_eq {a b:ar}(bG:cX a)(aW:cX b)(aT:a.length<=1000000)(hm:b.length<=1000000):i5 a b=some (L (V a*V b)):=by
 unfold i5;simp only[gu];by_cases h1:a=[]
 ·subst h1;simp[V,rv]
 ·by_cases h2:b=[]
  ·subst h2;simp[h1,V,rv]
  ·obtain⟨r,ai,J,aj,av⟩:=LH bG aW aT hm;have e:U ((a.length:Int)+(b.length:Int))=((a.length+b.length:Nat):Int):=(by rw[cQ (by omega) (by omega)];rfl);rw[dA (by simp[h1]),dA (by simp[h2]),e,dw (by omega),dy,ai];simp only[dC,dx];rw[uc J (by omega),av];rfl
theorem acZ:Se=Hk:=rfl
theorem acf:RG=Hk:=rfl
theorem EK {a b:ar}(bG:cX a)(aW:cX b)(aT:a.length<=1000000)(hm:b.length<=1000000):sm a b=some (L (V a*V b)):=by
 unfold sm;simp only[gu];by_cases h1:a=[]
 ·subst h1;simp[V,rv]
 ·by_cases h2:b=[]
  ·subst h2;simp[h1,V,rv]
  ·obtain⟨r,ai,J,aj,av⟩:=LH bG aW aT hm;have e:U ((a.length:Int)+(b.length:Int))=((a.length+b.length:Nat):Int):=(by rw[cQ (by omega) (by omega)];rfl);rw[dA (by simp[h1]),dA (by simp[h2]),e,dw (by omega),dy,acZ,ai];simp only[dC,dx];rw[B4 J (by omega),av];rfl
theorem Tg {a b:ar}(bG:cX a)(aW:cX b)(h1:a≠[])(h2:b≠[])(aT:a.length<=1000000)(hm:b.length<=1000000):
 ∃k r,Bx a b=some (k,r)/\k<=r.length/\r.length=a.length+b.length/\r.take k=L (V a*V b)/\cX r:=by
 obtain⟨r,ai,J,aj,av⟩:=LH bG aW aT hm;obtain⟨k,aX,aP,ba⟩:=ad9 J (by omega);refine⟨k,r,?_,aP,aj,by rw[ba,av],J⟩;unfold Bx;simp only[gu];have e:U ((a.length:Int)+(b.length:Int))=((a.length+b.length:Nat):Int):=by rw[cQ (by omega) (by omega)];rfl
 rw[dA (by simp[h1]),dA (by simp[h2]),e,dw (by omega),dy,acf,ai];simp only[dC,dx];rw[aX];rfl
theorem Fp {x:Int}(h1:0<=x)(h2:x<18446744073709551616):IntKind.wrap .u64 x=x:=by
 simp only[IntKind.wrap,IntKind.signed,IntKind.bits];have:((2:Int) ^ 64)=18446744073709551616:=by decide
 simp;omega
theorem ahv {x:Int}(h1:-9223372036854775808<=x)(h2:x<9223372036854775808):IntKind.wrap .i64 x=x:=cQ h1 h2
theorem fS.snoc {l:ar}{x:Int}(h:cX l)(aa:0<x/\x<1000000000):fS (l++[x]):=⟨h.append (cX.cons (by omega) cX.nil),fun y aU=>by rw[List.getLast?_append] at aU;simp at aU;omega⟩
theorem TL {N:Int}(gE:N<18446744073709551616){n:Int}{row:ar}(h:0<=n/\cX row/\V row+B row.length*n=N/\(n=0->fS row)/\((row.length=0/\n<18446744073709551616)\/(row.length=1/\n<20000000000)\/(row.length=2/\n<20)\/(row.length=3/\n=0)))(aT:0<n):
 (fun (n:Int) (row:ar)=>0<=n/\cX row/\V row+B row.length*n=N/\(n=0->fS row)/\((row.length=0/\n<18446744073709551616)\/(row.length=1/\n<20000000000)\/(row.length=2/\n<20)\/(row.length=3/\n=0))) (n / 1000000000) (row++[n % 1000000000]):=by
 obtain⟨h0,h1,h2,J,aj⟩:=h;refine⟨by omega,h1.append (cX.cons (by omega) cX.nil),?_,fun av=>fS.snoc h1 (by omega),?_⟩
 ·rw[yc,dF,List.length_singleton,nm,mn,Cp];have:=Int.mul_ediv_add_emod n 1000000000;generalize n / 1000000000=u at *;generalize n % 1000000000=t at *;grind
 ·rw[dF,List.length_singleton];omega
theorem BU {n:Int}(h:0<=n)(aT:n<9223372036854775808):t0 n=some (L n):=by
 have : ∃r,iter (fun w:Int×ar=>A3 w.1 w.2) (n,[])=some r/\r=L n:=by
  refine jT (e9:=fun w:Int×ar=>w.1<=n/\0<=w.1/\cX w.2/\V w.2+B w.2.length*w.1=n/\(w.1=0->fS w.2)/\((w.2.length=0/\w.1<18446744073709551616)\/(w.2.length=1/\w.1<20000000000)\/(w.2.length=2/\w.1<20)\/(w.2.length=3/\w.1=0))) (m:=fun w:Int×ar=>w.1.toNat) _ ?_ _ ⟨Int.le_refl _,h,cX.nil,by simp[V,B],fun _=>fS.nil,.inl ⟨rfl,by simp only;omega⟩⟩;rintro⟨m,row⟩ ⟨hm,cZ⟩;simp only at hm cZ;obtain⟨h0,h1,h2,J,aj⟩:=id cZ;by_cases kI:0<m
  ·have:=TL (by omega) cZ kI;refine .inl ⟨(m / 1000000000,row++[m % 1000000000]),?_,⟨by simp only;omega,this⟩,by simp only;omega⟩;unfold A3;rw[dw (by simp;omega),r5 (by omega),om (by omega),dw (by simp;omega),cQ (by omega) (by omega)]
  ·refine .inr ⟨row,by simp[A3,kI],?_⟩;have pf:m=0:=(by omega);refine wJ (J pf) ?_;rw[pf] at h2;simpa using h2
 obtain⟨r,ai,rfl⟩:=this;unfold t0 Sb;rw[ai];rfl
theorem Lt {n:Int}(h:0<=n)(aT:n<18446744073709551616):xR n=some (L n):=by
 have : ∃r,iter (fun w:Int×ar=>AG w.1 w.2) (n,[])=some r/\r=L n:=by
  refine jT (e9:=fun w:Int×ar=>w.1<=n/\0<=w.1/\cX w.2/\V w.2+B w.2.length*w.1=n/\(w.1=0->fS w.2)/\((w.2.length=0/\w.1<18446744073709551616)\/(w.2.length=1/\w.1<20000000000)\/(w.2.length=2/\w.1<20)\/(w.2.length=3/\w.1=0))) (m:=fun w:Int×ar=>w.1.toNat) _ ?_ _ ⟨Int.le_refl _,h,cX.nil,by simp[V,B],fun _=>fS.nil,.inl ⟨rfl,by simp only;omega⟩⟩;rintro⟨m,row⟩ ⟨hm,cZ⟩;simp only at hm cZ;obtain⟨h0,h1,h2,J,aj⟩:=id cZ;by_cases kI:0<m
  ·have:=TL (by omega) cZ kI;refine .inl ⟨(m / 1000000000,row++[m % 1000000000]),?_,⟨by simp only;omega,this⟩,by simp only;omega⟩;unfold AG;rw[dw (by simp;omega),r5 (by omega),om (by omega),ahv (x:=m % 1000000000) (by omega) (by omega),dw (by simp;omega),Fp (by omega) (by omega)]
  ·refine .inr ⟨row,by simp[AG,kI],?_⟩;have pf:m=0:=(by omega);refine wJ (J pf) ?_;rw[pf] at h2;simpa using h2
 obtain⟨r,ai,rfl⟩:=this;unfold xR RC;rw[ai];rfl
def ql (x:Int):Bool:=decide (0<=x) && decide (x<1000000000)
theorem Mk (l:ar):l.all ql=true↔cX l:=by simp[ql,cX]
theorem Lu {a:ar}(h:a≠[]): ∃x,a[a.length-1]? = some x/\(fS a↔cX a/\x≠0):=by
 have ah:=List.length_pos_iff.mpr h;refine⟨a[a.length-1],dz (by omega),?_⟩;have e:a.getLast? = some a[a.length-1]:=by rw[List.getLast?_eq_getElem?];exact dz (by omega)
 constructor
 ·exact fun h=>⟨h.1,h.2 _ e⟩
 ·refine fun h=>⟨h.1,fun x aa=> ?_⟩;rw[e] at aa;rw[<- dI aa];exact h.2
theorem VZ {a:ar}(h:a≠[])(hm:(a.length:Int)<9223372036854775807):U ((a.length:Int)-1)=((a.length-1:Nat):Int):=by have ah:=List.length_pos_iff.mpr h;rw[cQ (by omega) (by omega)];omega
theorem adw (x:Int):nB x 0 999999999=some (ql x):=by
 unfold nB ql;by_cases h:0<=x
 ·simp[h];omega
 ·simp[h]
theorem HK {a:ar}(hm:(a.length:Int)<9223372036854775807): ∃ok,ua a=some ok/\(ok=true↔fS a/\a.length<=60):=by
 have h1:iter (fun w:Int=>A4 a a.length w) 0=some (if a.all ql then .inl () else .inr ()):=by refine L0 a ql (fun n x aa=> ?_) (by simp[A4]);have:=f5 aa;unfold A4;rw[dw (by simp;omega),dw (by omega),dy,aa];simp only[dC,dx,adw];rw[i1 (by omega)];cases ql x<;>rfl
 unfold ua Sc;simp only[gu];rw[h1];by_cases rb:a.all ql=true
 ·have FP:=(Mk a).1 rb
  simp only[rb,if_true,dC,dx];by_cases qz:a.length<=60
  ·rw[dw (by simp;omega)]
   by_cases h0:a=[]
   ·subst h0;exact⟨true,rfl,by simp[fS.nil]⟩
   ·obtain⟨x,aa,aT⟩:=Lu h0;have ah:=List.length_pos_iff.mpr h0;rw[dA (by simp[h0]),VZ h0 hm,dw (by omega),dy,aa];refine⟨_,rfl,?_⟩;rw[aT];simp[FP,qz]
  ·rw[dA (by simp;omega)];exact⟨false,rfl,by simp;omega⟩
 ·have FP : ¬cX a:=fun h=>rb ((Mk a).2 h);simp only[Bool.not_eq_true] at rb;refine⟨false,by simp[rb],?_⟩;simp only[Bool.false_eq_true,false_iff];exact fun h=>FP h.1.1
theorem adx (x:Int):Eg x=some (!ql x):=by
 unfold Eg ql;by_cases h:x<0
 ·simp[h]
 ·rw[dA (by simp[h])];congr 1;rw[Bool.eq_iff_iff];simp;omega
theorem SL {a:ar}(hm:(a.length:Int)<9223372036854775807):z3 a=some (!(a.all ql)):=by
 obtain⟨r,ai,h⟩:=TG (f:=fun w:Int=>zR a a.length w) a (fun x=> !ql x) (fun n x aa=>by have:=f5 aa;unfold zR;rw[dw (by simp;omega),dw (by omega),dy,aa];simp only[dC,dx,adx];rw[i1 (by omega)];cases ql x<;>rfl) (by simp[zR]);have e:a.any (fun x=> !ql x) = !(a.all ql):=by rw[List.not_all_eq_any_not]
 rw[e] at h;unfold z3 G5 O7;simp only[gu];rw[ai];rcases h with ⟨k,rfl,aX,h⟩|⟨rfl,h⟩
 ·simp only[dC,dx];rw[h];simp[aX]
 ·simp only[dC,dx];rw[h];rfl
theorem ady {a:ar}(hm:(a.length:Int)<9223372036854775807): ∃ok,x3 a=some ok/\(ok=true↔fS a/\a.length<=60):=by
 unfold x3;simp only[gu];by_cases qz:60<a.length
 ·rw[dw (by simp;omega)];exact⟨false,rfl,by simp;omega⟩
 ·rw[dA (by simp;omega)]
  by_cases h0:a=[]
  ·subst h0;exact⟨true,by simp[SL],by simp[fS.nil]⟩
  ·obtain⟨x,aa,aT⟩:=Lu h0
   have ah:=List.length_pos_iff.mpr h0;rw[dw (by simp;omega),VZ h0 hm,dw (by omega),dy,aa];simp only[dC,dx];rw[aT];by_cases jZ:x=0
   ·exact⟨false,by simp[jZ],by simp[jZ]⟩
   ·rw[dA (by simp[jZ]),SL hm];refine⟨_,rfl,?_⟩;rw[<- Mk];simp[jZ];omega
theorem Th {a:ar}(hm:(a.length:Int)<9223372036854775807): ∃ok,ua a=some ok/\x3 a=some ok/\(ok=true↔fS a/\a.length<=60):=by obtain⟨bQ,h1,h2⟩:=HK hm;obtain⟨aN,J,aj⟩:=ady hm;have:aN=bQ:=Bool.eq_iff_iff.mpr (aj.trans h2.symm);exact⟨bQ,h1,this▸J,h2⟩
theorem SM {a:ar}(bG:fS a)(qz:a.length<=60)(bh:V a<9223372036854775808):Br a=some (V a,true):=by
 obtain⟨ok,h1,h2⟩:=HK (a:=a) (by omega);have lk:ok=true:=h2.2 ⟨bG,qz⟩;subst lk;have aY:fS [854775807,223372036,9]:=⟨by intro x aa;simp at aa;omega,by simp⟩;have NV:V [854775807,223372036,9]=9223372036854775807:=by decide
 unfold Br;rw[h1];simp only[dC,dx,if_true];rw[vg bG aY (by omega),NV]
 have : ∃r,iter (fun w:Int×Int=>Av a w.1 w.2) (0,(a.length:Int)-1)=some r/\r=V a:=by
  refine jT (e9:=fun w:Int×Int=> ∃k:Nat,w.2=(k:Int)-1/\k<=a.length/\w.1=V (a.drop k)) (m:=fun w:Int×Int=>(w.2+1).toNat) _ ?_ _ ⟨a.length,rfl,by omega,by simp[V]⟩;rintro⟨n,i⟩ ⟨k,J,aX,aj⟩;simp only at J aj;subst J aj
  cases k with
  | zero=>exact .inr ⟨V a,by simp[Av],rfl⟩
  | succ k =>
   have aa:=dz (show k<a.length by omega);have jZ:=bG.1.get aa;have av:=p9 aa;have aP:=l4 (bG.1.drop (k+1));have ba:V (a.drop k)<=V a:=(by have bd:=yj (l:=a) (n:=k) (by omega);have b9:=l4 (bG.1.take k);have cG:=l4 (bG.1.drop k);have dv:1*V (a.drop k)<=B k*V (a.drop k):=Int.mul_le_mul_of_nonneg_right (o1 k) cG;omega);refine .inl ⟨(V (a.drop k),(k:Int)-1),?_,⟨k,rfl,by omega,rfl⟩,by simp only;omega⟩;unfold Av;rw[show ((k+1:Nat):Int)-1=k by omega,dw (by simp),dw (by omega),dy,aa];simp only[dC,dx];rw[sH (by omega),cQ (x:=V (a.drop (k+1))*1000000000) (by omega) (by omega),cQ (by omega) (by omega),av];congr 3;omega
 obtain⟨r,ai,rfl⟩:=this;unfold kZ Re;simp only[gu];rw[sH (by omega),ai];have J : ¬(9223372036854775807:Int)<V a:=by omega
 by_cases aj:V a<9223372036854775807<;>simp[J,aj]
theorem afk {a b row:ar}{less x:Int}{i:Nat}(aW:cX b)(aa:a[i]? = some x)(jZ:0<=x/\x<1000000000)(aV:less=0\/less=1)(aT:a.length<=1000000)(hm:b.length<=1000000)(ai:row.length<=1000000):
 ∃y,0<=y/\y<1000000000/\(∀z,b[i]? = some z->y=z)/\(b[i]? = none->y=0) /\
 xz a b a.length less i row=some (.inl (if x-less-y<0 then (1,((i+1:Nat):Int),row++[x-less-y+1000000000]) else (0,((i+1:Nat):Int),row++[x-less-y]))):=by
 have ab:=f5 aa;unfold xz;rw[dw (by simp;omega),dw (by omega),dy,aa];simp only[dC,dx,gu];by_cases Xa:i<b.length
 ·have aU:=dz Xa
  have pV:=aW.get aU;refine⟨b[i],pV.1,pV.2,fun z cC=>by rw[aU] at cC;exact dI cC,fun h=>by rw[aU] at h;simp at h,?_⟩;rw[dw (by simp;omega),dw (by omega),aU];simp only[dx];rw[cQ (x:=x-less) (by omega) (by omega),cQ (x:=x-less-b[i]) (by omega) (by omega),o6 (n:=i) (by omega),cQ (x:=x-less-b[i]+1000000000) (by omega) (by omega)];by_cases h:x-less-b[i]<0
  ·rw[dw (by simp[h]),dw (by simp;omega)];simp[h]
  ·rw[dA (by simp[h]),dw (by simp;omega)];simp[h]
 ·have aU:b[i]? = none:=by simp;omega
  refine⟨0,by omega,by omega,fun z cC=>by rw[aU] at cC;simp at cC,fun _=>rfl,?_⟩;rw[dA (by simp;omega),cQ (x:=x-less) (by omega) (by omega),o6 (n:=i) (by omega),cQ (x:=x-less+1000000000) (by omega) (by omega),Int.sub_zero];by_cases h:x-less<0
  ·rw[dw (by simp[h]),dw (by simp;omega)];simp[h]
  ·rw[dA (by simp[h]),dw (by simp;omega)];simp[h]
theorem Uk {b:ar}{i:Nat}{y:Int}(h1:∀z,b[i]? = some z->y=z)(h2:b[i]? = none->y=0):V (b.take (i+1))=V (b.take i)+B i*y:=by
 cases h:b[i]? with
 | some z=>rw[h1 z h,vd h]
 | none =>
  rw[h2 h];have:b.length<=i:=(by simpa using h);rw[List.take_of_length_le (by omega),List.take_of_length_le (by omega)];simp
theorem sub_eq {a b:ar}(bG:cX a)(aW:cX b)(hlen:b.length<=a.length)(wX:V b<=V a)(aT:a.length<=1000000):u2 a b=some (L (V a-V b)):=by
 have : ∃r,iter (fun w:Int×Int×ar=>xz a b a.length w.1 w.2.1 w.2.2) (0,0,[])=some r/\cX r/\r.length=a.length/\V r=V a-V b:=by
  refine jT (e9:=fun w:Int×Int×ar=> ∃i:Nat,w.2.1=i/\i<=a.length/\(w.1=0\/w.1=1)/\cX w.2.2/\w.2.2.length=i/\V w.2.2-w.1*B i=V (a.take i)-V (b.take i)) (m:=fun w:Int×Int×ar=>a.length-w.2.1.toNat) _ ?_ _ ⟨0,rfl,by omega,.inl rfl,cX.nil,rfl,by simp[V]⟩;rintro⟨less,ii,row⟩ ⟨i,h1,ab,aV,lo,tN,bh⟩;simp only at h1 aV lo tN bh ⊢;subst h1;by_cases Gp:i=a.length
  ·refine .inr ⟨row,by simp[xz,Gp],lo,by omega,?_⟩;rw[Gp] at bh;rw[List.take_length,List.take_of_length_le hlen] at bh;have h2:=nW lo;rw[tN,Gp] at h2;rcases aV with rfl|rfl<;>omega
  ·have aa:=dz (show i<a.length by omega)
   have jZ:=bG.get aa;obtain⟨y,Gq,Gr,aiY,aiZ,he⟩:=afk (row:=row) aW aa jZ aV aT (by omega) (by omega);rw[he];refine .inl ⟨_,rfl,?_⟩;have J:=vd aa;have aj:=Uk aiY aiZ;by_cases h:a[i]-less-y<0
   ·rw[dw h];refine⟨⟨i+1,rfl,by omega,.inr rfl,lo.append (cX.cons (by omega) cX.nil),by simp[tN],?_⟩,by simp only;omega⟩;simp only;rw[J,aj,yc,tN,nm,mn,Cp];grind
   ·rw[dA h];refine⟨⟨i+1,rfl,by omega,.inl rfl,lo.append (cX.cons (by omega) cX.nil),by simp[tN],?_⟩,by simp only;omega⟩;simp only;rw[J,aj,yc,tN,mn,Cp];grind
 obtain⟨r,ai,h1,h2,J⟩:=this;unfold u2 RT;simp only[gu];rw[ai];simp only[dC,dx];rw[uc h1 (by omega),J];rfl
theorem ud {l:ar}(h:cX l){k:Nat}(aX:k<=l.length):B k*V (l.drop k)<=V l/\V l<B k*(V (l.drop k)+1):=by have h1:=yj aX;have h2:=l4 (h.take k);have J:=nW (h.take k);rw[List.length_take,Nat.min_eq_left aX] at J;rw[Int.mul_add,Int.mul_one];omega
theorem EL {l:ar}{k:Nat}{x:Int}(aa:l[k]? = some x)(aV:l.length=k+1):V (l.drop k)=x:=by rw[p9 aa,List.drop_of_length_le (by omega)];simp[V]
theorem Sr {a0 W t d P:Int}(gb:1<=P)(Jy:P*t<=a0)(NW:a0<P*(t+1))(w0:P*d<=W)(Jz:W<P*(d+1))(bC:0<d)(cg:0<=t)(NX:a0<1000000000*W):t / (d+1)<=a0 / W/\a0 / W<=t / d/\a0 / W<=999999999:=by
 have hW:0<W:=by have:=Int.mul_pos (a:=P) (b:=d) (by omega) bC;omega
 have dg:0<=a0:=by have:=Int.mul_nonneg (a:=P) (b:=t) (by omega) cg;omega
 refine⟨?_,?_,?_⟩
 ·apply (Int.le_ediv_iff_mul_le hW).2;have h1:t / (d+1)*(d+1)<=t:=Int.ediv_mul_le _ (by omega);have h2:0<=t / (d+1):=Int.ediv_nonneg cg (by omega);have J:t / (d+1)*W<=t / (d+1)*(P*(d+1)):=dK (by omega) h2;have aj:P*(t / (d+1)*(d+1))<=P*t:=dK h1 (by omega);have av:t / (d+1)*(P*(d+1))=P*(t / (d+1)*(d+1)):=(by grind);omega
 ·apply (Int.le_ediv_iff_mul_le bC).2;have h1:a0 / W*W<=a0:=Int.ediv_mul_le _ (by omega);have h2:0<=a0 / W:=Int.ediv_nonneg dg (by omega);have J:a0 / W*(P*d)<=a0 / W*W:=dK w0 h2;have aj:a0 / W*(P*d)=P*(a0 / W*d):=(by grind);have av:P*(a0 / W*d)<P*(t+1):=(by omega);have:=Int.lt_of_mul_lt_mul_left av (by omega);omega
 ·have:=Int.ediv_lt_of_lt_mul hW NX;omega
theorem US {a b:Int}:kZ a b<=0↔a<=b:=by
 unfold kZ;by_cases h:a<b
 ·simp[h];omega
 ·by_cases h2:b<a
  ·simp[h,h2]
  ·simp[h,h2];omega
theorem wt {a b:Int}:kZ a b<0↔a<b:=by
 unfold kZ;by_cases h:a<b
 ·simp[h]
 ·by_cases h2:b<a
  ·simp[h,h2]
  ·simp[h,h2]
theorem LI {a b:Int}:kZ a b=0↔a=b:=by
 unfold kZ;by_cases h:a<b
 ·simp[h];omega
 ·by_cases h2:b<a
  ·simp[h,h2];omega
  ·simp[h,h2];omega
theorem Ti {r b:ar}(ai:fS r)(aW:fS b)(mz:b≠[])(aT:r.length<=1000000)(hm:b.length<=1000000){b6 ab:Int}(h0:0<=b6)(h1:b6<=V r / V b)(h2:V r / V b<=ab)(J:ab<=999999999):KB r b b6 ab=some (V r / V b):=by
 have kB:=tw aW mz
 have : ∃q,iter (fun w:Int×Int=>xr r b w.1 w.2) (b6,ab)=some q/\q=V r / V b:=by
  refine jT (e9:=fun w:Int×Int=>0<=w.1/\w.1<=V r / V b/\V r / V b<=w.2/\w.2<=999999999) (m:=fun w:Int×Int=>(w.2-w.1).toNat) _ ?_ _ ⟨h0,h1,h2,J⟩;rintro⟨l,h⟩ ⟨g0,g1,g2,g3⟩;simp only at g0 g1 g2 g3;by_cases ep:l<h
  ·have e1:U ((U ((U (l+h))+(1:Int))).tdiv (2:Int))=(l+h+1) / 2:=by
    rw[cQ (x:=l+h) (by omega) (by omega),cQ (x:=l+h+1) (by omega) (by omega),om (by omega),cQ (by omega) (by omega)]
   have pf:0<=(l+h+1) / 2:=(by omega);have q8:(l+h+1) / 2<1000000000:=(by omega);have WJ:(L ((l+h+1) / 2)).length<=1:=(hJ pf).2 (by simpa [B] using q8)
   have e2:xr r b l h=some (.inl (if V b*((l+h+1) / 2)<=V r then ((l+h+1) / 2,h) else (l,(l+h+1) / 2-1))):=by
    unfold xr;rw[dw (by simp[ep]),e1,BU pf (by omega)];simp only[dC,dx];rw[mul_eq aW.1 (hB _) hm (by omega),d9 pf];simp only[dx];have ah:0<=V b*((l+h+1) / 2):=Int.mul_nonneg (by omega) pf;have hlen:(L (V b*((l+h+1) / 2))).length<=b.length+1:=(hJ ah).2 (by rw[nm];have av:=nW aW.1;have:V b*((l+h+1) / 2)<=V b*1000000000:=dK (by omega) (by omega);omega);rw[vg (iw _) ai (by omega),d9 ah];simp only[dx];by_cases aY:V b*((l+h+1) / 2)<=V r
    ·rw[dw (by simpa using US.2 aY),dw aY]
    ·rw[dA (fun h=>aY (US.1 (by simpa using h))),dA aY,cQ (by omega) (by omega)]
   rw[e2];refine .inl ⟨_,rfl,?_⟩;by_cases aY:V b*((l+h+1) / 2)<=V r
   ·rw[dw aY];have:(l+h+1) / 2<=V r / V b:=(Int.le_ediv_iff_mul_le kB).2 (by rw[Int.mul_comm];exact aY);exact⟨⟨by simp only;omega,this,g2,g3⟩,by simp only;omega⟩
   ·rw[dA aY];have:V r / V b<(l+h+1) / 2:=(Int.ediv_lt_iff_lt_mul kB).2 (by rw[Int.mul_comm];omega);exact⟨⟨g0,g1,by simp only;omega,by simp only;omega⟩,by simp only;omega⟩
  ·exact .inr ⟨l,by simp[xr,ep],by omega⟩
 obtain⟨q,aZ,rfl⟩:=this;exact aZ
theorem IE {b:ar}(aW:fS b)(mz:b≠[]): ∃k d,b.length=k+1/\b[k]? = some d/\0<d/\d<1000000000/\V (b.drop k)=d:=by have ah:=List.length_pos_iff.mpr mz;obtain⟨x,aa,h⟩:=Lu mz;have h1:=h.1 aW;have h2:=h1.1.get aa;exact⟨b.length-1,x,by omega,aa,by omega,h2.2,EL aa (by omega)⟩
theorem afl {r b:ar}(ai:fS r)(aW:fS b)(mz:b≠[])(aT:r.length<=1000000)(hm:b.length<=1000000)(h1:V b<=V r)(h2:V r<1000000000*V b):DU r b=some (V r / V b):=by
 obtain⟨k,d,aX,bC,sO,sY,w1⟩:=IE aW mz;have WA:b.length<=r.length:=Nat.le_of_not_lt fun h=>by have:=Ii ai aW h;omega
 have WB:r.length<=b.length+1:=ai.len.2 (by have:=nW aW.1;rw[nm];omega);have wR:=ud aW.1 (k:=k) (by omega);rw[w1] at wR;have ji:=ud ai.1 (k:=k) (by omega);have aa:=dz (show k<r.length by omega);have jZ:=ai.1.get aa;have hw:U ((b.length:Int)-1)=(k:Int):=by rw[cQ (by omega) (by omega)];omega
 have nM:=l4 (ai.1.drop k);have JA:=Sr (o1 k) ji.1 ji.2 wR.1 wR.2 sO nM h2;have alv:=l4 ai.1;have hW:=tw aW mz;unfold DU;simp only[gu,hw];rw[dw (by omega),dy,aa];simp only[dC,dx];by_cases hlen:b.length<r.length
 ·have aU:=dz hlen;have pV:=ai.1.get aU;have ph:V (r.drop (k+1))=r[b.length]:=(by rw[<- aX];exact EL aU (by omega));have cg:V (r.drop k)=r[k]+1000000000*r[b.length]:=(by rw[p9 aa,ph]);rw[cg] at JA nM;have mv:0<=(r[k]+1000000000*r[b.length]) / (d+1):=Int.ediv_nonneg nM (by omega);have pL:(r[k]+1000000000*r[b.length]) / (d+1)<=r[k]+1000000000*r[b.length]:=Int.ediv_le_self _ nM;have CA:0<=(r[k]+1000000000*r[b.length]) / d:=Int.ediv_nonneg nM (by omega);have ai0:(r[k]+1000000000*r[b.length]) / d<=r[k]+1000000000*r[b.length]:=Int.ediv_le_self _ nM;rw[dw (by simp;omega),dw (by omega),dy,aU];simp only[dx];rw[dw (by omega),bC];simp only[dx];have e1:U (d+1)=d+1:=cQ (by omega) (by omega);have e2:U (r[k]+U (r[b.length]*1000000000))=r[k]+1000000000*r[b.length]:=(by rw[cQ (x:=r[b.length]*1000000000) (by omega) (by omega),cQ (by omega) (by omega),Int.mul_comm]);rw[e1,dw (by omega),dw (by omega),e2,om nM,om nM,cQ (by omega) (by omega),cQ (x:=(r[k]+1000000000*r[b.length]) / d) (by omega) (by omega)];rw[Ti ai aW mz aT hm mv JA.1 (by split<;>omega) (by split<;>omega)];rfl
 ·have cg:V (r.drop k)=r[k]:=EL aa (by omega);rw[cg] at JA nM;have mv:0<=r[k] / (d+1):=Int.ediv_nonneg nM (by omega);have pL:r[k] / (d+1)<=r[k]:=Int.ediv_le_self _ nM;have CA:0<=r[k] / d:=Int.ediv_nonneg nM (by omega);have ai0:r[k] / d<=r[k]:=Int.ediv_le_self _ nM;rw[dA (by simp;omega),dw (by omega),bC];simp only[dx];have e1:U (d+1)=d+1:=cQ (by omega) (by omega);rw[e1,dw (by omega),dw (by omega),om nM,om nM,cQ (by omega) (by omega),cQ (x:=r[k] / d) (by omega) (by omega)];rw[Ti ai aW mz aT hm mv JA.1 (by split<;>omega) (by split<;>omega)];rfl
theorem afm {a b:ar}(bG:fS a)(aW:fS b)(mz:b≠[])(aT:a.length<=900000)(hm:b.length<=900000):
 ∃r,RV a b [] ((a.length:Int)-1) (List.replicate a.length 0)=some r/\r.1=L (V a % V b)/\cX r.2/\r.2.length=a.length/\V r.2=V a / V b:=by
 have kB:=tw aW mz;refine jT (e9:=fun w:ar×Int×ar=> ∃(k:Nat) (q:ar),w.2.1=(k:Int)-1/\k<=a.length/\w.2.2=List.replicate k 0++q/\q.length+k=a.length/\cX q/\fS w.1/\V w.1<V b/\V (a.drop k)=V q*V b+V w.1) (m:=fun w:ar×Int×ar=>(w.2.1+1).toNat) _ ?_ _ ⟨a.length,[],rfl,by omega,by simp,by simp,cX.nil,fS.nil,by simpa [V] using kB,by simp[V]⟩;rintro⟨rest,i,row⟩ ⟨k,q,h1,aX,h2,aZ,rX,mx,ji,bh⟩;simp only at h1 h2 mx ji bh ⊢;subst h1 h2;have Gs:=l4 mx.1
 cases k with
 | zero =>
  simp at bh;refine .inr ⟨(rest,q),by simp[AY],?_,rX,by simpa using aZ,?_⟩
  ·refine wJ mx ?_;rw[bh,Int.add_comm,Int.add_mul_emod_self_right];exact(Int.emod_eq_of_lt Gs ji).symm
  ·rw[bh,Int.add_comm,Int.add_mul_ediv_right _ _ (by omega),Int.ediv_eq_zero_of_lt Gs ji];simp
 | succ k =>
  have aa:=dz (show k<a.length by omega);have jZ:=bG.1.get aa;have tN:rest.length<=b.length:=mx.len.2 (by have:=nW aW.1;omega);have i7:cX (a[k]::rest):=cX.cons jZ mx.1;have NV:V (a[k]::rest)=a[k]+1000000000*V rest:=mn _ _;have qA:0<=a[k]+1000000000*V rest:=(by omega);have alw:(L (a[k]+1000000000*V rest)).length<=b.length+1:=(hJ qA).2 (by have:=nW aW.1;rw[nm];omega);have bC:=p9 aa
  have MR:AY a b rest (k:Int) (List.replicate (k+1) 0++q)=some (.inl (if a[k]+1000000000*V rest<V b then (L (a[k]+1000000000*V rest),(k:Int)-1,List.replicate (k+1) 0++q) else (L ((a[k]+1000000000*V rest) % V b),(k:Int)-1,(List.replicate (k+1) 0++q).set k ((a[k]+1000000000*V rest) / V b)))):=by
   unfold AY;rw[dw (by simp),dw (by omega),dy,aa];simp only[dC,dx,List.singleton_append];rw[dw (by simp;omega),uc i7 (by simp;omega),NV];simp only[dx];rw[vg (iw _) aW (by omega),d9 qA];simp only[dx];by_cases aY:a[k]+1000000000*V rest<V b
   ·rw[dw (by simpa using wt.2 aY),dw aY,sH (by omega)]
   ·rw[dA (fun h=>aY (wt.1 (by simpa using h))),dA aY];have ep:a[k]+1000000000*V rest<1000000000*V b:=(by omega);rw[afl (iw _) aW mz (by omega) (by omega) (by rw[d9 qA];omega) (by rw[d9 qA];exact ep),d9 qA];simp only[dx];have mv:0<=(a[k]+1000000000*V rest) / V b:=Int.ediv_nonneg qA (by omega);have pL:(a[k]+1000000000*V rest) / V b<1000000000:=Int.ediv_lt_of_lt_mul kB ep;have alx:(L ((a[k]+1000000000*V rest) / V b)).length<=1:=(hJ mv).2 (by simpa [B] using pL);have q8:=Int.mul_ediv_add_emod (a[k]+1000000000*V rest) (V b);have Gt:=Int.emod_nonneg (a[k]+1000000000*V rest) (b:=V b) (by omega);have Gu:0<=V b*((a[k]+1000000000*V rest) / V b):=Int.mul_nonneg (by omega) mv;rw[dw (by simp;omega),dw (by simp;omega),BU mv (by omega)];simp only[dx];rw[mul_eq aW.1 (hB _) (by omega) (by omega),d9 mv];simp only[dx];rw[sub_eq (hB _) (hB _) ((hJ Gu).2 (by have:=nW (hB (a[k]+1000000000*V rest));rw[d9 qA] at this;omega)) (by rw[d9 qA,d9 Gu];omega) (by omega),d9 qA,d9 Gu];simp only[dx];rw[sH (by omega),dG];congr 4;omega
  rw[show ((k+1:Nat):Int)-1=k by omega,MR];refine .inl ⟨_,rfl,?_⟩;by_cases aY:a[k]+1000000000*V rest<V b
  ·rw[dw aY]
   refine⟨⟨k,0::q,rfl,by omega,?_,by simp;omega,cX.cons (by omega) rX,iw _,by rw[d9 qA];exact aY,?_⟩,by simp⟩
   ·simp only;rw[List.replicate_succ',List.append_assoc];rfl
   ·simp only;rw[bC,bh,mn,d9 qA];grind
  ·rw[dA aY];have ep:a[k]+1000000000*V rest<1000000000*V b:=(by omega);have Gt:=Int.emod_nonneg (a[k]+1000000000*V rest) (b:=V b) (by omega);refine⟨⟨k,(a[k]+1000000000*V rest) / V b::q,rfl,by omega,Mj _ _ _,by simp;omega,cX.cons ⟨Int.ediv_nonneg qA (by omega),Int.ediv_lt_of_lt_mul kB ep⟩ rX,iw _,by rw[d9 Gt];exact Int.emod_lt_of_pos _ kB,?_⟩,by simp⟩;simp only;rw[bC,bh,mn,d9 Gt];have q8:=Int.mul_ediv_add_emod (a[k]+1000000000*V rest) (V b);generalize (a[k]+1000000000*V rest) / V b=u at *;generalize (a[k]+1000000000*V rest) % V b=t at *;grind
theorem div_eq {a b:ar}(bG:fS a)(aW:fS b)(mz:b≠[])(aT:a.length<=900000)(hm:b.length<=900000):we a b=some (L (V a / V b),L (V a % V b)):=by
 unfold we;simp only[gu];by_cases h1:b.length=1
 ·obtain⟨k,d,aX,bC,sO,sY,w1⟩:=IE aW mz;have vF:k=0:=(by omega);subst vF;have NY:V b=d:=(by simpa using w1);rw[dw (by simp[h1]),dw (by omega),bC];simp only[dC,dx];have q8:=Int.emod_nonneg (V a) (b:=d) (by omega);have Gt:=Int.emod_lt_of_pos (V a) sO;rw[afj bG.1 ⟨sO,sY⟩ (by omega)];simp only[dx];rw[BU q8 (by omega),NY];rfl
 ·obtain⟨r,ai,e1,e2,bN,c0⟩:=afm bG aW mz aT hm;rw[dA (by simp;omega),dw (by omega),sH (by omega),dy,ai];simp only[dC,dx];rw[uc e2 (by omega),c0,e1];rfl
theorem L2 {x y:Int}(aa:0<=x):Int.gcd y (x % y)=Int.gcd x y:=by have:=Nat.gcd_rec y.natAbs x.natAbs;simp only[Int.gcd];rw[Nat.gcd_comm x.natAbs,this,Int.natAbs_emod_of_nonneg aa,Nat.gcd_comm]
theorem Im {x:Int}(aa:0<=x):(Int.gcd x 0:Int)=x:=by rw[Int.gcd_zero_right];omega
theorem afn {x y:Int}(aa:0<=x)(aU:0<=y)(Gv:x<9223372036854775808)(Gq:y<9223372036854775808):DS x y=some (L (Int.gcd x y)):=by
 have : ∃r,iter (fun w:Int×Int=>Aw w.1 w.2) (x,y)=some r/\(r=(Int.gcd x y:Int)/\r<9223372036854775808):=by
  refine jT (e9:=fun w:Int×Int=>0<=w.1/\0<=w.2/\w.1<9223372036854775808/\w.2<9223372036854775808/\Int.gcd w.1 w.2=Int.gcd x y) (m:=fun w:Int×Int=>w.2.toNat) _ ?_ _ ⟨aa,aU,Gv,Gq,rfl⟩;rintro⟨u,v⟩ ⟨h1,h2,J,aj,av⟩;simp only at h1 h2 J aj av;by_cases bh:0<v
  ·have aP:=Int.emod_nonneg u (b:=v) (by omega);have ba:=Int.emod_lt_of_pos u bh;refine .inl ⟨(v,u % v),?_,⟨h2,aP,aj,by simp only;omega,by rw[<- av];exact L2 h1⟩,by simp only;omega⟩;unfold Aw;rw[dw (by simpa using bh),dw (by omega),r5 h1]
  ·have W2:v=0:=(by omega);subst W2;refine .inr ⟨u,by simp[Aw],?_,J⟩;rw[<- av,Im h1]
 obtain⟨r,ai,rfl,h⟩:=this;unfold DS Rg;rw[ai];simp only[dC,dx];rw[BU (by omega) h];rfl
theorem IF {a:ar}(bG:fS a)(h:a.length<3):V a<9223372036854775808:=by
 have h1:=nW bG.1;have h2:=sx (m:=a.length) (n:=2) (by omega);have J:B 2=1000000000000000000:=by decide
 omega
theorem Mz {a b:ar}(bG:fS a)(aW:fS b)(aT:a.length<=900000)(hm:b.length<=900000):BD a b=some (L (Int.gcd (V a) (V b))):=by
 have : ∃r,iter (fun w:ar×ar=>xA w.1 w.2) (a,b)=some r/\r.elim id id=L (Int.gcd (V a) (V b)):=by
  refine jT (e9:=fun w:ar×ar=>fS w.1/\fS w.2/\w.1.length<=900000/\w.2.length<=900000/\Int.gcd (V w.1) (V w.2)=Int.gcd (V a) (V b)) (m:=fun w:ar×ar=>(V w.2).toNat) _ ?_ _ ⟨bG,aW,aT,hm,rfl⟩;rintro⟨x,y⟩ ⟨h1,h2,J,aj,av⟩;simp only at h1 h2 J aj av ⊢;have jZ:=l4 h1.1;have pV:=l4 h2.1;by_cases aU:y=[]
  ·subst aU;refine .inr ⟨.inl x,by simp[xA,gu],?_⟩;rw[<- av,Cp,Im jZ];exact(vG h1).symm
  ·have NZ:=tw h2 aU
   have ai1:=List.length_pos_iff.mpr aU;by_cases bJ:x.length<3/\y.length<3
   ·refine .inr ⟨.inr (L (Int.gcd (V a) (V b))),?_,rfl⟩;unfold xA;simp only[gu];rw[dw (by simp;omega),dw (by simp;omega),dw (by simp;omega),SM h1 (by omega) (IF h1 bJ.1)];simp only[dC,dx];rw[SM h2 (by omega) (IF h2 bJ.2)];simp only[dx];rw[afn jZ pV (IF h1 bJ.1) (IF h2 bJ.2),av];rfl
   ·have zm:=Int.emod_nonneg (V x) (b:=V y) (by omega)
    have ai2:=Int.emod_lt_of_pos (V x) NZ;refine .inl ⟨(y,L (V x % V y)),?_,⟨h2,iw _,aj,(hJ zm).2 ?_,?_⟩,?_⟩
    ·unfold xA
     simp only[gu];rw[dw (by simp;omega),div_eq h1 h2 aU J aj];by_cases vM:x.length<3
     ·rw[dw (by simp;omega),dA (by simp;omega)];rfl
     ·rw[dA (by simp;omega)];rfl
    ·have:=nW h2.1;have:=sx aj;omega
    ·simp only;rw[d9 zm,<- av];exact L2 jZ
    ·simp only;rw[d9 zm];omega
 obtain⟨r,ai,h⟩:=this;unfold BD RW;rw[List.nil_append,List.nil_append,dw (by omega),dw (by omega),ai]
 cases r with
 | inl r=>exact congrArg some h
 | inr r=>exact congrArg some h
def qm (p:Nat)(l:ar):Prop:= ∀i z,i≠p->l[i]? = some z->0<=z/\z<1000000000
theorem qm.set {p:Nat}{l:ar}(h:qm p l){k:Nat}{x:Int}(aa:0<=x/\x<1000000000):qm p (l.set k x):=fun i z ab cC=>by
 by_cases aX:k=i
 ·subst aX
  rw[List.getElem?_set] at cC;simp only[if_true] at cC;split at cC
  ·rw[<- dI cC];exact aa
  ·simp at cC
 ·rw[List.getElem?_set_ne aX] at cC;exact h i z ab cC
theorem qm.Wk {p:Nat}{l:ar}(h:qm p l){x:Int}:qm p (l.set p x):=fun i z ab cC=>by rw[List.getElem?_set_ne (fun h=>ab h.symm)] at cC;exact h i z ab cC
theorem cX.toE {l:ar}(h:cX l)(p:Nat):qm p l:=fun _ _ _ cC=>h.get cC
theorem aec {v row:ar}{b6 nX i:Nat}{j1 carry x y:Int}(aa:v[i]? = some x)(aU:row[b6+i]? = some y)(jZ:0<=x/\x<1000000000)(pV:0<=y/\y<1000000000)(aW:0<=j1/\j1<1000000000)(aY:0<=carry/\carry<1000000000)(hu:i<nX)(aT:row.length<=5000000):
 ∃c z,xB b6 nX v j1 v.length carry i row=some (.inl (c,((i+1:Nat):Int),row.set (b6+i) z))/\0<=c/\c<1000000000/\0<=z/\z<1000000000/\z-1000000000*c=y-j1*x-carry:=by
 have ab:=f5 aa;have aq:=f5 aU;obtain⟨jl,ik⟩:=E5 aW jZ;have e:U (U (y-U (j1*x))-carry)=y-j1*x-carry:=by rw[cQ (x:=j1*x) (by omega) (by omega),cQ (x:=y-j1*x) (by omega) (by omega),cQ (by omega) (by omega)]
 by_cases cg:y-j1*x-carry<0
 ·refine⟨(999999999-(y-j1*x-carry)) / 1000000000,y-j1*x-carry+(999999999-(y-j1*x-carry)) / 1000000000*1000000000,?_,by omega,by omega,by omega,by omega,by omega⟩;unfold xB;rw[dw (by simp;omega),dw (by omega),dy,aa];simp only[dC,dx];rw[dw (by omega),aU];simp only[dx,e];rw[dw (by simpa using cg),dw (by omega),o6 (n:=i) (by omega),cQ (x:=999999999-(y-j1*x-carry)) (by omega) (by omega),om (by omega),cQ (x:=(999999999-(y-j1*x-carry)) / 1000000000) (by omega) (by omega),cQ (x:=(999999999-(y-j1*x-carry)) / 1000000000*1000000000) (by omega) (by omega),cQ (by omega) (by omega)]
 ·refine⟨0,y-j1*x-carry,?_,by omega,by omega,by omega,by omega,by omega⟩;unfold xB;rw[dw (by simp;omega),dw (by omega),dy,aa];simp only[dC,dx];rw[dw (by omega),aU];simp only[dx,e];rw[dA (by simpa using cg),dw (by omega),o6 (n:=i) (by omega)]
theorem aed {v row:ar}{b6 nX:Nat}{j1:Int}(bh:cX v)(ai:cX row)(aW:0<=j1/\j1<1000000000)(hu:v.length<nX)(aV:b6+v.length<row.length)(aT:row.length<=5000000):
 ∃r,R2 b6 nX v j1 v.length 0 0 row=some r/\0<=r.1/\r.1<1000000000/\cX r.2/\r.2.length=row.length/\V r.2=V row-j1*B b6*V v+r.1*B (b6+v.length)/\ ∀i,i<b6\/b6+v.length<=i->r.2[i]? = row[i]? := by
 refine jT (e9:=fun w:Int×Int×ar=> ∃(i:Nat),w.2.1=(i:Int)/\i<=v.length/\0<=w.1/\w.1<1000000000/\cX w.2.2/\w.2.2.length=row.length/\V w.2.2=V row-j1*B b6*V (v.take i)+w.1*B (b6+i)/\ ∀i,i<b6\/b6+v.length<=i->w.2.2[i]? = row[i]?) (m:=fun w:Int×Int×ar=>v.length-w.2.1.toNat) _ ?_ _ ⟨0,rfl,by omega,by simp,by simp,ai,rfl,by simp[V],fun _ _=>rfl⟩;rintro⟨carry,ii,fm⟩ ⟨i,h1,ab,nI,n4,lo,hlen,hV,mr⟩;simp only at h1 nI n4 lo hlen hV mr ⊢;subst h1;by_cases CD:i=v.length
 ·subst CD;exact .inr ⟨(carry,fm),by simp[xB],nI,n4,lo,hlen,by simpa using hV,mr⟩
 ·have aa:=dz (show i<v.length by omega)
  have aU:=dz (show b6+i<fm.length by omega);obtain⟨c,z,he,b3,bl,fL,po,cC⟩:=aec (nX:=nX) aa aU (bh.get aa) (lo.get aU) aW ⟨nI,n4⟩ (by omega) (by omega);rw[he];refine .inl ⟨_,rfl,⟨i+1,rfl,by omega,b3,bl,lo.set ⟨fL,po⟩,by simpa using hlen,?_,fun k aX=> ?_⟩,by simp;omega⟩
  ·simp only;rw[us aU,vd aa,hV,<- Nat.add_assoc,nm,Fk];have uB:z=fm[b6+i]-j1*v[i]-carry+1000000000*c:=(by omega);rw[uB];grind
  ·simp only;rw[List.getElem?_set_ne (by omega)];exact mr k aX
theorem agJ {v row:ar}{b6 nX:Nat}{j1:Int}(bh:cX v)(ai:cX row)(aW:0<=j1/\j1<1000000000)(hu:v.length<nX)(aV:b6+v.length<row.length)(aT:row.length<=5000000):
 ∃y eS,Ep v j1 b6 nX row=some (decide (y<0),eS)/\eS.length=row.length/\qm (b6+v.length) eS/\eS[b6+v.length]? = some y/\ -1000000000<y/\y<1000000000/\V eS=V row-j1*B b6*V v/\ ∀i,i<b6\/b6+v.length<i->eS[i]? = row[i]? := by
 obtain⟨r,ji,b3,bl,lo,hlen,hV,mr⟩:=aed bh ai aW hu aV aT;have aa:=dz (show b6+v.length<r.2.length by omega);have jZ:=lo.get aa;refine⟨r.2[b6+v.length]-r.1,r.2.set (b6+v.length) (r.2[b6+v.length]-r.1),?_,by simpa using hlen,(cX.toE lo _).Wk,?_,by omega,by omega,?_,fun i ab=> ?_⟩
 ·unfold Ep;simp only[gu];rw[ji];simp only[dC,dx,dy];rw[dw (by omega),aa];simp only[dx];rw[dw (by omega),cQ (by omega) (by omega),List.getElem?_set,dw rfl,dw (by omega)];rfl
 ·rw[List.getElem?_set,dw rfl,dw (by omega)]
 ·rw[us aa,hV];grind
 ·rw[List.getElem?_set_ne (by omega)];exact mr i (by omega)
theorem aee {v row:ar}{b6 nX:Nat}(bh:cX v)(ai:qm (b6+v.length) row)(hu:v.length<nX)(aV:b6+v.length<row.length)(aT:row.length<=5000000):
 ∃r,R3 b6 nX v v.length 0 0 row=some r/\0<=r.1/\r.1<=1/\qm (b6+v.length) r.2/\r.2.length=row.length/\V r.2=V row+B b6*V v-r.1*B (b6+v.length)/\ ∀i,i<b6\/b6+v.length<=i->r.2[i]? = row[i]? := by
 refine jT (e9:=fun w:Int×Int×ar=> ∃(i:Nat),w.2.1=(i:Int)/\i<=v.length/\0<=w.1/\w.1<=1/\qm (b6+v.length) w.2.2/\w.2.2.length=row.length/\V w.2.2=V row+B b6*V (v.take i)-w.1*B (b6+i)/\ ∀i,i<b6\/b6+v.length<=i->w.2.2[i]? = row[i]?) (m:=fun w:Int×Int×ar=>v.length-w.2.1.toNat) _ ?_ _ ⟨0,rfl,by omega,by simp,by simp,ai,rfl,by simp[V],fun _ _=>rfl⟩;rintro⟨carry,ii,fm⟩ ⟨i,h1,ab,nI,n4,lo,hlen,hV,mr⟩;simp only at h1 nI n4 lo hlen hV mr ⊢;subst h1;by_cases CD:i=v.length
 ·subst CD;exact .inr ⟨(carry,fm),by simp[A0],nI,n4,lo,hlen,by simpa using hV,mr⟩
 ·have aa:=dz (show i<v.length by omega)
  have aU:=dz (show b6+i<fm.length by omega);have jZ:=bh.get aa;have pV:=lo _ _ (by omega) aU;have he:A0 b6 nX v v.length carry i fm=some (.inl ((fm[b6+i]+v[i]+carry) / 1000000000,((i+1:Nat):Int),fm.set (b6+i) ((fm[b6+i]+v[i]+carry) % 1000000000))):=(by unfold A0;rw[dw (by simp;omega),dw (by omega),dy,aa];simp only[dC,dx];rw[dw (by omega),aU];simp only[dx];rw[dw (by omega),cQ (x:=fm[b6+i]+v[i]) (by omega) (by omega),cQ (x:=fm[b6+i]+v[i]+carry) (by omega) (by omega),r5 (by omega),om (by omega),cQ (by omega) (by omega),o6 (n:=i) (by omega)]);rw[he];refine .inl ⟨_,rfl,⟨i+1,rfl,by omega,by simp only;omega,by simp only;omega,lo.set (by omega),by simpa using hlen,?_,fun k aX=> ?_⟩,by simp;omega⟩
  ·simp only;rw[us aU,vd aa,hV,<- Nat.add_assoc,nm,Fk];have:=Int.mul_ediv_add_emod (fm[b6+i]+v[i]+carry) 1000000000;generalize (fm[b6+i]+v[i]+carry) / 1000000000=q at *;generalize (fm[b6+i]+v[i]+carry) % 1000000000=t at *;have uB:t=fm[b6+i]+v[i]+carry-1000000000*q:=(by omega);rw[uB];grind
  ·simp only;rw[List.getElem?_set_ne (by omega)];exact mr k aX
theorem agK {v row:ar}{b6 nX:Nat}{y:Int}(bh:cX v)(ai:qm (b6+v.length) row)(hu:v.length<nX)(aV:b6+v.length<row.length)(aT:row.length<=5000000)(aU:row[b6+v.length]? = some y)(pV:-1000000000<y)(Gq:y<1000000000):
 ∃nd eS,BF v b6 nX row=some eS/\eS.length=row.length/\qm (b6+v.length) eS/\eS[b6+v.length]? = some nd/\V eS=V row+B b6*V v/\ ∀i,i<b6\/b6+v.length<i->eS[i]? = row[i]? := by
 obtain⟨r,ji,b3,bl,lo,hlen,hV,mr⟩:=aee bh ai hu aV aT;have aa:r.2[b6+v.length]? = some y:=by rw[mr _ (by omega)];exact aU
 refine⟨y+r.1,r.2.set (b6+v.length) (y+r.1),?_,by simpa using hlen,lo.Wk,?_,?_,fun i ab=> ?_⟩
 ·unfold BF;simp only[gu];rw[ji];simp only[dC,dx,dy];rw[dw (by omega),aa];simp only[dx];rw[dw (by omega),cQ (by omega) (by omega)]
 ·rw[List.getElem?_set,dw rfl,dw (by omega)]
 ·rw[us aa,hV];grind
 ·rw[List.getElem?_set_ne (by omega)];exact mr i (by omega)
theorem afo {g q v1 v2 top ia rest a0 W P:Int}(gb:1<=P)(di:0<=g)(cg:g*v1+rest=top)(w0:P*(v1*1000000000+v2)<=W)(NW:a0<P*(top*1000000000+ia+1))(Xb:q*W<=a0)(hW:0<=W)(h:rest*1000000000+ia<g*v2):q<g:=by
 apply Int.not_le.mp;intro w2;have h1:g*W<=q*W:=Int.mul_le_mul_of_nonneg_right w2 hW;have h2:g*(P*(v1*1000000000+v2))<=g*W:=dK w0 di;have J:g*(P*(v1*1000000000+v2))=P*(g*(v1*1000000000+v2)):=by grind
 have aj:P*(g*(v1*1000000000+v2))<P*(top*1000000000+ia+1):=by omega
 have av:=Int.lt_of_mul_lt_mul_left aj (by omega);have aP:g*(v1*1000000000+v2)=1000000000*(g*v1)+g*v2:=by grind
 omega
theorem TM {g v1 v2 top ia rest a0 W P:Int}(gb:1<=P)(di:0<=g)(w3:g<=999999999)(tO:1<=v1)(Gw:0<=v2)(cg:g*v1+rest=top)(w0:P*(v1*1000000000+v2)<=W)(Jz:W<P*(v1*1000000000+v2+1))(Jy:P*(top*1000000000+ia)<=a0)(h:g*v2<=rest*1000000000+ia):g<=a0 / W+1:=by
 have Gx:P*1000000000<=W:=by have h1:P*1000000000<=P*(v1*1000000000+v2):=dK (by omega) (by omega);omega
 have h1:g*W<=g*(P*(v1*1000000000+v2+1)):=dK (by omega) di;have h2:g*(P*(v1*1000000000+v2+1))=P*(1000000000*(g*v1)+g*v2+g):=by grind
 have J:P*(1000000000*(g*v1)+g*v2+g)<=P*(top*1000000000+ia+999999999):=dK (by omega) (by omega);have aj:P*(top*1000000000+ia+999999999)=P*(top*1000000000+ia)+P*999999999:=by grind
 have av:(g-1)*W=g*W-W:=by grind
 have:g-1<=a0 / W:=(Int.le_ediv_iff_mul_le (by omega)).2 (by omega);omega
theorem adz {af u jM ax:ar}{N n j:Nat}{v1 v2 ia top a0 W P:Int}(aT:2<=n)(Ji:n<=5000000)(Gy:j+n<N)(gE:N<=5000000)(h1:jM[n-1]? = some v1)(h2:jM[n-2]? = some v2)(J:u[j+n-2]? = some ia)
 (tO:1<=v1/\v1<1000000000) (Gw:0<=v2/\v2<1000000000) (aly:0<=ia/\ia<1000000000) (gb:1<=P) (w0:P*(v1*1000000000+v2)<=W) (Jz:W<P*(v1*1000000000+v2+1)) (Jy:P*(top*1000000000+ia)<=a0) (NW:a0<P*(top*1000000000+ia+1)) (dg:0<=a0) (NX:a0<1000000000*W) (nM:0<=top) (alz:top<=v1*1000000000+999999999) (aZ:a0 / W<=top / v1) :
 ∃g,So N n n j af u jM ax (top / v1) (top % v1)=some g/\(a0 / W=g\/a0 / W+1=g)/\0<=g/\g<=999999999:=by
 have Gx:0<W:=by have h1:P*1000000000<=P*(v1*1000000000+v2):=dK (by omega) (by omega);omega
 have mv:0<=a0 / W:=Int.ediv_nonneg dg (by omega);have pL:a0 / W<1000000000:=Int.ediv_lt_of_lt_mul Gx NX;have Xb:a0 / W*W<=a0:=Int.ediv_mul_le _ (by omega);have ai4:=Int.mul_ediv_add_emod top v1;have pf:=Int.emod_nonneg top (b:=v1) (by omega);have q8:=Int.emod_lt_of_pos top (b:=v1) (by omega);have M5:U ((n:Int)-1)=((n-1:Nat):Int):=by rw[cQ (by omega) (by omega)];omega
 have ah0:U ((n:Int)-2)=((n-2:Nat):Int):=by rw[cQ (by omega) (by omega)];omega
 have ah1:U (U ((j:Int)+(n:Int))-2)=((j+n-2:Nat):Int):=by rw[cQ (x:=(j:Int)+n) (by omega) (by omega),cQ (by omega) (by omega)];omega
 have I6:top / v1<=top:=Int.ediv_le_self _ nM;refine jT (e9:=fun w:Int×Int=>w.1*v1+w.2=top/\0<=w.2/\w.2<1000000000/\a0 / W<=w.1/\w.1<=top) (m:=fun w:Int×Int=>w.1.toNat) _ ?_ _ ⟨by rw[Int.mul_comm];exact ai4,pf,by simp only;omega,aZ,I6⟩;rintro⟨g,rest⟩ ⟨i1,i2,Ox,GL,ajZ⟩;simp only at i1 i2 Ox GL ajZ ⊢;have N0:U (rest+v1)=rest+v1:=cQ (by omega) (by omega);have N1:U (g-1)=g-1:=cQ (by omega) (by omega);have w3:(g-1)*v1+(rest+v1)=top:=by grind
 have Vw:a0 / W<=g-1->1000000000<=rest+v1->(a0 / W=g-1\/a0 / W+1=g-1)/\0<=g-1/\g-1<=999999999:=by intro lR kr;have oQ:(g-1)*v1<1000000000*v1:=(by omega);have Oy:g-1<1000000000:=Int.lt_of_mul_lt_mul_right oQ (by omega);have XS:0<=g-1:=(by omega);have al7:=(E5 ⟨XS,Oy⟩ Gw).2;have:=TM gb XS (by omega) tO.1 Gw.1 w3 w0 Jz Jy (by omega);omega
 by_cases M6:1000000000<=g
 ·by_cases aW:1000000000<=rest+v1
  ·refine .inr ⟨g-1,?_,Vw (by omega) aW⟩;unfold xD;rw[dw (by simpa using M6),M5,dw (by omega),dG,dy,h1];simp only[dC,dx,N0,N1];rw[dw (by simpa using aW)]
  ·refine .inl ⟨(g-1,rest+v1),?_,⟨w3,by simp only;omega,by simp only;omega,by simp only;omega,by simp only;omega⟩,by simp only;omega⟩;unfold xD;rw[dw (by simpa using M6),M5,dw (by omega),dG,dy,h1];simp only[dC,dx,N0,N1];rw[dA (by simpa using aW)]
 ·have kf:0<=g:=by omega
  obtain⟨jl,ik⟩:=E5 ⟨kf,by omega⟩ Gw;have e1:U (U (rest*1000000000)+ia)=rest*1000000000+ia:=(by rw[cQ (x:=rest*1000000000) (by omega) (by omega),cQ (by omega) (by omega)]);have e2:U (g*v2)=g*v2:=cQ (by omega) (by omega)
  have MR:xD N n n j af u jM ax g rest=some (if rest*1000000000+ia<g*v2 then (if 1000000000<=rest+v1 then .inr (g-1) else .inl (g-1,rest+v1)) else .inr g):=by
   unfold xD;rw[dA (by simpa using M6),ah0,dw (by omega),dG,dy,h2];simp only[dC,dx];rw[ah1,dw (by omega),dG,dy,J];simp only[dx,e1,e2];by_cases aY:rest*1000000000+ia<g*v2
   ·rw[dw (by simpa using aY),dw aY,M5,dw (by omega),dG,dy,h1]
    simp only[dx,N0,N1];by_cases aW:1000000000<=rest+v1
    ·rw[dw (by simpa using aW),dw aW]
    ·rw[dA (by simpa using aW),dA aW]
   ·rw[dA (by simpa using aY),dA aY]
  rw[MR];by_cases aY:rest*1000000000+ia<g*v2
  ·have alA:=afo gb kf i1 w0 NW Xb (by omega) aY
   rw[dw aY];by_cases aW:1000000000<=rest+v1
   ·rw[dw aW];exact .inr ⟨g-1,rfl,Vw (by omega) aW⟩
   ·rw[dA aW];exact .inl ⟨(g-1,rest+v1),rfl,⟨w3,by simp only;omega,by simp only;omega,by simp only;omega,by simp only;omega⟩,by simp only;omega⟩
  ·rw[dA aY];have:=TM gb kf (by omega) tO.1 Gw.1 i1 w0 Jz Jy (by omega);exact .inr ⟨g,rfl,by omega,by omega,by omega⟩
theorem aef {a b:ar}{k:Nat}(h:∀i,k<=i->a[i]? = b[i]?):a.drop k=b.drop k:=by apply List.ext_getElem?;intro i;rw[List.getElem?_drop,List.getElem?_drop];exact h _ (by omega)
theorem aeg {a b:ar}{k:Nat}(h:∀i,i<k->a[i]? = b[i]?):a.take k=b.take k:=by
 apply List.ext_getElem?;intro i;rw[List.getElem?_take,List.getElem?_take];by_cases ab:i<k
 ·rw[dw ab,dw ab];exact h i ab
 ·rw[dA ab,dA ab]
theorem Xc {u w:ar}{j n:Nat}{y c:Int}(hlen:w.length=u.length)(Gy:j+n<u.length)(eM:qm (j+n) w)(aU:w[j+n]? = some y)(mr:∀i,i<j\/j+n<i->w[i]? = u[i]?)(h0:V (u.drop (j+n+1))=0)(hV:V w=V u-c*B j):
 V (w.drop j)=V (u.drop j)-c/\ ∃low,0<=low/\low<B n/\V (w.drop j)=low+B n*y:=by
 have h1:=yj (l:=u) (n:=j) (by omega);have h2:=yj (l:=w) (n:=j) (by omega);rw[aeg (a:=w) (b:=u) (fun i ab=>mr i (.inl ab))] at h2;have J:B j*V (w.drop j)=B j*(V (u.drop j)-c):=by grind
 have gl:=o1 j;have aj:V (w.drop j)=V (u.drop j)-c:=Int.eq_of_mul_eq_mul_left (by omega) J;refine⟨aj,V ((w.drop j).take n),?_,?_,?_⟩
 ·refine l4 (fun x aa=> ?_);obtain⟨i,ab⟩:=List.mem_iff_getElem?.mp aa;have lb:=f5 ab;simp at lb;rw[List.getElem?_take,dw (by omega),List.getElem?_drop] at ab;exact eM _ _ (by omega) ab
 ·have aV:cX ((w.drop j).take n):=fun x aa=>by
   obtain⟨i,ab⟩:=List.mem_iff_getElem?.mp aa;have lb:=f5 ab;simp at lb;rw[List.getElem?_take,dw (by omega),List.getElem?_drop] at ab;exact eM _ _ (by omega) ab
  have:=nW aV
  rwa [List.length_take,Nat.min_eq_left (by simp;omega)] at this
 ·have av:=yj (l:=w.drop j) (n:=n) (by simp;omega);rw[List.drop_drop,p9 aU,aef (a:=w) (b:=u) (k:=j+n+1) (fun i ab=>mr i (.inr (by omega))),h0] at av;rw[av];grind
theorem TN {w:ar}{p:Nat}(eM:qm p w)(aU:w[p]? = some 0):cX w:=fun x aa=>by
 obtain⟨i,ab⟩:=List.mem_iff_getElem?.mp aa;by_cases h:i=p
 ·subst h;rw[aU] at ab;have:=dI ab;omega
 ·exact eM i x h ab
theorem Ul {low y X zC W:Int}(h0:0<=low)(h1:low<zC)(JQ:X=low+zC*y)(h2:0<=X)(J:X<W)(aj:W<=zC):y=0:=by
 have ep:zC*y<zC*1:=by omega
 have av:=Int.lt_of_mul_lt_mul_left ep (by omega);have Jp:zC*(-1)<zC*y:=by omega
 have aP:=Int.lt_of_mul_lt_mul_left Jp (by omega);omega
theorem aeh {af u jM ax:ar}{n j:Nat}{v1 W:Int}(aT:2<=n)(Gz:n<=jM.length)(bh:cX (jM.take n))(hW:V (jM.take n)=W)(tO:jM[n-1]? = some v1)(M7:1<=v1)(hu:cX u)(zn:u.length<=5000000)(Gy:j+n<u.length)(ep:V (u.drop (j+1))<W)(alB:j<ax.length):
 ∃mh,xE u.length n n af jM j u ax=some (.inl ((j:Int)-1,mh,ax.set j (V (u.drop j) / W)))/\cX mh/\mh.length=u.length/\V mh=V u-(V (u.drop j) / W)*B j*W/\V (mh.drop j)<W/\0<=V (u.drop j) / W/\V (u.drop j) / W<1000000000:=by
 obtain⟨n,rfl⟩ : ∃m,n=m+2:=⟨n-2,by omega⟩;have rL:(jM.take (n+2)).length=n+2:=by simp;omega
 have w3:(jM.take (n+2))[n+1]? = some v1:=by rw[List.getElem?_take,dw (by omega)];exact tO
 have Xd:=dz (show n<jM.length by omega);have Wl:(jM.take (n+2))[n]? = some jM[n]:=by rw[List.getElem?_take,dw (by omega)];exact Xd
 have ah2:=bh.get w3;have ah3:=bh.get Wl;have jZ:=dz (show j+(n+2)<u.length by omega);have Gv:=dz (show j+(n+1)<u.length by omega);have tD:=dz (show j+n<u.length by omega);have Xe:=dz (show j<u.length by omega);have mz:=hu.get jZ;have wR:=hu.get Gv;have Nx:=hu.get tD;have alC:=hu.get Xe;have vN:=ud bh (k:=n+1) (by omega);rw[EL w3 (by omega),hW] at vN;have N2:=ud bh (k:=n) (by omega);rw[p9 Wl,EL w3 (by omega),hW] at N2;have M8:=nW bh;rw[rL,hW] at M8;have alD:0<=W:=by rw[<- hW];exact l4 bh
 have cC:=ud (hu.drop (j+1)) (k:=n+2) (by simp;omega);rw[List.drop_drop] at cC;have ai5:=l4 (hu.drop (j+1+(n+2)));have alE:=o1 (n+2);have h0:V (u.drop (j+(n+2)+1))=0:=by rw[show j+(n+2)+1=j+1+(n+2) by omega];apply Int.le_antisymm _ ai5;apply Int.not_lt.mp;intro h;have:B (n+2)*1<=B (n+2)*V (u.drop (j+1+(n+2))):=dK (by omega) (by omega);omega
 have nM:V (u.drop (j+(n+2)))=u[j+(n+2)]:=by rw[p9 jZ,h0];omega
 have I6:V (u.drop (j+(n+1)))=u[j+(n+1)]+1000000000*u[j+(n+2)]:=by rw[p9 Gv,show j+(n+1)+1=j+(n+2) by omega,nM]
 have hZ:V (u.drop (j+n))=u[j+n]+1000000000*(u[j+(n+1)]+1000000000*u[j+(n+2)]):=by rw[p9 tD,show j+n+1=j+(n+1) by omega,I6]
 have ji:=ud (hu.drop j) (k:=n+1) (by simp;omega);rw[List.drop_drop,I6] at ji;have zo:=ud (hu.drop j) (k:=n) (by simp;omega);rw[List.drop_drop,hZ] at zo;have qA:=l4 (hu.drop j);have dg:V (u.drop j)<1000000000*W:=by rw[p9 Xe];omega
 have ai6:=o1 n;have ah4:=o1 (n+1);have y7:u[j+(n+2)]<=v1:=by have h1:=ud (hu.drop (j+1)) (k:=n+1) (by simp;omega);rw[List.drop_drop,show j+1+(n+1)=j+(n+2) by omega,nM] at h1;have h2:B (n+1)*u[j+(n+2)]<B (n+1)*(v1+1):=(by omega);have:=Int.lt_of_mul_lt_mul_left h2 (by omega);omega
 have ah5:=Sr ah4 ji.1 ji.2 vN.1 vN.2 (by omega) (by omega) dg
 obtain⟨g,di,w2,ai7,alF⟩:=adz (af:=af) (ax:=ax) (N:=u.length) (n:=n+2) (j:=j) (v1:=v1) (v2:=jM[n]) (ia:=u[j+n]) (top:=u[j+(n+1)]+1000000000*u[j+(n+2)]) (a0:=V (u.drop j)) (W:=W) (P:=B n) (u:=u) (jM:=jM) (by omega) (by omega) Gy zn tO Xd tD ⟨M7,ah2.2⟩ ah3 Nx ai6
  (by rw[Int.mul_comm v1,Int.add_comm];exact N2.1) (by rw[Int.mul_comm v1,Int.add_comm (1000000000*v1)];exact N2.2)
  (by rw[Int.mul_comm (u[j+(n+1)]+_),Int.add_comm];exact zo.1) (by rw[Int.mul_comm (u[j+(n+1)]+_),Int.add_comm (1000000000*_) u[j+n]];exact zo.2) qA dg (by omega) (by omega) ah5.2.1
 have Gx:0<W:=by have:B (n+1)*1<=B (n+1)*v1:=dK (by omega) (by omega);omega
 have mv:0<=V (u.drop j) / W:=Int.ediv_nonneg qA (by omega);have pL:V (u.drop j) / W<1000000000:=Int.ediv_lt_of_lt_mul Gx dg;have hm:=Int.mul_ediv_add_emod (V (u.drop j)) W;have pf:=Int.emod_nonneg (V (u.drop j)) (b:=W) (by omega);have q8:=Int.emod_lt_of_pos (V (u.drop j)) Gx;obtain⟨y,w,cg,JB,JC,JD,pV,Gq,JE,MA⟩:=agJ (v:=jM.take (n+2)) (row:=u) (b6:=j) (nX:=u.length-j) (j1:=g) bh hu ⟨ai7,by omega⟩ (by omega) (by omega) zn;rw[rL] at JC JD MA;rw[hW] at JE;obtain⟨vM,low,oK,JF,vE⟩:=Xc (c:=g*W) JB Gy JC JD MA h0 (by rw[JE];grind);have ai8:U ((j:Int)-1)=(j:Int)-1:=sH (by omega);have e1:U ((j:Int)+((n+2:Nat):Int))=((j+(n+2):Nat):Int):=by rw[cQ (by omega) (by omega)];omega
 have e2:U (((j+(n+2):Nat):Int)-1)=((j+(n+1):Nat):Int):=by rw[cQ (by omega) (by omega)];omega
 have bN:U (((n+2:Nat):Int)-1)=((n+1:Nat):Int):=by rw[cQ (by omega) (by omega)];omega
 have c0:U (U (u[j+(n+2)]*1000000000)+u[j+(n+1)])=u[j+(n+1)]+1000000000*u[j+(n+2)]:=by rw[cQ (x:=u[j+(n+2)]*1000000000) (by omega) (by omega),cQ (by omega) (by omega)];omega
 have dk:0<=u[j+(n+1)]+1000000000*u[j+(n+2)]:=by omega
 have ev:(u[j+(n+1)]+1000000000*u[j+(n+2)]) / v1<=u[j+(n+1)]+1000000000*u[j+(n+2)]:=Int.ediv_le_self _ dk;have eG:0<=(u[j+(n+1)]+1000000000*u[j+(n+2)]) / v1:=Int.ediv_nonneg dk (by omega);have ah6:jM[n+1]? = some v1:=tO
 have pre:xE u.length (n+2) ((n+2:Nat):Int) af jM j u ax =
  (if (decide (y<0))=true then
    BF (jM.take (n+2)) j (u.length-j) w >>= fun kp=>some (.inl ((j:Int)-1,kp,ax.set j (U (g-1))))
  else some (.inl ((j:Int)-1,w,ax.set j g))):=by
  unfold xE;rw[dw (by simp)];simp only[e1,e2,bN,dy,dG,ai8];rw[dw (by omega),jZ];simp only[dC,dx];rw[dw (by omega),Gv];simp only[dx];rw[dw (by omega),ah6];simp only[dx];rw[dw (by omega),c0,om dk,r5 dk,cQ (by omega) (by omega),di];simp only[dx];rw[dw (by omega),dw (by omega),dw (by omega),List.drop_zero,cg];simp only[dx];by_cases aU:y<0
  ·have bC:(decide (y<0))=true:=(by simpa using aU);simp only[dw bC];congr 1;funext r;rw[dw (by omega),dw (by omega)]
  ·have bC : ¬(decide (y<0))=true:=(by simpa using aU);simp only[dA bC];rw[dw (by omega),dw (by omega)]
 rcases w2 with w2|w2
 ·subst w2;have JQ:V (w.drop j)=V (u.drop j) % W:=(by rw[vM];grind);have aU:y=0:=Ul (W:=W) oK JF vE (by rw[JQ];exact pf) (by rw[JQ];exact q8) (Int.le_of_lt M8);subst aU;refine⟨w,?_,TN JC JD,JB,JE,by omega,mv,pL⟩;rw[pre];rfl
 ·have JQ:V (w.drop j)=V (u.drop j) % W-W:=(by rw[vM,<- w2];grind);have aU:y<0:=(by apply Int.not_le.mp;intro h;have:0<=B (n+2)*y:=Int.mul_nonneg (by omega) h;omega);obtain⟨nd,bT,nv,alb,M9,Na,Wm,UT⟩:=agK (v:=jM.take (n+2)) (row:=w) (b6:=j) (nX:=u.length-j) (y:=y) bh (by rw[rL];exact JC) (by omega) (by omega) (by omega) (by rw[rL];exact JD) pV Gq;rw[rL] at M9 Na UT;rw[hW] at Wm;have Xf:V bT=V u-V (u.drop j) / W*B j*W:=(by rw[Wm,JE,<- w2];grind);obtain⟨ah7,alc,ah8,ah9,aia⟩:=Xc (c:=V (u.drop j) / W*W) (by omega) Gy M9 Na (fun i ab=>by rw[UT i ab,MA i ab]) h0 (by rw[Xf];grind);have Xg:V (bT.drop j)=V (u.drop j) % W:=(by rw[ah7];grind);have ph:nd=0:=Ul (W:=W) ah8 ah9 aia (by rw[Xg];exact pf) (by rw[Xg];exact q8) (Int.le_of_lt M8);subst ph;refine⟨bT,?_,TN M9 Na,by omega,Xf,by omega,mv,pL⟩;rw[pre,dw (by simpa using aU),nv];simp only[dC,dx];rw[cQ (by omega) (by omega),show g-1=V (u.drop j) / W by omega]
theorem aei {af jM u:ar}{n m:Nat}{v1 W:Int}(aT:2<=n)(Gz:n<=jM.length)(bh:cX (jM.take n))(hW:V (jM.take n)=W)(tO:jM[n-1]? = some v1)(M7:1<=v1)(hu:cX u)(zn:u.length<=5000000)(hm:m+n=u.length)(ep:V (u.drop m)<W):
 ∃r,Sp u.length n n af jM ((m:Int)-1) u (List.replicate m 0)=some r/\cX r.1/\r.1.length=u.length/\V r.1<W/\cX r.2/\r.2.length=m/\V u=V r.2*W+V r.1:=by
 refine jT (e9:=fun w:Int×ar×ar=> ∃(k:Nat) (q:ar),w.1=(k:Int)-1/\k<=m/\cX w.2.1/\w.2.1.length=u.length/\w.2.2=List.replicate k 0++q/\q.length+k=m/\cX q/\V (w.2.1.drop k)<W/\V u=V w.2.1+B k*V q*W) (m:=fun w:Int×ar×ar=>(w.1+1).toNat) _ ?_ _ ⟨m,[],rfl,by omega,hu,rfl,by simp,by simp,cX.nil,ep,by simp[V]⟩;rintro⟨ajY,mh,ax⟩ ⟨k,q,h1,aX,pM,hlen,J,aZ,rX,Nb,hV⟩;simp only at h1 pM hlen J Nb hV ⊢;subst h1 J
 cases k with
 | zero =>
  refine .inr ⟨(mh,q),by simp[xE],pM,hlen,by simpa using Nb,rX,by simpa using aZ,?_⟩;rw[hV];simp[B];omega
 | succ k =>
  obtain⟨alG,he,s1,s2,w6,XT,aj0,aj1⟩:=aeh (af:=af) (jM:=jM) (u:=mh) (ax:=List.replicate (k+1) 0++q) (j:=k) aT Gz bh hW tO M7 pM (by omega) (by omega) Nb (by simp;omega);rw[hlen] at he;rw[show ((k+1:Nat):Int)-1=k by omega,he];refine .inl ⟨_,rfl,⟨k,V (mh.drop k) / W::q,rfl,by omega,s1,s2.trans hlen,Mj _ _ _,by simp;omega,cX.cons ⟨aj0,aj1⟩ rX,XT,?_⟩,by simp only;omega⟩;simp only;rw[hV,w6,mn,nm];grind
theorem L3 {a:ar}(h:a.length<=900000):yl a=some a:=by unfold yl;rw[dw (by omega)]
theorem adA {a b q s:Int}(h:a=q*b+s)(h0:0<=s)(h1:s<b):a / b=q/\a % b=s:=by
 subst h;constructor
 ·rw[Int.add_comm,Int.add_mul_ediv_right _ _ (by omega),Int.ediv_eq_zero_of_lt h0 h1];omega
 ·rw[Int.add_comm,Int.add_mul_emod_self_right];exact Int.emod_eq_of_lt h0 h1
theorem Io {a b:ar}(bG:fS a)(aW:fS b)(mz:b≠[])(aT:a.length<=900000)(hm:b.length<=900000):u6 a b=some (L (V a / V b),L (V a % V b)):=by
 have kB:=tw aW mz;have Jh:=l4 bG.1;unfold u6;simp only[gu];rw[HJ bG aW (by omega)];simp only[dC,dx];by_cases aY:V a<V b
 ·rw[dw (by simpa using wt.2 aY),L3 aT,Int.ediv_eq_zero_of_lt Jh aY,Int.emod_eq_of_lt Jh aY,rv,vG bG];rfl
 ·rw[dA (fun h=>aY (wt.1 (by simpa using h)))]
  obtain⟨k,d,aX,bC,sO,sY,w1⟩:=IE aW mz;by_cases h1:b.length=1
  ·have vF:k=0:=(by omega);subst vF;have NY:V b=d:=(by simpa using w1);rw[dw (by simp[h1]),dw (by omega),bC];simp only[dx];have q8:=Int.emod_nonneg (V a) (b:=d) (by omega);have Gt:=Int.emod_lt_of_pos (V a) sO;rw[Sq bG.1 ⟨sO,sY⟩ (by omega)];simp only[dx];rw[Fp q8 (by omega),Lt q8 (by omega),NY];rfl
  ·have hw:U ((b.length:Int)-1)=(k:Int):=by rw[cQ (by omega) (by omega)];omega
   have e1:U (d+1)=d+1:=cQ (by omega) (by omega);have C0:1<=1000000000 / (d+1):=(by apply (Int.le_ediv_iff_mul_le (by omega)).2;omega);have GA:1000000000 / (d+1)<1000000000:=(by apply Int.ediv_lt_of_lt_mul (by omega);omega);have ai9:1000000000 / (d+1)*(d+1)<=1000000000:=Int.ediv_mul_le _ (by omega);have e2:U ((1000000000:Int).tdiv (d+1))=1000000000 / (d+1):=(by rw[om (by omega),cQ (by omega) (by omega)]);rw[dA (by simp;omega),hw,dw (by omega),dy,bC];simp only[dx,e1,e2];generalize 1000000000 / (d+1)=f at *;rw[dw (by omega)];have kK:cX [f]:=cX.cons (by omega) cX.nil;have aja:V [f]=f:=(by simp[V]);have ajb:a≠[]:=(by intro h;subst h;simp[V] at aY;omega);obtain⟨ng,zD,ajc,alH,ajd,JG,alI⟩:=Tg bG.1 kK ajb (by simp) (by omega) (by simp);obtain⟨GR,jM,aje,alJ,ajf,N3,alK⟩:=Tg aW.1 kK mz (by simp) (by omega) (by simp);rw[aja] at JG N3;rw[ajc];simp only[dx];simp only[List.length_singleton] at ajd ajf;have alL:=o1 k;have ajg:V b*f<B b.length:=(by have h2:=(ud aW.1 (k:=k) (by omega)).2;rw[w1] at h2;have J:V b*f<=(B k*(d+1)-1)*f:=Int.mul_le_mul_of_nonneg_right (by omega) (by omega);have aj:(B k*(d+1)-1)*f=B k*(f*(d+1))-f:=(by grind);have av:B k*(f*(d+1))<=B k*1000000000:=dK ai9 (by omega);rw[aX,nm];omega);have alM:V b<=V b*f:=(by have:V b*1<=V b*f:=dK C0 (by omega);omega);have alN:V a<=V a*f:=(by have:V a*1<=V a*f:=dK C0 (by omega);omega);have N4:0<=V b*f:=(by omega);have Xh:0<=V a*f:=(by omega);have Xi:GR=b.length:=(by have h2:(jM.take GR).length=GR:=(by simp;omega);rw[N3] at h2;have J:=(hJ N4 (k:=b.length)).2 ajg;have aj:=I2 aW mz;have av : ¬(L (V b*f)).length<=b.length-1:=fun h=>(by have:=(hJ N4).1 h;omega);omega);have ajh:(L (V a*f)).length=ng:=(by rw[<- JG];simp;omega);have Wn:=nW (hB (V a*f));rw[d9 Xh,ajh] at Wn;have ald:a.length<=ng:=bG.len.2 (by omega);have alO:b.length<=a.length:=Nat.le_of_not_lt fun h=>(by have:=Ii bG aW h;omega);rw[dw (by omega),dw (by simp;omega),aje];simp only[dx];have zn:(zD.take ng++[0]).length=ng+1:=(by simp;omega);have N5:Ld a GR [f] jM (zD.take ng++[0])=some (zD.take ng++[0]):=(by unfold Ld;rw[iter];unfold He;simp only[gu,zn];rw[dA (by simp;omega)];rfl);rw[N5];simp only[dx,zn];have nw:U (((ng+1:Nat):Int)-((GR:Nat):Int))=((ng+1-b.length:Nat):Int):=(by rw[cQ (by omega) (by omega)];omega);rw[nw,dw (by omega),sH (by omega),dy];have V0:cX (zD.take ng++[0]):=(by rw[JG];exact(hB _).append (cX.cons (by omega) cX.nil));have Xj:V (zD.take ng++[0])=V a*f:=(by rw[yc,JG,d9 Xh];simp[V]);have MB:jM.take b.length=L (V b*f):=(by rw[<- Xi];exact N3);have aji:V (jM.take b.length)=V b*f:=(by rw[MB,d9 N4]);obtain⟨eu,zE,n5,rK,ale,alf,alg⟩:=IE (iw (V b*f)) (fun h=>by have:=sG.1 h;omega);rw[<- MB] at n5 rK;have rL:(jM.take b.length).length=b.length:=by simp;omega
   have za:jM[b.length-1]? = some zE:=by
    rw[List.getElem?_take] at rK;rw[show b.length-1=eu by omega];split at rK
    ·exact rK
    ·simp at rK
   have aib:V ((zD.take ng++[0]).drop (ng+1-b.length))<V b*f:=(by have h2:=(ud V0 (k:=ng+1-b.length) (by omega)).1;rw[Xj] at h2;have J:=I2 aW mz;have aj:B ng=B (ng+1-b.length)*B (b.length-1):=(by rw[<- Fk];congr 1;omega);rw[aj] at Wn;have av:B (ng+1-b.length)*V ((zD.take ng++[0]).drop (ng+1-b.length))<B (ng+1-b.length)*B (b.length-1):=(by omega);have:=Int.lt_of_mul_lt_mul_left av (by have:=o1 (ng+1-b.length);omega);omega);obtain⟨r,ai,r1,r2,a6,aM,aS,bB⟩:=aei (af:=[f]) (m:=ng+1-b.length) (by omega) (by omega) (by rw[MB];exact hB _) aji za (by omega) V0 (by omega) (by omega) aib;rw[zn] at ai r2;rw[Xi,ai];simp only[dx];rw[dw (by omega),List.drop_zero,List.take_of_length_le (by omega),B4 r1 (by omega)];simp only[dx];have Gs:=l4 r1;rw[Xj] at bB;have bJ:V r.1=(V a-V r.2*V b)*f:=(by grind);have ajj:0<=V a-V r.2*V b:=(by apply Int.not_lt.mp;intro h;have:(V a-V r.2*V b)*f<=(-1)*f:=Int.mul_le_mul_of_nonneg_right (by omega) (by omega);omega);have vM:V a-V r.2*V b<V b:=(by apply Int.lt_of_mul_lt_mul_right (a:=f) _ (by omega);omega);obtain⟨q1,q2⟩:=adA (a:=V a) (b:=V b) (q:=V r.2) (s:=V a-V r.2*V b) (by omega) ajj vM;rw[dw (by simp)];simp only[List.getElem?_cons_zero,dx];have Gg:(L (V r.1)).length<=ng+1:=(hJ Gs).2 (by have:=nW r1;rwa [r2] at this);rw[Sq (hB _) ⟨by omega,GA⟩ (by omega),d9 Gs];simp only[dx];rw[B4 aM (by omega)];simp only[dx];rw[q1,q2,bJ,Int.mul_ediv_cancel _ (by omega)]
theorem Tj {a b:ar}(bG:fS a)(aW:fS b)(aT:a.length<=900000)(hm:b.length<=900000):Bz a b=some (L (Int.gcd (V a) (V b))):=by
 have : ∃r,iter (fun w:ar×ar=>AP w.1 w.2) (a,b)=some r/\r=L (Int.gcd (V a) (V b)):=by
  refine jT (e9:=fun w:ar×ar=>fS w.1/\fS w.2/\w.1.length<=900000/\w.2.length<=900000/\Int.gcd (V w.1) (V w.2)=Int.gcd (V a) (V b)) (m:=fun w:ar×ar=>(V w.2).toNat) _ ?_ _ ⟨bG,aW,aT,hm,rfl⟩;rintro⟨x,y⟩ ⟨h1,h2,J,aj,av⟩;simp only at h1 h2 J aj av ⊢;have jZ:=l4 h1.1;have pV:=l4 h2.1;by_cases aU:y=[]
  ·subst aU;refine .inr ⟨x,by simp[AP,gu],?_⟩;rw[<- av,Cp,Im jZ];exact(vG h1).symm
  ·have NZ:=tw h2 aU
   have ai1:=List.length_pos_iff.mpr aU;have zm:=Int.emod_nonneg (V x) (b:=V y) (by omega);have ai2:=Int.emod_lt_of_pos (V x) NZ;refine .inl ⟨(y,L (V x % V y)),?_,⟨h2,iw _,aj,(hJ zm).2 ?_,?_⟩,?_⟩
   ·unfold AP;simp only[gu];rw[dw (by simp;omega),Io h1 h2 aU J aj];rfl
   ·have:=nW h2.1;have:=sx aj;omega
   ·simp only;rw[d9 zm,<- av];exact L2 jZ
   ·simp only;rw[d9 zm];omega
 obtain⟨r,ai,rfl⟩:=this;unfold Bz RJ;rw[ai];rfl
def gx (n:Int):bz:=⟨decide (n<0),L n.natAbs⟩
def eO (neg:Bool)(a:Int):Int:=if neg then -a else a
def mk (p:Int×Int):ao:=⟨gx p.1,L p.2⟩
def lp (p:Int×Int):cy:=⟨gx p.1,L p.2⟩
def zp:ao:=⟨⟨false,[]⟩,[]⟩
def enc:Option (Int×Int)->ao
 | none=>zp
 | some p=>mk p
def o9 (x:Option (Int×Int)):Option cy:=x.map lp
structure Fr (p:Int×Int):Prop where
 pos:0<p.2
 N6:Int.gcd p.1 p.2=1
 num:(p.1.natAbs:Int)<B 24
 den:p.2<B 24
theorem BV {n:Int}:(gx n).cc=L n.natAbs:=rfl
theorem EM {n:Int}:(gx n).cF=decide (n<0):=rfl
theorem TO {n:Int}(h:0<=n):decide ((0:Int)<((L n).length:Nat))=decide (0<n):=by
 apply decide_eq_decide.2;by_cases h1:0<n
 ·have:(L n)≠[]:=fun h2=>(by have:=sG.1 h2;omega);have:=List.length_pos_iff.mpr this;omega
 ·have:n=0:=(by omega);subst this;simp[rv]
theorem I7 {n:Int}(h:0<=n):(((L n).length:Nat):Int)=0↔n=0:=by
 constructor
 ·intro h1;have:L n=[]:=List.eq_nil_of_length_eq_zero (by omega);have:=sG.1 this;omega
 ·rintro rfl;simp[rv]
theorem Ce {neg:Bool}{a:Int}(h:0<=a):((eO neg a).natAbs:Int)=a:=by unfold eO;cases neg<;>simp<;>omega
theorem UU {neg:Bool}{a:Int}(h:0<=a):(⟨neg && decide (0<a),L a⟩:bz)=gx (eO neg a):=by
 unfold gx;rw[Ce h];congr 1;unfold eO;cases neg
 ·simp;omega
 ·simp
theorem agL {a:Int}(h:0<=a)(qz:a<B 60):BA (L a)=some (L a):=by have aV:=(hJ h).2 qz;unfold BA;rw[uc (hB _) (by omega),d9 h];simp only[dC,dx,gu];rw[dA (by simp;omega)]
theorem ss {neg:Bool}{a:Int}(h:0<=a)(qz:a<B 60):jd neg (L a)=some (gx (eO neg a)):=by
 have aV:=(hJ h).2 qz;unfold jd;rw[agL h qz];simp only[dC,dx,gu,List.nil_append];have aY:(L a).length*8<=140737488355328:=by omega
 rw[<- UU h,<- TO h];cases neg<;>simp[aY]
theorem so {neg:Bool}{a:Int}(h:0<=a):mK neg (L a)=some (gx (eO neg a)):=by unfold mK;rw[<- UU h,gu,TO h];cases neg<;>simp
theorem Vx {a b:Int}:eO (!(decide (a<0) == decide (b<0))) ((a.natAbs:Int)*(b.natAbs:Int))=a*b:=by
 unfold eO;by_cases bG:a<0
 ·have e1:(a.natAbs:Int) = -a:=by omega
  by_cases aW:b<0
  ·have e2:(b.natAbs:Int) = -b:=(by omega);rw[e1,e2];simp[bG,aW,Int.neg_mul,Int.mul_neg]
  ·have e2:(b.natAbs:Int)=b:=(by omega);rw[e1,e2];simp[bG,aW,Int.neg_mul,Int.mul_neg]
 ·have e1:(a.natAbs:Int)=a:=by omega
  by_cases aW:b<0
  ·have e2:(b.natAbs:Int) = -b:=(by omega);rw[e1,e2];simp[bG,aW,Int.neg_mul,Int.mul_neg]
  ·have e2:(b.natAbs:Int)=b:=(by omega);rw[e1,e2];simp[bG,aW,Int.neg_mul,Int.mul_neg]
theorem B5 {a b:Int}:eO (decide (a<0)) ((a.natAbs:Int)*b)=a*b:=by
 unfold eO;by_cases bG:a<0
 ·have e1:(a.natAbs:Int) = -a:=(by omega);rw[e1];simp[bG,Int.neg_mul,Int.mul_neg]
 ·have e1:(a.natAbs:Int)=a:=(by omega);rw[e1];simp[bG,Int.neg_mul,Int.mul_neg]
theorem Um {a c:Int}:kZ (-c) (-a)=kZ a c:=by
 unfold kZ;by_cases h:a<c
 ·have : -c < -a:=(by omega);simp[h,this]
 ·by_cases h2:c<a
  ·have J : ¬ -c < -a:=(by omega);have aj : -a < -c:=(by omega);simp[h,h2,J,aj]
  ·have J : ¬ -c < -a:=(by omega);have aj : ¬ -a < -c:=(by omega);simp[h,h2,J,aj]
theorem aej {a c:Int}(bG:(L a.natAbs).length<=5000000)(aY:(L c.natAbs).length<=5000000):El (gx a) (gx c)=some (kZ a c):=by
 unfold El;simp only[EM,BV,decide_eq_true_eq];by_cases h1:a<0
 ·by_cases h2:c<0
  ·rw[dw h1,dw h2,vg (iw _) (iw _) aY,d9 (by omega),d9 (by omega),show (c.natAbs:Int) = -c by omega,show (a.natAbs:Int) = -a by omega,Um];rfl
  ·rw[dw h1,dA h2];unfold kZ;rw[dw (by omega)]
 ·by_cases h2:c<0
  ·rw[dA h1,dw h2];unfold kZ;rw[dA (by omega),dw (by omega)]
  ·rw[dA h1,dA h2,vg (iw _) (iw _) bG,d9 (by omega),d9 (by omega)];show some (kZ _ _)=_;congr 2<;>omega
theorem Q7 {a c:Int}(bG:(L a.natAbs).length<=5000000)(aY:(L c.natAbs).length<=5000000):tW (gx a) (gx c)=some (kZ a c):=by
 have bJ:tW (gx a) (gx c)=if (decide (a<0) == decide (c<0))=true then (if decide (a<0)=true then (rl (L c.natAbs) (L a.natAbs)).bind (fun r=>some r) else (rl (L a.natAbs) (L c.natAbs)).bind (fun r=>some r)) else if decide (a<0)=true then some (-1) else some 1:=rfl;rw[bJ,acD];by_cases h1:a<0
 ·by_cases h2:c<0
  ·rw[dw (by simp[h1,h2]),dw (by simpa using h1),vg (iw _) (iw _) aY,d9 (by omega),d9 (by omega),show (c.natAbs:Int) = -c by omega,show (a.natAbs:Int) = -a by omega,Um];rfl
  ·rw[dA (by simp[h1,h2]),dw (by simpa using h1)];unfold kZ;rw[dw (by omega)]
 ·by_cases h2:c<0
  ·rw[dA (by simp[h1,h2]),dA (by simpa using h1)];unfold kZ;rw[dA (by omega),dw (by omega)]
  ·rw[dw (by simp[h1,h2]),dA (by simpa using h1),vg (iw _) (iw _) bG,d9 (by omega),d9 (by omega),show (c.natAbs:Int)=c by omega,show (a.natAbs:Int)=a by omega];rfl
def fits (x:Int):Prop:=x<B 24
noncomputable instance (x:Int):Decidable (fits x):=Classical.propDecidable _
noncomputable def low (n d:Int):Option (Int×Int) :=
 if fits ((n / (Int.gcd n d:Int)).natAbs:Int)/\fits (d / (Int.gcd n d:Int)) then some (n / (Int.gcd n d:Int),d / (Int.gcd n d:Int)) else none
theorem B6 {n d:Int}(h:0<d):(0:Int)<Int.gcd n d:=by
 have:Int.gcd n d≠0:=by rw[Ne,Int.gcd_eq_zero_iff];omega
 omega
theorem Ip {n d:Int}(h:0<d): ∃m e,n / (Int.gcd n d:Int)=m/\d / (Int.gcd n d:Int)=e/\n=Int.gcd n d*m/\d=Int.gcd n d*e/\0<e/\(n.natAbs:Int) / (Int.gcd n d:Int)=m.natAbs:=by
 have di:=B6 (n:=n) h;obtain⟨m,hm⟩:=Int.gcd_dvd_left (a:=n) (b:=d);obtain⟨e,he⟩:=Int.gcd_dvd_right (a:=n) (b:=d);refine⟨m,e,?_,?_,hm,he,?_,?_⟩
 ·conv=>lhs;lhs;rw[hm]
  exact Int.mul_ediv_cancel_left _ (by omega)
 ·conv=>lhs;lhs;rw[he]
  exact Int.mul_ediv_cancel_left _ (by omega)
 ·apply Int.not_le.mp;intro h1;have:(Int.gcd n d:Int)*e<=Int.gcd n d*0:=dK h1 (by omega);omega
 ·have e1:(n.natAbs:Int)=Int.gcd n d*m.natAbs:=by
   conv=>lhs;rw[hm]
   rw[Int.natAbs_mul];simp
  rw[e1];exact Int.mul_ediv_cancel_left _ (by omega)
theorem agM {n d:Int}(h:0<d): ∀p,low n d=some p->Fr p:=by
 intro p ah;obtain⟨m,e,h1,h2,J,aj,av,aP⟩:=Ip (n:=n) h;have di:=B6 (n:=n) h;unfold low at ah;rw[h1,h2] at ah;split at ah
 ·next aY =>
  have:=dI ah;subst this;refine⟨av,?_,aY.1,aY.2⟩
  have ba:Int.gcd n d=Int.gcd n d*Int.gcd m e:=by
   have key : ∀g:Nat,Int.gcd ((g:Int)*m) (g*e)=g*Int.gcd m e:=fun g=>(by rw[Int.gcd_mul_left];simp);have:=key (Int.gcd n d)
   rwa [<- J,<- aj] at this
  simp only;have bd:Int.gcd n d*1=Int.gcd n d*Int.gcd m e:=(by omega);exact(Nat.eq_of_mul_eq_mul_left (by omega) bd).symm
 ·simp at ah
theorem Cf {a:Int}(h:0<=a):ta (L a)=some (decide (a=1)):=by
 unfold ta;simp only[gu];by_cases h1:(L a).length=1
 ·have h2:=(hJ (k:=1) h).1 (by omega);have J:0<a:=(by apply Int.not_le.mp;intro aj;rw[VX aj] at h1;simp at h1);have av:a<1000000000:=(by simpa [B] using h2);rw[Ih ⟨J,av⟩];by_cases aP:a=1<;>simp[aP]
 ·rw[dA (by simp;omega)];have:a≠1:=(by rintro rfl;rw[Ih (by omega)] at h1;simp at h1);simp[this]
theorem Iq {n d:Int}(h:0<=d):Int.gcd (n.natAbs:Int) d=Int.gcd n d:=by simp[Int.gcd]
theorem MC:B 24<=B 60:=sx (by omega)
theorem LJ {neg:Bool}{m e:Int}(hm:0<=m)(he:0<=e):(if (decide ((24:Int)<((L m).length:Nat)))=true then some zp else if (decide ((24:Int)<((L e).length:Nat)))=true then some zp else jd neg (L m) >>= fun r=>if (([]:ar)++L e).length*8<=140737488355328 then some (⟨r,([]:ar)++L e⟩:ao) else none) =
 some (enc (if fits m/\fits e then some (eO neg m,e) else none)):=by
 by_cases h1:fits m
 ·have h2:=(hJ hm).2 h1
  rw[dA (by simp;omega)];by_cases J:fits e
  ·have aj:=(hJ he).2 J;have:=MC;unfold fits at h1;rw[dA (by simp;omega),ss hm (by omega),dw ⟨h1,J⟩];simp only[dC,dx];rw[dw (by simp;omega)];rfl
  ·have aj : ¬(L e).length<=24:=fun h=>J ((hJ he).1 h);rw[dw (by simp;omega),dA (fun h=>J h.2)];rfl
 ·have aj : ¬(L m).length<=24:=fun h=>h1 ((hJ hm).1 h);rw[dw (by simp;omega),dA (fun h=>h1 h.1)];rfl
theorem Vy {neg:Bool}{p m g:Int}(ah:0<=p)(di:0<g)(hm:eO neg p=g*m):eO neg (m.natAbs:Int)=m:=by
 unfold eO at hm ⊢;cases neg
 ·simp at hm ⊢;have:0<=m:=(by apply Int.not_lt.mp;intro h1;have:g*m<=g*(-1):=dK (by omega) (by omega);omega);omega
 ·simp at hm ⊢;have:m<=0:=(by apply Int.not_lt.mp;intro h1;have:g*1<=g*m:=dK (by omega) (by omega);omega);omega
theorem LK {neg:Bool}{p q:Int}(ah:0<=p)(aZ:0<q)(N7:(L p).length<=900000)(rX:(L q).length<=900000):pw neg (L p) (L q)=some (enc (low (eO neg p) q)):=by
 obtain⟨m,e,h1,h2,J,aj,av,aP⟩:=Ip (n:=eO neg p) aZ;have rP:=Vy ah (B6 (n:=eO neg p) aZ) J;rw[Ce ah] at aP;have di:Int.gcd p q=Int.gcd (eO neg p) q:=by rw[<- Iq (n:=eO neg p) (by omega),Ce ah]
 have alP:=B6 (n:=eO neg p) aZ;unfold pw;rw[uc (hB _) (by omega),d9 ah];simp only[dC,dx];rw[uc (hB _) (by omega),d9 (by omega)];simp only[dx,gu];have mv : ¬((((L q).length:Nat):Int) == 0)=true:=by simp only[beq_iff_eq];intro h;have:=(I7 (n:=q) (by omega)).1 h;omega
 rw[dA mv,Cf (by omega)];simp only[dx];have yX:low (eO neg p) q=if fits (m.natAbs:Int)/\fits e then some (eO neg (m.natAbs:Int),e) else none:=by unfold low;rw[h1,h2,rP]
 have V1:Int.gcd (eO neg p) q=1->(m.natAbs:Int)=p/\e=q:=by intro hu;rw[hu] at h2 aP;simp at h2 aP;omega
 by_cases pL:q=1
 ·have hu:Int.gcd (eO neg p) q=1:=(by rw[pL];simp);obtain⟨ke,mG⟩:=V1 hu;rw[dw (by simpa using pL),yX,ke,mG];exact LJ ah (by omega)
 ·rw[dA (by simpa using pL),Mz (iw _) (iw _) N7 rX,d9 ah,d9 (by omega)]
  simp only[dx];rw[Cf (by omega)];simp only[dx];by_cases hu:Int.gcd p q=1
  ·obtain⟨ke,mG⟩:=V1 (by omega);rw[dw (by simp;omega),yX,ke,mG];exact LJ ah (by omega)
  ·rw[dA (by simp;omega)];have zq:(L (Int.gcd p q)).length<=900000:=(by have ba:(Int.gcd p q:Int)<=q:=(by rw[di];have:(Int.gcd (eO neg p) q:Int)*1<=Int.gcd (eO neg p) q*e:=dK (by omega) (by omega);omega);apply (hJ (by omega)).2;have:=(hJ (n:=q) (by omega)).1 rX;omega);have GB:L (Int.gcd p q)≠[]:=fun h=>(by have:=sG.1 h;omega);rw[div_eq (iw _) (iw _) GB N7 zq,d9 ah,d9 (by omega)];simp only[dx];rw[div_eq (iw _) (iw _) GB rX zq,d9 (by omega),d9 (by omega)];simp only[dx];rw[di,aP,h2,yX];exact LJ (by omega) (by omega)
theorem ahw {neg:Bool}{a:Int}(h:0<=a)(h2:neg=true->0<a):decide (eO neg a<0)=neg:=by
 unfold eO;cases neg
 ·simp;omega
 ·have:=h2 rfl;simp;omega
theorem UW {neg:Bool}{l:ar}(aV:fS l)(h2:neg=true->l≠[]):(⟨neg,l⟩:bz)=gx (eO neg (V l)):=by have h:=l4 aV.1;unfold gx;rw[Ce h,vG aV,ahw h (fun aT=>tw aV (h2 aT))]
theorem acg {x:bz}(hm:(x.cc.length:Int)<9223372036854775807): ∃ok,xO x=some ok/\D3 x=some ok/\(ok=true↔ ∃n,x=gx n/\(L n.natAbs).length<=60):=by
 obtain⟨o,h1,h2,J⟩:=Th hm;unfold xO D3;rw[h1,h2];simp only[dC,dx,gu];obtain⟨neg,GC⟩:=x;simp only at J ⊢
 have kI:decide ((0:Int)<(GC.length:Nat)) = !((((GC.length:Nat):Int) == 0)):=by
  by_cases h:GC=[]
  ·subst h;rfl
  ·have:=List.length_pos_iff.mpr h
   rw[decide_eq_true (by omega)]
   symm
   simp;omega
 by_cases ak:o=true
 ·obtain⟨aj,av⟩:=J.1 ak
  subst ak;cases neg
  ·refine⟨true,rfl,rfl,?_⟩;simp only[true_iff];refine⟨_,UW aj (fun h=>by simp at h),?_⟩;rw[Ce (l4 aj.1),vG aj];exact av
  ·refine⟨decide ((0:Int)<(GC.length:Nat)),rfl,by rw[kI];rfl,?_⟩
   rw[decide_eq_true_iff];constructor
   ·intro ah;refine⟨_,UW aj (fun _ h=>by subst h;simp at ah),?_⟩;rw[Ce (l4 aj.1),vG aj];exact av
   ·rintro⟨n,aT,-⟩;have e1:=congrArg bz.cF aT;have e2:=congrArg bz.cc aT;simp only[EM,BV] at e1 e2;have bN:n<0:=(by simpa using e1.symm);have:GC≠[]:=(by rw[e2];intro h;have:=sG.1 h;omega);have:=List.length_pos_iff.mpr this;omega
 ·refine⟨false,by simp[ak],by simp[ak],?_⟩;simp only[Bool.false_eq_true,false_iff];rintro⟨n,aT,qz⟩;have e2:=congrArg bz.cc aT;simp only[BV] at e2;exact ak (J.2 (e2▸⟨iw _,qz⟩))
theorem Lv {r:ao}(hm:r.d8.cc.length<=2000000)(bC:r.e6.length<=2000000): ∃ok,ml r=some ok/\EA r=some ok/\(ok=true↔ ∃p,Fr p/\r=mk p):=by
 obtain⟨bQ,hi,hn,bA⟩:=acg (x:=r.d8) (by omega);obtain⟨aN,i3,j4,s0⟩:=Th (a:=r.e6) (by omega);unfold ml EA;rw[hi,hn];simp only[dC,dx,gu];by_cases h1:bQ=true
 ·rw[dw h1,dw h1,i3,j4]
  simp only[dx];by_cases h2:aN=true
  ·rw[dw h2,dw h2]
   obtain⟨n,aT,alh⟩:=bA.1 h1;obtain⟨sY,ali⟩:=s0.1 h2;have w1:=l4 sY.1;have Xk:r.e6=L (V r.e6):=(vG sY).symm;have Gz:r.d8.cc=L n.natAbs:=(by rw[aT];rfl);by_cases J:r.e6=[]
   ·rw[dw (by simp[J]),dw (by simp[J])];refine⟨false,rfl,rfl,?_⟩;simp only[Bool.false_eq_true,false_iff];rintro⟨p,ah,ai⟩;have e:r.e6=L p.2:=(by rw[ai];rfl);rw[J] at e;have:=sG.1 e.symm;have:=ah.pos;omega
   ·have JH:=tw sY J
    have N7:=List.length_pos_iff.mpr J;have sO : ¬((((r.e6.length:Nat):Int) == 0)=true):=(by simp[J]);rw[dA sO,dA sO];by_cases aj:24<r.e6.length
    ·rw[dw (by simp;omega)]
     have hg : ¬∃p,Fr p/\r=mk p:=(by rintro⟨p,ah,ai⟩;have e:r.e6=L p.2:=(by rw[ai];rfl);have:=(hJ (k:=24) (by have:=ah.pos;omega)).2 ah.den;rw[<- e] at this;omega);refine⟨false,rfl,?_,by simp[hg]⟩;by_cases av:24<r.d8.cc.length
     ·rw[dw (by simp;omega)]
     ·rw[dA (by simp;omega),dw (by simp;omega)]
    ·rw[dA (by simp;omega)]
     by_cases av:24<r.d8.cc.length
     ·rw[dw (by simp;omega),dw (by simp;omega)];refine⟨false,rfl,rfl,?_⟩;simp only[Bool.false_eq_true,false_iff];rintro⟨p,ah,ai⟩;have e:r.d8.cc=L p.1.natAbs:=(by rw[ai];rfl);have:=(hJ (k:=24) (by omega)).2 ah.num;rw[<- e] at this;omega
     ·rw[dA (by simp;omega),dA (by simp;omega),dA (by simp;omega)]
      rw[Gz] at av ⊢;rw[Mz (iw _) sY (by omega) (by omega),Tj (iw _) sY (by omega) (by omega),d9 (by omega),Iq w1];simp only[dx];have di:=B6 (n:=n) JH;have ajk:fS [1]:=fS.one (by omega);have zq:(L (Int.gcd n (V r.e6))).length<=5000000:=(by have ba:(Int.gcd n (V r.e6):Int)<=V r.e6:=Int.le_of_dvd JH (Int.gcd_dvd_right ..);have:=(hJ (k:=24) (by omega)).2 (show (Int.gcd n (V r.e6):Int)<B 24 by have:=(sY.len (k:=24)).1 (by omega);omega);omega);rw[Cf (by omega),HJ (iw _) ajk zq,d9 (by omega)];have tO:V [1]=1:=(by decide);rw[tO];simp only[dx];refine⟨decide ((Int.gcd n (V r.e6):Int)=1),rfl,?_,?_⟩
      ·congr 1;rw[Bool.eq_iff_iff];simp[LI]
      ·rw[decide_eq_true_iff]
       constructor
       ·intro hu;refine⟨(n,V r.e6),⟨JH,by simp only;omega,(hJ (by omega)).1 (by simp only;omega),(sY.len).1 (by omega)⟩,?_⟩;obtain⟨num,den⟩:=r;simp only at aT Xk ⊢;unfold mk;simp only;rw[<- Xk,<- aT]
       ·rintro⟨p,ah,ai⟩
        have e:r.e6=L p.2:=(by rw[ai];rfl);have e2:r.d8=gx p.1:=(by rw[ai];rfl);have bN:V r.e6=p.2:=by rw[e,d9 (by have:=ah.pos;omega)]
        have c0:n=p.1:=by
         rw[aT] at e2;have f1:=congrArg bz.cF e2;have f2:=congrArg bz.cc e2;simp only[EM,BV] at f1 f2;have f3:=congrArg V f2;rw[d9 (by omega),d9 (by omega)] at f3
         have f4:n<0↔p.1<0:=by
          constructor
          ·intro h;simpa [h] using f1.symm
          ·intro h;simpa [h] using f1
         omega
        rw[bN,c0,ah.N6];rfl
  ·refine⟨false,by simp[h2],by simp[h2],?_⟩;simp only[Bool.false_eq_true,false_iff];rintro⟨p,ah,ai⟩;have e:r.e6=L p.2:=(by rw[ai];rfl);have:=(hJ (k:=24) (by have:=ah.pos;omega)).2 ah.den;exact h2 (s0.2 (e▸⟨iw _,by omega⟩))
 ·refine⟨false,by simp[h1],by simp[h1],?_⟩;simp only[Bool.false_eq_true,false_iff];rintro⟨p,ah,ai⟩;have e2:r.d8=gx p.1:=(by rw[ai];rfl);have:=(hJ (k:=24) (n:=p.1.natAbs) (by omega)).2 ah.num;exact h1 (bA.2 ⟨p.1,e2,by omega⟩)
def vO (x:Option (Int×Int)):Prop:= ∀p,x=some p->Fr p
theorem Fr.oF {p:Int×Int}(h:Fr p):(L p.1.natAbs).length<=24:=(hJ (by omega)).2 h.num
theorem Fr.nY {p:Int×Int}(h:Fr p):(L p.2).length<=24:=(hJ (by have:=h.pos;omega)).2 h.den
theorem agN:ml zp=some false:=by
 obtain⟨o,J,-,aj⟩:=Lv (r:=zp) (by simp[zp]) (by simp[zp]);rw[J];congr 1
 cases o with
 | false=>rfl
 | true =>
  obtain⟨p,ah,ai⟩:=aj.1 rfl;have e:[]=L p.2:=congrArg ao.e6 ai;have:=sG.1 e.symm;have:=ah.pos;omega
theorem MD {x:Option (Int×Int)}(h:vO x):ml (enc x)=some x.isSome:=by
 cases x with
 | none=>exact agN
 | some p =>
  have ah:=h p rfl;have h1:=ah.oF;have h2:=ah.nY;obtain⟨o,J,-,aj⟩:=Lv (r:=mk p) (show (L p.1.natAbs).length<=_ by omega) (show (L p.2).length<=_ by omega);have:o=true:=aj.2 ⟨p,ah,rfl⟩;subst this;exact J
theorem af3 {r:ao}(hm:r.d8.cc.length<=2000000)(bC:r.e6.length<=2000000):(∃p,Fr p/\r=mk p/\ml r=some true/\u7 r=some (some (lp p)))\/(ml r=some false/\u7 r=some none):=by
 obtain⟨o,h1,h2,J⟩:=Lv hm bC
 cases o with
 | false =>
  refine .inr ⟨h1,?_⟩;unfold u7;rw[h2];rfl
 | true =>
  obtain⟨p,ah,ai⟩:=J.1 rfl;refine .inl ⟨p,ah,ai,h1,?_⟩;unfold u7;rw[h2];subst ai;rfl
theorem ahx (m n:Nat):B m*B n=B (m+n):=(Fk m n).symm
theorem st {x y:Int}{m n:Nat}(aa:0<=x)(aU:0<=y)(h1:x<B m)(h2:y<B n):(L (x*y)).length<=m+n:=by
 apply (hJ (Int.mul_nonneg aa aU)).2;rw[<- ahx];have J:x*y<=(B m-1)*(B n-1):=Int.mul_le_mul (by omega) (by omega) aU (by omega);have aj:(B m-1)*(B n-1)=B m*B n-B m-B n+1:=by grind
 have av:=o1 m;have aP:=o1 n;omega
noncomputable def ux (x y:Option (Int×Int)):Option (Int×Int):=x.bind fun p=>y.bind fun q=>low (p.1*q.1) (p.2*q.2)
theorem ED {p q:Int×Int}:ux (some p) (some q)=low (p.1*q.1) (p.2*q.2):=by unfold ux;rw[dx,dx]
theorem adB (r s:ao){a b:Int}(bG:0<=a)(aW:0<b)(h1:i5 r.d8.cc s.d8.cc=some (L a))(h2:i5 r.e6 s.e6=some (L b))(J:(L a).length<=900000)(aj:(L b).length<=900000):tc r s=some (enc (low (eO (!(r.d8.cF == s.d8.cF)) a) b)):=by unfold tc;rw[h1];simp only[dC,dx];rw[h2];simp only[dx];rw[LK bG aW J aj];simp only[dx]
theorem TP {p q:Int×Int}(ah:Fr p)(aZ:Fr q):tc (mk p) (mk q)=some (enc (low (p.1*q.1) (p.2*q.2))):=by
 have h1:=ah.oF;have h2:=ah.nY;have J:=aZ.oF;have aj:=aZ.nY;have av:=ah.pos;have aP:=aZ.pos;have ba:=st (x:=p.1.natAbs) (y:=q.1.natAbs) (by omega) (by omega) ah.num aZ.num;have bd:=st (x:=p.2) (y:=q.2) (by omega) (by omega) ah.den aZ.den;have e1:i5 (L p.1.natAbs) (L q.1.natAbs)=some (L ((p.1.natAbs:Int)*q.1.natAbs)):=by rw[mul_eq (hB _) (hB _) (by omega) (by omega),d9 (by omega),d9 (by omega)]
 have e2:i5 (L p.2) (L q.2)=some (L (p.2*q.2)):=by rw[mul_eq (hB _) (hB _) (by omega) (by omega),d9 (by omega),d9 (by omega)]
 have:=adB (mk p) (mk q) (a:=(p.1.natAbs:Int)*q.1.natAbs) (b:=p.2*q.2) (Int.mul_nonneg (by omega) (by omega)) (Int.mul_pos av aP) e1 e2 (by omega) (by omega);rw[this];have bN:eO (!((mk p).d8.cF == (mk q).d8.cF)) ((p.1.natAbs:Int)*q.1.natAbs)=p.1*q.1:=Vx;rw[bN]
theorem TQ {x y:Option (Int×Int)}(aa:vO x)(aU:vO y):BE (enc x) (enc y)=some (enc (ux x y)):=by
 unfold BE;rw[MD aa,MD aU]
 cases x with
 | none =>
  simp only[Option.isSome_none,dC,dx,Bool.false_eq_true,if_false];rfl
 | some p =>
  cases y with
  | none =>
   simp only[Option.isSome_none,Option.isSome_some,dC,dx,Bool.false_eq_true,if_false,if_true];rfl
  | some q =>
   simp only[dC,dx,Option.isSome_some,if_true];show (tc (mk p) (mk q)).bind _=_;rw[TP (aa p rfl) (aU q rfl),ED];simp only[dx]
theorem Ir {x y:Option (Int×Int)}(aa:vO x)(aU:vO y):vO (ux x y):=by
 intro r ai
 cases x with
 | none=>simp[ux] at ai
 | some p =>
  cases y with
  | none=>simp[ux] at ai
  | some q =>
   rw[ED] at ai;exact agM (Int.mul_pos (aa p rfl).pos (aU q rfl).pos) r ai
theorem LL {n d:Int}(bC:0<d)(y9:(L n.natAbs).length<=900000)(GD:(L d).length<=900000):sl (gx n) (L d)=some (some (lp (n / (Int.gcd n d:Int),d / (Int.gcd n d:Int)))):=by
 obtain⟨m,e,h1,h2,J,aj,av,aP⟩:=Ip (n:=n) bC;have di:=B6 (n:=n) bC;rw[h1,h2];unfold sl;simp only[BV,EM,gu];by_cases aT:n=0
 ·subst aT;have ajl:(Int.gcd 0 d:Int)=d:=(by rw[Int.gcd_comm,Im (by omega)]);rw[ajl] at J aj;have hm:m=0:=(by rcases Int.mul_eq_zero.1 J.symm with h|h<;>omega);have he:e=1:=(by have:d*e=d*1:=(by omega);exact Int.eq_of_mul_eq_mul_left (by omega) this);subst hm he;rw[dw (by simp[rv])];unfold lp gx;simp only[Int.natAbs_zero];rw[Ih (x:=1) (by omega),show ((0:Nat):Int)=0 from rfl,rv];rfl
 ·have aic : ¬((((L n.natAbs).length:Nat):Int) == 0)=true:=by
   simp only[beq_iff_eq];intro h;have:=(I7 (n:=n.natAbs) (by omega)).1 h;omega
  rw[dA aic,Tj (iw _) (iw _) y9 GD,d9 (by omega),d9 (by omega),Iq (by omega)];simp only[dC,dx];have zq:(L (Int.gcd n d)).length<=900000:=(by have ba:(Int.gcd n d:Int)<=d:=Int.le_of_dvd bC (Int.gcd_dvd_right ..);apply (hJ (by omega)).2;have:=(hJ (n:=d) (by omega)).1 GD;omega);rw[HJ (iw _) (fS.one (by omega)) (by omega),d9 (by omega),show V [1]=1 by decide];simp only[dx];by_cases hu:(Int.gcd n d:Int)=1
  ·rw[dw (by simpa using LI.2 hu)];rw[hu] at J aj;rw[Int.one_mul] at J aj;subst J aj;rfl
  ·rw[dA (fun h=>hu (LI.1 (by simpa using h)))];have GB:L (Int.gcd n d)≠[]:=fun h=>(by have:=sG.1 h;omega);rw[Io (iw _) (iw _) GB y9 zq,d9 (by omega),d9 (by omega)];simp only[dx];rw[Io (iw _) (iw _) GB GD zq,d9 (by omega),d9 (by omega)];simp only[dx];rw[aP,h2,so (by omega)];simp only[dx];have bJ:eO (decide (n<0)) (m.natAbs:Int)=m:=(by refine Vy (p:=n.natAbs) (g:=Int.gcd n d) (by omega) di ?_;rw[<- J];unfold eO;by_cases h:n<0<;>simp[h]<;>omega);rw[bJ];rfl
theorem Vz {m e:Int}(he:0<=e):wm (some (lp (m,e)))=some (o9 (if fits (m.natAbs:Int)/\fits e then some (m,e) else none)):=by
 have bJ:wm (some (lp (m,e)))=if (decide ((24:Int)<len_ eI (L m.natAbs)))=true then some none else if (decide ((24:Int)<len_ eI (L e)))=true then some none else some (some (lp (m,e))):=rfl;rw[bJ,gu,gu];by_cases h1:fits (m.natAbs:Int)
 ·have h2:=(hJ (by omega)).2 h1
  rw[dA (by simp;omega)];by_cases J:fits e
  ·have aj:=(hJ he).2 J;rw[dA (by simp;omega),dw ⟨h1,J⟩];rfl
  ·have aj : ¬(L e).length<=24:=fun h=>J ((hJ he).1 h);rw[dw (by simp;omega),dA (fun h=>J h.2)];rfl
 ·have aj : ¬(L m.natAbs).length<=24:=fun h=>h1 ((hJ (by omega)).1 h);rw[dw (by simp;omega),dA (fun h=>h1 h.1)];rfl
theorem agO {n d:Int}(bC:0<d)(y9:(L n.natAbs).length<=900000)(GD:(L d).length<=900000):(sl (gx n) (L d)).bind (fun r=>wm r)=some (o9 (low n d)):=by obtain⟨m,e,h1,h2,J,aj,av,aP⟩:=Ip (n:=n) bC;rw[LL bC y9 GD,dx,h1,h2,Vz (by omega)];unfold low;rw[h1,h2]
theorem LM {a b:Int}(bG:(L a.natAbs).length<=900000)(aW:(L b.natAbs).length<=900000):p5 (gx a) (gx b)=some (gx (a*b)):=by unfold p5;simp only[BV,EM];rw[EK (hB _) (hB _) (by omega) (by omega),d9 (by omega),d9 (by omega)];simp only[dC,dx];rw[so (Int.mul_nonneg (by omega) (by omega)),Vx];rfl
theorem UX {x y:Option (Int×Int)}(aa:vO x)(aU:vO y):BT (o9 x) (o9 y)=some (o9 (ux x y)):=by
 cases x with
 | none=>rfl
 | some p =>
  cases y with
  | none=>rfl
  | some q =>
   have ah:=aa p rfl;have aZ:=aU q rfl;have h1:=ah.oF;have h2:=ah.nY;have J:=aZ.oF;have aj:=aZ.nY;have av:=ah.pos;have aP:=aZ.pos;have ba:=st (x:=p.1.natAbs) (y:=q.1.natAbs) (by omega) (by omega) ah.num aZ.num;have bd:=st (x:=p.2) (y:=q.2) (by omega) (by omega) ah.den aZ.den;unfold BT xI;simp only[o9,Option.map_some,Option.elim_some,dC,dx,lp];rw[LM (by omega) (by omega)];simp only[dx];rw[EK (hB _) (hB _) (by omega) (by omega),d9 (by omega),d9 (by omega)];simp only[dx];have:=agO (n:=p.1*q.1) (d:=p.2*q.2) (Int.mul_pos av aP) (by rw[Int.natAbs_mul,Int.natCast_mul];omega) (by omega);rw[LL (Int.mul_pos av aP) (by rw[Int.natAbs_mul,Int.natCast_mul];omega) (by omega)] at this ⊢;simp only[dx] at this ⊢;rw[this,ED];simp only[dx,o9]
theorem UY:(1000000000000000000000000000:Int)<=B 24:=by
 have h:B 3<=B 24:=sx (by omega);have J:B 3=1000000000000000000000000000:=by decide
 omega
theorem af4:(1000000000000000000000000000:Int)<=B 60:=by have:=MC;have:=UY;omega
theorem ac0 {n:Int}(h:mS n):DR n=some (gx n):=by
 obtain⟨h1,h2⟩:=kT.1 h;have aW:=af4;unfold DR;by_cases hm:n = -9223372036854775808
 ·rw[dw (by simpa using hm)];have e:([854775808,223372036,9]:ar)=L 9223372036854775808:=wJ ⟨by intro x aa;simp at aa;omega,by simp⟩ (by decide);rw[e,ss (by omega) (by omega)];subst hm;rfl
 ·rw[dA (by simpa using hm)]
  by_cases aT:n<0
  ·rw[dw (by simpa using aT),cQ (by omega) (by omega),BU (by omega) (by omega)];simp only[dC,dx];rw[ss (by omega) (by omega)];simp only[dx];congr 2;unfold eO;simp
  ·rw[dA (by simpa using aT),BU (by omega) (by omega)];simp only[dC,dx];rw[ss (by omega) (by omega)];simp only[dx];congr 2
theorem Tk {n:Int}(h:mS n):pu n=some (gx n):=by
 obtain⟨h1,h2⟩:=kT.1 h;unfold pu;by_cases aT:n<0
 ·rw[dw (by simpa using aT),cQ (x:=n+1) (by omega) (by omega),cQ (x:=0-(n+1)) (by omega) (by omega),Fp (x:=0-(n+1)) (by omega) (by omega),Fp (by omega) (by omega),Lt (by omega) (by omega)];simp only[dC,dx];rw[so (by omega)];simp only[dx];congr 2;unfold eO;simp;omega
 ·rw[dA (by simpa using aT),Fp (by omega) (by omega),Lt (by omega) (by omega)];simp only[dC,dx];rw[so (by omega)];simp only[dx];congr 2
theorem MS:L 1=[1]:=Ih (by omega)
theorem La {n:Int}(h:mS n):nA n=some (mk (n,1)):=by unfold nA;rw[ac0 h];simp only[dC,dx,mk,MS]
theorem L4 {n:Int}(h:mS n):ub n=some (some (lp (n,1))):=by unfold ub;rw[Tk h];simp only[dC,dx,lp,MS]
theorem IG {n:Int}(h:mS n):Fr (n,1):=by obtain⟨h1,h2⟩:=kT.1 h;have aW:=UY;exact⟨by simp,by simp,by simp only;omega,by simp only;omega⟩
theorem TR {p q:Int×Int}(ah:Fr p)(aZ:Fr q):wg (mk p) (mk q)=some (kZ (p.1*q.2) (q.1*p.2)):=by
 have h1:=ah.oF;have h2:=ah.nY;have J:=aZ.oF;have aj:=aZ.nY;have av:=ah.pos;have aP:=aZ.pos;have ba:=st (x:=p.1.natAbs) (y:=q.2) (by omega) (by omega) ah.num aZ.den;have bd:=st (x:=q.1.natAbs) (y:=p.2) (by omega) (by omega) aZ.num ah.den;have zF:0<=(p.1.natAbs:Int)*q.2:=Int.mul_nonneg (by omega) (by omega);have XU:0<=(q.1.natAbs:Int)*p.2:=Int.mul_nonneg (by omega) (by omega);have kQ:((p.1*q.2).natAbs:Int)=(p.1.natAbs:Int)*q.2:=by rw[Int.natAbs_mul,Int.natCast_mul];congr 1;omega
 have nz:((q.1*p.2).natAbs:Int)=(q.1.natAbs:Int)*p.2:=by rw[Int.natAbs_mul,Int.natCast_mul];congr 1;omega
 have e1:i5 (mk p).d8.cc (mk q).e6=some (L ((p.1.natAbs:Int)*q.2)):=by show i5 (L p.1.natAbs) (L q.2)=_;rw[mul_eq (hB _) (hB _) (by omega) (by omega),d9 (by omega),d9 (by omega)]
 have e2:i5 (mk q).d8.cc (mk p).e6=some (L ((q.1.natAbs:Int)*p.2)):=by show i5 (L q.1.natAbs) (L p.2)=_;rw[mul_eq (hB _) (hB _) (by omega) (by omega),d9 (by omega),d9 (by omega)]
 have bN:jd (mk p).d8.cF (L ((p.1.natAbs:Int)*q.2))=some (gx (p.1*q.2)):=by show jd (decide (p.1<0)) _=_;rw[ss zF ((hJ zF).1 (by omega)),B5]
 have c0:jd (mk q).d8.cF (L ((q.1.natAbs:Int)*p.2))=some (gx (q.1*p.2)):=by show jd (decide (q.1<0)) _=_;rw[ss XU ((hJ XU).1 (by omega)),B5]
 unfold wg;rw[e1,dC,dx,bN,dC,dx,e2,dC,dx,c0,dx,aej (by rw[kQ];omega) (by rw[nz];omega)];rfl
theorem HS {p:Int×Int}{d:Int}(bC:0<=d)(h1:(L p.1.natAbs).length<=900000)(h2:(L d).length<=900000):sc (some (lp p)) (L d)=some (gx (p.1*d)):=by
 have e1:sm (lp p).sI.cc (L d)=some (L ((p.1.natAbs:Int)*d)):=by show sm (L p.1.natAbs) (L d)=_;rw[EK (hB _) (hB _) (by omega) (by omega),d9 (by omega),d9 (by omega)]
 have zF:0<=(p.1.natAbs:Int)*d:=Int.mul_nonneg (by omega) (by omega);have bN:mK (lp p).sI.cF (L ((p.1.natAbs:Int)*d))=some (gx (p.1*d)):=by show mK (decide (p.1<0)) _=_;rw[so zF,B5]
 unfold sc;rw[dC,dx,e1,dC,dx,bN];rfl
theorem E6 {a d:Int}(bC:0<=d):((a*d).natAbs:Int)=(a.natAbs:Int)*d:=by rw[Int.natAbs_mul,Int.natCast_mul];congr 1;omega
theorem acE {p q:Int×Int}{i j k l:Nat}(ah:0<p.2)(aZ:0<q.2)(h1:(p.1.natAbs:Int)<B i)(h2:p.2<B j)(J:(q.1.natAbs:Int)<B k)(aj:q.2<B l)(ab:i<=1000)(aq:j<=1000)(aX:k<=1000)(aV:l<=1000):DN (some (lp p)) (some (lp q))=some (kZ (p.1*q.2) (q.1*p.2)):=by have kN:=(hJ (by omega)).2 h1;have k3:=(hJ (by omega)).2 h2;have xd:=(hJ (by omega)).2 J;have kD:=(hJ (by omega)).2 aj;have ba:=st (x:=p.1.natAbs) (y:=q.2) (by omega) (by omega) h1 aj;have bd:=st (x:=q.1.natAbs) (y:=p.2) (by omega) (by omega) J h2;unfold DN;rw[dC,dx];show (sc (some (lp p)) (L q.2)).bind _=_;rw[HS (by omega) (by omega) (by omega),dx,dC,dx];show (sc (some (lp q)) (L p.2)).bind _=_;rw[HS (by omega) (by omega) (by omega),dx,Q7 (by rw[E6 (by omega)];omega) (by rw[E6 (by omega)];omega)];rfl
theorem ui (n b6 ab:Int):nB n b6 ab=some (decide (b6<=n/\n<=ab)):=by unfold nB;by_cases h:b6<=n<;>simp[h]
theorem Lw (n:Int):Eh n=some (decide (0<=n/\n<=1000)):=by unfold Eh;by_cases h:0<=n<;>simp[h]
theorem HT {α β:Type}{t:Nat->α->Option β}: ∀(l:List α) (k:Nat),(∀n x,l[n]? = some x->t (k+n) x=none)->scan t k l=none
 | [],_,_=>rfl
 | x::l,k,h=>by have h0:=h 0 x rfl;simp only[Nat.add_zero] at h0;simp only[scan,h0];exact HT l (k+1) fun n y aU=>by rw[show k+1+n=k+(n+1) by omega];exact h (n+1) y (by simpa using aU)
theorem SN (l:ar)(h:l.length<=1048576):BG l l=some true:=by
 have h1:R8 l l 0=some (.inl ()):=by have:=HP (f:=fun w=>A2 l l w) (t:=fun _ _=>none) (e:= .inl ()) l 0 (fun n x aa=>by have aT:=f5 aa;have hw:U ((n:Int)+1)=((n+1:Nat):Int):=(by rw[cQ (by omega) (by omega)];rfl);simp only[A2,fs,dG,hw];simp[aT]) (by simp[A2,fs]);rw[HT l 0 (fun _ _ _=>rfl)] at this;exact this
 simp[BG,h1]
theorem acF (j:ec):Ei j j=some true:=by simp[Ei]
theorem ach (j:eD):D6 j j=some true:=by simp[D6]
theorem aci (l:List ec)(h:l.length<=1048576):D5 l l=some true:=by
 have h1:Rt l l 0=some (.inl ()):=by have:=HP (f:=fun w=>AB l l w) (t:=fun _ _=>none) (e:= .inl ()) l 0 (fun n x aa=>by have aT:=f5 aa;have hw:U ((n:Int)+1)=((n+1:Nat):Int):=(by rw[cQ (by omega) (by omega)];rfl);simp only[AB,fs,dG,hw];simp[aT,acF]) (by simp[AB,fs]);rw[HT l 0 (fun _ _ _=>rfl)] at this;exact this
 simp[D5,h1]
theorem ab1 (l:List eD)(h:l.length<=1048576):DO l l=some true:=by
 have h1:Q6 l l 0=some (.inl ()):=by have:=HP (f:=fun w=>At l l w) (t:=fun _ _=>none) (e:= .inl ()) l 0 (fun n x aa=>by have aT:=f5 aa;have hw:U ((n:Int)+1)=((n+1:Nat):Int):=(by rw[cQ (by omega) (by omega)];rfl);simp only[At,fs,dG,hw];simp[aT,ach]) (by simp[At,fs]);rw[HT l 0 (fun _ _ _=>rfl)] at this;exact this
 simp[DO,h1]
theorem abk (s:c5)(h1:s.cu.length<=1048576)(h2:s.bI.length<=1048576):DC s s=some true:=by simp[DC,aci _ h1,ab1 _ h2]
theorem acG (j:ec)(left:Int)(aq:j.ms.size<=maxLen)(h0:0<=left)(h1:left<=1048576): ∃r,D8 j left=some r/\r<=left:=by
 have hm:j.ms.size<9223372036854775808:=by have:maxLen=9223372036854775807:=by decide
                                           omega
 have hw:U (left-j.ms.size)=left-j.ms.size:=cQ (by omega) (by omega);unfold D8;rw[hw];by_cases h:left-(j.ms.size:Int)<0
 ·exact⟨-1,by simp[h],by omega⟩
 ·exact⟨left-j.ms.size,by simp[h],by omega⟩
theorem acj (l:List ec)(left:Int)(aV:l.length<=maxLen)(aq:∀j∈l,j.ms.size<=maxLen)(h0:0<=left)(h1:left<=1048576):
 ∃r,DP l left=some r/\r<=left/\(0<=r->l.length<=1048576):=by
 have hm:maxLen=9223372036854775807:=by decide
 have hw:U (left-(l.length:Nat))=left-(l.length:Nat):=cQ (by omega) (by omega);unfold DP;simp only[fs,hw];by_cases h:left-(l.length:Int)<0
 ·exact⟨-1,by simp[h],by omega,by omega⟩
 ·obtain⟨r,r1,r2⟩:=jT (f:=fun w:Int×Int=>xp l w.1 w.2) (fun w=>0<=w.1/\w.1<=left/\0<=w.2/\w.2<=l.length) (fun w=>(l.length-w.2).toNat)
   (fun r=>match r with | .inl a=>a<=left | .inr _=>True) (fun w hw=>by
     obtain⟨a,i⟩:=w;simp only at hw;obtain⟨iW,re,vW,al8⟩:=hw;by_cases ab:i<l.length
     ·obtain⟨x,aa⟩ : ∃x,l[i.toNat]? = some x:=⟨_,dz (by omega)⟩
      obtain⟨r,s1,s2⟩:=acG x a (aq x (dH aa)) iW (by omega);obtain⟨aT,rfl⟩:=List.getElem?_eq_some_iff.1 aa;have Ga:U (i+1)=i+1:=cQ (by omega) (by omega);by_cases ai:r<0
      ·right;exact⟨.inr (),by simp[xp,fs,ab,vW,aa,s1,ai],trivial⟩
      ·left
       refine⟨(r,i+1),by simp[xp,fs,ab,vW,aa,s1,ai,Ga],?_,?_⟩
       ·simp only;omega
       ·simp only;omega
     ·right;exact⟨.inl a,by simp[xp,fs,ab],by simpa using re⟩) (left-(l.length:Nat),0) (by simp only;omega)
  have zr:Q9 l (left-(l.length:Nat)) 0=some r:=r1;rw[zr]
  cases r with
  | inl a=>exact⟨a,by simp[h],r2,by omega⟩
  | inr a=>exact⟨-1,by simp[h],by omega,by omega⟩
theorem ab2 (l:List eD)(left:Int)(aV:l.length<=maxLen)(h0:0<=left)(h1:left<=1048576):
 ∃r,DJ l left=some r/\r<=left/\(0<=r->l.length<=1048576):=by
 have hm:maxLen=9223372036854775807:=by decide
 have hw:U (left-(l.length:Nat))=left-(l.length:Nat):=cQ (by omega) (by omega);unfold DJ;simp only[fs,hw];by_cases h:left-(l.length:Int)<0
 ·exact⟨-1,by simp[h],by omega,by omega⟩
 ·exact⟨left-(l.length:Nat),by simp[h],by omega,by omega⟩
theorem abl (s:c5)(i0:pv s)(left:Int)(h0:0<=left)(h1:left<=1048576):
 ∃r,DA s left=some r/\(0<=r->s.cu.length<=1048576/\s.bI.length<=1048576):=by
 obtain⟨⟨hi,hn⟩,bA,fw⟩:=i0;obtain⟨r,r1,r2,a6⟩:=acj s.cu left hi (fun j aq=>(hn j aq).1) h0 h1;unfold DA;rw[r1];by_cases h:r<0
 ·exact⟨-1,by simp[h],by omega⟩
 ·obtain⟨q,q1,q2,bP⟩:=ab2 s.bI r bA (by omega) (by omega)
  by_cases aZ:q<0
  ·exact⟨-1,by simp[h,q1,aZ],by omega⟩
  ·exact⟨q,by simp[h,q1,aZ],fun _=>⟨a6 (by omega),bP (by omega)⟩⟩
theorem wj:maxLen=9223372036854775807:=by decide
theorem adC (n:Int):Bw n=nB n (-50) 50:=by rw[ui];unfold Bw;by_cases h : -50<=n<;>simp[h]
theorem ac1 (c:Int):D0 c=some (decide (97<=c/\c<=122)):=by unfold D0;by_cases h:97<=c<;>simp[h]
theorem adD (c:Int):Eb c=some (decide (48<=c/\c<=57)):=by unfold Eb;by_cases h:48<=c<;>simp[h]
theorem ac2 (s:ByteArray)(i:Int):Dr s s.size i=vZ s i:=by
 unfold Dr vZ;generalize ((s.data.toList.getD i.toNat 0).toNat:Int)=c;simp only[ac1,adD,dC,dx]
 by_cases h1:i<(s.size:Int)<;>by_cases h0:0<=i<;>by_cases a:(97:Int)<=c<;>by_cases b:c<=122<;>by_cases d:i=0<;>by_cases e:c<48<;>by_cases f:57<c <;>
  simp[h1,h0,a,b,d,e,f,Int.not_lt.1,Int.not_le]<;>omega
theorem aek (s:ByteArray):En s=wc s:=by
 have h:K3 s s.size 0=Hj s 0:=by unfold K3 Hj;congr 1;funext w;exact ac2 s w
 unfold En wc;rw[h];congr 1;funext r
 cases r with
 | inr a=>rfl
 | inl a =>
  simp only[ui,dC,dx];by_cases h0:s.size=0
  ·have:s=⟨#[]⟩:=by
    cases s with
    | mk d=>simp only[ByteArray.size] at h0;rw[Array.size_eq_zero_iff] at h0;rw[h0]
   subst this;have e0:(ByteArray.mk #[]).size=0:=rfl;simp[e0]
  ·have c8:s.toList≠(⟨#[]⟩:ByteArray).toList:=by
    intro e;have aV : ∀x:ByteArray,x.toList.length=x.size:=(by intro x;rw[ByteArray.toList_eq];rfl);have:=aV s;rw[e,aV] at this;exact h0 this.symm
   simp only[beq_iff_eq,c8,Bool.not_eq_true',beq_eq_false_iff_ne,ne_eq,not_false_eq_true,if_true];congr 1;apply decide_eq_decide.2;omega
theorem ac3 (s:ByteArray)(bJ:s.size<=maxLen): ∃r,wc s=some r:=by
 have hm:=wj
 obtain⟨r,h,-⟩:=jT (f:=fun w=>vZ s w) (fun i=>0<=i/\i<=s.size) (fun i=>(s.size-i).toNat) (fun _=>True) (fun i ab=>by
  obtain⟨h0,h1⟩:=ab;by_cases h2:i<(s.size:Int)
  ·have hw:U (i+1)=i+1:=cQ (by omega) (by omega)
   unfold vZ;generalize ((s.data.toList.getD i.toNat 0).toNat:Int)=c;have ahy:0<=i+1/\i+1<=(s.size:Int):=(by omega);have nw:((s.size:Int)-(i+1)).toNat<((s.size:Int)-i).toNat:=by omega
   have key : ∀x:Option (Int⊕(Unit⊕Unit)),(x=some (.inl (i+1))\/x=some (.inr (.inr ())))->(∃ej,x=some (.inl ej)/\(0<=ej/\ej<=(s.size:Int))/\((s.size:Int)-ej).toNat<((s.size:Int)-i).toNat)\/ ∃r,x=some (.inr r)/\True:=by
    intro x aa;rcases aa with aa|aa
    ·exact .inl ⟨i+1,aa,ahy,nw⟩
    ·exact .inr ⟨_,aa,trivial⟩
   apply key;simp only[h2,h0,hw,decide_true,if_true,and_self];by_cases a:(97:Int)<=c<;>by_cases b:c<=122<;>by_cases d:i=0<;>by_cases e:c<48<;>by_cases f:57<c<;>simp[a,b,d,e,f]
  ·exact .inr ⟨.inl (),by simp[vZ,h2],trivial⟩) 0 (by omega)
 have c1:Hj s 0=some r:=h;unfold wc;rw[c1]
 cases r with
 | inl a=>exact⟨_,by simp[ui];rfl⟩
 | inr a=>exact⟨_,rfl⟩
theorem adE (j:ec):Ec j=rj j:=by unfold Ec rj;simp only[aek,adC]
theorem Ss (j:ec)(h:j.ms.size<=maxLen): ∃r,rj j=some r:=by
 obtain⟨r,ai⟩:=ac3 _ h;unfold rj;simp only[ai,ui,dC,dx]
 repeat' split
 all_goals exact⟨_,rfl⟩
theorem ack (s:c5)(n:ByteArray):DH s n=xJ s n:=by
 have h:JW s.cu n (len_ cq s.cu) 0=Du n s.cu (len_ cq s.cu) 0:=by unfold JW Du;congr 1
 unfold DH xJ G1;rw[h]
 cases Du n s.cu (len_ cq s.cu) 0 with
 | none=>rfl
 | some r=>cases r<;>rfl
theorem RM (s:c5)(n:ByteArray)(h:s.cu.length<=maxLen): ∃r,xJ s n=some r:=by
 have hm:=wj
 obtain⟨r,h1,-⟩:=jT (f:=fun w=>Ag n s.cu (len_ cq s.cu) w) (fun i=>0<=i/\i<=s.cu.length) (fun i=>(s.cu.length-i).toNat) (fun _=>True) (fun i ab=>by
  obtain⟨h0,h1⟩:=ab;by_cases h2:i<(s.cu.length:Int)
  ·have hw:U (i+1)=i+1:=cQ (by omega) (by omega)
   obtain⟨x,aa⟩ : ∃x,s.cu[i.toNat]? = some x:=⟨_,dz (by omega)⟩;unfold Ag;simp only[fs,h2,h0,hw,aa,decide_true,if_true,and_self,dC,dx];by_cases e:(x.ms.toList == n.toList)=true
   ·exact .inr ⟨_,by rw[dw e],trivial⟩
   ·exact .inl ⟨i+1,by rw[dA e],by omega,by omega⟩
  ·exact .inr ⟨.inl (),by simp[Ag,fs,h2],trivial⟩) 0 (by omega)
 have c1:Du n s.cu (len_ cq s.cu) 0=some r:=h1;unfold xJ;rw[c1]
 cases r with
 | inl a=>exact⟨_,rfl⟩
 | inr a=>exact⟨_,rfl⟩
theorem RN (s:c5):Ks s.cu (len_ cq s.cu) s.bI 0=AU s.cu (len_ cq s.cu) s.bI 0:=by unfold Ks AU;congr 1;funext w;unfold G4 tU;simp only[adE,ack]
theorem Q8 (s:c5)(i0:pv s): ∃r,AU s.cu (len_ cq s.cu) s.bI 0=some r:=by
 have hm:=wj;obtain⟨⟨hi,hn⟩,-⟩:=i0
 obtain⟨r,h1,-⟩:=jT (f:=fun w=>tU s.cu (len_ cq s.cu) s.bI w) (fun i=>0<=i/\i<=s.cu.length) (fun i=>(s.cu.length-i).toNat) (fun _=>True) (fun i ab=>by
  obtain⟨h0,h1⟩:=ab;by_cases h2:i<(s.cu.length:Int)
  ·have hw:U (i+1)=i+1:=cQ (by omega) (by omega)
   obtain⟨x,aa⟩ : ∃x,s.cu[i.toNat]? = some x:=⟨_,dz (by omega)⟩;obtain⟨p,ah⟩:=Ss x (hn x (dH aa)).1;obtain⟨q,aZ⟩:=RM ⟨s.cu,s.bI⟩ x.ms hi;unfold tU;simp only[fs,h2,h0,hw,aa,ah,aZ,decide_true,if_true,and_self,dC,dx];by_cases e:p=true
   ·rw[dw e]
    by_cases e2:(q != i)=true
    ·exact .inr ⟨_,by rw[dw e2],trivial⟩
    ·exact .inl ⟨i+1,by rw[dA e2],by omega,by omega⟩
   ·exact .inr ⟨_,by rw[dA e],trivial⟩
  ·exact .inr ⟨.inl (),by simp[tU,fs,h2],trivial⟩) 0 (by omega)
 exact⟨r,h1⟩
def ru (iH:List ec)(m:eD):Bool :=
 decide (0<=m.eb/\m.eb<iH.length/\0<=m.ew/\m.ew<iH.length/\1<=m.jz/\m.jz<=3) &&
 match iH[m.eb.toNat]?,iH[m.ew.toNat]? with
 | some a,some b=> !(a.iz == b.iz && a.iV == b.iV) && !(a.mo && b.mo)
 | _,_=>false
theorem Lm (s:c5)(m:eD):Dh s m=some (ru s.cu m):=by
 unfold Dh ru;simp only[fs];by_cases h1:m.eb<0
 ·simp[h1];omega
 by_cases h2:(s.cu.length:Int)<=m.eb
 ·simp[h1,h2];omega
 by_cases J:m.ew<0
 ·simp[h1,h2,J];omega
 by_cases aj:(s.cu.length:Int)<=m.ew
 ·simp[h1,h2,J,aj];omega
 by_cases av:m.jz<1
 ·simp[h1,h2,J,aj,av];omega
 by_cases aP:3<m.jz
 ·simp[h1,h2,J,aj,av,aP];omega
 obtain⟨x,aa⟩ : ∃x,s.cu[m.eb.toNat]? = some x:=⟨_,dz (by omega)⟩;obtain⟨y,aU⟩ : ∃y,s.cu[m.ew.toNat]? = some y:=⟨_,dz (by omega)⟩;have bl:0<=m.eb/\m.eb<s.cu.length:=by omega
 have cm:0<=m.ew/\m.ew<s.cu.length:=by omega
 have j5:0<=m.eb/\m.eb<s.cu.length/\0<=m.ew/\m.ew<s.cu.length/\1<=m.jz/\m.jz<=3:=by omega
 rw[decide_eq_false h1,decide_eq_false h2,decide_eq_false J,decide_eq_false aj,decide_eq_false av,decide_eq_false aP,decide_eq_true j5,dw bl,aa];simp only[Bool.false_eq_true,if_false,dC,dx,Bool.true_and];rw[dw cm,aU];simp only[dx];by_cases e1:x.iz=y.iz<;>by_cases e2:x.iV=y.iV<;>by_cases C0:x.mo=true<;>by_cases GA:y.mo=true<;>simp[e1,e2,C0,GA]
theorem ab3 (iH:List ec)(gi:List eD)(aq:iH.length<=6)(Jd:gi.length<=8)(i:Int):
 Dg (U (len_ cq iH-1)) gi (len_ cx gi) iH i =
 (sa gi iH gi (len_ cx gi) i).map (Sum.map id (Sum.map id fun _=>())):=by
 have hw:U ((iH.length:Nat)-1)=(iH.length:Nat)-1:=cQ (by omega) (by omega);unfold Dg sa A5;simp only[fs,hw,Lm,ui,dC,dx];by_cases h1:i<(gi.length:Int)
 ·by_cases h0:0<=i
  ·obtain⟨m,hm⟩ : ∃x,gi[i.toNat]? = some x:=⟨_,dz (by omega)⟩
   simp only[h1,h0,hm,decide_true,if_true,and_self,dx];unfold ru;by_cases hA:0<=m.eb/\m.eb<=(iH.length:Int)-1
   ·by_cases gl:0<=m.ew/\m.ew<=(iH.length:Int)-1
    ·by_cases iG:1<=m.jz/\m.jz<=3
     ·obtain⟨x,aa⟩ : ∃x,iH[m.eb.toNat]? = some x:=⟨_,dz (by omega)⟩;obtain⟨y,aU⟩ : ∃y,iH[m.ew.toNat]? = some y:=⟨_,dz (by omega)⟩;have bl:0<=m.eb/\m.eb<iH.length:=(by omega);have cm:0<=m.ew/\m.ew<iH.length:=(by omega);have j5:0<=m.eb/\m.eb<iH.length/\0<=m.ew/\m.ew<iH.length/\1<=m.jz/\m.jz<=3:=(by omega);rw[decide_eq_true hA,decide_eq_true gl,decide_eq_true iG,decide_eq_true j5];simp only[if_true,dx,Bool.true_and];rw[dw bl,aa];simp only[dx];rw[dw cm,aU];simp only[dx];by_cases e1:x.iz=y.iz<;>by_cases e2:x.iV=y.iV<;>by_cases C0:x.mo=true<;>by_cases GA:y.mo=true<;>simp[e1,e2,C0,GA]
     ·have j5 : ¬(0<=m.eb/\m.eb<iH.length/\0<=m.ew/\m.ew<iH.length/\1<=m.jz/\m.jz<=3):=(by omega);rw[decide_eq_true hA,decide_eq_true gl,decide_eq_false iG,decide_eq_false j5];simp
    ·have j5 : ¬(0<=m.eb/\m.eb<iH.length/\0<=m.ew/\m.ew<iH.length/\1<=m.jz/\m.jz<=3):=(by omega);rw[decide_eq_true hA,decide_eq_false gl,decide_eq_false j5];simp
   ·have j5 : ¬(0<=m.eb/\m.eb<iH.length/\0<=m.ew/\m.ew<iH.length/\1<=m.jz/\m.jz<=3):=(by omega);rw[decide_eq_false hA,decide_eq_false j5];simp
  ·simp[h1,h0]
 ·simp[h1]
theorem QJ (iH:List ec)(gi:List eD)(Jd:gi.length<=8): ∃r,GY gi iH gi (len_ cx gi) 0=some r/\ ∀k,r = .inr k->0<=k:=by
 exact jT (f:=fun w=>sa gi iH gi (len_ cx gi) w) (fun i=>0<=i/\i<=gi.length) (fun i=>(gi.length-i).toNat) (fun r=> ∀k,r = .inr k->0<=k) (fun i ab=>by
  obtain⟨h0,h1⟩:=ab;by_cases h2:i<(gi.length:Int)
  ·have hw:U (i+1)=i+1:=cQ (by omega) (by omega)
   obtain⟨x,aa⟩ : ∃x,gi[i.toNat]? = some x:=⟨_,dz (by omega)⟩;unfold sa A5;simp only[fs,h2,h0,hw,aa,Lm,decide_true,if_true,and_self,dC,dx];by_cases e:(!ru iH x)=true
   ·exact .inr ⟨_,by rw[dw e],by intro k aX;simp at aX;omega⟩
   ·exact .inl ⟨i+1,by rw[dA e],by omega,by omega⟩
  ·exact .inr ⟨.inl (),by simp[sa,fs,h2],by intro k aX;simp at aX⟩) 0 (by omega)
theorem KI (s:c5)(i0:pv s): ∃r,nQ s=some r/\xH s=some r:=by
 unfold nQ xH;by_cases h1:6<(s.cu.length:Int)
 ·exact⟨false,by simp[fs,h1],by simp[fs,h1]⟩
 by_cases h2:8<(s.bI.length:Int)
 ·exact⟨false,by simp[fs,h1,h2],by simp[fs,h1,h2]⟩
 obtain⟨r,ai⟩:=Q8 s i0;rw[RN,ai];obtain⟨q,aZ,mv⟩:=QJ s.cu s.bI (by omega)
 have ajm:Qe (U (len_ cq s.cu-1)) s.bI (len_ cx s.bI) s.cu 0=some (Sum.map id (fun _=>()) q) :=
  Ue (f:=fun w=>sa s.bI s.cu s.bI (len_ cx s.bI) w) (Sum.map id fun _=>()) (fun _=>True) (fun _ _ _ _=>trivial)
   (fun i _=>ab3 s.cu s.bI (by omega) (by omega) i) 0 q aZ trivial
 simp only[C9,Db,aZ,ajm,dC,dx];have d1:decide ((6:Int)<len_ cq s.cu)=false:=by rw[fs];exact decide_eq_false h1
 have d2:decide ((8:Int)<len_ cx s.bI)=false:=by rw[fs];exact decide_eq_false h2
 rw[d1,d2];simp only[Bool.false_eq_true,if_false]
 cases r with
 | inr a=>exact⟨false,rfl,rfl⟩
 | inl a =>
  cases q with
  | inl b=>exact⟨true,rfl,by simp⟩
  | inr k =>
   have:=mv k rfl;exact⟨false,rfl,by simp[this]⟩
theorem ab4 (l:ar)(i:Int):Dk l (len_ eI l) i=(sb l (len_ eI l) i).map (Sum.map id (Sum.map id fun _=>())):=by
 unfold Dk sb Bc;simp only[Lw,ui,dC,dx];by_cases h1:i<len_ eI l
 ·by_cases h2:0<=i/\i<l.length
  ·cases aa:l[i.toNat]? with
   | none=>simp[h1]
   | some x =>
    simp only[h1,h2,decide_true,if_true,and_self,dx];cases bC:decide (0<=x/\x<=1000)<;>simp
  ·rw[decide_eq_true h1,dA h2];simp[h2]
 ·simp[h1]
theorem aaR (l:ar)(aV:l.length<=maxLen): ∃r,JX l (len_ eI l) 0=some r/\ ∀k,r = .inr k->0<=k:=by
 have hm:=wj
 exact jT (f:=fun w=>sb l (len_ eI l) w) (fun i=>0<=i/\i<=l.length) (fun i=>(l.length-i).toNat) (fun r=> ∀k,r = .inr k->0<=k) (fun i ab=>by
  obtain⟨h0,h1⟩:=ab;by_cases h2:i<(l.length:Int)
  ·have hw:U (i+1)=i+1:=cQ (by omega) (by omega)
   obtain⟨x,aa⟩ : ∃x,l[i.toNat]? = some x:=⟨_,dz (by omega)⟩;unfold sb Bc;simp only[fs,h2,h0,hw,aa,Lw,decide_true,if_true,and_self,dC,dx];by_cases e:(!decide (0<=x/\x<=1000))=true
   ·exact .inr ⟨_,by rw[dw e],by intro k aX;simp at aX;omega⟩
   ·exact .inl ⟨i+1,by rw[dA e],by omega,by omega⟩
  ·exact .inr ⟨.inl (),by simp[sb,fs,h2],by intro k aX;simp at aX⟩) 0 (by omega)
theorem K6 (j:ec)(h:rj j=some true): -50<=j.iz/\j.iz<=50/\ -50<=j.iV/\j.iV<=50:=by
 unfold rj at h
 cases aT:wc j.ms with
 | none=>simp[aT] at h
 | some r =>
  simp only[aT,ui,dC,dx] at h
  cases r with
  | false=>simp at h
  | true =>
   by_cases a : -50<=j.iz/\j.iz<=50
   ·by_cases b : -50<=j.iV/\j.iV<=50
    ·omega
    ·simp[a,b] at h
   ·simp[a] at h
theorem ael (s:c5)(i0:pv s)(h:AU s.cu (len_ cq s.cu) s.bI 0=some (.inl ())): ∀(n:Nat) j,s.cu[n]? = some j->rj j=some true:=by
 have hm:=wj;obtain⟨⟨hi,hn⟩,-⟩:=i0
 obtain⟨r,h1,h2⟩:=jT (f:=fun w=>tU s.cu (len_ cq s.cu) s.bI w) (fun i=>0<=i/\i<=s.cu.length/\ ∀(n:Nat) j,(n:Int)<i->s.cu[n]? = some j->rj j=some true) (fun i=>(s.cu.length-i).toNat)
  (fun r=>r = .inl ()-> ∀(n:Nat) j,s.cu[n]? = some j->rj j=some true) (fun i ab=>by
  obtain⟨h0,h1,J⟩:=ab;by_cases h2:i<(s.cu.length:Int)
  ·have hw:U (i+1)=i+1:=cQ (by omega) (by omega)
   obtain⟨x,aa⟩ : ∃x,s.cu[i.toNat]? = some x:=⟨_,dz (by omega)⟩;obtain⟨p,ah⟩:=Ss x (hn x (dH aa)).1;obtain⟨q,aZ⟩:=RM ⟨s.cu,s.bI⟩ x.ms hi;unfold tU;simp only[fs,h2,h0,hw,aa,ah,aZ,decide_true,if_true,and_self,dC,dx];by_cases e:p=true
   ·rw[dw e]
    by_cases e2:(q != i)=true
    ·exact .inr ⟨_,by rw[dw e2],by simp⟩
    ·refine .inl ⟨i+1,by rw[dA e2],⟨by omega,by omega,fun n j aT aq=> ?_⟩,by omega⟩
     by_cases c:(n:Int)<i
     ·exact J n j c aq
     ·have:n=i.toNat:=(by omega);subst this;rw[aa] at aq;obtain rfl:=dI aq;rw[ah,e]
   ·exact .inr ⟨_,by rw[dA e],by simp⟩
  ·refine .inr ⟨.inl (),by simp[tU,fs,h2],fun _ n j aq=>J n j (by have:=f5 aq;omega) aq⟩) 0 ⟨by omega,by omega,fun n j aT=>by omega⟩
 have sM:AU s.cu (len_ cq s.cu) s.bI 0=some r:=h1;rw[h] at sM;exact h2 (dI sM).symm
theorem adF (iH:List ec)(gi:List eD)(Jd:gi.length<=8)(h:GY gi iH gi (len_ cx gi) 0=some (.inl ())): ∀(n:Nat) m,gi[n]? = some m->ru iH m=true:=by
 obtain⟨r,h1,h2⟩:=jT (f:=fun w=>sa gi iH gi (len_ cx gi) w) (fun i=>0<=i/\i<=gi.length/\ ∀(n:Nat) m,(n:Int)<i->gi[n]? = some m->ru iH m=true) (fun i=>(gi.length-i).toNat)
  (fun r=>r = .inl ()-> ∀(n:Nat) m,gi[n]? = some m->ru iH m=true) (fun i ab=>by
  obtain⟨h0,h1,J⟩:=ab;by_cases h2:i<(gi.length:Int)
  ·have hw:U (i+1)=i+1:=cQ (by omega) (by omega)
   obtain⟨x,aa⟩ : ∃x,gi[i.toNat]? = some x:=⟨_,dz (by omega)⟩;unfold sa A5;simp only[fs,h2,h0,hw,aa,Lm,decide_true,if_true,and_self,dC,dx];by_cases e:(!ru iH x)=true
   ·exact .inr ⟨_,by rw[dw e],by simp⟩
   ·refine .inl ⟨i+1,by rw[dA e],⟨by omega,by omega,fun n j aT aq=> ?_⟩,by omega⟩
    by_cases c:(n:Int)<i
    ·exact J n j c aq
    ·have:n=i.toNat:=(by omega);subst this;rw[aa] at aq;obtain rfl:=dI aq;simpa using e
  ·refine .inr ⟨.inl (),by simp[sa,fs,h2],fun _ n j aq=>J n j (by have:=f5 aq;omega) aq⟩) 0 ⟨by omega,by omega,fun n j aT=>by omega⟩
 have sM:GY gi iH gi (len_ cx gi) 0=some r:=h1;rw[h] at sM;exact h2 (dI sM).symm
theorem Dz (s:c5)(i0:pv s)(h:nQ s=some true):
 (∀(n:Nat) j,s.cu[n]? = some j->rj j=some true)/\(∀(n:Nat) m,s.bI[n]? = some m->ru s.cu m=true)/\s.cu.length<=6/\s.bI.length<=8:=by
 obtain⟨p,p1,p2⟩:=KI s i0;rw[h] at p1;obtain rfl:=dI p1;unfold xH at p2;by_cases h1:6<(s.cu.length:Int)
 ·simp[fs,h1] at p2
 by_cases h2:8<(s.bI.length:Int)
 ·simp[fs,h1,h2] at p2
 obtain⟨r,ai⟩:=Q8 s i0;rw[RN,ai] at p2;obtain⟨q,aZ,mv⟩:=QJ s.cu s.bI (by omega);have d1:decide ((6:Int)<len_ cq s.cu)=false:=by rw[fs];exact decide_eq_false h1
 have d2:decide ((8:Int)<len_ cx s.bI)=false:=by rw[fs];exact decide_eq_false h2
 rw[d1,d2] at p2;simp only[C9,Db,aZ,Bool.false_eq_true,if_false,dC,dx] at p2
 cases r with
 | inr a=>simp at p2
 | inl a =>
  cases q with
  | inr k =>
   have:=mv k rfl;simp[this] at p2
  | inl b=>exact⟨ael s i0 ai,adF s.cu s.bI (by omega) aZ,by omega,by omega⟩
def oe (s:c5):Prop:=(∀(n:Nat) j,s.cu[n]? = some j-> -50<=j.iz/\j.iz<=50/\ -50<=j.iV/\j.iV<=50)/\(∀(n:Nat) m,s.bI[n]? = some m->ru s.cu m=true)/\s.cu.length<=6/\s.bI.length<=8
theorem abI (s:c5)(i0:pv s)(h:nQ s=some true):oe s:=by obtain⟨f1,f2,f3,f4⟩:=Dz s i0 h;exact⟨fun n j aq=>K6 j (f1 n j aq),f2,f3,f4⟩
theorem af5 (s:c5)(h:oe s)(k:Int)(h0:0<=k)(h1:k<s.bI.length):
 ∃x y,rh s k=some (x,y)/\(-100<=x/\x<=100)/\(-100<=y/\y<=100):=by
 obtain⟨f1,f2,f3,f4⟩:=h;obtain⟨m,hm⟩ : ∃x,s.bI[k.toNat]? = some x:=⟨_,dz (by omega)⟩;have tP:=f2 _ m hm;unfold ru at tP;simp only[dL,decide_eq_true_eq] at tP;obtain⟨⟨g1,g2,g3,g4,-⟩,-⟩:=tP;obtain⟨a,bG⟩ : ∃x,s.cu[m.eb.toNat]? = some x:=⟨_,dz (by omega)⟩;obtain⟨b,aW⟩ : ∃x,s.cu[m.ew.toNat]? = some x:=⟨_,dz (by omega)⟩;have XV:=f1 _ a bG;have XW:=f1 _ b aW;have e1:U (b.iz-a.iz)=b.iz-a.iz:=cQ (by omega) (by omega);have e2:U (b.iV-a.iV)=b.iV-a.iV:=cQ (by omega) (by omega);have b3:0<=k/\k<s.bI.length:=⟨h0,h1⟩;have bl:0<=m.eb/\m.eb<s.cu.length:=⟨g1,g2⟩;have cm:0<=m.ew/\m.ew<s.cu.length:=⟨g3,g4⟩;refine⟨b.iz-a.iz,b.iV-a.iV,?_,by omega,by omega⟩;unfold rh;simp only[dw b3,hm,dw bl,dw cm,bG,aW,dC,dx,e1,e2]
theorem af6 (s:c5)(h:oe s)(k:Int)(h0:0<=k)(h1:k<s.bI.length){v:Int×Int}(bh:rh s k=some v):wa s k=some v:=by
 obtain⟨f1,f2,f3,f4⟩:=h;obtain⟨m,hm⟩ : ∃x,s.bI[k.toNat]? = some x:=⟨_,dz (by omega)⟩;have tP:=f2 _ m hm;unfold ru at tP;simp only[dL,decide_eq_true_eq] at tP;obtain⟨⟨g1,g2,g3,g4,-⟩,-⟩:=tP;obtain⟨a,bG⟩ : ∃x,s.cu[m.eb.toNat]? = some x:=⟨_,dz (by omega)⟩;obtain⟨b,aW⟩ : ∃x,s.cu[m.ew.toNat]? = some x:=⟨_,dz (by omega)⟩;have XV:=f1 _ a bG;have XW:=f1 _ b aW;have e1:U (b.iz-a.iz)=b.iz-a.iz:=cQ (by omega) (by omega);have e2:U (b.iV-a.iV)=b.iV-a.iV:=cQ (by omega) (by omega);have b3:0<=k/\k<s.bI.length:=⟨h0,h1⟩;have bl:0<=m.eb/\m.eb<s.cu.length:=⟨g1,g2⟩;have cm:0<=m.ew/\m.ew<s.cu.length:=⟨g3,g4⟩;have r6:rh s k=some (b.iz-a.iz,b.iV-a.iV):=by unfold rh;simp only[dw b3,hm,dw bl,dw cm,bG,aW,dC,dx,e1,e2]
 rw[bh] at r6;obtain rfl:=dI r6;unfold wa;simp only[dw b3,hm,dw bl,dw cm,bG,aW,dC,dx,e1,e2]
theorem aem (s:c5)(i0:pv s)(h:nQ s=some true)(k:Int)(h0:0<=k)(h1:k<s.bI.length):
 ∃x y,rh s k=some (x,y)/\wa s k=some (x,y)/\(-100<=x/\x<=100)/\(-100<=y/\y<=100):=by
 obtain⟨f1,f2,f3,f4⟩:=Dz s i0 h;obtain⟨m,hm⟩ : ∃x,s.bI[k.toNat]? = some x:=⟨_,dz (by omega)⟩;have tP:=f2 _ m hm;unfold ru at tP;simp only[dL,decide_eq_true_eq] at tP;obtain⟨⟨g1,g2,g3,g4,-⟩,-⟩:=tP;obtain⟨a,bG⟩ : ∃x,s.cu[m.eb.toNat]? = some x:=⟨_,dz (by omega)⟩;obtain⟨b,aW⟩ : ∃x,s.cu[m.ew.toNat]? = some x:=⟨_,dz (by omega)⟩;have XV:=K6 a (f1 _ a bG);have XW:=K6 b (f1 _ b aW);have e1:U (b.iz-a.iz)=b.iz-a.iz:=cQ (by omega) (by omega);have e2:U (b.iV-a.iV)=b.iV-a.iV:=cQ (by omega) (by omega);have b3:0<=k/\k<s.bI.length:=⟨h0,h1⟩;have bl:0<=m.eb/\m.eb<s.cu.length:=⟨g1,g2⟩;have cm:0<=m.ew/\m.ew<s.cu.length:=⟨g3,g4⟩;refine⟨b.iz-a.iz,b.iV-a.iV,?_,?_,by omega,by omega⟩
 ·unfold rh;simp only[dw b3,hm,dw bl,dw cm,bG,aW,dC,dx,e1,e2]
 ·unfold wa;simp only[dw b3,hm,dw bl,dw cm,bG,aW,dC,dx,e1,e2]
def E7 (r:ao):Prop:=r.d8.cc.length<=1048576/\r.e6.length<=1048576
def qU (p:Int×Int):Option cy:=some (lp p)
theorem adG (l:List ao)(h:l.length<=1048576)(ai:∀r∈l,E7 r):
 (∃xs:List (Int×Int),(∀p∈xs,Fr p)/\l=xs.map mk/\s9 l=some true/\BK l=some (xs.map qU,true))\/(s9 l=some false/\BK l=some ([],false)):=by
 have ma : ∀r∈l,∃o:Option (Int×Int),(∀p,o=some p->Fr p/\r=mk p)/\ml r=some o.isSome/\u7 r=some (o9 o):=by
  intro r tN;have hlen:=ai r tN;rcases af3 (r:=r) (by have:=hlen.1;omega) (by have:=hlen.2;omega) with ⟨p,h1,h2,J,aj⟩|⟨J,aj⟩
  ·exact⟨some p,fun q aZ=>by rw[<- dI aZ];exact⟨h1,h2⟩,J,aj⟩
  ·exact⟨none,fun q aZ=>by simp at aZ,J,aj⟩
 obtain⟨os,yZ,Cy⟩ : ∃os:List (Option (Int×Int)),os.length=l.length/\ ∀(n:Nat) r o,l[n]? = some r->os[n]? = some o->(∀p,o=some p->Fr p/\r=mk p)/\ml r=some o.isSome/\u7 r=some (o9 o):=by
  clear h ai
  induction l with
  | nil=>exact⟨[],rfl,fun n r o h=>by simp at h⟩
  | cons x l ih =>
   obtain⟨os,e1,e2⟩:=ih (fun r ai=>ma r (by simp[ai]));obtain⟨o,ak⟩:=ma x (by simp);refine⟨o::os,by simp[e1],fun n r ch h1 h2=> ?_⟩
   cases n with
   | zero =>
    simp at h1 h2;subst h1 h2;exact ak
   | succ n=>exact e2 n r ch (by simpa using h1) (by simpa using h2)
 have Fq:iter (fun w:Int=>uT l l.length w) 0=some (if os.all Option.isSome then .inl () else .inr ()):=L0 os Option.isSome (fun n o ak=>by have aT:=f5 ak;have aa:=dz (show n<l.length by omega);obtain⟨-,h2,-⟩:=Cy n _ o aa ak;unfold uT;rw[dw (by simp;omega),dw (by omega),dy,aa];simp only[dC,dx];rw[h2];simp only[dx];rw[i1 (by omega)];cases o.isSome<;>rfl) (by rw[yZ];simp[uT]);have Fs:iter (fun w:Int×List (Option cy)=>A8 l l.length w.1 w.2) (0,List.replicate l.length (none:Option cy))=some (if os.all Option.isSome then .inl (os.map o9) else .inr ()):=TH os Option.isSome o9 _ (by simp[yZ]) (fun n o row ak d6=>by have aT:=f5 ak;have aa:=dz (show n<l.length by omega);obtain⟨-,-,J⟩:=Cy n _ o aa ak;unfold A8;rw[dw (by simp;omega),dw (by omega),dy,aa];simp only[dC,dx];rw[J];simp only[dx];rw[dw (by omega),dG,dw (by omega),List.getElem?_set,dw rfl,dw (by omega)];simp only[dx];rw[i1 (by omega)];cases o<;>rfl) (fun row=>by rw[yZ];simp[A8]);unfold s9 KH BK Si;simp only[fs,dy];have aY:0<=(l.length:Int)/\(8:Int)*(l.length:Int)<=281474976710656/\(l.length:Int)<9223372036854775808:=by omega
 rw[Fq,Fs,dw aY];by_cases jY:os.all Option.isSome=true
 ·refine .inl ⟨os.filterMap id,?_,?_,by rw[jY];rfl,?_⟩
  ·intro p ah;obtain⟨o,ak,pe⟩:=List.mem_filterMap.mp ah;obtain⟨n,aT⟩:=List.mem_iff_getElem?.mp ak;have ep:=f5 aT;exact((Cy n _ o (dz (show n<l.length by omega)) aT).1 p pe).1
  ·clear Fq Fs ma ai h aY
   induction l generalizing os with
   | nil =>
    have:os=[]:=List.eq_nil_of_length_eq_zero yZ;subst this;rfl
   | cons x l ih =>
    cases os with
    | nil=>simp at yZ
    | cons o os =>
     simp only[List.all_cons,dL] at jY;obtain⟨p,rfl⟩:=Option.isSome_iff_exists.mp jY.1;have h1:=((Cy 0 x (some p) rfl rfl).1 p rfl).2;have h2:=ih os (by simpa using yZ) (fun n r o J aj=>Cy (n+1) r o (by simpa using J) (by simpa using aj)) jY.2;simp only[List.filterMap_cons,id,List.map_cons];rw[<- h2,<- h1]
  ·rw[jY]
   simp only[if_true,dC,dx];congr 2;clear Fq Fs ma ai h Cy yZ
   induction os with
   | nil=>rfl
   | cons o os ih =>
    simp only[List.all_cons,dL] at jY;obtain⟨p,rfl⟩:=Option.isSome_iff_exists.mp jY.1;simp only[List.filterMap_cons,id,List.map_cons];rw[ih jY.2];rfl
 ·simp only[Bool.not_eq_true] at jY;refine .inr ⟨by rw[jY];rfl,by rw[jY];rfl⟩
theorem aen (s:c5)(i0:pv s)(q:List ao)(h:q.length<=1048576)(ai:∀r∈q,E7 r):
 (∃xs:List (Int×Int),(∀p∈xs,Fr p)/\q=xs.map mk/\q.length=s.bI.length/\nQ s=some true/\wb s q=some true/\Bo s q=some (xs.map qU,true))\/(wb s q=some false/\Bo s q=some ([],false)):=by
 obtain⟨o,bQ,aN⟩:=KI s i0;unfold wb Bo;simp only[fs];rw[bQ,aN];by_cases aV:q.length=s.bI.length
 ·cases o with
  | false =>
   refine .inr ⟨rfl,?_⟩;simp[aV]
  | true =>
   rcases adG q h ai with ⟨xs,x1,x2,aw,fJ⟩|⟨aw,fJ⟩
   ·refine .inl ⟨xs,x1,x2,aV,rfl,?_,?_⟩
    ·simp[aV,aw]
    ·simp[aV,fJ]
   ·refine .inr ⟨?_,?_⟩
    ·simp[aV,aw]
    ·simp[aV,fJ]
 ·refine .inr ⟨?_,?_⟩
  ·cases o<;>simp[aV]<;>omega
  ·have:((q.length:Int) != (s.bI.length:Int))=true:=(by simp;omega);rw[dw this]
noncomputable def N8 (x:Int×Int)(C7:Int):Option (Int×Int):=ux (ux (some x) (some x)) (some (C7,1))
theorem sr {p:Int×Int}(h:Fr p):vO (some p):=fun q aZ=>by rw[<- dI aZ];exact h
theorem Tl {n d:Int}(aT:0<=n): ∀p,low n d=some p->0<=p.1:=by
 intro p ah;unfold low at ah;split at ah
 ·rw[<- dI ah];exact Int.ediv_nonneg aT (by omega)
 ·simp at ah
theorem agP {x:Int×Int}(aa:Fr x){C7:Int}(h0:0<=C7)(h1:C7<=1000000): ∀p,N8 x C7=some p->Fr p/\0<=p.1:=by
 intro p ah;have bJ:Fr (C7,1):=IG (kT.2 (by omega));have tD:=Ir (sr aa) (sr aa);refine⟨Ir tD (sr bJ) p ah,?_⟩;unfold N8 at ah;rw[ED] at ah
 cases aV:low (x.1*x.1) (x.2*x.2) with
 | none=>rw[aV] at ah;simp[ux] at ah
 | some q =>
  rw[aV,ED] at ah
  have J:=Tl (n:=x.1*x.1) (d:=x.2*x.2) (by rcases Int.le_total 0 x.1 with h|h
                                           ·exact Int.mul_nonneg h h
                                           ·exact Int.mul_nonneg_of_nonpos_of_nonpos h h) q aV
  exact Tl (Int.mul_nonneg J h0) p ah
def Wo (s:c5)(q:List ao)(xs:List (Int×Int))(k:Nat)(o:Option (Int×Int)):Prop :=
 (∀p,o=some p->Fr p/\0<=p.1)/\Bh s q k=some (enc o,o.isSome)/\z5 s (xs.map qU) k=some (o9 o)
theorem sq_nonneg (x:Int):0<=x*x:=by
 rcases Int.le_total 0 x with h|h
 ·exact Int.mul_nonneg h h
 ·exact Int.mul_nonneg_of_nonpos_of_nonpos h h
theorem V2 {x:Int}(h0:-100<=x)(h1:x<=100):x*x<=10000:=by
 have h2:=Int.mul_nonneg (show 0<=100+x by omega) (show 0<=100-x by omega);have e:(100+x)*(100-x)=10000-x*x:=by grind
 omega
theorem SO {n k:Nat}(aX:k<n)(aT:n<=1000000):nB (k:Int) 0 (U ((n:Int)-1))=some true:=by rw[ui,cQ (by omega) (by omega)];simp;omega
theorem aeo (s:c5)(i0:pv s)(q:List ao)(xs:List (Int×Int))(aa:∀p∈xs,Fr p)(aZ:q=xs.map mk)(aV:q.length=s.bI.length)(lk:nQ s=some true)(ig:wb s q=some true)(k:Nat)(aX:k<s.bI.length): ∃o,Wo s q xs k o:=by
 obtain⟨-,-,-,Xl⟩:=Dz s i0 lk;obtain⟨x,y,v1,v2,v3,v4⟩:=aem s i0 lk k (by omega) (by omega);have Jk:xs.length=s.bI.length:=by rw[<- aV,aZ];simp
 have N9:=dz (show k<xs.length by omega);have lN:=aa _ (dH N9);have s1:=sq_nonneg x;have s2:=sq_nonneg y;have w6:=V2 v3.1 v3.2;have XT:=V2 v4.1 v4.2;have hw:U (U (x*x)+U (y*y))=x*x+y*y:=by rw[cQ (x:=x*x) (by omega) (by omega),cQ (x:=y*y) (by omega) (by omega),cQ (by omega) (by omega)]
 have lb:mS (x*x+y*y):=kT.2 (by omega);have bJ:Fr (x*x+y*y,1):=IG lb;have tD:=Ir (sr lN) (sr lN);refine⟨N8 xs[k] (x*x+y*y),agP lN (by omega) (by omega),?_,?_⟩
 ·have bh:DX s k=some (x,y):=by
   unfold DX;rw[lk];simp only[dC,dx,if_true,fs];rw[SO aX (by omega)];simp only[dx,if_true];rw[v2];rfl
  have NM:DY s k=some (x*x+y*y):=(by unfold DY;rw[bh];simp only[dC,dx];rw[hw]);have ajn:q[k]? = some (enc (some xs[k])):=(by rw[aZ,dJ,N9];rfl);unfold Bh;rw[ig];simp only[dC,dx,if_true,fs];rw[SO aX (by omega)];simp only[dx,if_true];rw[dw (by omega),dy,ajn];simp only[dx];rw[TQ (sr lN) (sr lN)];simp only[dx];rw[NM];simp only[dx];rw[La lb];simp only[dx];have e1:mk (x*x+y*y,1)=enc (some (x*x+y*y,1)):=rfl;rw[e1,TQ tD (sr bJ)];simp only[dx];rw[MD (Ir tD (sr bJ))];rfl
 ·have ajo:(xs.map qU)[k]? = some (o9 (some xs[k])):=(by rw[dJ,N9];rfl);unfold z5;rw[v1];simp only[dC,dx];rw[dw (by simp;omega),dy,ajo];simp only[dx];rw[UX (sr lN) (sr lN)];simp only[dx];rw[hw,L4 lb];simp only[dx];have e1:some (lp (x*x+y*y,1))=o9 (some (x*x+y*y,1)):=rfl;rw[e1,UX tD (sr bJ)];rfl
theorem afp {os:List (Option (Int×Int))}(h:os.all Option.isSome=true):os=(os.filterMap id).map some:=by
 induction os with
 | nil=>rfl
 | cons o os ih =>
  simp only[List.all_cons,dL] at h;obtain⟨p,rfl⟩:=Option.isSome_iff_exists.mp h.1;simp only[List.filterMap_cons,id,List.map_cons];rw[<- ih h.2]
theorem acH (s:c5)(i0:pv s)(q:List ao)(h:q.length<=1048576)(ai:∀r∈q,E7 r):
 (∃bs:List (Int×Int),(∀p∈bs,Fr p/\0<=p.1)/\bs.length=s.bI.length/\s.bI.length<=8/\nQ s=some true/\v9 s q=some (bs.map mk,true)/\xF s q=some (bs.map qU,true))\/(v9 s q=some ([],false)/\xF s q=some ([],false)):=by
 rcases aen s i0 q h ai with ⟨xs,aa,aZ,aV,lk,ig,Nc⟩|⟨ig,Nc⟩
 ·obtain⟨-,-,-,Xl⟩:=Dz s i0 lk
  obtain⟨os,bQ,aN⟩:=TI (P:=Wo s q xs) s.bI.length (fun k aX=>aeo s i0 q xs aa aZ aV lk ig k aX);have Jk:xs.length=s.bI.length:=by rw[<- aV,aZ];simp
  have Fq:iter (fun w:Int×List ao=>As q s.bI.length s.cu s.bI w.1 w.2) (0,[])=some (if os.all Option.isSome then .inl (os.map enc) else .inr ()):=ae9 os Option.isSome enc (fun n o row ak d6=>by
   have aT:=f5 ak;obtain⟨-,h2,-⟩:=aN n o ak;have F5:Bh (⟨s.cu,s.bI⟩:c5) q n=some (enc o,o.isSome):=h2;unfold As;rw[dw (by simp;omega),F5];simp only[dC,dx];rw[i1 (by omega)];cases o.isSome
   ·rfl
   ·rw[dw rfl,dw (by simp;omega),dw rfl]) (fun row=>by rw[bQ];simp[As])
  have Fs:iter (fun w:Int×List (Option cy)=>z8 s.cu s.bI (xs.map qU) xs.length w.1 w.2) (0,List.replicate xs.length (none:Option cy))=some (if os.all Option.isSome then .inl (os.map o9) else .inr ()):=TH os Option.isSome o9 _ (by simp;omega) (fun n o row ak d6=>by have aT:=f5 ak;obtain⟨-,-,J⟩:=aN n o ak;have Nz:z5 (⟨s.cu,s.bI⟩:c5) (xs.map qU) n=some (o9 o):=J;unfold z8;rw[dw (by simp;omega),Nz];simp only[dC,dx];rw[dw (by omega),dy,dG,dw (by omega),List.getElem?_set,dw rfl,dw (by omega)];simp only[dx];rw[i1 (by omega)];cases o<;>rfl) (fun row=>by rw[bQ,<- Jk];simp[z8]);unfold v9 QE xF Qb;rw[ig,Nc];simp only[dC,dx,if_true,fs,List.length_map,dy];have aY:0<=(xs.length:Int)/\(8:Int)*(xs.length:Int)<=281474976710656/\(xs.length:Int)<9223372036854775808:=(by omega);rw[Fq,Fs,dw aY];by_cases jY:os.all Option.isSome=true
  ·have pK:=afp jY
   refine .inl ⟨os.filterMap id,?_,?_,Xl,lk,?_,?_⟩
   ·intro p ah;obtain⟨o,ak,pe⟩:=List.mem_filterMap.mp ah;obtain⟨n,aT⟩:=List.mem_iff_getElem?.mp ak;exact(aN n _ aT).1 p pe
   ·rw[<- bQ]
    conv=>rhs;rw[pK]
    simp
   ·rw[jY,dw rfl]
    simp only[dx];congr 2
    conv=>lhs;rw[pK]
    rw[List.map_map];rfl
   ·rw[jY,dw rfl]
    simp only[dx];congr 2
    conv=>lhs;rw[pK]
    rw[List.map_map];rfl
  ·simp only[Bool.not_eq_true] at jY;refine .inr ⟨by rw[jY];rfl,by rw[jY];rfl⟩
 ·refine .inr ⟨?_,?_⟩
  ·unfold v9;rw[ig];rfl
  ·unfold xF;rw[Nc];rfl
theorem ac4 (s:c5)(lk:nQ s=some true)(l:ar)(aV:l.length<=maxLen): ∃r,Bt s l=some r/\DI s l=some r/\(r=true->l.length=s.bI.length/\ ∀(n:Nat) x,l[n]? = some x->0<=x/\x<=1000):=by
 have hm:=wj;unfold Bt DI;simp only[lk,dC,dx,if_true];obtain⟨q,aZ,mv⟩:=aaR l aV
 have N5:Rn l (len_ eI l) 0=some (Sum.map id (fun _=>()) q) :=
  Ue (f:=fun w=>sb l (len_ eI l) w) (Sum.map id fun _=>()) (fun _=>True) (fun _ _ _ _=>trivial) (fun i _=>ab4 l i) 0 q aZ trivial
 simp only[GZ,G2,aZ,N5,dC,dx];by_cases e:len_ eI l=len_ cx s.bI
 ·simp only[e,bne_self_eq_false,beq_self_eq_true,Bool.false_eq_true,if_false,if_true]
  cases q with
  | inl b =>
   refine⟨true,rfl,by simp,fun _=>⟨by rw[fs,fs] at e;omega,?_⟩⟩
   obtain⟨r,r1,r2⟩:=jT (f:=fun w=>sb l (len_ eI l) w) (fun i=>0<=i/\i<=l.length/\ ∀(n:Nat) x,(n:Int)<i->l[n]? = some x->0<=x/\x<=1000) (fun i=>(l.length-i).toNat)
    (fun r=>r = .inl ()-> ∀(n:Nat) x,l[n]? = some x->0<=x/\x<=1000) (fun i ab=>by
    obtain⟨h0,h1,J⟩:=ab;by_cases h2:i<(l.length:Int)
    ·have hw:U (i+1)=i+1:=cQ (by omega) (by omega)
     obtain⟨x,aa⟩ : ∃x,l[i.toNat]? = some x:=⟨_,dz (by omega)⟩;unfold sb Bc;simp only[fs,h2,h0,hw,aa,Lw,decide_true,if_true,and_self,dC,dx];by_cases c:0<=x/\x<=1000
     ·refine .inl ⟨i+1,by simp[c],⟨by omega,by omega,fun n y aT aU=> ?_⟩,by omega⟩
      by_cases d:(n:Int)<i
      ·exact J n y d aU
      ·have:n=i.toNat:=(by omega);subst this;rw[aa] at aU;rw[<- dI aU];exact c
     ·exact .inr ⟨.inr i,by simp[c],by simp⟩
    ·refine .inr ⟨.inl (),by simp[sb,fs,h2],fun _ n x aa=>J n x (by have:=f5 aa;omega) aa⟩) 0 ⟨by omega,by omega,fun n x aT=>by omega⟩
   have zr:JX l (len_ eI l) 0=some r:=r1;rw[aZ] at zr;exact r2 (dI zr).symm
  | inr k =>
   have:=mv k rfl;exact⟨false,rfl,by simp[this],by simp⟩
 ·exact⟨false,by simp[e],by simp[e],by simp⟩
theorem aep {bs:List (Int×Int)}{w:ar}(aU:∀p∈bs,Fr p/\0<=p.1)(hw:w.length=bs.length)(vN:∀(n:Nat) x,w[n]? = some x->0<=x/\x<=1000)(bd:bs.length<=8)(n:Nat)(row:ar)(y:Int×Int)(d6:row.length<=n)(aT:bs[n]? = some y):
 ∃b:Bool,xk w (bs.map mk) bs.length n row=some (.inl (((n+1:Nat):Int),if b then row++[(n:Int)] else row))/\tV w (bs.map qU) bs.length n row=some (.inl (((n+1:Nat):Int),if b then row++[(n:Int)] else row)):=by
 have ep:=f5 aT;have aa:=dz (show n<w.length by omega);obtain⟨nc,iW⟩:=vN n _ aa;obtain⟨lN,-⟩:=aU y (dH aT);have s1:=sq_nonneg w[n];have s2:w[n]*w[n]<=1000000:=by have:=Int.mul_le_mul iW iW nc (by omega);omega
 have lb:mS (w[n]*w[n]):=kT.2 (by omega);have bJ:Fr (w[n]*w[n],1):=IG lb;have Xm:U (w[n]*w[n])=w[n]*w[n]:=cQ (by omega) (by omega);refine⟨decide (0<kZ (y.1*1) (w[n]*w[n]*y.2)),?_,?_⟩
 ·unfold xk
  rw[dw (by simp;omega),dw (by simp;omega),dy,dJ,aT];simp only[dC,dx,Option.map_some];rw[dw (by omega),aa];simp only[dx];rw[Xm,La lb];simp only[dx];rw[TR lN bJ,i1 (by omega)];simp only[dx];by_cases c:0<kZ (y.1*1) (w[n]*w[n]*y.2)
  ·rw[dw (by simpa using c),dw (by simp;omega),dw (by simpa using c)]
  ·rw[dA (by simpa using c),dA (by simpa using c)]
 ·unfold tV
  rw[dw (by simp;omega),dw (by simp;omega),dy,dJ,aT];simp only[dC,dx,Option.map_some];rw[dw (by omega),aa];simp only[dx];rw[Xm,L4 lb];simp only[dx,qU];rw[acE lN.pos bJ.pos lN.num lN.den bJ.num bJ.den (by omega) (by omega) (by omega) (by omega),i1 (by omega)];simp only[dx];by_cases c:0<kZ (y.1*1) (w[n]*w[n]*y.2)
  ·rw[dw (by simpa using c),dw (by simp;omega),dw (by simpa using c)]
  ·rw[dA (by simpa using c),dA (by simpa using c)]
theorem abJ {bs:List (Int×Int)}{w:ar}(aU:∀p∈bs,Fr p/\0<=p.1)(hw:w.length=bs.length)(vN:∀(n:Nat) x,w[n]? = some x->0<=x/\x<=1000)(bd:bs.length<=8):
 ∃r,J5 w (bs.map mk) bs.length 0 []=some r/\QI w (bs.map qU) bs.length 0 []=some r:=by
 have key : ∃r,J5 w (bs.map mk) bs.length 0 []=some r/\(∀a,iter (fun v:Int×ar=>tV w (bs.map qU) bs.length v.1 v.2) (0,[])=a->a=some r):=by
  have h:=jT (f:=fun v:Int×ar=>(xk w (bs.map mk) bs.length v.1 v.2)) (e9:=fun v=>(∃n:Nat,v.1=n/\n<=bs.length/\v.2.length<=n)/\iter (fun v:Int×ar=>tV w (bs.map qU) bs.length v.1 v.2) (0,[])=iter (fun v:Int×ar=>tV w (bs.map qU) bs.length v.1 v.2) v) (m:=fun v=>bs.length-v.1.toNat)
   (fun r=>iter (fun v:Int×ar=>tV w (bs.map qU) bs.length v.1 v.2) (0,[])=some r) (by
     rintro⟨i,row⟩ ⟨⟨n,e1,e2,bN⟩,c0⟩;simp only at e1 bN;subst e1;by_cases aT:n=bs.length
     ·subst aT;refine .inr ⟨row,by simp[xk],?_⟩;rw[c0,iter];simp[tV]
     ·obtain⟨b,i3,j4⟩:=aep aU hw vN bd n row _ bN (dz (show n<bs.length by omega))
      refine .inl ⟨_,i3,⟨⟨n+1,rfl,by omega,?_⟩,?_⟩,by simp;omega⟩
      ·cases b<;>simp<;>omega
      ·rw[c0,iter];simp only;rw[j4];rfl) (0,[]) ⟨⟨0,rfl,by omega,by simp⟩,rfl⟩
  obtain⟨r,r1,r2⟩:=h;exact⟨r,r1,fun a bG=>by rw[<- bG];exact r2⟩
 obtain⟨r,r1,r2⟩:=key;exact⟨r,r1,r2 _ rfl⟩
theorem acm (s:c5)(i0:pv s)(q:List ao)(h:q.length<=1048576)(ai:∀r∈q,E7 r)(w:ar)(JB:w.length<=maxLen): ∃r,DZ s q w=some r/\D4 s q w=some r:=by
 unfold DZ D4 Hi;rcases acH s i0 q h ai with ⟨bs,fM,eP,kR,jn,jL,p3⟩|⟨jL,p3⟩
 ·rw[jL,p3]
  simp only[dC,dx,if_true];obtain⟨l,kN,k3,xd⟩:=ac4 s jn w JB;rw[kN,k3]
  cases l with
  | false=>exact⟨false,rfl,rfl⟩
  | true =>
   obtain⟨kD,aj2⟩:=xd rfl;obtain⟨r,r1,r2⟩:=abJ fM (by omega) aj2 (by omega);unfold G8;rw[jL];simp only[dC,dx,if_true,kN,fs,List.length_map];rw[r1,r2];exact⟨_,rfl,rfl⟩
 ·rw[jL,p3];exact⟨false,rfl,rfl⟩
def uP (l:ar)(n:Nat)(x:Int):Prop:=0<=x/\x<1000000000/\(∀z,l[n]? = some z->x=z)/\(l[n]? = none->x=0)
theorem yT {l:ar}(h:cX l){n:Nat}(aT:n<l.length):uP l n l[n]:=by have aa:=dz aT;have h0:=h.get aa;exact⟨h0.1,h0.2,fun z cC=>by rw[aa] at cC;exact dI cC,fun h=>by rw[aa] at h;simp at h⟩
theorem Cg {l:ar}{n:Nat}(aT:¬n<l.length):uP l n 0:=by
 have aa:l[n]? = none:=by simp;omega
 exact⟨by omega,by omega,fun z cC=>by rw[aa] at cC;simp at cC,fun _=>rfl⟩
theorem uP.take {l:ar}{n:Nat}{x:Int}(h:uP l n x):V (l.take (n+1))=V (l.take n)+B n*x:=Uk h.2.2.1 h.2.2.2
theorem afq {a b row:ar}{carry:Int}{n:Nat}(bG:cX a)(aW:cX b)(aY:carry=0\/carry=1)(tG:a.length<=1000000)(Oa:b.length<=1000000)(ai:row.length<=1000001)(Ji:n<=1000001)(aT:n<a.length\/n<b.length\/carry=1):
 ∃x y,uP a n x/\uP b n y/\xy a b carry n row=some (.inl ((carry+x+y) / 1000000000,((n+1:Nat):Int),row++[(carry+x+y) % 1000000000])):=by
 have nI:0<=carry/\carry<=1:=by omega
 unfold xy;simp only[gu];by_cases h1:n<a.length
 ·have hA:=yT bG h1
  have aa:=dz h1;rw[dw (by simp;omega),dw (by omega),dy,aa];simp only[dC,dx];by_cases h2:n<b.length
  ·have gl:=yT aW h2;have aU:=dz h2;have hi:=hA.1;have hn:=hA.2.1;have i3:=gl.1;have j4:=gl.2.1;refine⟨a[n],b[n],hA,gl,?_⟩;rw[dw (by simp;omega),dw (by omega),aU];simp only[dx];rw[cQ (x:=carry+a[n]) (by omega) (by omega),cQ (x:=carry+a[n]+b[n]) (by omega) (by omega),r5 (by omega),om (by omega),cQ (by omega) (by omega),o6 (n:=n) (by omega),dw (by simp;omega)]
  ·have hi:=hA.1;have hn:=hA.2.1;refine⟨a[n],0,hA,Cg h2,?_⟩;rw[dA (by simp;omega),cQ (x:=carry+a[n]) (by omega) (by omega),r5 (by omega),om (by omega),cQ (by omega) (by omega),o6 (n:=n) (by omega),dw (by simp;omega),Int.add_zero]
 ·rw[dA (by simp;omega)]
  by_cases h2:n<b.length
  ·have gl:=yT aW h2;have aU:=dz h2;have i3:=gl.1;have j4:=gl.2.1;refine⟨0,b[n],Cg h1,gl,?_⟩;rw[dw (by simp;omega),dw (by omega),dy,aU];simp only[dC,dx];rw[cQ (x:=carry+b[n]) (by omega) (by omega),r5 (by omega),om (by omega),cQ (by omega) (by omega),o6 (n:=n) (by omega),dw (by simp;omega),Int.add_zero]
  ·refine⟨0,0,Cg h1,Cg h2,?_⟩;rw[dA (by simp;omega),dw (by simp;omega),r5 (by omega),om (by omega),cQ (by omega) (by omega),o6 (n:=n) (by omega),dw (by simp;omega),Int.add_zero,Int.add_zero]
theorem afr {a b:ar}(bG:cX a)(aW:cX b)(tG:a.length<=900000)(Oa:b.length<=900000): ∃r,BC a b=some r/\cX r/\V r=V a+V b/\r.length<=a.length+b.length+1:=by
 obtain⟨r,ai,h1,h2,J⟩:=jT (f:=fun w:Int×Int×ar=>xy a b w.1 w.2.1 w.2.2) (e9:=fun w=> ∃n:Nat,w.2.1=n/\w.2.2.length=n/\(w.1=0\/w.1=1)/\cX w.2.2/\V w.2.2+w.1*B n=V (a.take n)+V (b.take n)/\(n<=a.length\/n<=b.length\/w.1=0)/\n<=a.length+b.length+1) (m:=fun w=>(a.length+b.length+2-w.2.1.toNat))
  (fun r=>cX r/\V r=V a+V b/\r.length<=a.length+b.length+1) (by
    rintro⟨carry,ii,row⟩ ⟨n,e1,e2,bN,c0,dk,ev,eG⟩;simp only at e1 e2 bN c0 dk ev;subst e1;by_cases aT:n<a.length\/n<b.length\/carry=1
    ·obtain⟨x,y,aa,aU,oH⟩:=afq (row:=row) bG aW bN (by omega) (by omega) (by omega) (by omega) aT
     have x0:=aa.1;have x1:=aa.2.1;have XX:=aU.1;have fM:=aU.2.1;have Gz:n<=a.length+b.length:=(by omega);refine .inl ⟨_,oH,⟨n+1,rfl,by simp[e2],by simp only;omega,c0.append (cX.cons (by omega) cX.nil),?_,?_,by omega⟩,by simp only;omega⟩
     ·simp only;rw[yc,e2,nm,mn,Cp,aa.take,aU.take];have:=Int.mul_ediv_add_emod (carry+x+y) 1000000000;generalize (carry+x+y) / 1000000000=u at *;generalize (carry+x+y) % 1000000000=t at *;have cg:t=carry+x+y-1000000000*u:=(by omega);rw[cg];grind
     ·simp only
      by_cases h:n+1<=a.length\/n+1<=b.length
      ·omega
      ·
       have alQ : ¬n<a.length:=(by omega);have alR : ¬n<b.length:=(by omega);have jb:x=0:=aa.2.2.2 (by simp;omega);have j3:y=0:=aU.2.2.2 (by simp;omega);omega
    ·refine .inr ⟨row,?_,c0,?_,by omega⟩
     ·unfold xy;simp only[gu];rw[dA (by simp;omega),dA (by simp;omega),dA (by simp;omega)]
     ·have aY:carry=0:=(by omega);rw[aY,List.take_of_length_le (by omega),List.take_of_length_le (by omega)] at dk;omega) (0,0,[]) ⟨0,rfl,rfl,.inl rfl,cX.nil,by simp[V],by omega,by omega⟩
 unfold BC RR;rw[ai];exact⟨r,rfl,h1,h2,J⟩
theorem aeq {neg:Bool}{r:ar}(ai:cX r)(aV:r.length<=5000000)(qz:V r<B 60):jd neg r=some (gx (eO neg (V r))):=by
 have h0:=l4 ai;have:jd neg r=jd neg (L (V r)):=by unfold jd BA;have hlen:=(hJ h0).2 qz;rw[uc ai aV,uc (hB _) (by omega),d9 h0]
 rw[this,ss h0 qz]
theorem aer {a b row:ar}{carry:Int}{n:Nat}(bG:cX a)(aW:cX b)(aY:carry=0\/carry=1)(tG:a.length<=1000000)(aT:n<a.length)(ai:n<row.length):
 ∃x y,uP a n x/\uP b n y/\Ba a b a.length carry n row=some (.inl ((carry+x+y) / 1000000000,((n+1:Nat):Int),row.set n ((carry+x+y) % 1000000000))):=by
 have nI:0<=carry/\carry<=1:=by omega
 have hA:=yT bG aT;have aa:=dz aT;have hi:=hA.1;have hn:=hA.2.1;unfold Ba;simp only[gu];rw[dw (by simp;omega),dw (by omega),dy,aa];simp only[dC,dx];by_cases h2:n<b.length
 ·have gl:=yT aW h2;have aU:=dz h2;have i3:=gl.1;have j4:=gl.2.1;refine⟨a[n],b[n],hA,gl,?_⟩;rw[dw (by simp;omega),dw (by omega),aU];simp only[dx];rw[dw (by omega),dw (by omega),cQ (x:=a[n]+carry) (by omega) (by omega),cQ (x:=a[n]+carry+b[n]) (by omega) (by omega),r5 (by omega),om (by omega),cQ (by omega) (by omega),o6 (n:=n) (by omega),dG,Int.add_comm a[n] carry]
 ·refine⟨a[n],0,hA,Cg h2,?_⟩;rw[dA (by simp;omega),dw (by omega),dw (by omega),cQ (x:=a[n]+carry) (by omega) (by omega),r5 (by omega),om (by omega),cQ (by omega) (by omega),o6 (n:=n) (by omega),dG,Int.add_zero,Int.add_comm a[n] carry]
theorem aes {a b:ar}(bG:cX a)(aW:cX b)(tG:a.length<=900000)(wX:b.length<=a.length):
 ∃r,Hv a b a.length 0 0 (List.replicate (a.length+1) 0)=some r/\(r.1=0\/r.1=1)/\cX r.2/\r.2.length=a.length+1/\V r.2+r.1*B a.length=V a+V b/\r.2[a.length]? = some 0:=by
 refine jT (e9:=fun w:Int×Int×ar=> ∃n:Nat,w.2.1=n/\n<=a.length/\(w.1=0\/w.1=1)/\cX w.2.2/\w.2.2.length=a.length+1/\V w.2.2+w.1*B n=V (a.take n)+V (b.take n)/\ ∀j,n<=j->j<a.length+1->w.2.2[j]? = some 0) (m:=fun w=>a.length-w.2.1.toNat) _ ?_ _ ⟨0,rfl,by omega,.inl rfl,cX.NJ _,by simp,by simp[V,MN],fun j _ h=>by simp[List.getElem?_replicate];omega⟩;rintro⟨carry,ii,row⟩ ⟨n,e1,e2,bN,c0,dk,ev,eG⟩;simp only at e1 bN c0 dk ev eG ⊢;subst e1;by_cases aT:n=a.length
 ·subst aT;refine .inr ⟨(carry,row),by simp[Ba],bN,c0,dk,?_,eG _ (dD _) (by omega)⟩;rw[List.take_length,List.take_of_length_le wX] at ev;exact ev
 ·obtain⟨x,y,aa,aU,oH⟩:=aer (row:=row) (n:=n) bG aW bN (by omega) (by omega) (by omega)
  have x0:=aa.1;have x1:=aa.2.1;have XX:=aU.1;have fM:=aU.2.1;refine .inl ⟨_,oH,⟨n+1,rfl,by omega,by simp only;omega,c0.set (by omega),by simpa using dk,?_,fun j h1 h2=> ?_⟩,by simp only;omega⟩
  ·simp only;rw[us (eG n (dD _) (by omega)),nm,aa.take,aU.take];have:=Int.mul_ediv_add_emod (carry+x+y) 1000000000;generalize (carry+x+y) / 1000000000=u at *;generalize (carry+x+y) % 1000000000=t at *;have cg:t=carry+x+y-1000000000*u:=(by omega);rw[cg];grind
  ·simp only;rw[List.getElem?_set_ne (by omega)];exact eG j (by omega) h2
theorem TS {a b:ar}(bG:cX a)(aW:cX b)(tG:a.length<=900000)(wX:b.length<=a.length):
 (if 0<=(U ((len_ eI a)+(1:Int)))/\(8:Int)*(U ((len_ eI a)+(1:Int)))<=281474976710656/\(U ((len_ eI a)+(1:Int)))<9223372036854775808 then
   (Hv a b (len_ eI a) 0 0 (List.replicate (U ((len_ eI a)+(1:Int))).toNat 0:ar)).bind fun a6 =>
   if 0<=(len_ eI a)/\(len_ eI a)<(a6.2.length:Nat) then
   if (0+(len_ eI a).toNat)<a6.2.length then
   (sn (a6.2.set (0+(len_ eI a).toNat) a6.1)).bind fun bE=>some bE
   else none
   else none
   else none)=some (L (V a+V b)):=by
 obtain⟨r,ai,h1,h2,J,aj,av⟩:=aes bG aW tG wX;rw[gu,o6 (by omega),dw (by omega),dy,ai,dx,dw (by omega),dy,dG,dw (by omega)];have FP:cX (r.2.set a.length r.1):=h2.set (by omega);rw[B4 FP (by simp;omega),us av,dx];congr 2;rw[<- aj];grind
theorem af7 {a b:ar}(bG:cX a)(aW:cX b)(tG:a.length<=900000)(Oa:b.length<=900000):BN a b=some (L (V a+V b)):=by
 unfold BN;by_cases h:a.length<b.length
 ·rw[dw (by rw[gu,gu];simpa using h)];have:=TS aW bG Oa (by omega);rw[Int.add_comm (V a)];exact this
 ·rw[dA (by rw[gu,gu];simpa using h)];exact TS bG aW tG (by omega)
theorem adH {a b row:ar}{less:Int}{n:Nat}(bG:cX a)(aW:cX b)(aV:less=0\/less=1)(tG:a.length<=1000000)(aT:n<a.length)(ai:n<row.length):
 ∃x y,uP a n x/\uP b n y/\A7 b a a.length less n row=some (.inl (if x-less-y<0 then (1,((n+1:Nat):Int),row.set n (x-less-y+1000000000)) else (0,((n+1:Nat):Int),row.set n (x-less-y)))):=by
 have nI:0<=less/\less<=1:=by omega
 have hA:=yT bG aT;have aa:=dz aT;have hi:=hA.1;have hn:=hA.2.1;unfold A7;simp only[gu];rw[dw (by simp;omega),dw (by omega),dy,aa];simp only[dC,dx];by_cases h2:n<b.length
 ·have gl:=yT aW h2
  have aU:=dz h2;have i3:=gl.1;have j4:=gl.2.1;refine⟨a[n],b[n],hA,gl,?_⟩;rw[dw (by simp;omega),dw (by omega),aU];simp only[dx];rw[cQ (x:=a[n]-less) (by omega) (by omega),cQ (x:=a[n]-less-b[n]) (by omega) (by omega),o6 (n:=n) (by omega),cQ (x:=a[n]-less-b[n]+1000000000) (by omega) (by omega),dG];by_cases h:a[n]-less-b[n]<0
  ·rw[dw (by simpa using h),dw h,dw (by omega),dw (by omega)]
  ·rw[dA (by simpa using h),dA h,dw (by omega),dw (by omega)]
 ·refine⟨a[n],0,hA,Cg h2,?_⟩
  rw[dA (by simp;omega),cQ (x:=a[n]-less) (by omega) (by omega),o6 (n:=n) (by omega),cQ (x:=a[n]-less+1000000000) (by omega) (by omega),dG,Int.sub_zero];by_cases h:a[n]-less<0
  ·rw[dw (by simpa using h),dw h,dw (by omega),dw (by omega)]
  ·rw[dA (by simpa using h),dA h,dw (by omega),dw (by omega)]
theorem Un {a b:ar}(bG:cX a)(aW:cX b)(hlen:b.length<=a.length)(wX:V b<=V a)(tG:a.length<=900000):wi a b=some (L (V a-V b)):=by
 have : ∃r,Sf b a a.length 0 0 (List.replicate a.length 0)=some r/\cX r/\r.length=a.length/\V r=V a-V b:=by
  refine jT (e9:=fun w:Int×Int×ar=> ∃n:Nat,w.2.1=n/\n<=a.length/\(w.1=0\/w.1=1)/\cX w.2.2/\w.2.2.length=a.length/\V w.2.2-w.1*B n=V (a.take n)-V (b.take n)/\ ∀j,n<=j->j<a.length->w.2.2[j]? = some 0) (m:=fun w=>a.length-w.2.1.toNat) _ ?_ _ ⟨0,rfl,by omega,.inl rfl,cX.NJ _,by simp,by simp[V,MN],fun j _ h=>by simp[List.getElem?_replicate];omega⟩;rintro⟨less,ii,row⟩ ⟨n,e1,e2,bN,c0,dk,ev,eG⟩;simp only at e1 bN c0 dk ev eG ⊢;subst e1;by_cases aT:n=a.length
  ·subst aT;refine .inr ⟨row,by simp[A7],c0,dk,?_⟩;rw[List.take_length,List.take_of_length_le hlen] at ev;have h2:=nW c0;rw[dk] at h2;rcases bN with rfl|rfl<;>omega
  ·obtain⟨x,y,aa,aU,oH⟩:=adH (row:=row) (n:=n) bG aW bN (by omega) (by omega) (by omega)
   have x0:=aa.1;have x1:=aa.2.1;have XX:=aU.1;have fM:=aU.2.1;rw[oH];refine .inl ⟨_,rfl,?_⟩;by_cases h:x-less-y<0
   ·rw[dw h]
    refine⟨⟨n+1,rfl,by omega,.inr rfl,c0.set (by omega),by simpa using dk,?_,fun j h1 h2=> ?_⟩,by simp only;omega⟩
    ·simp only;rw[us (eG n (dD _) (by omega)),nm,aa.take,aU.take];grind
    ·simp only;rw[List.getElem?_set_ne (by omega)];exact eG j (by omega) h2
   ·rw[dA h]
    refine⟨⟨n+1,rfl,by omega,.inl rfl,c0.set (by omega),by simpa using dk,?_,fun j h1 h2=> ?_⟩,by simp only;omega⟩
    ·simp only;rw[us (eG n (dD _) (by omega)),aa.take,aU.take];grind
    ·simp only;rw[List.getElem?_set_ne (by omega)];exact eG j (by omega) h2
 obtain⟨r,ai,h1,h2,J⟩:=this;unfold wi;simp only[gu];rw[dw (by omega),dy,ai];simp only[dC,dx];rw[B4 h1 (by omega),J];rfl
theorem VA {a b:Int}(h:decide (a<0)=decide (b<0)):eO (decide (a<0)) ((a.natAbs:Int)+(b.natAbs:Int))=a+b:=by
 have c1:a<0↔b<0:=by simpa using h
 unfold eO;by_cases h1:a<0
 ·have:=c1.1 h1;simp only[h1,decide_true,if_true];omega
 ·have : ¬b<0:=fun aW=>h1 (c1.2 aW);simp only[h1,decide_false,Bool.false_eq_true,if_false];omega
theorem Is {a b:Int}(h:¬decide (a<0)=decide (b<0)):eO (decide (a<0)) ((a.natAbs:Int)-(b.natAbs:Int))=a+b/\eO (decide (b<0)) ((b.natAbs:Int)-(a.natAbs:Int))=a+b:=by
 have c1 : ¬(a<0↔b<0):=by simpa using h
 unfold eO;by_cases h1:a<0
 ·have h2 : ¬b<0:=fun aW=>c1 ⟨fun _=>aW,fun _=>h1⟩;simp only[h1,h2,decide_true,if_true,decide_false,Bool.false_eq_true,if_false];omega
 ·have h2:b<0:=by
   apply Classical.byContradiction;intro aW;exact c1 ⟨fun h=>absurd h h1,fun h=>absurd h aW⟩
  simp only[h1,h2,decide_true,if_true,decide_false,Bool.false_eq_true,if_false];omega
theorem H4 {x y:Int}(aa:0<=x)(NK:x<=y):(L x).length<=(L y).length:=by apply (hJ aa).2;have:=nW (hB y);rw[d9 (by omega)] at this;omega
theorem TT {a b:Int}(bG:(a.natAbs:Int)<B 50)(aW:(b.natAbs:Int)<B 50):sk (gx a) (gx b)=some (gx (a+b)):=by
 have xe:=(hJ (k:=50) (n:=a.natAbs) (by omega)).2 bG;have uQ:=(hJ (k:=50) (n:=b.natAbs) (by omega)).2 aW;have qz:B 50+B 50<=B 60:=by have h1:B 51<=B 60:=sx (by omega);have h2:=o1 50;rw[nm] at h1;omega
 have bJ:sk (gx a) (gx b)=(if (decide (a<0) == decide (b<0))=true then (BC (L a.natAbs) (L b.natAbs)).bind fun r2=>(jd (decide (a<0)) r2).bind fun aM=>some aM else (sj (L a.natAbs) (L b.natAbs)).bind fun r2=>if (decide ((0:Int)<=r2))=true then (u2 (L a.natAbs) (L b.natAbs)).bind fun aS=>(jd (decide (a<0)) aS).bind fun bE=>some bE else (u2 (L b.natAbs) (L a.natAbs)).bind fun aS=>(jd (decide (b<0)) aS).bind fun bE=>some bE):=rfl;rw[bJ];by_cases h:decide (a<0)=decide (b<0)
 ·rw[dw (by simpa using h)];obtain⟨r,r1,r2,a6,aM⟩:=afr (hB a.natAbs) (hB b.natAbs) (by omega) (by omega);rw[d9 (by omega),d9 (by omega)] at a6;rw[r1,dx,aeq r2 (by omega) (by omega),a6,VA h];rfl
 ·rw[dA (by simpa using h),vg (iw _) (iw _) (by omega),d9 (by omega),d9 (by omega),dx]
  by_cases aY:(b.natAbs:Int)<=a.natAbs
  ·have zs:0<=kZ (a.natAbs:Int) b.natAbs:=by
    apply Int.not_lt.mp;intro h1;have:=wt.1 h1;omega
   rw[dw (by simpa using zs),sub_eq (hB _) (hB _) (H4 (by omega) aY) (by rw[d9 (by omega),d9 (by omega)];exact aY) (by omega),d9 (by omega),d9 (by omega),dx,ss (by omega) (by omega),(Is h).1];rfl
  ·have zs : ¬0<=kZ (a.natAbs:Int) b.natAbs:=by
    have:=wt.2 (show (a.natAbs:Int)<b.natAbs by omega);omega
   rw[dA (by simpa using zs),sub_eq (hB _) (hB _) (H4 (by omega) (by omega)) (by rw[d9 (by omega),d9 (by omega)];omega) (by omega),d9 (by omega),d9 (by omega),dx,ss (by omega) (by omega),(Is h).2];rfl
theorem Uo {a b:Int}(bG:(a.natAbs:Int)<B 50)(aW:(b.natAbs:Int)<B 50):v8 (gx a) (gx b)=some (gx (a+b)):=by
 have xe:=(hJ (k:=50) (n:=a.natAbs) (by omega)).2 bG;have uQ:=(hJ (k:=50) (n:=b.natAbs) (by omega)).2 aW;have bJ:v8 (gx a) (gx b)=((rl (L a.natAbs) (L b.natAbs)).bind fun r1=>if (decide (a<0) == decide (b<0))=true then (BN (L a.natAbs) (L b.natAbs)).bind fun r2=>(mK (decide (a<0)) r2).bind fun aM=>some aM else if (decide ((0:Int)<=r1))=true then (wi (L a.natAbs) (L b.natAbs)).bind fun aS=>(mK (decide (a<0)) aS).bind fun bE=>some bE else (wi (L b.natAbs) (L a.natAbs)).bind fun aS=>(mK (decide (b<0)) aS).bind fun bE=>some bE):=rfl;rw[bJ,HJ (iw _) (iw _) (by omega),d9 (by omega),d9 (by omega),dx];by_cases h:decide (a<0)=decide (b<0)
 ·rw[dw (by simpa using h),af7 (hB _) (hB _) (by omega) (by omega),d9 (by omega),d9 (by omega),dx,so (by omega),VA h];rfl
 ·rw[dA (by simpa using h)]
  by_cases aY:(b.natAbs:Int)<=a.natAbs
  ·have zs:0<=kZ (a.natAbs:Int) b.natAbs:=by
    apply Int.not_lt.mp;intro h1;have:=wt.1 h1;omega
   rw[dw (by simpa using zs),Un (hB _) (hB _) (H4 (by omega) aY) (by rw[d9 (by omega),d9 (by omega)];exact aY) (by omega),d9 (by omega),d9 (by omega),dx,so (by omega),(Is h).1];rfl
  ·have zs : ¬0<=kZ (a.natAbs:Int) b.natAbs:=by
    have:=wt.2 (show (a.natAbs:Int)<b.natAbs by omega);omega
   rw[dA (by simpa using zs),Un (hB _) (hB _) (H4 (by omega) (by omega)) (by rw[d9 (by omega),d9 (by omega)];omega) (by omega),d9 (by omega),d9 (by omega),dx,so (by omega),(Is h).2];rfl
theorem ME {b:Int}:eO (!(decide (b<0))) (b.natAbs:Int) = -b:=by
 unfold eO;by_cases h:b<0
 ·simp only[h,decide_true,Bool.not_true,Bool.false_eq_true,if_false];omega
 ·simp only[h,decide_false,Bool.not_false,if_true];omega
theorem aet {a b:Int}(bG:(a.natAbs:Int)<B 50)(aW:(b.natAbs:Int)<B 50):xC (gx a) (gx b)=some (gx (a-b)):=by have bJ:xC (gx a) (gx b)=(((mK (!(decide (b<0))) (L b.natAbs)).bind fun r=>some r).bind fun r1=>(v8 (gx a) r1).bind fun a6=>some a6):=rfl;rw[bJ,so (by omega),ME,dx,dx,Uo bG (by omega),dx,Int.sub_eq_add_neg]
theorem Fr.neg {q:Int×Int}(h:Fr q):Fr (-q.1,q.2):=⟨h.pos,by simp only;rw[Int.neg_gcd];exact h.N6,by simp only;have:=h.num;omega,h.den⟩
theorem aeu {q:Int×Int}(h:Fr q):tb (mk q)=some (mk (-q.1,q.2)):=by have h1:=h.num;have h2:=h.nY;have J:=MC;have bJ:tb (mk q)=((jd (!(decide (q.1<0))) (L q.1.natAbs)).bind fun r1=>if (([]:ar)++L q.2).length*8<=140737488355328 then some (⟨r1,([]:ar)++L q.2⟩:ao) else none):=rfl;rw[bJ,ss (by omega) (by omega),ME,dx,dw (by simp;omega)];rfl
theorem H5 {p q:Int×Int}(ah:Fr p)(aZ:Fr q):((p.1*q.2).natAbs:Int)<B 48/\(L (p.1.natAbs*q.2:Int)).length<=48/\0<=(p.1.natAbs*q.2:Int):=by have aP:=aZ.pos;have ba:=st (x:=p.1.natAbs) (y:=q.2) (by omega) (by omega) ah.num aZ.den;have zF:0<=(p.1.natAbs:Int)*q.2:=Int.mul_nonneg (by omega) (by omega);rw[E6 (by omega)];exact⟨(hJ zF).1 ba,ba,zF⟩
theorem MF:B 48+B 48<=B 50:=by have h1:B 49<=B 50:=sx (by omega);have h2:=o1 48;rw[nm] at h1;omega
theorem aev {p q:Int×Int}(ah:Fr p)(aZ:Fr q):rm (mk p) (mk q)=some (enc (low (p.1*q.2+q.1*p.2) (p.2*q.2))):=by
 have h1:=ah.oF;have h2:=ah.nY;have J:=aZ.oF;have aj:=aZ.nY;have av:=ah.pos;have aP:=aZ.pos;have Wx:=ah.num;have pL:=aZ.num;have alS:=ah.den;have alT:=aZ.den;have gl:=MF;have ak7:B 24<=B 48:=sx (by omega);have ak8:B 50<=B 60:=sx (by omega);obtain⟨bl,cm,j5⟩:=H5 ah aZ;obtain⟨d1,d2,d3⟩:=H5 aZ ah;have Wp:=o1 48;have e1:i5 (L p.1.natAbs) (L q.2)=some (L ((p.1.natAbs:Int)*q.2)):=by rw[mul_eq (hB _) (hB _) (by omega) (by omega),d9 (by omega),d9 (by omega)]
 have e2:i5 (L q.1.natAbs) (L p.2)=some (L ((q.1.natAbs:Int)*p.2)):=by rw[mul_eq (hB _) (hB _) (by omega) (by omega),d9 (by omega),d9 (by omega)]
 have bN:jd (decide (p.1<0)) (L ((p.1.natAbs:Int)*q.2))=some (gx (p.1*q.2)):=by rw[ss j5 (by rw[<- E6 (by omega)];omega),B5]
 have c0:jd (decide (q.1<0)) (L ((q.1.natAbs:Int)*p.2))=some (gx (q.1*p.2)):=by rw[ss d3 (by rw[<- E6 (by omega)];omega),B5]
 have dk:sk (gx (p.1*q.2)) (gx (q.1*p.2))=some (gx (p.1*q.2+q.1*p.2)):=TT (by omega) (by omega);have bd:=st (x:=p.2) (y:=q.2) (by omega) (by omega) ah.den aZ.den;have ev:i5 (L p.2) (L q.2)=some (L (p.2*q.2)):=by rw[mul_eq (hB _) (hB _) (by omega) (by omega),d9 (by omega),d9 (by omega)]
 have Wi:(L (p.1*q.2+q.1*p.2).natAbs).length<=50:=(hJ (by omega)).2 (by omega)
 have eG:pw (decide (p.1*q.2+q.1*p.2<0)) (L (p.1*q.2+q.1*p.2).natAbs) (L (p.2*q.2))=some (enc (low (p.1*q.2+q.1*p.2) (p.2*q.2))):=by
  rw[LK (by omega) (Int.mul_pos av aP) (by omega) (by omega)]
  have:eO (decide (p.1*q.2+q.1*p.2<0)) ((p.1*q.2+q.1*p.2).natAbs:Int)=p.1*q.2+q.1*p.2:=by
   have:=B5 (a:=p.1*q.2+q.1*p.2) (b:=1)
   rwa [Int.mul_one,Int.mul_one] at this
  rw[this]
 have Wq:((i5 (L p.1.natAbs) (L q.2)).bind fun bE=>(jd (decide (p.1<0)) bE).bind fun bt=>(i5 (L q.1.natAbs) (L p.2)).bind fun bZ=>(jd (decide (q.1<0)) bZ).bind fun cT=>(sk bt cT).bind fun ed=>(i5 (L p.2) (L q.2)).bind fun hE=>(pw ed.cF ed.cc hE).bind fun gR=>some gR)=some (enc (low (p.1*q.2+q.1*p.2) (p.2*q.2))):=by rw[e1,dx,bN,dx,e2,dx,c0,dx,dk,dx,ev,dx];show (pw (decide (p.1*q.2+q.1*p.2<0)) (L (p.1*q.2+q.1*p.2).natAbs) (L (p.2*q.2))).bind _=_;rw[eG,dx]
 have bJ:rm (mk p) (mk q)=((ta (L p.2)).bind fun r1=>if r1=true then (ta (L q.2)).bind fun aM=>if aM=true then (sk (gx p.1) (gx q.1)).bind fun bE=>(pw bE.cF bE.cc ([1]:ar)).bind fun bt=>some bt else ((i5 (L p.1.natAbs) (L q.2)).bind fun bE=>(jd (decide (p.1<0)) bE).bind fun bt=>(i5 (L q.1.natAbs) (L p.2)).bind fun bZ=>(jd (decide (q.1<0)) bZ).bind fun cT=>(sk bt cT).bind fun ed=>(i5 (L p.2) (L q.2)).bind fun hE=>(pw ed.cF ed.cc hE).bind fun gR=>some gR) else ((i5 (L p.1.natAbs) (L q.2)).bind fun bE=>(jd (decide (p.1<0)) bE).bind fun bt=>(i5 (L q.1.natAbs) (L p.2)).bind fun bZ=>(jd (decide (q.1<0)) bZ).bind fun cT=>(sk bt cT).bind fun ed=>(i5 (L p.2) (L q.2)).bind fun hE=>(pw ed.cF ed.cc hE).bind fun gR=>some gR)):=rfl;rw[bJ,Cf (by omega),dx];by_cases bQ:p.2=1
 ·rw[dw (by simpa using bQ),Cf (by omega),dx]
  by_cases aN:q.2=1
  ·rw[dw (by simpa using aN),TT (by omega) (by omega),dx];have gr:p.1*q.2+q.1*p.2=p.1+q.1:=(by rw[bQ,aN,Int.mul_one,Int.mul_one]);have XY:p.2*q.2=1:=(by rw[bQ,aN];rfl);rw[gr,XY,MS] at eG;rw[gr,XY];show (pw (decide (p.1+q.1<0)) (L (p.1+q.1).natAbs) [1]).bind _=_;rw[eG,dx]
  ·rw[dA (by simpa using aN)];exact Wq
 ·rw[dA (by simpa using bQ)];exact Wq
def sA (n:Int):Bool:=decide (-100<=n/\n<=100)
def vq (zJ:Nat)(l:ar):Bool:=decide (l.length=2*zJ) && l.all sA
theorem adI (n:Int):Ed n=some (sA n):=by unfold Ed sA;by_cases h : -100<=n<;>simp[h]
theorem aew (s:c5)(p:Bool)(ah:nQ s=some p)(tS:p=true->s.cu.length<=6)(l:ar)(aV:l.length<=maxLen):xU s l=some (p && vq s.cu.length l):=by
 have hm:=wj;unfold xU;simp only[ah,dC,dx,fs]
 cases p with
 | false=>rfl
 | true =>
  have tS:=tS rfl;have hw:U (2*((s.cu.length:Nat):Int))=2*((s.cu.length:Nat):Int):=cQ (by omega) (by omega);rw[hw];unfold vq;by_cases e:l.length=2*s.cu.length
  ·have h1:RO l (l.length:Nat) 0=some (if l.all sA then .inl () else .inr ()):=by
    refine L0 (f:=fun w=>AV l (l.length:Nat) w) l sA (fun n x aa=> ?_) ?_
    ·have ep:=f5 aa
     unfold AV;have c:(n:Int)<(l.length:Int):=(by omega);have eF:0<=(n:Int)/\(n:Int)<(l.length:Int):=(by omega);simp only[decide_eq_true c,if_true,dw eF,dy,aa,dC,dx,ui];rw[i1 (by omega)];unfold sA;by_cases q : -100<=x/\x<=100
     ·simp[q]
     ·rw[decide_eq_false q];simp
    ·simp[AV]
   have c:((l.length:Int) != 2*(s.cu.length:Int))=false:=(by simp;omega);simp only[c,h1,Bool.false_eq_true,if_false,if_true,dx];cases l.all sA<;>simp[e]
  ·have c:((l.length:Int) != 2*(s.cu.length:Int))=true:=(by simp;omega);simp only[c,if_true];simp[e]
theorem ac5 (s:c5)(tS:s.cu.length<=6)(l:ar)(aV:l.length<=maxLen):D1 s l=some (vq s.cu.length l):=by
 have hm:=wj;have hw:U (2*((s.cu.length:Nat):Int))=2*((s.cu.length:Nat):Int):=cQ (by omega) (by omega);unfold D1 G0 G3 vq;simp only[fs,hw,dC];obtain⟨r,h1,h2⟩:=TG (f:=fun w=>zO l (l.length:Nat) w) l (fun n=> !sA n) (fun n x aa=>by have ep:=f5 aa;unfold zO Hh;have c:(n:Int)<(l.length:Int):=(by omega);have eF:0<=(n:Int)/\(n:Int)<(l.length:Int):=(by omega);simp only[decide_eq_true c,if_true,dw eF,dy,aa,dC,dx,adI];rw[i1 (by omega)];cases sA x<;>rfl) (by simp[zO]);have sM:OW l (l.length:Nat) 0=some r:=h1;rw[sM];have aid:(l.any fun n=> !sA n) = !l.all sA:=by rw[List.not_all_eq_any_not]
 rw[aid] at h2;by_cases e:l.length=2*s.cu.length
 ·have c:((l.length:Int) == 2*(s.cu.length:Int))=true:=by simp;omega
  rw[c];rcases h2 with ⟨k,rfl,aX,bG⟩|⟨rfl,bG⟩
  ·simp only[Bool.not_eq_true'] at bG;simp[e,bG,aX]
  ·simp only[Bool.not_eq_false'] at bG;simp[e,bG]
 ·have c:((l.length:Int) == 2*(s.cu.length:Int))=false:=(by simp;omega);rw[c];simp[e]
theorem re {i:Int}{a:Nat}(h0:0<=i)(h1:i<=100)(bG:a<=1):U (U (2*i)+(a:Int))=(((2*i+a).toNat:Nat):Int):=by rw[cQ (x:=2*i) (by omega) (by omega),cQ (by omega) (by omega)];omega
theorem SP (l:ar)(h:l.length<=1048576):Bp l=some l:=by
 have aW : ∀(n:Nat) x (row:ar),l[n]? = some x->row.length=l.length->xq l n row=some (.inl (((n+1:Nat):Int),row.set n x)):=by intro n x row aa ai;obtain⟨aT,rfl⟩:=List.getElem?_eq_some_iff.1 aa;have hw:U ((n:Int)+1)=((n+1:Nat):Int):=(by rw[cQ (by omega) (by omega)];rfl);simp only[xq,fs,hw];simp[aT,ai]
 have he : ∀row:ar,xq l l.length row=some (.inr row):=by intro row;simp[xq,fs]
 have h1:Ra l 0 (List.replicate (len_ eI l).toNat 0)=some l :=
  LF l (List.replicate (len_ eI l).toNat 0) (by simp[fs]) aW he
 unfold Bp;rw[h1,dw (by rw[fs];omega)];simp[fs]
theorem acn (l:List ec)(h:l.length<=1048576):DD l=some l:=by
 have aW : ∀(n:Nat) x (row:List ec),l[n]? = some x->row.length=l.length->xm l n row=some (.inl (((n+1:Nat):Int),row.set n x)):=by intro n x row aa ai;obtain⟨aT,rfl⟩:=List.getElem?_eq_some_iff.1 aa;have hw:U ((n:Int)+1)=((n+1:Nat):Int):=(by rw[cQ (by omega) (by omega)];rfl);simp only[xm,fs,hw,Ht];simp[aT,ai]
 have he : ∀row:List ec,xm l l.length row=some (.inr row):=by intro row;simp[xm,fs]
 have h1:Ql l 0 (List.replicate (len_ cq l).toNat (⟨ByteArray.empty,0,0,false⟩:ec))=some l :=
  LF l _ (by simp[fs]) aW he
 unfold DD;rw[h1,dw (by rw[fs];omega)];simp[fs]
theorem ab5 (l:List eD)(h:l.length<=1048576):DB l=some l:=by
 have aW : ∀(n:Nat) x (row:List eD),l[n]? = some x->row.length=l.length->xl l n row=some (.inl (((n+1:Nat):Int),row.set n x)):=by intro n x row aa ai;obtain⟨aT,rfl⟩:=List.getElem?_eq_some_iff.1 aa;have hw:U ((n:Int)+1)=((n+1:Nat):Int):=(by rw[cQ (by omega) (by omega)];rfl);simp only[xl,fs,hw,Ho];simp[aT,ai]
 have he : ∀row:List eD,xl l l.length row=some (.inr row):=by intro row;simp[xl,fs]
 have h1:Qd l 0 (List.replicate (len_ cx l).toNat (⟨0,0,0⟩:eD))=some l :=
  LF l _ (by simp[fs]) aW he
 unfold DB;rw[h1,dw (by rw[fs];omega)];simp[fs]
theorem abm (s:c5)(h1:s.cu.length<=1048576)(h2:s.bI.length<=1048576):Dt s=some (s.cu,s.bI):=by simp[Dt,acn _ h1,ab5 _ h2]
def Ob (P:List ar):bR->Prop
 | none=>True
 | some (k,c)=> ∃x,P[k]? = some x/\x.length=c/\c<=1048576
theorem Ob.set {P:List ar}{k:Nat}{x y:ar}(aa:P[k]? = some x)(aU:y.length=x.length){h:bR}(gN:Ob P h):Ob (P.set k y) h:=by
 cases h with
 | none=>trivial
 | some p =>
  obtain⟨j,c⟩:=p;obtain⟨z,h1,h2,J⟩:=gN;by_cases aq:k=j
  ·subst aq;rw[aa] at h1;obtain rfl:=dI h1;exact⟨y,by rw[List.getElem?_set,dw rfl,dw (f5 aa)],by omega,J⟩
  ·exact⟨z,by rw[List.getElem?_set,dA aq];exact h1,h2,J⟩
def lW:List ec->Nat->List Nat
 | [],_=>[]
 | x::l,n=>if x.mo then lW l (n+1) else n::lW l (n+1)
theorem L5 : ∀(l:List ec) (n i:Nat),i∈lW l n->n<=i/\i<n+l.length
 | [],n,i,h=>by simp[lW] at h
 | x::l,n,i,h=>by
  rw[lW] at h;simp only[List.length_cons];split at h
  ·have:=L5 l (n+1) i h;omega
  ·rcases List.mem_cons.1 h with h|h
   ·omega
   ·have:=L5 l (n+1) i h;omega
theorem Up : ∀(l:List ec) (n:Nat),(lW l n).length<=l.length
 | [],n=>by simp[lW]
 | x::l,n=>by rw[lW];have:=Up l (n+1);split<;>simp only[List.length_cons]<;>omega
theorem adJ {l:List ec}{n:Nat}{x:ec}(h:l[n]? = some x)(m:Nat):lW (l.drop n) m=if x.mo then lW (l.drop (n+1)) (m+1) else m::lW (l.drop (n+1)) (m+1):=by rw[Uf h,lW]
theorem TU {f:Int×ar->Option ((Int×ar)⊕ar)}(iH:List ec)(tS:iH.length<=1000)
 (h : ∀(n:Nat) acc x,iH[n]? = some x->f ((n:Int),acc)=if x.mo=true then some (.inl (U ((n:Int)+1),acc)) else if (acc++[(n:Int)]).length*8<=140737488355328 then some (.inl (U ((n:Int)+1),acc++[(n:Int)])) else none)
 (he : ∀acc,f ((iH.length:Int),acc)=some (.inr acc)):iter f ((0:Int),[])=some ((lW iH 0).map (fun n:Nat=>(n:Int))):=by
 obtain⟨s,h1,h2⟩:=h4 (fun (n:Nat) (acc:ar)=>((n:Int),acc)) iH.length (fun n acc=>acc++(lW (iH.drop n) n).map (fun n:Nat=>(n:Int))=(lW iH 0).map (fun n:Nat=>(n:Int))/\acc.length<=n) (fun acc=>acc) (f:=f) (fun n aT acc cZ=>by
  obtain⟨cZ,aV⟩:=cZ;have aa:=dz aT;rw[adJ aa] at cZ;rw[h n acc _ aa,o6 (by omega)];by_cases c:iH[n].mo=true
  ·rw[dw c] at cZ ⊢;exact⟨_,rfl,cZ,by omega⟩
  ·rw[dA c] at cZ ⊢;rw[dw (by simp only[dF,List.length_cons,List.length_nil];omega)];refine⟨_,rfl,?_,by simp only[dF,List.length_cons,List.length_nil];omega⟩;rw[List.append_assoc];exact cZ) (fun acc _=>he acc) [] ⟨by rw[List.drop_zero];rfl,by simp⟩
 obtain⟨h2,-⟩:=h2;rw[List.drop_length] at h2;simp only[lW,List.map_nil,List.append_nil] at h2;subst h2;exact h1
theorem Lx (s:c5)(tS:s.cu.length<=1000):xQ s=some ((lW s.cu 0).map (fun n:Nat=>(n:Int))):=by
 unfold xQ Rv
 rw[fs,TU s.cu tS (fun n acc x aa=>by
  have aT:=f5 aa;unfold Dl;exact dW (by omega) (bq (by omega) (aI (gt rfl aa) rfl))) (fun acc=>by
  unfold Dl;exact eg (by omega) rfl)]
 rfl
theorem Sj (s:c5)(tS:s.cu.length<=1000):z6 s=some ((lW s.cu 0).map (fun n:Nat=>(n:Int))):=by
 unfold z6 OZ
 rw[fs,TU s.cu tS (fun n acc x aa=>by
  have aT:=f5 aa;unfold Da;exact dW (by omega) (bq (by omega) (aI (gt rfl aa) rfl))) (fun acc=>by
  unfold Da;exact eg (by omega) rfl)]
 rfl
def hlen:bR->Nat
 | none=>0
 | some (_,c)=>c
def eQ (x:Rat):Int×Int:=(x.num,(x.den:Int))
def eC (x:Rat):Prop:=(x.num.natAbs:Int)<B 24/\(x.den:Int)<B 24
def ca (x:Rat):ao:=mk (eQ x)
instance akK (x:Rat):Decidable (eC x):=by unfold eC;infer_instance
theorem eC.dd {x:Rat}(h:eC x):Fr (eQ x):=⟨by have:=x.den_pos;simp only[eQ];omega,by simp only[eQ];rw[Int.gcd,Int.natAbs_natCast];exact x.reduced,h.1,h.2⟩
theorem af8 {n d:Int}(bC:0<d):low n d=if eC (Rat.divInt n d) then some (eQ (Rat.divInt n d)) else none:=by
 have e1:(Rat.divInt n d).num=n / (Int.gcd n d:Int):=by rw[Rat.num_divInt,Int.sign_eq_one_of_pos bC,Int.one_mul,Int.gcd_comm]
 have e2:((Rat.divInt n d).den:Int)=d / (Int.gcd n d:Int):=by rw[Rat.den_divInt,dA (by omega),Int.gcd_comm];rw[Int.natCast_ediv,Int.natAbs_of_nonneg (by omega)]
 have bN:eC (Rat.divInt n d)↔fits ((n / (Int.gcd n d:Int)).natAbs:Int)/\fits (d / (Int.gcd n d:Int)):=by unfold eC fits;rw[e1,e2]
 unfold low;by_cases c:eC (Rat.divInt n d)
 ·rw[dw c,dw (bN.1 c)];unfold eQ;rw[e1,e2]
 ·rw[dA c,dA (fun x=>c (bN.2 x))]
theorem L6 {n d:Int}{x:Rat}(bC:0<d)(e:(d:Rat)*x=n)(h:eC x):low n d=some (eQ x):=by
 have rK:(d:Rat)≠0:=fun c=>by have:d=0:=Rat.intCast_inj.1 (by rw[c];rfl);omega
 have:x=Rat.divInt n d:=by rw[Rat.divInt_eq_div,<- e];grind
 rw[af8 bC,<- this,dw h]
theorem uj (x:Rat):((x.den:Int):Rat)*x=((x.num:Int):Rat):=by
 have h:x=(x.num:Rat) / ((x.den:Int):Rat):=by rw[<- Rat.divInt_eq_div,Rat.num_divInt_den]
 have bC:((x.den:Int):Rat)≠0:=fun c=>by have:(x.den:Int)=0:=Rat.intCast_inj.1 (by rw[c];rfl);have:=x.den_pos;omega
 conv=>lhs;rhs;rw[h]
 grind
theorem VB {x y:Rat}(aa:eC x)(aU:eC y)(h:eC (x*y)):tc (ca x) (ca y)=some (ca (x*y)):=by unfold ca;rw[TP aa.dd aU.dd,L6 (x:=x*y) (Int.mul_pos aa.dd.pos aU.dd.pos) ?_ h];rfl;have h1:=uj x;have h2:=uj y;simp only[eQ,dN];grind
theorem E8 {x y:Rat}(aa:eC x)(aU:eC y)(h:eC (x+y)):rm (ca x) (ca y)=some (ca (x+y)):=by unfold ca;rw[aev aa.dd aU.dd,L6 (x:=x+y) (Int.mul_pos aa.dd.pos aU.dd.pos) ?_ h];rfl;have h1:=uj x;have h2:=uj y;simp only[eQ,dN,Rat.intCast_add];grind
theorem eC.neg {x:Rat}(h:eC x):eC (-x):=by unfold eC at h ⊢;rw[Rat.neg_num,Rat.neg_den,Int.natAbs_neg];exact h
theorem IH {x:Rat}(aa:eC x):tb (ca x)=some (ca (-x)):=by unfold ca;rw[aeu aa.dd];simp only[eQ,Rat.neg_num,Rat.neg_den]
theorem afs {p:Int×Int}(h:Fr p):ml (mk p)=some true:=by
 have JF:(L p.1.natAbs).length<=24:=(hJ (by omega)).2 h.num;have Gg:(L p.2).length<=24:=(hJ (by have:=h.pos;omega)).2 h.den;have ah:=h.pos;obtain⟨bQ,hi,hn⟩:=HK (a:=L p.1.natAbs) (by omega);obtain⟨aN,i3,j4⟩:=HK (a:=L p.2) (by omega);have h1:bQ=true:=hn.2 ⟨iw _,by omega⟩;have h2:aN=true:=j4.2 ⟨iw _,by omega⟩;subst h1;subst h2;have bC:(L p.2)≠[]:=fun c=>by have:=sG.1 c;omega
 have JH:=List.length_pos_iff.mpr bC
 have e1:xO (mk p).d8=some true:=by
  unfold xO;show (ua (L p.1.natAbs)).bind _=_;rw[hi];simp only[dx,if_true,gu];show (if decide (p.1<0)=true then some (decide ((0:Int)<(L p.1.natAbs).length)) else some true)=_;by_cases c:p.1<0
  ·rw[dw (by simpa using c)];have:L p.1.natAbs≠[]:=fun c=>(by have:=sG.1 c;omega);have:=List.length_pos_iff.mpr this;rw[decide_eq_true (by omega)]
  ·rw[dA (by simpa using c)]
 unfold ml;rw[e1];simp only[dC,dx,if_true,gu];show (ua (L p.2)).bind _=_;rw[i3];simp only[dx,if_true];rw[show (mk p).e6=L p.2 from rfl,show (mk p).d8.cc=L p.1.natAbs from rfl];rw[dA (by simp[bC]),dA (by simp;omega),dA (by simp;omega)];rw[Mz (iw _) (iw _) (by omega) (by omega),d9 (by omega),d9 (by omega),Iq (by omega),h.N6];simp only[dx];rw[Cf (by omega)];rfl
theorem wG {x:Rat}(aa:eC x):ml (ca x)=some true:=afs aa.dd
def ju (x:Rat):Int:=if x=0 then 0 else if x<0 then -1 else 1
theorem pz {x:Rat}(aa:eC x):pt (ca x)=some (ju x):=by
 unfold pt;rw[wG aa];simp only[dC,dx,if_true,gu];show (if (((L (eQ x).1.natAbs).length:Int) == 0)=true then some 0 else if decide ((eQ x).1<0)=true then some (-1) else some 1)=_;have e:((L (eQ x).1.natAbs).length:Int)=0↔x.num=0:=by rw[I7 (by omega)];simp only[eQ];omega
 unfold ju;by_cases h0:x=0
 ·rw[dw h0,dw];rw[beq_iff_eq,e,Rat.num_eq_zero];exact h0
 ·rw[dA h0,dA (by rw[beq_iff_eq,e,Rat.num_eq_zero];exact h0)]
  by_cases h1:x<0
  ·have h2 : ¬0<=x:=(by grind);have J : ¬0<=x.num:=fun c=>h2 (Rat.num_nonneg.1 c);rw[dw h1,dw (decide_eq_true (show (eQ x).1<0 by simp only[eQ];omega))]
  ·have h2:0<=x:=(by grind);have J:0<=x.num:=Rat.num_nonneg.2 h2;rw[dA h1,dA (fun c=>by have:=of_decide_eq_true c;simp only[eQ] at this;omega)]
theorem agQ {x y:Rat}(aa:eC x)(aU:eC y):wg (ca x) (ca y)=some (if x<y then -1 else if y<x then 1 else 0):=by unfold ca;rw[TR aa.dd aU.dd];unfold kZ;simp only[eQ,<- Rat.lt_iff]
theorem VC {x y:Rat}(aa:eC x)(aU:eC y)(h0:y≠0)(h:eC (x / y)):xV (ca x) (ca y)=some (ca (x / y)):=by
 have h1:=aa.dd.oF;have h2:=aa.dd.nY;have J:=aU.dd.oF;have aj:=aU.dd.nY;have av:=aa.dd.pos;have aP:(0:Int)<(eQ y).1.natAbs:=by have:(eQ y).1≠0:=fun c=>h0 (Rat.num_eq_zero.1 c);omega
 have ba:=st (x:=(eQ x).1.natAbs) (y:=(eQ y).2) (by omega) (by have:=aU.dd.pos;omega) aa.dd.num aU.dd.den;have bd:=st (x:=(eQ x).2) (y:=(eQ y).1.natAbs) (by omega) (by omega) aa.dd.den aU.dd.num;have e1:i5 (L (eQ x).1.natAbs) (L (eQ y).2)=some (L (((eQ x).1.natAbs:Int)*(eQ y).2)):=by rw[mul_eq (hB _) (hB _) (by omega) (by omega),d9 (by omega),d9 (by have:=aU.dd.pos;omega)]
 have e2:i5 (L (eQ x).2) (L (eQ y).1.natAbs)=some (L ((eQ x).2*((eQ y).1.natAbs:Int))):=by rw[mul_eq (hB _) (hB _) (by omega) (by omega),d9 (by omega),d9 (by omega)]
 unfold xV;rw[wG aa,wG aU];simp only[dC,dx,if_true];show (i5 (L (eQ x).1.natAbs) (L (eQ y).2)).bind _=_;rw[e1];simp only[dx];show (i5 (L (eQ x).2) (L (eQ y).1.natAbs)).bind _=_;rw[e2];simp only[dx];rw[LK (Int.mul_nonneg (by omega) (by have:=aU.dd.pos;omega)) (Int.mul_pos av aP) (by omega) (by omega)];simp only[dx];rw[L6 (x:=x / y) (Int.mul_pos av aP) ?_ h];rfl;have d1:=uj x;have d2:=uj y
 have bN:eO (!((ca x).d8.cF == (ca y).d8.cF)) (((eQ x).1.natAbs:Int)*(eQ y).2)=(if y<0 then -1 else 1)*((eQ x).1*(eQ y).2):=by
  show eO (!(decide ((eQ x).1<0) == decide ((eQ y).1<0))) _=_;have aT:=Rat.num_nonneg (q:=y);have hm:0<=((eQ x).1.natAbs:Int)*(eQ y).2:=Int.mul_nonneg (by omega) (by have:=aU.dd.pos;omega)
  have Gr:y<0↔(eQ y).1<0:=by
   have J:=Rat.num_nonneg (q:=y);simp only[eQ];constructor
   ·intro c;have : ¬0<=y:=(by grind);have aj : ¬0<=y.num:=fun c=>this (J.1 c);omega
   ·intro c;have : ¬0<=y:=fun eF=>(by have:=J.2 eF;omega);grind
  by_cases bl:(eQ x).1<0<;>by_cases cm:(eQ y).1<0
  ·rw[dw (Gr.2 cm),decide_eq_true bl,decide_eq_true cm];simp only[eO,BEq.rfl,Bool.not_true,Bool.false_eq_true,if_false];rw[show ((eQ x).1.natAbs:Int) = -(eQ x).1 by omega];grind
  ·rw[dA (fun c=>cm (Gr.1 c)),decide_eq_true bl,decide_eq_false cm];simp only[eO,show (!(true == false))=true from rfl,if_true];rw[show ((eQ x).1.natAbs:Int) = -(eQ x).1 by omega];grind
  ·rw[dw (Gr.2 cm),decide_eq_false bl,decide_eq_true cm];simp only[eO,show (!(false == true))=true from rfl,if_true];rw[show ((eQ x).1.natAbs:Int)=(eQ x).1 by omega];grind
  ·rw[dA (fun c=>cm (Gr.1 c)),decide_eq_false bl,decide_eq_false cm];simp only[eO,BEq.rfl,Bool.not_true,Bool.false_eq_true,if_false];rw[show ((eQ x).1.natAbs:Int)=(eQ x).1 by omega];grind
 rw[bN]
 have c0:(((eQ y).1.natAbs:Int):Rat)=(if y<0 then -1 else 1)*(((eQ y).1:Int):Rat):=by
  have aT:=Rat.num_nonneg (q:=y);by_cases c:y<0
  ·have:y.num<0:=by have : ¬0<=y.num:=fun h=>by have:=aT.1 h;grind
                    omega
   rw[dw c,show ((eQ y).1.natAbs:Int) = -(eQ y).1 by simp only[eQ];omega,Rat.intCast_neg];grind
  ·have:0<=y.num:=aT.2 (by grind);rw[dA c,show ((eQ y).1.natAbs:Int)=(eQ y).1 by simp only[eQ];omega];grind
 rw[dN,c0,dN,dN];simp only[eQ] at *;split<;>grind
theorem ry {n:Int}(h:mS n):nA n=some (ca (n:Rat)):=by rw[La h];unfold ca eQ;rw[Rat.num_intCast,Rat.den_intCast];rfl
theorem UZ {n:Int}(h:mS n):eC (n:Rat):=by have:=IG h;unfold eC;rw[Rat.num_intCast,Rat.den_intCast];exact⟨this.num,this.den⟩
theorem Uq {n d:Int}{x:Rat}(h0:d≠0)(e:(d:Rat)*x=n)(aT:(n.natAbs:Int)<B 24)(bC:(d.natAbs:Int)<B 24):eC x:=by
 have rK:(d:Rat)≠0:=fun c=>h0 (Rat.intCast_inj.1 (by rw[c];rfl));have aa:x=Rat.divInt n d:=by rw[Rat.divInt_eq_div,<- e];grind
 rw[aa];unfold eC;rw[Rat.num_divInt,Rat.den_divInt,dA h0];constructor
 ·have h1:(d.sign*n / (d.gcd n:Int)).natAbs<=(d.sign*n).natAbs:=Int.natAbs_ediv_le_natAbs _ _;have h2:(d.sign*n).natAbs<=n.natAbs:=(by rw[Int.natAbs_mul];have:d.sign.natAbs<=1:=(by rw[Int.natAbs_sign];split<;>omega);exact Nat.le_trans (dM _ this) (by omega));omega
 ·have:d.natAbs / d.gcd n<=d.natAbs:=Nat.div_le_self _ _;omega
theorem oU {x:Rat}:ju x=0↔x=0:=by
 unfold ju;split
 ·simp_all
 ·split<;>simp_all
theorem su {x:Rat}:0<ju x↔0<x:=by
 unfold ju;split
 ·rename_i h;rw[h];simp
 ·split
  ·rename_i h1 h2;constructor
   ·intro h;omega
   ·intro h;grind
  ·rename_i h1 h2;constructor
   ·intro h;grind
   ·intro h;omega
theorem aft (n:Nat)(aT:n<=1000)(k:Nat)(aX:k<n)(a b:Nat->Rat)(bG:∀j,j<n->eC (a j))(aW:∀j,j<n->eC (b j))(hm:∀j,j<n->eC (-(a k)*b j))(bJ:∀j,j<n->eC (a j-a k*b j)):
 DG k 0 n 0 n (aQ n fun j=>ca (a j)) (aQ n fun j=>ca (b j))=some (aQ n fun j=>ca (a j-a k*b j)):=by
 unfold DG;refine bq (by omega) (aI (x:=ca (a k)) (by rw[dy];exact g9 aX) (aI (pz (bG k aX)) ?_));refine pZ (fun h=> ?_) (fun h=> ?_)
 ·have h0:=oU.1 (by simpa using h);congr 1;exact eA fun j _=>by rw[h0];congr 1;grind
 ·refine aI (IH (bG k aX)) ?_
  obtain⟨s,e1,e2⟩:=h4 (f:=fun w:Int×List ao=>Ao 0 n 0 n ((n:Nat):Int) (aQ n fun j=>ca (b j)) (ca (-(a k))).d8.cF (ca (-(a k))).d8.cc (ca (-(a k))).e6 w.1 w.2)
   (fun (i:Nat) (_:Unit)=>((i:Int),aQ n fun j=>if j<i then ca (a j-a k*b j) else ca (a j))) n (fun _ _=>True) (fun _=>aQ n fun j=>ca (a j-a k*b j))
   (fun i ab _ _=>by
     refine⟨(),?_,trivial⟩;unfold Ao;refine dW (by simp only;omega) (bq (by simp only;omega) (aI (x:=ca (b i)) (by simp only;rw[dy];exact g9 ab) (aI (pz (aW i ab)) ?_)));refine pZ (fun h=> ?_) (fun h=> ?_)
     ·refine bq (by simp only;omega) (aI (x:=ca (a i)) (by simp only;rw[dy,g9 ab,dA (by omega)]) ?_)
      refine aI (VB (bG k aX).neg (aW i ab) (hm i ab)) (aI (E8 (bG i ab) (hm i ab) (by have:=bJ i ab;rw[show a i + -(a k)*b i=a i-a k*b i by grind];exact this)) ?_);refine bq (by simp only;rw[cb];omega) ?_;simp only;rw[fl (by omega),dy,dG,kG];congr 3
      exact eA fun j _=>by
       by_cases c:j=i
       ·subst c;rw[dw rfl,dw (by omega)];congr 1;grind
       ·rw[dA c]
        by_cases cm:j<i
        ·rw[dw cm,dw (by omega)]
        ·rw[dA cm,dA (by omega)]
     ·have h0:b i=0:=oU.1 (by simpa using h)
      simp only;rw[fl (by omega)];congr 3
      exact eA fun j _=>by
       by_cases c:j=i
       ·subst c;rw[dA (by omega),dw (by omega),h0];congr 1;grind
       ·by_cases cm:j<i
        ·rw[dw cm,dw (by omega)]
        ·rw[dA cm,dA (by omega)])
   (fun _ _=>by unfold Ao;refine eg (by simp) ?_;simp only;congr 2;exact eA fun j aq=>dw aq) () trivial
  refine aI (x:=aQ n fun j=>ca (a j-a k*b j)) ?_ rfl;unfold Qv;have bN:(aQ n fun j=>if j<0 then ca (a j-a k*b j) else ca (a j))=aQ n fun j=>ca (a j):=eA fun j _=>dA (by omega);rw[bN] at e1;exact e1
theorem TV (n:Nat)(aT:n<=1000)(k:Nat)(aX:k<n)(a b:Nat->Rat)(bG:∀j,j<n->eC (a j))(aW:∀j,j<n->eC (b j))(hm:∀j,j<n->eC (-(a k)*b j))(bJ:∀j,j<n->eC (a j-a k*b j)):
 xG k 0 n (aQ n fun j=>ca (a j)) (aQ n fun j=>ca (b j))=some (aQ n fun j=>ca (a j-a k*b j)):=by
 unfold xG;rw[cb];refine bq (by omega) (aI (x:=ca (a k)) (by rw[dy];exact g9 aX) (aI (pz (bG k aX)) ?_));refine pZ (fun h=> ?_) (fun h=> ?_)
 ·have h0:=oU.1 (by simpa using h);congr 1;exact eA fun j _=>by rw[h0];congr 1;grind
 ·refine aI (IH (bG k aX)) ?_
  obtain⟨s,e1,e2⟩:=h4 (f:=fun w:Int×List ao=>vX 0 n ((n:Nat):Int) (aQ n fun j=>ca (b j)) (ca (-(a k))).d8.cF (ca (-(a k))).d8.cc (ca (-(a k))).e6 w.1 w.2)
   (fun (i:Nat) (_:Unit)=>((i:Int),aQ n fun j=>if j<i then ca (a j-a k*b j) else ca (a j))) n (fun _ _=>True) (fun _=>aQ n fun j=>ca (a j-a k*b j))
   (fun i ab _ _=>by
     refine⟨(),?_,trivial⟩;unfold vX;refine dW (by simp only;omega) (bq (by simp only;omega) (aI (x:=ca (b i)) (by simp only;rw[dy];exact g9 ab) (aI (pz (aW i ab)) ?_)));refine pZ (fun h=> ?_) (fun h=> ?_)
     ·refine bq (by simp only;rw[cb];omega) (aI (x:=ca (a i)) (by simp only;rw[dy,g9 ab,dA (by omega)]) ?_)
      refine aI (VB (bG k aX).neg (aW i ab) (hm i ab)) (aI (E8 (bG i ab) (hm i ab) (by have:=bJ i ab;rw[show a i + -(a k)*b i=a i-a k*b i by grind];exact this)) ?_);refine bq (by simp only;rw[cb];omega) ?_;simp only;rw[fl (by omega),dy,dG,kG];congr 3
      exact eA fun j _=>by
       by_cases c:j=i
       ·subst c;rw[dw rfl,dw (by omega)];congr 1;grind
       ·rw[dA c]
        by_cases cm:j<i
        ·rw[dw cm,dw (by omega)]
        ·rw[dA cm,dA (by omega)]
     ·have h0:b i=0:=oU.1 (by simpa using h)
      simp only;rw[fl (by omega)];congr 3
      exact eA fun j _=>by
       by_cases c:j=i
       ·subst c;rw[dA (by omega),dw (by omega),h0];congr 1;grind
       ·by_cases cm:j<i
        ·rw[dw cm,dw (by omega)]
        ·rw[dA cm,dA (by omega)])
   (fun _ _=>by unfold vX;refine eg (by simp) ?_;simp only;congr 2;exact eA fun j aq=>dw aq) () trivial
  refine aI (x:=aQ n fun j=>ca (a j-a k*b j)) ?_ rfl;unfold Km;have bN:(aQ n fun j=>if j<0 then ca (a j-a k*b j) else ca (a j))=aQ n fun j=>ca (a j):=eA fun j _=>dA (by omega);rw[bN] at e1;exact e1
def iq (m N:Nat):List bR:=aQ m fun i=>some (i,N+1)
def cS (m:Nat)(t:bV):ar:=aQ m fun i=>((t.B i:Nat):Int)
def gX (N:Nat)(t:bV)(i:Nat):List ao:=aQ (N+1) fun j=>ca (t.T i j)
def gm (m N:Nat)(t:bV):List (List ao):=aQ m (gX N t)
def hb (N:Nat)(c:Nat->Rat):List ao:=aQ (N+1) fun j=>ca (c j)
structure I8 (m N:Nat) (t:bV) (c:Nat->Rat) (r k:Nat):Prop where
 T : ∀i,i<m-> ∀j,j<=N->eC (t.T i j)
 h3 : ∀i,i<m-> ∀j,j<=N->eC ((t.ck r k).T i j)
 M : ∀i,i<m->i≠r-> ∀j,j<=N->eC (-(t.T i k)*(t.T r j / t.T r k))
 aY : ∀j,j<=N->eC (c j)
 uz : ∀j,j<=N->eC (c j-c k*(t.T r j / t.T r k))
 hm : ∀j,j<=N->eC (-(c k)*(t.T r j / t.T r k))
theorem Ur {m N:Nat}(hm:m<=1000)(gE:N<1000){t:bV}{c:Nat->Rat}{r k:Nat}(ai:r<m)(aX:k<=N)(ah:t.T r k≠0)(h:I8 m N t c r k)(mE:Int):
 xL r k mE (iq m N) (cS m t) (hb N c) (gm m N t)=some (cS m (t.ck r k),hb N (fun j=>c j-c k*(t.T r j / t.T r k)),gm m N (t.ck r k)):=by
 have tT : ∀j,(t.ck r k).T r j=t.T r j / t.T r k:=fun j=>by simp[bV.ck]
 have r6 : ∀i j,i≠r->(t.ck r k).T i j=t.T i j-t.T i k*(t.T r j / t.T r k):=fun i j ab=>by simp[bV.ck,ab]
 unfold xL;refine bq (by unfold iq;rw[cb];omega) (aI (x:=some (r,N+1)) (by rw[dy];exact g9 ai) (aI (x:=(r,N+1)) rfl (aI (x:=gX N t r) (fN ai) ?_)));refine bq (by simp only;omega) (aI (x:=ca (t.T r k)) (by rw[dy];exact g9 (by omega)) ?_)
 obtain⟨s1,e1,-⟩:=h4 (f:=fun w:Int×List (List ao)=>Ap r k (((N+1:Nat):Nat):Int) mE (iq m N) (cS m t) (hb N c) (ca (t.T r k)).d8.cF (ca (t.T r k)).d8.cc (ca (t.T r k)).e6 w.1 w.2)
  (fun (i:Nat) (_:Unit)=>((i:Int),aQ m fun ff=>if ff=r then aQ (N+1) (fun j=>if j<i then ca (t.T r j / t.T r k) else ca (t.T r j)) else gX N t ff)) (N+1) (fun _ _=>True)
  (fun _=>aQ m fun ff=>if ff=r then gX N (t.ck r k) r else gX N t ff)
  (fun i ab _ _=>by
    refine⟨(),?_,trivial⟩;unfold Ap;refine dW (by simp only;omega) (bq (by unfold iq;rw[cb];omega) (aI (x:=some (r,N+1)) (by rw[dy];exact g9 ai) (aI (x:=(r,N+1)) rfl ?_)));refine aI (x:=aQ (N+1) (fun j=>if j<i then ca (t.T r j / t.T r k) else ca (t.T r j))) (by simp only;rw[fN ai,dw rfl]) ?_;refine bq (by simp only;omega) (aI (x:=ca (t.T r i)) (by simp only;rw[dy,g9 ab,dA (by omega)]) ?_);refine aI (VC (h.T r ai i (by omega)) (h.T r ai k aX) ah (by have:=h.h3 r ai i (by omega);rw[tT] at this;exact this)) ?_;simp only;rw[fl (by omega),dy,dG,kG,kG];congr 3;refine eA fun ff _=> ?_;by_cases bl:ff=r
    ·rw[dw bl,dw bl]
     exact eA fun j _=>by
      by_cases cm:j=i
      ·subst cm;rw[dw rfl,dw (by omega)]
      ·rw[dA cm]
       by_cases j5:j<i
       ·rw[dw j5,dw (by omega)]
       ·rw[dA j5,dA (by omega)]
    ·rw[dA bl,dA bl,dA bl])
  (fun _ _=>by
    unfold Ap;refine eg (by simp) ?_;simp only;congr 2;refine eA fun ff _=> ?_;by_cases bl:ff=r
    ·rw[dw bl,dw bl];exact eA fun j aq=>by rw[dw aq,tT]
    ·rw[dA bl,dA bl]) () trivial
 refine aI (x:=aQ m fun ff=>if ff=r then gX N (t.ck r k) r else gX N t ff) ?_ ?_
 ·unfold Qw
  have bN:(aQ m fun ff=>if ff=r then aQ (N+1) (fun j=>if j<0 then ca (t.T r j / t.T r k) else ca (t.T r j)) else gX N t ff)=gm m N t:=eA fun ff _=>by
   by_cases bl:ff=r
   ·rw[dw bl,bl];exact eA fun j _=>dA (by omega)
   ·rw[dA bl]
  rw[bN] at e1;exact e1
 obtain⟨s2,e2,-⟩:=h4 (f:=fun w:Int×List (List ao)=>Aq r k ((m:Nat):Int) mE (iq m N) (cS m t) (hb N c) w.1 w.2)
  (fun (i:Nat) (_:Unit)=>((i:Int),aQ m fun ff=>if ff=r\/ff<i then gX N (t.ck r k) ff else gX N t ff)) m (fun _ _=>True)
  (fun _=>gm m N (t.ck r k))
  (fun i ab _ _=>by
    refine⟨(),?_,trivial⟩;unfold Aq;refine dW (by simp only;omega) (pZ (fun c8=> ?_) (fun CC=> ?_))
    ·have C1:i≠r:=by intro c;subst c;simp at c8
     refine bq (by unfold iq;rw[cb];simp only;omega) (aI (x:=some (i,N+1)) (by simp only;rw[dy];exact g9 ab) ?_);refine bq (by unfold iq;rw[cb];omega) (aI (x:=some (r,N+1)) (by rw[dy];exact g9 ai) ?_);refine aI (x:=(i,N+1)) rfl (aI (x:=(r,N+1)) rfl ?_);refine aI (x:=gX N t i) (by simp only;rw[fN ab,dA (by omega)]) (aI (x:=gX N (t.ck r k) r) (by simp only;rw[fN ai,dw (.inl rfl)]) ?_);refine bq (by simp only;omega) ?_;refine aI (aft (N+1) (by omega) k (by omega) (fun j=>t.T i j) (fun j=>(t.ck r k).T r j) (fun j aq=>h.T i ab j (by omega)) (fun j aq=>h.h3 r ai j (by omega)) (fun j aq=>by rw[tT];exact h.M i ab C1 j (by omega)) (fun j aq=>by have:=h.h3 i ab j (by omega);rw[r6 i j C1] at this;rw[tT];exact this)) ?_;simp only;rw[fl (by omega),kG,kG];congr 3;refine eA fun ff _=> ?_;by_cases bl:ff=r
     ·rw[dw bl,dw (.inl bl),bl]
     ·rw[dA bl]
      by_cases cm:ff=i
      ·subst cm;rw[dw rfl,dw (.inr (by omega))];exact eA fun j _=>by rw[r6 ff j C1,tT]
      ·rw[dA cm]
       by_cases j5:ff<i
       ·rw[dw (.inr j5),dw (.inr (by omega))]
       ·rw[dA (by omega),dA (by omega)]
    ·have C1:i=r:=by simp at CC;omega
     simp only;rw[fl (by omega)];congr 3;refine eA fun ff _=> ?_;by_cases bl:ff=r\/ff<i
     ·rw[dw bl,dw (by omega)]
     ·rw[dA bl,dA (by omega)])
  (fun _ _=>by unfold Aq;refine eg (by simp) ?_;simp only;congr 2;exact eA fun ff lK=>dw (.inr lK)) () trivial
 refine aI (x:=gm m N (t.ck r k)) ?_ ?_
 ·unfold Qx
  rw[show ((iq m N).length:Nat)=m from cb ..]
  have bN:(aQ m fun ff=>if ff=r\/ff<0 then gX N (t.ck r k) ff else gX N t ff)=aQ m fun ff=>if ff=r then gX N (t.ck r k) r else gX N t ff:=eA fun ff _=>by
   by_cases bl:ff=r
   ·rw[dw (.inl bl),dw bl,bl]
   ·rw[dA (by omega),dA bl]
  rw[bN] at e2;exact e2
 refine aI (x:=gX N (t.ck r k) r) (fN ai) (bq (by simp only;omega) ?_);refine aI (TV (N+1) (by omega) k (by omega) c (fun j=>(t.ck r k).T r j) (fun j aq=>h.aY j (by omega)) (fun j aq=>h.h3 r ai j (by omega)) (fun j aq=>by rw[tT];exact h.hm j (by omega)) (fun j aq=>by rw[tT];exact h.uz j (by omega))) ?_;refine bq (by unfold hb;rw[cb,cb]) (bq (by unfold cS;rw[cb];omega) (bq (by unfold cS;rw[cb,dy];omega) ?_));congr 1;rw[dy,dG];congr 1
 ·unfold cS;rw[kG];exact eA fun i _=>by simp only[bV.ck];split<;>rfl
 ·congr 1
  ·exact eA fun j _=>by rw[tT]
  ·unfold gm
   rw[kG]
   exact eA fun i _=>by
    split
    ·rename_i bl;rw[bl]
    ·rfl
theorem afu {m:Nat}(hm:m<=1000)(t:bV)(mE:Int)(rows:List (List ao))(cost:List ao)(j:Nat): ∃b,DV ⟨mE,rows,cS m t,cost⟩ (j:Int)=some b/\(b=true↔ ∃i,i<m/\t.B i=j):=by
 unfold DV
 obtain⟨r,e,h⟩:=sq (f:=fun w:Int=>Di j (cS m t) ((m:Nat):Int) w) (fun (i:Nat) (_:Unit)=>(i:Int)) m (fun i _=> ∀k,k<i->t.B k≠j) (fun r=>(r = .inr ()/\ ∃i,i<m/\t.B i=j)\/(r = .inl ()/\ ¬∃i,i<m/\t.B i=j))
  (fun i ab _ cZ=>by
    unfold Di;by_cases c:t.B i=j
    ·right;refine⟨_,dW (by omega) (bq (by unfold cS;rw[cb];omega) (aI (x:=((t.B i:Nat):Int)) (by rw[dy];exact fN ab) (gy (by simp[c]) rfl))),.inl ⟨rfl,i,ab,c⟩⟩
    ·left
     refine⟨(),dW (by omega) (bq (by unfold cS;rw[cb];omega) (aI (x:=((t.B i:Nat):Int)) (by rw[dy];exact fN ab) (jc (by simp;omega) (by rw[fl (by omega)])))),fun k aX=> ?_⟩;by_cases e:k=i
     ·rw[e];exact c
     ·exact cZ k (by omega))
  (fun _ cZ=>⟨_,eg (by omega) rfl,.inr ⟨rfl,fun ⟨i,ab,e⟩=>cZ i ab e⟩⟩) () (fun k aX=>by omega)
 have e3:KD j (cS m t) (len_ eI (cS m t)) 0=some r:=by unfold KD;rw[gu,show (cS m t).length=m from cb ..];exact e
 rcases h with ⟨rfl,h⟩|⟨rfl,h⟩
 ·exact⟨true,aI e3 rfl,by simp[h]⟩
 ·exact⟨false,aI e3 rfl,by simp[h]⟩
theorem af9 {N:Nat}(gE:N<1000)(mE:Int)(rows:List (List ao))(js:ar)(c:Nat->Rat){j:Nat}(aq:j<=N)(aY:eC (c j)):u0 ⟨mE,rows,js,hb N c⟩ (j:Int) false=some (ju (c j)):=by
 unfold u0;refine bq (by unfold hb;rw[cb];omega) (aI (x:=ca (c j)) (by rw[dy];exact fN (by omega)) (aI (pz aY) ?_));refine aI (x:= .inl (ju (c j))) ?_ rfl;unfold Rz;rw[iter];have:xv mE rows js (hb N c) (j:Int) false (ju (c j)) 0=some (.inr (.inl (ju (c j)))):=by unfold xv;exact pZ (fun _=>rfl) (fun _=>rfl)
 simp only;rw[this];rfl
theorem H6 {x y z w:Rat}(aU:0<y)(hw:0<w):(x / y<=z / w↔x*w<=z*y)/\(x / y=z / w↔x*w=z*y):=by
 have e1:x*w=(x / y)*(y*w):=by grind
 have e2:z*y=(z / w)*(y*w):=by grind
 have ah:0<y*w:=Rat.mul_pos aU hw;constructor
 ·rw[e1,e2]
  constructor
  ·intro h;exact Rat.mul_le_mul_of_nonneg_right h (Rat.le_of_lt ah)
  ·intro h;apply Classical.byContradiction;intro c;have:z / w<x / y:=(by grind);have:=Rat.mul_lt_mul_of_pos_right this ah;grind
 ·rw[e1,e2]
  constructor
  ·intro h;rw[h]
  ·intro h;have c8:y*w≠0:=(by grind);grind
def It (m N:Nat)(t:bV)(j:Nat)(r:Int):Prop :=
 (r = -1/\ ∀i,i<m-> ¬0<t.T i j)\/ ∃b:Nat,r=b/\b<m/\0<t.T b j/\(∀i,i<m->0<t.T i j->t.T b N*t.T i j<=t.T i N*t.T b j)/\(∀i,i<m->0<t.T i j->t.T b N*t.T i j=t.T i N*t.T b j->t.B b<=t.B i)
theorem afv {m N:Nat}(hm:m<=1000)(gE:N<1000)(t:bV)(mE:Int)(cost:List ao){j:Nat}(aq:j<=N)(hZ:∀i,i<m-> ∀j,j<=N->eC (t.T i j))(aZ:∀i,i<m->0<t.T i j->eC (t.T i N / t.T i j)):
 ∃r,DW ⟨mE,gm m N t,cS m t,cost⟩ (j:Int)=some r/\It m N t j r:=by
 unfold DW
 obtain⟨r,e,h⟩:=sq (f:=fun w:Int×Int×Bool×ar×ar=>Ay mE (gm m N t) (cS m t) cost j ((m:Nat):Int) w.1 w.2.1 w.2.2.1 w.2.2.2.1 w.2.2.2.2)
  (fun (i:Nat) (s:Int×ao)=>(s.1,(i:Int),s.2.d8.cF,s.2.d8.cc,s.2.e6)) m
  (fun n s=>(s.1 = -1/\ ∀i,i<n-> ¬0<t.T i j)\/ ∃b:Nat,s.1=b/\b<n/\0<t.T b j/\s.2=ca (t.T b N / t.T b j)/\ ∀i,i<n->0<t.T i j->t.T b N / t.T b j<t.T i N / t.T i j\/(t.T b N / t.T b j=t.T i N / t.T i j/\t.B b<=t.B i))
  (fun r=>It m N t j r)
  (fun n aT s cZ=>by
    left;unfold Ay;have g1:0<=((n:Nat):Int)/\((n:Nat):Int)<((gm m N t).length:Nat):=(by unfold gm;rw[cb];omega);have g2:(gm m N t)[((n:Nat):Int).toNat]? = some (gX N t n):=(by rw[dy];exact fN aT);have g3:0<=((j:Nat):Int)/\((j:Nat):Int)<((gX N t n).length:Nat):=(by unfold gX;rw[cb];omega);have g4:(gX N t n)[((j:Nat):Int).toNat]? = some (ca (t.T n j)):=(by rw[dy];exact fN (by omega));have iW:U ((n:Int)+1)=((n+1:Nat):Int):=fl (by omega);have wl:U (len_ aA (gX N t n)-1)=(N:Int):=(by rw[fs,show (gX N t n).length=N+1 from cb ..,cQ (by omega) (by omega)];omega);by_cases ah:0<t.T n j
    ·have bJ : ¬ju (t.T n j)<=0:=by have:=su.2 ah;omega
     have g5:0<=U (len_ aA (gX N t n)-1)/\U (len_ aA (gX N t n)-1)<((gX N t n).length:Nat):=(by rw[wl];unfold gX;rw[cb];omega);have g6:(gX N t n)[(U (len_ aA (gX N t n)-1)).toNat]? = some (ca (t.T n N)):=(by rw[wl,dy];exact fN (by omega));have g7:xV (ca (t.T n N)) (ca (t.T n j))=some (ca (t.T n N / t.T n j)):=VC (hZ n aT N (by omega)) (hZ n aT j aq) (by grind) (aZ n aT ah);rcases cZ with ⟨h1,h2⟩|⟨b,h1,aW,kB,h2,J⟩
     ·refine⟨((n:Int),ca (t.T n N / t.T n j)),dW (by simp only;omega) (bq g1 (aI g2 (bq g3 (aI g4 (aI (pz (hZ n aT j aq)) (eg bJ (bq g5 (aI g6 (aI g7 (dW (by simp only;omega) ?_)))))))))),.inr ⟨n,rfl,by omega,ah,rfl,fun i ab jk=> ?_⟩⟩
      ·simp only;rw[iW]
      ·by_cases c:i=n
       ·subst c;exact .inr ⟨rfl,dD _⟩
       ·exact(h2 i (by omega) jk).elim
     ·have g8:wg (ca (t.T n N / t.T n j)) (⟨(⟨s.2.d8.cF,s.2.d8.cc⟩:bz),s.2.e6⟩:ao)=some (if t.T n N / t.T n j<t.T b N / t.T b j then -1 else if t.T b N / t.T b j<t.T n N / t.T n j then 1 else 0):=by
       have:(⟨(⟨s.2.d8.cF,s.2.d8.cc⟩:bz),s.2.e6⟩:ao)=ca (t.T b N / t.T b j):=h2;rw[this];exact agQ (aZ n aT ah) (aZ b (by omega) kB)
      by_cases bl:t.T n N / t.T n j<t.T b N / t.T b j
      ·rw[dw bl] at g8
       refine⟨((n:Int),ca (t.T n N / t.T n j)),dW (by simp only;omega) (bq g1 (aI g2 (bq g3 (aI g4 (aI (pz (hZ n aT j aq)) (eg bJ (bq g5 (aI g6 (aI g7 (eg (by simp only;omega) (aI g8 (dW (by omega) ?_)))))))))))),.inr ⟨n,rfl,by omega,ah,rfl,fun i ab jk=> ?_⟩⟩
       ·simp only;rw[iW]
       ·by_cases c:i=n
        ·subst c;exact .inr ⟨rfl,dD _⟩
        ·rcases J i (by omega) jk with h|⟨h,-⟩
         ·left;grind
         ·left;rw[<- h];exact bl
      ·rw[dA bl] at g8
       by_cases cm:t.T b N / t.T b j<t.T n N / t.T n j
       ·rw[dw cm] at g8
        refine⟨s,dW (by simp only;omega) (bq g1 (aI g2 (bq g3 (aI g4 (aI (pz (hZ n aT j aq)) (eg bJ (bq g5 (aI g6 (aI g7 (eg (by simp only;omega) (aI g8 (eg (by omega) (jc (by decide) ?_))))))))))))),.inr ⟨b,h1,by omega,kB,h2,fun i ab jk=> ?_⟩⟩
        ·simp only;rw[iW]
        ·by_cases c:i=n
         ·subst c;exact .inl cm
         ·exact J i (by omega) jk
       ·rw[dA cm] at g8
        have Oc:t.T b N / t.T b j=t.T n N / t.T n j:=(by grind);have JI:0<=((n:Nat):Int)/\((n:Nat):Int)<((cS m t).length:Nat):=(by unfold cS;rw[cb];omega);have JJ:(cS m t)[((n:Nat):Int).toNat]? = some ((t.B n:Nat):Int):=(by rw[dy];exact fN aT);have Xn:0<=s.1/\s.1<((cS m t).length:Nat):=(by unfold cS;rw[cb];omega);have Xo:(cS m t)[s.1.toNat]? = some ((t.B b:Nat):Int):=(by rw[h1,dy];exact fN (by omega));by_cases j5:t.B n<t.B b
        ·refine⟨((n:Int),ca (t.T n N / t.T n j)),dW (by simp only;omega) (bq g1 (aI g2 (bq g3 (aI g4 (aI (pz (hZ n aT j aq)) (eg bJ (bq g5 (aI g6 (aI g7 (eg (by simp only;omega) (aI g8 (eg (by omega) (gy rfl (bq JI (aI JJ (bq Xn (aI Xo (dW (by omega) ?_)))))))))))))))))),.inr ⟨n,rfl,by omega,ah,rfl,fun i ab jk=> ?_⟩⟩
         ·simp only;rw[iW]
         ·by_cases c:i=n
          ·subst c;exact .inr ⟨rfl,dD _⟩
          ·rcases J i (by omega) jk with h|⟨h,c1⟩
           ·left;grind
           ·right;exact⟨by grind,by omega⟩
        ·refine⟨s,dW (by simp only;omega) (bq g1 (aI g2 (bq g3 (aI g4 (aI (pz (hZ n aT j aq)) (eg bJ (bq g5 (aI g6 (aI g7 (eg (by simp only;omega) (aI g8 (eg (by omega) (gy rfl (bq JI (aI JJ (bq Xn (aI Xo (eg (by omega) ?_)))))))))))))))))),.inr ⟨b,h1,by omega,kB,h2,fun i ab jk=> ?_⟩⟩
         ·simp only;rw[iW]
         ·by_cases c:i=n
          ·subst c;exact .inr ⟨Oc,by omega⟩
          ·exact J i (by omega) jk
    ·have bJ:ju (t.T n j)<=0:=by
      have : ¬0<ju (t.T n j):=fun c=>ah (su.1 c);omega
     refine⟨s,dW (by simp only;omega) (bq g1 (aI g2 (bq g3 (aI g4 (aI (pz (hZ n aT j aq)) (dW bJ ?_)))))),?_⟩
     ·simp only;rw[iW]
     ·rcases cZ with ⟨h1,h2⟩|⟨b,h1,aW,kB,h2,J⟩
      ·exact .inl ⟨h1,fun i ab=>if c:i=n then c▸ah else h2 i (by omega)⟩
      ·exact .inr ⟨b,h1,by omega,kB,h2,fun i ab jk=>if c:i=n then (ah (c▸jk)).elim else J i (by omega) jk⟩)
  (fun s cZ=>by
    refine⟨s.1,by unfold Ay;exact eg (by simp only;omega) rfl,?_⟩;rcases cZ with ⟨h1,h2⟩|⟨b,h1,aW,kB,h2,J⟩
    ·exact .inl ⟨h1,h2⟩
    ·refine .inr ⟨b,h1,aW,kB,fun i ab jk=> ?_,fun i ab jk he=> ?_⟩
     ·rw[<- (H6 kB jk).1]
      rcases J i ab jk with h|⟨h,-⟩
      ·exact Rat.le_of_lt h
      ·rw[h];exact Rat.le_refl
     ·rw[<- (H6 kB jk).2] at he
      rcases J i ab jk with h|⟨-,h⟩
      ·rw[he] at h;grind
      ·exact h) ((-1:Int),(⟨⟨false,[]⟩,[]⟩:ao)) (.inl ⟨rfl,fun i ab=>by omega⟩)
 refine⟨r,aI ?_ rfl,h⟩;unfold Rk;rw[fs,show (gm m N t).length=m from cb ..];exact e
theorem E9 {m N:Nat}(t:bV):(iq m N).all (tH (gm m N t))=true:=by
 rw[List.all_eq_true];intro x aa;obtain⟨i,ab,rfl⟩:=Mi.1 aa;simp only[tH];have h1:(gm m N t).length=m:=cb ..;have h2:(gm m N t).getD i []=gX N t i:=by rw[List.getD_eq_getElem?_getD,show (gm m N t)[i]? = some (gX N t i) from fN ab];rfl
 rw[h1,h2,show (gX N t i).length=N+1 from cb ..];simp[ab]
theorem yC {m N:Nat}(t:bV):(iq m N).map (jH (gm m N t))=gm m N t:=by unfold iq;rw[UP];exact eA fun i ab=>by have h2:(gm m N t).getD i []=gX N t i:=(by rw[List.getD_eq_getElem?_getD,show (gm m N t)[i]? = some (gX N t i) from fN ab];rfl);simp only[jH];rw[h2];exact List.take_of_length_le (Nat.le_of_eq (cb ..))
theorem afw {m N:Nat}(hm:m<=1000)(gE:N<1000)(t:bV)(c:Nat->Rat)(deep:Bool)(G:Nat->Prop)(aj3:∀j,G j-> ∀i,i<m->t.B i≠j)
 (bJ : ∀j,j<N-> ∃g,u0 ⟨N,gm m N t,cS m t,hb N c⟩ (j:Int) deep=some g/\((∀i,i<m->t.B i≠j)->(0<g↔G j))) :
 ∃r,KE deep N (iq m N) (cS m t) (hb N c) (gm m N t) (-1) 0=some r/\((r = -1/\ ∀j,j<N-> ¬G j)\/ ∃s:Nat,r=s/\s<N/\G s/\ ∀j,j<s-> ¬G j):=by
 unfold KE
 refine sq (f:=fun w:Int×Int=>xt deep N (iq m N) (cS m t) (hb N c) (gm m N t) w.1 w.2) (fun (i:Nat) (e:Int)=>(e,(i:Int))) N
  (fun n e=>(e = -1/\ ∀j,j<n-> ¬G j)\/ ∃s:Nat,e=s/\s<N/\G s/\ ∀j,j<s-> ¬G j) _ (fun n aT e cZ=> ?_) (fun e cZ=> ?_) (-1) (.inl ⟨rfl,fun j aq=>by omega⟩)
 ·rcases cZ with ⟨rfl,h⟩|⟨s,rfl,vM,vE,ajp⟩
  ·left
   obtain⟨b,e1,e2⟩:=afu hm t (N:Int) (gm m N t) (hb N c) n;obtain⟨g,g1,g2⟩:=bJ n aT;unfold xt
   cases b with
   | true =>
    obtain⟨i,ab,Jo⟩:=e2.1 rfl;refine⟨-1,dW (by simp only;omega) (dW (by simp) (bq (E9 t) (aI (by rw[yC];exact e1) (gy rfl ?_)))),.inl ⟨rfl,fun j aq di=> ?_⟩⟩
    ·simp only;rw[fl (by omega)]
    ·by_cases c:j=n
     ·subst c;exact aj3 j di i ab Jo
     ·exact h j (by omega) di
   | false =>
    have Xp : ∀i,i<m->t.B i≠n:=fun i ab e=>(by have:=e2.2 ⟨i,ab,e⟩;simp at this);by_cases di:G n
    ·refine⟨(n:Int),dW (by simp only;omega) (dW (by simp) (bq (E9 t) (aI (by rw[yC];exact e1) (jc rfl (aI (by rw[yC];exact g1) (dW ((g2 Xp).2 di) ?_)))))),.inr ⟨n,rfl,aT,di,h⟩⟩;simp only;rw[fl (by omega)]
    ·refine⟨-1,dW (by simp only;omega) (dW (by simp) (bq (E9 t) (aI (by rw[yC];exact e1) (jc rfl (aI (by rw[yC];exact g1) (eg (fun x=>di ((g2 Xp).1 x)) ?_)))))),.inl ⟨rfl,fun j aq=>if c:j=n then c▸di else h j (by omega)⟩⟩;simp only;rw[fl (by omega)]
  ·right;exact⟨(s:Int),by unfold xt;exact dW (by simp only;omega) (eg (by simp only;omega) rfl),.inr ⟨s,rfl,vM,vE,ajp⟩⟩
 ·exact⟨e,by unfold xt;exact eg (by simp only;omega) rfl,cZ⟩
theorem bV.ac6 {eU m N K:Nat}{A obj:Nat->Nat->Rat}{t:bV}(h:gQ eU m N A t){j:Nat}(g:t.qD m K obj j): ∀i,i<m->t.B i≠j :=
 fun i ab e=>iA.not_zero g fun l _=>by rw[<- e];exact h.xZ (obj l) ab
theorem VD {eU m N K:Nat}(hm:m<=1000)(gE:N<1000){A obj:Nat->Nat->Rat}(deep:Bool)(Inv:bV->Prop)
 (inv : ∀t,Inv t->gQ eU m N A t/\t.l8 m N) (hX : ∀t r s,Inv t->oB m N K obj (fun _=>True) t r s->Inv (t.ck r s))
 (bJ : ∀t,Inv t-> ∀j,j<N-> ∃g,u0 ⟨N,gm m N t,cS m t,hb N (t.cn m (obj 0))⟩ (j:Int) deep=some g/\((∀i,i<m->t.B i≠j)->(0<g↔t.qD m K obj j)))
 (hZ : ∀t,Inv t-> ∀i,i<m-> ∀j,j<=N->eC (t.T i j)) (aZ : ∀t,Inv t-> ∀i,i<m-> ∀j,j<=N->0<t.T i j->eC (t.T i N / t.T i j))
 (ah : ∀t,Inv t-> ∀r k,r<m->k<N->t.T r k≠0->I8 m N t (t.cn m (obj 0)) r k) (t:bV) (cg:Inv t) :
 ∃b cD,uY deep N (iq m N) (cS m t) (hb N (t.cn m (obj 0))) (gm m N t)=some (b,cS m cD,hb N (cD.cn m (obj 0)),gm m N cD)/\Inv cD /\
  ((b=true/\ ∀j,j<N-> ¬cD.qD m K obj j)\/(b=false/\ ∃s,s<N/\cD.qD m K obj s/\ ∀i,i<m-> ¬0<cD.T i s)):=by
 obtain⟨x,ej,cD,e,⟨WQ,cZ⟩,-,-,eM⟩:=Tc (eU:=eU) (m:=m) (N:=N) (K:=K) (A:=A) (obj:=obj) (bM:=fun _=>True)
  (f:=fun w:ar×(List ao)×(List (List ao))=>Dj deep N (iq m N) w.1 w.2.1 w.2.2)
  (fun a t=>a=(cS m t,hb N (t.cn m (obj 0)),gm m N t)/\Inv t)
  (fun a x t=> ∃b,x=(b,cS m t,hb N (t.cn m (obj 0)),gm m N t)/\((b=true/\ ∀j,j<N-> ¬t.qD m K obj j)\/(b=false/\ ∃s,s<N/\t.qD m K obj s/\ ∀i,i<m-> ¬0<t.T i s)))
  (fun a t dg ok lc=>by
    obtain⟨rfl,cZ⟩:=dg;obtain⟨r,e1,e2⟩:=afw hm gE t (t.cn m (obj 0)) deep (t.qD m K obj) (fun j di=>bV.ac6 ok di) (bJ t cZ);simp only;unfold Dj;rcases e2 with ⟨rfl,h⟩|⟨s,rfl,JK,di,aV⟩
    ·left;exact⟨_,aI e1 (dW (by decide) rfl),true,rfl,.inl ⟨rfl,h⟩⟩
    ·obtain⟨q,q1,q2⟩:=afv hm gE t (N:Int) (hb N (t.cn m (obj 0))) (j:=s) (by omega) (hZ t cZ) (fun i ab jk=>aZ t cZ i ab s (by omega) jk)
     rcases q2 with ⟨rfl,h⟩|⟨b,rfl,aW,kB,h1,h2⟩
     ·left;exact⟨_,aI e1 (eg (by omega) (bq (E9 t) (aI (by rw[yC];exact q1) (dW (by decide) rfl)))),false,rfl,.inr ⟨rfl,s,JK,di,h⟩⟩
     ·right;have c2:oB m N K obj (fun _=>True) t b s:=⟨JK,trivial,di,fun j aq _=>aV j aq,aW,kB,h1,h2⟩;refine⟨_,b,s,aI e1 (eg (by omega) (bq (E9 t) (aI (by rw[yC];exact q1) (eg (by omega) (aI (Ur hm gE aW (by omega) (by grind) (ah t cZ b s aW JK (by grind)) N) rfl))))),c2,?_,hX t b s cZ c2⟩;refine Prod.ext rfl (Prod.ext ?_ rfl);exact eA fun j _=>by rw[ok.H2 (obj 0) aW JK (by grind)])
  (a:=(cS m t,hb N (t.cn m (obj 0)),gm m N t)) (t:=t) ⟨rfl,cg⟩ (inv t cg).1 (inv t cg).2
 obtain⟨b,rfl,aW⟩:=eM;refine⟨b,cD,?_,cZ,aW⟩;unfold uY;exact aI (x:=(b,cS m cD,hb N (cD.cn m (obj 0)),gm m N cD)) (by unfold Rl;exact e) rfl
structure mW (p:kj) (m n:Nat) (a:Nat->Nat->Int) (b:Nat->Int):Prop where
 rows:p.hq=m
 gL:p.fT=n
 hp:p.eb.length=m*n
 I9 : ∀i,i<m-> ∀j,j<n->p.eb[i*n+j]? = some (a i j)
 Oz:p.ew.length=m
 Nd : ∀i,i<m->p.ew[i]? = some (b i)
 hm:m<=20
 aT:n<=40
 xe : ∀i,i<m-> ∀j,j<n-> -100<=a i j/\a i j<=100
 uQ : ∀i,i<m-> -100<=b i/\b i<=100
theorem vr {p:kj}{m n:Nat}{a:Nat->Nat->Int}{b:Nat->Int}(h:mW p m n a b){i:Nat}(ab:i<m)(j:Nat): -100<=ls m n a b i j/\ls m n a b i j<=100:=by
 have aW:=h.uQ i ab;unfold ls k0;by_cases c:j<n
 ·have bG:=h.xe i ab j c;rw[dw c];split<;>omega
 ·rw[dA c]
  split
  ·split<;>omega
  ·split<;>omega
theorem MT {p:kj}{m n:Nat}{a:Nat->Nat->Int}{b:Nat->Int}(h:mW p m n a b){i:Nat}(ab:i<m)(j:Nat):dm 100 (db m n a b i j) :=
 ⟨ls m n a b i j,rfl,by have:=vr h ab j;omega⟩
theorem aga:(1000000000000000000:Int)<B 24:=by decide
theorem LN {K:Nat}{x:Rat}(h:dm K x)(aX:K<=1000000000000000000):eC x:=by obtain⟨z,rfl,cC⟩:=h;have:=aga;exact Uq (n:=z) (d:=1) (by decide) (by rw[show ((1:Int):Rat)=1 from rfl];grind) (by omega) (by omega)
theorem VE {p:kj}{m n:Nat}{a:Nat->Nat->Int}{b:Nat->Int}(h:mW p m n a b){i:Nat}(ab:i<m):BB p i=some (aQ n (a i)):=by
 have hm:=h.hm;have aT:=h.aT;have h1:i*n<=20*40:=Nat.mul_le_mul (by omega) aT;have h2:(i+1)*n<=20*40:=Nat.mul_le_mul (by omega) aT;have J:(i+1)*n<=m*n:=dM _ ab;have e1:U ((i:Int)*p.fT)=((i*n:Nat):Int):=by rw[h.gL,<- Int.natCast_mul,cQ (by omega) (by omega)]
 have e2:U (U ((i:Int)+1)*p.fT)=(((i+1)*n:Nat):Int):=by rw[h.gL,fl (by omega),<- Int.natCast_mul,cQ (by omega) (by omega)]
 have aj:(i+1)*n=i*n+n:=Nat.succ_mul i n;unfold BB;rw[e1,e2,dy,dy,h.hp];refine bq (by omega) (bq (by omega) (bq (by omega) ?_));congr 1;apply List.ext_getElem?;intro j;rw[List.getElem?_take,List.getElem?_drop];by_cases c:j<n
 ·rw[dw (by omega),h.I9 i ab j c,fN c]
 ·rw[dA (by omega)]
  symm
  rw[List.getElem?_eq_none_iff,cb];omega
def ir (m n:Nat)(a:Nat->Nat->Int)(b:Nat->Int)(i j:Nat):Rat:=if j<n\/j=n+m then cr i (fun k=>db m n a b k j) else 0
theorem V3 {p:kj}{m n:Nat}{a:Nat->Nat->Int}{b:Nat->Int}(h:mW p m n a b){i:Nat}(ab:i<=m)(j:Nat):dm 2000 (ir m n a b i j):=by
 have hm:=h.hm;unfold ir;split
 ·exact(dm.sum fun k aX=>MT h (by omega) j).mono (by omega)
 ·exact⟨0,rfl,by omega⟩
theorem aco {p:kj}{m n:Nat}{a:Nat->Nat->Int}{b:Nat->Int}(h:mW p m n a b){i:Nat}(ab:i<m)(aW:b i<0)(x0:Int)(q2:List bR)(bP:List (List ao))(cw:ar)(dY:List ao):
 (Ku (i:Int) (aQ n (a i)) (len_ eI (aQ n (a i))) p.hq p.fT p.eb p.ew p.hy x0 q2 bP cw dY 0 ([]:List ao) >>= fun b4=>Kv (i:Int) p.hq p.fT p.eb p.ew p.hy x0 q2 bP cw dY 0 b4)=some (aQ (n+m) fun j=>ca (db m n a b i j)):=by
 have hm:=h.hm;have aT:=h.aT;have bJ:k0 (b i) = -1:=by unfold k0;rw[dw aW]
 obtain⟨s1,e1,-⟩:=h4 (f:=fun w:Int×List ao=>Al (i:Int) (aQ n (a i)) ((n:Nat):Int) p.hq p.fT p.eb p.ew p.hy x0 q2 bP cw dY w.1 w.2)
  (fun (k:Nat) (_:Unit)=>((k:Int),aQ k fun j=>ca (db m n a b i j))) n (fun _ _=>True) (fun _=>aQ n fun j=>ca (db m n a b i j))
  (fun k aX _ _=>by
    refine⟨(),?_,trivial⟩;have bG:=h.xe i ab k aX;unfold Al;have e:U ((-1:Int)*a i k)=ls m n a b i k:=(by rw[cQ (by omega) (by omega)];unfold ls;rw[dw aX,bJ]);refine dW (by simp only;omega) (bq (by rw[cb];simp only;omega) (aI (x:=a i k) (by simp only;rw[dy];exact fN aX) (aI (x:=ca (db m n a b i k)) ?_ (bq (by simp only[dF,cb,List.length_cons,List.length_nil];omega) ?_))))
    ·rw[e];exact ry (by have:=vr h ab k;rw[kT];omega)
    ·simp only;rw[fl (by omega),kE])
  (fun _ _=>by unfold Al;exact eg (by simp) rfl) () trivial
 refine aI (x:=aQ n fun j=>ca (db m n a b i j)) (by unfold Ku;rw[gu,cb];exact e1) ?_
 obtain⟨s2,e2,-⟩:=h4 (f:=fun w:Int×List ao=>Am (i:Int) p.hq p.fT p.eb p.ew p.hy x0 q2 bP cw dY w.1 w.2)
  (fun (k:Nat) (_:Unit)=>((k:Int),aQ (n+k) fun j=>ca (db m n a b i j))) m (fun _ _=>True) (fun _=>aQ (n+m) fun j=>ca (db m n a b i j))
  (fun k aX _ _=>by
    refine⟨(),?_,trivial⟩;unfold Am
    have GS:ls m n a b i (n+k)=if k=i then 1 else 0:=by
     unfold ls;rw[dA (by omega),dA (by omega)];by_cases c:k=i
     ·rw[dw c,dw (by omega)]
     ·rw[dA c,dA (by omega)]
    refine dW (by simp only;rw[h.rows];omega) (pZ (fun c=> ?_) (fun c=> ?_))
    ·have zt:k=i:=(by simp at c;omega);refine aI (x:=ca (db m n a b i (n+k))) (by unfold db;rw[GS,dw zt];exact ry (by rw[kT];omega)) (bq (by simp only[dF,cb,List.length_cons,List.length_nil];omega) ?_);simp only;rw[fl (by omega),<- Nat.add_assoc,kE]
    ·have zt:k≠i:=(by simp at c;omega);refine aI (x:=ca (db m n a b i (n+k))) (by unfold db;rw[GS,dA zt];exact ry (by rw[kT];omega)) (bq (by simp only[dF,cb,List.length_cons,List.length_nil];omega) ?_);simp only;rw[fl (by omega),<- Nat.add_assoc,kE])
  (fun _ _=>by unfold Am;exact eg (by simp only;rw[h.rows];omega) rfl) () trivial
 unfold Kv;exact e2
theorem acp {p:kj}{m n:Nat}{a:Nat->Nat->Int}{b:Nat->Int}(h:mW p m n a b){i:Nat}(ab:i<m)(aW:¬b i<0)(x0:Int)(q2:List bR)(bP:List (List ao))(cw:ar)(dY:List ao):
 (Kk (i:Int) (aQ n (a i)) (len_ eI (aQ n (a i))) p.hq p.fT p.eb p.ew p.hy x0 q2 bP cw dY 0 ([]:List ao) >>= fun b4=>Kl (i:Int) p.hq p.fT p.eb p.ew p.hy x0 q2 bP cw dY 0 b4)=some (aQ (n+m) fun j=>ca (db m n a b i j)):=by
 have hm:=h.hm;have aT:=h.aT;have bJ:k0 (b i)=1:=by unfold k0;rw[dA aW]
 obtain⟨s1,e1,-⟩:=h4 (f:=fun w:Int×List ao=>z9 (i:Int) (aQ n (a i)) ((n:Nat):Int) p.hq p.fT p.eb p.ew p.hy x0 q2 bP cw dY w.1 w.2)
  (fun (k:Nat) (_:Unit)=>((k:Int),aQ k fun j=>ca (db m n a b i j))) n (fun _ _=>True) (fun _=>aQ n fun j=>ca (db m n a b i j))
  (fun k aX _ _=>by
    refine⟨(),?_,trivial⟩;have bG:=h.xe i ab k aX;unfold z9;have e:U ((1:Int)*a i k)=ls m n a b i k:=(by rw[cQ (by omega) (by omega)];unfold ls;rw[dw aX,bJ]);refine dW (by simp only;omega) (bq (by rw[cb];simp only;omega) (aI (x:=a i k) (by simp only;rw[dy];exact fN aX) (aI (x:=ca (db m n a b i k)) ?_ (bq (by simp only[dF,cb,List.length_cons,List.length_nil];omega) ?_))))
    ·rw[e];exact ry (by have:=vr h ab k;rw[kT];omega)
    ·simp only;rw[fl (by omega),kE])
  (fun _ _=>by unfold z9;exact eg (by simp) rfl) () trivial
 refine aI (x:=aQ n fun j=>ca (db m n a b i j)) (by unfold Kk;rw[gu,cb];exact e1) ?_
 obtain⟨s2,e2,-⟩:=h4 (f:=fun w:Int×List ao=>Aa (i:Int) p.hq p.fT p.eb p.ew p.hy x0 q2 bP cw dY w.1 w.2)
  (fun (k:Nat) (_:Unit)=>((k:Int),aQ (n+k) fun j=>ca (db m n a b i j))) m (fun _ _=>True) (fun _=>aQ (n+m) fun j=>ca (db m n a b i j))
  (fun k aX _ _=>by
    refine⟨(),?_,trivial⟩;unfold Aa
    have GS:ls m n a b i (n+k)=if k=i then 1 else 0:=by
     unfold ls;rw[dA (by omega),dA (by omega)];by_cases c:k=i
     ·rw[dw c,dw (by omega)]
     ·rw[dA c,dA (by omega)]
    refine dW (by simp only;rw[h.rows];omega) (pZ (fun c=> ?_) (fun c=> ?_))
    ·have zt:k=i:=(by simp at c;omega);refine aI (x:=ca (db m n a b i (n+k))) (by unfold db;rw[GS,dw zt];exact ry (by rw[kT];omega)) (bq (by simp only[dF,cb,List.length_cons,List.length_nil];omega) ?_);simp only;rw[fl (by omega),<- Nat.add_assoc,kE]
    ·have zt:k≠i:=(by simp at c;omega);refine aI (x:=ca (db m n a b i (n+k))) (by unfold db;rw[GS,dA zt];exact ry (by rw[kT];omega)) (bq (by simp only[dF,cb,List.length_cons,List.length_nil];omega) ?_);simp only;rw[fl (by omega),<- Nat.add_assoc,kE])
  (fun _ _=>by unfold Aa;exact eg (by simp only;rw[h.rows];omega) rfl) () trivial
 unfold Kl;exact e2
theorem Tm {p:kj}{m n:Nat}{a:Nat->Nat->Int}{b:Nat->Int}(h:mW p m n a b){i:Nat}(ab:i<m)(q2:List (List ao))(bP:List bR)(cw:ar)(aZ:q2[i]? = some (aQ (n+m+1) fun j=>ca (db m n a b i j))):
 Ha (i:Int) i (n+m+1) (((n+m+1:Nat):Nat):Int) p.hq p.fT p.eb p.ew p.hy ((n+m:Nat):Int) q2 bP cw 0 (aQ (n+m+1) fun j=>ca (ir m n a b i j))=some (aQ (n+m+1) fun j=>ca (ir m n a b (i+1) j)):=by
 have hm:=h.hm;have aT:=h.aT;have aj4 : ∀j,eC (db m n a b i j):=fun j=>LN (MT h ab j) (by omega);have f1 : ∀j,eC (ir m n a b i j):=fun j=>LN (V3 h (by omega) j) (by omega);have f2 : ∀j,eC (ir m n a b (i+1) j):=fun j=>LN (V3 h (by omega) j) (by omega);have es : ∀j,(j<n\/j=n+m)->ir m n a b i j+db m n a b i j=ir m n a b (i+1) j:=fun j aq=>by unfold ir;rw[dw aq,dw aq,cr]
 have zG : ∀j,¬(j<n\/j=n+m)->ir m n a b i j=ir m n a b (i+1) j:=fun j aq=>by unfold ir;rw[dA aq,dA aq]
 obtain⟨s,e,-⟩:=h4 (f:=fun w:Int×List ao=>An (i:Int) i (n+m+1) (((n+m+1:Nat):Nat):Int) p.hq p.fT p.eb p.ew p.hy ((n+m:Nat):Int) q2 bP cw w.1 w.2)
  (fun (k:Nat) (_:Unit)=>((k:Int),aQ (n+m+1) fun j=>ca (if j<k then ir m n a b (i+1) j else ir m n a b i j))) (n+m+1) (fun _ _=>True) (fun _=>aQ (n+m+1) fun j=>ca (ir m n a b (i+1) j))
  (fun k aX _ _=>by
    refine⟨(),?_,trivial⟩
    have fin : ∀r,r=ir m n a b (i+1) k->(U ((k:Int)+1),(aQ (n+m+1) fun j=>ca (if j<k then ir m n a b (i+1) j else ir m n a b i j)).set (0+((k:Int)).toNat) (ca r))=(((k+1:Nat):Int),aQ (n+m+1) fun j=>ca (if j<k+1 then ir m n a b (i+1) j else ir m n a b i j)):=by
     intro r ai;rw[fl (by omega),dy,dG,kG];congr 1;refine eA fun j _=> ?_;by_cases c:j=k
     ·subst c;rw[dw rfl,dw (by omega),ai]
     ·rw[dA c]
      by_cases cm:j<k
      ·rw[dw cm,dw (by omega)]
      ·rw[dA cm,dA (by omega)]
    have XZ : ∀ {x:Option ((Int×List ao)⊕List ao)},(k<n\/k=n+m)->(∀r,(U ((k:Int)+1),(aQ (n+m+1) fun j=>ca (if j<k then ir m n a b (i+1) j else ir m n a b i j)).set (0+((k:Int)).toNat) (ca r))=(((k+1:Nat):Int),aQ (n+m+1) fun j=>ca (if j<k+1 then ir m n a b (i+1) j else ir m n a b i j))->some (Sum.inl (U ((k:Int)+1),(aQ (n+m+1) fun j=>ca (if j<k then ir m n a b (i+1) j else ir m n a b i j)).set (0+((k:Int)).toNat) (ca r)))=x) ->
     (if 0<=(k:Int)/\(k:Int)<(((aQ (n+m+1) fun j=>ca (if j<k then ir m n a b (i+1) j else ir m n a b i j)).length:Nat):Int) then
       (aQ (n+m+1) fun j=>ca (if j<k then ir m n a b (i+1) j else ir m n a b i j))[(0+((k:Int)).toNat)]? >>= fun fJ =>
       q2[i]? >>= fun ol =>
       if 0<=(k:Int)/\(k:Int)<((n+m+1:Nat):Int) then
       ol[(0+((k:Int)).toNat)]? >>= fun eX =>
       rm fJ eX >>= fun bZ =>
       if (0+((k:Int)).toNat)<(aQ (n+m+1) fun j=>ca (if j<k then ir m n a b (i+1) j else ir m n a b i j)).length then
       some (.inl (U ((k:Int)+(1:Int)),(aQ (n+m+1) fun j=>ca (if j<k then ir m n a b (i+1) j else ir m n a b i j)).set (0+((k:Int)).toNat) bZ))
       else none
       else none
       else none)=x:=by
     intro x Ju aa;refine bq (by rw[cb];omega) (aI (x:=ca (ir m n a b i k)) (by rw[dy,g9 aX,dA (by omega)]) (aI aZ (bq (by omega) (aI (x:=ca (db m n a b i k)) (by rw[dy];exact g9 aX) (aI (E8 (f1 k) (aj4 k) (by rw[es k Ju];exact f2 k)) (bq (by rw[cb,dy];omega) ?_))))));exact aa _ (fin _ (es k Ju))
    unfold An;refine dW (by simp only;omega) (pZ (fun c=> ?_) (fun c=> ?_))
    ·have Od:k<n:=(by have:=of_decide_eq_true c;rw[h.gL] at this;simp only at this;omega);exact XZ (.inl Od) fun r ai=>by rw[ai]
    ·have Od : ¬k<n:=by have:=of_decide_eq_false c;rw[h.gL] at this;simp only at this;omega
     refine pZ (fun cm=> ?_) (fun cm=> ?_)
     ·have Xq:k=n+m:=(by simp at cm;omega);exact XZ (.inr Xq) fun r ai=>by rw[ai]
     ·have Xq:k≠n+m:=by simp at cm;omega
      simp only;rw[fl (by omega)];congr 3;refine eA fun j _=> ?_;by_cases j5:j=k
      ·subst j5;rw[dA (by omega),dw (by omega),zG j (by omega)]
      ·by_cases rZ:j<k
       ·rw[dw rZ,dw (by omega)]
       ·rw[dA rZ,dA (by omega)])
  (fun _ _=>by unfold An;refine eg (by simp) ?_;simp only;congr 2;exact eA fun j aq=>by rw[dw aq]) () trivial
 unfold Ha;have bN:(aQ (n+m+1) fun j=>ca (if j<0 then ir m n a b (i+1) j else ir m n a b i j))=aQ (n+m+1) fun j=>ca (ir m n a b i j):=eA fun j _=>by rw[dA (by omega)]
 rw[bN] at e;exact e
theorem qV {K:Nat}{d x y:Rat}(bC:dm K d)(aU:dm K y)(h0:d≠0)(e:d*x=y)(iG:(K:Int)<B 24):eC x:=by obtain⟨z,rfl,cC⟩:=bC;obtain⟨w,rfl,hw⟩:=aU;exact Uq (n:=w) (d:=z) (fun c=>h0 (by rw[c];rfl)) e (by omega) (by omega)
@[irreducible] def ez:Nat:=mA 100 20
theorem Cq:mA 100 20=ez:=by unfold ez;rfl
theorem agR:((21*100*(ez*ez):Nat):Int)<B 24:=by decide +kernel
theorem sB:0<ez:=by decide +kernel
structure lI (m N:Nat) (A:Nat->Nat->Rat) (t:bV):Prop where
 ok:gQ m m N A t
 lc:t.l8 m N
 r7:t.D m A≠0
structure Small (m N:Nat) (A:Nat->Nat->Rat):Prop where
 hm:m<=20
 pp : ∀c,c<m-> ∀j,j<=N->dm 100 (A c j)
theorem lI.zu {m N:Nat}{A:Nat->Nat->Rat}(s:Small m N A){t:bV}(h:lI m N A t):dm ez (t.D m A):=by refine dm.mono (wv fun i ab c aY=>s.pp c aY _ (Nat.le_of_lt (h.ok.js i ab))) (Cq▸yd (by omega) s.hm)
theorem lI.uK {m N:Nat}{A:Nat->Nat->Rat}(s:Small m N A){t:bV}(h:lI m N A t){i j:Nat}(ab:i<m)(aq:j<=N):dm ez (t.T i j*t.D m A):=by
 rw[<- h.ok.xc ab aq];refine dm.mono (wv fun k aX c aY=> ?_) (Cq▸yd (by omega) s.hm);simp only[hf];split
 ·exact s.pp c aY j aq
 ·exact s.pp c aY _ (Nat.le_of_lt (h.ok.js k aX))
theorem pC {k:Nat}(h:k<=21*100*(ez*ez)):((k:Nat):Int)<B 24:=by have:=agR;omega
theorem Cz:ez<=21*100*(ez*ez):=by have h1:ez*1<=ez*ez:=Nat.mul_le_mul_left _ sB;omega
theorem lI.Ja {m N:Nat}{A:Nat->Nat->Rat}(s:Small m N A){t:bV}(h:lI m N A t){i j:Nat}(ab:i<m)(aq:j<=N):eC (t.T i j) :=
 qV (h.zu s) (h.uK s ab aq) h.r7 (by grind) (pC Cz)
theorem lI.Wr {m N:Nat}{A:Nat->Nat->Rat}(s:Small m N A){t:bV}(h:lI m N A t){i j:Nat}(ab:i<m)(aq:j<=N)(ah:0<t.T i j):eC (t.T i N / t.T i j) :=
 qV (h.uK s ab aq) (h.uK s ab (dD _)) (fun c=>by have h1:=h.r7;have:t.T i j≠0:=(by grind);grind) (by grind) (pC Cz)
theorem lI.Xr {m N:Nat}{A:Nat->Nat->Rat}(s:Small m N A){t:bV}(h:lI m N A t){o:Nat->Rat}(ak:∀j,j<=N->dm 100 (o j)){j:Nat}(aq:j<=N):dm (21*100*ez) (t.cn m o j*t.D m A):=by
 have hm:=s.hm;unfold bV.cn;have e:(o j-cr m (fun i=>o (t.B i)*t.T i j))*t.D m A=o j*t.D m A-cr m (fun i=>o (t.B i)*(t.T i j*t.D m A)):=by rw[gd (f:=fun i=>o (t.B i)*(t.T i j*t.D m A)) (g:=fun i=>(o (t.B i)*t.T i j)*t.D m A) (fun i _=>by grind),u3];grind
 rw[e];refine dm.mono (((ak j aq).mul (h.zu s)).sub (dm.sum fun i ab=>(ak _ (Nat.le_of_lt (h.ok.js i ab))).mul (h.uK s ab aq))) ?_;have:m*(100*ez)<=20*(100*ez):=dM _ hm;omega
theorem wM:21*100*ez<=21*100*(ez*ez):=by have h1:ez*1<=ez*ez:=Nat.mul_le_mul_left _ sB;omega
theorem lI.y0 {m N:Nat}{A:Nat->Nat->Rat}(s:Small m N A){t:bV}(h:lI m N A t){o:Nat->Rat}(ak:∀j,j<=N->dm 100 (o j)){j:Nat}(aq:j<=N):eC (t.cn m o j) :=
 qV ((h.zu s).mono (Nat.le_trans (by omega:ez<=21*100*ez) (dD _))) (h.Xr s ak aq) h.r7 (by grind) (pC wM)
theorem lI.hX {m N K:Nat}{A obj:Nat->Nat->Rat}{bM:Nat->Prop}{t:bV}(h:lI m N A t){r k:Nat}(b:oB m N K obj bM t r k):lI m N A (t.ck r k) :=
 ⟨b.ok h.ok,b.FN h.lc,by rw[h.ok.yJ b.ai b.bJ];have h1:=b.pos;have h2:=h.r7;intro c;have:t.T r k≠0:=(by grind);grind⟩
theorem lI.FQ {m N:Nat}{A:Nat->Nat->Rat}(s:Small m N A){t:bV}(h:lI m N A t){o:Nat->Rat}(ak:∀j,j<=N->dm 100 (o j)){r k:Nat}(ai:r<m)(aX:k<N)(ah:t.T r k≠0)(c1:gQ m m N A (t.ck r k)):I8 m N t (t.cn m o) r k:=by
 have bC:=h.r7;have rK:(t.ck r k).D m A≠0:=by rw[h.ok.yJ ai aX];grind
 have e3:(t.ck r k).D m A=t.T r k*t.D m A:=h.ok.yJ ai aX;have i2:dm ez ((t.ck r k).D m A):=dm.mono (wv fun i ab c aY=>s.pp c aY _ (Nat.le_of_lt (c1.js i ab))) (Cq▸yd (by omega) s.hm)
 have zw : ∀i,i<m-> ∀j,j<=N->dm ez ((t.ck r k).T i j*(t.ck r k).D m A):=fun i ab j aq=>by
  rw[<- c1.xc ab aq];refine dm.mono (wv fun k aX c aY=> ?_) (Cq▸yd (by omega) s.hm);simp only[hf];split
  ·exact s.pp c aY j aq
  ·exact s.pp c aY _ (Nat.le_of_lt (c1.js k aX))
 have zH:dm (21*100*(ez*ez)) (t.D m A*(t.ck r k).D m A):=((h.zu s).mul i2).mono (by omega);have Xs:t.D m A*(t.ck r k).D m A≠0:=by grind
 refine⟨fun i ab j aq=>h.Ja s ab aq,fun i ab j aq=>qV i2 (zw i ab j aq) rK (by grind) (pC Cz),fun i ab _ j aq=> ?_,fun j aq=>h.y0 s ak aq,fun j aq=> ?_,fun j aq=> ?_⟩
 ·refine qV zH (((h.uK s ab (Nat.le_of_lt aX)).mul (h.uK s ai aq)).neg.mono (by omega)) Xs ?_ (pC (dD _));rw[e3];grind
 ·rw[<- h.ok.H2 o ai aX ah];have g2:dm (21*100*ez) ((t.ck r k).cn m o j*(t.ck r k).D m A):=(by have hm:=s.hm;unfold bV.cn;have e:(o j-cr m (fun i=>o ((t.ck r k).B i)*(t.ck r k).T i j))*(t.ck r k).D m A=o j*(t.ck r k).D m A-cr m (fun i=>o ((t.ck r k).B i)*((t.ck r k).T i j*(t.ck r k).D m A)):=(by rw[gd (f:=fun i=>o ((t.ck r k).B i)*((t.ck r k).T i j*(t.ck r k).D m A)) (g:=fun i=>(o ((t.ck r k).B i)*(t.ck r k).T i j)*(t.ck r k).D m A) (fun i _=>by grind),u3];grind);rw[e];refine dm.mono (((ak j aq).mul i2).sub (dm.sum fun i ab=>(ak _ (Nat.le_of_lt (c1.js i ab))).mul (zw i ab j aq))) ?_;have:m*(100*ez)<=20*(100*ez):=dM _ hm;omega);exact qV (i2.mono (by omega)) g2 rK (by grind) (pC wM)
 ·refine qV zH (((h.Xr s ak (Nat.le_of_lt aX)).mul (h.uK s ai aq)).neg.mono (by
   rw[Nat.mul_assoc];exact dD _)) Xs ?_ (pC (dD _))
  rw[e3];grind
theorem afx {p:kj}{m n:Nat}{a:Nat->Nat->Int}{b:Nat->Int}(h:mW p m n a b):
 DF p=some (((n+m:Nat):Int),iq m (n+m),cS m (jB m n a b),hb (n+m) ((jB m n a b).cn m (gn m n)),gm m (n+m) (jB m n a b)):=by
 have hm:=h.hm;have aT:=h.aT;have gE:U (p.fT+p.hq)=((n+m:Nat):Int):=by rw[h.gL,h.rows,<- Int.natCast_add,cQ (by omega) (by omega)]
 unfold DF;rw[gE]
 obtain⟨s1,e1,-⟩:=h4 (f:=fun w:Int×List ao=>Ak p.hq p.fT p.eb p.ew p.hy ((n+m:Nat):Int) w.1 w.2)
  (fun (k:Nat) (_:Unit)=>((k:Int),aQ k fun j=>ca (0:Rat))) (n+m+1) (fun _ _=>True) (fun _=>aQ (n+m+1) fun j=>ca (0:Rat))
  (fun k aX _ _=>by refine⟨(),?_,trivial⟩;unfold Ak;refine dW (by simp only;omega) (aI (x:=ca (0:Rat)) (ry (n:=0) (by rw[kT];omega)) (bq (by simp only[dF,cb,List.length_cons,List.length_nil];omega) ?_));simp only;rw[fl (by omega),kE])
  (fun _ _=>by unfold Ak;exact eg (by simp only;omega) rfl) () trivial
 refine aI (x:=aQ (n+m+1) fun j=>ca (0:Rat)) (by unfold Qu;exact e1) ?_
 obtain⟨s2,e2,-⟩:=h4 (f:=fun w:Int×(List bR)×(List (List ao))×ar×(List ao)=>Ab p.hq p.fT p.eb p.ew p.hy ((n+m:Nat):Int) w.1 w.2.1 w.2.2.1 w.2.2.2.1 w.2.2.2.2)
  (fun (i:Nat) (_:Unit)=>((i:Int),aQ i (fun k=>some (k,n+m+1)),aQ i (gX (n+m) (jB m n a b)),aQ i (fun k=>((n+k:Nat):Int)),aQ (n+m+1) fun j=>ca (ir m n a b i j))) m (fun _ _=>True)
  (fun _=>(iq m (n+m),gm m (n+m) (jB m n a b),cS m (jB m n a b),aQ (n+m+1) fun j=>ca (ir m n a b m j)))
  (fun i ab _ _=>by
    refine⟨(),?_,trivial⟩;have aW:=h.uQ i ab;have hlen:((aQ (n+m) fun j=>ca (db m n a b i j))++[ca (db m n a b i (n+m))])=gX (n+m) (jB m n a b) i:=(kE ..).symm;have Xt:(gX (n+m) (jB m n a b) i).length=n+m+1:=cb ..;have hw:U (p.fT+(i:Int))=((n+i:Nat):Int):=(by rw[h.gL,<- Int.natCast_add,cQ (by omega) (by omega)]);have di:(aQ i (gX (n+m) (jB m n a b))++[gX (n+m) (jB m n a b) i])[i]? = some (gX (n+m) (jB m n a b) i):=(by rw[<- kE];exact fN (by omega));have Xu:(aQ i (gX (n+m) (jB m n a b))).length=i:=cb ..;have rY:ls m n a b i (n+m)=k0 (b i)*b i:=by unfold ls;rw[dA (by omega),dw rfl]
    have fin:(some (Sum.inl (U ((i:Int)+1),(aQ i (fun k=>(some (k,n+m+1):bR)))++[some (i,n+m+1)],aQ i (gX (n+m) (jB m n a b))++[gX (n+m) (jB m n a b) i],(aQ i fun k=>((n+k:Nat):Int))++[((n+i:Nat):Int)],aQ (n+m+1) fun j=>ca (ir m n a b (i+1) j))):Option ((Int×(List bR)×(List (List ao))×ar×(List ao))⊕((List bR)×(List (List ao))×ar×(List ao)))) =
     some (Sum.inl (((i+1:Nat):Int),aQ (i+1) (fun k=>some (k,n+m+1)),aQ (i+1) (gX (n+m) (jB m n a b)),aQ (i+1) (fun k=>((n+k:Nat):Int)),aQ (n+m+1) fun j=>ca (ir m n a b (i+1) j))):=by
     rw[fl (by omega),kE i (fun k=>(some (k,n+m+1):bR)),kE i (gX (n+m) (jB m n a b)),kE i (fun k=>((n+k:Nat):Int))]
    unfold Ab;refine dW (by simp only;rw[h.rows];omega) (bq (by simp only;rw[h.Oz];omega) (aI (x:=b i) (by simp only;rw[dy];exact h.Nd i ab) (pZ (fun c=> ?_) (fun c=> ?_))))
    ·have oE:b i<0:=of_decide_eq_true c;have bJ:k0 (b i) = -1:=(by unfold k0;rw[dw oE]);refine aI (VE h ab) ?_;have ai:=aco h ab oE ((n+m:Nat):Int) (aQ i (fun k=>some (k,n+m+1))) (aQ i (gX (n+m) (jB m n a b))) (aQ i (fun k=>((n+k:Nat):Int))) (aQ (n+m+1) fun j=>ca (ir m n a b i j));rw[dC,Option.bind_eq_some_iff] at ai;obtain⟨b4,ji,zo⟩:=ai;refine aI ji (aI zo (aI (x:=ca (db m n a b i (n+m))) (by have e:U ((-1:Int)*b i)=ls m n a b i (n+m):=(by rw[rY,bJ,cQ (by omega) (by omega)]);rw[e];exact ry (by have:=vr h ab (n+m);rw[kT];omega)) ?_));simp only;rw[hlen,Xu,Xt,hw];refine bq (by omega) (aI di (aI (Tm h ab _ _ _ di) (bq (by simp only[dF,cb,List.length_cons,List.length_nil];omega) (bq (by simp only[dF,cb,List.length_cons,List.length_nil];omega) fin))))
    ·have oE : ¬b i<0:=of_decide_eq_false c;have bJ:k0 (b i)=1:=(by unfold k0;rw[dA oE]);refine aI (VE h ab) ?_;have ai:=acp h ab oE ((n+m:Nat):Int) (aQ i (fun k=>some (k,n+m+1))) (aQ i (gX (n+m) (jB m n a b))) (aQ i (fun k=>((n+k:Nat):Int))) (aQ (n+m+1) fun j=>ca (ir m n a b i j));rw[dC,Option.bind_eq_some_iff] at ai;obtain⟨b4,ji,zo⟩:=ai;refine aI ji (aI zo (aI (x:=ca (db m n a b i (n+m))) (by have e:U ((1:Int)*b i)=ls m n a b i (n+m):=(by rw[rY,bJ,cQ (by omega) (by omega)]);rw[e];exact ry (by have:=vr h ab (n+m);rw[kT];omega)) ?_));simp only;rw[hlen,Xu,Xt,hw];refine bq (by omega) (aI di (aI (Tm h ab _ _ _ di) (bq (by simp only[dF,cb,List.length_cons,List.length_nil];omega) (bq (by simp only[dF,cb,List.length_cons,List.length_nil];omega) fin)))))
  (fun _ _=>by unfold Ab;exact eg (by simp only;rw[h.rows];omega) rfl) () trivial
 have e0:(aQ (n+m+1) fun j=>ca (ir m n a b 0 j))=aQ (n+m+1) fun j=>ca (0:Rat):=eA fun j _=>by unfold ir;split<;>rfl
 rw[e0] at e2;refine aI (x:=(iq m (n+m),gm m (n+m) (jB m n a b),cS m (jB m n a b),aQ (n+m+1) fun j=>ca (ir m n a b m j))) (by unfold Qf;exact e2) ?_;congr 1;refine Prod.ext rfl (Prod.ext rfl (Prod.ext rfl (Prod.ext ?_ rfl)));refine eA fun j aq=> ?_;rw[ad4];unfold ir gn;by_cases c:j<n\/j=n+m
 ·rw[dw c,dA (by omega)];congr 1;grind
 ·rw[dA c,dw (by omega)];obtain⟨k,rfl⟩ : ∃k,j=n+k:=⟨j-n,by omega⟩;rw[k6 (k:=k) (by omega) (fun i _ c8=>by rw[vf (by omega),dA (Ne.symm c8)]),vf (by omega),dw rfl,show (-1:Rat)+1=0 by grind]
theorem Iu (m n j:Nat):dm 100 (gn m n j):=by
 unfold gn;split
 ·exact⟨-1,rfl,by omega⟩
 ·exact⟨0,rfl,by omega⟩
theorem Jb {g:Nat->Rat}:iA 1 g↔0<g 0:=by
 constructor
 ·rintro⟨l,h1,h2,-⟩;rw[show l=0 by omega] at h2;exact h2
 ·intro h;exact⟨0,by omega,h,fun hv aV=>by omega⟩
theorem EE {p:kj}{m n:Nat}{a:Nat->Nat->Int}{b:Nat->Int}(h:mW p m n a b):Small m (n+m) (db m n a b):=⟨h.hm,fun c aY j _=>MT h aY j⟩
theorem aex {p:kj}{m n:Nat}{a:Nat->Nat->Int}{b:Nat->Int}(h:mW p m n a b):
 ∃t,uY false ((n+m:Nat):Int) (iq m (n+m)) (cS m (jB m n a b)) (hb (n+m) ((jB m n a b).cn m (gn m n))) (gm m (n+m) (jB m n a b))=some (true,cS m t,hb (n+m) (t.cn m (gn m n)),gm m (n+m) t) /\
  lI m (n+m) (db m n a b) t/\(t.cn m (gn m n) (n+m)=0↔qZ m n a b):=by
 have hm:=h.hm;have aT:=h.aT;have gz:=EE h
 obtain⟨q,t,e,cZ,eM⟩:=VD (eU:=m) (m:=m) (N:=n+m) (K:=1) (by omega) (by omega) (A:=db m n a b) (obj:=fun _=>gn m n) false (lI m (n+m) (db m n a b)) (fun t cg=>⟨cg.ok,cg.lc⟩) (fun t r s cg b=>cg.hX b)
  (fun t cg j aq=>⟨ju (t.cn m (gn m n) j),af9 (by omega) _ _ _ _ (by omega) (cg.y0 gz (fun j _=>Iu m n j) (by omega)),fun _=>by rw[su];exact(Jb (g:=fun _=>t.cn m (gn m n) j)).symm⟩)
  (fun t cg i ab j aq=>cg.Ja gz ab aq) (fun t cg i ab j aq ah=>cg.Wr gz ab aq ah)
  (fun t cg r k ai aX ah=>cg.FQ gz (fun j _=>Iu m n j) ai aX ah (cg.ok.ck ai aX ah)) (jB m n a b) ⟨UQ,TJ,Ui⟩
 rcases eM with ⟨rfl,eM⟩|⟨-,s,bJ,di,hg⟩
 ·refine⟨t,e,cZ,fun h0=>SH cZ.ok cZ.lc (Ll cZ.lc h0 cZ.ok.js),fun ajq=>Td cZ.ok cZ.lc (fun j aq=> ?_) ajq⟩;have:=eM j (by omega);have h2 : ¬0<t.cn m (gn m n) j:=fun c=>this (Jb.2 c);grind
 ·obtain⟨i,ab,ah⟩:=Sm cZ.ok bJ (Jb.1 di);exact(hg i ab ah).elim
def b5 (x:Rat):bz:=gx x.num
@[irreducible] def lA:Nat:=1000000000 ^ 40
theorem Ws:((lA:Nat):Int)+((lA:Nat):Int)<B 50:=by decide +kernel
theorem MG {K:Nat}{x:Rat}(h:dm K x):((x.num:Int):Rat)=x/\x.num.natAbs<=K:=by obtain⟨z,rfl,cC⟩:=h;rw[Rat.num_intCast];exact⟨rfl,cC⟩
theorem qd (z:Int):b5 (z:Rat)=gx z:=by unfold b5;rw[Rat.num_intCast]
theorem Ch {x:Rat}(h:dm lA x):(L x.num.natAbs).length<=50:=by have:=Ws;have h1:=(MG h).2;exact(hJ (by omega)).2 (by omega)
theorem BW {x y:Rat}(aa:dm lA x)(aU:dm lA y):p5 (b5 x) (b5 y)=some (b5 (x*y)):=by have h1:=Ch aa;have h2:=Ch aU;obtain⟨a,rfl,-⟩:=aa;obtain⟨b,rfl,-⟩:=aU;rw[Rat.num_intCast] at h1 h2;rw[qd,qd,<- dN,qd];exact LM (by omega) (by omega)
theorem Us {x y:Rat}(aa:dm lA x)(aU:dm lA y):xC (b5 x) (b5 y)=some (b5 (x-y)):=by have gl:=Ws;obtain⟨a,rfl,bG⟩:=aa;obtain⟨b,rfl,aW⟩:=aU;rw[qd,qd,<- Rat.intCast_sub,qd];exact aet (by omega) (by omega)
theorem wu {x:Rat}(aa:dm lA x):qE (b5 x)=some (ju x):=by
 obtain⟨a,rfl,bG⟩:=aa;rw[qd];unfold qE ju;simp only[gu];have e:(((L a.natAbs).length:Nat):Int)=0↔a=0:=by rw[I7 (by omega)];omega
 show (if (((L a.natAbs).length:Int) == 0)=true then some 0 else if decide (a<0)=true then some (-1) else some 1)=_;by_cases h0:a=0
 ·rw[dw (by rw[beq_iff_eq,e];exact h0),dw (by rw[h0];rfl)]
 ·have ajr:(a:Rat)≠0:=fun c=>h0 (Rat.intCast_inj.1 (by rw[c];rfl))
  rw[dA (by rw[beq_iff_eq,e];exact h0),dA ajr];have e2:(a:Rat)<0↔a<0:=(by rw[show (0:Rat)=((0:Int):Rat) from rfl,Rat.intCast_lt_intCast]);by_cases h1:a<0
  ·rw[dw (decide_eq_true h1),dw (e2.2 h1)]
  ·rw[dA (by simpa using h1),dA (fun c=>h1 (e2.1 c))]
theorem adK {x y:Rat}(aa:dm lA x)(aU:dm lA y):tW (b5 x) (b5 y)=some (if x<y then -1 else if y<x then 1 else 0):=by have h1:=Ch aa;have h2:=Ch aU;obtain⟨a,rfl,-⟩:=aa;obtain⟨b,rfl,-⟩:=aU;rw[Rat.num_intCast] at h1 h2;rw[qd,qd,Q7 (by omega) (by omega)];unfold kZ;simp only[Rat.intCast_lt_intCast]
theorem SQ {x:Rat}(aa:dm lA x):ri (b5 x)=some (b5 (-x)):=by obtain⟨a,rfl,-⟩:=aa;rw[qd,<- Rat.intCast_neg,qd];unfold ri;show (mK (!(decide (a<0))) (L a.natAbs)).bind _=_;rw[so (by omega),ME];rfl
theorem u4 {n:Int}(h:mS n):pu n=some (b5 (n:Rat)):=by rw[qd];exact Tk h
theorem adL {x y:Rat}(aa:dm lA x)(aU:dm lA y)(NK:dm lA (x*y))(h0:y≠0):v7 (b5 (x*y)) (b5 y)=some (b5 x):=by
 have h1:=Ch NK;have h2:=Ch aU;obtain⟨a,rfl,-⟩:=aa;obtain⟨b,rfl,-⟩:=aU;rw[<- dN] at h1 ⊢;rw[Rat.num_intCast] at h1 h2;have aW:b≠0:=fun c=>h0 (by rw[c];rfl);rw[qd,qd,qd];unfold v7;show (u6 (L (a*b).natAbs) (L b.natAbs)).bind _=_;rw[Io (iw _) (iw _) (fun c=>by have:=sG.1 c;omega) (by omega) (by omega),d9 (by omega),d9 (by omega)];have e1:((a*b).natAbs:Int) / (b.natAbs:Int)=(a.natAbs:Int):=by rw[Int.natAbs_mul,Int.natCast_mul];exact Int.mul_ediv_cancel _ (by omega)
 simp only[dx];rw[e1];show (mK (!(decide (a*b<0) == decide (b<0))) (L a.natAbs)).bind _=_;rw[so (by omega)];simp only[dx];congr 2;rcases Int.lt_or_gt_of_ne aW with c|c
 ·by_cases bG:a<0
  ·have : ¬a*b<0:=(by have:=Int.mul_pos_of_neg_of_neg bG c;omega);rw[decide_eq_false this,decide_eq_true c];simp only[eO,show (!(false == true))=true from rfl,if_true];omega
  ·by_cases cC:a=0
   ·subst cC;simp[eO]
   ·have:a*b<0:=Int.mul_neg_of_pos_of_neg (by omega) c;rw[decide_eq_true this,decide_eq_true c];simp only[eO,BEq.rfl,Bool.not_true,Bool.false_eq_true,if_false];omega
 ·by_cases bG:a<0
  ·have:a*b<0:=Int.mul_neg_of_neg_of_pos bG c;rw[decide_eq_true this,decide_eq_false (by omega)];simp only[eO,show (!(true == false))=true from rfl,if_true];omega
  ·have : ¬a*b<0:=(by have:=Int.mul_nonneg (show 0<=a by omega) (show 0<=b by omega);omega);rw[decide_eq_false this,decide_eq_false (by omega)];simp only[eO,BEq.rfl,Bool.not_true,Bool.false_eq_true,if_false];omega
def ij (N:Nat)(w:Rat)(t:bV)(i:Nat):List bz:=aQ (N+1) fun j=>b5 (t.T i j*w)
structure pI (m N:Nat) (w:Rat) (t:bV):Prop where
 pos:0<w
 hw:dm (21*100*ez) w
 hZ : ∀i,i<m-> ∀j,j<=N->dm ez (t.T i j*w)
 gl : ∀i,i<m->t.B i<N
theorem Ft:21*100*ez*(21*100*ez)+21*100*ez*(21*100*ez)<=lA:=by decide +kernel
theorem aie {q i:Nat}(aZ:0<q)(ab:i<=20):21*100*q*100+i*(q*100)<=21*100*q*(21*100*q):=by have h1:i*(q*100)<=20*(q*100):=dM _ ab;have h2:21*100*q*2100<=21*100*q*(21*100*q):=Nat.mul_le_mul_left _ (by omega);generalize 21*100*q*(21*100*q)=z at *;omega
theorem aif {i:Nat}(ab:i<=20):21*100*ez*100+i*(ez*100)<=lA :=
 Nat.le_trans (aie sB ab) (Nat.le_trans (Nat.le_add_right _ _) Ft)
theorem vA {K:Nat}(h:K<=21*100*ez):K<=lA:=by have ajs:=Ft;have h1:21*100*ez*1<=21*100*ez*(21*100*ez):=Nat.mul_le_mul_left _ (by have:=sB;generalize ez=q at *;omega);rw[Nat.mul_one] at h1;exact Nat.le_trans h (Nat.le_trans h1 (Nat.le_trans (Nat.le_add_right _ _) ajs))
theorem U0 {m N:Nat}(hm:m<=20)(gE:N<1000){w:Rat}{t:bV}(h:pI m N w t)(o:Nat->Int)(ak:∀j,j<N-> -100<=o j/\o j<=100)(j1:bz)(CB:j1=b5 w)(gL:Int)(free:List Bool){k:Nat}(aX:k<N):
 Bb ⟨aQ m (ij N w t),j1,cS m t,gL,free⟩ (aQ N o) (k:Int)=some (ju (t.cn m (fun j=>(o j:Rat)) k)):=by
 subst CB;have alU:=sB;have small : ∀ {x:Rat} {K:Nat},dm K x->K<=21*100*ez->dm lA x:=fun h1 h2=>h1.mono (vA h2);have an : ∀j,j<N->dm 100 ((o j:Int):Rat):=fun j aq=>⟨o j,rfl,by have:=ak j aq;omega⟩;have Xv : ∀j,j<N->mS (o j):=fun j aq=>by have:=ak j aq;rw[kT];omega
 let S:Nat->Rat:=fun i=>w*(o k:Rat)-cr i (fun i=>(t.T i k*w)*(o (t.B i):Rat))
 have xf : ∀i,i<=m->dm lA (S i):=fun i ab=>by have e1:dm (21*100*ez*100) (w*(o k:Rat)):=h.hw.mul (an k aX);have e2:dm (i*(ez*100)) (cr i (fun i=>(t.T i k*w)*(o (t.B i):Rat))):=dm.sum fun ff lK=>(h.hZ ff (by omega) k (by omega)).mul (an _ (h.gl ff (by omega)));exact(e1.sub e2).mono (aif (by omega))
 unfold Bb;refine bq (by rw[cb];omega) (aI (x:=o k) (by rw[dy];exact fN aX) (aI (u4 (Xv k aX)) (aI (BW (small h.hw (dD _)) (small (an k aX) (by omega))) ?_)))
 obtain⟨s,e,-⟩:=h4 (f:=fun q:Int×Bool×ar=>z7 (aQ m (ij N w t)) (b5 w).cF (b5 w).cc (cS m t) gL free (aQ N o) (k:Int) ((m:Nat):Int) q.1 q.2.1 q.2.2)
  (fun (i:Nat) (_:Unit)=>((i:Int),(b5 (S i)).cF,(b5 (S i)).cc)) m (fun _ _=>True) (fun _=>((b5 (S m)).cF,(b5 (S m)).cc))
  (fun i ab _ _=>by
    refine⟨(),?_,trivial⟩;have JL:=h.gl i ab;have GF:S (i+1)=S i-(t.T i k*w)*(o (t.B i):Rat):=(by simp only[S,cr];grind);unfold z7;refine dW (by simp only;omega) (bq (by unfold cS;rw[cb];simp only;omega) (aI (x:=((t.B i:Nat):Int)) (by simp only;rw[dy];exact fN ab) (bq (by rw[cb];omega) (aI (x:=o (t.B i)) (by rw[dy];exact fN JL) (pZ (fun c=> ?_) (fun c=> ?_))))))
    ·refine bq (by rw[cb];simp only;omega) (aI (x:=ij N w t i) (by simp only;rw[dy];exact fN ab) (bq (by unfold ij;rw[cb];omega) (aI (x:=b5 (t.T i k*w)) (by rw[dy];exact fN (by omega)) (aI (wu (small (h.hZ i ab k (by omega)) (by omega))) (pZ (fun cm=> ?_) (fun cm=> ?_))))))
     ·refine aI (u4 (Xv _ JL)) (aI (BW (small (h.hZ i ab k (by omega)) (by omega)) (small (an _ JL) (by omega))) (aI (Us (xf i (by omega)) (by
       exact small ((h.hZ i ab k (by omega)).mul (an _ JL)) (by omega))) ?_))
      simp only;rw[fl (by omega),GF]
     ·have cC:t.T i k*w=0:=oU.1 (by simpa using cm);simp only;rw[fl (by omega),GF,cC,show S i-0*(o (t.B i):Rat)=S i by grind]
    ·have cC:o (t.B i)=0:=(by simpa using c);simp only;rw[fl (by omega),GF,cC,show S i-t.T i k*w*((0:Int):Rat)=S i by rw[show ((0:Int):Rat)=0 from rfl];grind])
  (fun _ _=>by unfold z7;exact eg (by simp) rfl) () trivial
 have e0:S 0=w*(o k:Rat):=by simp only[S,cr];grind
 rw[e0] at e;refine aI (x:=((b5 (S m)).cF,(b5 (S m)).cc)) (by unfold P9;rw[gu,show (cS m t).length=m from cb ..];exact e) (aI (x:=ju (S m)) (wu (xf m (dD _))) ?_);congr 1;have e2:S m=w*t.cn m (fun j=>(o j:Rat)) k:=by simp only[S];unfold bV.cn;rw[gd (f:=fun i=>t.T i k*w*(o (t.B i):Rat)) (g:=fun i=>w*((o (t.B i):Rat)*t.T i k)) (fun i _=>by grind),jF];grind
 rw[e2];have ah:=h.pos;unfold ju;by_cases c:t.cn m (fun j=>(o j:Rat)) k=0
 ·rw[dw c,dw (by rw[c];grind)]
 ·rw[dA c,dA (by grind)]
  by_cases cm:t.cn m (fun j=>(o j:Rat)) k<0
  ·rw[dw cm,dw];have:=Rat.mul_pos ah (show 0 < -(t.cn m (fun j=>(o j:Rat)) k) by grind);grind
  ·rw[dA cm,dA];have:=Rat.mul_pos ah (show 0<t.cn m (fun j=>(o j:Rat)) k by grind);grind
theorem Ut {x y z v w:Rat}(hw:0<w)(aU:0<y)(bh:0<v):(x*w)*(v*w)<(z*w)*(y*w)↔x / y<z / v:=by
 have e1:(x*w)*(v*w)=(x / y)*((y*v)*(w*w)):=by grind
 have e2:(z*w)*(y*w)=(z / v)*((y*v)*(w*w)):=by grind
 have ah:0<(y*v)*(w*w):=Rat.mul_pos (Rat.mul_pos aU bh) (Rat.mul_pos hw hw);rw[e1,e2];constructor
 ·intro h;apply Classical.byContradiction;intro c;have:z / v<=x / y:=(by grind);have:=Rat.mul_le_mul_of_nonneg_right this (Rat.le_of_lt ah);grind
 ·intro h;exact Rat.mul_lt_mul_of_pos_right h ah
theorem B7 {x w:Rat}(hw:0<w):ju (x*w)=ju x:=by
 unfold ju;by_cases c:x=0
 ·rw[dw c,dw (by rw[c];grind)]
 ·rw[dA c,dA (by grind)]
  by_cases cm:x<0
  ·rw[dw cm,dw];have:=Rat.mul_pos (show 0 < -x by grind) hw;grind
  ·rw[dA cm,dA];have:=Rat.mul_pos (show 0<x by grind) hw;grind
theorem adM {m N:Nat}(hm:m<=20)(gE:N<1000){w:Rat}{t:bV}(h:pI m N w t)(j1:bz)(free:List Bool){k:Nat}(aX:k<=N):
 ∃r,Dm ⟨aQ m (ij N w t),j1,cS m t,(N:Int),free⟩ (k:Int)=some r/\It m N t k r:=by
 have hw:=h.pos;have pq : ∀i,i<m-> ∀j,j<=N->dm lA (t.T i j*w):=fun i ab j aq=>(h.hZ i ab j aq).mono (vA (by have:=sB;generalize ez=q at *;omega));have GU : ∀i,i<m-> ∀j,j<=N-> ∀ff,ff<m-> ∀ja,ja<=N->dm lA (t.T i j*w*(t.T ff ja*w)):=fun i ab j aq ff lK ja uA=>((h.hZ i ab j aq).mul (h.hZ ff lK ja uA)).mono (by refine Nat.le_trans ?_ (Nat.le_trans (Nat.le_add_right _ _) Ft);exact Nat.mul_le_mul (by generalize ez=q;omega) (by generalize ez=q;omega));unfold Dm
 obtain⟨r,e,ai⟩:=sq (f:=fun q:Int×Int=>zW (aQ m (ij N w t)) j1.cF j1.cc (cS m t) (N:Int) free (k:Int) ((m:Nat):Int) q.1 q.2)
  (fun (i:Nat) (s:Int)=>(s,(i:Int))) m
  (fun n s=>(s = -1/\ ∀i,i<n-> ¬0<t.T i k)\/ ∃b:Nat,s=b/\b<n/\0<t.T b k/\ ∀i,i<n->0<t.T i k->t.T b N / t.T b k<t.T i N / t.T i k\/(t.T b N / t.T b k=t.T i N / t.T i k/\t.B b<=t.B i))
  (fun r=>It m N t k r)
  (fun n aT s cZ=>by
    left;unfold zW;have g1:0<=((n:Nat):Int)/\((n:Nat):Int)<((aQ m (ij N w t)).length:Nat):=(by rw[cb];omega);have g2:(aQ m (ij N w t))[((n:Nat):Int).toNat]? = some (ij N w t n):=(by rw[dy];exact fN aT);have g3 : ∀b,0<=((k:Nat):Int)/\((k:Nat):Int)<((ij N w t b).length:Nat):=fun b=>(by unfold ij;rw[cb];omega);have g4 : ∀b,(ij N w t b)[((k:Nat):Int).toNat]? = some (b5 (t.T b k*w)):=fun b=>(by rw[dy];exact fN (by omega));have g5 : ∀b,0<=((N:Nat):Int)/\((N:Nat):Int)<((ij N w t b).length:Nat):=fun b=>(by unfold ij;rw[cb];omega);have g6 : ∀b,(ij N w t b)[((N:Nat):Int).toNat]? = some (b5 (t.T b N*w)):=fun b=>(by rw[dy];exact fN (by omega));have iW:U ((n:Int)+1)=((n+1:Nat):Int):=fl (by omega);have rP:qE (b5 (t.T n k*w))=some (ju (t.T n k)):=(by rw[wu (pq n aT k aX),B7 hw]);by_cases ah:0<t.T n k
    ·have bJ : ¬ju (t.T n k)<=0:=by have:=su.2 ah;omega
     rcases cZ with ⟨h1,h2⟩|⟨b,h1,aW,kB,J⟩
     ·refine⟨(n:Int),dW (by simp only;omega) (bq g1 (aI g2 (bq (g3 n) (aI (g4 n) (aI rP (eg bJ (dW (by simp only;omega) ?_))))))),.inr ⟨n,rfl,by omega,ah,fun i ab jk=> ?_⟩⟩
      ·simp only;rw[iW]
      ·by_cases c:i=n
       ·subst c;exact .inr ⟨rfl,dD _⟩
       ·exact(h2 i (by omega) jk).elim
     ·subst h1
      have JI:0<=((b:Nat):Int)/\((b:Nat):Int)<((aQ m (ij N w t)).length:Nat):=(by rw[cb];omega);have JJ:(aQ m (ij N w t))[((b:Nat):Int).toNat]? = some (ij N w t b):=by rw[dy];exact fN (by omega)
      have gc:tW (b5 (t.T n N*w*(t.T b k*w))) (b5 (t.T b N*w*(t.T n k*w)))=some (if t.T n N / t.T n k<t.T b N / t.T b k then -1 else if t.T b N / t.T b k<t.T n N / t.T n k then 1 else 0):=by
       rw[adK (GU n aT N (by omega) b (by omega) k aX) (GU b (by omega) N (by omega) n aT k aX)];have r1:=Ut (x:=t.T n N) (y:=t.T n k) (z:=t.T b N) (v:=t.T b k) hw ah kB;have r2:=Ut (x:=t.T b N) (y:=t.T b k) (z:=t.T n N) (v:=t.T n k) hw kB ah;by_cases bl:t.T n N / t.T n k<t.T b N / t.T b k
       ·rw[dw bl,dw (r1.2 bl)]
       ·rw[dA bl,dA (fun c=>bl (r1.1 c))]
        by_cases cm:t.T b N / t.T b k<t.T n N / t.T n k
        ·rw[dw cm,dw (r2.2 cm)]
        ·rw[dA cm,dA (fun c=>cm (r2.1 c))]
      have lead : ∀ {x r:Option ((Int×Int)⊕Int)} {f:Int->Option ((Int×Int)⊕Int)} {q:Int},tW (b5 (t.T n N*w*(t.T b k*w))) (b5 (t.T b N*w*(t.T n k*w)))=some q->f q=r ->
       (if 0<=((N:Nat):Int)/\((N:Nat):Int)<((ij N w t n).length:Nat) then
         (ij N w t n)[((N:Nat):Int).toNat]? >>= fun lO =>
         if 0<=((b:Nat):Int)/\((b:Nat):Int)<((aQ m (ij N w t)).length:Nat) then
         (aQ m (ij N w t))[((b:Nat):Int).toNat]? >>= fun nK =>
         if 0<=((k:Nat):Int)/\((k:Nat):Int)<(nK.length:Nat) then
         nK[((k:Nat):Int).toNat]? >>= fun tM =>
         p5 lO tM >>= fun mC =>
         if 0<=((N:Nat):Int)/\((N:Nat):Int)<(nK.length:Nat) then
         nK[((N:Nat):Int).toNat]? >>= fun vL =>
         p5 vL (b5 (t.T n k*w)) >>= fun pj =>
         tW mC pj >>= f
         else none else none else none else none)=r:=fun aZ cl =>
       bq (g5 n) (aI (g6 n) (bq JI (aI JJ (bq (g3 b) (aI (g4 b) (aI (BW (pq n aT N (by omega)) (pq b (by omega) k aX)) (bq (g5 b) (aI (g6 b) (aI (BW (pq b (by omega) N (by omega)) (pq n aT k aX)) (aI aZ cl))))))))))
      by_cases bl:t.T n N / t.T n k<t.T b N / t.T b k
      ·rw[dw bl] at gc
       refine⟨(n:Int),dW (by simp only;omega) (bq g1 (aI g2 (bq (g3 n) (aI (g4 n) (aI rP (eg bJ (eg (by simp only;omega) (lead (x:=none) gc (dW (by omega) ?_))))))))),.inr ⟨n,rfl,by omega,ah,fun i ab jk=> ?_⟩⟩
       ·simp only;rw[iW]
       ·by_cases c:i=n
        ·subst c;exact .inr ⟨rfl,dD _⟩
        ·rcases J i (by omega) jk with h|⟨h,-⟩
         ·left;grind
         ·left;rw[<- h];exact bl
      ·rw[dA bl] at gc
       by_cases cm:t.T b N / t.T b k<t.T n N / t.T n k
       ·rw[dw cm] at gc
        refine⟨(b:Int),dW (by simp only;omega) (bq g1 (aI g2 (bq (g3 n) (aI (g4 n) (aI rP (eg bJ (eg (by simp only;omega) (lead (x:=none) gc (eg (by omega) (jc (by decide) ?_)))))))))),.inr ⟨b,rfl,by omega,kB,fun i ab jk=> ?_⟩⟩
        ·simp only;rw[iW]
        ·by_cases c:i=n
         ·subst c;exact .inl cm
         ·exact J i (by omega) jk
       ·rw[dA cm] at gc
        have Oc:t.T b N / t.T b k=t.T n N / t.T n k:=(by grind);have Xw:0<=((n:Nat):Int)/\((n:Nat):Int)<((cS m t).length:Nat):=(by unfold cS;rw[cb];omega);have Xx:(cS m t)[((n:Nat):Int).toNat]? = some ((t.B n:Nat):Int):=(by rw[dy];exact fN aT);have Xy:0<=((b:Nat):Int)/\((b:Nat):Int)<((cS m t).length:Nat):=(by unfold cS;rw[cb];omega);have Xz:(cS m t)[((b:Nat):Int).toNat]? = some ((t.B b:Nat):Int):=(by rw[dy];exact fN (by omega));by_cases j5:t.B n<t.B b
        ·refine⟨(n:Int),dW (by simp only;omega) (bq g1 (aI g2 (bq (g3 n) (aI (g4 n) (aI rP (eg bJ (eg (by simp only;omega) (lead (x:=none) gc (eg (by omega) (gy rfl (bq Xw (aI Xx (bq Xy (aI Xz (dW (by omega) ?_))))))))))))))),.inr ⟨n,rfl,by omega,ah,fun i ab jk=> ?_⟩⟩
         ·simp only;rw[iW]
         ·by_cases c:i=n
          ·subst c;exact .inr ⟨rfl,dD _⟩
          ·rcases J i (by omega) jk with h|⟨h,c1⟩
           ·left;grind
           ·right;exact⟨by grind,by omega⟩
        ·refine⟨(b:Int),dW (by simp only;omega) (bq g1 (aI g2 (bq (g3 n) (aI (g4 n) (aI rP (eg bJ (eg (by simp only;omega) (lead (x:=none) gc (eg (by omega) (gy rfl (bq Xw (aI Xx (bq Xy (aI Xz (eg (by omega) ?_))))))))))))))),.inr ⟨b,rfl,by omega,kB,fun i ab jk=> ?_⟩⟩
         ·simp only;rw[iW]
         ·by_cases c:i=n
          ·subst c;exact .inr ⟨Oc,by omega⟩
          ·exact J i (by omega) jk
    ·have bJ:ju (t.T n k)<=0:=by
      have : ¬0<ju (t.T n k):=fun c=>ah (su.1 c);omega
     refine⟨s,dW (by simp only;omega) (bq g1 (aI g2 (bq (g3 n) (aI (g4 n) (aI rP (dW bJ ?_)))))),?_⟩
     ·simp only;rw[iW]
     ·rcases cZ with ⟨h1,h2⟩|⟨b,h1,aW,kB,J⟩
      ·exact .inl ⟨h1,fun i ab=>if c:i=n then c▸ah else h2 i (by omega)⟩
      ·exact .inr ⟨b,h1,by omega,kB,fun i ab jk=>if c:i=n then (ah (c▸jk)).elim else J i (by omega) jk⟩)
  (fun s cZ=>by
    refine⟨s,by unfold zW;exact eg (by simp only;omega) rfl,?_⟩;rcases cZ with ⟨h1,h2⟩|⟨b,h1,aW,kB,J⟩
    ·exact .inl ⟨h1,h2⟩
    ·refine .inr ⟨b,h1,aW,kB,fun i ab jk=> ?_,fun i ab jk he=> ?_⟩
     ·rw[<- (H6 kB jk).1]
      rcases J i ab jk with h|⟨h,-⟩
      ·exact Rat.le_of_lt h
      ·rw[h];exact Rat.le_refl
     ·rw[<- (H6 kB jk).2] at he
      rcases J i ab jk with h|⟨-,h⟩
      ·rw[he] at h;grind
      ·exact h) (-1:Int) (.inl ⟨rfl,fun i ab=>by omega⟩)
 refine⟨r,aI ?_ rfl,ai⟩;unfold Pv;rw[fs,cb];exact e
def hO (m N:Nat)(h:Nat->Nat):List bR:=aQ m fun i=>some (h i,N+1)
structure lY (m N M:Nat) (h:Nat->Nat) (w:Rat) (t:bV) (eT:List (List bz)):Prop where
 len:eT.length=M
 row : ∀i,i<m->eT[h i]? = some (ij N w t i)
theorem Hx {α:Type}{l:List α}{i:Nat}{x y:α}(h:l[i]? = some x):(l.set i y)[i]? = some y:=by rw[List.getElem?_set,dw rfl,dw (List.getElem?_eq_some_iff.1 h).1]
theorem Ly {α:Type}{l:List α}{i k:Nat}{y:α}(h:i≠k):(l.set i y)[k]? = l[k]? := by rw[List.getElem?_set,dA h]
theorem set_set {α:Type}(l:List α)(i:Nat)(x y:α):(l.set i x).set i y=l.set i y:=by rw[List.set_set]
structure vB (m N:Nat) (w:Rat) (t:bV) (r k:Nat):Prop where
 ai:r<m
 aX:k<N
 ah:t.T r k≠0
 C2 : ∀i,i<m-> ∀j,j<=N->dm ez ((t.ck r k).T i j*(t.T r k*w))
theorem afy {m N:Nat}(gE:N<1000){h:Nat->Nat}{w:Rat}{t:bV}{r k:Nat}(f:pI m N w t)(g:vB m N w t r k){i:Nat}(ab:i<m)(C1:i≠r)(c8:h i≠h r){eT:List (List bz)}(h1:eT[h i]? = some (ij N w t i))(h2:eT[h r]? = some (ij N w t r))
 (x1 x2:Int) (aw:Int) (q1:List bR) (q2:ar) (bP:List Bool) (v1 v2:Int) :
 J7 v1 v2 (some (h r,N+1)) (some (h i,N+1)) x1 x2 (((N+1:Nat):Nat):Int) (b5 w).cF (b5 w).cc aw q1 q2 bP (b5 (t.T r k*w)).cF (b5 (t.T r k*w)).cc (b5 (t.T i k*w)).cF (b5 (t.T i k*w)).cc 0 eT=some (eT.set (h i) (ij N (t.T r k*w) (t.ck r k) i)):=by
 have hw:=f.pos;have pq : ∀i,i<m-> ∀j,j<=N->dm lA (t.T i j*w):=fun i ab j aq=>(f.hZ i ab j aq).mono (vA (by have:=sB;generalize ez=q at *;omega));have aj5:dm lA w:=f.hw.mono (vA (dD _));have aj6 : ∀i,i<m-> ∀j,j<=N->dm lA ((t.ck r k).T i j*(t.T r k*w)):=fun i ab j aq=>(g.C2 i ab j aq).mono (vA (by have:=sB;generalize ez=q at *;omega));have GU : ∀i,i<m-> ∀j,j<=N-> ∀ff,ff<m-> ∀ja,ja<=N->dm lA (t.T i j*w*(t.T ff ja*w)):=fun i ab j aq ff lK ja uA=>((f.hZ i ab j aq).mul (f.hZ ff lK ja uA)).mono (by refine Nat.le_trans ?_ (Nat.le_trans (Nat.le_add_right _ _) Ft);exact Nat.mul_le_mul (by generalize ez=q;omega) (by generalize ez=q;omega));have ajt : ∀j,j<=N->dm lA ((t.ck r k).T i j*(t.T r k*w)*w):=fun j aq=>((g.C2 i ab j aq).mul f.hw).mono (by refine Nat.le_trans ?_ (Nat.le_trans (Nat.le_add_right _ _) Ft);exact Nat.mul_le_mul (by generalize ez=q;omega) (dD _));have ai:=g.ai;have aX:=g.aX;have ah:=g.ah;have r6 : ∀j,(t.ck r k).T i j=t.T i j-t.T i k*(t.T r j / t.T r k):=fun j=>by simp[bV.ck,C1]
 have Nq:w≠0:=by grind
 unfold J7
 obtain⟨s,e,-⟩:=h4 (f:=fun q:Int×List (List bz)=>zX v1 v2 (some (h r,N+1)) (some (h i,N+1)) x1 x2 (((N+1:Nat):Nat):Int) (b5 w).cF (b5 w).cc aw q1 q2 bP (b5 (t.T r k*w)).cF (b5 (t.T r k*w)).cc (b5 (t.T i k*w)).cF (b5 (t.T i k*w)).cc q.1 q.2)
  (fun (c:Nat) (_:Unit)=>((c:Int),eT.set (h i) (aQ (N+1) fun j=>if j<c then b5 ((t.ck r k).T i j*(t.T r k*w)) else b5 (t.T i j*w)))) (N+1) (fun _ _=>True)
  (fun _=>eT.set (h i) (ij N (t.T r k*w) (t.ck r k) i))
  (fun c aY _ _=>by
    refine⟨(),?_,trivial⟩
    have fin:(some (Sum.inl (U ((c:Int)+1),(eT.set (h i) (aQ (N+1) fun j=>if j<c then b5 ((t.ck r k).T i j*(t.T r k*w)) else b5 (t.T i j*w))).set (h i) ((aQ (N+1) fun j=>if j<c then b5 ((t.ck r k).T i j*(t.T r k*w)) else b5 (t.T i j*w)).set (0+((c:Int)).toNat) (b5 ((t.ck r k).T i c*(t.T r k*w)))))):Option ((Int×List (List bz))⊕List (List bz))) =
     some (Sum.inl (((c+1:Nat):Int),eT.set (h i) (aQ (N+1) fun j=>if j<c+1 then b5 ((t.ck r k).T i j*(t.T r k*w)) else b5 (t.T i j*w)))):=by
     rw[fl (by omega),dy,dG,set_set,kG];congr 4;refine eA fun j _=> ?_;by_cases bl:j=c
     ·subst bl;rw[dw rfl,dw (by omega)]
     ·rw[dA bl]
      by_cases cm:j<c
      ·rw[dw cm,dw (by omega)]
      ·rw[dA cm,dA (by omega)]
    have jb:v7 (b5 ((t.ck r k).T i c*(t.T r k*w)*w)) (b5 w)=some (b5 ((t.ck r k).T i c*(t.T r k*w))):=adL (aj6 i ab c (by omega)) aj5 (ajt c (by omega)) Nq;unfold zX;refine dW (by simp only;omega) (aI (x:=(h i,N+1)) rfl (aI (x:=aQ (N+1) fun j=>if j<c then b5 ((t.ck r k).T i j*(t.T r k*w)) else b5 (t.T i j*w)) (by simp only;exact Hx h1) (bq (by simp only;omega) (aI (x:=b5 (t.T i c*w)) (by simp only;rw[dy,g9 aY,dA (by omega)]) ?_))));refine aI (BW (pq i ab c (by omega)) (pq r ai k (by omega))) (aI (wu (pq i ab k (by omega))) (pZ (fun d=> ?_) (fun d=> ?_)))
    ·refine aI (x:=(h r,N+1)) rfl (aI (x:=ij N w t r) (by simp only;rw[Ly c8];exact h2) (bq (by simp only;omega) (aI (x:=b5 (t.T r c*w)) (by simp only;rw[dy];exact g9 aY) (aI (wu (pq r ai c (by omega))) (pZ (fun d2=> ?_) (fun d2=> ?_))))))
     ·refine aI (BW (pq i ab k (by omega)) (pq r ai c (by omega))) (aI (Us (GU i ab c (by omega) r ai k (by omega)) (GU i ab k (by omega) r ai c (by omega))) (aI ?_ fin));rw[show t.T i c*w*(t.T r k*w)-t.T i k*w*(t.T r c*w)=(t.ck r k).T i c*(t.T r k*w)*w by rw[r6];grind];exact jb
     ·have cC:t.T r c=0:=(by have:=oU.1 (by simpa using d2);grind);refine aI ?_ fin;rw[show t.T i c*w*(t.T r k*w)=(t.ck r k).T i c*(t.T r k*w)*w by rw[r6,cC];grind];exact jb
    ·have cC:t.T i k=0:=(by have:=oU.1 (by simpa using d);grind);refine aI ?_ fin;rw[show t.T i c*w*(t.T r k*w)=(t.ck r k).T i c*(t.T r k*w)*w by rw[r6,cC];grind];exact jb)
  (fun _ _=>by unfold zX;refine eg (by simp) ?_;simp only;congr 3;exact eA fun j aq=>by rw[dw aq]) () trivial
 have e0:eT.set (h i) (aQ (N+1) fun j=>if j<0 then b5 ((t.ck r k).T i j*(t.T r k*w)) else b5 (t.T i j*w))=eT:=by
  have:(aQ (N+1) fun j=>if j<0 then b5 ((t.ck r k).T i j*(t.T r k*w)) else b5 (t.T i j*w))=ij N w t i:=eA fun j _=>(by rw[dA (by omega)]);rw[this];apply List.ext_getElem?;intro c;rw[List.getElem?_set];split
  ·rename_i e;subst e;rw[dw (List.getElem?_eq_some_iff.1 h1).1,h1]
  ·rfl
 rw[e0] at e;exact e
theorem afz {m N:Nat}(gE:N<1000){h:Nat->Nat}{w:Rat}{t:bV}(hZ:∀i,i<m-> ∀j,j<=N->dm ez (t.T i j*w)){i:Nat}(ab:i<m){eT:List (List bz)}(h1:eT[h i]? = some (ij N w t i))
 (x1 x2:Int) (i3:Bool) (j4:ar) (aw:Int) (q1:List bR) (q2:ar) (bP:List Bool) :
 J9 (some (h i,N+1)) x1 x2 (((N+1:Nat):Nat):Int) i3 j4 aw q1 q2 bP 0 eT=some (eT.set (h i) (ij N (-w) t i)):=by
 have pq : ∀j,j<=N->dm lA (t.T i j*w):=fun j aq=>(hZ i ab j aq).mono (vA (by have:=sB;generalize ez=q at *;omega));unfold J9
 obtain⟨s,e,-⟩:=h4 (f:=fun q:Int×List (List bz)=>zZ (some (h i,N+1)) x1 x2 (((N+1:Nat):Nat):Int) i3 j4 aw q1 q2 bP q.1 q.2)
  (fun (c:Nat) (_:Unit)=>((c:Int),eT.set (h i) (aQ (N+1) fun j=>if j<c then b5 (t.T i j * -w) else b5 (t.T i j*w)))) (N+1) (fun _ _=>True)
  (fun _=>eT.set (h i) (ij N (-w) t i))
  (fun c aY _ _=>by
    refine⟨(),?_,trivial⟩;unfold zZ;refine dW (by simp only;omega) (aI (x:=(h i,N+1)) rfl (aI (x:=aQ (N+1) fun j=>if j<c then b5 (t.T i j * -w) else b5 (t.T i j*w)) (by simp only;exact Hx h1) (bq (by simp only;omega) (aI (x:=b5 (t.T i c*w)) (by simp only;rw[dy,g9 aY,dA (by omega)]) (aI (SQ (pq c (by omega))) ?_)))));simp only;rw[fl (by omega),dy,dG,set_set,kG];congr 4;refine eA fun j _=> ?_;by_cases bl:j=c
    ·subst bl;rw[dw rfl,dw (by omega)];congr 1;grind
    ·rw[dA bl]
     by_cases cm:j<c
     ·rw[dw cm,dw (by omega)]
     ·rw[dA cm,dA (by omega)])
  (fun _ _=>by unfold zZ;refine eg (by simp) ?_;simp only;congr 3;exact eA fun j aq=>by rw[dw aq]) () trivial
 have e0:eT.set (h i) (aQ (N+1) fun j=>if j<0 then b5 (t.T i j * -w) else b5 (t.T i j*w))=eT:=by
  have:(aQ (N+1) fun j=>if j<0 then b5 (t.T i j * -w) else b5 (t.T i j*w))=ij N w t i:=eA fun j _=>(by rw[dA (by omega)]);rw[this];apply List.ext_getElem?;intro c;rw[List.getElem?_set];split
  ·rename_i e;subst e;rw[dw (List.getElem?_eq_some_iff.1 h1).1,h1]
  ·rfl
 rw[e0] at e;exact e
def qn (w:Rat)(t:bV)(r k:Nat):Rat:=if 0<t.T r k then t.T r k*w else -(t.T r k*w)
theorem U1 {m N M:Nat}(hm:m<=20)(gE:N<1000){h:Nat->Nat}(inj:∀i,i<m-> ∀k,k<m->h i=h k->i=k){w:Rat}{t:bV}{r k:Nat}(f:pI m N w t)(g:vB m N w t r k){eT:List (List bz)}(gb:lY m N M h w t eT)(gL:Int)(free:List Bool):
 ∃kx,AH r k (b5 w).cF (b5 w).cc gL (hO m N h) eT (cS m t) free=some ((b5 (qn w t r k)).cF,(b5 (qn w t r k)).cc,kx,cS m (t.ck r k))/\lY m N M h (qn w t r k) (t.ck r k) kx:=by
 have ai:=g.ai;have aX:=g.aX;have ah:=g.ah;have hw:=f.pos;have pq : ∀i,i<m-> ∀j,j<=N->dm lA (t.T i j*w):=fun i ab j aq=>(f.hZ i ab j aq).mono (vA (by have:=sB;generalize ez=q at *;omega));have tT:ij N (t.T r k*w) (t.ck r k) r=ij N w t r:=eA fun j _=>by simp only[bV.ck,if_true];congr 1;grind
 have C8:(hO m N h).length=m:=cb ..;unfold AH
 obtain⟨p1,e1,kN,r1⟩:=h4 (f:=fun q:Int×List (List bz)=>zY (r:Int) (k:Int) (some (h r,N+1)) ((m:Nat):Int) (b5 w).cF (b5 w).cc gL (hO m N h) (cS m t) free (b5 (t.T r k*w)).cF (b5 (t.T r k*w)).cc q.1 q.2)
  (fun (i:Nat) (p:List (List bz))=>((i:Int),p)) m (fun n p=>p.length=M/\ ∀i,i<m->p[h i]? = some (if i=r\/i<n then ij N (t.T r k*w) (t.ck r k) i else ij N w t i)) (fun p=>p)
  (fun n aT p cZ=>by
    obtain⟨aV,cZ⟩:=cZ;unfold zY;by_cases c:n=r
    ·subst c
     refine⟨p,dW (by simp only;omega) (bq (by rw[C8];simp only;omega) (aI (x:=some (h n,N+1)) (by simp only;rw[dy];exact g9 aT) (gy (by simp) ?_))),aV,fun i ab=> ?_⟩
     ·simp only;rw[fl (by omega)]
     ·rw[cZ i ab]
      by_cases bl:i=n\/i<n
      ·rw[dw bl,dw (by omega)]
      ·rw[dA bl,dA (by omega)]
    ·have c8:h n≠h r:=fun e=>c (inj n aT r ai e)
     have h1:p[h n]? = some (ij N w t n):=(by rw[cZ n aT,dA (by omega)]);have h2:p[h r]? = some (ij N w t r):=(by rw[cZ r ai,dw (.inl rfl),tT]);refine⟨p.set (h n) (ij N (t.T r k*w) (t.ck r k) n),dW (by simp only;omega) (bq (by rw[C8];simp only;omega) (aI (x:=some (h n,N+1)) (by simp only;rw[dy];exact g9 aT) (jc (by simp;omega) (aI (x:=(h n,N+1)) rfl (aI h1 (bq (by simp only;omega) (aI (x:=b5 (t.T n k*w)) (by rw[dy];exact g9 (by omega)) (aI (afy gE f g aT c c8 h1 h2 _ _ _ _ _ _ _ _) ?_)))))))),by rw[List.length_set];exact aV,fun i ab=> ?_⟩
     ·simp only;rw[fl (by omega)]
     ·by_cases bl:i=n
      ·subst bl;rw[Hx h1,dw (.inr (by omega))]
      ·rw[Ly (fun e=>bl (inj i ab n aT e.symm)),cZ i ab]
       by_cases cm:i=r\/i<n
       ·rw[dw cm,dw (by omega)]
       ·rw[dA cm,dA (by omega)])
  (fun p _=>by unfold zY;exact eg (by simp) rfl) eT ⟨gb.len,fun i ab=>by
    rw[gb.row i ab];by_cases c:i=r
    ·rw[dw (.inl c),c,tT]
    ·rw[dA (by omega)]⟩
 have zr : ∀i,i<m->p1[h i]? = some (ij N (t.T r k*w) (t.ck r k) i):=fun i ab=>by rw[r1 i ab,dw (.inr ab)]
 have aih:(cS m t).set (0+((r:Int)).toNat) (k:Int)=cS m (t.ck r k):=by rw[dy,dG];unfold cS;rw[kG];exact eA fun i _=>by simp only[bV.ck];split<;>rfl
 have lead :
  (if 0<=(r:Int)/\(r:Int)<((hO m N h).length:Nat) then
    (hO m N h)[(0+((r:Int)).toNat)]? >>= fun x2 =>
    x2 >>= fun jn =>
    eT[jn.1]? >>= fun ol =>
    if 0<=(k:Int)/\(k:Int)<(jn.2:Nat) then
    ol[(0+((k:Int)).toNat)]? >>= fun eX =>
    J8 (r:Int) (k:Int) x2 (((hO m N h).length:Nat):Int) (b5 w).cF (b5 w).cc gL (hO m N h) (cS m t) free eX.cF eX.cc 0 eT >>= fun bZ =>
    if 0<=(r:Int)/\(r:Int)<((cS m t).length:Nat) then
    if (0+((r:Int)).toNat)<(cS m t).length then
    qE eX >>= fun ed =>
    if (decide ((0:Int)<ed))=true then
     some (eX.cF,eX.cc,bZ,(cS m t).set (0+((r:Int)).toNat) (k:Int))
    else
     ri eX >>= fun fh =>
     G7 (((hO m N h).length:Nat):Int) fh.cF fh.cc gL (hO m N h) ((cS m t).set (0+((r:Int)).toNat) (k:Int)) free 0 bZ >>= fun kp =>
     some (fh.cF,fh.cc,kp,(cS m t).set (0+((r:Int)).toNat) (k:Int))
    else none else none else none else none)=(if (decide ((0:Int)<ju (t.T r k)))=true then
     some ((b5 (t.T r k*w)).cF,(b5 (t.T r k*w)).cc,p1,cS m (t.ck r k))
    else
     ri (b5 (t.T r k*w)) >>= fun fh =>
     G7 ((m:Nat):Int) fh.cF fh.cc gL (hO m N h) (cS m (t.ck r k)) free 0 p1 >>= fun kp =>
     some (fh.cF,fh.cc,kp,cS m (t.ck r k))):=by
  refine bq (by rw[C8];omega) (aI (x:=some (h r,N+1)) (by rw[dy];exact g9 ai) (aI (x:=(h r,N+1)) rfl (aI (gb.row r ai) (bq (by simp only;omega) (aI (x:=b5 (t.T r k*w)) (by rw[dy];exact g9 (by omega)) (aI (x:=p1) (by unfold J8;rw[C8];exact e1) (bq (by unfold cS;rw[cb];omega) (bq (by unfold cS;rw[cb,dy];omega) (aI (wu (pq r ai k (by omega))) ?_)))))))));rw[B7 hw,aih,C8]
 by_cases kI:0<t.T r k
 ·have xg:qn w t r k=t.T r k*w:=dw kI;refine⟨p1,lead.trans ?_,kN,fun i ab=>by rw[xg];exact zr i ab⟩;rw[xg];exact dW (su.2 kI) rfl
 ·have xg:qn w t r k = -(t.T r k*w):=dA kI
  obtain⟨p2,e2,k3,r2⟩:=h4 (f:=fun q:Int×List (List bz)=>z0 ((m:Nat):Int) (b5 (-(t.T r k*w))).cF (b5 (-(t.T r k*w))).cc gL (hO m N h) (cS m (t.ck r k)) free q.1 q.2)
   (fun (i:Nat) (p:List (List bz))=>((i:Int),p)) m (fun n p=>p.length=M/\ ∀i,i<m->p[h i]? = some (if i<n then ij N (-(t.T r k*w)) (t.ck r k) i else ij N (t.T r k*w) (t.ck r k) i)) (fun p=>p)
   (fun n aT p cZ=>by
     obtain⟨aV,cZ⟩:=cZ;have h1:p[h n]? = some (ij N (t.T r k*w) (t.ck r k) n):=(by rw[cZ n aT,dA (by omega)]);unfold z0;refine⟨p.set (h n) (ij N (-(t.T r k*w)) (t.ck r k) n),dW (by simp only;omega) (bq (by rw[C8];simp only;omega) (aI (x:=some (h n,N+1)) (by simp only;rw[dy];exact g9 aT) (aI (x:=(h n,N+1)) rfl (aI h1 (aI (afz gE g.C2 aT h1 _ _ _ _ _ _ _ _) ?_))))),by rw[List.length_set];exact aV,fun i ab=> ?_⟩
     ·simp only;rw[fl (by omega)]
     ·by_cases bl:i=n
      ·subst bl;rw[Hx h1,dw (by omega)]
      ·rw[Ly (fun e=>bl (inj i ab n aT e.symm)),cZ i ab]
       by_cases cm:i<n
       ·rw[dw cm,dw (by omega)]
       ·rw[dA cm,dA (by omega)])
   (fun p _=>by unfold z0;exact eg (by simp) rfl) p1 ⟨kN,fun i ab=>by rw[zr i ab,dA (by omega)]⟩
  refine⟨p2,lead.trans ?_,k3,fun i ab=>by rw[xg,r2 i ab,dw ab]⟩;rw[xg];exact eg (fun c=>kI (su.1 c)) (aI (SQ (pq r ai k (by omega))) (aI (x:=p2) (by unfold G7;exact e2) rfl))
theorem St {m:Nat}(hm:m<=1000)(t:bV)(j:Nat): ∃b,BJ (cS m t) (j:Int)=some b/\(b=true↔ ∃i,i<m/\t.B i=j):=by
 unfold BJ Il Te
 obtain⟨r,e,h⟩:=sq (f:=fun w:Int=>Bi (cS m t) (j:Int) ((m:Nat):Int) w) (fun (i:Nat) (_:Unit)=>(i:Int)) m (fun i _=> ∀k,k<i->t.B k≠j)
  (fun r=>(∃i:Nat,r = .inr (i:Int)/\i<m/\t.B i=j)\/(r = .inl ()/\ ¬∃i,i<m/\t.B i=j))
  (fun i ab _ cZ=>by
    unfold Bi;by_cases c:t.B i=j
    ·right;exact⟨_,dW (by omega) (bq (by unfold cS;rw[cb];omega) (aI (x:=((t.B i:Nat):Int)) (by rw[dy];exact fN ab) (gy (by simp[c]) rfl))),.inl ⟨i,rfl,ab,c⟩⟩
    ·left
     refine⟨(),dW (by omega) (bq (by unfold cS;rw[cb];omega) (aI (x:=((t.B i:Nat):Int)) (by rw[dy];exact fN ab) (jc (by simp;omega) (by rw[fl (by omega)])))),fun k aX=> ?_⟩;by_cases e:k=i
     ·rw[e];exact c
     ·exact cZ k (by omega))
  (fun _ cZ=>⟨_,by unfold Bi;exact eg (by omega) rfl,.inr ⟨rfl,fun ⟨i,ab,e⟩=>cZ i ab e⟩⟩) () (fun k aX=>by omega)
 rw[gu,show (cS m t).length=m from cb ..];rcases h with ⟨i,rfl,h1,h2⟩|⟨rfl,h⟩
 ·exact⟨true,aI (x:=(i:Int)) (aI e rfl) (by simp),by simp only[true_iff];exact⟨i,h1,h2⟩⟩
 ·exact⟨false,aI (x:=(-1:Int)) (aI e rfl) rfl,by simp[h]⟩
theorem EU {m N M:Nat}{h:Nat->Nat}{w:Rat}{t:bV}{eT:List (List bz)}(gb:lY m N M h w t eT):(hO m N h).all (tH eT)=true:=by
 rw[List.all_eq_true];intro x aa;obtain⟨i,ab,rfl⟩:=Mi.1 aa;simp only[tH];have h1:=gb.row i ab;have h2:eT.getD (h i) []=ij N w t i:=by rw[List.getD_eq_getElem?_getD,h1];rfl
 rw[h2,show (ij N w t i).length=N+1 from cb ..];simp[(List.getElem?_eq_some_iff.1 h1).1]
theorem yn {m N M:Nat}{h:Nat->Nat}{w:Rat}{t:bV}{eT:List (List bz)}(gb:lY m N M h w t eT):(hO m N h).map (jH eT)=aQ m (ij N w t):=by unfold hO;rw[UP];exact eA fun i ab=>by have h2:eT.getD (h i) []=ij N w t i:=(by rw[List.getD_eq_getElem?_getD,gb.row i ab];rfl);simp only[jH];rw[h2];exact List.take_of_length_le (Nat.le_of_eq (cb ..))
theorem XA {m:Nat}{o:Nat->Rat}{t:bV}{j:Nat}:t.qD m 1 (fun _=>o) j↔0<t.cn m o j:=Jb (g:=fun _=>t.cn m o j)
theorem adN {eU m N M:Nat}{A:Nat->Nat->Rat}(hm:m<=20)(gE:N<1000){h:Nat->Nat}(inj:∀i,i<m-> ∀k,k<m->h i=h k->i=k){w:Rat}{t:bV}(ok:gQ eU m N A t)(f:pI m N w t)(o:Nat->Int)(ak:∀j,j<N-> -100<=o j/\o j<=100)(dd:Nat->Bool)
 (aj7 : ∀r s,oB m N 1 (fun _ j=>(o j:Rat)) (fun j=>dd j=true) t r s->vB m N w t r s) {eT:List (List bz)} (gb:lY m N M h w t eT) :
 ∃x,De (N:Int) (b5 w).cF (b5 w).cc (hO m N h) eT (cS m t) (aQ N dd) (aQ N o) 0=some x /\
  ((x = .inl (false,(b5 w).cF,(b5 w).cc,eT,cS m t)/\ ∀j,j<N->dd j=true-> ¬0<t.cn m (fun j=>(o j:Rat)) j) \/
   (∃r s kx,x = .inl (true,(b5 (qn w t r s)).cF,(b5 (qn w t r s)).cc,kx,cS m (t.ck r s))/\oB m N 1 (fun _ j=>(o j:Rat)) (fun j=>dd j=true) t r s/\lY m N M h (qn w t r s) (t.ck r s) kx) \/
   (x = .inr ()/\ ∃s,s<N/\dd s=true/\0<t.cn m (fun j=>(o j:Rat)) s/\ ∀i,i<m-> ¬0<t.T i s)):=by
 unfold De
 refine sq (f:=fun q:Int=>zS (N:Int) (b5 w).cF (b5 w).cc (hO m N h) eT (cS m t) (aQ N dd) (aQ N o) q) (fun (i:Nat) (_:Unit)=>(i:Int)) N
  (fun n _=> ∀j,j<n->dd j=true-> ¬0<t.cn m (fun j=>(o j:Rat)) j) _ (fun n aT _ cZ=> ?_) (fun _ cZ=> ?_) () (fun j aq=>by omega)
 ·have next : ∀(hg:dd n=true-> ¬0<t.cn m (fun j=>(o j:Rat)) n),∀j,j<n+1->dd j=true-> ¬0<t.cn m (fun j=>(o j:Rat)) j:=fun hg j aq=>by
   by_cases c:j=n
   ·subst c;exact hg
   ·exact cZ j (by omega)
  have g1:0<=((n:Nat):Int)/\((n:Nat):Int)<((aQ N dd).length:Nat):=(by rw[cb];omega);have g2:(aQ N dd)[(0+((n:Nat):Int).toNat)]? = some (dd n):=(by rw[dy];exact g9 aT);have iW:U ((n:Int)+1)=((n+1:Nat):Int):=fl (by omega);unfold zS;by_cases r8:dd n=true
  ·obtain⟨b,i3,j4⟩:=St (m:=m) (by omega) t n
   cases b with
   | true =>
    obtain⟨i,ab,gl⟩:=j4.1 rfl;left;refine⟨(),dW (by omega) (bq g1 (aI g2 (gy r8 (aI i3 (gy rfl (by rw[iW])))))),next fun _=> ?_⟩
    rw[<- gl,ok.xZ _ ab];grind
   | false =>
    have di:=U0 hm gE f o ak ((⟨(b5 w).cF,(b5 w).cc⟩:bz)) rfl (N:Int) (aQ N dd) aT;by_cases uR:0<t.cn m (fun j=>(o j:Rat)) n
    ·obtain⟨q,q1,q2⟩:=adM hm gE f ((⟨(b5 w).cF,(b5 w).cc⟩:bz)) (aQ N dd) (k:=n) (by omega)
     have bJ : ¬ju (t.cn m (fun j=>(o j:Rat)) n)<=0:=(by have:=su.2 uR;omega);right;rcases q2 with ⟨rfl,h2⟩|⟨b,rfl,aW,kB,J,aj⟩
     ·exact⟨_,dW (by omega) (bq g1 (aI g2 (gy r8 (aI i3 (jc rfl (bq (EU gb) (aI (by rw[yn gb];exact di) (eg bJ (aI (by rw[yn gb];exact q1) (dW (by decide) rfl)))))))))),.inr (.inr ⟨rfl,n,aT,r8,uR,h2⟩)⟩
     ·have c2:oB m N 1 (fun _ j=>(o j:Rat)) (fun j=>dd j=true) t b n:=⟨aT,r8,XA.2 uR,fun j aq cl di=>cZ j aq cl (XA.1 di),aW,kB,J,aj⟩;obtain⟨kx,e1,e2⟩:=U1 hm gE inj f (aj7 b n c2) gb (N:Int) (aQ N dd);exact⟨_,dW (by omega) (bq g1 (aI g2 (gy r8 (aI i3 (jc rfl (bq (EU gb) (aI (by rw[yn gb];exact di) (eg bJ (aI (by rw[yn gb];exact q1) (eg (by omega) (aI e1 rfl))))))))))),.inr (.inl ⟨b,n,kx,rfl,c2,e2⟩)⟩
    ·left;have bJ:ju (t.cn m (fun j=>(o j:Rat)) n)<=0:=(by have : ¬0<ju (t.cn m (fun j=>(o j:Rat)) n):=fun c=>uR (su.1 c);omega);exact⟨(),dW (by omega) (bq g1 (aI g2 (gy r8 (aI i3 (jc rfl (bq (EU gb) (aI (by rw[yn gb];exact di) (dW bJ (by rw[iW]))))))))),next fun _=>uR⟩
  ·left;have JM:dd n=false:=(by simpa using r8);exact⟨(),dW (by omega) (bq g1 (aI g2 (jc JM (by rw[iW])))),next fun c=>(r8 c).elim⟩
 ·exact⟨_,by unfold zS;exact eg (by omega) rfl,.inl ⟨rfl,cZ⟩⟩
def wN (N:Int)(pK:List bR)(free:List Bool)(obj:ar)(s:Bool×ar×List (List bz)×ar):Option ((Bool×ar×List (List bz)×ar)⊕((Bool×ar×List (List bz)×ar)⊕(Bool×ar×List (List bz)×ar))) :=
 match De N s.1 s.2.1 pK s.2.2.1 s.2.2.2 free obj 0 with
 | none=>none
 | some (.inl (true,b0))=>some (.inl b0)
 | some (.inl (false,b0))=>some (.inr (.inl b0))
 | some (.inr ())=>some (.inr (.inr s))
theorem afA {N:Int}{pK:List bR}{free:List Bool}{obj:ar}: ∀s r,iter (wN N pK free obj) s=some r->J2 N pK free obj true s.1 s.2.1 s.2.2.1 s.2.2.2=some r:=by
 unfold J2;apply iter.partial_correctness (wN N pK free obj) (fun s r=>iter (fun w:Bool×Bool×ar×(List (List bz))×ar=>xj N pK free obj w.1 w.2.1 w.2.2.1 w.2.2.2.1 w.2.2.2.2) (true,s.1,s.2.1,s.2.2.1,s.2.2.2)=some r);intro it ih s r ai
 cases aa:De N s.1 s.2.1 pK s.2.2.1 s.2.2.2 free obj 0 with
 | none=>unfold wN at ai;rw[aa] at ai;simp at ai
 | some x =>
  have hm:xj N pK free obj true s.1 s.2.1 s.2.2.1 s.2.2.2=match x with
   | .inl fw=>(some (.inl (fw.1,fw.2.1,fw.2.2.1,fw.2.2.2.1,fw.2.2.2.2)))
   | .inr fw=>(some (.inr (.inr (s.1,s.2.1,s.2.2.1,s.2.2.2)))):=by
   unfold xj;refine gy rfl ?_
   cases x with
   | inl a=>exact aI aa rfl
   | inr a=>exact aI aa rfl
  unfold wN at ai;rw[aa] at ai;rw[iter];simp only;rw[hm]
  match x,ai with
  | .inl (true,b0),ai=>exact ih _ _ ai
  | .inl (false,b0),ai =>
   simp at ai;subst ai;show iter _ (false,b0.1,b0.2.1,b0.2.2.1,b0.2.2.2)=_;rw[iter];simp only;unfold xj;rfl
  | .inr (),ai =>
   simp at ai;subst ai;rfl
theorem afB {eU m N M:Nat}{A:Nat->Nat->Rat}(hm:m<=20)(gE:N<1000){h:Nat->Nat}{w:Rat}{t:bV}(ok:gQ eU m N A t)(f:pI m N w t)(o:Nat->Int)(ak:∀j,j<N-> -100<=o j/\o j<=100)(dd:Nat->Bool){eT:List (List bz)}(gb:lY m N M h w t eT):
 J3 (N:Int) (b5 w).cF (b5 w).cc (hO m N h) eT (cS m t) (aQ N o) 0 (aQ N dd)=some (aQ N fun j=>dd j && !decide (t.cn m (fun j=>(o j:Rat)) j<0)):=by
 unfold J3
 obtain⟨s,e,-⟩:=h4 (f:=fun q:Int×List Bool=>zT (N:Int) (b5 w).cF (b5 w).cc (hO m N h) eT (cS m t) (aQ N o) q.1 q.2)
  (fun (i:Nat) (_:Unit)=>((i:Int),aQ N fun j=>if j<i then dd j && !decide (t.cn m (fun j=>(o j:Rat)) j<0) else dd j)) N (fun _ _=>True) (fun _=>aQ N fun j=>dd j && !decide (t.cn m (fun j=>(o j:Rat)) j<0))
  (fun n aT _ _=>by
    refine⟨(),?_,trivial⟩
    have same:dd n=(dd n && !decide (t.cn m (fun j=>(o j:Rat)) n<0))->(U ((n:Int)+1),aQ N fun j=>if j<n then dd j && !decide (t.cn m (fun j=>(o j:Rat)) j<0) else dd j)=(((n+1:Nat):Int),aQ N fun j=>if j<n+1 then dd j && !decide (t.cn m (fun j=>(o j:Rat)) j<0) else dd j):=fun he=>by
     rw[fl (by omega)];congr 1;refine eA fun j _=> ?_;by_cases c:j=n
     ·subst c;rw[dA (by omega),dw (by omega)];exact he
     ·by_cases cm:j<n
      ·rw[dw cm,dw (by omega)]
      ·rw[dA cm,dA (by omega)]
    have g1 : ∀F:Nat->Bool,0<=((n:Nat):Int)/\((n:Nat):Int)<((aQ N F).length:Nat):=fun F=>(by rw[cb];omega);have g2:(aQ N fun j=>if j<n then dd j && !decide (t.cn m (fun j=>(o j:Rat)) j<0) else dd j)[(0+((n:Nat):Int).toNat)]? = some (dd n):=(by rw[dy,g9 aT,dA (by omega)]);unfold zT;by_cases r8:dd n=true
    ·obtain⟨b,i3,j4⟩:=St (m:=m) (by omega) t n
     cases b with
     | true =>
      obtain⟨i,ab,gl⟩:=j4.1 rfl;refine dW (by simp only;omega) (bq (g1 _) (aI g2 (gy r8 (aI i3 (gy rfl ?_)))));simp only;rw[same];rw[<- gl,ok.xZ _ ab,decide_eq_false (by grind)];simp
     | false =>
      have di:=U0 hm gE f o ak ((⟨(b5 w).cF,(b5 w).cc⟩:bz)) rfl (N:Int) (aQ N fun j=>if j<n then dd j && !decide (t.cn m (fun j=>(o j:Rat)) j<0) else dd j) aT
      have bJ:ju (t.cn m (fun j=>(o j:Rat)) n)<0↔t.cn m (fun j=>(o j:Rat)) n<0:=by
       unfold ju;by_cases c:t.cn m (fun j=>(o j:Rat)) n=0
       ·rw[dw c,c];constructor
        ·intro h;omega
        ·intro h;grind
       ·rw[dA c]
        by_cases cm:t.cn m (fun j=>(o j:Rat)) n<0
        ·rw[dw cm];simp[cm]
        ·rw[dA cm];constructor
         ·intro h;omega
         ·intro h;exact(cm h).elim
      by_cases uR:t.cn m (fun j=>(o j:Rat)) n<0
      ·refine dW (by simp only;omega) (bq (g1 _) (aI g2 (gy r8 (aI i3 (jc rfl (bq (EU gb) (aI (by rw[yn gb];exact di) (dW (bJ.2 uR) (bq (by rw[cb,dy];omega) ?_)))))))))
       simp only;rw[fl (by omega),dy,dG,kG];congr 3;refine eA fun j _=> ?_;by_cases c:j=n
       ·subst c;rw[dw rfl,dw (by omega),decide_eq_true uR];simp
       ·rw[dA c]
        by_cases cm:j<n
        ·rw[dw cm,dw (by omega)]
        ·rw[dA cm,dA (by omega)]
      ·refine dW (by simp only;omega) (bq (g1 _) (aI g2 (gy r8 (aI i3 (jc rfl (bq (EU gb) (aI (by rw[yn gb];exact di) (eg (fun c=>uR (bJ.1 c)) ?_))))))));simp only;rw[same];rw[decide_eq_false uR];simp
    ·have JM:dd n=false:=(by simpa using r8);refine dW (by simp only;omega) (bq (g1 _) (aI g2 (jc JM ?_)));simp only;rw[same];rw[JM];simp)
  (fun _ _=>by unfold zT;refine eg (by simp) ?_;simp only;congr 2;exact eA fun j aq=>by rw[dw aq]) () trivial
 have e0:(aQ N fun j=>if j<0 then dd j && !decide (t.cn m (fun j=>(o j:Rat)) j<0) else dd j)=aQ N dd:=eA fun j _=>by rw[dA (by omega)]
 rw[e0] at e;exact e
theorem SR {eU m N M:Nat}{A:Nat->Nat->Rat}(hm:m<=20)(gE:N<1000){h:Nat->Nat}(inj:∀i,i<m-> ∀k,k<m->h i=h k->i=k)(o:Nat->Int)(ak:∀j,j<N-> -100<=o j/\o j<=100)(dd:Nat->Bool)
 (Inv:Rat->bV->Prop) (inv : ∀w t,Inv w t->gQ eU m N A t/\t.l8 m N/\pI m N w t)
 (hX : ∀w t r s,Inv w t->oB m N 1 (fun _ j=>(o j:Rat)) (fun j=>dd j=true) t r s->vB m N w t r s/\Inv (qn w t r s) (t.ck r s)) {w:Rat} {t:bV} (cZ:Inv w t) {eT:List (List bz)} (gb:lY m N M h w t eT) :
 ∃b bT cD kx l0,uS (b5 w).cF (b5 w).cc (N:Int) (hO m N h) eT (cS m t) (aQ N dd) (aQ N o)=some (b,(b5 bT).cF,(b5 bT).cc,kx,cS m cD,aQ N l0)/\Inv bT cD/\lY m N M h bT cD kx /\
  ((b=true/\(∀j,j<N->dd j=true-> ¬0<cD.cn m (fun j=>(o j:Rat)) j)/\l0=fun j=>dd j && !decide (cD.cn m (fun j=>(o j:Rat)) j<0))\/(b=false/\ ∃s,s<N/\dd s=true/\0<cD.cn m (fun j=>(o j:Rat)) s/\ ∀i,i<m-> ¬0<cD.T i s)):=by
 obtain⟨ok,lc,GI⟩:=inv w t cZ
 obtain⟨x,ej,cD,e,-,-,-,bT,kx,h1,h2,J⟩:=Tc (eU:=eU) (m:=m) (N:=N) (K:=1) (A:=A) (obj:=fun _ j=>(o j:Rat)) (bM:=fun j=>dd j=true)
  (f:=wN (N:Int) (hO m N h) (aQ N dd) (aQ N o))
  (fun s t=> ∃w eT,s=((b5 w).cF,(b5 w).cc,eT,cS m t)/\Inv w t/\lY m N M h w t eT)
  (fun s x t=> ∃w eT,Inv w t/\lY m N M h w t eT/\((x = .inl ((b5 w).cF,(b5 w).cc,eT,cS m t)/\ ∀j,j<N->dd j=true-> ¬0<t.cn m (fun j=>(o j:Rat)) j) \/
    (x = .inr ((b5 w).cF,(b5 w).cc,eT,cS m t)/\ ∃s,s<N/\dd s=true/\0<t.cn m (fun j=>(o j:Rat)) s/\ ∀i,i<m-> ¬0<t.T i s)))
  (fun s t dg ok _=>by
    obtain⟨w,eT,rfl,cZ,gb⟩:=dg;obtain⟨x,e,aa⟩:=adN hm gE inj ok (inv w t cZ).2.2 o ak dd (fun r s b=>(hX w t r s cZ b).1) gb;rcases aa with ⟨rfl,aa⟩|⟨r,s,kx,rfl,c2,GG⟩|⟨rfl,aa⟩
    ·left;exact⟨_,by unfold wN;simp only;rw[e],w,eT,cZ,gb,.inl ⟨rfl,aa⟩⟩
    ·right;exact⟨_,r,s,by unfold wN;simp only;rw[e],c2,qn w t r s,kx,rfl,(hX w t r s cZ c2).2,GG⟩
    ·left;exact⟨_,by unfold wN;simp only;rw[e],w,eT,cZ,gb,.inr ⟨rfl,aa⟩⟩)
  (a:=((b5 w).cF,(b5 w).cc,eT,cS m t)) (t:=t) ⟨w,eT,rfl,cZ,gb⟩ ok lc
 have e2:=afA _ _ e;obtain⟨lZ,alV,aju⟩:=inv bT cD h1;rcases J with ⟨rfl,J⟩|⟨rfl,J⟩
 ·refine⟨true,bT,cD,kx,_,?_,h1,h2,.inl ⟨rfl,J,rfl⟩⟩;unfold uS;exact aI e2 (aI (afB hm gE lZ aju o ak dd h2) rfl)
 ·refine⟨false,bT,cD,kx,dd,?_,h1,h2,.inr ⟨rfl,J⟩⟩;unfold uS;exact aI e2 rfl
end Go.Proofs.YtpelegphlhbadaaGreat
