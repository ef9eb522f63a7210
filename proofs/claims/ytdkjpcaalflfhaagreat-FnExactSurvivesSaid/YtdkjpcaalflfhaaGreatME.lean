/- Lemmas, plain functions of the program, and what they answer. No condition. -/
import Derived.Test.YtdkjpcaalflfhaaGreatMD
namespace Go.Proofs.YtdkjpcaalflfhaaGreat
set_option linter.unusedVariables false
set_option linter.unusedSimpArgs false
open Go Go.VL
theorem nt {n:Nat}(h:n≤10000000):J ((n:Int)+1)=((n+1:Nat):Int):=by rw [cr (by omega) (by omega)];rfl
theorem pX {n:Nat}(h:n≤10000000):J ((n:Int)-1)=(n:Int)-1:=cr (by omega) (by omega)
theorem Kr {n:Nat}(h:n≤10000000):J (((n+1:Nat):Int)-1)=n:=by rw [cr (by omega) (by omega)];omega
theorem fL (l:List Int):len_ eI l=l.length:=fa _ l
theorem YQ {l:List Int}{k:Nat}{x:Int}(R:l[k]? = some x)(a2:l.length≤5000000):tO l ((k+1:Nat):Int)=some (if x=0 then .inl (k:Int) else .inr ((k+1:Nat):Int)):=by
 have a5:=fQ R
 unfold tO
 rw [Kr (by omega),if_pos (by simp),if_pos (by omega),Int.toNat_natCast,R]
 by_cases h:x=0<;>simp [h]
theorem q7 {l:List Int}(aV:cl l)(a2:l.length≤5000000):pH l=some (L (V l)):=by
 have : ∃r,iter (fun w:Int=>tO l w) (l.length:Int)=some r∧ ∃k:Nat,r=k∧k≤l.length∧l.take k=L (V l):=by
  refine jw (eK:=fun w:Int=> ∃k:Nat,w=k∧k≤l.length∧V (l.take k)=V l) (m:=fun w:Int=>w.toNat) _ ?_ _ ⟨l.length,rfl,by omega,by simp⟩
  rintro _ ⟨k,rfl,a5,bc⟩
  cases k with
  | zero =>
   refine .inr ⟨0,by simp [tO],0,rfl,by omega,?_⟩
   rw [← bc]
   simp [V,qt]
  | succ k =>
   have R:=List.getElem?_eq_getElem (show k<l.length by omega)
   rw [YQ R a2]
   by_cases h:l[k]=0
   ·refine .inl ⟨_,by simp [h],⟨k,rfl,by omega,?_⟩,by omega⟩
    have:=rR R
    rw [h] at this
    simp at this
    omega
   ·refine .inr ⟨_,by simp [h],k+1,rfl,a5,?_⟩
    rcases fB.JX aV k (fun x h1=>by rw [R] at h1;simp at h1;omega) with h1|h1
    ·exact s8 h1 bc
    ·omega
 obtain ⟨r,aq,k,rfl,h1,h2⟩:=this
 unfold pH IA
 rw [fL,aq]
 simp [h1,h2]
theorem xD {l:List Int}(aV:cl l)(a2:l.length≤5000000):pL l=some (L (V l)):=by
 have : ∃r,iter (fun w:List Int=>wT w) l=some r∧r=L (V l):=by
  refine jw (eK:=fun w=> ∃k:Nat,w=l.take k∧k≤l.length∧V (l.take k)=V l) (m:=fun w:List Int=>w.length) _ ?_ _ ⟨l.length,by simp,by omega,by simp⟩
  rintro _ ⟨k,rfl,a5,bc⟩
  have hlen:(l.take k).length=k:=by simp;omega
  cases k with
  | zero =>
   refine .inr ⟨[],by simp [wT,fL],?_⟩
   rw [← bc]
   simp [V,qt]
  | succ k =>
   have R:=List.getElem?_eq_getElem (show k<l.length by omega)
   have dy:(l.take (k+1))[k]? = some l[k]:=by rw [List.getElem?_take];simp [R]
   unfold wT
   simp only [fL,hlen]
   rw [Kr (by omega),if_pos (by simp),if_pos (by omega),Int.toNat_natCast,dy]
   by_cases h:l[k]=0
   ·refine .inl ⟨l.take k,by simp [h,List.take_take,Nat.min_eq_left],⟨k,rfl,by omega,?_⟩,by simp;omega⟩
    have:=rR R
    rw [h] at this
    simp at this
    omega
   ·refine .inr ⟨l.take (k+1),by simp [h],?_⟩
    rcases fB.JX aV k (fun x h1=>by rw [R] at h1;simp at h1;omega) with h1|h1
    ·exact s8 h1 bc
    ·omega
 obtain ⟨r,aq,rfl⟩:=this
 unfold pL Jb
 rw [aq]
 rfl
theorem YR {l:List Int}(aV:cl l)(a2:l.length≤5000000): ∃k,zO l=some k∧k≤l.length∧l.take k=L (V l):=by
 have : ∃r,iter (fun w:Nat=>wL l w) l.length=some r∧r≤l.length∧l.take r=L (V l):=by
  refine jw (eK:=fun k=>k≤l.length∧V (l.take k)=V l) (m:=fun w:Nat=>w) _ ?_ _ ⟨by omega,by simp⟩
  rintro k ⟨a5,bc⟩
  cases k with
  | zero =>
   refine .inr ⟨0,by simp [wL],by omega,?_⟩
   rw [← bc]
   simp [V,qt]
  | succ k =>
   have R:=List.getElem?_eq_getElem (show k<l.length by omega)
   unfold wL
   rw [Kr (by omega),if_pos (by simp),if_pos (by omega),Int.toNat_natCast,Nat.zero_add,R]
   by_cases h:l[k]=0
   ·refine .inl ⟨k,by simp [h],⟨by omega,?_⟩,by omega⟩
    have:=rR R
    rw [h] at this
    simp at this
    omega
   ·refine .inr ⟨k+1,by simp [h],a5,?_⟩
    rcases fB.JX aV k (fun x h1=>by rw [R] at h1;simp at h1;omega) with h1|h1
    ·exact s8 h1 bc
    ·omega
 obtain ⟨r,aq,h1,h2⟩:=this
 unfold zO IW
 rw [aq]
 exact ⟨r,rfl,h1,h2⟩
theorem rU {a b:List Int}(bA:fB a)(aP:fB b)(a2:a.length≤5000000):pJ a b=some (kS (V a) (V b)):=by
 unfold pJ kS
 simp only [fL]
 by_cases h1:a.length=b.length
 ·rw [if_neg (by simp [h1])]
  have : ∃r,iter (fun w:Int=>wH a b w) ((a.length:Int)-1)=some r∧(r.elim (fun _=>V a=V b) (fun c=>(c = -1∧V a<V b)∨(c=1∧V b<V a))):=by
   refine jw (eK:=fun w:Int=> ∃k:Nat,w=(k:Int)-1∧k≤a.length∧V (a.drop k)=V (b.drop k)) (m:=fun w:Int=>(w+1).toNat) _ ?_ _ ⟨a.length,rfl,by omega,by rw [List.drop_length,h1,List.drop_length]⟩
   rintro _ ⟨k,rfl,a5,bc⟩
   cases k with
   | zero=>exact .inr ⟨.inl (),by simp [wH],by simpa using bc⟩
   | succ k =>
    have R:=List.getElem?_eq_getElem (show k<a.length by omega)
    have a0:=List.getElem?_eq_getElem (show k<b.length by omega)
    have e:((k+1:Nat):Int)-1=k:=by omega
    unfold wH
    rw [e,pX (by omega),if_pos (by simp),if_pos (by omega),Int.toNat_natCast,R]
    simp only [Option.bind_eq_bind,Option.bind_some]
    rw [if_pos (by omega),a0]
    by_cases h2:a[k]<b[k]
    ·exact .inr ⟨.inr (-1),by simp [h2],.inl ⟨rfl,PF bA.1 aP.1 R a0 bc h2⟩⟩
    ·by_cases ab:b[k]<a[k]
     ·exact .inr ⟨.inr 1,by simp [h2,ab],.inr ⟨rfl,PF aP.1 bA.1 a0 R bc.symm ab⟩⟩
     ·refine .inl ⟨(k:Int)-1,by simp [h2,ab],⟨k,rfl,by omega,?_⟩,by omega⟩
      rw [oh R,oh a0,bc,show a[k]=b[k] by omega]
  obtain ⟨r,aq,h2⟩:=this
  unfold IL
  rw [pX (by omega),aq]
  cases r with
  | inl u =>
   simp at h2
   simp [h2]
  | inr c =>
   rcases h2 with ⟨rfl,h2⟩|⟨rfl,h2⟩
   ·simp [h2]
   ·simp [h2];omega
 ·rw [if_pos (by simp;omega)]
  by_cases h2:a.length<b.length
  ·have:=DA bA aP h2
   simp [h2,this]
  ·have:=DA aP bA (by omega)
   rw [if_neg (by simp;omega),if_neg (by omega),if_pos this]
theorem Xr:qf=pJ:=rfl
theorem Of {a b:List Int}(bA:fB a)(aP:fB b)(a2:a.length≤5000000):qf a b=some (kS (V a) (V b)):=rU bA aP a2
theorem As {x y:Int}(R:0≤x∧x<1000000000)(a0:0≤y∧y<1000000000):0≤x*y∧x*y≤999999998000000001:=by
 have h1:=Int.mul_nonneg R.1 a0.1
 have h2:x*y≤999999999*999999999:=Int.mul_le_mul (by omega) (by omega) a0.1 (by omega)
 omega
theorem pC {a b:Int}(h:0≤a):a.tmod b=a % b:=Int.tmod_eq_emod_of_nonneg h
theorem mW {a b:Int}(h:0≤a):a.tdiv b=a / b:=Int.tdiv_eq_ediv_of_nonneg h
theorem J0 (k:Nat)(x:Int)(q:List Int):(List.replicate (k+1) 0++q).set k x=List.replicate k 0++x::q:=by
 induction k with
 | zero=>rfl
 | succ k ih =>
  show (0::(List.replicate (k+1) 0++q)).set (k+1) x=_
  rw [List.set_cons_succ,ih];rfl
theorem Yh {a:List Int}{d rest:Int}{row:List Int}{k:Nat}{x:Int}(R:a[k]? = some x)(kl:0≤x∧x<1000000000)(bC:0<d∧d<1000000000)(aq:0≤rest∧rest<d)(dr:row.length=a.length)(a2:a.length≤1000000):
 wk a d rest (k:Int) row=some (.inl ((rest*1000000000+x) % d,(k:Int)-1,row.set k ((rest*1000000000+x) / d))):=by
 have a5:=fQ R
 unfold wk
 rw [if_pos (by simp),if_pos (by omega),Int.toNat_natCast,R]
 simp only [Option.bind_eq_bind,Option.bind_some]
 rw [if_pos (by omega),if_pos (by omega),if_pos (by omega),pX (by omega)]
 have h1:J (J (rest*1000000000)+x)=rest*1000000000+x:=by rw [cr (x:=rest*1000000000) (by omega) (by omega)];exact cr (by omega) (by omega)
 have h2:0≤rest*1000000000+x:=by omega
 have ab:(rest*1000000000+x) / d≤rest*1000000000+x:=Int.ediv_le_self _ h2
 have au:0≤(rest*1000000000+x) / d:=Int.ediv_nonneg h2 (by omega)
 rw [h1,pC h2,mW h2,cr (by omega) (by omega),Nat.zero_add]
theorem Og {a:List Int}{d:Int}(bA:cl a)(bC:0<d∧d<1000000000)(a2:a.length≤1000000):
 ∃r,CD a d 0 ((a.length:Int)-1) (List.replicate a.length 0)=some r∧r.1=V a % d∧cl r.2∧r.2.length=a.length∧V r.2=V a / d:=by
 refine jw (eK:=fun w:Int×Int×List Int=> ∃(k:Nat) (q:List Int),w.2.1=(k:Int)-1∧k≤a.length∧w.2.2=List.replicate k 0++q∧q.length+k=a.length∧cl q∧0≤w.1∧w.1<d∧V (a.drop k)=V q*d+w.1) (m:=fun w:Int×Int×List Int=>(w.2.1+1).toNat) _ ?_ _ ⟨a.length,[],rfl,by omega,by simp,by simp,cl.nil,by omega,by omega,by simp [V]⟩
 rintro ⟨rest,i,row⟩ ⟨k,q,h1,a5,h2,a8,py,k9,hN,bc⟩
 simp only at h1 h2 k9 hN bc ⊢
 subst h1 h2
 cases k with
 | zero =>
  refine .inr ⟨(rest,q),by simp [wk],?_,py,by simpa using a8,?_⟩
  ·simp at bc
   rw [bc,Int.add_comm,Int.add_mul_emod_self_right]
   exact (Int.emod_eq_of_lt k9 hN).symm
  ·simp at bc
   rw [bc,Int.add_comm,Int.add_mul_ediv_right _ _ (by omega),Int.ediv_eq_zero_of_lt k9 hN]
   simp
 | succ k =>
  have R:=List.getElem?_eq_getElem (show k<a.length by omega)
  have kl:=bA.get R
  rw [show ((k+1:Nat):Int)-1=k by omega,Yh R kl bC ⟨k9,hN⟩ (by simp;omega) a2]
  refine .inl ⟨_,rfl,⟨k,(rest*1000000000+a[k]) / d::q,rfl,by omega,J0 _ _ _,by simp;omega,cl.cons ⟨Int.ediv_nonneg (by omega) (by omega),?_⟩ py,Int.emod_nonneg _ (by omega),Int.emod_lt_of_pos _ bC.1,?_⟩,by simp⟩
  ·refine Int.ediv_lt_of_lt_mul bC.1 ?_
   omega
  ·rw [oh R,bc,k2]
   have:=Int.mul_ediv_add_emod (rest*1000000000+a[k]) d
   generalize (rest*1000000000+a[k]) / d=u at *
   generalize (rest*1000000000+a[k]) % d=t at *
   grind
theorem ZM {a:List Int}{d:Int}(bA:cl a)(bC:0<d∧d<1000000000)(a2:a.length≤1000000):zq a d=some (L (V a / d),V a % d):=by
 obtain ⟨r,aq,h1,h2,ab,au⟩:=Og bA bC a2
 unfold zq
 simp only [fL]
 rw [if_pos (by omega),pX (by omega),Int.toNat_natCast,aq]
 simp only [Option.bind_eq_bind,Option.bind_some]
 rw [q7 h2 (by omega),h1,au]
 rfl
theorem WC:H9=CD:=rfl
theorem NA {a:List Int}{d:Int}(bA:cl a)(bC:0<d∧d<1000000000)(a2:a.length≤1000000):w2 a d=some (L (V a / d),V a % d):=by
 obtain ⟨r,aq,h1,h2,ab,au⟩:=Og bA bC a2
 unfold w2
 simp only [fL]
 rw [if_pos (by omega),pX (by omega),Int.toNat_natCast,WC,aq]
 simp only [Option.bind_eq_bind,Option.bind_some]
 rw [xD h2 (by omega),h1,au]
 rfl
theorem YS {b:List Int}{i j:Nat}{x y z carry:Int}{row t26:List Int}{t27:Int}(a0:b[j]? = some y)(cm:row[i+j]? = some z)(R:0≤x∧x<1000000000)(oO:0≤y∧y<1000000000)(qH:0≤z∧z<1000000000)(ba:0≤carry∧carry<1000000000)(a2:row.length≤2000000):
 wI b i x t26 t27 b.length carry j row=some (.inl ((z+x*y+carry) / 1000000000,((j+1:Nat):Int),row.set (i+j) ((z+x*y+carry) % 1000000000))):=by
 have aC:=fQ a0
 have pt:=fQ cm
 obtain ⟨ib,g9⟩:=As R oO
 unfold wI
 have e:J ((i:Int)+(j:Int))=((i+j:Nat):Int):=by rw [cr (by omega) (by omega)];rfl
 rw [if_pos (by simp;omega),if_pos (by omega),Int.toNat_natCast,a0]
 simp only [Option.bind_eq_bind,Option.bind_some,e,Int.toNat_natCast,Nat.zero_add]
 rw [if_pos (by omega),cm]
 simp only [Option.bind_some]
 rw [if_pos (by omega),nt (by omega),cr (x:=x*y) (by omega) (by omega),cr (x:=z+x*y) (by omega) (by omega),cr (x:=z+x*y+carry) (by omega) (by omega),pC (by omega),mW (by omega),cr (by omega) (by omega)]
theorem YT {b:List Int}{i:Nat}{x:Int}{row t26:List Int}{t27:Int}(aP:cl b)(dr:cl row)(R:0≤x∧x<1000000000)(aV:i+b.length<row.length)(a2:row.length≤2000000):
 ∃r,IR b i x t26 t27 b.length 0 0 row=some r∧0≤r.1∧r.1<1000000000∧cl r.2∧r.2.length=row.length∧V r.2+r.1*B (i+b.length)=V row+x*B i*V b∧ ∀j,i+b.length≤j→r.2[j]? = row[j]? := by
 refine jw (eK:=fun w:Int×Int×List Int=> ∃(j:Nat),w.2.1=(j:Int)∧j≤b.length∧0≤w.1∧w.1<1000000000∧cl w.2.2∧w.2.2.length=row.length∧V w.2.2+w.1*B (i+j)=V row+x*B i*V (b.take j)∧ ∀j,i+b.length≤j→w.2.2[j]? = row[j]?) (m:=fun w:Int×Int×List Int=>b.length-w.2.1.toNat) _ ?_ _ ⟨0,rfl,by omega,by simp,by simp,dr,rfl,by simp [V],fun _ _=>rfl⟩
 rintro ⟨carry,adQ,fy⟩ ⟨j,h1,aC,mi,mN,j9,hlen,bc,k5⟩
 simp only at h1 mi mN j9 hlen bc k5 ⊢
 subst h1
 by_cases ac1:j=b.length
 ·subst ac1
  refine .inr ⟨(carry,fy),by simp [wI],mi,mN,j9,hlen,by simpa using bc,k5⟩
 ·have a0:=List.getElem?_eq_getElem (show j<b.length by omega)
  have cm:=List.getElem?_eq_getElem (show i+j<fy.length by omega)
  have oO:=aP.get a0
  have qH:=j9.get cm
  obtain ⟨ib,g9⟩:=As R oO
  rw [YS a0 cm R oO qH ⟨mi,mN⟩ (by omega)]
  refine .inl ⟨_,rfl,⟨j+1,rfl,by omega,by simp only;omega,by simp only;omega,j9.set (by omega),by simpa using hlen,?_,fun hG th=> ?_⟩,by simp;omega⟩
  ·simp only
   rw [rl cm,rR a0,← Nat.add_assoc,l0]
   rw [AE] at bc ⊢
   have:=Int.mul_ediv_add_emod (fy[i+j]+x*b[j]+carry) 1000000000
   generalize (fy[i+j]+x*b[j]+carry) / 1000000000=u at *
   generalize (fy[i+j]+x*b[j]+carry) % 1000000000=t at *
   grind
  ·rw [← k5 hG th]
   exact List.getElem?_set_ne (by omega)
theorem Jz {a b:List Int}(bA:cl a)(aP:cl b)(a2:a.length≤1000000)(hm:b.length≤1000000):
 ∃r,zi b a a.length 0 (List.replicate (a.length+b.length) 0)=some r∧cl r∧r.length=a.length+b.length∧V r=V a*V b:=by
 refine jw (eK:=fun w:Int×List Int=> ∃(i:Nat),w.1=(i:Int)∧i≤a.length∧cl w.2∧w.2.length=a.length+b.length∧V w.2=V (a.take i)*V b∧ ∀j,i+b.length≤j→j<a.length+b.length→w.2[j]? = some 0) (m:=fun w:Int×List Int=>a.length-w.1.toNat) _ ?_ _ ⟨0,rfl,by omega,cl.Lh _,by simp,by simp [V,Ko],fun j _ h=>by simp [List.getElem?_replicate,h]⟩
 rintro ⟨ii,row⟩ ⟨i,h1,ao,j9,hlen,bc,h0⟩
 simp only at h1 j9 hlen bc h0 ⊢
 subst h1
 by_cases BI:i=a.length
 ·subst BI
  refine .inr ⟨row,by simp [y0],j9,hlen,by simpa using bc⟩
 ·have R:=List.getElem?_eq_getElem (show i<a.length by omega)
  have kl:=bA.get R
  obtain ⟨r,aq,mi,mN,abX,Qq,Bd,k5⟩:=YT (i:=i) (t26:=a) (t27:=a.length) aP j9 kl (by omega) (by omega)
  have e:J ((i:Int)+(b.length:Int))=((i+b.length:Nat):Int):=by rw [cr (by omega) (by omega)];rfl
  have cm:r.2[i+b.length]? = some 0:=by rw [k5 _ (Nat.le_refl _)];exact h0 _ (Nat.le_refl _) (by omega)
  refine .inl ⟨(((i+1:Nat):Int),r.2.set (i+b.length) r.1),?_,⟨i+1,rfl,by omega,abX.set ⟨mi,mN⟩,by simp;omega,?_,fun j afk ac2=> ?_⟩,by simp;omega⟩
  ·unfold y0
   rw [if_pos (by simp;omega),if_pos (by omega),Int.toNat_natCast,R]
   simp only [Option.bind_eq_bind,Option.bind_some,fL]
   rw [aq]
   simp only [Option.bind_some,e,Int.toNat_natCast,Nat.zero_add]
   rw [if_pos (by omega),if_pos (by omega),nt (n:=i) (by omega)]
  ·simp only
   rw [rl cm,rR R]
   grind
  ·simp only
   rw [List.getElem?_set_ne (by omega),k5 _ (by omega)]
   exact h0 _ (by omega) ac2
theorem mul_eq {a b:List Int}(bA:cl a)(aP:cl b)(a2:a.length≤1000000)(hm:b.length≤1000000):hE a b=some (L (V a*V b)):=by
 unfold hE
 simp only [fL]
 by_cases h1:a=[]
 ·subst h1
  simp [V,qt]
 ·by_cases h2:b=[]
  ·subst h2
   simp [h1,V,qt]
  ·obtain ⟨r,aq,ab,au,aA⟩:=Jz bA aP a2 hm
   have e:J ((a.length:Int)+(b.length:Int))=((a.length+b.length:Nat):Int):=by rw [cr (by omega) (by omega)];rfl
   rw [if_neg (by simp [h1]),if_neg (by simp [h2]),e,if_pos (by omega),Int.toNat_natCast,aq]
   simp only [Option.bind_eq_bind,Option.bind_some]
   rw [q7 ab (by omega),aA]
   rfl
theorem XL:I8=zi:=rfl
theorem W5:IF=zi:=rfl
theorem ZN {a b:List Int}(bA:cl a)(aP:cl b)(a2:a.length≤1000000)(hm:b.length≤1000000):zZ a b=some (L (V a*V b)):=by
 unfold zZ
 simp only [fL]
 by_cases h1:a=[]
 ·subst h1
  simp [V,qt]
 ·by_cases h2:b=[]
  ·subst h2
   simp [h1,V,qt]
  ·obtain ⟨r,aq,ab,au,aA⟩:=Jz bA aP a2 hm
   have e:J ((a.length:Int)+(b.length:Int))=((a.length+b.length:Nat):Int):=by rw [cr (by omega) (by omega)];rfl
   rw [if_neg (by simp [h1]),if_neg (by simp [h2]),e,if_pos (by omega),Int.toNat_natCast,XL,aq]
   simp only [Option.bind_eq_bind,Option.bind_some]
   rw [xD ab (by omega),aA]
   rfl
theorem Oh {a b:List Int}(bA:cl a)(aP:cl b)(h1:a≠[])(h2:b≠[])(a2:a.length≤1000000)(hm:b.length≤1000000):
 ∃k r,xc a b=some (k,r)∧k≤r.length∧r.length=a.length+b.length∧r.take k=L (V a*V b)∧cl r:=by
 obtain ⟨r,aq,ab,au,aA⟩:=Jz bA aP a2 hm
 obtain ⟨k,a5,aX,bb⟩:=YR ab (by omega)
 refine ⟨k,r,?_,aX,au,by rw [bb,aA],ab⟩
 unfold xc
 simp only [fL]
 have e:J ((a.length:Int)+(b.length:Int))=((a.length+b.length:Nat):Int):=by rw [cr (by omega) (by omega)];rfl
 rw [if_neg (by simp [h1]),if_neg (by simp [h2]),e,if_pos (by omega),Int.toNat_natCast,W5,aq]
 simp only [Option.bind_eq_bind,Option.bind_some]
 rw [a5]
 rfl
theorem AJ {x:Int}(h1:0≤x)(h2:x<18446744073709551616):IntKind.wrap .u64 x=x:=by
 simp only [IntKind.wrap,IntKind.signed,IntKind.bits]
 have:((2:Int) ^ 64)=18446744073709551616:=by decide
 simp
 omega
theorem abx {x:Int}(h1:-9223372036854775808≤x)(h2:x<9223372036854775808):IntKind.wrap .i64 x=x:=cr h1 h2
theorem fB.snoc {l:List Int}{x:Int}(h:cl l)(R:0<x∧x<1000000000):fB (l++[x]):=⟨h.append (cl.cons (by omega) cl.nil),fun y a0=>by
 rw [List.getLast?_append] at a0
 simp at a0
 omega⟩
theorem OI {N:Int}(fN:N<18446744073709551616){n:Int}{row:List Int}(h:0≤n∧cl row∧V row+B row.length*n=N∧(n=0→fB row)∧((row.length=0∧n<18446744073709551616)∨(row.length=1∧n<20000000000)∨(row.length=2∧n<20)∨(row.length=3∧n=0)))(a2:0<n):
 (fun (n:Int) (row:List Int)=>0≤n∧cl row∧V row+B row.length*n=N∧(n=0→fB row)∧((row.length=0∧n<18446744073709551616)∨(row.length=1∧n<20000000000)∨(row.length=2∧n<20)∨(row.length=3∧n=0))) (n / 1000000000) (row++[n % 1000000000]):=by
 obtain ⟨h0,h1,h2,ab,au⟩:=h
 refine ⟨by omega,h1.append (cl.cons (by omega) cl.nil),?_,fun aA=>fB.snoc h1 (by omega),?_⟩
 ·rw [uy,List.length_append,List.length_singleton,l0,k2,AF]
  have:=Int.mul_ediv_add_emod n 1000000000
  generalize n / 1000000000=u at *
  generalize n % 1000000000=t at *
  grind
 ·rw [List.length_append,List.length_singleton]
  omega
theorem xv {n:Int}(h:0≤n)(a2:n<9223372036854775808):q6 n=some (L n):=by
 have : ∃r,iter (fun w:Int×List Int=>wQ w.1 w.2) (n,[])=some r∧r=L n:=by
  refine jw (eK:=fun w:Int×List Int=>w.1≤n∧0≤w.1∧cl w.2∧V w.2+B w.2.length*w.1=n∧(w.1=0→fB w.2)∧((w.2.length=0∧w.1<18446744073709551616)∨(w.2.length=1∧w.1<20000000000)∨(w.2.length=2∧w.1<20)∨(w.2.length=3∧w.1=0))) (m:=fun w:Int×List Int=>w.1.toNat) _ ?_ _ ⟨Int.le_refl _,h,cl.nil,by simp [V,B],fun _=>fB.nil,.inl ⟨rfl,by simp only;omega⟩⟩
  rintro ⟨m,row⟩ ⟨hm,cE⟩
  simp only at hm cE
  obtain ⟨h0,h1,h2,ab,au⟩:=id cE
  by_cases jW:0<m
  ·have:=OI (by omega) cE jW
   refine .inl ⟨(m / 1000000000,row++[m % 1000000000]),?_,⟨by simp only;omega,this⟩,by simp only;omega⟩
   unfold wQ
   rw [if_pos (by simp;omega),pC (by omega),mW (by omega),if_pos (by simp;omega),cr (by omega) (by omega)]
  ·refine .inr ⟨row,by simp [wQ,jW],?_⟩
   have nD:m=0:=by omega
   refine s8 (ab nD) ?_
   rw [nD] at h2
   simpa using h2
 obtain ⟨r,aq,rfl⟩:=this
 unfold q6 I3
 rw [aq]
 rfl
theorem Jq {n:Int}(h:0≤n)(a2:n<18446744073709551616):uc n=some (L n):=by
 have : ∃r,iter (fun w:Int×List Int=>wu w.1 w.2) (n,[])=some r∧r=L n:=by
  refine jw (eK:=fun w:Int×List Int=>w.1≤n∧0≤w.1∧cl w.2∧V w.2+B w.2.length*w.1=n∧(w.1=0→fB w.2)∧((w.2.length=0∧w.1<18446744073709551616)∨(w.2.length=1∧w.1<20000000000)∨(w.2.length=2∧w.1<20)∨(w.2.length=3∧w.1=0))) (m:=fun w:Int×List Int=>w.1.toNat) _ ?_ _ ⟨Int.le_refl _,h,cl.nil,by simp [V,B],fun _=>fB.nil,.inl ⟨rfl,by simp only;omega⟩⟩
  rintro ⟨m,row⟩ ⟨hm,cE⟩
  simp only at hm cE
  obtain ⟨h0,h1,h2,ab,au⟩:=id cE
  by_cases jW:0<m
  ·have:=OI (by omega) cE jW
   refine .inl ⟨(m / 1000000000,row++[m % 1000000000]),?_,⟨by simp only;omega,this⟩,by simp only;omega⟩
   unfold wu
   rw [if_pos (by simp;omega),pC (by omega),mW (by omega),abx (x:=m % 1000000000) (by omega) (by omega),if_pos (by simp;omega),AJ (by omega) (by omega)]
  ·refine .inr ⟨row,by simp [wu,jW],?_⟩
   have nD:m=0:=by omega
   refine s8 (ab nD) ?_
   rw [nD] at h2
   simpa using h2
 obtain ⟨r,aq,rfl⟩:=this
 unfold uc ID
 rw [aq]
 rfl
def ta (x:Int):Bool:=decide (0≤x) && decide (x<1000000000)
theorem PL (l:List Int):l.all ta=true↔cl l:=by
 simp [ta,cl]
theorem Oi {a:List Int}(h:a≠[]): ∃x,a[a.length-1]? = some x∧(fB a↔cl a∧x≠0):=by
 have aj:=List.length_pos_iff.mpr h
 refine ⟨a[a.length-1],List.getElem?_eq_getElem (by omega),?_⟩
 have e:a.getLast? = some a[a.length-1]:=by rw [List.getLast?_eq_getElem?];exact List.getElem?_eq_getElem (by omega)
 constructor
 ·exact fun h=>⟨h.1,h.2 _ e⟩
 ·refine fun h=>⟨h.1,fun x R=> ?_⟩
  rw [e] at R
  rw [← Option.some.inj R]
  exact h.2
theorem aby {a:List Int}(h:a≠[])(hm:(a.length:Int)<9223372036854775807):J ((a.length:Int)-1)=((a.length-1:Nat):Int):=by
 have aj:=List.length_pos_iff.mpr h
 rw [cr (by omega) (by omega)]
 omega
theorem Yi (x:Int):my x 0 999999999=some (ta x):=by
 unfold my ta
 by_cases h:0≤x
 ·simp [h];omega
 ·simp [h]
theorem Jr {a:List Int}(hm:(a.length:Int)<9223372036854775807): ∃ok,rK a=some ok∧(ok=true↔fB a∧a.length≤60):=by
 have h1:iter (fun w:Int=>wR a a.length w) 0=some (if a.all ta then .inl () else .inr ()):=by
  refine O5 a ta (fun n x R=> ?_) (by simp [wR])
  have:=fQ R
  unfold wR
  rw [if_pos (by simp;omega),if_pos (by omega),Int.toNat_natCast,R]
  simp only [Option.bind_eq_bind,Option.bind_some,Yi]
  rw [i1 (by omega)]
  cases ta x<;>rfl
 unfold rK I4
 simp only [fL]
 rw [h1]
 by_cases tv:a.all ta=true
 ·have Ba:=(PL a).1 tv
  simp only [tv,if_true,Option.bind_eq_bind,Option.bind_some]
  by_cases qb:a.length≤60
  ·rw [if_pos (by simp;omega)]
   by_cases h0:a=[]
   ·subst h0
    exact ⟨true,rfl,by simp [fB.nil]⟩
   ·obtain ⟨x,R,a2⟩:=Oi h0
    have aj:=List.length_pos_iff.mpr h0
    rw [if_neg (by simp [h0]),aby h0 hm,if_pos (by omega),Int.toNat_natCast,R]
    refine ⟨_,rfl,?_⟩
    rw [a2]
    simp [Ba,qb]
  ·rw [if_neg (by simp;omega)]
   exact ⟨false,rfl,by simp;omega⟩
 ·have Ba : ¬cl a:=fun h=>tv ((PL a).2 h)
  simp only [Bool.not_eq_true] at tv
  refine ⟨false,by simp [tv],?_⟩
  simp only [Bool.false_eq_true,false_iff]
  exact fun h=>Ba h.1.1
theorem NS {a:List Int}(bA:fB a)(qb:a.length≤60)(bc:V a<9223372036854775808):w4 a=some (V a,true):=by
 obtain ⟨ok,h1,h2⟩:=Jr (a:=a) (by omega)
 have mK:ok=true:=h2.2 ⟨bA,qb⟩
 subst mK
 have ba:fB [854775807,223372036,9]:=⟨by intro x R;simp at R;omega,by simp⟩
 have Lr:V [854775807,223372036,9]=9223372036854775807:=by decide
 unfold w4
 rw [h1]
 simp only [Option.bind_eq_bind,Option.bind_some,if_true]
 rw [rU bA ba (by omega),Lr]
 have : ∃r,iter (fun w:Int×Int=>wi a w.1 w.2) (0,(a.length:Int)-1)=some r∧r=V a:=by
  refine jw (eK:=fun w:Int×Int=> ∃k:Nat,w.2=(k:Int)-1∧k≤a.length∧w.1=V (a.drop k)) (m:=fun w:Int×Int=>(w.2+1).toNat) _ ?_ _ ⟨a.length,rfl,by omega,by simp [V]⟩
  rintro ⟨n,i⟩ ⟨k,ab,a5,au⟩
  simp only at ab au
  subst ab au
  cases k with
  | zero=>exact .inr ⟨V a,by simp [wi],rfl⟩
  | succ k =>
   have R:=List.getElem?_eq_getElem (show k<a.length by omega)
   have kl:=bA.1.get R
   have aA:=oh R
   have aX:=mA (bA.1.drop (k+1))
   have bb:V (a.drop k)≤V a:=by
    have bi:=uA (l:=a) (n:=k) (by omega)
    have cj:=mA (bA.1.take k)
    have cM:=mA (bA.1.drop k)
    have e6:1*V (a.drop k)≤B k*V (a.drop k):=Int.mul_le_mul_of_nonneg_right (ov k) cM
    omega
   refine .inl ⟨(V (a.drop k),(k:Int)-1),?_,⟨k,rfl,by omega,rfl⟩,by simp only;omega⟩
   unfold wi
   rw [show ((k+1:Nat):Int)-1=k by omega,if_pos (by simp),if_pos (by omega),Int.toNat_natCast,R]
   simp only [Option.bind_eq_bind,Option.bind_some]
   rw [pX (by omega),cr (x:=V (a.drop (k+1))*1000000000) (by omega) (by omega),cr (by omega) (by omega),aA]
   congr 3
   omega
 obtain ⟨r,aq,rfl⟩:=this
 unfold kS Im
 simp only [fL]
 rw [pX (by omega),aq]
 have ab : ¬(9223372036854775807:Int)<V a:=by omega
 by_cases au:V a<9223372036854775807<;>simp [ab,au]
theorem ZO {a b row:List Int}{less x:Int}{i:Nat}(aP:cl b)(R:a[i]? = some x)(kl:0≤x∧x<1000000000)(aV:less=0∨less=1)(a2:a.length≤1000000)(hm:b.length≤1000000)(aq:row.length≤1000000):
 ∃y,0≤y∧y<1000000000∧(∀z,b[i]? = some z→y=z)∧(b[i]? = none→y=0) ∧
 tQ a b a.length less i row=some (.inl (if x-less-y<0 then (1,((i+1:Nat):Int),row++[x-less-y+1000000000]) else (0,((i+1:Nat):Int),row++[x-less-y]))):=by
 have ao:=fQ R
 unfold tQ
 rw [if_pos (by simp;omega),if_pos (by omega),Int.toNat_natCast,R]
 simp only [Option.bind_eq_bind,Option.bind_some,fL]
 by_cases RG:i<b.length
 ·have a0:=List.getElem?_eq_getElem RG
  have oO:=aP.get a0
  refine ⟨b[i],oO.1,oO.2,fun z cm=>by rw [a0] at cm;exact Option.some.inj cm,fun h=>by rw [a0] at h;simp at h,?_⟩
  rw [if_pos (by simp;omega),if_pos (by omega),a0]
  simp only [Option.bind_some]
  rw [cr (x:=x-less) (by omega) (by omega),cr (x:=x-less-b[i]) (by omega) (by omega),nt (n:=i) (by omega),cr (x:=x-less-b[i]+1000000000) (by omega) (by omega)]
  by_cases h:x-less-b[i]<0
  ·rw [if_pos (by simp [h]),if_pos (by simp;omega)]
   simp [h]
  ·rw [if_neg (by simp [h]),if_pos (by simp;omega)]
   simp [h]
 ·have a0:b[i]? = none:=by simp;omega
  refine ⟨0,by omega,by omega,fun z cm=>by rw [a0] at cm;simp at cm,fun _=>rfl,?_⟩
  rw [if_neg (by simp;omega),cr (x:=x-less) (by omega) (by omega),nt (n:=i) (by omega),cr (x:=x-less+1000000000) (by omega) (by omega),Int.sub_zero]
  by_cases h:x-less<0
  ·rw [if_pos (by simp [h]),if_pos (by simp;omega)]
   simp [h]
  ·rw [if_neg (by simp [h]),if_pos (by simp;omega)]
   simp [h]
theorem Pb {b:List Int}{i:Nat}{y:Int}(h1:∀z,b[i]? = some z→y=z)(h2:b[i]? = none→y=0):V (b.take (i+1))=V (b.take i)+B i*y:=by
 cases h:b[i]? with
 | some z=>rw [h1 z h,rR h]
 | none =>
  rw [h2 h]
  have:b.length≤i:=by simpa using h
  rw [List.take_of_length_le (by omega),List.take_of_length_le (by omega)]
  simp
theorem sub_eq {a b:List Int}(bA:cl a)(aP:cl b)(hlen:b.length≤a.length)(tl:V b≤V a)(a2:a.length≤1000000):rJ a b=some (L (V a-V b)):=by
 have : ∃r,iter (fun w:Int×Int×List Int=>tQ a b a.length w.1 w.2.1 w.2.2) (0,0,[])=some r∧cl r∧r.length=a.length∧V r=V a-V b:=by
  refine jw (eK:=fun w:Int×Int×List Int=> ∃i:Nat,w.2.1=i∧i≤a.length∧(w.1=0∨w.1=1)∧cl w.2.2∧w.2.2.length=i∧V w.2.2-w.1*B i=V (a.take i)-V (b.take i)) (m:=fun w:Int×Int×List Int=>a.length-w.2.1.toNat) _ ?_ _ ⟨0,rfl,by omega,.inl rfl,cl.nil,rfl,by simp [V]⟩
  rintro ⟨less,ii,row⟩ ⟨i,h1,ao,aV,j9,sm,bc⟩
  simp only at h1 aV j9 sm bc ⊢
  subst h1
  by_cases BI:i=a.length
  ·refine .inr ⟨row,by simp [tQ,BI],j9,by omega,?_⟩
   rw [BI] at bc
   rw [List.take_length,List.take_of_length_le hlen] at bc
   have h2:=m6 j9
   rw [sm,BI] at h2
   rcases aV with rfl|rfl<;>omega
  ·have R:=List.getElem?_eq_getElem (show i<a.length by omega)
   have kl:=bA.get R
   obtain ⟨y,BJ,BK,ac3,ac4,he⟩:=ZO (row:=row) aP R kl aV a2 (by omega) (by omega)
   rw [he]
   refine .inl ⟨_,rfl,?_⟩
   have ab:=rR R
   have au:=Pb ac3 ac4
   by_cases h:a[i]-less-y<0
   ·rw [if_pos h]
    refine ⟨⟨i+1,rfl,by omega,.inr rfl,j9.append (cl.cons (by omega) cl.nil),by simp [sm],?_⟩,by simp only;omega⟩
    simp only
    rw [ab,au,uy,sm,l0,k2,AF]
    grind
   ·rw [if_neg h]
    refine ⟨⟨i+1,rfl,by omega,.inl rfl,j9.append (cl.cons (by omega) cl.nil),by simp [sm],?_⟩,by simp only;omega⟩
    simp only
    rw [ab,au,uy,sm,k2,AF]
    grind
 obtain ⟨r,aq,h1,h2,ab⟩:=this
 unfold rJ IM
 simp only [fL]
 rw [aq]
 simp only [Option.bind_eq_bind,Option.bind_some]
 rw [q7 h1 (by omega),ab]
 rfl
theorem q8 {l:List Int}(h:cl l){k:Nat}(a5:k≤l.length):B k*V (l.drop k)≤V l∧V l<B k*(V (l.drop k)+1):=by
 have h1:=uA a5
 have h2:=mA (h.take k)
 have ab:=m6 (h.take k)
 rw [List.length_take,Nat.min_eq_left a5] at ab
 rw [Int.mul_add,Int.mul_one]
 omega
theorem z7 {l:List Int}{k:Nat}{x:Int}(R:l[k]? = some x)(aV:l.length=k+1):V (l.drop k)=x:=by
 rw [oh R,List.drop_of_length_le (by omega)]
 simp [V]
theorem NB {aT W t d P:Int}(hb:1≤P)(Ev:P*t≤aT)(Ls:aT<P*(t+1))(tq:P*d≤W)(Ew:W<P*(d+1))(bC:0<d)(ca:0≤t)(Lt:aT<1000000000*W):t / (d+1)≤aT / W∧aT / W≤t / d∧aT / W≤999999999:=by
 have hW:0<W:=by
  have:=Int.mul_pos (a:=P) (b:=d) (by omega) bC
  omega
 have cQ:0≤aT:=by
  have:=Int.mul_nonneg (a:=P) (b:=t) (by omega) ca
  omega
 refine ⟨?_,?_,?_⟩
 ·apply (Int.le_ediv_iff_mul_le hW).2
  have h1:t / (d+1)*(d+1)≤t:=Int.ediv_mul_le _ (by omega)
  have h2:0≤t / (d+1):=Int.ediv_nonneg ca (by omega)
  have ab:t / (d+1)*W≤t / (d+1)*(P*(d+1)):=Int.mul_le_mul_of_nonneg_left (by omega) h2
  have au:P*(t / (d+1)*(d+1))≤P*t:=Int.mul_le_mul_of_nonneg_left h1 (by omega)
  have aA:t / (d+1)*(P*(d+1))=P*(t / (d+1)*(d+1)):=by grind
  omega
 ·apply (Int.le_ediv_iff_mul_le bC).2
  have h1:aT / W*W≤aT:=Int.ediv_mul_le _ (by omega)
  have h2:0≤aT / W:=Int.ediv_nonneg cQ (by omega)
  have ab:aT / W*(P*d)≤aT / W*W:=Int.mul_le_mul_of_nonneg_left tq h2
  have au:aT / W*(P*d)=P*(aT / W*d):=by grind
  have aA:P*(aT / W*d)<P*(t+1):=by omega
  have:=Int.lt_of_mul_lt_mul_left aA (by omega)
  omega
 ·have:=Int.ediv_lt_of_lt_mul hW Lt
  omega
theorem PM {a b:Int}:kS a b≤0↔a≤b:=by
 unfold kS
 by_cases h:a<b
 ·simp [h];omega
 ·by_cases h2:b<a
  ·simp [h,h2]
  ·simp [h,h2];omega
theorem sU {a b:Int}:kS a b<0↔a<b:=by
 unfold kS
 by_cases h:a<b
 ·simp [h]
 ·by_cases h2:b<a
  ·simp [h,h2]
  ·simp [h,h2]
theorem Oj {r b:List Int}(aq:fB r)(aP:fB b)(lb:b≠[])(a2:r.length≤1000000)(hm:b.length≤1000000){bQ ao:Int}(h0:0≤bQ)(h1:bQ≤V r / V b)(h2:V r / V b≤ao)(ab:ao≤999999999):CE r b bQ ao=some (V r / V b):=by
 have ju:=s4 aP lb
 have : ∃q,iter (fun w:Int×Int=>tL r b w.1 w.2) (bQ,ao)=some q∧q=V r / V b:=by
  refine jw (eK:=fun w:Int×Int=>0≤w.1∧w.1≤V r / V b∧V r / V b≤w.2∧w.2≤999999999) (m:=fun w:Int×Int=>(w.2-w.1).toNat) _ ?_ _ ⟨h0,h1,h2,ab⟩
  rintro ⟨l,h⟩ ⟨g0,g1,g2,g3⟩
  simp only at g0 g1 g2 g3
  by_cases dC:l<h
  ·have e1:J ((J ((J (l+h))+(1:Int))).tdiv (2:Int))=(l+h+1) / 2:=by
    rw [cr (x:=l+h) (by omega) (by omega),cr (x:=l+h+1) (by omega) (by omega),mW (by omega),cr (by omega) (by omega)]
   have nD:0≤(l+h+1) / 2:=by omega
   have o5:(l+h+1) / 2<1000000000:=by omega
   have Rh:(L ((l+h+1) / 2)).length≤1:=(iT nD).2 (by simpa [B] using o5)
   have e2:tL r b l h=some (.inl (if V b*((l+h+1) / 2)≤V r then ((l+h+1) / 2,h) else (l,(l+h+1) / 2-1))):=by
    unfold tL
    rw [if_pos (by simp [dC]),e1,xv nD (by omega)]
    simp only [Option.bind_eq_bind,Option.bind_some]
    rw [mul_eq aP.1 (gW _) hm (by omega),ef nD]
    simp only [Option.bind_some]
    have aj:0≤V b*((l+h+1) / 2):=Int.mul_nonneg (by omega) nD
    have hlen:(L (V b*((l+h+1) / 2))).length≤b.length+1:=(iT aj).2 (by
     rw [l0]
     have aA:=m6 aP.1
     have:V b*((l+h+1) / 2)≤V b*1000000000:=Int.mul_le_mul_of_nonneg_left (by omega) (by omega)
     omega)
    rw [rU (i9 _) aq (by omega),ef aj]
    simp only [Option.bind_some]
    by_cases ba:V b*((l+h+1) / 2)≤V r
    ·rw [if_pos (by simpa using PM.2 ba),if_pos ba]
    ·rw [if_neg (fun h=>ba (PM.1 (by simpa using h))),if_neg ba,cr (by omega) (by omega)]
   rw [e2]
   refine .inl ⟨_,rfl,?_⟩
   by_cases ba:V b*((l+h+1) / 2)≤V r
   ·rw [if_pos ba]
    have:(l+h+1) / 2≤V r / V b:=(Int.le_ediv_iff_mul_le ju).2 (by rw [Int.mul_comm];exact ba)
    exact ⟨⟨by simp only;omega,this,g2,g3⟩,by simp only;omega⟩
   ·rw [if_neg ba]
    have:V r / V b<(l+h+1) / 2:=(Int.ediv_lt_iff_lt_mul ju).2 (by rw [Int.mul_comm];omega)
    exact ⟨⟨g0,g1,by simp only;omega,by simp only;omega⟩,by simp only;omega⟩
  ·exact .inr ⟨l,by simp [tL,dC],by omega⟩
 obtain ⟨q,a8,rfl⟩:=this
 exact a8
theorem DM {b:List Int}(aP:fB b)(lb:b≠[]): ∃k d,b.length=k+1∧b[k]? = some d∧0<d∧d<1000000000∧V (b.drop k)=d:=by
 have aj:=List.length_pos_iff.mpr lb
 obtain ⟨x,R,h⟩:=Oi lb
 have h1:=h.1 aP
 have h2:=h1.1.get R
 exact ⟨b.length-1,x,by omega,R,by omega,h2.2,z7 R (by omega)⟩
theorem ZP {r b:List Int}(aq:fB r)(aP:fB b)(lb:b≠[])(a2:r.length≤1000000)(hm:b.length≤1000000)(h1:V b≤V r)(h2:V r<1000000000*V b):zr r b=some (V r / V b):=by
 obtain ⟨k,d,a5,bC,si,Ex,yB⟩:=DM aP lb
 have Q9:b.length≤r.length:=Nat.le_of_not_lt fun h=>by
  have:=DA aq aP h
  omega
 have Ra:r.length≤b.length+1:=aq.len.2 (by
  have:=m6 aP.1
  rw [l0]
  omega)
 have tg:=q8 aP.1 (k:=k) (by omega)
 rw [yB] at tg
 have hN:=q8 aq.1 (k:=k) (by omega)
 have R:=List.getElem?_eq_getElem (show k<r.length by omega)
 have kl:=aq.1.get R
 have hw:J ((b.length:Int)-1)=(k:Int):=by rw [cr (by omega) (by omega)];omega
 have mo:=mA (aq.1.drop k)
 have Ey:=NB (ov k) hN.1 hN.2 tg.1 tg.2 si mo h2
 have afl:=mA aq.1
 have hW:=s4 aP lb
 unfold zr
 simp only [fL,hw]
 rw [if_pos (by omega),Int.toNat_natCast,R]
 simp only [Option.bind_eq_bind,Option.bind_some]
 by_cases hlen:b.length<r.length
 ·have a0:=List.getElem?_eq_getElem hlen
  have oO:=aq.1.get a0
  have nF:V (r.drop (k+1))=r[b.length]:=by
   rw [← a5]
   exact z7 a0 (by omega)
  have ca:V (r.drop k)=r[k]+1000000000*r[b.length]:=by rw [oh R,nF]
  rw [ca] at Ey mo
  have lM:0≤(r[k]+1000000000*r[b.length]) / (d+1):=Int.ediv_nonneg mo (by omega)
  have n3:(r[k]+1000000000*r[b.length]) / (d+1)≤r[k]+1000000000*r[b.length]:=Int.ediv_le_self _ mo
  have x9:0≤(r[k]+1000000000*r[b.length]) / d:=Int.ediv_nonneg mo (by omega)
  have ac5:(r[k]+1000000000*r[b.length]) / d≤r[k]+1000000000*r[b.length]:=Int.ediv_le_self _ mo
  rw [if_pos (by simp;omega),if_pos (by omega),Int.toNat_natCast,a0]
  simp only [Option.bind_some]
  rw [if_pos (by omega),bC]
  simp only [Option.bind_some]
  have e1:J (d+1)=d+1:=cr (by omega) (by omega)
  have e2:J (r[k]+J (r[b.length]*1000000000))=r[k]+1000000000*r[b.length]:=by
   rw [cr (x:=r[b.length]*1000000000) (by omega) (by omega),cr (by omega) (by omega),Int.mul_comm]
  rw [e1,if_pos (by omega),if_pos (by omega),e2,mW mo,mW mo,cr (by omega) (by omega),cr (x:=(r[k]+1000000000*r[b.length]) / d) (by omega) (by omega)]
  rw [Oj aq aP lb a2 hm lM Ey.1 (by split<;>omega) (by split<;>omega)]
  rfl
 ·have ca:V (r.drop k)=r[k]:=z7 R (by omega)
  rw [ca] at Ey mo
  have lM:0≤r[k] / (d+1):=Int.ediv_nonneg mo (by omega)
  have n3:r[k] / (d+1)≤r[k]:=Int.ediv_le_self _ mo
  have x9:0≤r[k] / d:=Int.ediv_nonneg mo (by omega)
  have ac5:r[k] / d≤r[k]:=Int.ediv_le_self _ mo
  rw [if_neg (by simp;omega),if_pos (by omega),bC]
  simp only [Option.bind_some]
  have e1:J (d+1)=d+1:=cr (by omega) (by omega)
  rw [e1,if_pos (by omega),if_pos (by omega),mW mo,mW mo,cr (by omega) (by omega),cr (x:=r[k] / d) (by omega) (by omega)]
  rw [Oj aq aP lb a2 hm lM Ey.1 (by split<;>omega) (by split<;>omega)]
  rfl
theorem ZQ {a b:List Int}(bA:fB a)(aP:fB b)(lb:b≠[])(a2:a.length≤900000)(hm:b.length≤900000):
 ∃r,IU a b [] ((a.length:Int)-1) (List.replicate a.length 0)=some r∧r.1=L (V a % V b)∧cl r.2∧r.2.length=a.length∧V r.2=V a / V b:=by
 have ju:=s4 aP lb
 refine jw (eK:=fun w:List Int×Int×List Int=> ∃(k:Nat) (q:List Int),w.2.1=(k:Int)-1∧k≤a.length∧w.2.2=List.replicate k 0++q∧q.length+k=a.length∧cl q∧fB w.1∧V w.1<V b∧V (a.drop k)=V q*V b+V w.1) (m:=fun w:List Int×Int×List Int=>(w.2.1+1).toNat) _ ?_ _ ⟨a.length,[],rfl,by omega,by simp,by simp,cl.nil,fB.nil,by simpa [V] using ju,by simp [V]⟩
 rintro ⟨rest,i,row⟩ ⟨k,q,h1,a5,h2,a8,py,k9,hN,bc⟩
 simp only at h1 h2 k9 hN bc ⊢
 subst h1 h2
 have BL:=mA k9.1
 cases k with
 | zero =>
  simp at bc
  refine .inr ⟨(rest,q),by simp [wJ],?_,py,by simpa using a8,?_⟩
  ·refine s8 k9 ?_
   rw [bc,Int.add_comm,Int.add_mul_emod_self_right]
   exact (Int.emod_eq_of_lt BL hN).symm
  ·rw [bc,Int.add_comm,Int.add_mul_ediv_right _ _ (by omega),Int.ediv_eq_zero_of_lt BL hN]
   simp
 | succ k =>
  have R:=List.getElem?_eq_getElem (show k<a.length by omega)
  have kl:=bA.1.get R
  have sm:rest.length≤b.length:=k9.len.2 (by have:=m6 aP.1;omega)
  have iq:cl (a[k]::rest):=cl.cons kl k9.1
  have Lr:V (a[k]::rest)=a[k]+1000000000*V rest:=k2 _ _
  have oP:0≤a[k]+1000000000*V rest:=by omega
  have afm:(L (a[k]+1000000000*V rest)).length≤b.length+1:=(iT oP).2 (by
   have:=m6 aP.1
   rw [l0]
   omega)
  have bC:=oh R
  have Ks:wJ a b rest (k:Int) (List.replicate (k+1) 0++q)=some (.inl (if a[k]+1000000000*V rest<V b then (L (a[k]+1000000000*V rest),(k:Int)-1,List.replicate (k+1) 0++q) else (L ((a[k]+1000000000*V rest) % V b),(k:Int)-1,(List.replicate (k+1) 0++q).set k ((a[k]+1000000000*V rest) / V b)))):=by
   unfold wJ
   rw [if_pos (by simp),if_pos (by omega),Int.toNat_natCast,R]
   simp only [Option.bind_eq_bind,Option.bind_some,List.singleton_append]
   rw [if_pos (by simp;omega),q7 iq (by simp;omega),Lr]
   simp only [Option.bind_some]
   rw [rU (i9 _) aP (by omega),ef oP]
   simp only [Option.bind_some]
   by_cases ba:a[k]+1000000000*V rest<V b
   ·rw [if_pos (by simpa using sU.2 ba),if_pos ba,pX (by omega)]
   ·rw [if_neg (fun h=>ba (sU.1 (by simpa using h))),if_neg ba]
    have dC:a[k]+1000000000*V rest<1000000000*V b:=by omega
    rw [ZP (i9 _) aP lb (by omega) (by omega) (by rw [ef oP];omega) (by rw [ef oP];exact dC),ef oP]
    simp only [Option.bind_some]
    have lM:0≤(a[k]+1000000000*V rest) / V b:=Int.ediv_nonneg oP (by omega)
    have n3:(a[k]+1000000000*V rest) / V b<1000000000:=Int.ediv_lt_of_lt_mul ju dC
    have afn:(L ((a[k]+1000000000*V rest) / V b)).length≤1:=(iT lM).2 (by simpa [B] using n3)
    have o5:=Int.mul_ediv_add_emod (a[k]+1000000000*V rest) (V b)
    have BM:=Int.emod_nonneg (a[k]+1000000000*V rest) (b:=V b) (by omega)
    have Lu:0≤V b*((a[k]+1000000000*V rest) / V b):=Int.mul_nonneg (by omega) lM
    rw [if_pos (by simp;omega),if_pos (by simp;omega),xv lM (by omega)]
    simp only [Option.bind_some]
    rw [mul_eq aP.1 (gW _) (by omega) (by omega),ef lM]
    simp only [Option.bind_some]
    rw [sub_eq (gW _) (gW _) ((iT Lu).2 (by
     have:=m6 (gW (a[k]+1000000000*V rest))
     rw [ef oP] at this
     omega)) (by rw [ef oP,ef Lu];omega) (by omega),ef oP,ef Lu]
    simp only [Option.bind_some]
    rw [pX (by omega),Nat.zero_add]
    congr 4
    omega
  rw [show ((k+1:Nat):Int)-1=k by omega,Ks]
  refine .inl ⟨_,rfl,?_⟩
  by_cases ba:a[k]+1000000000*V rest<V b
  ·rw [if_pos ba]
   refine ⟨⟨k,0::q,rfl,by omega,?_,by simp;omega,cl.cons (by omega) py,i9 _,by rw [ef oP];exact ba,?_⟩,by simp⟩
   ·simp only
    rw [List.replicate_succ',List.append_assoc];rfl
   ·simp only
    rw [bC,bc,k2,ef oP]
    grind
  ·rw [if_neg ba]
   have dC:a[k]+1000000000*V rest<1000000000*V b:=by omega
   have BM:=Int.emod_nonneg (a[k]+1000000000*V rest) (b:=V b) (by omega)
   refine ⟨⟨k,(a[k]+1000000000*V rest) / V b::q,rfl,by omega,J0 _ _ _,by simp;omega,cl.cons ⟨Int.ediv_nonneg oP (by omega),Int.ediv_lt_of_lt_mul ju dC⟩ py,i9 _,by rw [ef BM];exact Int.emod_lt_of_pos _ ju,?_⟩,by simp⟩
   simp only
   rw [bC,bc,k2,ef BM]
   have o5:=Int.mul_ediv_add_emod (a[k]+1000000000*V rest) (V b)
   generalize (a[k]+1000000000*V rest) / V b=u at *
   generalize (a[k]+1000000000*V rest) % V b=t at *
   grind
theorem div_eq {a b:List Int}(bA:fB a)(aP:fB b)(lb:b≠[])(a2:a.length≤900000)(hm:b.length≤900000):sK a b=some (L (V a / V b),L (V a % V b)):=by
 unfold sK
 simp only [fL]
 by_cases h1:b.length=1
 ·obtain ⟨k,d,a5,bC,si,Ex,yB⟩:=DM aP lb
  have sg:k=0:=by omega
  subst sg
  have Lv:V b=d:=by simpa using yB
  rw [if_pos (by simp [h1]),if_pos (by omega),bC]
  simp only [Option.bind_eq_bind,Option.bind_some]
  have o5:=Int.emod_nonneg (V a) (b:=d) (by omega)
  have BM:=Int.emod_lt_of_pos (V a) si
  rw [ZM bA.1 ⟨si,Ex⟩ (by omega)]
  simp only [Option.bind_some]
  rw [xv o5 (by omega),Lv]
  rfl
 ·obtain ⟨r,aq,e1,e2,bO,c5⟩:=ZQ bA aP lb a2 hm
  rw [if_neg (by simp;omega),if_pos (by omega),pX (by omega),Int.toNat_natCast,aq]
  simp only [Option.bind_eq_bind,Option.bind_some]
  rw [q7 e2 (by omega),c5,e1]
  rfl
theorem Pc {x y:Int}(R:0≤x):Int.gcd y (x % y)=Int.gcd x y:=by
 have:=Nat.gcd_rec y.natAbs x.natAbs
 simp only [Int.gcd]
 rw [Nat.gcd_comm x.natAbs,this,Int.natAbs_emod_of_nonneg R,Nat.gcd_comm]
theorem PN {x:Int}(R:0≤x):(Int.gcd x 0:Int)=x:=by
 rw [Int.gcd_zero_right];omega
theorem ZR {x y:Int}(R:0≤x)(a0:0≤y)(BN:x<9223372036854775808)(BJ:y<9223372036854775808):zp x y=some (L (Int.gcd x y)):=by
 have : ∃r,iter (fun w:Int×Int=>wj w.1 w.2) (x,y)=some r∧(r=(Int.gcd x y:Int)∧r<9223372036854775808):=by
  refine jw (eK:=fun w:Int×Int=>0≤w.1∧0≤w.2∧w.1<9223372036854775808∧w.2<9223372036854775808∧Int.gcd w.1 w.2=Int.gcd x y) (m:=fun w:Int×Int=>w.2.toNat) _ ?_ _ ⟨R,a0,BN,BJ,rfl⟩
  rintro ⟨u,v⟩ ⟨h1,h2,ab,au,aA⟩
  simp only at h1 h2 ab au aA
  by_cases bc:0<v
  ·have aX:=Int.emod_nonneg u (b:=v) (by omega)
   have bb:=Int.emod_lt_of_pos u bc
   refine .inl ⟨(v,u % v),?_,⟨h2,aX,au,by simp only;omega,by rw [← aA];exact Pc h1⟩,by simp only;omega⟩
   unfold wj
   rw [if_pos (by simpa using bc),if_pos (by omega),pC h1]
  ·have ac6:v=0:=by omega
   subst ac6
   refine .inr ⟨u,by simp [wj],?_,ab⟩
   rw [← aA,PN h1]
 obtain ⟨r,aq,rfl,h⟩:=this
 unfold zp Io
 rw [aq]
 simp only [Option.bind_eq_bind,Option.bind_some]
 rw [xv (by omega) h]
 rfl
theorem DN {a:List Int}(bA:fB a)(h:a.length<3):V a<9223372036854775808:=by
 have h1:=m6 bA.1
 have h2:=qs (m:=a.length) (n:=2) (by omega)
 have ab:B 2=1000000000000000000:=by decide
 omega
theorem Qg {a b:List Int}(bA:fB a)(aP:fB b)(a2:a.length≤900000)(hm:b.length≤900000):xf a b=some (L (Int.gcd (V a) (V b))):=by
 have : ∃r,iter (fun w:List Int×List Int=>tR w.1 w.2) (a,b)=some r∧r.elim id id=L (Int.gcd (V a) (V b)):=by
  refine jw (eK:=fun w:List Int×List Int=>fB w.1∧fB w.2∧w.1.length≤900000∧w.2.length≤900000∧Int.gcd (V w.1) (V w.2)=Int.gcd (V a) (V b)) (m:=fun w:List Int×List Int=>(V w.2).toNat) _ ?_ _ ⟨bA,aP,a2,hm,rfl⟩
  rintro ⟨x,y⟩ ⟨h1,h2,ab,au,aA⟩
  simp only at h1 h2 ab au aA ⊢
  have kl:=mA h1.1
  have oO:=mA h2.1
  by_cases a0:y=[]
  ·subst a0
   refine .inr ⟨.inl x,by simp [tR,fL],?_⟩
   rw [← aA,AF,PN kl]
   exact (Ep h1).symm
  ·have ac7:=s4 h2 a0
   have afo:=List.length_pos_iff.mpr a0
   by_cases bV:x.length<3∧y.length<3
   ·refine .inr ⟨.inr (L (Int.gcd (V a) (V b))),?_,rfl⟩
    unfold tR
    simp only [fL]
    rw [if_pos (by simp;omega),if_pos (by simp;omega),if_pos (by simp;omega),NS h1 (by omega) (DN h1 bV.1)]
    simp only [Option.bind_eq_bind,Option.bind_some]
    rw [NS h2 (by omega) (DN h2 bV.2)]
    simp only [Option.bind_some]
    rw [ZR kl oO (DN h1 bV.1) (DN h2 bV.2),aA]
    rfl
   ·have Ez:=Int.emod_nonneg (V x) (b:=V y) (by omega)
    have afp:=Int.emod_lt_of_pos (V x) ac7
    refine .inl ⟨(y,L (V x % V y)),?_,⟨h2,i9 _,au,(iT Ez).2 ?_,?_⟩,?_⟩
    ·unfold tR
     simp only [fL]
     rw [if_pos (by simp;omega),div_eq h1 h2 a0 ab au]
     by_cases vb:x.length<3
     ·rw [if_pos (by simp;omega),if_neg (by simp;omega)]
      rfl
     ·rw [if_neg (by simp;omega)]
      rfl
    ·have:=m6 h2.1
     have:=qs au
     omega
    ·simp only
     rw [ef Ez,← aA]
     exact Pc kl
    ·simp only
     rw [ef Ez]
     omega
 obtain ⟨r,aq,h⟩:=this
 unfold xf IV
 rw [List.nil_append,List.nil_append,if_pos (by omega),if_pos (by omega),aq]
 cases r with
 | inl r=>exact congrArg some h
 | inr r=>exact congrArg some h
def oH (p:Nat)(l:List Int):Prop:= ∀i z,i≠p→l[i]? = some z→0≤z∧z<1000000000
theorem oH.set {p:Nat}{l:List Int}(h:oH p l){k:Nat}{x:Int}(R:0≤x∧x<1000000000):oH p (l.set k x):=fun i z ao cm=>by
 by_cases a5:k=i
 ·subst a5
  rw [List.getElem?_set] at cm
  simp only [if_true] at cm
  split at cm
  ·rw [← Option.some.inj cm];exact R
  ·simp at cm
 ·rw [List.getElem?_set_ne a5] at cm
  exact h i z ao cm
theorem oH.QX {p:Nat}{l:List Int}(h:oH p l){x:Int}:oH p (l.set p x):=fun i z ao cm=>by
 rw [List.getElem?_set_ne (fun h=>ao h.symm)] at cm
 exact h i z ao cm
theorem cl.toE {l:List Int}(h:cl l)(p:Nat):oH p l:=fun _ _ _ cm=>h.get cm
theorem YU {v row:List Int}{bQ mG i:Nat}{iM carry x y:Int}(R:v[i]? = some x)(a0:row[bQ+i]? = some y)(kl:0≤x∧x<1000000000)(oO:0≤y∧y<1000000000)(aP:0≤iM∧iM<1000000000)(ba:0≤carry∧carry<1000000000)(hu:i<mG)(a2:row.length≤5000000):
 ∃c z,tS bQ mG v iM v.length carry i row=some (.inl (c,((i+1:Nat):Int),row.set (bQ+i) z))∧0≤c∧c<1000000000∧0≤z∧z<1000000000∧z-1000000000*c=y-iM*x-carry:=by
 have ao:=fQ R
 have aC:=fQ a0
 obtain ⟨ib,g9⟩:=As aP kl
 have e:J (J (y-J (iM*x))-carry)=y-iM*x-carry:=by
  rw [cr (x:=iM*x) (by omega) (by omega),cr (x:=y-iM*x) (by omega) (by omega),cr (by omega) (by omega)]
 by_cases ca:y-iM*x-carry<0
 ·refine ⟨(999999999-(y-iM*x-carry)) / 1000000000,y-iM*x-carry+(999999999-(y-iM*x-carry)) / 1000000000*1000000000,?_,by omega,by omega,by omega,by omega,by omega⟩
  unfold tS
  rw [if_pos (by simp;omega),if_pos (by omega),Int.toNat_natCast,R]
  simp only [Option.bind_eq_bind,Option.bind_some]
  rw [if_pos (by omega),a0]
  simp only [Option.bind_some,e]
  rw [if_pos (by simpa using ca),if_pos (by omega),nt (n:=i) (by omega),cr (x:=999999999-(y-iM*x-carry)) (by omega) (by omega),mW (by omega),cr (x:=(999999999-(y-iM*x-carry)) / 1000000000) (by omega) (by omega),cr (x:=(999999999-(y-iM*x-carry)) / 1000000000*1000000000) (by omega) (by omega),cr (by omega) (by omega)]
 ·refine ⟨0,y-iM*x-carry,?_,by omega,by omega,by omega,by omega,by omega⟩
  unfold tS
  rw [if_pos (by simp;omega),if_pos (by omega),Int.toNat_natCast,R]
  simp only [Option.bind_eq_bind,Option.bind_some]
  rw [if_pos (by omega),a0]
  simp only [Option.bind_some,e]
  rw [if_neg (by simpa using ca),if_pos (by omega),nt (n:=i) (by omega)]
theorem YV {v row:List Int}{bQ mG:Nat}{iM:Int}(bc:cl v)(aq:cl row)(aP:0≤iM∧iM<1000000000)(hu:v.length<mG)(aV:bQ+v.length<row.length)(a2:row.length≤5000000):
 ∃r,IX bQ mG v iM v.length 0 0 row=some r∧0≤r.1∧r.1<1000000000∧cl r.2∧r.2.length=row.length∧V r.2=V row-iM*B bQ*V v+r.1*B (bQ+v.length)∧ ∀i,i<bQ∨bQ+v.length≤i→r.2[i]? = row[i]? := by
 refine jw (eK:=fun w:Int×Int×List Int=> ∃(i:Nat),w.2.1=(i:Int)∧i≤v.length∧0≤w.1∧w.1<1000000000∧cl w.2.2∧w.2.2.length=row.length∧V w.2.2=V row-iM*B bQ*V (v.take i)+w.1*B (bQ+i)∧ ∀i,i<bQ∨bQ+v.length≤i→w.2.2[i]? = row[i]?) (m:=fun w:Int×Int×List Int=>v.length-w.2.1.toNat) _ ?_ _ ⟨0,rfl,by omega,by simp,by simp,aq,rfl,by simp [V],fun _ _=>rfl⟩
 rintro ⟨carry,ii,fy⟩ ⟨i,h1,ao,mi,mN,j9,hlen,hV,k5⟩
 simp only at h1 mi mN j9 hlen hV k5 ⊢
 subst h1
 by_cases Lw:i=v.length
 ·subst Lw
  exact .inr ⟨(carry,fy),by simp [tS],mi,mN,j9,hlen,by simpa using hV,k5⟩
 ·have R:=List.getElem?_eq_getElem (show i<v.length by omega)
  have a0:=List.getElem?_eq_getElem (show bQ+i<fy.length by omega)
  obtain ⟨c,z,he,dh,br,eY,B7,cm⟩:=YU (mG:=mG) R a0 (bc.get R) (j9.get a0) aP ⟨mi,mN⟩ (by omega) (by omega)
  rw [he]
  refine .inl ⟨_,rfl,⟨i+1,rfl,by omega,dh,br,j9.set ⟨eY,B7⟩,by simpa using hlen,?_,fun k a5=> ?_⟩,by simp;omega⟩
  ·simp only
   rw [rl a0,rR R,hV,← Nat.add_assoc,l0,AE]
   have uZ:z=fy[bQ+i]-iM*v[i]-carry+1000000000*c:=by omega
   rw [uZ]
   grind
  ·simp only
   rw [List.getElem?_set_ne (by omega)]
   exact k5 k a5
theorem aa0 {v row:List Int}{bQ mG:Nat}{iM:Int}(bc:cl v)(aq:cl row)(aP:0≤iM∧iM<1000000000)(hu:v.length<mG)(aV:bQ+v.length<row.length)(a2:row.length≤5000000):
 ∃y dO,zP v iM bQ mG row=some (decide (y<0),dO)∧dO.length=row.length∧oH (bQ+v.length) dO∧dO[bQ+v.length]? = some y∧ -1000000000<y∧y<1000000000∧V dO=V row-iM*B bQ*V v∧ ∀i,i<bQ∨bQ+v.length<i→dO[i]? = row[i]? := by
 obtain ⟨r,hN,dh,br,j9,hlen,hV,k5⟩:=YV bc aq aP hu aV a2
 have R:=List.getElem?_eq_getElem (show bQ+v.length<r.2.length by omega)
 have kl:=j9.get R
 refine ⟨r.2[bQ+v.length]-r.1,r.2.set (bQ+v.length) (r.2[bQ+v.length]-r.1),?_,by simpa using hlen,(cl.toE j9 _).QX,?_,by omega,by omega,?_,fun i ao=> ?_⟩
 ·unfold zP
  simp only [fL]
  rw [hN]
  simp only [Option.bind_eq_bind,Option.bind_some,Int.toNat_natCast]
  rw [if_pos (by omega),R]
  simp only [Option.bind_some]
  rw [if_pos (by omega),cr (by omega) (by omega),List.getElem?_set,if_pos rfl,if_pos (by omega)]
  rfl
 ·rw [List.getElem?_set,if_pos rfl,if_pos (by omega)]
 ·rw [rl R,hV]
  grind
 ·rw [List.getElem?_set_ne (by omega)]
  exact k5 i (by omega)
theorem YW {v row:List Int}{bQ mG:Nat}(bc:cl v)(aq:oH (bQ+v.length) row)(hu:v.length<mG)(aV:bQ+v.length<row.length)(a2:row.length≤5000000):
 ∃r,IY bQ mG v v.length 0 0 row=some r∧0≤r.1∧r.1≤1∧oH (bQ+v.length) r.2∧r.2.length=row.length∧V r.2=V row+B bQ*V v-r.1*B (bQ+v.length)∧ ∀i,i<bQ∨bQ+v.length≤i→r.2[i]? = row[i]? := by
 refine jw (eK:=fun w:Int×Int×List Int=> ∃(i:Nat),w.2.1=(i:Int)∧i≤v.length∧0≤w.1∧w.1≤1∧oH (bQ+v.length) w.2.2∧w.2.2.length=row.length∧V w.2.2=V row+B bQ*V (v.take i)-w.1*B (bQ+i)∧ ∀i,i<bQ∨bQ+v.length≤i→w.2.2[i]? = row[i]?) (m:=fun w:Int×Int×List Int=>v.length-w.2.1.toNat) _ ?_ _ ⟨0,rfl,by omega,by simp,by simp,aq,rfl,by simp [V],fun _ _=>rfl⟩
 rintro ⟨carry,ii,fy⟩ ⟨i,h1,ao,mi,mN,j9,hlen,hV,k5⟩
 simp only at h1 mi mN j9 hlen hV k5 ⊢
 subst h1
 by_cases Lw:i=v.length
 ·subst Lw
  exact .inr ⟨(carry,fy),by simp [wM],mi,mN,j9,hlen,by simpa using hV,k5⟩
 ·have R:=List.getElem?_eq_getElem (show i<v.length by omega)
  have a0:=List.getElem?_eq_getElem (show bQ+i<fy.length by omega)
  have kl:=bc.get R
  have oO:=j9 _ _ (by omega) a0
  have he:wM bQ mG v v.length carry i fy=some (.inl ((fy[bQ+i]+v[i]+carry) / 1000000000,((i+1:Nat):Int),fy.set (bQ+i) ((fy[bQ+i]+v[i]+carry) % 1000000000))):=by
   unfold wM
   rw [if_pos (by simp;omega),if_pos (by omega),Int.toNat_natCast,R]
   simp only [Option.bind_eq_bind,Option.bind_some]
   rw [if_pos (by omega),a0]
   simp only [Option.bind_some]
   rw [if_pos (by omega),cr (x:=fy[bQ+i]+v[i]) (by omega) (by omega),cr (x:=fy[bQ+i]+v[i]+carry) (by omega) (by omega),pC (by omega),mW (by omega),cr (by omega) (by omega),nt (n:=i) (by omega)]
  rw [he]
  refine .inl ⟨_,rfl,⟨i+1,rfl,by omega,by simp only;omega,by simp only;omega,j9.set (by omega),by simpa using hlen,?_,fun k a5=> ?_⟩,by simp;omega⟩
  ·simp only
   rw [rl a0,rR R,hV,← Nat.add_assoc,l0,AE]
   have:=Int.mul_ediv_add_emod (fy[bQ+i]+v[i]+carry) 1000000000
   generalize (fy[bQ+i]+v[i]+carry) / 1000000000=q at *
   generalize (fy[bQ+i]+v[i]+carry) % 1000000000=t at *
   have uZ:t=fy[bQ+i]+v[i]+carry-1000000000*q:=by omega
   rw [uZ]
   grind
  ·simp only
   rw [List.getElem?_set_ne (by omega)]
   exact k5 k a5
theorem aa1 {v row:List Int}{bQ mG:Nat}{y:Int}(bc:cl v)(aq:oH (bQ+v.length) row)(hu:v.length<mG)(aV:bQ+v.length<row.length)(a2:row.length≤5000000)(a0:row[bQ+v.length]? = some y)(oO:-1000000000<y)(BJ:y<1000000000):
 ∃lS dO,xh v bQ mG row=some dO∧dO.length=row.length∧oH (bQ+v.length) dO∧dO[bQ+v.length]? = some lS∧V dO=V row+B bQ*V v∧ ∀i,i<bQ∨bQ+v.length<i→dO[i]? = row[i]? := by
 obtain ⟨r,hN,dh,br,j9,hlen,hV,k5⟩:=YW bc aq hu aV a2
 have R:r.2[bQ+v.length]? = some y:=by rw [k5 _ (by omega)];exact a0
 refine ⟨y+r.1,r.2.set (bQ+v.length) (y+r.1),?_,by simpa using hlen,j9.QX,?_,?_,fun i ao=> ?_⟩
 ·unfold xh
  simp only [fL]
  rw [hN]
  simp only [Option.bind_eq_bind,Option.bind_some,Int.toNat_natCast]
  rw [if_pos (by omega),R]
  simp only [Option.bind_some]
  rw [if_pos (by omega),cr (by omega) (by omega)]
 ·rw [List.getElem?_set,if_pos rfl,if_pos (by omega)]
 ·rw [rl R,hV]
  grind
 ·rw [List.getElem?_set_ne (by omega)]
  exact k5 i (by omega)
theorem ZS {g q v1 v2 top gI rest aT W P:Int}(hb:1≤P)(dD:0≤g)(ca:g*v1+rest=top)(tq:P*(v1*1000000000+v2)≤W)(Ls:aT<P*(top*1000000000+gI+1))(RH:q*W≤aT)(hW:0≤W)(h:rest*1000000000+gI<g*v2):q<g:=by
 apply Int.not_le.mp
 intro tr
 have h1:g*W≤q*W:=Int.mul_le_mul_of_nonneg_right tr hW
 have h2:g*(P*(v1*1000000000+v2))≤g*W:=Int.mul_le_mul_of_nonneg_left tq dD
 have ab:g*(P*(v1*1000000000+v2))=P*(g*(v1*1000000000+v2)):=by grind
 have au:P*(g*(v1*1000000000+v2))<P*(top*1000000000+gI+1):=by omega
 have aA:=Int.lt_of_mul_lt_mul_left au (by omega)
 have aX:g*(v1*1000000000+v2)=1000000000*(g*v1)+g*v2:=by grind
 omega
theorem OJ {g v1 v2 top gI rest aT W P:Int}(hb:1≤P)(dD:0≤g)(ts:g≤999999999)(sn:1≤v1)(BO:0≤v2)(ca:g*v1+rest=top)(tq:P*(v1*1000000000+v2)≤W)(Ew:W<P*(v1*1000000000+v2+1))(Ev:P*(top*1000000000+gI)≤aT)(h:g*v2≤rest*1000000000+gI):g≤aT / W+1:=by
 have BP:P*1000000000≤W:=by
  have h1:P*1000000000≤P*(v1*1000000000+v2):=Int.mul_le_mul_of_nonneg_left (by omega) (by omega)
  omega
 have h1:g*W≤g*(P*(v1*1000000000+v2+1)):=Int.mul_le_mul_of_nonneg_left (by omega) dD
 have h2:g*(P*(v1*1000000000+v2+1))=P*(1000000000*(g*v1)+g*v2+g):=by grind
 have ab:P*(1000000000*(g*v1)+g*v2+g)≤P*(top*1000000000+gI+999999999):=Int.mul_le_mul_of_nonneg_left (by omega) (by omega)
 have au:P*(top*1000000000+gI+999999999)=P*(top*1000000000+gI)+P*999999999:=by grind
 have aA:(g-1)*W=g*W-W:=by grind
 have:g-1≤aT / W:=(Int.le_ediv_iff_mul_le (by omega)).2 (by omega)
 omega
theorem Yj {aa u iy ah:List Int}{N n j:Nat}{v1 v2 gI top aT W P:Int}(a2:2≤n)(Ec:n≤5000000)(BQ:j+n<N)(fN:N≤5000000)(h1:iy[n-1]? = some v1)(h2:iy[n-2]? = some v2)(ab:u[j+n-2]? = some gI)
 (sn:1≤v1∧v1<1000000000) (BO:0≤v2∧v2<1000000000) (afq:0≤gI∧gI<1000000000) (hb:1≤P) (tq:P*(v1*1000000000+v2)≤W) (Ew:W<P*(v1*1000000000+v2+1)) (Ev:P*(top*1000000000+gI)≤aT) (Ls:aT<P*(top*1000000000+gI+1)) (cQ:0≤aT) (Lt:aT<1000000000*W) (mo:0≤top) (afr:top≤v1*1000000000+999999999) (a8:aT / W≤top / v1) :
 ∃g,Jc N n n j aa u iy ah (top / v1) (top % v1)=some g∧(aT / W=g∨aT / W+1=g)∧0≤g∧g≤999999999:=by
 have BP:0<W:=by
  have h1:P*1000000000≤P*(v1*1000000000+v2):=Int.mul_le_mul_of_nonneg_left (by omega) (by omega)
  omega
 have lM:0≤aT / W:=Int.ediv_nonneg cQ (by omega)
 have n3:aT / W<1000000000:=Int.ediv_lt_of_lt_mul BP Lt
 have RH:aT / W*W≤aT:=Int.ediv_mul_le _ (by omega)
 have ac9:=Int.mul_ediv_add_emod top v1
 have nD:=Int.emod_nonneg top (b:=v1) (by omega)
 have o5:=Int.emod_lt_of_pos top (b:=v1) (by omega)
 have KJ:J ((n:Int)-1)=((n-1:Nat):Int):=by rw [cr (by omega) (by omega)];omega
 have abY:J ((n:Int)-2)=((n-2:Nat):Int):=by rw [cr (by omega) (by omega)];omega
 have abZ:J (J ((j:Int)+(n:Int))-2)=((j+n-2:Nat):Int):=by rw [cr (x:=(j:Int)+n) (by omega) (by omega),cr (by omega) (by omega)];omega
 have D4:top / v1≤top:=Int.ediv_le_self _ mo
 refine jw (eK:=fun w:Int×Int=>w.1*v1+w.2=top∧0≤w.2∧w.2<1000000000∧aT / W≤w.1∧w.1≤top) (m:=fun w:Int×Int=>w.1.toNat) _ ?_ _ ⟨by rw [Int.mul_comm];exact ac9,nD,by simp only;omega,a8,D4⟩
 rintro ⟨g,rest⟩ ⟨i1,i2,L0,B1,adR⟩
 simp only at i1 i2 L0 B1 adR ⊢
 have Lx:J (rest+v1)=rest+v1:=cr (by omega) (by omega)
 have Ly:J (g-1)=g-1:=cr (by omega) (by omega)
 have ts:(g-1)*v1+(rest+v1)=top:=by grind
 have Qh:aT / W≤g-1→1000000000≤rest+v1→(aT / W=g-1∨aT / W+1=g-1)∧0≤g-1∧g-1≤999999999:=by
  intro mS li
  have qd:(g-1)*v1<1000000000*v1:=by omega
  have L2:g-1<1000000000:=Int.lt_of_mul_lt_mul_right qd (by omega)
  have Sj:0≤g-1:=by omega
  have afW:=(As ⟨Sj,L2⟩ BO).2
  have:=OJ hb Sj (by omega) sn.1 BO.1 ts tq Ew Ev (by omega)
  omega
 by_cases KK:1000000000≤g
 ·by_cases aP:1000000000≤rest+v1
  ·refine .inr ⟨g-1,?_,Qh (by omega) aP⟩
   unfold tV
   rw [if_pos (by simpa using KK),KJ,if_pos (by omega),Nat.zero_add,Int.toNat_natCast,h1]
   simp only [Option.bind_eq_bind,Option.bind_some,Lx,Ly]
   rw [if_pos (by simpa using aP)]
  ·refine .inl ⟨(g-1,rest+v1),?_,⟨ts,by simp only;omega,by simp only;omega,by simp only;omega,by simp only;omega⟩,by simp only;omega⟩
   unfold tV
   rw [if_pos (by simpa using KK),KJ,if_pos (by omega),Nat.zero_add,Int.toNat_natCast,h1]
   simp only [Option.bind_eq_bind,Option.bind_some,Lx,Ly]
   rw [if_neg (by simpa using aP)]
 ·have iY:0≤g:=by omega
  obtain ⟨ib,g9⟩:=As ⟨iY,by omega⟩ BO
  have e1:J (J (rest*1000000000)+gI)=rest*1000000000+gI:=by rw [cr (x:=rest*1000000000) (by omega) (by omega),cr (by omega) (by omega)]
  have e2:J (g*v2)=g*v2:=cr (by omega) (by omega)
  have Ks:tV N n n j aa u iy ah g rest=some (if rest*1000000000+gI<g*v2 then (if 1000000000≤rest+v1 then .inr (g-1) else .inl (g-1,rest+v1)) else .inr g):=by
   unfold tV
   rw [if_neg (by simpa using KK),abY,if_pos (by omega),Nat.zero_add,Int.toNat_natCast,h2]
   simp only [Option.bind_eq_bind,Option.bind_some]
   rw [abZ,if_pos (by omega),Nat.zero_add,Int.toNat_natCast,ab]
   simp only [Option.bind_some,e1,e2]
   by_cases ba:rest*1000000000+gI<g*v2
   ·rw [if_pos (by simpa using ba),if_pos ba,KJ,if_pos (by omega),Nat.zero_add,Int.toNat_natCast,h1]
    simp only [Option.bind_some,Lx,Ly]
    by_cases aP:1000000000≤rest+v1
    ·rw [if_pos (by simpa using aP),if_pos aP]
    ·rw [if_neg (by simpa using aP),if_neg aP]
   ·rw [if_neg (by simpa using ba),if_neg ba]
  rw [Ks]
  by_cases ba:rest*1000000000+gI<g*v2
  ·have afs:=ZS hb iY i1 tq Ls RH (by omega) ba
   rw [if_pos ba]
   by_cases aP:1000000000≤rest+v1
   ·rw [if_pos aP]
    exact .inr ⟨g-1,rfl,Qh (by omega) aP⟩
   ·rw [if_neg aP]
    exact .inl ⟨(g-1,rest+v1),rfl,⟨ts,by simp only;omega,by simp only;omega,by simp only;omega,by simp only;omega⟩,by simp only;omega⟩
  ·rw [if_neg ba]
   have:=OJ hb iY (by omega) sn.1 BO.1 i1 tq Ew Ev (by omega)
   exact .inr ⟨g,rfl,by omega,by omega,by omega⟩
theorem YX {a b:List Int}{k:Nat}(h:∀i,k≤i→a[i]? = b[i]?):a.drop k=b.drop k:=by
 apply List.ext_getElem?
 intro i
 rw [List.getElem?_drop,List.getElem?_drop]
 exact h _ (by omega)
theorem YY {a b:List Int}{k:Nat}(h:∀i,i<k→a[i]? = b[i]?):a.take k=b.take k:=by
 apply List.ext_getElem?
 intro i
 rw [List.getElem?_take,List.getElem?_take]
 by_cases ao:i<k
 ·rw [if_pos ao,if_pos ao];exact h i ao
 ·rw [if_neg ao,if_neg ao]
theorem RI {u w:List Int}{j n:Nat}{y c:Int}(hlen:w.length=u.length)(BQ:j+n<u.length)(eh:oH (j+n) w)(a0:w[j+n]? = some y)(k5:∀i,i<j∨j+n<i→w[i]? = u[i]?)(h0:V (u.drop (j+n+1))=0)(hV:V w=V u-c*B j):
 V (w.drop j)=V (u.drop j)-c∧ ∃low,0≤low∧low<B n∧V (w.drop j)=low+B n*y:=by
 have h1:=uA (l:=u) (n:=j) (by omega)
 have h2:=uA (l:=w) (n:=j) (by omega)
 rw [YY (a:=w) (b:=u) (fun i ao=>k5 i (.inl ao))] at h2
 have ab:B j*V (w.drop j)=B j*(V (u.drop j)-c):=by grind
 have gU:=ov j
 have au:V (w.drop j)=V (u.drop j)-c:=Int.eq_of_mul_eq_mul_left (by omega) ab
 refine ⟨au,V ((w.drop j).take n),?_,?_,?_⟩
 ·refine mA (fun x R=> ?_)
  obtain ⟨i,ao⟩:=List.mem_iff_getElem?.mp R
  have lN:=fQ ao
  simp at lN
  rw [List.getElem?_take,if_pos (by omega),List.getElem?_drop] at ao
  exact eh _ _ (by omega) ao
 ·have aV:cl ((w.drop j).take n):=fun x R=>by
   obtain ⟨i,ao⟩:=List.mem_iff_getElem?.mp R
   have lN:=fQ ao
   simp at lN
   rw [List.getElem?_take,if_pos (by omega),List.getElem?_drop] at ao
   exact eh _ _ (by omega) ao
  have:=m6 aV
  rwa [List.length_take,Nat.min_eq_left (by simp;omega)] at this
 ·have aA:=uA (l:=w.drop j) (n:=n) (by simp;omega)
  rw [List.drop_drop,oh a0,YX (a:=w) (b:=u) (k:=j+n+1) (fun i ao=>k5 i (.inr (by omega))),h0] at aA
  rw [aA]
  grind
theorem OK {w:List Int}{p:Nat}(eh:oH p w)(a0:w[p]? = some 0):cl w:=fun x R=>by
 obtain ⟨i,ao⟩:=List.mem_iff_getElem?.mp R
 by_cases h:i=p
 ·subst h
  rw [a0] at ao
  have:=Option.some.inj ao
  omega
 ·exact eh i x h ao
theorem Pd {low y X vt W:Int}(h0:0≤low)(h1:low<vt)(EP:X=low+vt*y)(h2:0≤X)(ab:X<W)(au:W≤vt):y=0:=by
 have dC:vt*y<vt*1:=by omega
 have aA:=Int.lt_of_mul_lt_mul_left dC (by omega)
 have Ej:vt*(-1)<vt*y:=by omega
 have aX:=Int.lt_of_mul_lt_mul_left Ej (by omega)
 omega
theorem YZ {aa u iy ah:List Int}{n j:Nat}{v1 W:Int}(a2:2≤n)(Lz:n≤iy.length)(bc:cl (iy.take n))(hW:V (iy.take n)=W)(sn:iy[n-1]? = some v1)(KL:1≤v1)(hu:cl u)(vc:u.length≤5000000)(BQ:j+n<u.length)(dC:V (u.drop (j+1))<W)(aft:j<ah.length):
 ∃pB,tW u.length n n aa iy j u ah=some (.inl ((j:Int)-1,pB,ah.set j (V (u.drop j) / W)))∧cl pB∧pB.length=u.length∧V pB=V u-(V (u.drop j) / W)*B j*W∧V (pB.drop j)<W∧0≤V (u.drop j) / W∧V (u.drop j) / W<1000000000:=by
 obtain ⟨n,rfl⟩ : ∃m,n=m+2:=⟨n-2,by omega⟩
 have pp:(iy.take (n+2)).length=n+2:=by simp;omega
 have ts:(iy.take (n+2))[n+1]? = some v1:=by rw [List.getElem?_take,if_pos (by omega)];exact sn
 have RJ:=List.getElem?_eq_getElem (show n<iy.length by omega)
 have QY:(iy.take (n+2))[n]? = some iy[n]:=by rw [List.getElem?_take,if_pos (by omega)];exact RJ
 have ab0:=bc.get ts
 have ab1:=bc.get QY
 have kl:=List.getElem?_eq_getElem (show j+(n+2)<u.length by omega)
 have BN:=List.getElem?_eq_getElem (show j+(n+1)<u.length by omega)
 have Bq:=List.getElem?_eq_getElem (show j+n<u.length by omega)
 have RK:=List.getElem?_eq_getElem (show j<u.length by omega)
 have lb:=hu.get kl
 have tg:=hu.get BN
 have K6:=hu.get Bq
 have afu:=hu.get RK
 have BR:=q8 bc (k:=n+1) (by omega)
 rw [z7 ts (by omega),hW] at BR
 have LA:=q8 bc (k:=n) (by omega)
 rw [oh QY,z7 ts (by omega),hW] at LA
 have KM:=m6 bc
 rw [pp,hW] at KM
 have afv:0≤W:=by rw [← hW];exact mA bc
 have cm:=q8 (hu.drop (j+1)) (k:=n+2) (by simp;omega)
 rw [List.drop_drop] at cm
 have ada:=mA (hu.drop (j+1+(n+2)))
 have afw:=ov (n+2)
 have h0:V (u.drop (j+(n+2)+1))=0:=by
  rw [show j+(n+2)+1=j+1+(n+2) by omega]
  apply Int.le_antisymm _ ada
  apply Int.not_lt.mp
  intro h
  have:B (n+2)*1≤B (n+2)*V (u.drop (j+1+(n+2))):=Int.mul_le_mul_of_nonneg_left (by omega) (by omega)
  omega
 have mo:V (u.drop (j+(n+2)))=u[j+(n+2)]:=by rw [oh kl,h0];omega
 have D4:V (u.drop (j+(n+1)))=u[j+(n+1)]+1000000000*u[j+(n+2)]:=by rw [oh BN,show j+(n+1)+1=j+(n+2) by omega,mo]
 have iG:V (u.drop (j+n))=u[j+n]+1000000000*(u[j+(n+1)]+1000000000*u[j+(n+2)]):=by rw [oh Bq,show j+n+1=j+(n+1) by omega,D4]
 have hN:=q8 (hu.drop j) (k:=n+1) (by simp;omega)
 rw [List.drop_drop,D4] at hN
 have vd:=q8 (hu.drop j) (k:=n) (by simp;omega)
 rw [List.drop_drop,iG] at vd
 have oP:=mA (hu.drop j)
 have cQ:V (u.drop j)<1000000000*W:=by rw [oh RK];omega
 have adb:=ov n
 have ab2:=ov (n+1)
 have uY:u[j+(n+2)]≤v1:=by
  have h1:=q8 (hu.drop (j+1)) (k:=n+1) (by simp;omega)
  rw [List.drop_drop,show j+1+(n+1)=j+(n+2) by omega,mo] at h1
  have h2:B (n+1)*u[j+(n+2)]<B (n+1)*(v1+1):=by omega
  have:=Int.lt_of_mul_lt_mul_left h2 (by omega)
  omega
 have ab3:=NB ab2 hN.1 hN.2 BR.1 BR.2 (by omega) (by omega) cQ
 obtain ⟨g,dD,tr,ade,afx⟩:=Yj (aa:=aa) (ah:=ah) (N:=u.length) (n:=n+2) (j:=j) (v1:=v1) (v2:=iy[n]) (gI:=u[j+n]) (top:=u[j+(n+1)]+1000000000*u[j+(n+2)]) (aT:=V (u.drop j)) (W:=W) (P:=B n) (u:=u) (iy:=iy) (by omega) (by omega) BQ vc sn RJ Bq ⟨KL,ab0.2⟩ ab1 K6 adb
  (by rw [Int.mul_comm v1,Int.add_comm];exact LA.1) (by rw [Int.mul_comm v1,Int.add_comm (1000000000*v1)];exact LA.2)
  (by rw [Int.mul_comm (u[j+(n+1)]+_),Int.add_comm];exact vd.1) (by rw [Int.mul_comm (u[j+(n+1)]+_),Int.add_comm (1000000000*_) u[j+n]];exact vd.2) oP cQ (by omega) (by omega) ab3.2.1
 have BP:0<W:=by
  have:B (n+1)*1≤B (n+1)*v1:=Int.mul_le_mul_of_nonneg_left (by omega) (by omega)
  omega
 have lM:0≤V (u.drop j) / W:=Int.ediv_nonneg oP (by omega)
 have n3:V (u.drop j) / W<1000000000:=Int.ediv_lt_of_lt_mul BP cQ
 have hm:=Int.mul_ediv_add_emod (V (u.drop j)) W
 have nD:=Int.emod_nonneg (V (u.drop j)) (b:=W) (by omega)
 have o5:=Int.emod_lt_of_pos (V (u.drop j)) BP
 obtain ⟨y,w,ca,RL,EA,EB,oO,BJ,EC,Kd⟩:=aa0 (v:=iy.take (n+2)) (row:=u) (bQ:=j) (mG:=u.length-j) (iM:=g) bc hu ⟨ade,by omega⟩ (by omega) (by omega) vc
 rw [pp] at EA EB Kd
 rw [hW] at EC
 obtain ⟨vb,low,nc,ED,sf⟩:=RI (c:=g*W) RL BQ EA EB Kd h0 (by rw [EC];grind)
 have adf:J ((j:Int)-1)=(j:Int)-1:=pX (by omega)
 have e1:J ((j:Int)+((n+2:Nat):Int))=((j+(n+2):Nat):Int):=by rw [cr (by omega) (by omega)];omega
 have e2:J (((j+(n+2):Nat):Int)-1)=((j+(n+1):Nat):Int):=by rw [cr (by omega) (by omega)];omega
 have bO:J (((n+2:Nat):Int)-1)=((n+1:Nat):Int):=by rw [cr (by omega) (by omega)];omega
 have c5:J (J (u[j+(n+2)]*1000000000)+u[j+(n+1)])=u[j+(n+1)]+1000000000*u[j+(n+2)]:=by
  rw [cr (x:=u[j+(n+2)]*1000000000) (by omega) (by omega),cr (by omega) (by omega)];omega
 have dg:0≤u[j+(n+1)]+1000000000*u[j+(n+2)]:=by omega
 have dU:(u[j+(n+1)]+1000000000*u[j+(n+2)]) / v1≤u[j+(n+1)]+1000000000*u[j+(n+2)]:=Int.ediv_le_self _ dg
 have eE:0≤(u[j+(n+1)]+1000000000*u[j+(n+2)]) / v1:=Int.ediv_nonneg dg (by omega)
 have ab4:iy[n+1]? = some v1:=sn
 have pre:tW u.length (n+2) ((n+2:Nat):Int) aa iy j u ah =
  (if (decide (y<0))=true then
    xh (iy.take (n+2)) j (u.length-j) w >>= fun km=>some (.inl ((j:Int)-1,km,ah.set j (J (g-1))))
  else some (.inl ((j:Int)-1,w,ah.set j g))):=by
  unfold tW
  rw [if_pos (by simp)]
  simp only [e1,e2,bO,Int.toNat_natCast,Nat.zero_add,adf]
  rw [if_pos (by omega),kl]
  simp only [Option.bind_eq_bind,Option.bind_some]
  rw [if_pos (by omega),BN]
  simp only [Option.bind_some]
  rw [if_pos (by omega),ab4]
  simp only [Option.bind_some]
  rw [if_pos (by omega),c5,mW dg,pC dg,cr (by omega) (by omega),dD]
  simp only [Option.bind_some]
  rw [if_pos (by omega),if_pos (by omega),if_pos (by omega),List.drop_zero,ca]
  simp only [Option.bind_some]
  by_cases a0:y<0
  ·have bC:(decide (y<0))=true:=by simpa using a0
   simp only [if_pos bC]
   congr 1
   funext r
   rw [if_pos (by omega),if_pos (by omega)]
  ·have bC : ¬(decide (y<0))=true:=by simpa using a0
   simp only [if_neg bC]
   rw [if_pos (by omega),if_pos (by omega)]
 rcases tr with tr|tr
 ·subst tr
  have EP:V (w.drop j)=V (u.drop j) % W:=by rw [vb];grind
  have a0:y=0:=Pd (W:=W) nc ED sf (by rw [EP];exact nD) (by rw [EP];exact o5) (Int.le_of_lt KM)
  subst a0
  refine ⟨w,?_,OK EA EB,RL,EC,by omega,lM,n3⟩
  rw [pre]
  rfl
 ·have EP:V (w.drop j)=V (u.drop j) % W-W:=by rw [vb,← tr];grind
  have a0:y<0:=by
   apply Int.not_le.mp
   intro h
   have:0≤B (n+2)*y:=Int.mul_nonneg (by omega) h
   omega
  obtain ⟨lS,bJ,ny,ae0,KN,KO,QZ,PO⟩:=aa1 (v:=iy.take (n+2)) (row:=w) (bQ:=j) (mG:=u.length-j) (y:=y) bc (by rw [pp];exact EA) (by omega) (by omega) (by omega) (by rw [pp];exact EB) oO BJ
  rw [pp] at KN KO PO
  rw [hW] at QZ
  have RM:V bJ=V u-V (u.drop j) / W*B j*W:=by rw [QZ,EC,← tr];grind
  obtain ⟨ab5,ae1,ab6,ab7,ab8⟩:=RI (c:=V (u.drop j) / W*W) (by omega) BQ KN KO (fun i ao=>by rw [PO i ao,Kd i ao]) h0 (by rw [RM];grind)
  have RN:V (bJ.drop j)=V (u.drop j) % W:=by rw [ab5];grind
  have nF:lS=0:=Pd (W:=W) ab6 ab7 ab8 (by rw [RN];exact nD) (by rw [RN];exact o5) (Int.le_of_lt KM)
  subst nF
  refine ⟨bJ,?_,OK KN KO,by omega,RM,by omega,lM,n3⟩
  rw [pre,if_pos (by simpa using a0),ny]
  simp only [Option.bind_eq_bind,Option.bind_some]
  rw [cr (by omega) (by omega),show g-1=V (u.drop j) / W by omega]
theorem Y0 {aa iy u:List Int}{n m:Nat}{v1 W:Int}(a2:2≤n)(Lz:n≤iy.length)(bc:cl (iy.take n))(hW:V (iy.take n)=W)(sn:iy[n-1]? = some v1)(KL:1≤v1)(hu:cl u)(vc:u.length≤5000000)(hm:m+n=u.length)(dC:V (u.drop m)<W):
 ∃r,Jd u.length n n aa iy ((m:Int)-1) u (List.replicate m 0)=some r∧cl r.1∧r.1.length=u.length∧V r.1<W∧cl r.2∧r.2.length=m∧V u=V r.2*W+V r.1:=by
 refine jw (eK:=fun w:Int×List Int×List Int=> ∃(k:Nat) (q:List Int),w.1=(k:Int)-1∧k≤m∧cl w.2.1∧w.2.1.length=u.length∧w.2.2=List.replicate k 0++q∧q.length+k=m∧cl q∧V (w.2.1.drop k)<W∧V u=V w.2.1+B k*V q*W) (m:=fun w:Int×List Int×List Int=>(w.1+1).toNat) _ ?_ _ ⟨m,[],rfl,by omega,hu,rfl,by simp,by simp,cl.nil,dC,by simp [V]⟩
 rintro ⟨adQ,pB,ah⟩ ⟨k,q,h1,a5,n4,hlen,ab,a8,py,KP,hV⟩
 simp only at h1 n4 hlen ab KP hV ⊢
 subst h1 ab
 cases k with
 | zero =>
  refine .inr ⟨(pB,q),by simp [tW],n4,hlen,by simpa using KP,py,by simpa using a8,?_⟩
  rw [hV]
  simp [B]
  omega
 | succ k =>
  obtain ⟨afy,he,s1,s2,vk,adS,adT,adU⟩:=YZ (aa:=aa) (iy:=iy) (u:=pB) (ah:=List.replicate (k+1) 0++q) (j:=k) a2 Lz bc hW sn KL n4 (by omega) (by omega) KP (by simp;omega)
  rw [hlen] at he
  rw [show ((k+1:Nat):Int)-1=k by omega,he]
  refine .inl ⟨_,rfl,⟨k,V (pB.drop k) / W::q,rfl,by omega,s1,s2.trans hlen,J0 _ _ _,by simp;omega,cl.cons ⟨adT,adU⟩ py,adS,?_⟩,by simp only;omega⟩
  simp only
  rw [hV,vk,k2,l0]
  grind
theorem ZT {a:List Int}(h:a.length≤900000):Af a=some a:=by
 unfold Af
 rw [if_pos (by omega)]
theorem Yk {a b q s:Int}(h:a=q*b+s)(h0:0≤s)(h1:s<b):a / b=q∧a % b=s:=by
 subst h
 constructor
 ·rw [Int.add_comm,Int.add_mul_ediv_right _ _ (by omega),Int.ediv_eq_zero_of_lt h0 h1]
  omega
 ·rw [Int.add_comm,Int.add_mul_emod_self_right]
  exact Int.emod_eq_of_lt h0 h1
theorem aau {a b:List Int}(bA:fB a)(aP:fB b)(lb:b≠[])(a2:a.length≤900000)(hm:b.length≤900000):xn a b=some (L (V a / V b),L (V a % V b)):=by
 have ju:=s4 aP lb
 have Eb:=mA bA.1
 unfold xn
 simp only [fL]
 rw [Of bA aP (by omega)]
 simp only [Option.bind_eq_bind,Option.bind_some]
 by_cases ba:V a<V b
 ·rw [if_pos (by simpa using sU.2 ba),ZT a2,Int.ediv_eq_zero_of_lt Eb ba,Int.emod_eq_of_lt Eb ba,qt,Ep bA]
  rfl
 ·rw [if_neg (fun h=>ba (sU.1 (by simpa using h)))]
  obtain ⟨k,d,a5,bC,si,Ex,yB⟩:=DM aP lb
  by_cases h1:b.length=1
  ·have sg:k=0:=by omega
   subst sg
   have Lv:V b=d:=by simpa using yB
   rw [if_pos (by simp [h1]),if_pos (by omega),bC]
   simp only [Option.bind_some]
   have o5:=Int.emod_nonneg (V a) (b:=d) (by omega)
   have BM:=Int.emod_lt_of_pos (V a) si
   rw [NA bA.1 ⟨si,Ex⟩ (by omega)]
   simp only [Option.bind_some]
   rw [AJ o5 (by omega),Jq o5 (by omega),Lv]
   rfl
  ·have hw:J ((b.length:Int)-1)=(k:Int):=by rw [cr (by omega) (by omega)];omega
   have e1:J (d+1)=d+1:=cr (by omega) (by omega)
   have yC:1≤1000000000 / (d+1):=by
    apply (Int.le_ediv_iff_mul_le (by omega)).2
    omega
   have BS:1000000000 / (d+1)<1000000000:=by
    apply Int.ediv_lt_of_lt_mul (by omega)
    omega
   have adg:1000000000 / (d+1)*(d+1)≤1000000000:=Int.ediv_mul_le _ (by omega)
   have e2:J ((1000000000:Int).tdiv (d+1))=1000000000 / (d+1):=by rw [mW (by omega),cr (by omega) (by omega)]
   rw [if_neg (by simp;omega),hw,if_pos (by omega),Int.toNat_natCast,bC]
   simp only [Option.bind_some,e1,e2]
   generalize 1000000000 / (d+1)=f at *
   rw [if_pos (by omega)]
   have jB:cl [f]:=cl.cons (by omega) cl.nil
   have adh:V [f]=f:=by simp [V]
   have adi:a≠[]:=by
    intro h
    subst h
    simp [V] at ba
    omega
   obtain ⟨lU,vu,adj,afz,adk,EE,afA⟩:=Oh bA.1 jB adi (by simp) (by omega) (by simp)
   obtain ⟨B8,iy,adl,afB,adm,LB,afC⟩:=Oh aP.1 jB lb (by simp) (by omega) (by simp)
   rw [adh] at EE LB
   rw [adj]
   simp only [Option.bind_some]
   simp only [List.length_singleton] at adk adm
   have afD:=ov k
   have adn:V b*f<B b.length:=by
    have h2:=(q8 aP.1 (k:=k) (by omega)).2
    rw [yB] at h2
    have ab:V b*f≤(B k*(d+1)-1)*f:=Int.mul_le_mul_of_nonneg_right (by omega) (by omega)
    have au:(B k*(d+1)-1)*f=B k*(f*(d+1))-f:=by grind
    have aA:B k*(f*(d+1))≤B k*1000000000:=Int.mul_le_mul_of_nonneg_left adg (by omega)
    rw [a5,l0]
    omega
   have afE:V b≤V b*f:=by
    have:V b*1≤V b*f:=Int.mul_le_mul_of_nonneg_left yC (by omega)
    omega
   have afF:V a≤V a*f:=by
    have:V a*1≤V a*f:=Int.mul_le_mul_of_nonneg_left yC (by omega)
    omega
   have LC:0≤V b*f:=by omega
   have RO:0≤V a*f:=by omega
   have RP:B8=b.length:=by
    have h2:(iy.take B8).length=B8:=by simp;omega
    rw [LB] at h2
    have ab:=(iT LC (k:=b.length)).2 adn
    have au:=D3 aP lb
    have aA : ¬(L (V b*f)).length≤b.length-1:=fun h=>by
     have:=(iT LC).1 h
     omega
    omega
   have ado:(L (V a*f)).length=lU:=by rw [← EE];simp;omega
   have Q0:=m6 (gW (V a*f))
   rw [ef RO,ado] at Q0
   have ae2:a.length≤lU:=bA.len.2 (by omega)
   have afG:b.length≤a.length:=Nat.le_of_not_lt fun h=>by
    have:=DA bA aP h
    omega
   rw [if_pos (by omega),if_pos (by simp;omega),adl]
   simp only [Option.bind_some]
   have vc:(vu.take lU++[0]).length=lU+1:=by simp;omega
   have adp:C1 a B8 [f] iy (vu.take lU++[0])=some (vu.take lU++[0]):=by
    unfold C1
    rw [iter]
    unfold CB
    simp only [fL,vc]
    rw [if_neg (by simp;omega)]
    rfl
   rw [adp]
   simp only [Option.bind_some,vc]
   have l5:J (((lU+1:Nat):Int)-((B8:Nat):Int))=((lU+1-b.length:Nat):Int):=by rw [cr (by omega) (by omega)];omega
   rw [l5,if_pos (by omega),pX (by omega),Int.toNat_natCast]
   have QE:cl (vu.take lU++[0]):=by
    rw [EE]
    exact (gW _).append (cl.cons (by omega) cl.nil)
   have RQ:V (vu.take lU++[0])=V a*f:=by
    rw [uy,EE,ef RO]
    simp [V]
   have Ke:iy.take b.length=L (V b*f):=by rw [← RP];exact LB
   have adq:V (iy.take b.length)=V b*f:=by rw [Ke,ef LC]
   obtain ⟨d4,adV,oJ,pZ,ae3,ae4,ae5⟩:=DM (i9 (V b*f)) (fun h=>by have:=s5.1 h;omega)
   rw [← Ke] at oJ pZ
   have pp:(iy.take b.length).length=b.length:=by simp;omega
   have Bv:iy[b.length-1]? = some adV:=by
    rw [List.getElem?_take] at pZ
    rw [show b.length-1=d4 by omega]
    split at pZ
    ·exact pZ
    ·simp at pZ
   have ab9:V ((vu.take lU++[0]).drop (lU+1-b.length))<V b*f:=by
    have h2:=(q8 QE (k:=lU+1-b.length) (by omega)).1
    rw [RQ] at h2
    have ab:=D3 aP lb
    have au:B lU=B (lU+1-b.length)*B (b.length-1):=by rw [← AE];congr 1;omega
    rw [au] at Q0
    have aA:B (lU+1-b.length)*V ((vu.take lU++[0]).drop (lU+1-b.length))<B (lU+1-b.length)*B (b.length-1):=by omega
    have:=Int.lt_of_mul_lt_mul_left aA (by have:=ov (lU+1-b.length);omega)
    omega
   obtain ⟨r,aq,r1,r2,bd,bh,aK,cc⟩:=Y0 (aa:=[f]) (m:=lU+1-b.length) (by omega) (by omega) (by rw [Ke];exact gW _) adq Bv (by omega) QE (by omega) (by omega) ab9
   rw [vc] at aq r2
   rw [RP,aq]
   simp only [Option.bind_some]
   rw [if_pos (by omega),List.drop_zero,List.take_of_length_le (by omega),xD r1 (by omega)]
   simp only [Option.bind_some]
   have BL:=mA r1
   rw [RQ] at cc
   have bV:V r.1=(V a-V r.2*V b)*f:=by grind
   have adr:0≤V a-V r.2*V b:=by
    apply Int.not_lt.mp
    intro h
    have:(V a-V r.2*V b)*f≤(-1)*f:=Int.mul_le_mul_of_nonneg_right (by omega) (by omega)
    omega
   have vb:V a-V r.2*V b<V b:=by
    apply Int.lt_of_mul_lt_mul_right (a:=f) _ (by omega)
    omega
   obtain ⟨q1,q2⟩:=Yk (a:=V a) (b:=V b) (q:=V r.2) (s:=V a-V r.2*V b) (by omega) adr vb
   rw [if_pos (by simp)]
   simp only [List.getElem?_cons_zero,Option.bind_some]
   have LD:(L (V r.1)).length≤lU+1:=(iT BL).2 (by have:=m6 r1;rwa [r2] at this)
   rw [NA (gW _) ⟨by omega,BS⟩ (by omega),ef BL]
   simp only [Option.bind_some]
   rw [xD bh (by omega)]
   simp only [Option.bind_some]
   rw [q1,q2,bV,Int.mul_ediv_cancel _ (by omega)]
def gR (n:Int):bm:=⟨decide (n<0),L n.natAbs⟩
def ea (neg:Bool)(a:Int):Int:=if neg then -a else a
def mk (p:Int×Int):aL:=⟨gR p.1,L p.2⟩
def LF:aL:=⟨⟨false,[]⟩,[]⟩
def enc:Option (Int×Int)→aL
 | none=>LF
 | some p=>mk p
structure Fr (p:Int×Int):Prop where
 pos:0<p.2
 RR:Int.gcd p.1 p.2=1
 num:(p.1.natAbs:Int)<B 24
 den:p.2<B 24
theorem Pe {n:Int}:(gR n).cw=L n.natAbs:=rfl
theorem Pf {n:Int}:(gR n).cJ=decide (n<0):=rfl
theorem OL {n:Int}(h:0≤n):decide ((0:Int)<((L n).length:Nat))=decide (0<n):=by
 apply decide_eq_decide.2
 by_cases h1:0<n
 ·have:(L n)≠[]:=fun h2=>by have:=s5.1 h2;omega
  have:=List.length_pos_iff.mpr this
  omega
 ·have:n=0:=by omega
  subst this
  simp [qt]
theorem KQ {n:Int}(h:0≤n):(((L n).length:Nat):Int)=0↔n=0:=by
 constructor
 ·intro h1
  have:L n=[]:=List.eq_nil_of_length_eq_zero (by omega)
  have:=s5.1 this
  omega
 ·rintro rfl
  simp [qt]
theorem Kf {neg:Bool}{a:Int}(h:0≤a):((ea neg a).natAbs:Int)=a:=by
 unfold ea
 cases neg<;>simp<;>omega
theorem PP {neg:Bool}{a:Int}(h:0≤a):(⟨neg && decide (0<a),L a⟩:bm)=gR (ea neg a):=by
 unfold gR
 rw [Kf h]
 congr 1
 unfold ea
 cases neg
 ·simp;omega
 ·simp
theorem aa2 {a:Int}(h:0≤a)(qb:a<B 60):xd (L a)=some (L a):=by
 have aV:=(iT h).2 qb
 unfold xd
 rw [q7 (gW _) (by omega),ef h]
 simp only [Option.bind_eq_bind,Option.bind_some,fL]
 rw [if_neg (by simp;omega)]
theorem pN {neg:Bool}{a:Int}(h:0≤a)(qb:a<B 60):hI neg (L a)=some (gR (ea neg a)):=by
 have aV:=(iT h).2 qb
 unfold hI
 rw [aa2 h qb]
 simp only [Option.bind_eq_bind,Option.bind_some,fL,List.nil_append]
 have ba:(L a).length*8≤140737488355328:=by omega
 rw [← PP h,← OL h]
 cases neg<;>simp [ba]
theorem rN {neg:Bool}{a:Int}(h:0≤a):mY neg (L a)=some (gR (ea neg a)):=by
 unfold mY
 rw [← PP h,fL,OL h]
 cases neg<;>simp
theorem Qi {a b:Int}:ea (!(decide (a<0) == decide (b<0))) ((a.natAbs:Int)*(b.natAbs:Int))=a*b:=by
 unfold ea
 by_cases bA:a<0
 ·have e1:(a.natAbs:Int) = -a:=by omega
  by_cases aP:b<0
  ·have e2:(b.natAbs:Int) = -b:=by omega
   rw [e1,e2]
   simp [bA,aP,Int.neg_mul,Int.mul_neg]
  ·have e2:(b.natAbs:Int)=b:=by omega
   rw [e1,e2]
   simp [bA,aP,Int.neg_mul,Int.mul_neg]
 ·have e1:(a.natAbs:Int)=a:=by omega
  by_cases aP:b<0
  ·have e2:(b.natAbs:Int) = -b:=by omega
   rw [e1,e2]
   simp [bA,aP,Int.neg_mul,Int.mul_neg]
  ·have e2:(b.natAbs:Int)=b:=by omega
   rw [e1,e2]
   simp [bA,aP,Int.neg_mul,Int.mul_neg]
theorem Ag {a b:Int}:ea (decide (a<0)) ((a.natAbs:Int)*b)=a*b:=by
 unfold ea
 by_cases bA:a<0
 ·have e1:(a.natAbs:Int) = -a:=by omega
  rw [e1]
  simp [bA,Int.neg_mul,Int.mul_neg]
 ·have e1:(a.natAbs:Int)=a:=by omega
  rw [e1]
  simp [bA,Int.neg_mul,Int.mul_neg]
theorem Pg {a c:Int}:kS (-c) (-a)=kS a c:=by
 unfold kS
 by_cases h:a<c
 ·have : -c < -a:=by omega
  simp [h,this]
 ·by_cases h2:c<a
  ·have ab : ¬ -c < -a:=by omega
   have au : -a < -c:=by omega
   simp [h,h2,ab,au]
  ·have ab : ¬ -c < -a:=by omega
   have au : ¬ -a < -c:=by omega
   simp [h,h2,ab,au]
theorem Y1 {a c:Int}(bA:(L a.natAbs).length≤5000000)(ba:(L c.natAbs).length≤5000000):zM (gR a) (gR c)=some (kS a c):=by
 unfold zM
 simp only [Pf,Pe,decide_eq_true_eq]
 by_cases h1:a<0
 ·by_cases h2:c<0
  ·rw [if_pos h1,if_pos h2,rU (i9 _) (i9 _) ba,ef (by omega),ef (by omega),show (c.natAbs:Int) = -c by omega,show (a.natAbs:Int) = -a by omega,Pg]
   rfl
  ·rw [if_pos h1,if_neg h2]
   unfold kS
   rw [if_pos (by omega)]
 ·by_cases h2:c<0
  ·rw [if_neg h1,if_pos h2]
   unfold kS
   rw [if_neg (by omega),if_pos (by omega)]
  ·rw [if_neg h1,if_neg h2,rU (i9 _) (i9 _) bA,ef (by omega),ef (by omega)]
   show some (kS _ _)=_
   congr 2<;>omega
theorem VQ {a c:Int}(bA:(L a.natAbs).length≤5000000)(ba:(L c.natAbs).length≤5000000):rC (gR a) (gR c)=some (kS a c):=by
 have bV:rC (gR a) (gR c)=if (decide (a<0) == decide (c<0))=true then (if decide (a<0)=true then (qf (L c.natAbs) (L a.natAbs)).bind (fun r=>some r) else (qf (L a.natAbs) (L c.natAbs)).bind (fun r=>some r)) else if decide (a<0)=true then some (-1) else some 1:=rfl
 rw [bV,Xr]
 by_cases h1:a<0
 ·by_cases h2:c<0
  ·rw [if_pos (by simp [h1,h2]),if_pos (by simpa using h1),rU (i9 _) (i9 _) ba,ef (by omega),ef (by omega),show (c.natAbs:Int) = -c by omega,show (a.natAbs:Int) = -a by omega,Pg]
   rfl
  ·rw [if_neg (by simp [h1,h2]),if_pos (by simpa using h1)]
   unfold kS
   rw [if_pos (by omega)]
 ·by_cases h2:c<0
  ·rw [if_neg (by simp [h1,h2]),if_neg (by simpa using h1)]
   unfold kS
   rw [if_neg (by omega),if_pos (by omega)]
  ·rw [if_pos (by simp [h1,h2]),if_neg (by simpa using h1),rU (i9 _) (i9 _) bA,ef (by omega),ef (by omega),show (c.natAbs:Int)=c by omega,show (a.natAbs:Int)=a by omega]
   rfl
def fits (x:Int):Prop:=x<B 24
noncomputable instance (x:Int):Decidable (fits x):=Classical.propDecidable _
noncomputable def low (n d:Int):Option (Int×Int) :=
 if fits ((n / (Int.gcd n d:Int)).natAbs:Int)∧fits (d / (Int.gcd n d:Int)) then some (n / (Int.gcd n d:Int),d / (Int.gcd n d:Int)) else none
theorem J1 {n d:Int}(h:0<d):(0:Int)<Int.gcd n d:=by
 have:Int.gcd n d≠0:=by
  rw [Ne,Int.gcd_eq_zero_iff]
  omega
 omega
theorem aav {n d:Int}(h:0<d): ∃m e,n / (Int.gcd n d:Int)=m∧d / (Int.gcd n d:Int)=e∧n=Int.gcd n d*m∧d=Int.gcd n d*e∧0<e∧(n.natAbs:Int) / (Int.gcd n d:Int)=m.natAbs:=by
 have dD:=J1 (n:=n) h
 obtain ⟨m,hm⟩:=Int.gcd_dvd_left (a:=n) (b:=d)
 obtain ⟨e,he⟩:=Int.gcd_dvd_right (a:=n) (b:=d)
 refine ⟨m,e,?_,?_,hm,he,?_,?_⟩
 ·conv=>lhs;lhs;rw [hm]
  exact Int.mul_ediv_cancel_left _ (by omega)
 ·conv=>lhs;lhs;rw [he]
  exact Int.mul_ediv_cancel_left _ (by omega)
 ·apply Int.not_le.mp
  intro h1
  have:(Int.gcd n d:Int)*e≤Int.gcd n d*0:=Int.mul_le_mul_of_nonneg_left h1 (by omega)
  omega
 ·have e1:(n.natAbs:Int)=Int.gcd n d*m.natAbs:=by
   conv=>lhs;rw [hm]
   rw [Int.natAbs_mul]
   simp
  rw [e1]
  exact Int.mul_ediv_cancel_left _ (by omega)
theorem At {a:Int}(h:0≤a):qh (L a)=some (decide (a=1)):=by
 unfold qh
 simp only [fL]
 by_cases h1:(L a).length=1
 ·have h2:=(iT (k:=1) h).1 (by omega)
  have ab:0<a:=by
   apply Int.not_le.mp
   intro au
   rw [QD au] at h1
   simp at h1
  have aA:a<1000000000:=by simpa [B] using h2
  rw [JY ⟨ab,aA⟩]
  by_cases aX:a=1<;>simp [aX]
 ·rw [if_neg (by simp;omega)]
  have:a≠1:=by
   rintro rfl
   rw [JY (by omega)] at h1
   simp at h1
  simp [this]
theorem PQ {n d:Int}(h:0≤d):Int.gcd (n.natAbs:Int) d=Int.gcd n d:=by
 simp [Int.gcd]
theorem Kg:B 24≤B 60:=qs (by omega)
theorem JA {neg:Bool}{m e:Int}(hm:0≤m)(he:0≤e):(if (decide ((24:Int)<((L m).length:Nat)))=true then some LF else if (decide ((24:Int)<((L e).length:Nat)))=true then some LF else hI neg (L m) >>= fun r=>if (([]:List Int)++L e).length*8≤140737488355328 then some (⟨r,([]:List Int)++L e⟩:aL) else none) =
 some (enc (if fits m∧fits e then some (ea neg m,e) else none)):=by
 by_cases h1:fits m
 ·have h2:=(iT hm).2 h1
  rw [if_neg (by simp;omega)]
  by_cases ab:fits e
  ·have au:=(iT he).2 ab
   have:=Kg
   unfold fits at h1
   rw [if_neg (by simp;omega),pN hm (by omega),if_pos ⟨h1,ab⟩]
   simp only [Option.bind_eq_bind,Option.bind_some]
   rw [if_pos (by simp;omega)]
   rfl
  ·have au : ¬(L e).length≤24:=fun h=>ab ((iT he).1 h)
   rw [if_pos (by simp;omega),if_neg (fun h=>ab h.2)]
   rfl
 ·have au : ¬(L m).length≤24:=fun h=>h1 ((iT hm).1 h)
  rw [if_pos (by simp;omega),if_neg (fun h=>h1 h.1)]
  rfl
theorem aa3 {neg:Bool}{p m g:Int}(aj:0≤p)(dD:0<g)(hm:ea neg p=g*m):ea neg (m.natAbs:Int)=m:=by
 unfold ea at hm ⊢
 cases neg
 ·simp at hm ⊢
  have:0≤m:=by
   apply Int.not_lt.mp
   intro h1
   have:g*m≤g*(-1):=Int.mul_le_mul_of_nonneg_left (by omega) (by omega)
   omega
  omega
 ·simp at hm ⊢
  have:m≤0:=by
   apply Int.not_lt.mp
   intro h1
   have:g*1≤g*m:=Int.mul_le_mul_of_nonneg_left (by omega) (by omega)
   omega
  omega
theorem JB {neg:Bool}{p q:Int}(aj:0≤p)(a8:0<q)(RS:(L p).length≤900000)(py:(L q).length≤900000):nO neg (L p) (L q)=some (enc (low (ea neg p) q)):=by
 obtain ⟨m,e,h1,h2,ab,au,aA,aX⟩:=aav (n:=ea neg p) a8
 have pu:=aa3 aj (J1 (n:=ea neg p) a8) ab
 rw [Kf aj] at aX
 have dD:Int.gcd p q=Int.gcd (ea neg p) q:=by rw [← PQ (n:=ea neg p) (by omega),Kf aj]
 have afH:=J1 (n:=ea neg p) a8
 unfold nO
 rw [q7 (gW _) (by omega),ef aj]
 simp only [Option.bind_eq_bind,Option.bind_some]
 rw [q7 (gW _) (by omega),ef (by omega)]
 simp only [Option.bind_some,fL]
 have lM : ¬((((L q).length:Nat):Int) == 0)=true:=by
  simp only [beq_iff_eq]
  intro h
  have:=(KQ (n:=q) (by omega)).1 h
  omega
 rw [if_neg lM,At (by omega)]
 simp only [Option.bind_some]
 have AX:low (ea neg p) q=if fits (m.natAbs:Int)∧fits e then some (ea neg (m.natAbs:Int),e) else none:=by
  unfold low
  rw [h1,h2,pu]
 have QF:Int.gcd (ea neg p) q=1→(m.natAbs:Int)=p∧e=q:=by
  intro hu
  rw [hu] at h2 aX
  simp at h2 aX
  omega
 by_cases n3:q=1
 ·have hu:Int.gcd (ea neg p) q=1:=by rw [n3];simp
  obtain ⟨lk,nI⟩:=QF hu
  rw [if_pos (by simpa using n3),AX,lk,nI]
  exact JA aj (by omega)
 ·rw [if_neg (by simpa using n3),Qg (i9 _) (i9 _) RS py,ef aj,ef (by omega)]
  simp only [Option.bind_some]
  rw [At (by omega)]
  simp only [Option.bind_some]
  by_cases hu:Int.gcd p q=1
  ·obtain ⟨lk,nI⟩:=QF (by omega)
   rw [if_pos (by simp;omega),AX,lk,nI]
   exact JA aj (by omega)
  ·rw [if_neg (by simp;omega)]
   have RT:(L (Int.gcd p q)).length≤900000:=by
    have bb:(Int.gcd p q:Int)≤q:=by
     rw [dD]
     have:(Int.gcd (ea neg p) q:Int)*1≤Int.gcd (ea neg p) q*e:=Int.mul_le_mul_of_nonneg_left (by omega) (by omega)
     omega
    apply (iT (by omega)).2
    have:=(iT (n:=q) (by omega)).1 py
    omega
   have RU:L (Int.gcd p q)≠[]:=fun h=>by
    have:=s5.1 h
    omega
   rw [div_eq (i9 _) (i9 _) RU RS RT,ef aj,ef (by omega)]
   simp only [Option.bind_some]
   rw [div_eq (i9 _) (i9 _) RU py RT,ef (by omega),ef (by omega)]
   simp only [Option.bind_some]
   rw [dD,aX,h2,AX]
   exact JA (by omega) (by omega)
theorem Fr.tb {p:Int×Int}(h:Fr p):(L p.1.natAbs).length≤24:=(iT (by omega)).2 h.num
theorem Fr.sb {p:Int×Int}(h:Fr p):(L p.2).length≤24:=(iT (by have:=h.pos;omega)).2 h.den
theorem abz (m n:Nat):B m*B n=B (m+n):=(AE m n).symm
theorem sV {x y:Int}{m n:Nat}(R:0≤x)(a0:0≤y)(h1:x<B m)(h2:y<B n):(L (x*y)).length≤m+n:=by
 apply (iT (Int.mul_nonneg R a0)).2
 rw [← abz]
 have ab:x*y≤(B m-1)*(B n-1):=Int.mul_le_mul (by omega) (by omega) a0 (by omega)
 have au:(B m-1)*(B n-1)=B m*B n-B m-B n+1:=by grind
 have aA:=ov m
 have aX:=ov n
 omega
theorem Yl (r s:aL){a b:Int}(bA:0≤a)(aP:0<b)(h1:hE r.fk.cw s.fk.cw=some (L a))(h2:hE r.hl s.hl=some (L b))(ab:(L a).length≤900000)(au:(L b).length≤900000):sL r s=some (enc (low (ea (!(r.fk.cJ == s.fk.cJ)) a) b)):=by
 unfold sL
 rw [h1]
 simp only [Option.bind_eq_bind,Option.bind_some]
 rw [h2]
 simp only [Option.bind_some]
 rw [JB bA aP ab au]
 simp only [Option.bind_some]
theorem Y2 {p q:Int×Int}(aj:Fr p)(a8:Fr q):sL (mk p) (mk q)=some (enc (low (p.1*q.1) (p.2*q.2))):=by
 have h1:=aj.tb
 have h2:=aj.sb
 have ab:=a8.tb
 have au:=a8.sb
 have aA:=aj.pos
 have aX:=a8.pos
 have bb:=sV (x:=p.1.natAbs) (y:=q.1.natAbs) (by omega) (by omega) aj.num a8.num
 have bi:=sV (x:=p.2) (y:=q.2) (by omega) (by omega) aj.den a8.den
 have e1:hE (L p.1.natAbs) (L q.1.natAbs)=some (L ((p.1.natAbs:Int)*q.1.natAbs)):=by
  rw [mul_eq (gW _) (gW _) (by omega) (by omega),ef (by omega),ef (by omega)]
 have e2:hE (L p.2) (L q.2)=some (L (p.2*q.2)):=by
  rw [mul_eq (gW _) (gW _) (by omega) (by omega),ef (by omega),ef (by omega)]
 have:=Yl (mk p) (mk q) (a:=(p.1.natAbs:Int)*q.1.natAbs) (b:=p.2*q.2) (Int.mul_nonneg (by omega) (by omega)) (Int.mul_pos aA aX) e1 e2 (by omega) (by omega)
 rw [this]
 have bO:ea (!((mk p).fk.cJ == (mk q).fk.cJ)) ((p.1.natAbs:Int)*q.1.natAbs)=p.1*q.1:=Qi
 rw [bO]
theorem Y3 {a b:Int}(bA:(L a.natAbs).length≤900000)(aP:(L b.natAbs).length≤900000):o8 (gR a) (gR b)=some (gR (a*b)):=by
 unfold o8
 simp only [Pe,Pf]
 rw [ZN (gW _) (gW _) (by omega) (by omega),ef (by omega),ef (by omega)]
 simp only [Option.bind_eq_bind,Option.bind_some]
 rw [rN (Int.mul_nonneg (by omega) (by omega)),Qi]
 rfl
theorem aaw:(1000000000000000000000000000:Int)≤B 24:=by
 have h:B 3≤B 24:=qs (by omega)
 have ab:B 3=1000000000000000000000000000:=by decide
 omega
theorem aax:(1000000000000000000000000000:Int)≤B 60:=by
 have:=Kg
 have:=aaw
 omega
theorem XM {n:Int}(h:nx n):zo n=some (gR n):=by
 obtain ⟨h1,h2⟩:=mz.1 h
 have aP:=aax
 unfold zo
 by_cases hm:n = -9223372036854775808
 ·rw [if_pos (by simpa using hm)]
  have e:([854775808,223372036,9]:List Int)=L 9223372036854775808:=s8 ⟨by intro x R;simp at R;omega,by simp⟩ (by decide)
  rw [e,pN (by omega) (by omega)]
  subst hm
  rfl
 ·rw [if_neg (by simpa using hm)]
  by_cases a2:n<0
  ·rw [if_pos (by simpa using a2),cr (by omega) (by omega),xv (by omega) (by omega)]
   simp only [Option.bind_eq_bind,Option.bind_some]
   rw [pN (by omega) (by omega)]
   simp only [Option.bind_some]
   congr 2
   unfold ea
   simp
  ·rw [if_neg (by simpa using a2),xv (by omega) (by omega)]
   simp only [Option.bind_eq_bind,Option.bind_some]
   rw [pN (by omega) (by omega)]
   simp only [Option.bind_some]
   congr 2
theorem Ym {n:Int}(h:nx n):oe n=some (gR n):=by
 obtain ⟨h1,h2⟩:=mz.1 h
 unfold oe
 by_cases a2:n<0
 ·rw [if_pos (by simpa using a2),cr (x:=n+1) (by omega) (by omega),cr (x:=0-(n+1)) (by omega) (by omega),AJ (x:=0-(n+1)) (by omega) (by omega),AJ (by omega) (by omega),Jq (by omega) (by omega)]
  simp only [Option.bind_eq_bind,Option.bind_some]
  rw [rN (by omega)]
  simp only [Option.bind_some]
  congr 2
  unfold ea
  simp
  omega
 ·rw [if_neg (by simpa using a2),AJ (by omega) (by omega),Jq (by omega) (by omega)]
  simp only [Option.bind_eq_bind,Option.bind_some]
  rw [rN (by omega)]
  simp only [Option.bind_some]
  congr 2
theorem QG:L 1=[1]:=JY (by omega)
theorem W6 {n:Int}(h:nx n):oS n=some (mk (n,1)):=by
 unfold oS
 rw [XM h]
 simp only [Option.bind_eq_bind,Option.bind_some,mk,QG]
theorem Y4 {p q:Int×Int}(aj:Fr p)(a8:Fr q):ui (mk p) (mk q)=some (kS (p.1*q.2) (q.1*p.2)):=by
 have h1:=aj.tb
 have h2:=aj.sb
 have ab:=a8.tb
 have au:=a8.sb
 have aA:=aj.pos
 have aX:=a8.pos
 have bb:=sV (x:=p.1.natAbs) (y:=q.2) (by omega) (by omega) aj.num a8.den
 have bi:=sV (x:=q.1.natAbs) (y:=p.2) (by omega) (by omega) a8.num aj.den
 have B9:0≤(p.1.natAbs:Int)*q.2:=Int.mul_nonneg (by omega) (by omega)
 have Sk:0≤(q.1.natAbs:Int)*p.2:=Int.mul_nonneg (by omega) (by omega)
 have oQ:((p.1*q.2).natAbs:Int)=(p.1.natAbs:Int)*q.2:=by
  rw [Int.natAbs_mul,Int.natCast_mul]
  congr 1
  omega
 have l9:((q.1*p.2).natAbs:Int)=(q.1.natAbs:Int)*p.2:=by
  rw [Int.natAbs_mul,Int.natCast_mul]
  congr 1
  omega
 have e1:hE (mk p).fk.cw (mk q).hl=some (L ((p.1.natAbs:Int)*q.2)):=by
  show hE (L p.1.natAbs) (L q.2)=_
  rw [mul_eq (gW _) (gW _) (by omega) (by omega),ef (by omega),ef (by omega)]
 have e2:hE (mk q).fk.cw (mk p).hl=some (L ((q.1.natAbs:Int)*p.2)):=by
  show hE (L q.1.natAbs) (L p.2)=_
  rw [mul_eq (gW _) (gW _) (by omega) (by omega),ef (by omega),ef (by omega)]
 have bO:hI (mk p).fk.cJ (L ((p.1.natAbs:Int)*q.2))=some (gR (p.1*q.2)):=by
  show hI (decide (p.1<0)) _=_
  rw [pN B9 ((iT B9).1 (by omega)),Ag]
 have c5:hI (mk q).fk.cJ (L ((q.1.natAbs:Int)*p.2))=some (gR (q.1*p.2)):=by
  show hI (decide (q.1<0)) _=_
  rw [pN Sk ((iT Sk).1 (by omega)),Ag]
 unfold ui
 rw [e1,Option.bind_eq_bind,Option.bind_some,bO,Option.bind_eq_bind,Option.bind_some,e2,Option.bind_eq_bind,Option.bind_some,c5,Option.bind_some,Y1 (by rw [oQ];omega) (by rw [l9];omega)]
 rfl
theorem Kh {a d:Int}(bC:0≤d):((a*d).natAbs:Int)=(a.natAbs:Int)*d:=by
 rw [Int.natAbs_mul,Int.natCast_mul]
 congr 1
 omega
theorem pM (n bQ ao:Int):my n bQ ao=some (decide (bQ≤n∧n≤ao)):=by
 unfold my
 by_cases h:bQ≤n<;>simp [h]
theorem Dj {α β:Type}{t:Nat→α→Option β}: ∀(l:List α) (k:Nat),(∀n x,l[n]? = some x→t (k+n) x=none)→scan t k l=none
 | [],_,_=>rfl
 | x::l,k,h=>by
  have h0:=h 0 x rfl
  simp only [Nat.add_zero] at h0
  simp only [scan,h0]
  exact Dj l (k+1) fun n y a0=>by rw [show k+1+n=k+(n+1) by omega];exact h (n+1) y (by simpa using a0)
theorem XN (l:List Int)(h:l.length≤1048576):zQ l l=some true:=by
 have h1:IZ l l 0=some (.inl ()):=by
  have:=Dh (f:=fun w=>wN l l w) (t:=fun _ _=>none) (e:= .inl ()) l 0 (fun n x R=>by
   have a2:=fQ R
   have hw:J ((n:Int)+1)=((n+1:Nat):Int):=by rw [cr (by omega) (by omega)];rfl
   simp only [wN,fa,Nat.zero_add,hw]
   simp [a2]) (by simp [wN,fa])
  rw [Dj l 0 (fun _ _ _=>rfl)] at this
  exact this
 simp [zQ,h1]
theorem Xs (j:bE):zI j j=some true:=by simp [zI]
theorem W7 (j:bP):zz j j=some true:=by simp [zz]
theorem W8 (l:List bE)(h:l.length≤1048576):zy l l=some true:=by
 have h1:Iv l l 0=some (.inl ()):=by
  have:=Dh (f:=fun w=>wo l l w) (t:=fun _ _=>none) (e:= .inl ()) l 0 (fun n x R=>by
   have a2:=fQ R
   have hw:J ((n:Int)+1)=((n+1:Nat):Int):=by rw [cr (by omega) (by omega)];rfl
   simp only [wo,fa,Nat.zero_add,hw]
   simp [a2,Xs]) (by simp [wo,fa])
  rw [Dj l 0 (fun _ _ _=>rfl)] at this
  exact this
 simp [zy,h1]
theorem WV (l:List bP)(h:l.length≤1048576):zk l l=some true:=by
 have h1:Ie l l 0=some (.inl ()):=by
  have:=Dh (f:=fun w=>wg l l w) (t:=fun _ _=>none) (e:= .inl ()) l 0 (fun n x R=>by
   have a2:=fQ R
   have hw:J ((n:Int)+1)=((n+1:Nat):Int):=by rw [cr (by omega) (by omega)];rfl
   simp only [wg,fa,Nat.zero_add,hw]
   simp [a2,W7]) (by simp [wg,fa])
  rw [Dj l 0 (fun _ _ _=>rfl)] at this
  exact this
 simp [zk,h1]
theorem Wh (s:cI)(h1:s.bZ.length≤1048576)(h2:s.bG.length≤1048576):y7 s s=some true:=by
 simp [y7,W8 _ h1,WV _ h2]
theorem Xt (j:bE)(left:Int)(aC:j.k6.size≤maxLen)(h0:0≤left)(h1:left≤1048576): ∃r,zB j left=some r∧r≤left:=by
 have hm:j.k6.size<9223372036854775808:=by have:maxLen=9223372036854775807:=by decide
                                           omega
 have hw:J (left-j.k6.size)=left-j.k6.size:=cr (by omega) (by omega)
 unfold zB
 rw [hw]
 by_cases h:left-(j.k6.size:Int)<0
 ·exact ⟨-1,by simp [h],by omega⟩
 ·exact ⟨left-j.k6.size,by simp [h],by omega⟩
theorem W9 (l:List bE)(left:Int)(aV:l.length≤maxLen)(aC:∀j∈l,j.k6.size≤maxLen)(h0:0≤left)(h1:left≤1048576):
 ∃r,zl l left=some r∧r≤left∧(0≤r→l.length≤1048576):=by
 have hm:maxLen=9223372036854775807:=by decide
 have hw:J (left-(l.length:Nat))=left-(l.length:Nat):=cr (by omega) (by omega)
 unfold zl
 simp only [fa,hw]
 by_cases h:left-(l.length:Int)<0
 ·exact ⟨-1,by simp [h],by omega,by omega⟩
 ·obtain ⟨r,r1,r2⟩:=jw (f:=fun w:Int×Int=>tJ l w.1 w.2) (fun w=>0≤w.1∧w.1≤left∧0≤w.2∧w.2≤l.length) (fun w=>(l.length-w.2).toNat)
   (fun r=>match r with | .inl a=>a≤left | .inr _=>True) (fun w hw=>by
     obtain ⟨a,i⟩:=w
     simp only at hw
     obtain ⟨ke,pD,tB,Sl⟩:=hw
     by_cases ao:i<l.length
     ·obtain ⟨x,R⟩ : ∃x,l[i.toNat]? = some x:=⟨_,List.getElem?_eq_getElem (by omega)⟩
      obtain ⟨r,s1,s2⟩:=Xt x a (aC x (List.mem_of_getElem? R)) ke (by omega)
      obtain ⟨a2,rfl⟩:=List.getElem?_eq_some_iff.1 R
      have Bx:J (i+1)=i+1:=cr (by omega) (by omega)
      by_cases aq:r<0
      ·right
       exact ⟨.inr (),by simp [tJ,fa,ao,tB,R,s1,aq],trivial⟩
      ·left
       refine ⟨(r,i+1),by simp [tJ,fa,ao,tB,R,s1,aq,Bx],?_,?_⟩
       ·simp only;omega
       ·simp only;omega
     ·right
      exact ⟨.inl a,by simp [tJ,fa,ao],by simpa using pD⟩) (left-(l.length:Nat),0) (by simp only;omega)
  have EF:Ih l (left-(l.length:Nat)) 0=some r:=r1
  rw [EF]
  cases r with
  | inl a=>exact ⟨a,by simp [h],r2,by omega⟩
  | inr a=>exact ⟨-1,by simp [h],by omega,by omega⟩
theorem WW (l:List bP)(left:Int)(aV:l.length≤maxLen)(h0:0≤left)(h1:left≤1048576):
 ∃r,ze l left=some r∧r≤left∧(0≤r→l.length≤1048576):=by
 have hm:maxLen=9223372036854775807:=by decide
 have hw:J (left-(l.length:Nat))=left-(l.length:Nat):=cr (by omega) (by omega)
 unfold ze
 simp only [fa,hw]
 by_cases h:left-(l.length:Int)<0
 ·exact ⟨-1,by simp [h],by omega,by omega⟩
 ·exact ⟨left-(l.length:Nat),by simp [h],by omega,by omega⟩
theorem Wi (s:cI)(i0:ks s)(left:Int)(h0:0≤left)(h1:left≤1048576):
 ∃r,y4 s left=some r∧(0≤r→s.bZ.length≤1048576∧s.bG.length≤1048576):=by
 obtain ⟨⟨gv,hr⟩,di,fK⟩:=i0
 obtain ⟨r,r1,r2,bd⟩:=W9 s.bZ left gv (fun j aC=>(hr j aC).1) h0 h1
 unfold y4
 rw [r1]
 by_cases h:r<0
 ·exact ⟨-1,by simp [h],by omega⟩
 ·obtain ⟨q,q1,q2,bK⟩:=WW s.bG r di (by omega) (by omega)
  by_cases a8:q<0
  ·exact ⟨-1,by simp [h,q1,a8],by omega⟩
  ·exact ⟨q,by simp [h,q1,a8],fun _=>⟨bd (by omega),bK (by omega)⟩⟩
theorem xo:maxLen=9223372036854775807:=by decide
theorem Yn (n:Int):xb n=my n (-50) 50:=by
 rw [pM]
 unfold xb
 by_cases h : -50≤n<;>simp [h]
theorem XO (c:Int):zw c=some (decide (97≤c∧c≤122)):=by
 unfold zw
 by_cases h:97≤c<;>simp [h]
theorem Yo (c:Int):zD c=some (decide (48≤c∧c≤57)):=by
 unfold zD
 by_cases h:48≤c<;>simp [h]
theorem XP (s:ByteArray)(i:Int):y1 s s.size i=sD s i:=by
 unfold y1 sD
 generalize ((s.data.toList.getD i.toNat 0).toNat:Int)=c
 simp only [XO,Yo,Option.bind_eq_bind,Option.bind_some]
 by_cases h1:i<(s.size:Int)<;>by_cases h0:0≤i<;>by_cases a:(97:Int)≤c<;>by_cases b:c≤122<;>by_cases d:i=0<;>by_cases e:c<48<;>by_cases f:57<c <;>
  simp [h1,h0,a,b,d,e,f,Int.not_lt.1,Int.not_le]<;>omega
theorem Y5 (s:ByteArray):zN s=sI s:=by
 have h:CT s s.size 0=zf s 0:=by
  unfold CT zf
  congr 1
  funext w
  exact XP s w
 unfold zN sI
 rw [h]
 congr 1
 funext r
 cases r with
 | inr a=>rfl
 | inl a =>
  simp only [pM,Option.bind_eq_bind,Option.bind_some]
  by_cases h0:s.size=0
  ·have:s=⟨#[]⟩:=by
    cases s with
    | mk d=>simp only [ByteArray.size] at h0;rw [Array.size_eq_zero_iff] at h0;rw [h0]
   subst this
   have e0:(ByteArray.mk #[]).size=0:=rfl
   simp [e0]
  ·have dk:s.toList≠(⟨#[]⟩:ByteArray).toList:=by
    intro e
    have aV : ∀x:ByteArray,x.toList.length=x.size:=by intro x;rw [ByteArray.toList_eq];rfl
    have:=aV s
    rw [e,aV] at this
    exact h0 this.symm
   simp only [beq_iff_eq,dk,Bool.not_eq_true',beq_eq_false_iff_ne,ne_eq,not_false_eq_true,if_true]
   congr 1
   apply decide_eq_decide.2
   omega
theorem XQ (s:ByteArray)(bV:s.size≤maxLen): ∃r,sI s=some r:=by
 have hm:=xo
 obtain ⟨r,h,-⟩:=jw (f:=fun w=>sD s w) (fun i=>0≤i∧i≤s.size) (fun i=>(s.size-i).toNat) (fun _=>True) (fun i ao=>by
  obtain ⟨h0,h1⟩:=ao
  by_cases h2:i<(s.size:Int)
  ·have hw:J (i+1)=i+1:=cr (by omega) (by omega)
   unfold sD
   generalize ((s.data.toList.getD i.toNat 0).toNat:Int)=c
   have abA:0≤i+1∧i+1≤(s.size:Int):=by omega
   have l5:((s.size:Int)-(i+1)).toNat<((s.size:Int)-i).toNat:=by omega
   have key : ∀x:Option (Int⊕(Unit⊕Unit)),(x=some (.inl (i+1))∨x=some (.inr (.inr ())))→(∃dw,x=some (.inl dw)∧(0≤dw∧dw≤(s.size:Int))∧((s.size:Int)-dw).toNat<((s.size:Int)-i).toNat)∨ ∃r,x=some (.inr r)∧True:=by
    intro x R
    rcases R with R|R
    ·exact .inl ⟨i+1,R,abA,l5⟩
    ·exact .inr ⟨_,R,trivial⟩
   apply key
   simp only [h2,h0,hw,decide_true,if_true,and_self]
   by_cases a:(97:Int)≤c<;>by_cases b:c≤122<;>by_cases d:i=0<;>by_cases e:c<48<;>by_cases f:57<c<;>simp [a,b,d,e,f]
  ·exact .inr ⟨.inl (),by simp [sD,h2],trivial⟩) 0 (by omega)
 have cx:zf s 0=some r:=h
 unfold sI
 rw [cx]
 cases r with
 | inl a=>exact ⟨_,by simp [pM];rfl⟩
 | inr a=>exact ⟨_,rfl⟩
end Go.Proofs.YtdkjpcaalflfhaaGreat
namespace Go.Proofs.YtdkjpcaalflfhaaGreat
set_option linter.unusedVariables false
set_option linter.unusedSimpArgs false
open Go Go.VL
theorem Yp (j:bE):zE j=o9 j:=by
 unfold zE o9
 simp only [Y5,Yn]
theorem NC (j:bE)(h:j.k6.size≤maxLen): ∃r,o9 j=some r:=by
 obtain ⟨r,aq⟩:=XQ _ h
 unfold o9
 simp only [aq,pM,Option.bind_eq_bind,Option.bind_some]
 repeat' split
 all_goals exact ⟨_,rfl⟩
theorem Xa (s:cI)(n:ByteArray):zd s n=tY s n:=by
 have h:Cd s.bZ n (len_ bI s.bZ) 0=wO n s.bZ (len_ bI s.bZ) 0:=by
  unfold Cd wO
  congr 1
 unfold zd tY Ch
 rw [h]
 cases wO n s.bZ (len_ bI s.bZ) 0 with
 | none=>rfl
 | some r=>cases r<;>rfl
theorem Nd (s:cI)(n:ByteArray)(h:s.bZ.length≤maxLen): ∃r,tY s n=some r:=by
 have hm:=xo
 obtain ⟨r,h1,-⟩:=jw (f:=fun w=>vW n s.bZ (len_ bI s.bZ) w) (fun i=>0≤i∧i≤s.bZ.length) (fun i=>(s.bZ.length-i).toNat) (fun _=>True) (fun i ao=>by
  obtain ⟨h0,h1⟩:=ao
  by_cases h2:i<(s.bZ.length:Int)
  ·have hw:J (i+1)=i+1:=cr (by omega) (by omega)
   obtain ⟨x,R⟩ : ∃x,s.bZ[i.toNat]? = some x:=⟨_,List.getElem?_eq_getElem (by omega)⟩
   unfold vW
   simp only [fa,h2,h0,hw,R,decide_true,if_true,and_self,Option.bind_eq_bind,Option.bind_some]
   by_cases e:(x.k6.toList == n.toList)=true
   ·exact .inr ⟨_,by rw [if_pos e],trivial⟩
   ·exact .inl ⟨i+1,by rw [if_neg e],by omega,by omega⟩
  ·exact .inr ⟨.inl (),by simp [vW,fa,h2],trivial⟩) 0 (by omega)
 have cx:wO n s.bZ (len_ bI s.bZ) 0=some r:=h1
 unfold tY
 rw [cx]
 cases r with
 | inl a=>exact ⟨_,rfl⟩
 | inr a=>exact ⟨_,rfl⟩
theorem Nf (s:cI):Cw s.bZ (len_ bI s.bZ) s.bG 0=q3 s.bZ (len_ bI s.bZ) s.bG 0:=by
 unfold Cw q3
 congr 1
 funext w
 unfold Cm qZ
 simp only [Yp,Xa]
theorem Ig (s:cI)(i0:ks s): ∃r,q3 s.bZ (len_ bI s.bZ) s.bG 0=some r:=by
 have hm:=xo
 obtain ⟨⟨gv,hr⟩,-⟩:=i0
 obtain ⟨r,h1,-⟩:=jw (f:=fun w=>qZ s.bZ (len_ bI s.bZ) s.bG w) (fun i=>0≤i∧i≤s.bZ.length) (fun i=>(s.bZ.length-i).toNat) (fun _=>True) (fun i ao=>by
  obtain ⟨h0,h1⟩:=ao
  by_cases h2:i<(s.bZ.length:Int)
  ·have hw:J (i+1)=i+1:=cr (by omega) (by omega)
   obtain ⟨x,R⟩ : ∃x,s.bZ[i.toNat]? = some x:=⟨_,List.getElem?_eq_getElem (by omega)⟩
   obtain ⟨p,aj⟩:=NC x (hr x (List.mem_of_getElem? R)).1
   obtain ⟨q,a8⟩:=Nd ⟨s.bZ,s.bG⟩ x.k6 gv
   unfold qZ
   simp only [fa,h2,h0,hw,R,aj,a8,decide_true,if_true,and_self,Option.bind_eq_bind,Option.bind_some]
   by_cases e:p=true
   ·rw [if_pos e]
    by_cases e2:(q != i)=true
    ·exact .inr ⟨_,by rw [if_pos e2],trivial⟩
    ·exact .inl ⟨i+1,by rw [if_neg e2],by omega,by omega⟩
   ·exact .inr ⟨_,by rw [if_neg e],trivial⟩
  ·exact .inr ⟨.inl (),by simp [qZ,fa,h2],trivial⟩) 0 (by omega)
 exact ⟨r,h1⟩
def qn (gO:List bE)(m:bP):Bool :=
 decide (0≤m.dE∧m.dE<gO.length∧0≤m.eg∧m.eg<gO.length∧1≤m.iU∧m.iU≤3) &&
 match gO[m.dE.toNat]?,gO[m.eg.toNat]? with
 | some a,some b=> !(a.jZ == b.jZ && a.j0 == b.j0) && !(a.k3 && b.k3)
 | _,_=>false
theorem C7 (s:cI)(m:bP):yR s m=some (qn s.bZ m):=by
 unfold yR qn
 simp only [fa]
 by_cases h1:m.dE<0
 ·simp [h1];omega
 by_cases h2:(s.bZ.length:Int)≤m.dE
 ·simp [h1,h2];omega
 by_cases ab:m.eg<0
 ·simp [h1,h2,ab];omega
 by_cases au:(s.bZ.length:Int)≤m.eg
 ·simp [h1,h2,ab,au];omega
 by_cases aA:m.iU<1
 ·simp [h1,h2,ab,au,aA];omega
 by_cases aX:3<m.iU
 ·simp [h1,h2,ab,au,aA,aX];omega
 obtain ⟨x,R⟩ : ∃x,s.bZ[m.dE.toNat]? = some x:=⟨_,List.getElem?_eq_getElem (by omega)⟩
 obtain ⟨y,a0⟩ : ∃y,s.bZ[m.eg.toNat]? = some y:=⟨_,List.getElem?_eq_getElem (by omega)⟩
 have br:0≤m.dE∧m.dE<s.bZ.length:=by omega
 have cb:0≤m.eg∧m.eg<s.bZ.length:=by omega
 have jg:0≤m.dE∧m.dE<s.bZ.length∧0≤m.eg∧m.eg<s.bZ.length∧1≤m.iU∧m.iU≤3:=by omega
 rw [decide_eq_false h1,decide_eq_false h2,decide_eq_false ab,decide_eq_false au,decide_eq_false aA,decide_eq_false aX,decide_eq_true jg,if_pos br,R]
 simp only [Bool.false_eq_true,if_false,Option.bind_eq_bind,Option.bind_some,Bool.true_and]
 rw [if_pos cb,a0]
 simp only [Option.bind_some]
 by_cases e1:x.jZ=y.jZ<;>by_cases e2:x.j0=y.j0<;>by_cases yC:x.k3=true<;>by_cases BS:y.k3=true<;>simp [e1,e2,yC,BS]
theorem Nq (gO:List bE)(dX:List bP)(aC:gO.length≤6)(D7:dX.length≤8)(i:Int):
 yQ (J (len_ bI gO-1)) dX (len_ bS dX) gO i =
 (nM dX gO dX (len_ bS dX) i).map (Sum.map id (Sum.map id fun _=>())):=by
 have hw:J ((gO.length:Nat)-1)=(gO.length:Nat)-1:=cr (by omega) (by omega)
 unfold yQ nM tT
 simp only [fa,hw,C7,pM,Option.bind_eq_bind,Option.bind_some]
 by_cases h1:i<(dX.length:Int)
 ·by_cases h0:0≤i
  ·obtain ⟨m,hm⟩ : ∃x,dX[i.toNat]? = some x:=⟨_,List.getElem?_eq_getElem (by omega)⟩
   simp only [h1,h0,hm,decide_true,if_true,and_self,Option.bind_some]
   unfold qn
   by_cases hA:0≤m.dE∧m.dE≤(gO.length:Int)-1
   ·by_cases gU:0≤m.eg∧m.eg≤(gO.length:Int)-1
    ·by_cases hy:1≤m.iU∧m.iU≤3
     ·obtain ⟨x,R⟩ : ∃x,gO[m.dE.toNat]? = some x:=⟨_,List.getElem?_eq_getElem (by omega)⟩
      obtain ⟨y,a0⟩ : ∃y,gO[m.eg.toNat]? = some y:=⟨_,List.getElem?_eq_getElem (by omega)⟩
      have br:0≤m.dE∧m.dE<gO.length:=by omega
      have cb:0≤m.eg∧m.eg<gO.length:=by omega
      have jg:0≤m.dE∧m.dE<gO.length∧0≤m.eg∧m.eg<gO.length∧1≤m.iU∧m.iU≤3:=by omega
      rw [decide_eq_true hA,decide_eq_true gU,decide_eq_true hy,decide_eq_true jg]
      simp only [if_true,Option.bind_some,Bool.true_and]
      rw [if_pos br,R]
      simp only [Option.bind_some]
      rw [if_pos cb,a0]
      simp only [Option.bind_some]
      by_cases e1:x.jZ=y.jZ<;>by_cases e2:x.j0=y.j0<;>by_cases yC:x.k3=true<;>by_cases BS:y.k3=true<;>simp [e1,e2,yC,BS]
     ·have jg : ¬(0≤m.dE∧m.dE<gO.length∧0≤m.eg∧m.eg<gO.length∧1≤m.iU∧m.iU≤3):=by omega
      rw [decide_eq_true hA,decide_eq_true gU,decide_eq_false hy,decide_eq_false jg]
      simp
    ·have jg : ¬(0≤m.dE∧m.dE<gO.length∧0≤m.eg∧m.eg<gO.length∧1≤m.iU∧m.iU≤3):=by omega
     rw [decide_eq_true hA,decide_eq_false gU,decide_eq_false jg]
     simp
   ·have jg : ¬(0≤m.dE∧m.dE<gO.length∧0≤m.eg∧m.eg<gO.length∧1≤m.iU∧m.iU≤3):=by omega
    rw [decide_eq_false hA,decide_eq_false jg]
    simp
  ·simp [h1,h0]
 ·simp [h1]
theorem MS (gO:List bE)(dX:List bP)(D7:dX.length≤8): ∃r,tE dX gO dX (len_ bS dX) 0=some r∧ ∀k,r = .inr k→0≤k:=by
 exact jw (f:=fun w=>nM dX gO dX (len_ bS dX) w) (fun i=>0≤i∧i≤dX.length) (fun i=>(dX.length-i).toNat) (fun r=> ∀k,r = .inr k→0≤k) (fun i ao=>by
  obtain ⟨h0,h1⟩:=ao
  by_cases h2:i<(dX.length:Int)
  ·have hw:J (i+1)=i+1:=cr (by omega) (by omega)
   obtain ⟨x,R⟩ : ∃x,dX[i.toNat]? = some x:=⟨_,List.getElem?_eq_getElem (by omega)⟩
   unfold nM tT
   simp only [fa,h2,h0,hw,R,C7,decide_true,if_true,and_self,Option.bind_eq_bind,Option.bind_some]
   by_cases e:(!qn gO x)=true
   ·exact .inr ⟨_,by rw [if_pos e],by intro k a5;simp at a5;omega⟩
   ·exact .inl ⟨i+1,by rw [if_neg e],by omega,by omega⟩
  ·exact .inr ⟨.inl (),by simp [nM,fa,h2],by intro k a5;simp at a5⟩) 0 (by omega)
theorem M4 (s:cI)(i0:ks s): ∃r,j2 s=some r∧wW s=some r:=by
 unfold j2 wW
 by_cases h1:6<(s.bZ.length:Int)
 ·exact ⟨false,by simp [fa,h1],by simp [fa,h1]⟩
 by_cases h2:8<(s.bG.length:Int)
 ·exact ⟨false,by simp [fa,h1,h2],by simp [fa,h1,h2]⟩
 obtain ⟨r,aq⟩:=Ig s i0
 rw [Nf,aq]
 obtain ⟨q,a8,lM⟩:=MS s.bZ s.bG (by omega)
 have LG:Ct (J (len_ bI s.bZ-1)) s.bG (len_ bS s.bG) s.bZ 0=some (Sum.map id (fun _=>()) q) :=
  O4 (f:=fun w=>nM s.bG s.bZ s.bG (len_ bS s.bG) w) (Sum.map id fun _=>()) (fun _=>True) (fun _ _ _ _=>trivial)
   (fun i _=>Nq s.bZ s.bG (by omega) (by omega) i) 0 q a8 trivial
 simp only [yK,yM,a8,LG,Option.bind_eq_bind,Option.bind_some]
 have d1:decide ((6:Int)<len_ bI s.bZ)=false:=by rw [fa];exact decide_eq_false h1
 have d2:decide ((8:Int)<len_ bS s.bG)=false:=by rw [fa];exact decide_eq_false h2
 rw [d1,d2]
 simp only [Bool.false_eq_true,if_false]
 cases r with
 | inr a=>exact ⟨false,rfl,rfl⟩
 | inl a =>
  cases q with
  | inl b=>exact ⟨true,rfl,by simp⟩
  | inr k =>
   have:=lM k rfl
   exact ⟨false,rfl,by simp [this]⟩
theorem Nr (j:bE)(h:o9 j=some true): -50≤j.jZ∧j.jZ≤50∧ -50≤j.j0∧j.j0≤50:=by
 unfold o9 at h
 cases a2:sI j.k6 with
 | none=>simp [a2] at h
 | some r =>
  simp only [a2,pM,Option.bind_eq_bind,Option.bind_some] at h
  cases r with
  | false=>simp at h
  | true =>
   by_cases a : -50≤j.jZ∧j.jZ≤50
   ·by_cases b : -50≤j.j0∧j.j0≤50
    ·omega
    ·simp [a,b] at h
   ·simp [a] at h
theorem Y6 (s:cI)(i0:ks s)(h:q3 s.bZ (len_ bI s.bZ) s.bG 0=some (.inl ())): ∀(n:Nat) j,s.bZ[n]? = some j→o9 j=some true:=by
 have hm:=xo
 obtain ⟨⟨gv,hr⟩,-⟩:=i0
 obtain ⟨r,h1,h2⟩:=jw (f:=fun w=>qZ s.bZ (len_ bI s.bZ) s.bG w) (fun i=>0≤i∧i≤s.bZ.length∧ ∀(n:Nat) j,(n:Int)<i→s.bZ[n]? = some j→o9 j=some true) (fun i=>(s.bZ.length-i).toNat)
  (fun r=>r = .inl ()→ ∀(n:Nat) j,s.bZ[n]? = some j→o9 j=some true) (fun i ao=>by
  obtain ⟨h0,h1,ab⟩:=ao
  by_cases h2:i<(s.bZ.length:Int)
  ·have hw:J (i+1)=i+1:=cr (by omega) (by omega)
   obtain ⟨x,R⟩ : ∃x,s.bZ[i.toNat]? = some x:=⟨_,List.getElem?_eq_getElem (by omega)⟩
   obtain ⟨p,aj⟩:=NC x (hr x (List.mem_of_getElem? R)).1
   obtain ⟨q,a8⟩:=Nd ⟨s.bZ,s.bG⟩ x.k6 gv
   unfold qZ
   simp only [fa,h2,h0,hw,R,aj,a8,decide_true,if_true,and_self,Option.bind_eq_bind,Option.bind_some]
   by_cases e:p=true
   ·rw [if_pos e]
    by_cases e2:(q != i)=true
    ·exact .inr ⟨_,by rw [if_pos e2],by simp⟩
    ·refine .inl ⟨i+1,by rw [if_neg e2],⟨by omega,by omega,fun n j a2 aC=> ?_⟩,by omega⟩
     by_cases c:(n:Int)<i
     ·exact ab n j c aC
     ·have:n=i.toNat:=by omega
      subst this
      rw [R] at aC
      obtain rfl:=Option.some.inj aC
      rw [aj,e]
   ·exact .inr ⟨_,by rw [if_neg e],by simp⟩
  ·refine .inr ⟨.inl (),by simp [qZ,fa,h2],fun _ n j aC=>ab n j (by have:=fQ aC;omega) aC⟩) 0 ⟨by omega,by omega,fun n j a2=>by omega⟩
 have p4:q3 s.bZ (len_ bI s.bZ) s.bG 0=some r:=h1
 rw [h] at p4
 exact h2 (Option.some.inj p4).symm
theorem Yq (gO:List bE)(dX:List bP)(D7:dX.length≤8)(h:tE dX gO dX (len_ bS dX) 0=some (.inl ())): ∀(n:Nat) m,dX[n]? = some m→qn gO m=true:=by
 obtain ⟨r,h1,h2⟩:=jw (f:=fun w=>nM dX gO dX (len_ bS dX) w) (fun i=>0≤i∧i≤dX.length∧ ∀(n:Nat) m,(n:Int)<i→dX[n]? = some m→qn gO m=true) (fun i=>(dX.length-i).toNat)
  (fun r=>r = .inl ()→ ∀(n:Nat) m,dX[n]? = some m→qn gO m=true) (fun i ao=>by
  obtain ⟨h0,h1,ab⟩:=ao
  by_cases h2:i<(dX.length:Int)
  ·have hw:J (i+1)=i+1:=cr (by omega) (by omega)
   obtain ⟨x,R⟩ : ∃x,dX[i.toNat]? = some x:=⟨_,List.getElem?_eq_getElem (by omega)⟩
   unfold nM tT
   simp only [fa,h2,h0,hw,R,C7,decide_true,if_true,and_self,Option.bind_eq_bind,Option.bind_some]
   by_cases e:(!qn gO x)=true
   ·exact .inr ⟨_,by rw [if_pos e],by simp⟩
   ·refine .inl ⟨i+1,by rw [if_neg e],⟨by omega,by omega,fun n j a2 aC=> ?_⟩,by omega⟩
    by_cases c:(n:Int)<i
    ·exact ab n j c aC
    ·have:n=i.toNat:=by omega
     subst this
     rw [R] at aC
     obtain rfl:=Option.some.inj aC
     simpa using e
  ·refine .inr ⟨.inl (),by simp [nM,fa,h2],fun _ n j aC=>ab n j (by have:=fQ aC;omega) aC⟩) 0 ⟨by omega,by omega,fun n j a2=>by omega⟩
 have p4:tE dX gO dX (len_ bS dX) 0=some r:=h1
 rw [h] at p4
 exact h2 (Option.some.inj p4).symm
theorem od (s:cI)(i0:ks s)(h:j2 s=some true):
 (∀(n:Nat) j,s.bZ[n]? = some j→o9 j=some true)∧(∀(n:Nat) m,s.bG[n]? = some m→qn s.bZ m=true)∧s.bZ.length≤6∧s.bG.length≤8:=by
 obtain ⟨p,p1,p2⟩:=M4 s i0
 rw [h] at p1
 obtain rfl:=Option.some.inj p1
 unfold wW at p2
 by_cases h1:6<(s.bZ.length:Int)
 ·simp [fa,h1] at p2
 by_cases h2:8<(s.bG.length:Int)
 ·simp [fa,h1,h2] at p2
 obtain ⟨r,aq⟩:=Ig s i0
 rw [Nf,aq] at p2
 obtain ⟨q,a8,lM⟩:=MS s.bZ s.bG (by omega)
 have d1:decide ((6:Int)<len_ bI s.bZ)=false:=by rw [fa];exact decide_eq_false h1
 have d2:decide ((8:Int)<len_ bS s.bG)=false:=by rw [fa];exact decide_eq_false h2
 rw [d1,d2] at p2
 simp only [yK,yM,a8,Bool.false_eq_true,if_false,Option.bind_eq_bind,Option.bind_some] at p2
 cases r with
 | inr a=>simp at p2
 | inl a =>
  cases q with
  | inr k =>
   have:=lM k rfl
   simp [this] at p2
  | inl b=>exact ⟨Y6 s i0 aq,Yq s.bZ s.bG (by omega) a8,by omega,by omega⟩
theorem Y7 (s:cI)(i0:ks s)(h:j2 s=some true)(k:Int)(h0:0≤k)(h1:k<s.bG.length):
 ∃x y,tN s k=some (x,y)∧w0 s k=some (x,y)∧(-100≤x∧x≤100)∧(-100≤y∧y≤100):=by
 obtain ⟨f1,f2,f3,f4⟩:=od s i0 h
 obtain ⟨m,hm⟩ : ∃x,s.bG[k.toNat]? = some x:=⟨_,List.getElem?_eq_getElem (by omega)⟩
 have LH:=f2 _ m hm
 unfold qn at LH
 simp only [Bool.and_eq_true,decide_eq_true_eq] at LH
 obtain ⟨⟨g1,g2,g3,g4,-⟩,-⟩:=LH
 obtain ⟨a,bA⟩ : ∃x,s.bZ[m.dE.toNat]? = some x:=⟨_,List.getElem?_eq_getElem (by omega)⟩
 obtain ⟨b,aP⟩ : ∃x,s.bZ[m.eg.toNat]? = some x:=⟨_,List.getElem?_eq_getElem (by omega)⟩
 have afX:=Nr a (f1 _ a bA)
 have afY:=Nr b (f1 _ b aP)
 have e1:J (b.jZ-a.jZ)=b.jZ-a.jZ:=cr (by omega) (by omega)
 have e2:J (b.j0-a.j0)=b.j0-a.j0:=cr (by omega) (by omega)
 have dh:0≤k∧k<s.bG.length:=⟨h0,h1⟩
 have br:0≤m.dE∧m.dE<s.bZ.length:=⟨g1,g2⟩
 have cb:0≤m.eg∧m.eg<s.bZ.length:=⟨g3,g4⟩
 refine ⟨b.jZ-a.jZ,b.j0-a.j0,?_,?_,by omega,by omega⟩
 ·unfold tN
  simp only [if_pos dh,hm,if_pos br,if_pos cb,bA,aP,Option.bind_eq_bind,Option.bind_some,e1,e2]
 ·unfold w0
  simp only [if_pos dh,hm,if_pos br,if_pos cb,bA,aP,Option.bind_eq_bind,Option.bind_some,e1,e2]
def rz (l:List Int)(n:Nat)(x:Int):Prop:=0≤x∧x<1000000000∧(∀z,l[n]? = some z→x=z)∧(l[n]? = none→x=0)
theorem uN {l:List Int}(h:cl l){n:Nat}(a2:n<l.length):rz l n l[n]:=by
 have R:=List.getElem?_eq_getElem a2
 have h0:=h.get R
 exact ⟨h0.1,h0.2,fun z cm=>by rw [R] at cm;exact Option.some.inj cm,fun h=>by rw [R] at h;simp at h⟩
theorem xN {l:List Int}{n:Nat}(a2:¬n<l.length):rz l n 0:=by
 have R:l[n]? = none:=by simp;omega
 exact ⟨by omega,by omega,fun z cm=>by rw [R] at cm;simp at cm,fun _=>rfl⟩
theorem rz.take {l:List Int}{n:Nat}{x:Int}(h:rz l n x):V (l.take (n+1))=V (l.take n)+B n*x:=Pb h.2.2.1 h.2.2.2
theorem ZU {a b row:List Int}{carry:Int}{n:Nat}(bA:cl a)(aP:cl b)(ba:carry=0∨carry=1)(qL:a.length≤1000000)(LI:b.length≤1000000)(aq:row.length≤1000001)(Ec:n≤1000001)(a2:n<a.length∨n<b.length∨carry=1):
 ∃x y,rz a n x∧rz b n y∧tP a b carry n row=some (.inl ((carry+x+y) / 1000000000,((n+1:Nat):Int),row++[(carry+x+y) % 1000000000])):=by
 have mi:0≤carry∧carry≤1:=by omega
 unfold tP
 simp only [fL]
 by_cases h1:n<a.length
 ·have hA:=uN bA h1
  have R:=List.getElem?_eq_getElem h1
  rw [if_pos (by simp;omega),if_pos (by omega),Int.toNat_natCast,R]
  simp only [Option.bind_eq_bind,Option.bind_some]
  by_cases h2:n<b.length
  ·have gU:=uN aP h2
   have a0:=List.getElem?_eq_getElem h2
   have gv:=hA.1
   have hr:=hA.2.1
   have iX:=gU.1
   have ko:=gU.2.1
   refine ⟨a[n],b[n],hA,gU,?_⟩
   rw [if_pos (by simp;omega),if_pos (by omega),a0]
   simp only [Option.bind_some]
   rw [cr (x:=carry+a[n]) (by omega) (by omega),cr (x:=carry+a[n]+b[n]) (by omega) (by omega),pC (by omega),mW (by omega),cr (by omega) (by omega),nt (n:=n) (by omega),if_pos (by simp;omega)]
  ·have gv:=hA.1
   have hr:=hA.2.1
   refine ⟨a[n],0,hA,xN h2,?_⟩
   rw [if_neg (by simp;omega),cr (x:=carry+a[n]) (by omega) (by omega),pC (by omega),mW (by omega),cr (by omega) (by omega),nt (n:=n) (by omega),if_pos (by simp;omega),Int.add_zero]
 ·rw [if_neg (by simp;omega)]
  by_cases h2:n<b.length
  ·have gU:=uN aP h2
   have a0:=List.getElem?_eq_getElem h2
   have iX:=gU.1
   have ko:=gU.2.1
   refine ⟨0,b[n],xN h1,gU,?_⟩
   rw [if_pos (by simp;omega),if_pos (by omega),Int.toNat_natCast,a0]
   simp only [Option.bind_eq_bind,Option.bind_some]
   rw [cr (x:=carry+b[n]) (by omega) (by omega),pC (by omega),mW (by omega),cr (by omega) (by omega),nt (n:=n) (by omega),if_pos (by simp;omega),Int.add_zero]
  ·refine ⟨0,0,xN h1,xN h2,?_⟩
   rw [if_neg (by simp;omega),if_pos (by simp;omega),pC (by omega),mW (by omega),cr (by omega) (by omega),nt (n:=n) (by omega),if_pos (by simp;omega),Int.add_zero,Int.add_zero]
theorem ZV {a b:List Int}(bA:cl a)(aP:cl b)(qL:a.length≤900000)(LI:b.length≤900000): ∃r,xe a b=some r∧cl r∧V r=V a+V b∧r.length≤a.length+b.length+1:=by
 obtain ⟨r,aq,h1,h2,ab⟩:=jw (f:=fun w:Int×Int×List Int=>tP a b w.1 w.2.1 w.2.2) (eK:=fun w=> ∃n:Nat,w.2.1=n∧w.2.2.length=n∧(w.1=0∨w.1=1)∧cl w.2.2∧V w.2.2+w.1*B n=V (a.take n)+V (b.take n)∧(n≤a.length∨n≤b.length∨w.1=0)∧n≤a.length+b.length+1) (m:=fun w=>(a.length+b.length+2-w.2.1.toNat))
  (fun r=>cl r∧V r=V a+V b∧r.length≤a.length+b.length+1) (by
    rintro ⟨carry,ii,row⟩ ⟨n,e1,e2,bO,c5,dg,dU,eE⟩
    simp only at e1 e2 bO c5 dg dU
    subst e1
    by_cases a2:n<a.length∨n<b.length∨carry=1
    ·obtain ⟨x,y,R,a0,qF⟩:=ZU (row:=row) bA aP bO (by omega) (by omega) (by omega) (by omega) a2
     have x0:=R.1
     have x1:=R.2.1
     have Sm:=a0.1
     have mv:=a0.2.1
     have Lz:n≤a.length+b.length:=by omega
     refine .inl ⟨_,qF,⟨n+1,rfl,by simp [e2],by simp only;omega,c5.append (cl.cons (by omega) cl.nil),?_,?_,by omega⟩,by simp only;omega⟩
     ·simp only
      rw [uy,e2,l0,k2,AF,R.take,a0.take]
      have:=Int.mul_ediv_add_emod (carry+x+y) 1000000000
      generalize (carry+x+y) / 1000000000=u at *
      generalize (carry+x+y) % 1000000000=t at *
      have ca:t=carry+x+y-1000000000*u:=by omega
      rw [ca]
      grind
     ·simp only
      by_cases h:n+1≤a.length∨n+1≤b.length
      ·omega
      ·
       have afI : ¬n<a.length:=by omega
       have afJ : ¬n<b.length:=by omega
       have hH:x=0:=R.2.2.2 (by simp;omega)
       have iO:y=0:=a0.2.2.2 (by simp;omega)
       omega
    ·refine .inr ⟨row,?_,c5,?_,by omega⟩
     ·unfold tP
      simp only [fL]
      rw [if_neg (by simp;omega),if_neg (by simp;omega),if_neg (by simp;omega)]
     ·have ba:carry=0:=by omega
      rw [ba,List.take_of_length_le (by omega),List.take_of_length_le (by omega)] at dg
      omega) (0,0,[]) ⟨0,rfl,rfl,.inl rfl,cl.nil,by simp [V],by omega,by omega⟩
 unfold xe IK
 rw [aq]
 exact ⟨r,rfl,h1,h2,ab⟩
theorem Y8 {neg:Bool}{r:List Int}(aq:cl r)(aV:r.length≤5000000)(qb:V r<B 60):hI neg r=some (gR (ea neg (V r))):=by
 have h0:=mA aq
 have:hI neg r=hI neg (L (V r)):=by
  unfold hI xd
  have hlen:=(iT h0).2 qb
  rw [q7 aq aV,q7 (gW _) (by omega),ef h0]
 rw [this,pN h0 qb]
theorem Y9 {a b row:List Int}{carry:Int}{n:Nat}(bA:cl a)(aP:cl b)(ba:carry=0∨carry=1)(qL:a.length≤1000000)(a2:n<a.length)(aq:n<row.length):
 ∃x y,rz a n x∧rz b n y∧wU a b a.length carry n row=some (.inl ((carry+x+y) / 1000000000,((n+1:Nat):Int),row.set n ((carry+x+y) % 1000000000))):=by
 have mi:0≤carry∧carry≤1:=by omega
 have hA:=uN bA a2
 have R:=List.getElem?_eq_getElem a2
 have gv:=hA.1
 have hr:=hA.2.1
 unfold wU
 simp only [fL]
 rw [if_pos (by simp;omega),if_pos (by omega),Int.toNat_natCast,R]
 simp only [Option.bind_eq_bind,Option.bind_some]
 by_cases h2:n<b.length
 ·have gU:=uN aP h2
  have a0:=List.getElem?_eq_getElem h2
  have iX:=gU.1
  have ko:=gU.2.1
  refine ⟨a[n],b[n],hA,gU,?_⟩
  rw [if_pos (by simp;omega),if_pos (by omega),a0]
  simp only [Option.bind_some]
  rw [if_pos (by omega),if_pos (by omega),cr (x:=a[n]+carry) (by omega) (by omega),cr (x:=a[n]+carry+b[n]) (by omega) (by omega),pC (by omega),mW (by omega),cr (by omega) (by omega),nt (n:=n) (by omega),Nat.zero_add,Int.add_comm a[n] carry]
 ·refine ⟨a[n],0,hA,xN h2,?_⟩
  rw [if_neg (by simp;omega),if_pos (by omega),if_pos (by omega),cr (x:=a[n]+carry) (by omega) (by omega),pC (by omega),mW (by omega),cr (by omega) (by omega),nt (n:=n) (by omega),Nat.zero_add,Int.add_zero,Int.add_comm a[n] carry]
theorem Za {a b:List Int}(bA:cl a)(aP:cl b)(qL:a.length≤900000)(tl:b.length≤a.length):
 ∃r,zG a b a.length 0 0 (List.replicate (a.length+1) 0)=some r∧(r.1=0∨r.1=1)∧cl r.2∧r.2.length=a.length+1∧V r.2+r.1*B a.length=V a+V b∧r.2[a.length]? = some 0:=by
 refine jw (eK:=fun w:Int×Int×List Int=> ∃n:Nat,w.2.1=n∧n≤a.length∧(w.1=0∨w.1=1)∧cl w.2.2∧w.2.2.length=a.length+1∧V w.2.2+w.1*B n=V (a.take n)+V (b.take n)∧ ∀j,n≤j→j<a.length+1→w.2.2[j]? = some 0) (m:=fun w=>a.length-w.2.1.toNat) _ ?_ _ ⟨0,rfl,by omega,.inl rfl,cl.Lh _,by simp,by simp [V,Ko],fun j _ h=>by simp [List.getElem?_replicate];omega⟩
 rintro ⟨carry,ii,row⟩ ⟨n,e1,e2,bO,c5,dg,dU,eE⟩
 simp only at e1 bO c5 dg dU eE ⊢
 subst e1
 by_cases a2:n=a.length
 ·subst a2
  refine .inr ⟨(carry,row),by simp [wU],bO,c5,dg,?_,eE _ (Nat.le_refl _) (by omega)⟩
  rw [List.take_length,List.take_of_length_le tl] at dU
  exact dU
 ·obtain ⟨x,y,R,a0,qF⟩:=Y9 (row:=row) (n:=n) bA aP bO (by omega) (by omega) (by omega)
  have x0:=R.1
  have x1:=R.2.1
  have Sm:=a0.1
  have mv:=a0.2.1
  refine .inl ⟨_,qF,⟨n+1,rfl,by omega,by simp only;omega,c5.set (by omega),by simpa using dg,?_,fun j h1 h2=> ?_⟩,by simp only;omega⟩
  ·simp only
   rw [rl (eE n (Nat.le_refl _) (by omega)),l0,R.take,a0.take]
   have:=Int.mul_ediv_add_emod (carry+x+y) 1000000000
   generalize (carry+x+y) / 1000000000=u at *
   generalize (carry+x+y) % 1000000000=t at *
   have ca:t=carry+x+y-1000000000*u:=by omega
   rw [ca]
   grind
  ·simp only
   rw [List.getElem?_set_ne (by omega)]
   exact eE j (by omega) h2
theorem OM {a b:List Int}(bA:cl a)(aP:cl b)(qL:a.length≤900000)(tl:b.length≤a.length):
 (if 0≤(J ((len_ eI a)+(1:Int)))∧(8:Int)*(J ((len_ eI a)+(1:Int)))≤281474976710656∧(J ((len_ eI a)+(1:Int)))<9223372036854775808 then
   (zG a b (len_ eI a) 0 0 (List.replicate (J ((len_ eI a)+(1:Int))).toNat 0:List Int)).bind fun bd =>
   if 0≤(len_ eI a)∧(len_ eI a)<(bd.2.length:Nat) then
   if (0+(len_ eI a).toNat)<bd.2.length then
   (pL (bd.2.set (0+(len_ eI a).toNat) bd.1)).bind fun b4=>some b4
   else none
   else none
   else none)=some (L (V a+V b)):=by
 obtain ⟨r,aq,h1,h2,ab,au,aA⟩:=Za bA aP qL tl
 rw [fL,nt (by omega),if_pos (by omega),Int.toNat_natCast,aq,Option.bind_some,if_pos (by omega),Int.toNat_natCast,Nat.zero_add,if_pos (by omega)]
 have Ba:cl (r.2.set a.length r.1):=h2.set (by omega)
 rw [xD Ba (by simp;omega),rl aA,Option.bind_some]
 congr 2
 rw [← au]
 grind
theorem aay {a b:List Int}(bA:cl a)(aP:cl b)(qL:a.length≤900000)(LI:b.length≤900000):xm a b=some (L (V a+V b)):=by
 unfold xm
 by_cases h:a.length<b.length
 ·rw [if_pos (by rw [fL,fL];simpa using h)]
  have:=OM aP bA LI (by omega)
  rw [Int.add_comm (V a)]
  exact this
 ·rw [if_neg (by rw [fL,fL];simpa using h)]
  exact OM bA aP qL (by omega)
theorem Yr {a b row:List Int}{less:Int}{n:Nat}(bA:cl a)(aP:cl b)(aV:less=0∨less=1)(qL:a.length≤1000000)(a2:n<a.length)(aq:n<row.length):
 ∃x y,rz a n x∧rz b n y∧wS b a a.length less n row=some (.inl (if x-less-y<0 then (1,((n+1:Nat):Int),row.set n (x-less-y+1000000000)) else (0,((n+1:Nat):Int),row.set n (x-less-y)))):=by
 have mi:0≤less∧less≤1:=by omega
 have hA:=uN bA a2
 have R:=List.getElem?_eq_getElem a2
 have gv:=hA.1
 have hr:=hA.2.1
 unfold wS
 simp only [fL]
 rw [if_pos (by simp;omega),if_pos (by omega),Int.toNat_natCast,R]
 simp only [Option.bind_eq_bind,Option.bind_some]
 by_cases h2:n<b.length
 ·have gU:=uN aP h2
  have a0:=List.getElem?_eq_getElem h2
  have iX:=gU.1
  have ko:=gU.2.1
  refine ⟨a[n],b[n],hA,gU,?_⟩
  rw [if_pos (by simp;omega),if_pos (by omega),a0]
  simp only [Option.bind_some]
  rw [cr (x:=a[n]-less) (by omega) (by omega),cr (x:=a[n]-less-b[n]) (by omega) (by omega),nt (n:=n) (by omega),cr (x:=a[n]-less-b[n]+1000000000) (by omega) (by omega),Nat.zero_add]
  by_cases h:a[n]-less-b[n]<0
  ·rw [if_pos (by simpa using h),if_pos h,if_pos (by omega),if_pos (by omega)]
  ·rw [if_neg (by simpa using h),if_neg h,if_pos (by omega),if_pos (by omega)]
 ·refine ⟨a[n],0,hA,xN h2,?_⟩
  rw [if_neg (by simp;omega),cr (x:=a[n]-less) (by omega) (by omega),nt (n:=n) (by omega),cr (x:=a[n]-less+1000000000) (by omega) (by omega),Nat.zero_add,Int.sub_zero]
  by_cases h:a[n]-less<0
  ·rw [if_pos (by simpa using h),if_pos h,if_pos (by omega),if_pos (by omega)]
  ·rw [if_neg (by simpa using h),if_neg h,if_pos (by omega),if_pos (by omega)]
theorem Ph {a b:List Int}(bA:cl a)(aP:cl b)(hlen:b.length≤a.length)(tl:V b≤V a)(qL:a.length≤900000):sP a b=some (L (V a-V b)):=by
 have : ∃r,I9 b a a.length 0 0 (List.replicate a.length 0)=some r∧cl r∧r.length=a.length∧V r=V a-V b:=by
  refine jw (eK:=fun w:Int×Int×List Int=> ∃n:Nat,w.2.1=n∧n≤a.length∧(w.1=0∨w.1=1)∧cl w.2.2∧w.2.2.length=a.length∧V w.2.2-w.1*B n=V (a.take n)-V (b.take n)∧ ∀j,n≤j→j<a.length→w.2.2[j]? = some 0) (m:=fun w=>a.length-w.2.1.toNat) _ ?_ _ ⟨0,rfl,by omega,.inl rfl,cl.Lh _,by simp,by simp [V,Ko],fun j _ h=>by simp [List.getElem?_replicate];omega⟩
  rintro ⟨less,ii,row⟩ ⟨n,e1,e2,bO,c5,dg,dU,eE⟩
  simp only at e1 bO c5 dg dU eE ⊢
  subst e1
  by_cases a2:n=a.length
  ·subst a2
   refine .inr ⟨row,by simp [wS],c5,dg,?_⟩
   rw [List.take_length,List.take_of_length_le hlen] at dU
   have h2:=m6 c5
   rw [dg] at h2
   rcases bO with rfl|rfl<;>omega
  ·obtain ⟨x,y,R,a0,qF⟩:=Yr (row:=row) (n:=n) bA aP bO (by omega) (by omega) (by omega)
   have x0:=R.1
   have x1:=R.2.1
   have Sm:=a0.1
   have mv:=a0.2.1
   rw [qF]
   refine .inl ⟨_,rfl,?_⟩
   by_cases h:x-less-y<0
   ·rw [if_pos h]
    refine ⟨⟨n+1,rfl,by omega,.inr rfl,c5.set (by omega),by simpa using dg,?_,fun j h1 h2=> ?_⟩,by simp only;omega⟩
    ·simp only
     rw [rl (eE n (Nat.le_refl _) (by omega)),l0,R.take,a0.take]
     grind
    ·simp only
     rw [List.getElem?_set_ne (by omega)]
     exact eE j (by omega) h2
   ·rw [if_neg h]
    refine ⟨⟨n+1,rfl,by omega,.inl rfl,c5.set (by omega),by simpa using dg,?_,fun j h1 h2=> ?_⟩,by simp only;omega⟩
    ·simp only
     rw [rl (eE n (Nat.le_refl _) (by omega)),R.take,a0.take]
     grind
    ·simp only
     rw [List.getElem?_set_ne (by omega)]
     exact eE j (by omega) h2
 obtain ⟨r,aq,h1,h2,ab⟩:=this
 unfold sP
 simp only [fL]
 rw [if_pos (by omega),Int.toNat_natCast,aq]
 simp only [Option.bind_eq_bind,Option.bind_some]
 rw [xD h1 (by omega),ab]
 rfl
theorem Qj {a b:Int}(h:decide (a<0)=decide (b<0)):ea (decide (a<0)) ((a.natAbs:Int)+(b.natAbs:Int))=a+b:=by
 have cx:a<0↔b<0:=by simpa using h
 unfold ea
 by_cases h1:a<0
 ·have:=cx.1 h1
  simp only [h1,decide_true,if_true]
  omega
 ·have : ¬b<0:=fun aP=>h1 (cx.2 aP)
  simp only [h1,decide_false,Bool.false_eq_true,if_false]
  omega
theorem DD {a b:Int}(h:¬decide (a<0)=decide (b<0)):ea (decide (a<0)) ((a.natAbs:Int)-(b.natAbs:Int))=a+b∧ea (decide (b<0)) ((b.natAbs:Int)-(a.natAbs:Int))=a+b:=by
 have cx : ¬(a<0↔b<0):=by simpa using h
 unfold ea
 by_cases h1:a<0
 ·have h2 : ¬b<0:=fun aP=>cx ⟨fun _=>aP,fun _=>h1⟩
  simp only [h1,h2,decide_true,if_true,decide_false,Bool.false_eq_true,if_false]
  omega
 ·have h2:b<0:=by
   apply Classical.byContradiction
   intro aP
   exact cx ⟨fun h=>absurd h h1,fun h=>absurd h aP⟩
  simp only [h1,h2,decide_true,if_true,decide_false,Bool.false_eq_true,if_false]
  omega
theorem Dt {x y:Int}(R:0≤x)(Li:x≤y):(L x).length≤(L y).length:=by
 apply (iT R).2
 have:=m6 (gW y)
 rw [ef (by omega)] at this
 omega
theorem ON {a b:Int}(bA:(a.natAbs:Int)<B 50)(aP:(b.natAbs:Int)<B 50):pK (gR a) (gR b)=some (gR (a+b)):=by
 have sA:=(iT (k:=50) (n:=a.natAbs) (by omega)).2 bA
 have vv:=(iT (k:=50) (n:=b.natAbs) (by omega)).2 aP
 have qb:B 50+B 50≤B 60:=by
  have h1:B 51≤B 60:=qs (by omega)
  have h2:=ov 50
  rw [l0] at h1
  omega
 have bV:pK (gR a) (gR b)=(if (decide (a<0) == decide (b<0))=true then (xe (L a.natAbs) (L b.natAbs)).bind fun r2=>(hI (decide (a<0)) r2).bind fun bh=>some bh else (pJ (L a.natAbs) (L b.natAbs)).bind fun r2=>if (decide ((0:Int)≤r2))=true then (rJ (L a.natAbs) (L b.natAbs)).bind fun aK=>(hI (decide (a<0)) aK).bind fun b4=>some b4 else (rJ (L b.natAbs) (L a.natAbs)).bind fun aK=>(hI (decide (b<0)) aK).bind fun b4=>some b4):=rfl
 rw [bV]
 by_cases h:decide (a<0)=decide (b<0)
 ·rw [if_pos (by simpa using h)]
  obtain ⟨r,r1,r2,bd,bh⟩:=ZV (gW a.natAbs) (gW b.natAbs) (by omega) (by omega)
  rw [ef (by omega),ef (by omega)] at bd
  rw [r1,Option.bind_some,Y8 r2 (by omega) (by omega),bd,Qj h]
  rfl
 ·rw [if_neg (by simpa using h),rU (i9 _) (i9 _) (by omega),ef (by omega),ef (by omega),Option.bind_some]
  by_cases ba:(b.natAbs:Int)≤a.natAbs
  ·have ve:0≤kS (a.natAbs:Int) b.natAbs:=by
    apply Int.not_lt.mp
    intro h1
    have:=sU.1 h1
    omega
   rw [if_pos (by simpa using ve),sub_eq (gW _) (gW _) (Dt (by omega) ba) (by rw [ef (by omega),ef (by omega)];exact ba) (by omega),ef (by omega),ef (by omega),Option.bind_some,pN (by omega) (by omega),(DD h).1]
   rfl
  ·have ve : ¬0≤kS (a.natAbs:Int) b.natAbs:=by
    have:=sU.2 (show (a.natAbs:Int)<b.natAbs by omega)
    omega
   rw [if_neg (by simpa using ve),sub_eq (gW _) (gW _) (Dt (by omega) (by omega)) (by rw [ef (by omega),ef (by omega)];omega) (by omega),ef (by omega),ef (by omega),Option.bind_some,pN (by omega) (by omega),(DD h).2]
   rfl
theorem ZW {a b:Int}(bA:(a.natAbs:Int)<B 50)(aP:(b.natAbs:Int)<B 50):wY (gR a) (gR b)=some (gR (a+b)):=by
 have sA:=(iT (k:=50) (n:=a.natAbs) (by omega)).2 bA
 have vv:=(iT (k:=50) (n:=b.natAbs) (by omega)).2 aP
 have bV:wY (gR a) (gR b)=((qf (L a.natAbs) (L b.natAbs)).bind fun r1=>if (decide (a<0) == decide (b<0))=true then (xm (L a.natAbs) (L b.natAbs)).bind fun r2=>(mY (decide (a<0)) r2).bind fun bh=>some bh else if (decide ((0:Int)≤r1))=true then (sP (L a.natAbs) (L b.natAbs)).bind fun aK=>(mY (decide (a<0)) aK).bind fun b4=>some b4 else (sP (L b.natAbs) (L a.natAbs)).bind fun aK=>(mY (decide (b<0)) aK).bind fun b4=>some b4):=rfl
 rw [bV,Of (i9 _) (i9 _) (by omega),ef (by omega),ef (by omega),Option.bind_some]
 by_cases h:decide (a<0)=decide (b<0)
 ·rw [if_pos (by simpa using h),aay (gW _) (gW _) (by omega) (by omega),ef (by omega),ef (by omega),Option.bind_some,rN (by omega),Qj h]
  rfl
 ·rw [if_neg (by simpa using h)]
  by_cases ba:(b.natAbs:Int)≤a.natAbs
  ·have ve:0≤kS (a.natAbs:Int) b.natAbs:=by
    apply Int.not_lt.mp
    intro h1
    have:=sU.1 h1
    omega
   rw [if_pos (by simpa using ve),Ph (gW _) (gW _) (Dt (by omega) ba) (by rw [ef (by omega),ef (by omega)];exact ba) (by omega),ef (by omega),ef (by omega),Option.bind_some,rN (by omega),(DD h).1]
   rfl
  ·have ve : ¬0≤kS (a.natAbs:Int) b.natAbs:=by
    have:=sU.2 (show (a.natAbs:Int)<b.natAbs by omega)
    omega
   rw [if_neg (by simpa using ve),Ph (gW _) (gW _) (Dt (by omega) (by omega)) (by rw [ef (by omega),ef (by omega)];omega) (by omega),ef (by omega),ef (by omega),Option.bind_some,rN (by omega),(DD h).2]
   rfl
theorem Ki {b:Int}:ea (!(decide (b<0))) (b.natAbs:Int) = -b:=by
 unfold ea
 by_cases h:b<0
 ·simp only [h,decide_true,Bool.not_true,Bool.false_eq_true,if_false]
  omega
 ·simp only [h,decide_false,Bool.not_false,if_true]
  omega
theorem Zb {a b:Int}(bA:(a.natAbs:Int)<B 50)(aP:(b.natAbs:Int)<B 50):tU (gR a) (gR b)=some (gR (a-b)):=by
 have bV:tU (gR a) (gR b)=(((mY (!(decide (b<0))) (L b.natAbs)).bind fun r=>some r).bind fun r1=>(wY (gR a) r1).bind fun bd=>some bd):=rfl
 rw [bV,rN (by omega),Ki,Option.bind_some,Option.bind_some,ZW bA (by omega),Option.bind_some,Int.sub_eq_add_neg]
theorem Fr.neg {q:Int×Int}(h:Fr q):Fr (-q.1,q.2):=⟨h.pos,by simp only;rw [Int.neg_gcd];exact h.RR,by simp only;have:=h.num;omega,h.den⟩
theorem Zc {q:Int×Int}(h:Fr q):uj (mk q)=some (mk (-q.1,q.2)):=by
 have h1:=h.num
 have h2:=h.sb
 have ab:=Kg
 have bV:uj (mk q)=((hI (!(decide (q.1<0))) (L q.1.natAbs)).bind fun r1=>if (([]:List Int)++L q.2).length*8≤140737488355328 then some (⟨r1,([]:List Int)++L q.2⟩:aL) else none):=rfl
 rw [bV,pN (by omega) (by omega),Ki,Option.bind_some,if_pos (by simp;omega)]
 rfl
theorem Pj {p q:Int×Int}(aj:Fr p)(a8:Fr q):((p.1*q.2).natAbs:Int)<B 48∧(L (p.1.natAbs*q.2:Int)).length≤48∧0≤(p.1.natAbs*q.2:Int):=by
 have aX:=a8.pos
 have bb:=sV (x:=p.1.natAbs) (y:=q.2) (by omega) (by omega) aj.num a8.den
 have B9:0≤(p.1.natAbs:Int)*q.2:=Int.mul_nonneg (by omega) (by omega)
 rw [Kh (by omega)]
 exact ⟨(iT B9).1 bb,bb,B9⟩
theorem aa4:B 48+B 48≤B 50:=by
 have h1:B 49≤B 50:=qs (by omega)
 have h2:=ov 48
 rw [l0] at h1
 omega
theorem Zd {p q:Int×Int}(aj:Fr p)(a8:Fr q):q5 (mk p) (mk q)=some (enc (low (p.1*q.2+q.1*p.2) (p.2*q.2))):=by
 have h1:=aj.tb
 have h2:=aj.sb
 have ab:=a8.tb
 have au:=a8.sb
 have aA:=aj.pos
 have aX:=a8.pos
 have Q6:=aj.num
 have n3:=a8.num
 have afK:=aj.den
 have afL:=a8.den
 have gU:=aa4
 have aeX:B 24≤B 48:=qs (by omega)
 have aeY:B 50≤B 60:=qs (by omega)
 obtain ⟨br,cb,jg⟩:=Pj aj a8
 obtain ⟨d1,d2,d3⟩:=Pj a8 aj
 have ae6:=ov 48
 have e1:hE (L p.1.natAbs) (L q.2)=some (L ((p.1.natAbs:Int)*q.2)):=by
  rw [mul_eq (gW _) (gW _) (by omega) (by omega),ef (by omega),ef (by omega)]
 have e2:hE (L q.1.natAbs) (L p.2)=some (L ((q.1.natAbs:Int)*p.2)):=by
  rw [mul_eq (gW _) (gW _) (by omega) (by omega),ef (by omega),ef (by omega)]
 have bO:hI (decide (p.1<0)) (L ((p.1.natAbs:Int)*q.2))=some (gR (p.1*q.2)):=by
  rw [pN jg (by rw [← Kh (by omega)];omega),Ag]
 have c5:hI (decide (q.1<0)) (L ((q.1.natAbs:Int)*p.2))=some (gR (q.1*p.2)):=by
  rw [pN d3 (by rw [← Kh (by omega)];omega),Ag]
 have dg:pK (gR (p.1*q.2)) (gR (q.1*p.2))=some (gR (p.1*q.2+q.1*p.2)):=ON (by omega) (by omega)
 have bi:=sV (x:=p.2) (y:=q.2) (by omega) (by omega) aj.den a8.den
 have dU:hE (L p.2) (L q.2)=some (L (p.2*q.2)):=by
  rw [mul_eq (gW _) (gW _) (by omega) (by omega),ef (by omega),ef (by omega)]
 have QV:(L (p.1*q.2+q.1*p.2).natAbs).length≤50:=(iT (by omega)).2 (by omega)
 have eE:nO (decide (p.1*q.2+q.1*p.2<0)) (L (p.1*q.2+q.1*p.2).natAbs) (L (p.2*q.2))=some (enc (low (p.1*q.2+q.1*p.2) (p.2*q.2))):=by
  rw [JB (by omega) (Int.mul_pos aA aX) (by omega) (by omega)]
  have:ea (decide (p.1*q.2+q.1*p.2<0)) ((p.1*q.2+q.1*p.2).natAbs:Int)=p.1*q.2+q.1*p.2:=by
   have:=Ag (a:=p.1*q.2+q.1*p.2) (b:=1)
   rwa [Int.mul_one,Int.mul_one] at this
  rw [this]
 have Q1:((hE (L p.1.natAbs) (L q.2)).bind fun b4=>(hI (decide (p.1<0)) b4).bind fun b5=>(hE (L q.1.natAbs) (L p.2)).bind fun c0=>(hI (decide (q.1<0)) c0).bind fun ex=>(pK b5 ex).bind fun gu=>(hE (L p.2) (L q.2)).bind fun gi=>(nO gu.cJ gu.cw gi).bind fun oL=>some oL)=some (enc (low (p.1*q.2+q.1*p.2) (p.2*q.2))):=by
  rw [e1,Option.bind_some,bO,Option.bind_some,e2,Option.bind_some,c5,Option.bind_some,dg,Option.bind_some,dU,Option.bind_some]
  show (nO (decide (p.1*q.2+q.1*p.2<0)) (L (p.1*q.2+q.1*p.2).natAbs) (L (p.2*q.2))).bind _=_
  rw [eE,Option.bind_some]
 have bV:q5 (mk p) (mk q)=((qh (L p.2)).bind fun r1=>if r1=true then (qh (L q.2)).bind fun bh=>if bh=true then (pK (gR p.1) (gR q.1)).bind fun b4=>(nO b4.cJ b4.cw ([1]:List Int)).bind fun b5=>some b5 else ((hE (L p.1.natAbs) (L q.2)).bind fun b4=>(hI (decide (p.1<0)) b4).bind fun b5=>(hE (L q.1.natAbs) (L p.2)).bind fun c0=>(hI (decide (q.1<0)) c0).bind fun ex=>(pK b5 ex).bind fun gu=>(hE (L p.2) (L q.2)).bind fun gi=>(nO gu.cJ gu.cw gi).bind fun oL=>some oL) else ((hE (L p.1.natAbs) (L q.2)).bind fun b4=>(hI (decide (p.1<0)) b4).bind fun b5=>(hE (L q.1.natAbs) (L p.2)).bind fun c0=>(hI (decide (q.1<0)) c0).bind fun ex=>(pK b5 ex).bind fun gu=>(hE (L p.2) (L q.2)).bind fun gi=>(nO gu.cJ gu.cw gi).bind fun oL=>some oL)):=rfl
 rw [bV,At (by omega),Option.bind_some]
 by_cases ae:p.2=1
 ·rw [if_pos (by simpa using ae),At (by omega),Option.bind_some]
  by_cases aS:q.2=1
  ·rw [if_pos (by simpa using aS),ON (by omega) (by omega),Option.bind_some]
   have gJ:p.1*q.2+q.1*p.2=p.1+q.1:=by rw [ae,aS,Int.mul_one,Int.mul_one]
   have Sn:p.2*q.2=1:=by rw [ae,aS];rfl
   rw [gJ,Sn,QG] at eE
   rw [gJ,Sn]
   show (nO (decide (p.1+q.1<0)) (L (p.1+q.1).natAbs) [1]).bind _=_
   rw [eE,Option.bind_some]
  ·rw [if_neg (by simpa using aS)]
   exact Q1
 ·rw [if_neg (by simpa using ae)]
  exact Q1
def pR (n:Int):Bool:=decide (-100≤n∧n≤100)
def qy (vx:Nat)(l:List Int):Bool:=decide (l.length=2*vx) && l.all pR
theorem Ys (n:Int):zF n=some (pR n):=by
 unfold zF pR
 by_cases h : -100≤n<;>simp [h]
theorem OO (s:cI)(p:Bool)(aj:j2 s=some p)(qX:p=true→s.bZ.length≤6)(l:List Int)(aV:l.length≤maxLen):sJ s l=some (p && qy s.bZ.length l):=by
 have hm:=xo
 unfold sJ
 simp only [aj,Option.bind_eq_bind,Option.bind_some,fa]
 cases p with
 | false=>rfl
 | true =>
  have qX:=qX rfl
  have hw:J (2*((s.bZ.length:Nat):Int))=2*((s.bZ.length:Nat):Int):=cr (by omega) (by omega)
  rw [hw]
  unfold qy
  by_cases e:l.length=2*s.bZ.length
  ·have h1:II l (l.length:Nat) 0=some (if l.all pR then .inl () else .inr ()):=by
    refine O5 (f:=fun w=>wE l (l.length:Nat) w) l pR (fun n x R=> ?_) ?_
    ·have dC:=fQ R
     unfold wE
     have c:(n:Int)<(l.length:Int):=by omega
     have dH:0≤(n:Int)∧(n:Int)<(l.length:Int):=by omega
     simp only [decide_eq_true c,if_true,if_pos dH,Int.toNat_natCast,R,Option.bind_eq_bind,Option.bind_some,pM]
     rw [i1 (by omega)]
     unfold pR
     by_cases q : -100≤x∧x≤100
     ·simp [q]
     ·rw [decide_eq_false q];simp
    ·simp [wE]
   have c:((l.length:Int) != 2*(s.bZ.length:Int))=false:=by simp;omega
   simp only [c,h1,Bool.false_eq_true,if_false,if_true,Option.bind_some]
   cases l.all pR<;>simp [e]
  ·have c:((l.length:Int) != 2*(s.bZ.length:Int))=true:=by simp;omega
   simp only [c,if_true]
   simp [e]
theorem XR (s:cI)(qX:s.bZ.length≤6)(l:List Int)(aV:l.length≤maxLen):zx s l=some (qy s.bZ.length l):=by
 have hm:=xo
 have hw:J (2*((s.bZ.length:Nat):Int))=2*((s.bZ.length:Nat):Int):=cr (by omega) (by omega)
 unfold zx Ce Cj qy
 simp only [fa,hw,Option.bind_eq_bind]
 obtain ⟨r,h1,h2⟩:=YK (f:=fun w=>vy l (l.length:Nat) w) l (fun n=> !pR n) (fun n x R=>by
  have dC:=fQ R
  unfold vy CJ
  have c:(n:Int)<(l.length:Int):=by omega
  have dH:0≤(n:Int)∧(n:Int)<(l.length:Int):=by omega
  simp only [decide_eq_true c,if_true,if_pos dH,Int.toNat_natCast,R,Option.bind_eq_bind,Option.bind_some,Ys]
  rw [i1 (by omega)]
  cases pR x<;>rfl) (by simp [vy])
 have p4:Fa l (l.length:Nat) 0=some r:=h1
 rw [p4]
 have aca:(l.any fun n=> !pR n) = !l.all pR:=by
  rw [List.not_all_eq_any_not]
 rw [aca] at h2
 by_cases e:l.length=2*s.bZ.length
 ·have c:((l.length:Int) == 2*(s.bZ.length:Int))=true:=by simp;omega
  rw [c]
  rcases h2 with ⟨k,rfl,a5,bA⟩|⟨rfl,bA⟩
  ·simp only [Bool.not_eq_true'] at bA
   simp [e,bA,a5]
  ·simp only [Bool.not_eq_false'] at bA
   simp [e,bA]
 ·have c:((l.length:Int) == 2*(s.bZ.length:Int))=false:=by simp;omega
  rw [c]
  simp [e]
theorem pD {i:Int}{a:Nat}(h0:0≤i)(h1:i≤100)(bA:a≤1):J (J (2*i)+(a:Int))=(((2*i+a).toNat:Nat):Int):=by
 rw [cr (x:=2*i) (by omega) (by omega),cr (by omega) (by omega)]
 omega
theorem XS (l:List Int)(h:l.length≤1048576):zm l=some l:=by
 have aP : ∀(n:Nat) x (row:List Int),l[n]? = some x→row.length=l.length→tK l n row=some (.inl (((n+1:Nat):Int),row.set n x)):=by
  intro n x row R aq
  obtain ⟨a2,rfl⟩:=List.getElem?_eq_some_iff.1 R
  have hw:J ((n:Int)+1)=((n+1:Nat):Int):=by rw [cr (by omega) (by omega)];rfl
  simp only [tK,fa,hw]
  simp [a2,aq]
 have he : ∀row:List Int,tK l l.length row=some (.inr row):=by
  intro row
  simp [tK,fa]
 have h1:Ii l 0 (List.replicate (len_ eI l).toNat 0)=some l :=
  Jw l (List.replicate (len_ eI l).toNat 0) (by simp [fa]) aP he
 unfold zm
 rw [h1,if_pos (by rw [fa];omega)]
 simp [fa]
theorem Xb (l:List bE)(h:l.length≤1048576):y8 l=some l:=by
 have aP : ∀(n:Nat) x (row:List bE),l[n]? = some x→row.length=l.length→tH l n row=some (.inl (((n+1:Nat):Int),row.set n x)):=by
  intro n x row R aq
  obtain ⟨a2,rfl⟩:=List.getElem?_eq_some_iff.1 R
  have hw:J ((n:Int)+1)=((n+1:Nat):Int):=by rw [cr (by omega) (by omega)];rfl
  simp only [tH,fa,hw,C0]
  simp [a2,aq]
 have he : ∀row:List bE,tH l l.length row=some (.inr row):=by
  intro row
  simp [tH,fa]
 have h1:HD l 0 (List.replicate (len_ bI l).toNat (⟨ByteArray.empty,0,0,false⟩:bE))=some l :=
  Jw l _ (by simp [fa]) aP he
 unfold y8
 rw [h1,if_pos (by rw [fa];omega)]
 simp [fa]
theorem WX (l:List bP)(h:l.length≤1048576):y5 l=some l:=by
 have aP : ∀(n:Nat) x (row:List bP),l[n]? = some x→row.length=l.length→tG l n row=some (.inl (((n+1:Nat):Int),row.set n x)):=by
  intro n x row R aq
  obtain ⟨a2,rfl⟩:=List.getElem?_eq_some_iff.1 R
  have hw:J ((n:Int)+1)=((n+1:Nat):Int):=by rw [cr (by omega) (by omega)];rfl
  simp only [tG,fa,hw,CV]
  simp [a2,aq]
 have he : ∀row:List bP,tG l l.length row=some (.inr row):=by
  intro row
  simp [tG,fa]
 have h1:G7 l 0 (List.replicate (len_ bS l).toNat (⟨0,0,0⟩:bP))=some l :=
  Jw l _ (by simp [fa]) aP he
 unfold y5
 rw [h1,if_pos (by rw [fa];omega)]
 simp [fa]
theorem Wj (s:cI)(h1:s.bZ.length≤1048576)(h2:s.bG.length≤1048576):y2 s=some (s.bZ,s.bG):=by
 simp [y2,Xb _ h1,WX _ h2]
def LJ (P:List (List Int)):bt→Prop
 | none=>True
 | some (k,c)=> ∃x,P[k]? = some x∧x.length=c∧c≤1048576
theorem LJ.set {P:List (List Int)}{k:Nat}{x y:List Int}(R:P[k]? = some x)(a0:y.length=x.length){h:bt}(fI:LJ P h):LJ (P.set k y) h:=by
 cases h with
 | none=>trivial
 | some p =>
  obtain ⟨j,c⟩:=p
  obtain ⟨z,h1,h2,ab⟩:=fI
  by_cases aC:k=j
  ·subst aC
   rw [R] at h1
   obtain rfl:=Option.some.inj h1
   exact ⟨y,by rw [List.getElem?_set,if_pos rfl,if_pos (fQ R)],by omega,ab⟩
  ·exact ⟨z,by rw [List.getElem?_set,if_neg aC];exact h1,h2,ab⟩
def kI:List bE→Nat→List Nat
 | [],_=>[]
 | x::l,n=>if x.k3 then kI l (n+1) else n::kI l (n+1)
theorem JP : ∀(l:List bE) (n i:Nat),i∈kI l n→n≤i∧i<n+l.length
 | [],n,i,h=>by simp [kI] at h
 | x::l,n,i,h=>by
  rw [kI] at h
  simp only [List.length_cons]
  split at h
  ·have:=JP l (n+1) i h;omega
  ·rcases List.mem_cons.1 h with h|h
   ·omega
   ·have:=JP l (n+1) i h;omega
theorem Pk : ∀(l:List bE) (n:Nat),(kI l n).length≤l.length
 | [],n=>by simp [kI]
 | x::l,n=>by
  rw [kI]
  have:=Pk l (n+1)
  split<;>simp only [List.length_cons]<;>omega
theorem Yt {l:List bE}{n:Nat}{x:bE}(h:l[n]? = some x)(m:Nat):kI (l.drop n) m=if x.k3 then kI (l.drop (n+1)) (m+1) else m::kI (l.drop (n+1)) (m+1):=by
 rw [O6 h,kI]
theorem OP {f:Int×List Int→Option ((Int×List Int)⊕List Int)}(gO:List bE)(qX:gO.length≤1000)
 (h : ∀(n:Nat) acc x,gO[n]? = some x→f ((n:Int),acc)=if x.k3=true then some (.inl (J ((n:Int)+1),acc)) else if (acc++[(n:Int)]).length*8≤140737488355328 then some (.inl (J ((n:Int)+1),acc++[(n:Int)])) else none)
 (he : ∀acc,f ((gO.length:Int),acc)=some (.inr acc)):iter f ((0:Int),[])=some ((kI gO 0).map (fun n:Nat=>(n:Int))):=by
 obtain ⟨s,h1,h2⟩:=hY (fun (n:Nat) (acc:List Int)=>((n:Int),acc)) gO.length (fun n acc=>acc++(kI (gO.drop n) n).map (fun n:Nat=>(n:Int))=(kI gO 0).map (fun n:Nat=>(n:Int))∧acc.length≤n) (fun acc=>acc) (f:=f) (fun n a2 acc cE=>by
  obtain ⟨cE,aV⟩:=cE
  have R:=List.getElem?_eq_getElem a2
  rw [Yt R] at cE
  rw [h n acc _ R,nt (by omega)]
  by_cases c:gO[n].k3=true
  ·rw [if_pos c] at cE ⊢
   exact ⟨_,rfl,cE,by omega⟩
  ·rw [if_neg c] at cE ⊢
   rw [if_pos (by simp only [List.length_append,List.length_cons,List.length_nil];omega)]
   refine ⟨_,rfl,?_,by simp only [List.length_append,List.length_cons,List.length_nil];omega⟩
   rw [List.append_assoc]
   exact cE) (fun acc _=>he acc) [] ⟨by rw [List.drop_zero];rfl,by simp⟩
 obtain ⟨h2,-⟩:=h2
 rw [List.drop_length] at h2
 simp only [kI,List.map_nil,List.append_nil] at h2
 subst h2
 exact h1
theorem Js (s:cI)(qX:s.bZ.length≤1000):ua s=some ((kI s.bZ 0).map (fun n:Nat=>(n:Int))):=by
 unfold ua Ix
 rw [fa,OP s.bZ qX (fun n acc x R=>by
  have a2:=fQ R
  unfold yW
  exact dx (by omega) (bD (by omega) (aQ (gt rfl R) rfl))) (fun acc=>by
  unfold yW
  exact dY (by omega) rfl)]
 rfl
theorem Nx (s:cI)(qX:s.bZ.length≤1000):vQ s=some ((kI s.bZ 0).map (fun n:Nat=>(n:Int))):=by
 unfold vQ Fi
 rw [fa,OP s.bZ qX (fun n acc x R=>by
  have a2:=fQ R
  unfold yL
  exact dx (by omega) (bD (by omega) (aQ (gt rfl R) rfl))) (fun acc=>by
  unfold yL
  exact dY (by omega) rfl)]
 rfl
def fC (x:Rat):Int×Int:=(x.num,(x.den:Int))
def gd (x:Rat):Prop:=(x.num.natAbs:Int)<B 24∧(x.den:Int)<B 24
def cN (x:Rat):aL:=mk (fC x)
instance aeu (x:Rat):Decidable (gd x):=by unfold gd;infer_instance
theorem gd.fc {x:Rat}(h:gd x):Fr (fC x):=⟨by have:=x.den_pos;simp only [fC];omega,by simp only [fC];rw [Int.gcd,Int.natAbs_natCast];exact x.reduced,h.1,h.2⟩
theorem aaz {n d:Int}(bC:0<d):low n d=if gd (Rat.divInt n d) then some (fC (Rat.divInt n d)) else none:=by
 have e1:(Rat.divInt n d).num=n / (Int.gcd n d:Int):=by rw [Rat.num_divInt,Int.sign_eq_one_of_pos bC,Int.one_mul,Int.gcd_comm]
 have e2:((Rat.divInt n d).den:Int)=d / (Int.gcd n d:Int):=by
  rw [Rat.den_divInt,if_neg (by omega),Int.gcd_comm]
  rw [Int.natCast_ediv,Int.natAbs_of_nonneg (by omega)]
 have bO:gd (Rat.divInt n d)↔fits ((n / (Int.gcd n d:Int)).natAbs:Int)∧fits (d / (Int.gcd n d:Int)):=by unfold gd fits;rw [e1,e2]
 unfold low
 by_cases c:gd (Rat.divInt n d)
 ·rw [if_pos c,if_pos (bO.1 c)]
  unfold fC;rw [e1,e2]
 ·rw [if_neg c,if_neg (fun x=>c (bO.2 x))]
theorem JQ {n d:Int}{x:Rat}(bC:0<d)(e:(d:Rat)*x=n)(h:gd x):low n d=some (fC x):=by
 have pZ:(d:Rat)≠0:=fun c=>by
  have:d=0:=Rat.intCast_inj.1 (by rw [c];rfl)
  omega
 have:x=Rat.divInt n d:=by rw [Rat.divInt_eq_div,← e];grind
 rw [aaz bC,← this,if_pos h]
theorem xE (x:Rat):((x.den:Int):Rat)*x=((x.num:Int):Rat):=by
 have h:x=(x.num:Rat) / ((x.den:Int):Rat):=by rw [← Rat.divInt_eq_div,Rat.num_divInt_den]
 have bC:((x.den:Int):Rat)≠0:=fun c=>by
  have:(x.den:Int)=0:=Rat.intCast_inj.1 (by rw [c];rfl)
  have:=x.den_pos
  omega
 conv=>lhs;rhs;rw [h]
 grind
theorem Qk {x y:Rat}(R:gd x)(a0:gd y)(h:gd (x*y)):sL (cN x) (cN y)=some (cN (x*y)):=by
 unfold cN
 rw [Y2 R.fc a0.fc,JQ (x:=x*y) (Int.mul_pos R.fc.pos a0.fc.pos) ?_ h];rfl
 have h1:=xE x
 have h2:=xE y
 simp only [fC,Rat.intCast_mul]
 grind
theorem Kj {x y:Rat}(R:gd x)(a0:gd y)(h:gd (x+y)):q5 (cN x) (cN y)=some (cN (x+y)):=by
 unfold cN
 rw [Zd R.fc a0.fc,JQ (x:=x+y) (Int.mul_pos R.fc.pos a0.fc.pos) ?_ h];rfl
 have h1:=xE x
 have h2:=xE y
 simp only [fC,Rat.intCast_mul,Rat.intCast_add]
 grind
theorem gd.neg {x:Rat}(h:gd x):gd (-x):=by
 unfold gd at h ⊢
 rw [Rat.neg_num,Rat.neg_den,Int.natAbs_neg];exact h
theorem Ql {x:Rat}(R:gd x):uj (cN x)=some (cN (-x)):=by
 unfold cN
 rw [Zc R.fc]
 simp only [fC,Rat.neg_num,Rat.neg_den]
theorem ZX {p:Int×Int}(h:Fr p):sO (mk p)=some true:=by
 have ED:(L p.1.natAbs).length≤24:=(iT (by omega)).2 h.num
 have LD:(L p.2).length≤24:=(iT (by have:=h.pos;omega)).2 h.den
 have aj:=h.pos
 obtain ⟨ae,gv,hr⟩:=Jr (a:=L p.1.natAbs) (by omega)
 obtain ⟨aS,iX,ko⟩:=Jr (a:=L p.2) (by omega)
 have h1:ae=true:=hr.2 ⟨i9 _,by omega⟩
 have h2:aS=true:=ko.2 ⟨i9 _,by omega⟩
 subst h1;subst h2
 have bC:(L p.2)≠[]:=fun c=>by have:=s5.1 c;omega
 have afM:=List.length_pos_iff.mpr bC
 have e1:zt (mk p).fk=some true:=by
  unfold zt
  show (rK (L p.1.natAbs)).bind _=_
  rw [gv]
  simp only [Option.bind_some,if_true,fL]
  show (if decide (p.1<0)=true then some (decide ((0:Int)<(L p.1.natAbs).length)) else some true)=_
  by_cases c:p.1<0
  ·rw [if_pos (by simpa using c)]
   have:L p.1.natAbs≠[]:=fun c=>by have:=s5.1 c;omega
   have:=List.length_pos_iff.mpr this
   rw [decide_eq_true (by omega)]
  ·rw [if_neg (by simpa using c)]
 unfold sO
 rw [e1]
 simp only [Option.bind_eq_bind,Option.bind_some,if_true,fL]
 show (rK (L p.2)).bind _=_
 rw [iX]
 simp only [Option.bind_some,if_true]
 rw [show (mk p).hl=L p.2 from rfl,show (mk p).fk.cw=L p.1.natAbs from rfl]
 rw [if_neg (by simp [bC]),if_neg (by simp;omega),if_neg (by simp;omega)]
 rw [Qg (i9 _) (i9 _) (by omega) (by omega),ef (by omega),ef (by omega),PQ (by omega),h.RR]
 simp only [Option.bind_some]
 rw [At (by omega)]
 rfl
theorem Kt {x:Rat}(R:gd x):sO (cN x)=some true:=ZX R.fc
def jD (x:Rat):Int:=if x=0 then 0 else if x<0 then -1 else 1
theorem pO {x:Rat}(R:gd x):pI (cN x)=some (jD x):=by
 unfold pI
 rw [Kt R]
 simp only [Option.bind_eq_bind,Option.bind_some,if_true,fL]
 show (if (((L (fC x).1.natAbs).length:Int) == 0)=true then some 0 else if decide ((fC x).1<0)=true then some (-1) else some 1)=_
 have e:((L (fC x).1.natAbs).length:Int)=0↔x.num=0:=by
  rw [KQ (by omega)]
  simp only [fC];omega
 unfold jD
 by_cases h0:x=0
 ·rw [if_pos h0,if_pos]
  rw [beq_iff_eq,e,Rat.num_eq_zero];exact h0
 ·rw [if_neg h0,if_neg (by rw [beq_iff_eq,e,Rat.num_eq_zero];exact h0)]
  by_cases h1:x<0
  ·have h2 : ¬0≤x:=by grind
   have ab : ¬0≤x.num:=fun c=>h2 (Rat.num_nonneg.1 c)
   rw [if_pos h1,if_pos (decide_eq_true (show (fC x).1<0 by simp only [fC];omega))]
  ·have h2:0≤x:=by grind
   have ab:0≤x.num:=Rat.num_nonneg.2 h2
   rw [if_neg h1,if_neg (fun c=>by have:=of_decide_eq_true c;simp only [fC] at this;omega)]
theorem aa5 {x y:Rat}(R:gd x)(a0:gd y):ui (cN x) (cN y)=some (if x<y then -1 else if y<x then 1 else 0):=by
 unfold cN
 rw [Y4 R.fc a0.fc]
 unfold kS
 simp only [fC,← Rat.lt_iff]
theorem Qm {x y:Rat}(R:gd x)(a0:gd y)(h0:y≠0)(h:gd (x / y)):uh (cN x) (cN y)=some (cN (x / y)):=by
 have h1:=R.fc.tb
 have h2:=R.fc.sb
 have ab:=a0.fc.tb
 have au:=a0.fc.sb
 have aA:=R.fc.pos
 have aX:(0:Int)<(fC y).1.natAbs:=by
  have:(fC y).1≠0:=fun c=>h0 (Rat.num_eq_zero.1 c)
  omega
 have bb:=sV (x:=(fC x).1.natAbs) (y:=(fC y).2) (by omega) (by have:=a0.fc.pos;omega) R.fc.num a0.fc.den
 have bi:=sV (x:=(fC x).2) (y:=(fC y).1.natAbs) (by omega) (by omega) R.fc.den a0.fc.num
 have e1:hE (L (fC x).1.natAbs) (L (fC y).2)=some (L (((fC x).1.natAbs:Int)*(fC y).2)):=by
  rw [mul_eq (gW _) (gW _) (by omega) (by omega),ef (by omega),ef (by have:=a0.fc.pos;omega)]
 have e2:hE (L (fC x).2) (L (fC y).1.natAbs)=some (L ((fC x).2*((fC y).1.natAbs:Int))):=by
  rw [mul_eq (gW _) (gW _) (by omega) (by omega),ef (by omega),ef (by omega)]
 unfold uh
 rw [Kt R,Kt a0]
 simp only [Option.bind_eq_bind,Option.bind_some,if_true]
 show (hE (L (fC x).1.natAbs) (L (fC y).2)).bind _=_
 rw [e1]
 simp only [Option.bind_some]
 show (hE (L (fC x).2) (L (fC y).1.natAbs)).bind _=_
 rw [e2]
 simp only [Option.bind_some]
 rw [JB (Int.mul_nonneg (by omega) (by have:=a0.fc.pos;omega)) (Int.mul_pos aA aX) (by omega) (by omega)]
 simp only [Option.bind_some]
 rw [JQ (x:=x / y) (Int.mul_pos aA aX) ?_ h];rfl
 have d1:=xE x
 have d2:=xE y
 have bO:ea (!((cN x).fk.cJ == (cN y).fk.cJ)) (((fC x).1.natAbs:Int)*(fC y).2)=(if y<0 then -1 else 1)*((fC x).1*(fC y).2):=by
  show ea (!(decide ((fC x).1<0) == decide ((fC y).1<0))) _=_
  have a2:=Rat.num_nonneg (q:=y)
  have hm:0≤((fC x).1.natAbs:Int)*(fC y).2:=Int.mul_nonneg (by omega) (by have:=a0.fc.pos;omega)
  have BK:y<0↔(fC y).1<0:=by
   have ab:=Rat.num_nonneg (q:=y)
   simp only [fC]
   constructor
   ·intro c;have : ¬0≤y:=by grind
    have au : ¬0≤y.num:=fun c=>this (ab.1 c)
    omega
   ·intro c;have : ¬0≤y:=fun dH=>by have:=ab.2 dH;omega
    grind
  by_cases br:(fC x).1<0<;>by_cases cb:(fC y).1<0
  ·rw [if_pos (BK.2 cb),decide_eq_true br,decide_eq_true cb]
   simp only [ea,BEq.rfl,Bool.not_true,Bool.false_eq_true,if_false]
   rw [show ((fC x).1.natAbs:Int) = -(fC x).1 by omega];grind
  ·rw [if_neg (fun c=>cb (BK.1 c)),decide_eq_true br,decide_eq_false cb]
   simp only [ea,show (!(true == false))=true from rfl,if_true]
   rw [show ((fC x).1.natAbs:Int) = -(fC x).1 by omega];grind
  ·rw [if_pos (BK.2 cb),decide_eq_false br,decide_eq_true cb]
   simp only [ea,show (!(false == true))=true from rfl,if_true]
   rw [show ((fC x).1.natAbs:Int)=(fC x).1 by omega];grind
  ·rw [if_neg (fun c=>cb (BK.1 c)),decide_eq_false br,decide_eq_false cb]
   simp only [ea,BEq.rfl,Bool.not_true,Bool.false_eq_true,if_false]
   rw [show ((fC x).1.natAbs:Int)=(fC x).1 by omega];grind
 rw [bO]
 have c5:(((fC y).1.natAbs:Int):Rat)=(if y<0 then -1 else 1)*(((fC y).1:Int):Rat):=by
  have a2:=Rat.num_nonneg (q:=y)
  by_cases c:y<0
  ·have:y.num<0:=by have : ¬0≤y.num:=fun h=>by have:=a2.1 h;grind
                    omega
   rw [if_pos c,show ((fC y).1.natAbs:Int) = -(fC y).1 by simp only [fC];omega,Rat.intCast_neg];grind
  ·have:0≤y.num:=a2.2 (by grind)
   rw [if_neg c,show ((fC y).1.natAbs:Int)=(fC y).1 by simp only [fC];omega];grind
 rw [Rat.intCast_mul,c5,Rat.intCast_mul,Rat.intCast_mul]
 simp only [fC] at *
 split<;>grind
theorem rV {n:Int}(h:nx n):oS n=some (cN (n:Rat)):=by
 rw [W6 h]
 unfold cN fC
 rw [Rat.num_intCast,Rat.den_intCast];rfl
theorem Pl {n d:Int}{x:Rat}(h0:d≠0)(e:(d:Rat)*x=n)(a2:(n.natAbs:Int)<B 24)(bC:(d.natAbs:Int)<B 24):gd x:=by
 have pZ:(d:Rat)≠0:=fun c=>h0 (Rat.intCast_inj.1 (by rw [c];rfl))
 have R:x=Rat.divInt n d:=by rw [Rat.divInt_eq_div,← e];grind
 rw [R]
 unfold gd
 rw [Rat.num_divInt,Rat.den_divInt,if_neg h0]
 constructor
 ·have h1:(d.sign*n / (d.gcd n:Int)).natAbs≤(d.sign*n).natAbs:=Int.natAbs_ediv_le_natAbs _ _
  have h2:(d.sign*n).natAbs≤n.natAbs:=by
   rw [Int.natAbs_mul]
   have:d.sign.natAbs≤1:=by rw [Int.natAbs_sign];split<;>omega
   exact Nat.le_trans (Nat.mul_le_mul_right _ this) (by omega)
  omega
 ·have:d.natAbs / d.gcd n≤d.natAbs:=Nat.div_le_self _ _
  omega
theorem re {x:Rat}:jD x=0↔x=0:=by
 unfold jD
 split
 ·simp_all
 ·split<;>simp_all
theorem qo {x:Rat}:0<jD x↔0<x:=by
 unfold jD
 split
 ·rename_i h;rw [h];simp
 ·split
  ·rename_i h1 h2;constructor
   ·intro h;omega
   ·intro h;grind
  ·rename_i h1 h2;constructor
   ·intro h;grind
   ·intro h;omega
theorem ZY (n:Nat)(a2:n≤1000)(k:Nat)(a5:k<n)(a b:Nat→Rat)(bA:∀j,j<n→gd (a j))(aP:∀j,j<n→gd (b j))(hm:∀j,j<n→gd (-(a k)*b j))(bV:∀j,j<n→gd (a j-a k*b j)):
 zb k 0 n 0 n (a4 n fun j=>cN (a j)) (a4 n fun j=>cN (b j))=some (a4 n fun j=>cN (a j-a k*b j)):=by
 unfold zb
 refine bD (by omega) (aQ (x:=cN (a k)) (by rw [Int.toNat_natCast];exact h3 a5) (aQ (pO (bA k a5)) ?_))
 refine oc (fun h=> ?_) (fun h=> ?_)
 ·have h0:=re.1 (by simpa using h)
  congr 1
  exact eX fun j _=>by rw [h0];congr 1;grind
 ·refine aQ (Ql (bA k a5)) ?_
  obtain ⟨s,e1,e2⟩:=hY (f:=fun w:Int×List aL=>wa 0 n 0 n ((n:Nat):Int) (a4 n fun j=>cN (b j)) (cN (-(a k))).fk.cJ (cN (-(a k))).fk.cw (cN (-(a k))).hl w.1 w.2)
   (fun (i:Nat) (_:Unit)=>((i:Int),a4 n fun j=>if j<i then cN (a j-a k*b j) else cN (a j))) n (fun _ _=>True) (fun _=>a4 n fun j=>cN (a j-a k*b j))
   (fun i ao _ _=>by
     refine ⟨(),?_,trivial⟩
     unfold wa
     refine dx (by simp only;omega) (bD (by simp only;omega) (aQ (x:=cN (b i)) (by simp only;rw [Int.toNat_natCast];exact h3 ao) (aQ (pO (aP i ao)) ?_)))
     refine oc (fun h=> ?_) (fun h=> ?_)
     ·refine bD (by simp only;omega) (aQ (x:=cN (a i)) (by simp only;rw [Int.toNat_natCast,h3 ao,if_neg (by omega)]) ?_)
      refine aQ (Qk (bA k a5).neg (aP i ao) (hm i ao)) (aQ (Kj (bA i ao) (hm i ao) (by have:=bV i ao;rw [show a i + -(a k)*b i=a i-a k*b i by grind];exact this)) ?_)
      refine bD (by simp only;rw [cS];omega) ?_
      simp only
      rw [fq (by omega),Int.toNat_natCast,Nat.zero_add,k1]
      congr 3
      exact eX fun j _=>by
       by_cases c:j=i
       ·subst c;rw [if_pos rfl,if_pos (by omega)];congr 1;grind
       ·rw [if_neg c]
        by_cases cb:j<i
        ·rw [if_pos cb,if_pos (by omega)]
        ·rw [if_neg cb,if_neg (by omega)]
     ·have h0:b i=0:=re.1 (by simpa using h)
      simp only
      rw [fq (by omega)]
      congr 3
      exact eX fun j _=>by
       by_cases c:j=i
       ·subst c;rw [if_neg (by omega),if_pos (by omega),h0];congr 1;grind
       ·by_cases cb:j<i
        ·rw [if_pos cb,if_pos (by omega)]
        ·rw [if_neg cb,if_neg (by omega)])
   (fun _ _=>by
     unfold wa
     refine dY (by simp) ?_
     simp only
     congr 2
     exact eX fun j aC=>if_pos aC) () trivial
  refine aQ (x:=a4 n fun j=>cN (a j-a k*b j)) ?_ rfl
  unfold HP
  have bO:(a4 n fun j=>if j<0 then cN (a j-a k*b j) else cN (a j))=a4 n fun j=>cN (a j):=eX fun j _=>if_neg (by omega)
  rw [bO] at e1
  exact e1
theorem Ze (n:Nat)(a2:n≤1000)(k:Nat)(a5:k<n)(a b:Nat→Rat)(bA:∀j,j<n→gd (a j))(aP:∀j,j<n→gd (b j))(hm:∀j,j<n→gd (-(a k)*b j))(bV:∀j,j<n→gd (a j-a k*b j)):
 y6 k 0 n (a4 n fun j=>cN (a j)) (a4 n fun j=>cN (b j))=some (a4 n fun j=>cN (a j-a k*b j)):=by
 unfold y6
 rw [cS]
 refine bD (by omega) (aQ (x:=cN (a k)) (by rw [Int.toNat_natCast];exact h3 a5) (aQ (pO (bA k a5)) ?_))
 refine oc (fun h=> ?_) (fun h=> ?_)
 ·have h0:=re.1 (by simpa using h)
  congr 1
  exact eX fun j _=>by rw [h0];congr 1;grind
 ·refine aQ (Ql (bA k a5)) ?_
  obtain ⟨s,e1,e2⟩:=hY (f:=fun w:Int×List aL=>vV 0 n ((n:Nat):Int) (a4 n fun j=>cN (b j)) (cN (-(a k))).fk.cJ (cN (-(a k))).fk.cw (cN (-(a k))).hl w.1 w.2)
   (fun (i:Nat) (_:Unit)=>((i:Int),a4 n fun j=>if j<i then cN (a j-a k*b j) else cN (a j))) n (fun _ _=>True) (fun _=>a4 n fun j=>cN (a j-a k*b j))
   (fun i ao _ _=>by
     refine ⟨(),?_,trivial⟩
     unfold vV
     refine dx (by simp only;omega) (bD (by simp only;omega) (aQ (x:=cN (b i)) (by simp only;rw [Int.toNat_natCast];exact h3 ao) (aQ (pO (aP i ao)) ?_)))
     refine oc (fun h=> ?_) (fun h=> ?_)
     ·refine bD (by simp only;rw [cS];omega) (aQ (x:=cN (a i)) (by simp only;rw [Int.toNat_natCast,h3 ao,if_neg (by omega)]) ?_)
      refine aQ (Qk (bA k a5).neg (aP i ao) (hm i ao)) (aQ (Kj (bA i ao) (hm i ao) (by have:=bV i ao;rw [show a i + -(a k)*b i=a i-a k*b i by grind];exact this)) ?_)
      refine bD (by simp only;rw [cS];omega) ?_
      simp only
      rw [fq (by omega),Int.toNat_natCast,Nat.zero_add,k1]
      congr 3
      exact eX fun j _=>by
       by_cases c:j=i
       ·subst c;rw [if_pos rfl,if_pos (by omega)];congr 1;grind
       ·rw [if_neg c]
        by_cases cb:j<i
        ·rw [if_pos cb,if_pos (by omega)]
        ·rw [if_neg cb,if_neg (by omega)]
     ·have h0:b i=0:=re.1 (by simpa using h)
      simp only
      rw [fq (by omega)]
      congr 3
      exact eX fun j _=>by
       by_cases c:j=i
       ·subst c;rw [if_neg (by omega),if_pos (by omega),h0];congr 1;grind
       ·by_cases cb:j<i
        ·rw [if_pos cb,if_pos (by omega)]
        ·rw [if_neg cb,if_neg (by omega)])
   (fun _ _=>by
     unfold vV
     refine dY (by simp) ?_
     simp only
     congr 2
     exact eX fun j aC=>if_pos aC) () trivial
  refine aQ (x:=a4 n fun j=>cN (a j-a k*b j)) ?_ rfl
  unfold Ho
  have bO:(a4 n fun j=>if j<0 then cN (a j-a k*b j) else cN (a j))=a4 n fun j=>cN (a j):=eX fun j _=>if_neg (by omega)
  rw [bO] at e1
  exact e1
def mH (m N:Nat):List bt:=a4 m fun i=>some (i,N+1)
def dp (m:Nat)(t:cC):List Int:=a4 m fun i=>((t.B i:Nat):Int)
def gY (N:Nat)(t:cC)(i:Nat):List aL:=a4 (N+1) fun j=>cN (t.T i j)
def iI (m N:Nat)(t:cC):List (List aL):=a4 m (gY N t)
def k7 (N:Nat)(c:Nat→Rat):List aL:=a4 (N+1) fun j=>cN (c j)
structure KR (m N:Nat) (t:cC) (c:Nat→Rat) (r k:Nat):Prop where
 T : ∀i,i<m→ ∀j,j≤N→gd (t.T i j)
 ig : ∀i,i<m→ ∀j,j≤N→gd ((t.cK r k).T i j)
 M : ∀i,i<m→i≠r→ ∀j,j≤N→gd (-(t.T i k)*(t.T r j / t.T r k))
 ba : ∀j,j≤N→gd (c j)
 sd : ∀j,j≤N→gd (c j-c k*(t.T r j / t.T r k))
 hm : ∀j,j≤N→gd (-(c k)*(t.T r j / t.T r k))
theorem ZZ {m N:Nat}(hm:m≤1000)(fN:N<1000){t:cC}{c:Nat→Rat}{r k:Nat}(aq:r<m)(a5:k≤N)(aj:t.T r k≠0)(h:KR m N t c r k)(lh:Int):
 zc r k lh (mH m N) (dp m t) (k7 N c) (iI m N t)=some (dp m (t.cK r k),k7 N (fun j=>c j-c k*(t.T r j / t.T r k)),iI m N (t.cK r k)):=by
 have qY : ∀j,(t.cK r k).T r j=t.T r j / t.T r k:=fun j=>by simp [cC.cK]
 have yI : ∀i j,i≠r→(t.cK r k).T i j=t.T i j-t.T i k*(t.T r j / t.T r k):=fun i j ao=>by simp [cC.cK,ao]
 unfold zc
 refine bD (by unfold mH;rw [cS];omega) (aQ (x:=some (r,N+1)) (by rw [Int.toNat_natCast];exact h3 aq) (aQ (x:=(r,N+1)) rfl (aQ (x:=gY N t r) (fZ aq) ?_)))
 refine bD (by simp only;omega) (aQ (x:=cN (t.T r k)) (by rw [Int.toNat_natCast];exact h3 (by omega)) ?_)
 obtain ⟨s1,e1,-⟩:=hY (f:=fun w:Int×List (List aL)=>wb r k (((N+1:Nat):Nat):Int) lh (mH m N) (dp m t) (k7 N c) (cN (t.T r k)).fk.cJ (cN (t.T r k)).fk.cw (cN (t.T r k)).hl w.1 w.2)
  (fun (i:Nat) (_:Unit)=>((i:Int),a4 m fun eA=>if eA=r then a4 (N+1) (fun j=>if j<i then cN (t.T r j / t.T r k) else cN (t.T r j)) else gY N t eA)) (N+1) (fun _ _=>True)
  (fun _=>a4 m fun eA=>if eA=r then gY N (t.cK r k) r else gY N t eA)
  (fun i ao _ _=>by
    refine ⟨(),?_,trivial⟩
    unfold wb
    refine dx (by simp only;omega) (bD (by unfold mH;rw [cS];omega) (aQ (x:=some (r,N+1)) (by rw [Int.toNat_natCast];exact h3 aq) (aQ (x:=(r,N+1)) rfl ?_)))
    refine aQ (x:=a4 (N+1) (fun j=>if j<i then cN (t.T r j / t.T r k) else cN (t.T r j))) (by simp only;rw [fZ aq,if_pos rfl]) ?_
    refine bD (by simp only;omega) (aQ (x:=cN (t.T r i)) (by simp only;rw [Int.toNat_natCast,h3 ao,if_neg (by omega)]) ?_)
    refine aQ (Qm (h.T r aq i (by omega)) (h.T r aq k a5) aj (by have:=h.ig r aq i (by omega);rw [qY] at this;exact this)) ?_
    simp only
    rw [fq (by omega),Int.toNat_natCast,Nat.zero_add,k1,k1]
    congr 3
    refine eX fun eA _=> ?_
    by_cases br:eA=r
    ·rw [if_pos br,if_pos br]
     exact eX fun j _=>by
      by_cases cb:j=i
      ·subst cb;rw [if_pos rfl,if_pos (by omega)]
      ·rw [if_neg cb]
       by_cases jg:j<i
       ·rw [if_pos jg,if_pos (by omega)]
       ·rw [if_neg jg,if_neg (by omega)]
    ·rw [if_neg br,if_neg br,if_neg br])
  (fun _ _=>by
    unfold wb
    refine dY (by simp) ?_
    simp only
    congr 2
    refine eX fun eA _=> ?_
    by_cases br:eA=r
    ·rw [if_pos br,if_pos br]
     exact eX fun j aC=>by rw [if_pos aC,qY]
    ·rw [if_neg br,if_neg br]) () trivial
 refine aQ (x:=a4 m fun eA=>if eA=r then gY N (t.cK r k) r else gY N t eA) ?_ ?_
 ·unfold HQ
  have bO:(a4 m fun eA=>if eA=r then a4 (N+1) (fun j=>if j<0 then cN (t.T r j / t.T r k) else cN (t.T r j)) else gY N t eA)=iI m N t:=eX fun eA _=>by
   by_cases br:eA=r
   ·rw [if_pos br,br];exact eX fun j _=>if_neg (by omega)
   ·rw [if_neg br]
  rw [bO] at e1
  exact e1
 obtain ⟨s2,e2,-⟩:=hY (f:=fun w:Int×List (List aL)=>wc r k ((m:Nat):Int) lh (mH m N) (dp m t) (k7 N c) w.1 w.2)
  (fun (i:Nat) (_:Unit)=>((i:Int),a4 m fun eA=>if eA=r∨eA<i then gY N (t.cK r k) eA else gY N t eA)) m (fun _ _=>True)
  (fun _=>iI m N (t.cK r k))
  (fun i ao _ _=>by
    refine ⟨(),?_,trivial⟩
    unfold wc
    refine dx (by simp only;omega) (oc (fun dk=> ?_) (fun yb=> ?_))
    ·have yD:i≠r:=by intro c;subst c;simp at dk
     refine bD (by unfold mH;rw [cS];simp only;omega) (aQ (x:=some (i,N+1)) (by simp only;rw [Int.toNat_natCast];exact h3 ao) ?_)
     refine bD (by unfold mH;rw [cS];omega) (aQ (x:=some (r,N+1)) (by rw [Int.toNat_natCast];exact h3 aq) ?_)
     refine aQ (x:=(i,N+1)) rfl (aQ (x:=(r,N+1)) rfl ?_)
     refine aQ (x:=gY N t i) (by simp only;rw [fZ ao,if_neg (by omega)]) (aQ (x:=gY N (t.cK r k) r) (by simp only;rw [fZ aq,if_pos (.inl rfl)]) ?_)
     refine bD (by simp only;omega) ?_
     refine aQ (ZY (N+1) (by omega) k (by omega) (fun j=>t.T i j) (fun j=>(t.cK r k).T r j) (fun j aC=>h.T i ao j (by omega)) (fun j aC=>h.ig r aq j (by omega)) (fun j aC=>by rw [qY];exact h.M i ao yD j (by omega)) (fun j aC=>by
      have:=h.ig i ao j (by omega);rw [yI i j yD] at this;rw [qY];exact this)) ?_
     simp only
     rw [fq (by omega),k1,k1]
     congr 3
     refine eX fun eA _=> ?_
     by_cases br:eA=r
     ·rw [if_pos br,if_pos (.inl br),br]
     ·rw [if_neg br]
      by_cases cb:eA=i
      ·subst cb
       rw [if_pos rfl,if_pos (.inr (by omega))]
       exact eX fun j _=>by rw [yI eA j yD,qY]
      ·rw [if_neg cb]
       by_cases jg:eA<i
       ·rw [if_pos (.inr jg),if_pos (.inr (by omega))]
       ·rw [if_neg (by omega),if_neg (by omega)]
    ·have yD:i=r:=by simp at yb;omega
     simp only
     rw [fq (by omega)]
     congr 3
     refine eX fun eA _=> ?_
     by_cases br:eA=r∨eA<i
     ·rw [if_pos br,if_pos (by omega)]
     ·rw [if_neg br,if_neg (by omega)])
  (fun _ _=>by
    unfold wc
    refine dY (by simp) ?_
    simp only
    congr 2
    exact eX fun eA kz=>if_pos (.inr kz)) () trivial
 refine aQ (x:=iI m N (t.cK r k)) ?_ ?_
 ·unfold HR
  rw [show ((mH m N).length:Nat)=m from cS ..]
  have bO:(a4 m fun eA=>if eA=r∨eA<0 then gY N (t.cK r k) eA else gY N t eA)=a4 m fun eA=>if eA=r then gY N (t.cK r k) r else gY N t eA:=eX fun eA _=>by
   by_cases br:eA=r
   ·rw [if_pos (.inl br),if_pos br,br]
   ·rw [if_neg (by omega),if_neg br]
  rw [bO] at e2
  exact e2
 refine aQ (x:=gY N (t.cK r k) r) (fZ aq) (bD (by simp only;omega) ?_)
 refine aQ (Ze (N+1) (by omega) k (by omega) c (fun j=>(t.cK r k).T r j) (fun j aC=>h.ba j (by omega)) (fun j aC=>h.ig r aq j (by omega)) (fun j aC=>by rw [qY];exact h.hm j (by omega)) (fun j aC=>by rw [qY];exact h.sd j (by omega))) ?_
 refine bD (by unfold k7;rw [cS,cS]) (bD (by unfold dp;rw [cS];omega) (bD (by unfold dp;rw [cS,Int.toNat_natCast];omega) ?_))
 congr 1
 rw [Int.toNat_natCast,Nat.zero_add]
 congr 1
 ·unfold dp
  rw [k1]
  exact eX fun i _=>by
   simp only [cC.cK]
   split<;>rfl
 ·congr 1
  ·exact eX fun j _=>by rw [qY]
  ·unfold iI
   rw [k1]
   exact eX fun i _=>by
    split
    ·rename_i br;rw [br]
    ·rfl
theorem Z0 {m:Nat}(hm:m≤1000)(t:cC)(lh:Int)(rows:List (List aL))(cost:List aL)(j:Nat): ∃b,zs ⟨lh,rows,dp m t,cost⟩ (j:Int)=some b∧(b=true↔ ∃i,i<m∧t.B i=j):=by
 unfold zs
 obtain ⟨r,e,h⟩:=ql (f:=fun w:Int=>yU j (dp m t) ((m:Nat):Int) w) (fun (i:Nat) (_:Unit)=>(i:Int)) m (fun i _=> ∀k,k<i→t.B k≠j) (fun r=>(r = .inr ()∧ ∃i,i<m∧t.B i=j)∨(r = .inl ()∧ ¬∃i,i<m∧t.B i=j))
  (fun i ao _ cE=>by
    unfold yU
    by_cases c:t.B i=j
    ·right
     refine ⟨_,dx (by omega) (bD (by unfold dp;rw [cS];omega) (aQ (x:=((t.B i:Nat):Int)) (by rw [Int.toNat_natCast];exact fZ ao) (gz (by simp [c]) rfl))),.inl ⟨rfl,i,ao,c⟩⟩
    ·left
     refine ⟨(),dx (by omega) (bD (by unfold dp;rw [cS];omega) (aQ (x:=((t.B i:Nat):Int)) (by rw [Int.toNat_natCast];exact fZ ao) (jH (by simp;omega) (by rw [fq (by omega)])))),fun k a5=> ?_⟩
     by_cases e:k=i
     ·rw [e];exact c
     ·exact cE k (by omega))
  (fun _ cE=>⟨_,dY (by omega) rfl,.inr ⟨rfl,fun ⟨i,ao,e⟩=>cE i ao e⟩⟩) () (fun k a5=>by omega)
 have eJ:CF j (dp m t) (len_ eI (dp m t)) 0=some r:=by
  unfold CF;rw [fL,show (dp m t).length=m from cS ..];exact e
 rcases h with ⟨rfl,h⟩|⟨rfl,h⟩
 ·exact ⟨true,aQ eJ rfl,by simp [h]⟩
 ·exact ⟨false,aQ eJ rfl,by simp [h]⟩
theorem aaA {N:Nat}(fN:N<1000)(lh:Int)(rows:List (List aL))(lc:List Int)(c:Nat→Rat){j:Nat}(aC:j≤N)(ba:gd (c j)):ub ⟨lh,rows,lc,k7 N c⟩ (j:Int) false=some (jD (c j)):=by
 unfold ub
 refine bD (by unfold k7;rw [cS];omega) (aQ (x:=cN (c j)) (by rw [Int.toNat_natCast];exact fZ (by omega)) (aQ (pO ba) ?_))
 refine aQ (x:= .inl (jD (c j))) ?_ rfl
 unfold IB
 rw [iter]
 have:yX lh rows lc (k7 N c) (j:Int) false (jD (c j)) 0=some (.inr (.inl (jD (c j)))):=by
  unfold yX
  exact oc (fun _=>rfl) (fun _=>rfl)
 simp only
 rw [this];rfl
theorem Du {x y z w:Rat}(a0:0<y)(hw:0<w):(x / y≤z / w↔x*w≤z*y)∧(x / y=z / w↔x*w=z*y):=by
 have e1:x*w=(x / y)*(y*w):=by grind
 have e2:z*y=(z / w)*(y*w):=by grind
 have aj:0<y*w:=Rat.mul_pos a0 hw
 constructor
 ·rw [e1,e2]
  constructor
  ·intro h;exact Rat.mul_le_mul_of_nonneg_right h (Rat.le_of_lt aj)
  ·intro h
   apply Classical.byContradiction
   intro c
   have:z / w<x / y:=by grind
   have:=Rat.mul_lt_mul_of_pos_right this aj
   grind
 ·rw [e1,e2]
  constructor
  ·intro h;rw [h]
  ·intro h
   have dk:y*w≠0:=by grind
   grind
def DE (m N:Nat)(t:cC)(j:Nat)(r:Int):Prop :=
 (r = -1∧ ∀i,i<m→ ¬0<t.T i j)∨ ∃b:Nat,r=b∧b<m∧0<t.T b j∧(∀i,i<m→0<t.T i j→t.T b N*t.T i j≤t.T i N*t.T b j)∧(∀i,i<m→0<t.T i j→t.T b N*t.T i j=t.T i N*t.T b j→t.B b≤t.B i)
theorem Z1 {m N:Nat}(hm:m≤1000)(fN:N<1000)(t:cC)(lh:Int)(cost:List aL){j:Nat}(aC:j≤N)(iG:∀i,i<m→ ∀j,j≤N→gd (t.T i j))(a8:∀i,i<m→0<t.T i j→gd (t.T i N / t.T i j)):
 ∃r,zu ⟨lh,iI m N t,dp m t,cost⟩ (j:Int)=some r∧DE m N t j r:=by
 unfold zu
 obtain ⟨r,e,h⟩:=ql (f:=fun w:Int×Int×Bool×(List Int)×(List Int)=>wm lh (iI m N t) (dp m t) cost j ((m:Nat):Int) w.1 w.2.1 w.2.2.1 w.2.2.2.1 w.2.2.2.2)
  (fun (i:Nat) (s:Int×aL)=>(s.1,(i:Int),s.2.fk.cJ,s.2.fk.cw,s.2.hl)) m
  (fun n s=>(s.1 = -1∧ ∀i,i<n→ ¬0<t.T i j)∨ ∃b:Nat,s.1=b∧b<n∧0<t.T b j∧s.2=cN (t.T b N / t.T b j)∧ ∀i,i<n→0<t.T i j→t.T b N / t.T b j<t.T i N / t.T i j∨(t.T b N / t.T b j=t.T i N / t.T i j∧t.B b≤t.B i))
  (fun r=>DE m N t j r)
  (fun n a2 s cE=>by
    left
    unfold wm
    have g1:0≤((n:Nat):Int)∧((n:Nat):Int)<((iI m N t).length:Nat):=by unfold iI;rw [cS];omega
    have g2:(iI m N t)[((n:Nat):Int).toNat]? = some (gY N t n):=by rw [Int.toNat_natCast];exact fZ a2
    have g3:0≤((j:Nat):Int)∧((j:Nat):Int)<((gY N t n).length:Nat):=by unfold gY;rw [cS];omega
    have g4:(gY N t n)[((j:Nat):Int).toNat]? = some (cN (t.T n j)):=by rw [Int.toNat_natCast];exact fZ (by omega)
    have ke:J ((n:Int)+1)=((n+1:Nat):Int):=fq (by omega)
    have wl:J (len_ aM (gY N t n)-1)=(N:Int):=by
     rw [fa,show (gY N t n).length=N+1 from cS ..,cr (by omega) (by omega)];omega
    by_cases aj:0<t.T n j
    ·have bV : ¬jD (t.T n j)≤0:=by have:=qo.2 aj;omega
     have g5:0≤J (len_ aM (gY N t n)-1)∧J (len_ aM (gY N t n)-1)<((gY N t n).length:Nat):=by rw [wl];unfold gY;rw [cS];omega
     have g6:(gY N t n)[(J (len_ aM (gY N t n)-1)).toNat]? = some (cN (t.T n N)):=by rw [wl,Int.toNat_natCast];exact fZ (by omega)
     have g7:uh (cN (t.T n N)) (cN (t.T n j))=some (cN (t.T n N / t.T n j)):=Qm (iG n a2 N (by omega)) (iG n a2 j aC) (by grind) (a8 n a2 aj)
     rcases cE with ⟨h1,h2⟩|⟨b,h1,aP,ju,h2,ab⟩
     ·refine ⟨((n:Int),cN (t.T n N / t.T n j)),dx (by simp only;omega) (bD g1 (aQ g2 (bD g3 (aQ g4 (aQ (pO (iG n a2 j aC)) (dY bV (bD g5 (aQ g6 (aQ g7 (dx (by simp only;omega) ?_)))))))))),.inr ⟨n,rfl,by omega,aj,rfl,fun i ao ia=> ?_⟩⟩
      ·simp only;rw [ke]
      ·by_cases c:i=n
       ·subst c;exact .inr ⟨rfl,Nat.le_refl _⟩
       ·exact (h2 i (by omega) ia).elim
     ·have g8:ui (cN (t.T n N / t.T n j)) (⟨(⟨s.2.fk.cJ,s.2.fk.cw⟩:bm),s.2.hl⟩:aL)=some (if t.T n N / t.T n j<t.T b N / t.T b j then -1 else if t.T b N / t.T b j<t.T n N / t.T n j then 1 else 0):=by
       have:(⟨(⟨s.2.fk.cJ,s.2.fk.cw⟩:bm),s.2.hl⟩:aL)=cN (t.T b N / t.T b j):=h2
       rw [this]
       exact aa5 (a8 n a2 aj) (a8 b (by omega) ju)
      by_cases br:t.T n N / t.T n j<t.T b N / t.T b j
      ·rw [if_pos br] at g8
       refine ⟨((n:Int),cN (t.T n N / t.T n j)),dx (by simp only;omega) (bD g1 (aQ g2 (bD g3 (aQ g4 (aQ (pO (iG n a2 j aC)) (dY bV (bD g5 (aQ g6 (aQ g7 (dY (by simp only;omega) (aQ g8 (dx (by omega) ?_)))))))))))),.inr ⟨n,rfl,by omega,aj,rfl,fun i ao ia=> ?_⟩⟩
       ·simp only;rw [ke]
       ·by_cases c:i=n
        ·subst c;exact .inr ⟨rfl,Nat.le_refl _⟩
        ·rcases ab i (by omega) ia with h|⟨h,-⟩
         ·left;grind
         ·left;rw [← h];exact br
      ·rw [if_neg br] at g8
       by_cases cb:t.T b N / t.T b j<t.T n N / t.T n j
       ·rw [if_pos cb] at g8
        refine ⟨s,dx (by simp only;omega) (bD g1 (aQ g2 (bD g3 (aQ g4 (aQ (pO (iG n a2 j aC)) (dY bV (bD g5 (aQ g6 (aQ g7 (dY (by simp only;omega) (aQ g8 (dY (by omega) (jH (by decide) ?_))))))))))))),.inr ⟨b,h1,by omega,ju,h2,fun i ao ia=> ?_⟩⟩
        ·simp only;rw [ke]
        ·by_cases c:i=n
         ·subst c;exact .inl cb
         ·exact ab i (by omega) ia
       ·rw [if_neg cb] at g8
        have LK:t.T b N / t.T b j=t.T n N / t.T n j:=by grind
        have EG:0≤((n:Nat):Int)∧((n:Nat):Int)<((dp m t).length:Nat):=by unfold dp;rw [cS];omega
        have EH:(dp m t)[((n:Nat):Int).toNat]? = some ((t.B n:Nat):Int):=by rw [Int.toNat_natCast];exact fZ a2
        have RV:0≤s.1∧s.1<((dp m t).length:Nat):=by unfold dp;rw [cS];omega
        have RW:(dp m t)[s.1.toNat]? = some ((t.B b:Nat):Int):=by rw [h1,Int.toNat_natCast];exact fZ (by omega)
        by_cases jg:t.B n<t.B b
        ·refine ⟨((n:Int),cN (t.T n N / t.T n j)),dx (by simp only;omega) (bD g1 (aQ g2 (bD g3 (aQ g4 (aQ (pO (iG n a2 j aC)) (dY bV (bD g5 (aQ g6 (aQ g7 (dY (by simp only;omega) (aQ g8 (dY (by omega) (gz rfl (bD EG (aQ EH (bD RV (aQ RW (dx (by omega) ?_)))))))))))))))))),.inr ⟨n,rfl,by omega,aj,rfl,fun i ao ia=> ?_⟩⟩
         ·simp only;rw [ke]
         ·by_cases c:i=n
          ·subst c;exact .inr ⟨rfl,Nat.le_refl _⟩
          ·rcases ab i (by omega) ia with h|⟨h,cx⟩
           ·left;grind
           ·right;exact ⟨by grind,by omega⟩
        ·refine ⟨s,dx (by simp only;omega) (bD g1 (aQ g2 (bD g3 (aQ g4 (aQ (pO (iG n a2 j aC)) (dY bV (bD g5 (aQ g6 (aQ g7 (dY (by simp only;omega) (aQ g8 (dY (by omega) (gz rfl (bD EG (aQ EH (bD RV (aQ RW (dY (by omega) ?_)))))))))))))))))),.inr ⟨b,h1,by omega,ju,h2,fun i ao ia=> ?_⟩⟩
         ·simp only;rw [ke]
         ·by_cases c:i=n
          ·subst c;exact .inr ⟨LK,by omega⟩
          ·exact ab i (by omega) ia
    ·have bV:jD (t.T n j)≤0:=by
      have : ¬0<jD (t.T n j):=fun c=>aj (qo.1 c)
      omega
     refine ⟨s,dx (by simp only;omega) (bD g1 (aQ g2 (bD g3 (aQ g4 (aQ (pO (iG n a2 j aC)) (dx bV ?_)))))),?_⟩
     ·simp only;rw [ke]
     ·rcases cE with ⟨h1,h2⟩|⟨b,h1,aP,ju,h2,ab⟩
      ·exact .inl ⟨h1,fun i ao=>if c:i=n then c▸aj else h2 i (by omega)⟩
      ·exact .inr ⟨b,h1,by omega,ju,h2,fun i ao ia=>if c:i=n then (aj (c▸ia)).elim else ab i (by omega) ia⟩)
  (fun s cE=>by
    refine ⟨s.1,by unfold wm;exact dY (by simp only;omega) rfl,?_⟩
    rcases cE with ⟨h1,h2⟩|⟨b,h1,aP,ju,h2,ab⟩
    ·exact .inl ⟨h1,h2⟩
    ·refine .inr ⟨b,h1,aP,ju,fun i ao ia=> ?_,fun i ao ia he=> ?_⟩
     ·rw [← (Du ju ia).1]
      rcases ab i ao ia with h|⟨h,-⟩
      ·exact Rat.le_of_lt h
      ·rw [h];exact Rat.le_refl
     ·rw [← (Du ju ia).2] at he
      rcases ab i ao ia with h|⟨-,h⟩
      ·rw [he] at h;grind
      ·exact h) ((-1:Int),(⟨⟨false,[]⟩,[]⟩:aL)) (.inl ⟨rfl,fun i ao=>by omega⟩)
 refine ⟨r,aQ ?_ rfl,h⟩
 unfold Ip
 rw [fa,show (iI m N t).length=m from cS ..]
 exact e
theorem Au {m N:Nat}(t:cC):(mH m N).all (qM (iI m N t))=true:=by
 rw [List.all_eq_true]
 intro x R
 obtain ⟨i,ao,rfl⟩:=JZ.1 R
 simp only [qM]
 have h1:(iI m N t).length=m:=cS ..
 have h2:(iI m N t).getD i []=gY N t i:=by
  rw [List.getD_eq_getElem?_getD,show (iI m N t)[i]? = some (gY N t i) from fZ ao];rfl
 rw [h1,h2,show (gY N t i).length=N+1 from cS ..]
 simp [ao]
theorem uH {m N:Nat}(t:cC):(mH m N).map (ir (iI m N t))=iI m N t:=by
 unfold mH
 rw [PI]
 exact eX fun i ao=>by
  have h2:(iI m N t).getD i []=gY N t i:=by
   rw [List.getD_eq_getElem?_getD,show (iI m N t)[i]? = some (gY N t i) from fZ ao];rfl
  simp only [ir]
  rw [h2]
  exact List.take_of_length_le (Nat.le_of_eq (cS ..))
theorem Z2 {m N:Nat}(hm:m≤1000)(fN:N<1000)(t:cC)(c:Nat→Rat)(deep:Bool)(G:Nat→Prop)(adW:∀j,G j→ ∀i,i<m→t.B i≠j)
 (bV : ∀j,j<N→ ∃g,ub ⟨N,iI m N t,dp m t,k7 N c⟩ (j:Int) deep=some g∧((∀i,i<m→t.B i≠j)→(0<g↔G j))) :
 ∃r,CG deep N (mH m N) (dp m t) (k7 N c) (iI m N t) (-1) 0=some r∧((r = -1∧ ∀j,j<N→ ¬G j)∨ ∃s:Nat,r=s∧s<N∧G s∧ ∀j,j<s→ ¬G j):=by
 unfold CG
 refine ql (f:=fun w:Int×Int=>tM deep N (mH m N) (dp m t) (k7 N c) (iI m N t) w.1 w.2) (fun (i:Nat) (e:Int)=>(e,(i:Int))) N
  (fun n e=>(e = -1∧ ∀j,j<n→ ¬G j)∨ ∃s:Nat,e=s∧s<N∧G s∧ ∀j,j<s→ ¬G j) _ (fun n a2 e cE=> ?_) (fun e cE=> ?_) (-1) (.inl ⟨rfl,fun j aC=>by omega⟩)
 ·rcases cE with ⟨rfl,h⟩|⟨s,rfl,vb,sf,ads⟩
  ·left
   obtain ⟨b,e1,e2⟩:=Z0 hm t (N:Int) (iI m N t) (k7 N c) n
   obtain ⟨g,g1,g2⟩:=bV n a2
   unfold tM
   cases b with
   | true =>
    obtain ⟨i,ao,Ei⟩:=e2.1 rfl
    refine ⟨-1,dx (by simp only;omega) (dx (by simp) (bD (Au t) (aQ (by rw [uH];exact e1) (gz rfl ?_)))),.inl ⟨rfl,fun j aC dD=> ?_⟩⟩
    ·simp only;rw [fq (by omega)]
    ·by_cases c:j=n
     ·subst c;exact adW j dD i ao Ei
     ·exact h j (by omega) dD
   | false =>
    have RX : ∀i,i<m→t.B i≠n:=fun i ao e=>by have:=e2.2 ⟨i,ao,e⟩;simp at this
    by_cases dD:G n
    ·refine ⟨(n:Int),dx (by simp only;omega) (dx (by simp) (bD (Au t) (aQ (by rw [uH];exact e1) (jH rfl (aQ (by rw [uH];exact g1) (dx ((g2 RX).2 dD) ?_)))))),.inr ⟨n,rfl,a2,dD,h⟩⟩
     simp only;rw [fq (by omega)]
    ·refine ⟨-1,dx (by simp only;omega) (dx (by simp) (bD (Au t) (aQ (by rw [uH];exact e1) (jH rfl (aQ (by rw [uH];exact g1) (dY (fun x=>dD ((g2 RX).1 x)) ?_)))))),.inl ⟨rfl,fun j aC=>if c:j=n then c▸dD else h j (by omega)⟩⟩
     simp only;rw [fq (by omega)]
  ·right
   exact ⟨(s:Int),by unfold tM;exact dx (by simp only;omega) (dY (by simp only;omega) rfl),.inr ⟨s,rfl,vb,sf,ads⟩⟩
 ·exact ⟨e,by unfold tM;exact dY (by simp only;omega) rfl,cE⟩
theorem cC.XT {gh m N K:Nat}{A obj:Nat→Nat→Rat}{t:cC}(h:fY gh m N A t){j:Nat}(g:t.ry m K obj j): ∀i,i<m→t.B i≠j :=
 fun i ao e=>hK.not_zero g fun l _=>by rw [← e];exact h.zY (obj l) ao
theorem aa6 {gh m N K:Nat}(hm:m≤1000)(fN:N<1000){A obj:Nat→Nat→Rat}(deep:Bool)(Inv:cC→Prop)
 (inv : ∀t,Inv t→fY gh m N A t∧t.lK m N) (gL : ∀t r s,Inv t→o0 m N K obj (fun _=>True) t r s→Inv (t.cK r s))
 (bV : ∀t,Inv t→ ∀j,j<N→ ∃g,ub ⟨N,iI m N t,dp m t,k7 N (t.dv m (obj 0))⟩ (j:Int) deep=some g∧((∀i,i<m→t.B i≠j)→(0<g↔t.ry m K obj j)))
 (iG : ∀t,Inv t→ ∀i,i<m→ ∀j,j≤N→gd (t.T i j)) (a8 : ∀t,Inv t→ ∀i,i<m→ ∀j,j≤N→0<t.T i j→gd (t.T i N / t.T i j))
 (aj : ∀t,Inv t→ ∀r k,r<m→k<N→t.T r k≠0→KR m N t (t.dv m (obj 0)) r k) (t:cC) (ca:Inv t) :
 ∃b c6,w5 deep N (mH m N) (dp m t) (k7 N (t.dv m (obj 0))) (iI m N t)=some (b,dp m c6,k7 N (c6.dv m (obj 0)),iI m N c6)∧Inv c6 ∧
  ((b=true∧ ∀j,j<N→ ¬c6.ry m K obj j)∨(b=false∧ ∃s,s<N∧c6.ry m K obj s∧ ∀i,i<m→ ¬0<c6.T i s)):=by
 obtain ⟨x,dw,c6,e,⟨Ro,cE⟩,-,-,eh⟩:=Od (gh:=gh) (m:=m) (N:=N) (K:=K) (A:=A) (obj:=obj) (b1:=fun _=>True)
  (f:=fun w:(List Int)×(List aL)×(List (List aL))=>yV deep N (mH m N) w.1 w.2.1 w.2.2)
  (fun a t=>a=(dp m t,k7 N (t.dv m (obj 0)),iI m N t)∧Inv t)
  (fun a x t=> ∃b,x=(b,dp m t,k7 N (t.dv m (obj 0)),iI m N t)∧((b=true∧ ∀j,j<N→ ¬t.ry m K obj j)∨(b=false∧ ∃s,s<N∧t.ry m K obj s∧ ∀i,i<m→ ¬0<t.T i s)))
  (fun a t cQ ok nK=>by
    obtain ⟨rfl,cE⟩:=cQ
    obtain ⟨r,e1,e2⟩:=Z2 hm fN t (t.dv m (obj 0)) deep (t.ry m K obj) (fun j dD=>cC.XT ok dD) (bV t cE)
    simp only
    unfold yV
    rcases e2 with ⟨rfl,h⟩|⟨s,rfl,EI,dD,aV⟩
    ·left
     exact ⟨_,aQ e1 (dx (by decide) rfl),true,rfl,.inl ⟨rfl,h⟩⟩
    ·obtain ⟨q,q1,q2⟩:=Z1 hm fN t (N:Int) (k7 N (t.dv m (obj 0))) (j:=s) (by omega) (iG t cE) (fun i ao ia=>a8 t cE i ao s (by omega) ia)
     rcases q2 with ⟨rfl,h⟩|⟨b,rfl,aP,ju,h1,h2⟩
     ·left
      exact ⟨_,aQ e1 (dY (by omega) (bD (Au t) (aQ (by rw [uH];exact q1) (dx (by decide) rfl)))),false,rfl,.inr ⟨rfl,s,EI,dD,h⟩⟩
     ·right
      have dt:o0 m N K obj (fun _=>True) t b s:=⟨EI,trivial,dD,fun j aC _=>aV j aC,aP,ju,h1,h2⟩
      refine ⟨_,b,s,aQ e1 (dY (by omega) (bD (Au t) (aQ (by rw [uH];exact q1) (dY (by omega) (aQ (ZZ hm fN aP (by omega) (by grind) (aj t cE b s aP EI (by grind)) N) rfl))))),dt,?_,gL t b s cE dt⟩
      refine Prod.ext rfl (Prod.ext ?_ rfl)
      exact eX fun j _=>by rw [ok.JO (obj 0) aP EI (by grind)])
  (a:=(dp m t,k7 N (t.dv m (obj 0)),iI m N t)) (t:=t) ⟨rfl,ca⟩ (inv t ca).1 (inv t ca).2
 obtain ⟨b,rfl,aP⟩:=eh
 refine ⟨b,c6,?_,cE,aP⟩
 unfold w5
 exact aQ (x:=(b,dp m c6,k7 N (c6.dv m (obj 0)),iI m N c6)) (by unfold Iq;exact e) rfl
structure l7 (p:hk) (m n:Nat) (a:Nat→Nat→Int) (b:Nat→Int):Prop where
 rows:p.fp=m
 gm:p.d6=n
 gy:p.dE.length=m*n
 KS : ∀i,i<m→ ∀j,j<n→p.dE[i*n+j]? = some (a i j)
 vw:p.eg.length=m
 x6 : ∀i,i<m→p.eg[i]? = some (b i)
 hm:m≤20
 a2:n≤40
 sA : ∀i,i<m→ ∀j,j<n→ -100≤a i j∧a i j≤100
 vv : ∀i,i<m→ -100≤b i∧b i≤100
theorem r8 {p:hk}{m n:Nat}{a:Nat→Nat→Int}{b:Nat→Int}(h:l7 p m n a b){i:Nat}(ao:i<m)(j:Nat): -100≤kd m n a b i j∧kd m n a b i j≤100:=by
 have aP:=h.vv i ao
 unfold kd j7
 by_cases c:j<n
 ·have bA:=h.sA i ao j c
  rw [if_pos c];split<;>omega
 ·rw [if_neg c]
  split
  ·split<;>omega
  ·split<;>omega
theorem Ku {p:hk}{m n:Nat}{a:Nat→Nat→Int}{b:Nat→Int}(h:l7 p m n a b){i:Nat}(ao:i<m)(j:Nat):eo 100 (dA m n a b i j) :=
 ⟨kd m n a b i j,rfl,by have:=r8 h ao j;omega⟩
theorem aaB:(1000000000000000000:Int)<B 24:=by decide
theorem JC {K:Nat}{x:Rat}(h:eo K x)(a5:K≤1000000000000000000):gd x:=by
 obtain ⟨z,rfl,cm⟩:=h
 have:=aaB
 exact Pl (n:=z) (d:=1) (by decide) (by rw [show ((1:Int):Rat)=1 from rfl];grind) (by omega) (by omega)
theorem Kk {p:hk}{m n:Nat}{a:Nat→Nat→Int}{b:Nat→Int}(h:l7 p m n a b){i:Nat}(ao:i<m):ug p i=some (a4 n (a i)):=by
 have hm:=h.hm
 have a2:=h.a2
 have h1:i*n≤20*40:=Nat.mul_le_mul (by omega) a2
 have h2:(i+1)*n≤20*40:=Nat.mul_le_mul (by omega) a2
 have ab:(i+1)*n≤m*n:=Nat.mul_le_mul_right _ ao
 have e1:J ((i:Int)*p.d6)=((i*n:Nat):Int):=by
  rw [h.gm,← Int.natCast_mul,cr (by omega) (by omega)]
 have e2:J (J ((i:Int)+1)*p.d6)=(((i+1)*n:Nat):Int):=by
  rw [h.gm,fq (by omega),← Int.natCast_mul,cr (by omega) (by omega)]
 have au:(i+1)*n=i*n+n:=Nat.succ_mul i n
 unfold ug
 rw [e1,e2,Int.toNat_natCast,Int.toNat_natCast,h.gy]
 refine bD (by omega) (bD (by omega) (bD (by omega) ?_))
 congr 1
 apply List.ext_getElem?
 intro j
 rw [List.getElem?_take,List.getElem?_drop]
 by_cases c:j<n
 ·rw [if_pos (by omega),h.KS i ao j c,fZ c]
 ·rw [if_neg (by omega)]
  symm
  rw [List.getElem?_eq_none_iff,cS];omega
def gT (m n:Nat)(a:Nat→Nat→Int)(b:Nat→Int)(i j:Nat):Rat:=if j<n∨j=n+m then dd i (fun k=>dA m n a b k j) else 0
theorem QH {p:hk}{m n:Nat}{a:Nat→Nat→Int}{b:Nat→Int}(h:l7 p m n a b){i:Nat}(ao:i≤m)(j:Nat):eo 2000 (gT m n a b i j):=by
 have hm:=h.hm
 unfold gT
 split
 ·exact (eo.sum fun k a5=>Ku h (by omega) j).mono (by omega)
 ·exact ⟨0,rfl,by omega⟩
theorem Xc {p:hk}{m n:Nat}{a:Nat→Nat→Int}{b:Nat→Int}(h:l7 p m n a b){i:Nat}(ao:i<m)(aP:b i<0)(x0:Int)(q2:List bt)(bK:List (List aL))(bW:List Int)(cD:List aL):
 (Cz (i:Int) (a4 n (a i)) (len_ eI (a4 n (a i))) p.fp p.d6 p.dE p.eg p.hB x0 q2 bK bW cD 0 ([]:List aL) >>= fun cZ=>CA (i:Int) p.fp p.d6 p.dE p.eg p.hB x0 q2 bK bW cD 0 cZ)=some (a4 (n+m) fun j=>cN (dA m n a b i j)):=by
 have hm:=h.hm
 have a2:=h.a2
 have bV:j7 (b i) = -1:=by unfold j7;rw [if_pos aP]
 obtain ⟨s1,e1,-⟩:=hY (f:=fun w:Int×List aL=>v7 (i:Int) (a4 n (a i)) ((n:Nat):Int) p.fp p.d6 p.dE p.eg p.hB x0 q2 bK bW cD w.1 w.2)
  (fun (k:Nat) (_:Unit)=>((k:Int),a4 k fun j=>cN (dA m n a b i j))) n (fun _ _=>True) (fun _=>a4 n fun j=>cN (dA m n a b i j))
  (fun k a5 _ _=>by
    refine ⟨(),?_,trivial⟩
    have bA:=h.sA i ao k a5
    unfold v7
    have e:J ((-1:Int)*a i k)=kd m n a b i k:=by
     rw [cr (by omega) (by omega)];unfold kd;rw [if_pos a5,bV]
    refine dx (by simp only;omega) (bD (by rw [cS];simp only;omega) (aQ (x:=a i k) (by simp only;rw [Int.toNat_natCast];exact fZ a5) (aQ (x:=cN (dA m n a b i k)) ?_ (bD (by simp only [List.length_append,cS,List.length_cons,List.length_nil];omega) ?_))))
    ·rw [e];exact rV (by have:=r8 h ao k;rw [mz];omega)
    ·simp only;rw [fq (by omega),k0])
  (fun _ _=>by unfold v7;exact dY (by simp) rfl) () trivial
 refine aQ (x:=a4 n fun j=>cN (dA m n a b i j)) (by unfold Cz;rw [fL,cS];exact e1) ?_
 obtain ⟨s2,e2,-⟩:=hY (f:=fun w:Int×List aL=>v8 (i:Int) p.fp p.d6 p.dE p.eg p.hB x0 q2 bK bW cD w.1 w.2)
  (fun (k:Nat) (_:Unit)=>((k:Int),a4 (n+k) fun j=>cN (dA m n a b i j))) m (fun _ _=>True) (fun _=>a4 (n+m) fun j=>cN (dA m n a b i j))
  (fun k a5 _ _=>by
    refine ⟨(),?_,trivial⟩
    unfold v8
    have Ca:kd m n a b i (n+k)=if k=i then 1 else 0:=by
     unfold kd
     rw [if_neg (by omega),if_neg (by omega)]
     by_cases c:k=i
     ·rw [if_pos c,if_pos (by omega)]
     ·rw [if_neg c,if_neg (by omega)]
    refine dx (by simp only;rw [h.rows];omega) (oc (fun c=> ?_) (fun c=> ?_))
    ·have vf:k=i:=by simp at c;omega
     refine aQ (x:=cN (dA m n a b i (n+k))) (by unfold dA;rw [Ca,if_pos vf];exact rV (by rw [mz];omega)) (bD (by simp only [List.length_append,cS,List.length_cons,List.length_nil];omega) ?_)
     simp only;rw [fq (by omega),← Nat.add_assoc,k0]
    ·have vf:k≠i:=by simp at c;omega
     refine aQ (x:=cN (dA m n a b i (n+k))) (by unfold dA;rw [Ca,if_neg vf];exact rV (by rw [mz];omega)) (bD (by simp only [List.length_append,cS,List.length_cons,List.length_nil];omega) ?_)
     simp only;rw [fq (by omega),← Nat.add_assoc,k0])
  (fun _ _=>by unfold v8;exact dY (by simp only;rw [h.rows];omega) rfl) () trivial
 unfold CA
 exact e2
theorem Xd {p:hk}{m n:Nat}{a:Nat→Nat→Int}{b:Nat→Int}(h:l7 p m n a b){i:Nat}(ao:i<m)(aP:¬b i<0)(x0:Int)(q2:List bt)(bK:List (List aL))(bW:List Int)(cD:List aL):
 (Cu (i:Int) (a4 n (a i)) (len_ eI (a4 n (a i))) p.fp p.d6 p.dE p.eg p.hB x0 q2 bK bW cD 0 ([]:List aL) >>= fun cZ=>Cv (i:Int) p.fp p.d6 p.dE p.eg p.hB x0 q2 bK bW cD 0 cZ)=some (a4 (n+m) fun j=>cN (dA m n a b i j)):=by
 have hm:=h.hm
 have a2:=h.a2
 have bV:j7 (b i)=1:=by unfold j7;rw [if_neg aP]
 obtain ⟨s1,e1,-⟩:=hY (f:=fun w:Int×List aL=>vS (i:Int) (a4 n (a i)) ((n:Nat):Int) p.fp p.d6 p.dE p.eg p.hB x0 q2 bK bW cD w.1 w.2)
  (fun (k:Nat) (_:Unit)=>((k:Int),a4 k fun j=>cN (dA m n a b i j))) n (fun _ _=>True) (fun _=>a4 n fun j=>cN (dA m n a b i j))
  (fun k a5 _ _=>by
    refine ⟨(),?_,trivial⟩
    have bA:=h.sA i ao k a5
    unfold vS
    have e:J ((1:Int)*a i k)=kd m n a b i k:=by
     rw [cr (by omega) (by omega)];unfold kd;rw [if_pos a5,bV]
    refine dx (by simp only;omega) (bD (by rw [cS];simp only;omega) (aQ (x:=a i k) (by simp only;rw [Int.toNat_natCast];exact fZ a5) (aQ (x:=cN (dA m n a b i k)) ?_ (bD (by simp only [List.length_append,cS,List.length_cons,List.length_nil];omega) ?_))))
    ·rw [e];exact rV (by have:=r8 h ao k;rw [mz];omega)
    ·simp only;rw [fq (by omega),k0])
  (fun _ _=>by unfold vS;exact dY (by simp) rfl) () trivial
 refine aQ (x:=a4 n fun j=>cN (dA m n a b i j)) (by unfold Cu;rw [fL,cS];exact e1) ?_
 obtain ⟨s2,e2,-⟩:=hY (f:=fun w:Int×List aL=>vT (i:Int) p.fp p.d6 p.dE p.eg p.hB x0 q2 bK bW cD w.1 w.2)
  (fun (k:Nat) (_:Unit)=>((k:Int),a4 (n+k) fun j=>cN (dA m n a b i j))) m (fun _ _=>True) (fun _=>a4 (n+m) fun j=>cN (dA m n a b i j))
  (fun k a5 _ _=>by
    refine ⟨(),?_,trivial⟩
    unfold vT
    have Ca:kd m n a b i (n+k)=if k=i then 1 else 0:=by
     unfold kd
     rw [if_neg (by omega),if_neg (by omega)]
     by_cases c:k=i
     ·rw [if_pos c,if_pos (by omega)]
     ·rw [if_neg c,if_neg (by omega)]
    refine dx (by simp only;rw [h.rows];omega) (oc (fun c=> ?_) (fun c=> ?_))
    ·have vf:k=i:=by simp at c;omega
     refine aQ (x:=cN (dA m n a b i (n+k))) (by unfold dA;rw [Ca,if_pos vf];exact rV (by rw [mz];omega)) (bD (by simp only [List.length_append,cS,List.length_cons,List.length_nil];omega) ?_)
     simp only;rw [fq (by omega),← Nat.add_assoc,k0]
    ·have vf:k≠i:=by simp at c;omega
     refine aQ (x:=cN (dA m n a b i (n+k))) (by unfold dA;rw [Ca,if_neg vf];exact rV (by rw [mz];omega)) (bD (by simp only [List.length_append,cS,List.length_cons,List.length_nil];omega) ?_)
     simp only;rw [fq (by omega),← Nat.add_assoc,k0])
  (fun _ _=>by unfold vT;exact dY (by simp only;rw [h.rows];omega) rfl) () trivial
 unfold Cv
 exact e2
theorem Ok {p:hk}{m n:Nat}{a:Nat→Nat→Int}{b:Nat→Int}(h:l7 p m n a b){i:Nat}(ao:i<m)(q2:List (List aL))(bK:List bt)(bW:List Int)(a8:q2[i]? = some (a4 (n+m+1) fun j=>cN (dA m n a b i j))):
 y3 (i:Int) i (n+m+1) (((n+m+1:Nat):Nat):Int) p.fp p.d6 p.dE p.eg p.hB ((n+m:Nat):Int) q2 bK bW 0 (a4 (n+m+1) fun j=>cN (gT m n a b i j))=some (a4 (n+m+1) fun j=>cN (gT m n a b (i+1) j)):=by
 have hm:=h.hm
 have a2:=h.a2
 have adX : ∀j,gd (dA m n a b i j):=fun j=>JC (Ku h ao j) (by omega)
 have f1 : ∀j,gd (gT m n a b i j):=fun j=>JC (QH h (by omega) j) (by omega)
 have f2 : ∀j,gd (gT m n a b (i+1) j):=fun j=>JC (QH h (by omega) j) (by omega)
 have es : ∀j,(j<n∨j=n+m)→gT m n a b i j+dA m n a b i j=gT m n a b (i+1) j:=fun j aC=>by
  unfold gT;rw [if_pos aC,if_pos aC,dd]
 have adY : ∀j,¬(j<n∨j=n+m)→gT m n a b i j=gT m n a b (i+1) j:=fun j aC=>by
  unfold gT;rw [if_neg aC,if_neg aC]
 obtain ⟨s,e,-⟩:=hY (f:=fun w:Int×List aL=>v9 (i:Int) i (n+m+1) (((n+m+1:Nat):Nat):Int) p.fp p.d6 p.dE p.eg p.hB ((n+m:Nat):Int) q2 bK bW w.1 w.2)
  (fun (k:Nat) (_:Unit)=>((k:Int),a4 (n+m+1) fun j=>cN (if j<k then gT m n a b (i+1) j else gT m n a b i j))) (n+m+1) (fun _ _=>True) (fun _=>a4 (n+m+1) fun j=>cN (gT m n a b (i+1) j))
  (fun k a5 _ _=>by
    refine ⟨(),?_,trivial⟩
    have fin : ∀r,r=gT m n a b (i+1) k→(J ((k:Int)+1),(a4 (n+m+1) fun j=>cN (if j<k then gT m n a b (i+1) j else gT m n a b i j)).set (0+((k:Int)).toNat) (cN r))=(((k+1:Nat):Int),a4 (n+m+1) fun j=>cN (if j<k+1 then gT m n a b (i+1) j else gT m n a b i j)):=by
     intro r aq
     rw [fq (by omega),Int.toNat_natCast,Nat.zero_add,k1]
     congr 1
     refine eX fun j _=> ?_
     by_cases c:j=k
     ·subst c;rw [if_pos rfl,if_pos (by omega),aq]
     ·rw [if_neg c]
      by_cases cb:j<k
      ·rw [if_pos cb,if_pos (by omega)]
      ·rw [if_neg cb,if_neg (by omega)]
    have So : ∀ {x:Option ((Int×List aL)⊕List aL)},(k<n∨k=n+m)→(∀r,(J ((k:Int)+1),(a4 (n+m+1) fun j=>cN (if j<k then gT m n a b (i+1) j else gT m n a b i j)).set (0+((k:Int)).toNat) (cN r))=(((k+1:Nat):Int),a4 (n+m+1) fun j=>cN (if j<k+1 then gT m n a b (i+1) j else gT m n a b i j))→some (Sum.inl (J ((k:Int)+1),(a4 (n+m+1) fun j=>cN (if j<k then gT m n a b (i+1) j else gT m n a b i j)).set (0+((k:Int)).toNat) (cN r)))=x) →
     (if 0≤(k:Int)∧(k:Int)<(((a4 (n+m+1) fun j=>cN (if j<k then gT m n a b (i+1) j else gT m n a b i j)).length:Nat):Int) then
       (a4 (n+m+1) fun j=>cN (if j<k then gT m n a b (i+1) j else gT m n a b i j))[(0+((k:Int)).toNat)]? >>= fun f8 =>
       q2[i]? >>= fun mV =>
       if 0≤(k:Int)∧(k:Int)<((n+m+1:Nat):Int) then
       mV[(0+((k:Int)).toNat)]? >>= fun ep =>
       q5 f8 ep >>= fun c0 =>
       if (0+((k:Int)).toNat)<(a4 (n+m+1) fun j=>cN (if j<k then gT m n a b (i+1) j else gT m n a b i j)).length then
       some (.inl (J ((k:Int)+(1:Int)),(a4 (n+m+1) fun j=>cN (if j<k then gT m n a b (i+1) j else gT m n a b i j)).set (0+((k:Int)).toNat) c0))
       else none
       else none
       else none)=x:=by
     intro x Es R
     refine bD (by rw [cS];omega) (aQ (x:=cN (gT m n a b i k)) (by rw [Int.toNat_natCast,h3 a5,if_neg (by omega)]) (aQ a8 (bD (by omega) (aQ (x:=cN (dA m n a b i k)) (by rw [Int.toNat_natCast];exact h3 a5) (aQ (Kj (f1 k) (adX k) (by rw [es k Es];exact f2 k)) (bD (by rw [cS,Int.toNat_natCast];omega) ?_))))))
     exact R _ (fin _ (es k Es))
    unfold v9
    refine dx (by simp only;omega) (oc (fun c=> ?_) (fun c=> ?_))
    ·have LL:k<n:=by have:=of_decide_eq_true c;rw [h.gm] at this;simp only at this;omega
     exact So (.inl LL) fun r aq=>by rw [aq]
    ·have LL : ¬k<n:=by have:=of_decide_eq_false c;rw [h.gm] at this;simp only at this;omega
     refine oc (fun cb=> ?_) (fun cb=> ?_)
     ·have RY:k=n+m:=by simp at cb;omega
      exact So (.inr RY) fun r aq=>by rw [aq]
     ·have RY:k≠n+m:=by simp at cb;omega
      simp only
      rw [fq (by omega)]
      congr 3
      refine eX fun j _=> ?_
      by_cases jg:j=k
      ·subst jg;rw [if_neg (by omega),if_pos (by omega),adY j (by omega)]
      ·by_cases pA:j<k
       ·rw [if_pos pA,if_pos (by omega)]
       ·rw [if_neg pA,if_neg (by omega)])
  (fun _ _=>by
    unfold v9
    refine dY (by simp) ?_
    simp only
    congr 2
    exact eX fun j aC=>by rw [if_pos aC]) () trivial
 unfold y3
 have bO:(a4 (n+m+1) fun j=>cN (if j<0 then gT m n a b (i+1) j else gT m n a b i j))=a4 (n+m+1) fun j=>cN (gT m n a b i j):=eX fun j _=>by rw [if_neg (by omega)]
 rw [bO] at e
 exact e
theorem uO {K:Nat}{d x y:Rat}(bC:eo K d)(a0:eo K y)(h0:d≠0)(e:d*x=y)(hy:(K:Int)<B 24):gd x:=by
 obtain ⟨z,rfl,cm⟩:=bC
 obtain ⟨w,rfl,hw⟩:=a0
 exact Pl (n:=w) (d:=z) (fun c=>h0 (by rw [c];rfl)) e (by omega) (by omega)
@[irreducible] def fD:Nat:=qa 100 20
theorem AK:qa 100 20=fD:=by unfold fD;rfl
theorem aa7:((21*100*(fD*fD):Nat):Int)<B 24:=by decide +kernel
theorem pS:0<fD:=by decide +kernel
structure kK (m N:Nat) (A:Nat→Nat→Rat) (t:cC):Prop where
 ok:fY m m N A t
 nK:t.lK m N
 sB:t.D m A≠0
structure Small (m N:Nat) (A:Nat→Nat→Rat):Prop where
 hm:m≤20
 tC : ∀c,c<m→ ∀j,j≤N→eo 100 (A c j)
theorem kK.BT {m N:Nat}{A:Nat→Nat→Rat}(s:Small m N A){t:cC}(h:kK m N A t):eo fD (t.D m A):=by
 refine eo.mono (xM fun i ao c ba=>s.tC c ba _ (Nat.le_of_lt (h.ok.lc i ao))) (AK▸xu (by omega) s.hm)
theorem kK.tt {m N:Nat}{A:Nat→Nat→Rat}(s:Small m N A){t:cC}(h:kK m N A t){i j:Nat}(ao:i<m)(aC:j≤N):eo fD (t.T i j*t.D m A):=by
 rw [← h.ok.vq ao aC]
 refine eo.mono (xM fun k a5 c ba=> ?_) (AK▸xu (by omega) s.hm)
 simp only [f6]
 split
 ·exact s.tC c ba j aC
 ·exact s.tC c ba _ (Nat.le_of_lt (h.ok.lc k a5))
theorem uP {k:Nat}(h:k≤21*100*(fD*fD)):((k:Nat):Int)<B 24:=by have:=aa7;omega
theorem KT:fD≤21*100*(fD*fD):=by
 have h1:fD*1≤fD*fD:=Nat.mul_le_mul_left _ pS
 omega
theorem kK.Q2 {m N:Nat}{A:Nat→Nat→Rat}(s:Small m N A){t:cC}(h:kK m N A t){i j:Nat}(ao:i<m)(aC:j≤N):gd (t.T i j) :=
 uO (h.BT s) (h.tt s ao aC) h.sB (by grind) (uP KT)
theorem kK.acb {m N:Nat}{A:Nat→Nat→Rat}(s:Small m N A){t:cC}(h:kK m N A t){i j:Nat}(ao:i<m)(aC:j≤N)(aj:0<t.T i j):gd (t.T i N / t.T i j) :=
 uO (h.tt s ao aC) (h.tt s ao (Nat.le_refl _)) (fun c=>by
  have h1:=h.sB
  have:t.T i j≠0:=by grind
  grind) (by grind) (uP KT)
theorem kK.RZ {m N:Nat}{A:Nat→Nat→Rat}(s:Small m N A){t:cC}(h:kK m N A t){o:Nat→Rat}(an:∀j,j≤N→eo 100 (o j)){j:Nat}(aC:j≤N):eo (21*100*fD) (t.dv m o j*t.D m A):=by
 have hm:=s.hm
 unfold cC.dv
 have e:(o j-dd m (fun i=>o (t.B i)*t.T i j))*t.D m A=o j*t.D m A-dd m (fun i=>o (t.B i)*(t.T i j*t.D m A)):=by
  rw [hX (f:=fun i=>o (t.B i)*(t.T i j*t.D m A)) (g:=fun i=>(o (t.B i)*t.T i j)*t.D m A) (fun i _=>by grind),zX];grind
 rw [e]
 refine eo.mono (((an j aC).mul (h.BT s)).sub (eo.sum fun i ao=>(an _ (Nat.le_of_lt (h.ok.lc i ao))).mul (h.tt s ao aC))) ?_
 have:m*(100*fD)≤20*(100*fD):=Nat.mul_le_mul_right _ hm
 omega
theorem Q3:21*100*fD≤21*100*(fD*fD):=by
 have h1:fD*1≤fD*fD:=Nat.mul_le_mul_left _ pS
 omega
theorem kK.KU {m N:Nat}{A:Nat→Nat→Rat}(s:Small m N A){t:cC}(h:kK m N A t){o:Nat→Rat}(an:∀j,j≤N→eo 100 (o j)){j:Nat}(aC:j≤N):gd (t.dv m o j) :=
 uO ((h.BT s).mono (Nat.le_trans (by omega:fD≤21*100*fD) (Nat.le_refl _))) (h.RZ s an aC) h.sB (by grind) (uP Q3)
theorem kK.gL {m N K:Nat}{A obj:Nat→Nat→Rat}{b1:Nat→Prop}{t:cC}(h:kK m N A t){r k:Nat}(b:o0 m N K obj b1 t r k):kK m N A (t.cK r k) :=
 ⟨b.ok h.ok,b.KI h.nK,by
  rw [h.ok.xU b.aq b.bV]
  have h1:=b.pos
  have h2:=h.sB
  intro c
  have:t.T r k≠0:=by grind
  grind⟩
end Go.Proofs.YtdkjpcaalflfhaaGreat
namespace Go.Proofs.YtdkjpcaalflfhaaGreat
set_option linter.unusedVariables false
set_option linter.unusedSimpArgs false
open Go Go.VL
theorem kK.acd {m N:Nat}{A:Nat→Nat→Rat}(s:Small m N A){t:cC}(h:kK m N A t){o:Nat→Rat}(an:∀j,j≤N→eo 100 (o j)){r k:Nat}(aq:r<m)(a5:k<N)(aj:t.T r k≠0)(cx:fY m m N A (t.cK r k)):KR m N t (t.dv m o) r k:=by
 have bC:=h.sB
 have pZ:(t.cK r k).D m A≠0:=by rw [h.ok.xU aq a5];grind
 have eJ:(t.cK r k).D m A=t.T r k*t.D m A:=h.ok.xU aq a5
 have i2:eo fD ((t.cK r k).D m A):=eo.mono (xM fun i ao c ba=>s.tC c ba _ (Nat.le_of_lt (cx.lc i ao))) (AK▸xu (by omega) s.hm)
 have vi : ∀i,i<m→ ∀j,j≤N→eo fD ((t.cK r k).T i j*(t.cK r k).D m A):=fun i ao j aC=>by
  rw [← cx.vq ao aC]
  refine eo.mono (xM fun k a5 c ba=> ?_) (AK▸xu (by omega) s.hm)
  simp only [f6]
  split
  ·exact s.tC c ba j aC
  ·exact s.tC c ba _ (Nat.le_of_lt (cx.lc k a5))
 have Sp:eo (21*100*(fD*fD)) (t.D m A*(t.cK r k).D m A):=((h.BT s).mul i2).mono (by omega)
 have R0:t.D m A*(t.cK r k).D m A≠0:=by grind
 refine ⟨fun i ao j aC=>h.Q2 s ao aC,fun i ao j aC=>uO i2 (vi i ao j aC) pZ (by grind) (uP KT),fun i ao _ j aC=> ?_,fun j aC=>h.KU s an aC,fun j aC=> ?_,fun j aC=> ?_⟩
 ·refine uO Sp (((h.tt s ao (Nat.le_of_lt a5)).mul (h.tt s aq aC)).neg.mono (by omega)) R0 ?_ (uP (Nat.le_refl _))
  rw [eJ];grind
 ·rw [← h.ok.JO o aq a5 aj]
  have g2:eo (21*100*fD) ((t.cK r k).dv m o j*(t.cK r k).D m A):=by
   have hm:=s.hm
   unfold cC.dv
   have e:(o j-dd m (fun i=>o ((t.cK r k).B i)*(t.cK r k).T i j))*(t.cK r k).D m A=o j*(t.cK r k).D m A-dd m (fun i=>o ((t.cK r k).B i)*((t.cK r k).T i j*(t.cK r k).D m A)):=by
    rw [hX (f:=fun i=>o ((t.cK r k).B i)*((t.cK r k).T i j*(t.cK r k).D m A)) (g:=fun i=>(o ((t.cK r k).B i)*(t.cK r k).T i j)*(t.cK r k).D m A) (fun i _=>by grind),zX];grind
   rw [e]
   refine eo.mono (((an j aC).mul i2).sub (eo.sum fun i ao=>(an _ (Nat.le_of_lt (cx.lc i ao))).mul (vi i ao j aC))) ?_
   have:m*(100*fD)≤20*(100*fD):=Nat.mul_le_mul_right _ hm
   omega
  exact uO (i2.mono (by omega)) g2 pZ (by grind) (uP Q3)
 ·refine uO Sp (((h.RZ s an (Nat.le_of_lt a5)).mul (h.tt s aq aC)).neg.mono (by
   rw [Nat.mul_assoc];exact Nat.le_refl _)) R0 ?_ (uP (Nat.le_refl _))
  rw [eJ];grind
theorem Z3 {p:hk}{m n:Nat}{a:Nat→Nat→Int}{b:Nat→Int}(h:l7 p m n a b):
 za p=some (((n+m:Nat):Int),mH m (n+m),dp m (h6 m n a b),k7 (n+m) ((h6 m n a b).dv m (gB m n)),iI m (n+m) (h6 m n a b)):=by
 have hm:=h.hm
 have a2:=h.a2
 have fN:J (p.d6+p.fp)=((n+m:Nat):Int):=by rw [h.gm,h.rows,← Int.natCast_add,cr (by omega) (by omega)]
 unfold za
 rw [fN]
 obtain ⟨s1,e1,-⟩:=hY (f:=fun w:Int×List aL=>v5 p.fp p.d6 p.dE p.eg p.hB ((n+m:Nat):Int) w.1 w.2)
  (fun (k:Nat) (_:Unit)=>((k:Int),a4 k fun j=>cN (0:Rat))) (n+m+1) (fun _ _=>True) (fun _=>a4 (n+m+1) fun j=>cN (0:Rat))
  (fun k a5 _ _=>by
    refine ⟨(),?_,trivial⟩
    unfold v5
    refine dx (by simp only;omega) (aQ (x:=cN (0:Rat)) (rV (n:=0) (by rw [mz];omega)) (bD (by simp only [List.length_append,cS,List.length_cons,List.length_nil];omega) ?_))
    simp only;rw [fq (by omega),k0])
  (fun _ _=>by unfold v5;exact dY (by simp only;omega) rfl) () trivial
 refine aQ (x:=a4 (n+m+1) fun j=>cN (0:Rat)) (by unfold HO;exact e1) ?_
 obtain ⟨s2,e2,-⟩:=hY (f:=fun w:Int×(List bt)×(List (List aL))×(List Int)×(List aL)=>vU p.fp p.d6 p.dE p.eg p.hB ((n+m:Nat):Int) w.1 w.2.1 w.2.2.1 w.2.2.2.1 w.2.2.2.2)
  (fun (i:Nat) (_:Unit)=>((i:Int),a4 i (fun k=>some (k,n+m+1)),a4 i (gY (n+m) (h6 m n a b)),a4 i (fun k=>((n+k:Nat):Int)),a4 (n+m+1) fun j=>cN (gT m n a b i j))) m (fun _ _=>True)
  (fun _=>(mH m (n+m),iI m (n+m) (h6 m n a b),dp m (h6 m n a b),a4 (n+m+1) fun j=>cN (gT m n a b m j)))
  (fun i ao _ _=>by
    refine ⟨(),?_,trivial⟩
    have aP:=h.vv i ao
    have hlen:((a4 (n+m) fun j=>cN (dA m n a b i j))++[cN (dA m n a b i (n+m))])=gY (n+m) (h6 m n a b) i:=(k0 ..).symm
    have BU:(gY (n+m) (h6 m n a b) i).length=n+m+1:=cS ..
    have hw:J (p.d6+(i:Int))=((n+i:Nat):Int):=by rw [h.gm,← Int.natCast_add,cr (by omega) (by omega)]
    have dD:(a4 i (gY (n+m) (h6 m n a b))++[gY (n+m) (h6 m n a b) i])[i]? = some (gY (n+m) (h6 m n a b) i):=by rw [← k0];exact fZ (by omega)
    have R1:(a4 i (gY (n+m) (h6 m n a b))).length=i:=cS ..
    have pz:kd m n a b i (n+m)=j7 (b i)*b i:=by unfold kd;rw [if_neg (by omega),if_pos rfl]
    have fin:(some (Sum.inl (J ((i:Int)+1),(a4 i (fun k=>(some (k,n+m+1):bt)))++[some (i,n+m+1)],a4 i (gY (n+m) (h6 m n a b))++[gY (n+m) (h6 m n a b) i],(a4 i fun k=>((n+k:Nat):Int))++[((n+i:Nat):Int)],a4 (n+m+1) fun j=>cN (gT m n a b (i+1) j))):Option ((Int×(List bt)×(List (List aL))×(List Int)×(List aL))⊕((List bt)×(List (List aL))×(List Int)×(List aL)))) =
     some (Sum.inl (((i+1:Nat):Int),a4 (i+1) (fun k=>some (k,n+m+1)),a4 (i+1) (gY (n+m) (h6 m n a b)),a4 (i+1) (fun k=>((n+k:Nat):Int)),a4 (n+m+1) fun j=>cN (gT m n a b (i+1) j))):=by
     rw [fq (by omega),k0 i (fun k=>(some (k,n+m+1):bt)),k0 i (gY (n+m) (h6 m n a b)),k0 i (fun k=>((n+k:Nat):Int))]
    unfold vU
    refine dx (by simp only;rw [h.rows];omega) (bD (by simp only;rw [h.vw];omega) (aQ (x:=b i) (by simp only;rw [Int.toNat_natCast];exact h.x6 i ao) (oc (fun c=> ?_) (fun c=> ?_))))
    ·have m5:b i<0:=of_decide_eq_true c
     have bV:j7 (b i) = -1:=by unfold j7;rw [if_pos m5]
     refine aQ (Kk h ao) ?_
     have aq:=Xc h ao m5 ((n+m:Nat):Int) (a4 i (fun k=>some (k,n+m+1))) (a4 i (gY (n+m) (h6 m n a b))) (a4 i (fun k=>((n+k:Nat):Int))) (a4 (n+m+1) fun j=>cN (gT m n a b i j))
     rw [Option.bind_eq_bind,Option.bind_eq_some_iff] at aq
     obtain ⟨cZ,hN,vd⟩:=aq
     refine aQ hN (aQ vd (aQ (x:=cN (dA m n a b i (n+m))) (by
      have e:J ((-1:Int)*b i)=kd m n a b i (n+m):=by rw [pz,bV,cr (by omega) (by omega)]
      rw [e];exact rV (by have:=r8 h ao (n+m);rw [mz];omega)) ?_))
     simp only
     rw [hlen,R1,BU,hw]
     refine bD (by omega) (aQ dD (aQ (Ok h ao _ _ _ dD) (bD (by simp only [List.length_append,cS,List.length_cons,List.length_nil];omega) (bD (by simp only [List.length_append,cS,List.length_cons,List.length_nil];omega) fin))))
    ·have m5 : ¬b i<0:=of_decide_eq_false c
     have bV:j7 (b i)=1:=by unfold j7;rw [if_neg m5]
     refine aQ (Kk h ao) ?_
     have aq:=Xd h ao m5 ((n+m:Nat):Int) (a4 i (fun k=>some (k,n+m+1))) (a4 i (gY (n+m) (h6 m n a b))) (a4 i (fun k=>((n+k:Nat):Int))) (a4 (n+m+1) fun j=>cN (gT m n a b i j))
     rw [Option.bind_eq_bind,Option.bind_eq_some_iff] at aq
     obtain ⟨cZ,hN,vd⟩:=aq
     refine aQ hN (aQ vd (aQ (x:=cN (dA m n a b i (n+m))) (by
      have e:J ((1:Int)*b i)=kd m n a b i (n+m):=by rw [pz,bV,cr (by omega) (by omega)]
      rw [e];exact rV (by have:=r8 h ao (n+m);rw [mz];omega)) ?_))
     simp only
     rw [hlen,R1,BU,hw]
     refine bD (by omega) (aQ dD (aQ (Ok h ao _ _ _ dD) (bD (by simp only [List.length_append,cS,List.length_cons,List.length_nil];omega) (bD (by simp only [List.length_append,cS,List.length_cons,List.length_nil];omega) fin)))))
  (fun _ _=>by unfold vU;exact dY (by simp only;rw [h.rows];omega) rfl) () trivial
 have e0:(a4 (n+m+1) fun j=>cN (gT m n a b 0 j))=a4 (n+m+1) fun j=>cN (0:Rat):=eX fun j _=>by
  unfold gT;split<;>rfl
 rw [e0] at e2
 refine aQ (x:=(mH m (n+m),iI m (n+m) (h6 m n a b),dp m (h6 m n a b),a4 (n+m+1) fun j=>cN (gT m n a b m j))) (by unfold Hm;exact e2) ?_
 congr 1
 refine Prod.ext rfl (Prod.ext rfl (Prod.ext rfl (Prod.ext ?_ rfl)))
 refine eX fun j aC=> ?_
 rw [YM]
 unfold gT gB
 by_cases c:j<n∨j=n+m
 ·rw [if_pos c,if_neg (by omega)];congr 1;grind
 ·rw [if_neg c,if_pos (by omega)]
  obtain ⟨k,rfl⟩ : ∃k,j=n+k:=⟨j-n,by omega⟩
  rw [nQ (k:=k) (by omega) (fun i _ dk=>by rw [rT (by omega),if_neg (Ne.symm dk)]),rT (by omega),if_pos rfl,show (-1:Rat)+1=0 by grind]
theorem JR (l:List Int)(aV:l.length≤1000)(h:∀x∈l,-100≤x∧x≤100):um l=some true:=by
 unfold um I1
 rw [fL]
 obtain ⟨s,e,-⟩:=hY (f:=fun w:Int=>wP l (l.length:Nat) w) (fun (i:Nat) (_:Unit)=>(i:Int)) l.length (fun _ _=>True) (fun _=>(Sum.inl ():Unit⊕Unit))
  (fun i ao _ _=>by
    refine ⟨(),?_,trivial⟩
    have R:=h l[i] (List.getElem_mem ao)
    unfold wP
    refine dx (by omega) (bD (by omega) (aQ (x:=l[i]) (by rw [Int.toNat_natCast];exact List.getElem?_eq_getElem ao) (aQ (pM _ _ _) (gz (decide_eq_true (by omega)) ?_))))
    rw [fq (by omega)])
  (fun _ _=>by unfold wP;exact dY (by omega) rfl) () trivial
 exact aQ e rfl
theorem Xu {p:hk}{m n:Nat}{a:Nat→Nat→Int}{b:Nat→Int}(h:l7 p m n a b)(EQ:p.hB.length=n)(Cb:∀x∈p.hB,-100≤x∧x≤100):zg p=some true:=by
 have hm:=h.hm
 have a2:=h.a2
 have Ez:m*n≤20*40:=Nat.mul_le_mul hm a2
 have hA : ∀x∈p.dE,-100≤x∧x≤100:=fun x R=>by
  obtain ⟨k,a5,rfl⟩:=List.getElem_of_mem R
  rw [h.gy] at a5
  have Bh:0<n:=by
   rcases Nat.eq_zero_or_pos n with c|c
   ·rw [c] at a5;omega
   ·exact c
  have h1:k / n<m:=Nat.div_lt_of_lt_mul (by rw [Nat.mul_comm];exact a5)
  have h2:k % n<n:=Nat.mod_lt _ Bh
  have ab:=h.KS (k / n) h1 (k % n) h2
  have au:k / n*n+k % n=k:=by rw [Nat.mul_comm];exact Nat.div_add_mod k n
  rw [au,List.getElem?_eq_getElem (by rw [h.gy];exact a5)] at ab
  rw [Option.some.inj ab]
  exact h.sA _ h1 _ h2
 have gU : ∀x∈p.eg,-100≤x∧x≤100:=fun x R=>by
  obtain ⟨k,a5,rfl⟩:=List.getElem_of_mem R
  have ab:=h.x6 k (by rw [← h.vw];exact a5)
  rw [List.getElem?_eq_getElem a5] at ab
  rw [Option.some.inj ab]
  exact h.vv _ (by rw [← h.vw];exact a5)
 unfold zg
 rw [h.rows,h.gm]
 refine aQ (pM _ _ _) (gz (decide_eq_true (by omega)) (aQ (pM _ _ _) (gz (decide_eq_true (by omega)) ?_)))
 refine gz (sj (by rw [fL,h.gy,← Int.natCast_mul,cr (by omega) (by omega)])) (gz (sj (by rw [fL,h.vw])) (gz (sj (by rw [fL,EQ])) ?_))
 exact aQ (JR _ (by rw [h.gy];omega) hA) (gz rfl (aQ (JR _ (by rw [h.vw];omega) gU) (gz rfl (aQ (JR _ (by rw [EQ];omega) Cb) rfl))))
theorem J2 (m n j:Nat):eo 100 (gB m n j):=by
 unfold gB;split
 ·exact ⟨-1,rfl,by omega⟩
 ·exact ⟨0,rfl,by omega⟩
theorem D5 {g:Nat→Rat}:hK 1 g↔0<g 0:=by
 constructor
 ·rintro ⟨l,h1,h2,-⟩;rw [show l=0 by omega] at h2;exact h2
 ·intro h;exact ⟨0,by omega,h,fun gg aV=>by omega⟩
theorem JD {p:hk}{m n:Nat}{a:Nat→Nat→Int}{b:Nat→Int}(h:l7 p m n a b):Small m (n+m) (dA m n a b):=⟨h.hm,fun c ba j _=>Ku h ba j⟩
theorem Zf {p:hk}{m n:Nat}{a:Nat→Nat→Int}{b:Nat→Int}(h:l7 p m n a b):
 ∃t,w5 false ((n+m:Nat):Int) (mH m (n+m)) (dp m (h6 m n a b)) (k7 (n+m) ((h6 m n a b).dv m (gB m n))) (iI m (n+m) (h6 m n a b))=some (true,dp m t,k7 (n+m) (t.dv m (gB m n)),iI m (n+m) t) ∧
  kK m (n+m) (dA m n a b) t∧(t.dv m (gB m n) (n+m)=0↔s9 m n a b):=by
 have hm:=h.hm
 have a2:=h.a2
 have sC:=JD h
 obtain ⟨q,t,e,cE,eh⟩:=aa6 (gh:=m) (m:=m) (N:=n+m) (K:=1) (by omega) (by omega) (A:=dA m n a b) (obj:=fun _=>gB m n) false (kK m (n+m) (dA m n a b)) (fun t ca=>⟨ca.ok,ca.nK⟩) (fun t r s ca b=>ca.gL b)
  (fun t ca j aC=>⟨jD (t.dv m (gB m n) j),aaA (by omega) _ _ _ _ (by omega) (ca.KU sC (fun j _=>J2 m n j) (by omega)),fun _=>by rw [qo];exact (D5 (g:=fun _=>t.dv m (gB m n) j)).symm⟩)
  (fun t ca i ao j aC=>ca.Q2 sC ao aC) (fun t ca i ao j aC aj=>ca.acb sC ao aC aj)
  (fun t ca r k aq a5 aj=>ca.acd sC (fun j _=>J2 m n j) aq a5 aj (ca.ok.cK aq a5 aj)) (h6 m n a b) ⟨PJ,OH,O9⟩
 rcases eh with ⟨rfl,eh⟩|⟨-,s,bV,dD,jo⟩
 ·refine ⟨t,e,cE,fun h0=>NQ cE.ok cE.nK (NR cE.nK h0 cE.ok.lc),fun adt=>Oe cE.ok cE.nK (fun j aC=> ?_) adt⟩
  have:=eh j (by omega)
  have h2 : ¬0<t.dv m (gB m n) j:=fun c=>this (D5.2 c)
  grind
 ·obtain ⟨i,ao,aj⟩:=Nz cE.ok bV (D5.1 dD)
  exact (jo i ao aj).elim
theorem WY {p:hk}{m n:Nat}{a:Nat→Nat→Int}{b:Nat→Int}(h:l7 p m n a b)(EQ:p.hB.length=n)(Cb:∀x∈p.hB,-100≤x∧x≤100): ∃r,tX p=some r∧(r=true↔s9 m n a b):=by
 have hm:=h.hm
 have a2:=h.a2
 obtain ⟨t,e,cE,bV⟩:=Zf h
 unfold tX
 refine ⟨_,aQ (Xu h EQ Cb) (gz rfl (aQ (Z3 h) (aQ e (bD (by simp only;unfold k7;rw [cS];omega) (aQ (x:=cN (t.dv m (gB m n) (n+m))) (by simp only;rw [Int.toNat_natCast];exact h3 (by omega)) (aQ (pO (cE.KU (JD h) (fun j _=>J2 m n j) (Nat.le_refl _))) rfl)))))),?_⟩
 rw [← bV,beq_iff_eq,re]
def bX (x:Rat):bm:=gR x.num
@[irreducible] def kr:Nat:=1000000000 ^ 40
theorem Q4:((kr:Nat):Int)+((kr:Nat):Int)<B 50:=by decide +kernel
theorem aa8 {K:Nat}{x:Rat}(h:eo K x):((x.num:Int):Rat)=x∧x.num.natAbs≤K:=by
 obtain ⟨z,rfl,cm⟩:=h
 rw [Rat.num_intCast];exact ⟨rfl,cm⟩
theorem ou (z:Int):bX (z:Rat)=gR z:=by unfold bX;rw [Rat.num_intCast]
theorem xO {x:Rat}(h:eo kr x):(L x.num.natAbs).length≤50:=by
 have:=Q4
 have h1:=(aa8 h).2
 exact (iT (by omega)).2 (by omega)
theorem xw {x y:Rat}(R:eo kr x)(a0:eo kr y):o8 (bX x) (bX y)=some (bX (x*y)):=by
 have h1:=xO R
 have h2:=xO a0
 obtain ⟨a,rfl,-⟩:=R;obtain ⟨b,rfl,-⟩:=a0
 rw [Rat.num_intCast] at h1 h2
 rw [ou,ou,← Rat.intCast_mul,ou]
 exact Y3 (by omega) (by omega)
theorem Pm {x y:Rat}(R:eo kr x)(a0:eo kr y):tU (bX x) (bX y)=some (bX (x-y)):=by
 have gU:=Q4
 obtain ⟨a,rfl,bA⟩:=R;obtain ⟨b,rfl,aP⟩:=a0
 rw [ou,ou,← Rat.intCast_sub,ou]
 exact Zb (by omega) (by omega)
theorem sW {x:Rat}(R:eo kr x):oR (bX x)=some (jD x):=by
 obtain ⟨a,rfl,bA⟩:=R
 rw [ou]
 unfold oR jD
 simp only [fL]
 have e:(((L a.natAbs).length:Nat):Int)=0↔a=0:=by rw [KQ (by omega)];omega
 show (if (((L a.natAbs).length:Int) == 0)=true then some 0 else if decide (a<0)=true then some (-1) else some 1)=_
 by_cases h0:a=0
 ·rw [if_pos (by rw [beq_iff_eq,e];exact h0),if_pos (by rw [h0];rfl)]
 ·have adu:(a:Rat)≠0:=fun c=>h0 (Rat.intCast_inj.1 (by rw [c];rfl))
  rw [if_neg (by rw [beq_iff_eq,e];exact h0),if_neg adu]
  have e2:(a:Rat)<0↔a<0:=by
   rw [show (0:Rat)=((0:Int):Rat) from rfl,Rat.intCast_lt_intCast]
  by_cases h1:a<0
  ·rw [if_pos (decide_eq_true h1),if_pos (e2.2 h1)]
  ·rw [if_neg (by simpa using h1),if_neg (fun c=>h1 (e2.1 c))]
theorem Yu {x y:Rat}(R:eo kr x)(a0:eo kr y):rC (bX x) (bX y)=some (if x<y then -1 else if y<x then 1 else 0):=by
 have h1:=xO R
 have h2:=xO a0
 obtain ⟨a,rfl,-⟩:=R;obtain ⟨b,rfl,-⟩:=a0
 rw [Rat.num_intCast] at h1 h2
 rw [ou,ou,VQ (by omega) (by omega)]
 unfold kS
 simp only [Rat.intCast_lt_intCast]
theorem NT {x:Rat}(R:eo kr x):rB (bX x)=some (bX (-x)):=by
 obtain ⟨a,rfl,-⟩:=R
 rw [ou,← Rat.intCast_neg,ou]
 unfold rB
 show (mY (!(decide (a<0))) (L a.natAbs)).bind _=_
 rw [rN (by omega),Ki];rfl
theorem rM {n:Int}(h:nx n):oe n=some (bX (n:Rat)):=by rw [ou];exact Ym h
theorem Yv {x y:Rat}(R:eo kr x)(a0:eo kr y)(Li:eo kr (x*y))(h0:y≠0):sF (bX (x*y)) (bX y)=some (bX x):=by
 have h1:=xO Li
 have h2:=xO a0
 obtain ⟨a,rfl,-⟩:=R;obtain ⟨b,rfl,-⟩:=a0
 rw [← Rat.intCast_mul] at h1 ⊢
 rw [Rat.num_intCast] at h1 h2
 have aP:b≠0:=fun c=>h0 (by rw [c];rfl)
 rw [ou,ou,ou]
 unfold sF
 show (xn (L (a*b).natAbs) (L b.natAbs)).bind _=_
 rw [aau (i9 _) (i9 _) (fun c=>by have:=s5.1 c;omega) (by omega) (by omega),ef (by omega),ef (by omega)]
 have e1:((a*b).natAbs:Int) / (b.natAbs:Int)=(a.natAbs:Int):=by
  rw [Int.natAbs_mul,Int.natCast_mul];exact Int.mul_ediv_cancel _ (by omega)
 simp only [Option.bind_some]
 rw [e1]
 show (mY (!(decide (a*b<0) == decide (b<0))) (L a.natAbs)).bind _=_
 rw [rN (by omega)]
 simp only [Option.bind_some]
 congr 2
 rcases Int.lt_or_gt_of_ne aP with c|c
 ·by_cases bA:a<0
  ·have : ¬a*b<0:=by have:=Int.mul_pos_of_neg_of_neg bA c;omega
   rw [decide_eq_false this,decide_eq_true c];simp only [ea,show (!(false == true))=true from rfl,if_true];omega
  ·by_cases cm:a=0
   ·subst cm;simp [ea]
   ·have:a*b<0:=Int.mul_neg_of_pos_of_neg (by omega) c
    rw [decide_eq_true this,decide_eq_true c];simp only [ea,BEq.rfl,Bool.not_true,Bool.false_eq_true,if_false];omega
 ·by_cases bA:a<0
  ·have:a*b<0:=Int.mul_neg_of_neg_of_pos bA c
   rw [decide_eq_true this,decide_eq_false (by omega)];simp only [ea,show (!(true == false))=true from rfl,if_true];omega
  ·have : ¬a*b<0:=by have:=Int.mul_nonneg (show 0≤a by omega) (show 0≤b by omega);omega
   rw [decide_eq_false this,decide_eq_false (by omega)];simp only [ea,BEq.rfl,Bool.not_true,Bool.false_eq_true,if_false];omega
def gM (N:Nat)(w:Rat)(t:cC)(i:Nat):List bm:=a4 (N+1) fun j=>bX (t.T i j*w)
structure qD (m N:Nat) (w:Rat) (t:cC):Prop where
 pos:0<w
 hw:eo (21*100*fD) w
 iG : ∀i,i<m→ ∀j,j≤N→eo fD (t.T i j*w)
 gU : ∀i,i<m→t.B i<N
theorem AL:21*100*fD*(21*100*fD)+21*100*fD*(21*100*fD)≤kr:=by decide +kernel
theorem ace {q i:Nat}(a8:0<q)(ao:i≤20):21*100*q*100+i*(q*100)≤21*100*q*(21*100*q):=by
 have h1:i*(q*100)≤20*(q*100):=Nat.mul_le_mul_right _ ao
 have h2:21*100*q*2100≤21*100*q*(21*100*q):=Nat.mul_le_mul_left _ (by omega)
 generalize 21*100*q*(21*100*q)=z at *
 omega
theorem acf {i:Nat}(ao:i≤20):21*100*fD*100+i*(fD*100)≤kr :=
 Nat.le_trans (ace pS ao) (Nat.le_trans (Nat.le_add_right _ _) AL)
theorem sc {K:Nat}(h:K≤21*100*fD):K≤kr:=by
 have adv:=AL
 have h1:21*100*fD*1≤21*100*fD*(21*100*fD):=Nat.mul_le_mul_left _ (by have:=pS;generalize fD=q at *;omega)
 rw [Nat.mul_one] at h1
 exact Nat.le_trans h (Nat.le_trans h1 (Nat.le_trans (Nat.le_add_right _ _) adv))
theorem PR {m N:Nat}(hm:m≤20)(fN:N<1000){w:Rat}{t:cC}(h:qD m N w t)(o:Nat→Int)(an:∀j,j<N→ -100≤o j∧o j≤100)(iM:bm)(ya:iM=bX w)(gm:Int)(free:List Bool){k:Nat}(a5:k<N):
 wV ⟨a4 m (gM N w t),iM,dp m t,gm,free⟩ (a4 N o) (k:Int)=some (jD (t.dv m (fun j=>(o j:Rat)) k)):=by
 subst ya
 have afN:=pS
 have small : ∀ {x:Rat} {K:Nat},eo K x→K≤21*100*fD→eo kr x:=fun h1 h2=>h1.mono (sc h2)
 have ak : ∀j,j<N→eo 100 ((o j:Int):Rat):=fun j aC=>⟨o j,rfl,by have:=an j aC;omega⟩
 have R2 : ∀j,j<N→nx (o j):=fun j aC=>by have:=an j aC;rw [mz];omega
 let S:Nat→Rat:=fun i=>w*(o k:Rat)-dd i (fun i=>(t.T i k*w)*(o (t.B i):Rat))
 have Sq : ∀i,i≤m→eo kr (S i):=fun i ao=>by
  have e1:eo (21*100*fD*100) (w*(o k:Rat)):=h.hw.mul (ak k a5)
  have e2:eo (i*(fD*100)) (dd i (fun i=>(t.T i k*w)*(o (t.B i):Rat))):=eo.sum fun eA kz=>(h.iG eA (by omega) k (by omega)).mul (ak _ (h.gU eA (by omega)))
  exact (e1.sub e2).mono (acf (by omega))
 unfold wV
 refine bD (by rw [cS];omega) (aQ (x:=o k) (by rw [Int.toNat_natCast];exact fZ a5) (aQ (rM (R2 k a5)) (aQ (xw (small h.hw (Nat.le_refl _)) (small (ak k a5) (by omega))) ?_)))
 obtain ⟨s,e,-⟩:=hY (f:=fun q:Int×Bool×List Int=>vR (a4 m (gM N w t)) (bX w).cJ (bX w).cw (dp m t) gm free (a4 N o) (k:Int) ((m:Nat):Int) q.1 q.2.1 q.2.2)
  (fun (i:Nat) (_:Unit)=>((i:Int),(bX (S i)).cJ,(bX (S i)).cw)) m (fun _ _=>True) (fun _=>((bX (S m)).cJ,(bX (S m)).cw))
  (fun i ao _ _=>by
    refine ⟨(),?_,trivial⟩
    have EJ:=h.gU i ao
    have LM:S (i+1)=S i-(t.T i k*w)*(o (t.B i):Rat):=by simp only [S,dd];grind
    unfold vR
    refine dx (by simp only;omega) (bD (by unfold dp;rw [cS];simp only;omega) (aQ (x:=((t.B i:Nat):Int)) (by simp only;rw [Int.toNat_natCast];exact fZ ao) (bD (by rw [cS];omega) (aQ (x:=o (t.B i)) (by rw [Int.toNat_natCast];exact fZ EJ) (oc (fun c=> ?_) (fun c=> ?_))))))
    ·refine bD (by rw [cS];simp only;omega) (aQ (x:=gM N w t i) (by simp only;rw [Int.toNat_natCast];exact fZ ao) (bD (by unfold gM;rw [cS];omega) (aQ (x:=bX (t.T i k*w)) (by rw [Int.toNat_natCast];exact fZ (by omega)) (aQ (sW (small (h.iG i ao k (by omega)) (by omega))) (oc (fun cb=> ?_) (fun cb=> ?_))))))
     ·refine aQ (rM (R2 _ EJ)) (aQ (xw (small (h.iG i ao k (by omega)) (by omega)) (small (ak _ EJ) (by omega))) (aQ (Pm (Sq i (by omega)) (by
       exact small ((h.iG i ao k (by omega)).mul (ak _ EJ)) (by omega))) ?_))
      simp only;rw [fq (by omega),LM]
     ·have cm:t.T i k*w=0:=re.1 (by simpa using cb)
      simp only;rw [fq (by omega),LM,cm,show S i-0*(o (t.B i):Rat)=S i by grind]
    ·have cm:o (t.B i)=0:=by simpa using c
     simp only;rw [fq (by omega),LM,cm,show S i-t.T i k*w*((0:Int):Rat)=S i by rw [show ((0:Int):Rat)=0 from rfl];grind])
  (fun _ _=>by unfold vR;exact dY (by simp) rfl) () trivial
 have e0:S 0=w*(o k:Rat):=by simp only [S,dd];grind
 rw [e0] at e
 refine aQ (x:=((bX (S m)).cJ,(bX (S m)).cw)) (by unfold GW;rw [fL,show (dp m t).length=m from cS ..];exact e) (aQ (x:=jD (S m)) (sW (Sq m (Nat.le_refl _))) ?_)
 congr 1
 have e2:S m=w*t.dv m (fun j=>(o j:Rat)) k:=by
  simp only [S]
  unfold cC.dv
  rw [hX (f:=fun i=>t.T i k*w*(o (t.B i):Rat)) (g:=fun i=>w*((o (t.B i):Rat)*t.T i k)) (fun i _=>by grind),lp];grind
 rw [e2]
 have aj:=h.pos
 unfold jD
 by_cases c:t.dv m (fun j=>(o j:Rat)) k=0
 ·rw [if_pos c,if_pos (by rw [c];grind)]
 ·rw [if_neg c,if_neg (by grind)]
  by_cases cb:t.dv m (fun j=>(o j:Rat)) k<0
  ·rw [if_pos cb,if_pos]
   have:=Rat.mul_pos aj (show 0 < -(t.dv m (fun j=>(o j:Rat)) k) by grind)
   grind
  ·rw [if_neg cb,if_neg]
   have:=Rat.mul_pos aj (show 0<t.dv m (fun j=>(o j:Rat)) k by grind)
   grind
theorem Pn {x y z v w:Rat}(hw:0<w)(a0:0<y)(bc:0<v):(x*w)*(v*w)<(z*w)*(y*w)↔x / y<z / v:=by
 have e1:(x*w)*(v*w)=(x / y)*((y*v)*(w*w)):=by grind
 have e2:(z*w)*(y*w)=(z / v)*((y*v)*(w*w)):=by grind
 have aj:0<(y*v)*(w*w):=Rat.mul_pos (Rat.mul_pos a0 bc) (Rat.mul_pos hw hw)
 rw [e1,e2]
 constructor
 ·intro h
  apply Classical.byContradiction
  intro c
  have:z / v≤x / y:=by grind
  have:=Rat.mul_le_mul_of_nonneg_right this (Rat.le_of_lt aj)
  grind
 ·intro h;exact Rat.mul_lt_mul_of_pos_right h aj
theorem xF {x w:Rat}(hw:0<w):jD (x*w)=jD x:=by
 unfold jD
 by_cases c:x=0
 ·rw [if_pos c,if_pos (by rw [c];grind)]
 ·rw [if_neg c,if_neg (by grind)]
  by_cases cb:x<0
  ·rw [if_pos cb,if_pos]
   have:=Rat.mul_pos (show 0 < -x by grind) hw
   grind
  ·rw [if_neg cb,if_neg]
   have:=Rat.mul_pos (show 0<x by grind) hw
   grind
theorem Yw {m N:Nat}(hm:m≤20)(fN:N<1000){w:Rat}{t:cC}(h:qD m N w t)(iM:bm)(free:List Bool){k:Nat}(a5:k≤N):
 ∃r,yY ⟨a4 m (gM N w t),iM,dp m t,(N:Int),free⟩ (k:Int)=some r∧DE m N t k r:=by
 have hw:=h.pos
 have nL : ∀i,i<m→ ∀j,j≤N→eo kr (t.T i j*w):=fun i ao j aC=>(h.iG i ao j aC).mono (sc (by have:=pS;generalize fD=q at *;omega))
 have Cc : ∀i,i<m→ ∀j,j≤N→ ∀eA,eA<m→ ∀hG,hG≤N→eo kr (t.T i j*w*(t.T eA hG*w)):=fun i ao j aC eA kz hG th=>((h.iG i ao j aC).mul (h.iG eA kz hG th)).mono (by
  refine Nat.le_trans ?_ (Nat.le_trans (Nat.le_add_right _ _) AL)
  exact Nat.mul_le_mul (by generalize fD=q;omega) (by generalize fD=q;omega))
 unfold yY
 obtain ⟨r,e,aq⟩:=ql (f:=fun q:Int×Int=>vH (a4 m (gM N w t)) iM.cJ iM.cw (dp m t) (N:Int) free (k:Int) ((m:Nat):Int) q.1 q.2)
  (fun (i:Nat) (s:Int)=>(s,(i:Int))) m
  (fun n s=>(s = -1∧ ∀i,i<n→ ¬0<t.T i k)∨ ∃b:Nat,s=b∧b<n∧0<t.T b k∧ ∀i,i<n→0<t.T i k→t.T b N / t.T b k<t.T i N / t.T i k∨(t.T b N / t.T b k=t.T i N / t.T i k∧t.B b≤t.B i))
  (fun r=>DE m N t k r)
  (fun n a2 s cE=>by
    left
    unfold vH
    have g1:0≤((n:Nat):Int)∧((n:Nat):Int)<((a4 m (gM N w t)).length:Nat):=by rw [cS];omega
    have g2:(a4 m (gM N w t))[((n:Nat):Int).toNat]? = some (gM N w t n):=by rw [Int.toNat_natCast];exact fZ a2
    have g3 : ∀b,0≤((k:Nat):Int)∧((k:Nat):Int)<((gM N w t b).length:Nat):=fun b=>by unfold gM;rw [cS];omega
    have g4 : ∀b,(gM N w t b)[((k:Nat):Int).toNat]? = some (bX (t.T b k*w)):=fun b=>by rw [Int.toNat_natCast];exact fZ (by omega)
    have g5 : ∀b,0≤((N:Nat):Int)∧((N:Nat):Int)<((gM N w t b).length:Nat):=fun b=>by unfold gM;rw [cS];omega
    have g6 : ∀b,(gM N w t b)[((N:Nat):Int).toNat]? = some (bX (t.T b N*w)):=fun b=>by rw [Int.toNat_natCast];exact fZ (by omega)
    have ke:J ((n:Int)+1)=((n+1:Nat):Int):=fq (by omega)
    have pu:oR (bX (t.T n k*w))=some (jD (t.T n k)):=by rw [sW (nL n a2 k a5),xF hw]
    by_cases aj:0<t.T n k
    ·have bV : ¬jD (t.T n k)≤0:=by have:=qo.2 aj;omega
     rcases cE with ⟨h1,h2⟩|⟨b,h1,aP,ju,ab⟩
     ·refine ⟨(n:Int),dx (by simp only;omega) (bD g1 (aQ g2 (bD (g3 n) (aQ (g4 n) (aQ pu (dY bV (dx (by simp only;omega) ?_))))))),.inr ⟨n,rfl,by omega,aj,fun i ao ia=> ?_⟩⟩
      ·simp only;rw [ke]
      ·by_cases c:i=n
       ·subst c;exact .inr ⟨rfl,Nat.le_refl _⟩
       ·exact (h2 i (by omega) ia).elim
     ·subst h1
      have EG:0≤((b:Nat):Int)∧((b:Nat):Int)<((a4 m (gM N w t)).length:Nat):=by rw [cS];omega
      have EH:(a4 m (gM N w t))[((b:Nat):Int).toNat]? = some (gM N w t b):=by rw [Int.toNat_natCast];exact fZ (by omega)
      have gc:rC (bX (t.T n N*w*(t.T b k*w))) (bX (t.T b N*w*(t.T n k*w)))=some (if t.T n N / t.T n k<t.T b N / t.T b k then -1 else if t.T b N / t.T b k<t.T n N / t.T n k then 1 else 0):=by
       rw [Yu (Cc n a2 N (by omega) b (by omega) k a5) (Cc b (by omega) N (by omega) n a2 k a5)]
       have r1:=Pn (x:=t.T n N) (y:=t.T n k) (z:=t.T b N) (v:=t.T b k) hw aj ju
       have r2:=Pn (x:=t.T b N) (y:=t.T b k) (z:=t.T n N) (v:=t.T n k) hw ju aj
       by_cases br:t.T n N / t.T n k<t.T b N / t.T b k
       ·rw [if_pos br,if_pos (r1.2 br)]
       ·rw [if_neg br,if_neg (fun c=>br (r1.1 c))]
        by_cases cb:t.T b N / t.T b k<t.T n N / t.T n k
        ·rw [if_pos cb,if_pos (r2.2 cb)]
        ·rw [if_neg cb,if_neg (fun c=>cb (r2.1 c))]
      have lead : ∀ {x r:Option ((Int×Int)⊕Int)} {f:Int→Option ((Int×Int)⊕Int)} {q:Int},rC (bX (t.T n N*w*(t.T b k*w))) (bX (t.T b N*w*(t.T n k*w)))=some q→f q=r →
       (if 0≤((N:Nat):Int)∧((N:Nat):Int)<((gM N w t n).length:Nat) then
         (gM N w t n)[((N:Nat):Int).toNat]? >>= fun qQ =>
         if 0≤((b:Nat):Int)∧((b:Nat):Int)<((a4 m (gM N w t)).length:Nat) then
         (a4 m (gM N w t))[((b:Nat):Int).toNat]? >>= fun mm =>
         if 0≤((k:Nat):Int)∧((k:Nat):Int)<(mm.length:Nat) then
         mm[((k:Nat):Int).toNat]? >>= fun qR =>
         o8 qQ qR >>= fun nG =>
         if 0≤((N:Nat):Int)∧((N:Nat):Int)<(mm.length:Nat) then
         mm[((N:Nat):Int).toNat]? >>= fun sl =>
         o8 sl (bX (t.T n k*w)) >>= fun nH =>
         rC nG nH >>= f
         else none else none else none else none)=r:=fun a8 cg =>
       bD (g5 n) (aQ (g6 n) (bD EG (aQ EH (bD (g3 b) (aQ (g4 b) (aQ (xw (nL n a2 N (by omega)) (nL b (by omega) k a5)) (bD (g5 b) (aQ (g6 b) (aQ (xw (nL b (by omega) N (by omega)) (nL n a2 k a5)) (aQ a8 cg))))))))))
      by_cases br:t.T n N / t.T n k<t.T b N / t.T b k
      ·rw [if_pos br] at gc
       refine ⟨(n:Int),dx (by simp only;omega) (bD g1 (aQ g2 (bD (g3 n) (aQ (g4 n) (aQ pu (dY bV (dY (by simp only;omega) (lead (x:=none) gc (dx (by omega) ?_))))))))),.inr ⟨n,rfl,by omega,aj,fun i ao ia=> ?_⟩⟩
       ·simp only;rw [ke]
       ·by_cases c:i=n
        ·subst c;exact .inr ⟨rfl,Nat.le_refl _⟩
        ·rcases ab i (by omega) ia with h|⟨h,-⟩
         ·left;grind
         ·left;rw [← h];exact br
      ·rw [if_neg br] at gc
       by_cases cb:t.T b N / t.T b k<t.T n N / t.T n k
       ·rw [if_pos cb] at gc
        refine ⟨(b:Int),dx (by simp only;omega) (bD g1 (aQ g2 (bD (g3 n) (aQ (g4 n) (aQ pu (dY bV (dY (by simp only;omega) (lead (x:=none) gc (dY (by omega) (jH (by decide) ?_)))))))))),.inr ⟨b,rfl,by omega,ju,fun i ao ia=> ?_⟩⟩
        ·simp only;rw [ke]
        ·by_cases c:i=n
         ·subst c;exact .inl cb
         ·exact ab i (by omega) ia
       ·rw [if_neg cb] at gc
        have LK:t.T b N / t.T b k=t.T n N / t.T n k:=by grind
        have R3:0≤((n:Nat):Int)∧((n:Nat):Int)<((dp m t).length:Nat):=by unfold dp;rw [cS];omega
        have R4:(dp m t)[((n:Nat):Int).toNat]? = some ((t.B n:Nat):Int):=by rw [Int.toNat_natCast];exact fZ a2
        have R5:0≤((b:Nat):Int)∧((b:Nat):Int)<((dp m t).length:Nat):=by unfold dp;rw [cS];omega
        have R6:(dp m t)[((b:Nat):Int).toNat]? = some ((t.B b:Nat):Int):=by rw [Int.toNat_natCast];exact fZ (by omega)
        by_cases jg:t.B n<t.B b
        ·refine ⟨(n:Int),dx (by simp only;omega) (bD g1 (aQ g2 (bD (g3 n) (aQ (g4 n) (aQ pu (dY bV (dY (by simp only;omega) (lead (x:=none) gc (dY (by omega) (gz rfl (bD R3 (aQ R4 (bD R5 (aQ R6 (dx (by omega) ?_))))))))))))))),.inr ⟨n,rfl,by omega,aj,fun i ao ia=> ?_⟩⟩
         ·simp only;rw [ke]
         ·by_cases c:i=n
          ·subst c;exact .inr ⟨rfl,Nat.le_refl _⟩
          ·rcases ab i (by omega) ia with h|⟨h,cx⟩
           ·left;grind
           ·right;exact ⟨by grind,by omega⟩
        ·refine ⟨(b:Int),dx (by simp only;omega) (bD g1 (aQ g2 (bD (g3 n) (aQ (g4 n) (aQ pu (dY bV (dY (by simp only;omega) (lead (x:=none) gc (dY (by omega) (gz rfl (bD R3 (aQ R4 (bD R5 (aQ R6 (dY (by omega) ?_))))))))))))))),.inr ⟨b,rfl,by omega,ju,fun i ao ia=> ?_⟩⟩
         ·simp only;rw [ke]
         ·by_cases c:i=n
          ·subst c;exact .inr ⟨LK,by omega⟩
          ·exact ab i (by omega) ia
    ·have bV:jD (t.T n k)≤0:=by
      have : ¬0<jD (t.T n k):=fun c=>aj (qo.1 c)
      omega
     refine ⟨s,dx (by simp only;omega) (bD g1 (aQ g2 (bD (g3 n) (aQ (g4 n) (aQ pu (dx bV ?_)))))),?_⟩
     ·simp only;rw [ke]
     ·rcases cE with ⟨h1,h2⟩|⟨b,h1,aP,ju,ab⟩
      ·exact .inl ⟨h1,fun i ao=>if c:i=n then c▸aj else h2 i (by omega)⟩
      ·exact .inr ⟨b,h1,by omega,ju,fun i ao ia=>if c:i=n then (aj (c▸ia)).elim else ab i (by omega) ia⟩)
  (fun s cE=>by
    refine ⟨s,by unfold vH;exact dY (by simp only;omega) rfl,?_⟩
    rcases cE with ⟨h1,h2⟩|⟨b,h1,aP,ju,ab⟩
    ·exact .inl ⟨h1,h2⟩
    ·refine .inr ⟨b,h1,aP,ju,fun i ao ia=> ?_,fun i ao ia he=> ?_⟩
     ·rw [← (Du ju ia).1]
      rcases ab i ao ia with h|⟨h,-⟩
      ·exact Rat.le_of_lt h
      ·rw [h];exact Rat.le_refl
     ·rw [← (Du ju ia).2] at he
      rcases ab i ao ia with h|⟨-,h⟩
      ·rw [he] at h;grind
      ·exact h) (-1:Int) (.inl ⟨rfl,fun i ao=>by omega⟩)
 refine ⟨r,aQ ?_ rfl,aq⟩
 unfold F6
 rw [fa,cS]
 exact e
def hc (m N:Nat)(h:Nat→Nat):List bt:=a4 m fun i=>some (h i,N+1)
structure mI (m N M:Nat) (h:Nat→Nat) (w:Rat) (t:cC) (e5:List (List bm)):Prop where
 len:e5.length=M
 row : ∀i,i<m→e5[h i]? = some (gM N w t i)
theorem C2 {α:Type}{l:List α}{i:Nat}{x y:α}(h:l[i]? = some x):(l.set i y)[i]? = some y:=by
 rw [List.getElem?_set,if_pos rfl,if_pos (List.getElem?_eq_some_iff.1 h).1]
theorem Jt {α:Type}{l:List α}{i k:Nat}{y:α}(h:i≠k):(l.set i y)[k]? = l[k]? := by
 rw [List.getElem?_set,if_neg h]
theorem set_set {α:Type}(l:List α)(i:Nat)(x y:α):(l.set i x).set i y=l.set i y:=by
 rw [List.set_set]
structure x7 (m N:Nat) (w:Rat) (t:cC) (r k:Nat):Prop where
 aq:r<m
 a5:k<N
 aj:t.T r k≠0
 BV : ∀i,i<m→ ∀j,j≤N→eo fD ((t.cK r k).T i j*(t.T r k*w))
theorem Z4 {m N:Nat}(fN:N<1000){h:Nat→Nat}{w:Rat}{t:cC}{r k:Nat}(f:qD m N w t)(g:x7 m N w t r k){i:Nat}(ao:i<m)(yD:i≠r)(dk:h i≠h r){e5:List (List bm)}(h1:e5[h i]? = some (gM N w t i))(h2:e5[h r]? = some (gM N w t r))
 (x1 x2:Int) (aE:Int) (q1:List bt) (q2:List Int) (bK:List Bool) (v1 v2:Int) :
 Cn v1 v2 (some (h r,N+1)) (some (h i,N+1)) x1 x2 (((N+1:Nat):Nat):Int) (bX w).cJ (bX w).cw aE q1 q2 bK (bX (t.T r k*w)).cJ (bX (t.T r k*w)).cw (bX (t.T i k*w)).cJ (bX (t.T i k*w)).cw 0 e5=some (e5.set (h i) (gM N (t.T r k*w) (t.cK r k) i)):=by
 have hw:=f.pos
 have nL : ∀i,i<m→ ∀j,j≤N→eo kr (t.T i j*w):=fun i ao j aC=>(f.iG i ao j aC).mono (sc (by have:=pS;generalize fD=q at *;omega))
 have adZ:eo kr w:=f.hw.mono (sc (Nat.le_refl _))
 have ad0 : ∀i,i<m→ ∀j,j≤N→eo kr ((t.cK r k).T i j*(t.T r k*w)):=fun i ao j aC=>(g.BV i ao j aC).mono (sc (by have:=pS;generalize fD=q at *;omega))
 have Cc : ∀i,i<m→ ∀j,j≤N→ ∀eA,eA<m→ ∀hG,hG≤N→eo kr (t.T i j*w*(t.T eA hG*w)):=fun i ao j aC eA kz hG th=>((f.iG i ao j aC).mul (f.iG eA kz hG th)).mono (by
  refine Nat.le_trans ?_ (Nat.le_trans (Nat.le_add_right _ _) AL)
  exact Nat.mul_le_mul (by generalize fD=q;omega) (by generalize fD=q;omega))
 have adw : ∀j,j≤N→eo kr ((t.cK r k).T i j*(t.T r k*w)*w):=fun j aC=>((g.BV i ao j aC).mul f.hw).mono (by
  refine Nat.le_trans ?_ (Nat.le_trans (Nat.le_add_right _ _) AL)
  exact Nat.mul_le_mul (by generalize fD=q;omega) (Nat.le_refl _))
 have aq:=g.aq
 have a5:=g.a5
 have aj:=g.aj
 have yI : ∀j,(t.cK r k).T i j=t.T i j-t.T i k*(t.T r j / t.T r k):=fun j=>by simp [cC.cK,yD]
 have KZ:w≠0:=by grind
 unfold Cn
 obtain ⟨s,e,-⟩:=hY (f:=fun q:Int×List (List bm)=>vI v1 v2 (some (h r,N+1)) (some (h i,N+1)) x1 x2 (((N+1:Nat):Nat):Int) (bX w).cJ (bX w).cw aE q1 q2 bK (bX (t.T r k*w)).cJ (bX (t.T r k*w)).cw (bX (t.T i k*w)).cJ (bX (t.T i k*w)).cw q.1 q.2)
  (fun (c:Nat) (_:Unit)=>((c:Int),e5.set (h i) (a4 (N+1) fun j=>if j<c then bX ((t.cK r k).T i j*(t.T r k*w)) else bX (t.T i j*w)))) (N+1) (fun _ _=>True)
  (fun _=>e5.set (h i) (gM N (t.T r k*w) (t.cK r k) i))
  (fun c ba _ _=>by
    refine ⟨(),?_,trivial⟩
    have fin:(some (Sum.inl (J ((c:Int)+1),(e5.set (h i) (a4 (N+1) fun j=>if j<c then bX ((t.cK r k).T i j*(t.T r k*w)) else bX (t.T i j*w))).set (h i) ((a4 (N+1) fun j=>if j<c then bX ((t.cK r k).T i j*(t.T r k*w)) else bX (t.T i j*w)).set (0+((c:Int)).toNat) (bX ((t.cK r k).T i c*(t.T r k*w)))))):Option ((Int×List (List bm))⊕List (List bm))) =
     some (Sum.inl (((c+1:Nat):Int),e5.set (h i) (a4 (N+1) fun j=>if j<c+1 then bX ((t.cK r k).T i j*(t.T r k*w)) else bX (t.T i j*w)))):=by
     rw [fq (by omega),Int.toNat_natCast,Nat.zero_add,set_set,k1]
     congr 4
     refine eX fun j _=> ?_
     by_cases br:j=c
     ·subst br;rw [if_pos rfl,if_pos (by omega)]
     ·rw [if_neg br]
      by_cases cb:j<c
      ·rw [if_pos cb,if_pos (by omega)]
      ·rw [if_neg cb,if_neg (by omega)]
    have hH:sF (bX ((t.cK r k).T i c*(t.T r k*w)*w)) (bX w)=some (bX ((t.cK r k).T i c*(t.T r k*w))):=Yv (ad0 i ao c (by omega)) adZ (adw c (by omega)) KZ
    unfold vI
    refine dx (by simp only;omega) (aQ (x:=(h i,N+1)) rfl (aQ (x:=a4 (N+1) fun j=>if j<c then bX ((t.cK r k).T i j*(t.T r k*w)) else bX (t.T i j*w)) (by simp only;exact C2 h1) (bD (by simp only;omega) (aQ (x:=bX (t.T i c*w)) (by simp only;rw [Int.toNat_natCast,h3 ba,if_neg (by omega)]) ?_))))
    refine aQ (xw (nL i ao c (by omega)) (nL r aq k (by omega))) (aQ (sW (nL i ao k (by omega))) (oc (fun d=> ?_) (fun d=> ?_)))
    ·refine aQ (x:=(h r,N+1)) rfl (aQ (x:=gM N w t r) (by simp only;rw [Jt dk];exact h2) (bD (by simp only;omega) (aQ (x:=bX (t.T r c*w)) (by simp only;rw [Int.toNat_natCast];exact h3 ba) (aQ (sW (nL r aq c (by omega))) (oc (fun d2=> ?_) (fun d2=> ?_))))))
     ·refine aQ (xw (nL i ao k (by omega)) (nL r aq c (by omega))) (aQ (Pm (Cc i ao c (by omega) r aq k (by omega)) (Cc i ao k (by omega) r aq c (by omega))) (aQ ?_ fin))
      rw [show t.T i c*w*(t.T r k*w)-t.T i k*w*(t.T r c*w)=(t.cK r k).T i c*(t.T r k*w)*w by rw [yI];grind]
      exact hH
     ·have cm:t.T r c=0:=by have:=re.1 (by simpa using d2);grind
      refine aQ ?_ fin
      rw [show t.T i c*w*(t.T r k*w)=(t.cK r k).T i c*(t.T r k*w)*w by rw [yI,cm];grind]
      exact hH
    ·have cm:t.T i k=0:=by have:=re.1 (by simpa using d);grind
     refine aQ ?_ fin
     rw [show t.T i c*w*(t.T r k*w)=(t.cK r k).T i c*(t.T r k*w)*w by rw [yI,cm];grind]
     exact hH)
  (fun _ _=>by
    unfold vI
    refine dY (by simp) ?_
    simp only
    congr 3
    exact eX fun j aC=>by rw [if_pos aC]) () trivial
 have e0:e5.set (h i) (a4 (N+1) fun j=>if j<0 then bX ((t.cK r k).T i j*(t.T r k*w)) else bX (t.T i j*w))=e5:=by
  have:(a4 (N+1) fun j=>if j<0 then bX ((t.cK r k).T i j*(t.T r k*w)) else bX (t.T i j*w))=gM N w t i:=eX fun j _=>by rw [if_neg (by omega)]
  rw [this]
  apply List.ext_getElem?
  intro c
  rw [List.getElem?_set]
  split
  ·rename_i e;subst e
   rw [if_pos (List.getElem?_eq_some_iff.1 h1).1,h1]
  ·rfl
 rw [e0] at e
 exact e
theorem Z5 {m N:Nat}(fN:N<1000){h:Nat→Nat}{w:Rat}{t:cC}(iG:∀i,i<m→ ∀j,j≤N→eo fD (t.T i j*w)){i:Nat}(ao:i<m){e5:List (List bm)}(h1:e5[h i]? = some (gM N w t i))
 (x1 x2:Int) (iX:Bool) (ko:List Int) (aE:Int) (q1:List bt) (q2:List Int) (bK:List Bool) :
 Cp (some (h i,N+1)) x1 x2 (((N+1:Nat):Nat):Int) iX ko aE q1 q2 bK 0 e5=some (e5.set (h i) (gM N (-w) t i)):=by
 have nL : ∀j,j≤N→eo kr (t.T i j*w):=fun j aC=>(iG i ao j aC).mono (sc (by have:=pS;generalize fD=q at *;omega))
 unfold Cp
 obtain ⟨s,e,-⟩:=hY (f:=fun q:Int×List (List bm)=>vK (some (h i,N+1)) x1 x2 (((N+1:Nat):Nat):Int) iX ko aE q1 q2 bK q.1 q.2)
  (fun (c:Nat) (_:Unit)=>((c:Int),e5.set (h i) (a4 (N+1) fun j=>if j<c then bX (t.T i j * -w) else bX (t.T i j*w)))) (N+1) (fun _ _=>True)
  (fun _=>e5.set (h i) (gM N (-w) t i))
  (fun c ba _ _=>by
    refine ⟨(),?_,trivial⟩
    unfold vK
    refine dx (by simp only;omega) (aQ (x:=(h i,N+1)) rfl (aQ (x:=a4 (N+1) fun j=>if j<c then bX (t.T i j * -w) else bX (t.T i j*w)) (by simp only;exact C2 h1) (bD (by simp only;omega) (aQ (x:=bX (t.T i c*w)) (by simp only;rw [Int.toNat_natCast,h3 ba,if_neg (by omega)]) (aQ (NT (nL c (by omega))) ?_)))))
    simp only
    rw [fq (by omega),Int.toNat_natCast,Nat.zero_add,set_set,k1]
    congr 4
    refine eX fun j _=> ?_
    by_cases br:j=c
    ·subst br;rw [if_pos rfl,if_pos (by omega)];congr 1;grind
    ·rw [if_neg br]
     by_cases cb:j<c
     ·rw [if_pos cb,if_pos (by omega)]
     ·rw [if_neg cb,if_neg (by omega)])
  (fun _ _=>by
    unfold vK
    refine dY (by simp) ?_
    simp only
    congr 3
    exact eX fun j aC=>by rw [if_pos aC]) () trivial
 have e0:e5.set (h i) (a4 (N+1) fun j=>if j<0 then bX (t.T i j * -w) else bX (t.T i j*w))=e5:=by
  have:(a4 (N+1) fun j=>if j<0 then bX (t.T i j * -w) else bX (t.T i j*w))=gM N w t i:=eX fun j _=>by rw [if_neg (by omega)]
  rw [this]
  apply List.ext_getElem?
  intro c
  rw [List.getElem?_set]
  split
  ·rename_i e;subst e
   rw [if_pos (List.getElem?_eq_some_iff.1 h1).1,h1]
  ·rfl
 rw [e0] at e
 exact e
def po (w:Rat)(t:cC)(r k:Nat):Rat:=if 0<t.T r k then t.T r k*w else -(t.T r k*w)
theorem PS {m N M:Nat}(hm:m≤20)(fN:N<1000){h:Nat→Nat}(inj:∀i,i<m→ ∀k,k<m→h i=h k→i=k){w:Rat}{t:cC}{r k:Nat}(f:qD m N w t)(g:x7 m N w t r k){e5:List (List bm)}(hb:mI m N M h w t e5)(gm:Int)(free:List Bool):
 ∃kR,wx r k (bX w).cJ (bX w).cw gm (hc m N h) e5 (dp m t) free=some ((bX (po w t r k)).cJ,(bX (po w t r k)).cw,kR,dp m (t.cK r k))∧mI m N M h (po w t r k) (t.cK r k) kR:=by
 have aq:=g.aq
 have a5:=g.a5
 have aj:=g.aj
 have hw:=f.pos
 have nL : ∀i,i<m→ ∀j,j≤N→eo kr (t.T i j*w):=fun i ao j aC=>(f.iG i ao j aC).mono (sc (by have:=pS;generalize fD=q at *;omega))
 have qY:gM N (t.T r k*w) (t.cK r k) r=gM N w t r:=eX fun j _=>by
  simp only [cC.cK,if_true];congr 1;grind
 have yJ:(hc m N h).length=m:=cS ..
 unfold wx
 obtain ⟨p1,e1,kD,r1⟩:=hY (f:=fun q:Int×List (List bm)=>vJ (r:Int) (k:Int) (some (h r,N+1)) ((m:Nat):Int) (bX w).cJ (bX w).cw gm (hc m N h) (dp m t) free (bX (t.T r k*w)).cJ (bX (t.T r k*w)).cw q.1 q.2)
  (fun (i:Nat) (p:List (List bm))=>((i:Int),p)) m (fun n p=>p.length=M∧ ∀i,i<m→p[h i]? = some (if i=r∨i<n then gM N (t.T r k*w) (t.cK r k) i else gM N w t i)) (fun p=>p)
  (fun n a2 p cE=>by
    obtain ⟨aV,cE⟩:=cE
    unfold vJ
    by_cases c:n=r
    ·subst c
     refine ⟨p,dx (by simp only;omega) (bD (by rw [yJ];simp only;omega) (aQ (x:=some (h n,N+1)) (by simp only;rw [Int.toNat_natCast];exact h3 a2) (gz (by simp) ?_))),aV,fun i ao=> ?_⟩
     ·simp only;rw [fq (by omega)]
     ·rw [cE i ao]
      by_cases br:i=n∨i<n
      ·rw [if_pos br,if_pos (by omega)]
      ·rw [if_neg br,if_neg (by omega)]
    ·have dk:h n≠h r:=fun e=>c (inj n a2 r aq e)
     have h1:p[h n]? = some (gM N w t n):=by rw [cE n a2,if_neg (by omega)]
     have h2:p[h r]? = some (gM N w t r):=by rw [cE r aq,if_pos (.inl rfl),qY]
     refine ⟨p.set (h n) (gM N (t.T r k*w) (t.cK r k) n),dx (by simp only;omega) (bD (by rw [yJ];simp only;omega) (aQ (x:=some (h n,N+1)) (by simp only;rw [Int.toNat_natCast];exact h3 a2) (jH (by simp;omega) (aQ (x:=(h n,N+1)) rfl (aQ h1 (bD (by simp only;omega) (aQ (x:=bX (t.T n k*w)) (by rw [Int.toNat_natCast];exact h3 (by omega)) (aQ (Z4 fN f g a2 c dk h1 h2 _ _ _ _ _ _ _ _) ?_)))))))),by rw [List.length_set];exact aV,fun i ao=> ?_⟩
     ·simp only;rw [fq (by omega)]
     ·by_cases br:i=n
      ·subst br;rw [C2 h1,if_pos (.inr (by omega))]
      ·rw [Jt (fun e=>br (inj i ao n a2 e.symm)),cE i ao]
       by_cases cb:i=r∨i<n
       ·rw [if_pos cb,if_pos (by omega)]
       ·rw [if_neg cb,if_neg (by omega)])
  (fun p _=>by unfold vJ;exact dY (by simp) rfl) e5 ⟨hb.len,fun i ao=>by
    rw [hb.row i ao]
    by_cases c:i=r
    ·rw [if_pos (.inl c),c,qY]
    ·rw [if_neg (by omega)]⟩
 have EF : ∀i,i<m→p1[h i]? = some (gM N (t.T r k*w) (t.cK r k) i):=fun i ao=>by rw [r1 i ao,if_pos (.inr ao)]
 have acg:(dp m t).set (0+((r:Int)).toNat) (k:Int)=dp m (t.cK r k):=by
  rw [Int.toNat_natCast,Nat.zero_add]
  unfold dp
  rw [k1]
  exact eX fun i _=>by
   simp only [cC.cK]
   split<;>rfl
 have lead :
  (if 0≤(r:Int)∧(r:Int)<((hc m N h).length:Nat) then
    (hc m N h)[(0+((r:Int)).toNat)]? >>= fun x2 =>
    x2 >>= fun jv =>
    e5[jv.1]? >>= fun mV =>
    if 0≤(k:Int)∧(k:Int)<(jv.2:Nat) then
    mV[(0+((k:Int)).toNat)]? >>= fun ep =>
    Co (r:Int) (k:Int) x2 (((hc m N h).length:Nat):Int) (bX w).cJ (bX w).cw gm (hc m N h) (dp m t) free ep.cJ ep.cw 0 e5 >>= fun c0 =>
    if 0≤(r:Int)∧(r:Int)<((dp m t).length:Nat) then
    if (0+((r:Int)).toNat)<(dp m t).length then
    oR ep >>= fun gu =>
    if (decide ((0:Int)<gu))=true then
     some (ep.cJ,ep.cw,c0,(dp m t).set (0+((r:Int)).toNat) (k:Int))
    else
     rB ep >>= fun e7 =>
     yS (((hc m N h).length:Nat):Int) e7.cJ e7.cw gm (hc m N h) ((dp m t).set (0+((r:Int)).toNat) (k:Int)) free 0 c0 >>= fun km =>
     some (e7.cJ,e7.cw,km,(dp m t).set (0+((r:Int)).toNat) (k:Int))
    else none else none else none else none)=(if (decide ((0:Int)<jD (t.T r k)))=true then
     some ((bX (t.T r k*w)).cJ,(bX (t.T r k*w)).cw,p1,dp m (t.cK r k))
    else
     rB (bX (t.T r k*w)) >>= fun e7 =>
     yS ((m:Nat):Int) e7.cJ e7.cw gm (hc m N h) (dp m (t.cK r k)) free 0 p1 >>= fun km =>
     some (e7.cJ,e7.cw,km,dp m (t.cK r k))):=by
  refine bD (by rw [yJ];omega) (aQ (x:=some (h r,N+1)) (by rw [Int.toNat_natCast];exact h3 aq) (aQ (x:=(h r,N+1)) rfl (aQ (hb.row r aq) (bD (by simp only;omega) (aQ (x:=bX (t.T r k*w)) (by rw [Int.toNat_natCast];exact h3 (by omega)) (aQ (x:=p1) (by unfold Co;rw [yJ];exact e1) (bD (by unfold dp;rw [cS];omega) (bD (by unfold dp;rw [cS,Int.toNat_natCast];omega) (aQ (sW (nL r aq k (by omega))) ?_)))))))))
  rw [xF hw,acg,yJ]
 by_cases jW:0<t.T r k
 ·have tD:po w t r k=t.T r k*w:=if_pos jW
  refine ⟨p1,lead.trans ?_,kD,fun i ao=>by rw [tD];exact EF i ao⟩
  rw [tD]
  exact dx (qo.2 jW) rfl
 ·have tD:po w t r k = -(t.T r k*w):=if_neg jW
  obtain ⟨p2,e2,qT,r2⟩:=hY (f:=fun q:Int×List (List bm)=>vL ((m:Nat):Int) (bX (-(t.T r k*w))).cJ (bX (-(t.T r k*w))).cw gm (hc m N h) (dp m (t.cK r k)) free q.1 q.2)
   (fun (i:Nat) (p:List (List bm))=>((i:Int),p)) m (fun n p=>p.length=M∧ ∀i,i<m→p[h i]? = some (if i<n then gM N (-(t.T r k*w)) (t.cK r k) i else gM N (t.T r k*w) (t.cK r k) i)) (fun p=>p)
   (fun n a2 p cE=>by
     obtain ⟨aV,cE⟩:=cE
     have h1:p[h n]? = some (gM N (t.T r k*w) (t.cK r k) n):=by rw [cE n a2,if_neg (by omega)]
     unfold vL
     refine ⟨p.set (h n) (gM N (-(t.T r k*w)) (t.cK r k) n),dx (by simp only;omega) (bD (by rw [yJ];simp only;omega) (aQ (x:=some (h n,N+1)) (by simp only;rw [Int.toNat_natCast];exact h3 a2) (aQ (x:=(h n,N+1)) rfl (aQ h1 (aQ (Z5 fN g.BV a2 h1 _ _ _ _ _ _ _ _) ?_))))),by rw [List.length_set];exact aV,fun i ao=> ?_⟩
     ·simp only;rw [fq (by omega)]
     ·by_cases br:i=n
      ·subst br;rw [C2 h1,if_pos (by omega)]
      ·rw [Jt (fun e=>br (inj i ao n a2 e.symm)),cE i ao]
       by_cases cb:i<n
       ·rw [if_pos cb,if_pos (by omega)]
       ·rw [if_neg cb,if_neg (by omega)])
   (fun p _=>by unfold vL;exact dY (by simp) rfl) p1 ⟨kD,fun i ao=>by rw [EF i ao,if_neg (by omega)]⟩
  refine ⟨p2,lead.trans ?_,qT,fun i ao=>by rw [tD,r2 i ao,if_pos ao]⟩
  rw [tD]
  exact dY (fun c=>jW (qo.1 c)) (aQ (NT (nL r aq k (by omega))) (aQ (x:=p2) (by unfold yS;exact e2) rfl))
theorem ND {m:Nat}(hm:m≤1000)(t:cC)(j:Nat): ∃b,rL (dp m t) (j:Int)=some b∧(b=true↔ ∃i,i<m∧t.B i=j):=by
 unfold rL Ae Dc
 obtain ⟨r,e,h⟩:=ql (f:=fun w:Int=>rF (dp m t) (j:Int) ((m:Nat):Int) w) (fun (i:Nat) (_:Unit)=>(i:Int)) m (fun i _=> ∀k,k<i→t.B k≠j)
  (fun r=>(∃i:Nat,r = .inr (i:Int)∧i<m∧t.B i=j)∨(r = .inl ()∧ ¬∃i,i<m∧t.B i=j))
  (fun i ao _ cE=>by
    unfold rF
    by_cases c:t.B i=j
    ·right
     exact ⟨_,dx (by omega) (bD (by unfold dp;rw [cS];omega) (aQ (x:=((t.B i:Nat):Int)) (by rw [Int.toNat_natCast];exact fZ ao) (gz (by simp [c]) rfl))),.inl ⟨i,rfl,ao,c⟩⟩
    ·left
     refine ⟨(),dx (by omega) (bD (by unfold dp;rw [cS];omega) (aQ (x:=((t.B i:Nat):Int)) (by rw [Int.toNat_natCast];exact fZ ao) (jH (by simp;omega) (by rw [fq (by omega)])))),fun k a5=> ?_⟩
     by_cases e:k=i
     ·rw [e];exact c
     ·exact cE k (by omega))
  (fun _ cE=>⟨_,by unfold rF;exact dY (by omega) rfl,.inr ⟨rfl,fun ⟨i,ao,e⟩=>cE i ao e⟩⟩) () (fun k a5=>by omega)
 rw [fL,show (dp m t).length=m from cS ..]
 rcases h with ⟨i,rfl,h1,h2⟩|⟨rfl,h⟩
 ·exact ⟨true,aQ (x:=(i:Int)) (aQ e rfl) (by simp),by simp only [true_iff];exact ⟨i,h1,h2⟩⟩
 ·exact ⟨false,aQ (x:=(-1:Int)) (aQ e rfl) rfl,by simp [h]⟩
theorem Ah {m N M:Nat}{h:Nat→Nat}{w:Rat}{t:cC}{e5:List (List bm)}(hb:mI m N M h w t e5):(hc m N h).all (qM e5)=true:=by
 rw [List.all_eq_true]
 intro x R
 obtain ⟨i,ao,rfl⟩:=JZ.1 R
 simp only [qM]
 have h1:=hb.row i ao
 have h2:e5.getD (h i) []=gM N w t i:=by rw [List.getD_eq_getElem?_getD,h1];rfl
 rw [h2,show (gM N w t i).length=N+1 from cS ..]
 simp [(List.getElem?_eq_some_iff.1 h1).1]
theorem uB {m N M:Nat}{h:Nat→Nat}{w:Rat}{t:cC}{e5:List (List bm)}(hb:mI m N M h w t e5):(hc m N h).map (ir e5)=a4 m (gM N w t):=by
 unfold hc
 rw [PI]
 exact eX fun i ao=>by
  have h2:e5.getD (h i) []=gM N w t i:=by rw [List.getD_eq_getElem?_getD,hb.row i ao];rfl
  simp only [ir]
  rw [h2]
  exact List.take_of_length_le (Nat.le_of_eq (cS ..))
theorem R7 {m:Nat}{o:Nat→Rat}{t:cC}{j:Nat}:t.ry m 1 (fun _=>o) j↔0<t.dv m o j:=D5 (g:=fun _=>t.dv m o j)
theorem Yx {gh m N M:Nat}{A:Nat→Nat→Rat}(hm:m≤20)(fN:N<1000){h:Nat→Nat}(inj:∀i,i<m→ ∀k,k<m→h i=h k→i=k){w:Rat}{t:cC}(ok:fY gh m N A t)(f:qD m N w t)(o:Nat→Int)(an:∀j,j<N→ -100≤o j∧o j≤100)(fc:Nat→Bool)
 (ad1 : ∀r s,o0 m N 1 (fun _ j=>(o j:Rat)) (fun j=>fc j=true) t r s→x7 m N w t r s) {e5:List (List bm)} (hb:mI m N M h w t e5) :
 ∃x,vP (N:Int) (bX w).cJ (bX w).cw (hc m N h) e5 (dp m t) (a4 N fc) (a4 N o) 0=some x ∧
  ((x = .inl (false,(bX w).cJ,(bX w).cw,e5,dp m t)∧ ∀j,j<N→fc j=true→ ¬0<t.dv m (fun j=>(o j:Rat)) j) ∨
   (∃r s kR,x = .inl (true,(bX (po w t r s)).cJ,(bX (po w t r s)).cw,kR,dp m (t.cK r s))∧o0 m N 1 (fun _ j=>(o j:Rat)) (fun j=>fc j=true) t r s∧mI m N M h (po w t r s) (t.cK r s) kR) ∨
   (x = .inr ()∧ ∃s,s<N∧0<t.dv m (fun j=>(o j:Rat)) s∧ ∀i,i<m→ ¬0<t.T i s)):=by
 unfold vP
 refine ql (f:=fun q:Int=>vE (N:Int) (bX w).cJ (bX w).cw (hc m N h) e5 (dp m t) (a4 N fc) (a4 N o) q) (fun (i:Nat) (_:Unit)=>(i:Int)) N
  (fun n _=> ∀j,j<n→fc j=true→ ¬0<t.dv m (fun j=>(o j:Rat)) j) _ (fun n a2 _ cE=> ?_) (fun _ cE=> ?_) () (fun j aC=>by omega)
 ·have next : ∀(jo:fc n=true→ ¬0<t.dv m (fun j=>(o j:Rat)) n),∀j,j<n+1→fc j=true→ ¬0<t.dv m (fun j=>(o j:Rat)) j:=fun jo j aC=>by
   by_cases c:j=n
   ·subst c;exact jo
   ·exact cE j (by omega)
  have g1:0≤((n:Nat):Int)∧((n:Nat):Int)<((a4 N fc).length:Nat):=by rw [cS];omega
  have g2:(a4 N fc)[(0+((n:Nat):Int).toNat)]? = some (fc n):=by rw [Int.toNat_natCast];exact h3 a2
  have ke:J ((n:Int)+1)=((n+1:Nat):Int):=fq (by omega)
  unfold vE
  by_cases qe:fc n=true
  ·obtain ⟨b,iX,ko⟩:=ND (m:=m) (by omega) t n
   cases b with
   | true =>
    obtain ⟨i,ao,gU⟩:=ko.1 rfl
    left
    refine ⟨(),dx (by omega) (bD g1 (aQ g2 (gz qe (aQ iX (gz rfl (by rw [ke])))))),next fun _=> ?_⟩
    rw [← gU,ok.zY _ ao];grind
   | false =>
    have dD:=PR hm fN f o an ((⟨(bX w).cJ,(bX w).cw⟩:bm)) rfl (N:Int) (a4 N fc) a2
    by_cases rA:0<t.dv m (fun j=>(o j:Rat)) n
    ·obtain ⟨q,q1,q2⟩:=Yw hm fN f ((⟨(bX w).cJ,(bX w).cw⟩:bm)) (a4 N fc) (k:=n) (by omega)
     have bV : ¬jD (t.dv m (fun j=>(o j:Rat)) n)≤0:=by have:=qo.2 rA;omega
     right
     rcases q2 with ⟨rfl,h2⟩|⟨b,rfl,aP,ju,ab,au⟩
     ·exact ⟨_,dx (by omega) (bD g1 (aQ g2 (gz qe (aQ iX (jH rfl (bD (Ah hb) (aQ (by rw [uB hb];exact dD) (dY bV (aQ (by rw [uB hb];exact q1) (dx (by decide) rfl)))))))))),.inr (.inr ⟨rfl,n,a2,rA,h2⟩)⟩
     ·have dt:o0 m N 1 (fun _ j=>(o j:Rat)) (fun j=>fc j=true) t b n:=⟨a2,qe,R7.2 rA,fun j aC cg dD=>cE j aC cg (R7.1 dD),aP,ju,ab,au⟩
      obtain ⟨kR,e1,e2⟩:=PS hm fN inj f (ad1 b n dt) hb (N:Int) (a4 N fc)
      exact ⟨_,dx (by omega) (bD g1 (aQ g2 (gz qe (aQ iX (jH rfl (bD (Ah hb) (aQ (by rw [uB hb];exact dD) (dY bV (aQ (by rw [uB hb];exact q1) (dY (by omega) (aQ e1 rfl))))))))))),.inr (.inl ⟨b,n,kR,rfl,dt,e2⟩)⟩
    ·left
     have bV:jD (t.dv m (fun j=>(o j:Rat)) n)≤0:=by
      have : ¬0<jD (t.dv m (fun j=>(o j:Rat)) n):=fun c=>rA (qo.1 c)
      omega
     exact ⟨(),dx (by omega) (bD g1 (aQ g2 (gz qe (aQ iX (jH rfl (bD (Ah hb) (aQ (by rw [uB hb];exact dD) (dx bV (by rw [ke]))))))))),next fun _=>rA⟩
  ·left
   have EK:fc n=false:=by simpa using qe
   exact ⟨(),dx (by omega) (bD g1 (aQ g2 (jH EK (by rw [ke])))),next fun c=>(qe c).elim⟩
 ·exact ⟨_,by unfold vE;exact dY (by omega) rfl,.inl ⟨rfl,cE⟩⟩
def tc (N:Int)(p3:List bt)(free:List Bool)(obj:List Int)(s:Bool×List Int×List (List bm)×List Int):Option ((Bool×List Int×List (List bm)×List Int)⊕((Bool×List Int×List (List bm)×List Int)⊕(Bool×List Int×List (List bm)×List Int))) :=
 match vP N s.1 s.2.1 p3 s.2.2.1 s.2.2.2 free obj 0 with
 | none=>none
 | some (.inl (true,bM))=>some (.inl bM)
 | some (.inl (false,bM))=>some (.inr (.inl bM))
 | some (.inr ())=>some (.inr (.inr s))
theorem Z6 {N:Int}{p3:List bt}{free:List Bool}{obj:List Int}: ∀s r,iter (tc N p3 free obj) s=some r→Ck N p3 free obj true s.1 s.2.1 s.2.2.1 s.2.2.2=some r:=by
 unfold Ck
 apply iter.partial_correctness (tc N p3 free obj) (fun s r=>iter (fun w:Bool×Bool×(List Int)×(List (List bm))×(List Int)=>tF N p3 free obj w.1 w.2.1 w.2.2.1 w.2.2.2.1 w.2.2.2.2) (true,s.1,s.2.1,s.2.2.1,s.2.2.2)=some r)
 intro it ih s r aq
 cases R:vP N s.1 s.2.1 p3 s.2.2.1 s.2.2.2 free obj 0 with
 | none=>unfold tc at aq;rw [R] at aq;simp at aq
 | some x =>
  have hm:tF N p3 free obj true s.1 s.2.1 s.2.2.1 s.2.2.2=match x with
   | .inl fK=>(some (.inl (fK.1,fK.2.1,fK.2.2.1,fK.2.2.2.1,fK.2.2.2.2)))
   | .inr fK=>(some (.inr (.inr (s.1,s.2.1,s.2.2.1,s.2.2.2)))):=by
   unfold tF
   refine gz rfl ?_
   cases x with
   | inl a=>exact aQ R rfl
   | inr a=>exact aQ R rfl
  unfold tc at aq
  rw [R] at aq
  rw [iter]
  simp only
  rw [hm]
  match x,aq with
  | .inl (true,bM),aq=>exact ih _ _ aq
  | .inl (false,bM),aq =>
   simp at aq
   subst aq
   show iter _ (false,bM.1,bM.2.1,bM.2.2.1,bM.2.2.2)=_
   rw [iter]
   simp only
   unfold tF
   rfl
  | .inr (),aq =>
   simp at aq
   subst aq
   rfl
theorem Z7 {gh m N M:Nat}{A:Nat→Nat→Rat}(hm:m≤20)(fN:N<1000){h:Nat→Nat}{w:Rat}{t:cC}(ok:fY gh m N A t)(f:qD m N w t)(o:Nat→Int)(an:∀j,j<N→ -100≤o j∧o j≤100)(fc:Nat→Bool){e5:List (List bm)}(hb:mI m N M h w t e5):
 Cl (N:Int) (bX w).cJ (bX w).cw (hc m N h) e5 (dp m t) (a4 N o) 0 (a4 N fc)=some (a4 N fun j=>fc j && !decide (t.dv m (fun j=>(o j:Rat)) j<0)):=by
 unfold Cl
 obtain ⟨s,e,-⟩:=hY (f:=fun q:Int×List Bool=>vF (N:Int) (bX w).cJ (bX w).cw (hc m N h) e5 (dp m t) (a4 N o) q.1 q.2)
  (fun (i:Nat) (_:Unit)=>((i:Int),a4 N fun j=>if j<i then fc j && !decide (t.dv m (fun j=>(o j:Rat)) j<0) else fc j)) N (fun _ _=>True) (fun _=>a4 N fun j=>fc j && !decide (t.dv m (fun j=>(o j:Rat)) j<0))
  (fun n a2 _ _=>by
    refine ⟨(),?_,trivial⟩
    have same:fc n=(fc n && !decide (t.dv m (fun j=>(o j:Rat)) n<0))→(J ((n:Int)+1),a4 N fun j=>if j<n then fc j && !decide (t.dv m (fun j=>(o j:Rat)) j<0) else fc j)=(((n+1:Nat):Int),a4 N fun j=>if j<n+1 then fc j && !decide (t.dv m (fun j=>(o j:Rat)) j<0) else fc j):=fun he=>by
     rw [fq (by omega)]
     congr 1
     refine eX fun j _=> ?_
     by_cases c:j=n
     ·subst c;rw [if_neg (by omega),if_pos (by omega)];exact he
     ·by_cases cb:j<n
      ·rw [if_pos cb,if_pos (by omega)]
      ·rw [if_neg cb,if_neg (by omega)]
    have g1 : ∀F:Nat→Bool,0≤((n:Nat):Int)∧((n:Nat):Int)<((a4 N F).length:Nat):=fun F=>by rw [cS];omega
    have g2:(a4 N fun j=>if j<n then fc j && !decide (t.dv m (fun j=>(o j:Rat)) j<0) else fc j)[(0+((n:Nat):Int).toNat)]? = some (fc n):=by rw [Int.toNat_natCast,h3 a2,if_neg (by omega)]
    unfold vF
    by_cases qe:fc n=true
    ·obtain ⟨b,iX,ko⟩:=ND (m:=m) (by omega) t n
     cases b with
     | true =>
      obtain ⟨i,ao,gU⟩:=ko.1 rfl
      refine dx (by simp only;omega) (bD (g1 _) (aQ g2 (gz qe (aQ iX (gz rfl ?_)))))
      simp only
      rw [same]
      rw [← gU,ok.zY _ ao,decide_eq_false (by grind)];simp
     | false =>
      have dD:=PR hm fN f o an ((⟨(bX w).cJ,(bX w).cw⟩:bm)) rfl (N:Int) (a4 N fun j=>if j<n then fc j && !decide (t.dv m (fun j=>(o j:Rat)) j<0) else fc j) a2
      have bV:jD (t.dv m (fun j=>(o j:Rat)) n)<0↔t.dv m (fun j=>(o j:Rat)) n<0:=by
       unfold jD
       by_cases c:t.dv m (fun j=>(o j:Rat)) n=0
       ·rw [if_pos c,c];constructor
        ·intro h;omega
        ·intro h;grind
       ·rw [if_neg c]
        by_cases cb:t.dv m (fun j=>(o j:Rat)) n<0
        ·rw [if_pos cb];simp [cb]
        ·rw [if_neg cb];constructor
         ·intro h;omega
         ·intro h;exact (cb h).elim
      by_cases rA:t.dv m (fun j=>(o j:Rat)) n<0
      ·refine dx (by simp only;omega) (bD (g1 _) (aQ g2 (gz qe (aQ iX (jH rfl (bD (Ah hb) (aQ (by rw [uB hb];exact dD) (dx (bV.2 rA) (bD (by rw [cS,Int.toNat_natCast];omega) ?_)))))))))
       simp only
       rw [fq (by omega),Int.toNat_natCast,Nat.zero_add,k1]
       congr 3
       refine eX fun j _=> ?_
       by_cases c:j=n
       ·subst c;rw [if_pos rfl,if_pos (by omega),decide_eq_true rA];simp
       ·rw [if_neg c]
        by_cases cb:j<n
        ·rw [if_pos cb,if_pos (by omega)]
        ·rw [if_neg cb,if_neg (by omega)]
      ·refine dx (by simp only;omega) (bD (g1 _) (aQ g2 (gz qe (aQ iX (jH rfl (bD (Ah hb) (aQ (by rw [uB hb];exact dD) (dY (fun c=>rA (bV.1 c)) ?_))))))))
       simp only
       rw [same]
       rw [decide_eq_false rA];simp
    ·have EK:fc n=false:=by simpa using qe
     refine dx (by simp only;omega) (bD (g1 _) (aQ g2 (jH EK ?_)))
     simp only
     rw [same]
     rw [EK];simp)
  (fun _ _=>by
    unfold vF
    refine dY (by simp) ?_
    simp only
    congr 2
    exact eX fun j aC=>by rw [if_pos aC]) () trivial
 have e0:(a4 N fun j=>if j<0 then fc j && !decide (t.dv m (fun j=>(o j:Rat)) j<0) else fc j)=a4 N fc:=eX fun j _=>by rw [if_neg (by omega)]
 rw [e0] at e
 exact e
theorem XU {gh m N M:Nat}{A:Nat→Nat→Rat}(hm:m≤20)(fN:N<1000){h:Nat→Nat}(inj:∀i,i<m→ ∀k,k<m→h i=h k→i=k)(o:Nat→Int)(an:∀j,j<N→ -100≤o j∧o j≤100)(fc:Nat→Bool)
 (Inv:Rat→cC→Prop) (inv : ∀w t,Inv w t→fY gh m N A t∧t.lK m N∧qD m N w t)
 (gL : ∀w t r s,Inv w t→o0 m N 1 (fun _ j=>(o j:Rat)) (fun j=>fc j=true) t r s→x7 m N w t r s∧Inv (po w t r s) (t.cK r s)) {w:Rat} {t:cC} (cE:Inv w t) {e5:List (List bm)} (hb:mI m N M h w t e5) :
 ∃b bJ c6 kR yE,we (bX w).cJ (bX w).cw (N:Int) (hc m N h) e5 (dp m t) (a4 N fc) (a4 N o)=some (b,(bX bJ).cJ,(bX bJ).cw,kR,dp m c6,a4 N yE)∧Inv bJ c6∧mI m N M h bJ c6 kR ∧
  ((b=true∧(∀j,j<N→fc j=true→ ¬0<c6.dv m (fun j=>(o j:Rat)) j)∧yE=fun j=>fc j && !decide (c6.dv m (fun j=>(o j:Rat)) j<0))∨(b=false∧ ∃s,s<N∧0<c6.dv m (fun j=>(o j:Rat)) s∧ ∀i,i<m→ ¬0<c6.T i s)):=by
 obtain ⟨ok,nK,BX⟩:=inv w t cE
 obtain ⟨x,dw,c6,e,-,-,-,bJ,kR,h1,h2,ab⟩:=Od (gh:=gh) (m:=m) (N:=N) (K:=1) (A:=A) (obj:=fun _ j=>(o j:Rat)) (b1:=fun j=>fc j=true)
  (f:=tc (N:Int) (hc m N h) (a4 N fc) (a4 N o))
  (fun s t=> ∃w e5,s=((bX w).cJ,(bX w).cw,e5,dp m t)∧Inv w t∧mI m N M h w t e5)
  (fun s x t=> ∃w e5,Inv w t∧mI m N M h w t e5∧((x = .inl ((bX w).cJ,(bX w).cw,e5,dp m t)∧ ∀j,j<N→fc j=true→ ¬0<t.dv m (fun j=>(o j:Rat)) j) ∨
    (x = .inr ((bX w).cJ,(bX w).cw,e5,dp m t)∧ ∃s,s<N∧0<t.dv m (fun j=>(o j:Rat)) s∧ ∀i,i<m→ ¬0<t.T i s)))
  (fun s t cQ ok _=>by
    obtain ⟨w,e5,rfl,cE,hb⟩:=cQ
    obtain ⟨x,e,R⟩:=Yx hm fN inj ok (inv w t cE).2.2 o an fc (fun r s b=>(gL w t r s cE b).1) hb
    rcases R with ⟨rfl,R⟩|⟨r,s,kR,rfl,dt,adx⟩|⟨rfl,R⟩
    ·left
     exact ⟨_,by unfold tc;simp only;rw [e],w,e5,cE,hb,.inl ⟨rfl,R⟩⟩
    ·right
     exact ⟨_,r,s,by unfold tc;simp only;rw [e],dt,po w t r s,kR,rfl,(gL w t r s cE dt).2,adx⟩
    ·left
     exact ⟨_,by unfold tc;simp only;rw [e],w,e5,cE,hb,.inr ⟨rfl,R⟩⟩)
  (a:=((bX w).cJ,(bX w).cw,e5,dp m t)) (t:=t) ⟨w,e5,rfl,cE,hb⟩ ok nK
 have e2:=Z6 _ _ e
 obtain ⟨kL,afO,ady⟩:=inv bJ c6 h1
 rcases ab with ⟨rfl,ab⟩|⟨rfl,ab⟩
 ·refine ⟨true,bJ,c6,kR,_,?_,h1,h2,.inl ⟨rfl,ab,rfl⟩⟩
  unfold we
  exact aQ e2 (aQ (Z7 hm fN kL ady o an fc h2) rfl)
 ·refine ⟨false,bJ,c6,kR,fc,?_,h1,h2,.inr ⟨rfl,ab⟩⟩
  unfold we
  exact aQ e2 rfl
def hd (m:Nat)(A:Nat→Nat→Rat)(t:cC):Rat:=if 0<t.D m A then t.D m A else -(t.D m A)
theorem aa9 {m N:Nat}{A:Nat→Nat→Rat}{t:cC}(h:t.D m A≠0):0<hd m A t:=by
 unfold hd;split<;>grind
theorem QI {m K:Nat}{A:Nat→Nat→Rat}{t:cC}{x:Rat}(h:eo K (x*t.D m A)):eo K (x*hd m A t):=by
 unfold hd;split
 ·exact h
 ·have:=h.neg
  rw [show x * -(t.D m A) = -(x*t.D m A) by grind];exact this
theorem kK.x8 {m N:Nat}{A:Nat→Nat→Rat}(s:Small m N A){t:cC}(h:kK m N A t):qD m N (hd m A t) t where
 pos:=aa9 (N:=N) h.sB
 hw:=by
  have h1:eo fD (1*t.D m A):=by rw [Rat.one_mul];exact h.BT s
  have:=QI h1
  rw [Rat.one_mul] at this
  exact this.mono (by generalize fD=q;omega)
 iG:=fun i ao j aC=>QI (h.tt s ao aC)
 gU:=h.ok.lc
theorem kK.D6 {m N:Nat}{A:Nat→Nat→Rat}(s:Small m N A){t:cC}(h:kK m N A t){r k:Nat}(aq:r<m)(a5:k<N)(aj:t.T r k≠0):x7 m N (hd m A t) t r k where
 aq:=aq
 a5:=a5
 aj:=aj
 BV:=fun i ao j aC=>by
  have kL:=h.ok.cK aq a5 aj
  have h1:eo fD ((t.cK r k).T i j*(t.cK r k).D m A):=by
   rw [← kL.vq ao aC]
   refine eo.mono (xM fun d4 oJ c ba=> ?_) (AK▸xu (by omega) s.hm)
   simp only [f6]
   split
   ·exact s.tC c ba j aC
   ·exact s.tC c ba _ (Nat.le_of_lt (kL.lc d4 oJ))
  rw [h.ok.xU aq a5] at h1
  unfold hd
  split
  ·exact h1
  ·have:=h1.neg
   rw [show (t.cK r k).T i j*(t.T r k * -(t.D m A)) = -((t.cK r k).T i j*(t.T r k*t.D m A)) by grind];exact this
theorem Qn {m N:Nat}{A:Nat→Nat→Rat}{t:cC}(h:fY m m N A t)(bC:t.D m A≠0){r k:Nat}(aq:r<m)(a5:k<N)(aj:t.T r k≠0):po (hd m A t) t r k=hd m A (t.cK r k):=by
 have e:=h.xU aq a5
 unfold po hd
 rw [e]
 by_cases br:0<t.T r k<;>by_cases cb:0<t.D m A
 ·rw [if_pos br,if_pos cb,if_pos (Rat.mul_pos br cb)]
 ·have:=Rat.mul_pos br (show 0 < -(t.D m A) by grind)
  rw [if_pos br,if_neg cb,if_neg (by grind)];grind
 ·have:=Rat.mul_pos (show 0 < -(t.T r k) by grind) cb
  rw [if_neg br,if_pos cb,if_neg (by grind)]
 ·have:=Rat.mul_pos (show 0 < -(t.T r k) by grind) (show 0 < -(t.D m A) by grind)
  rw [if_neg br,if_neg cb,if_pos (by grind)];grind
def jR (h:Nat→Nat)(t:cC):cC:=⟨fun i j=>t.T (h i) j,fun i=>t.B (h i)⟩
theorem JS {h:Nat→Nat}{t:cC}{r k i:Nat}(fI:h i=h r→i=r):(∀j,((jR h t).cK r k).T i j=(jR h (t.cK (h r) k)).T i j)∧((jR h t).cK r k).B i=(jR h (t.cK (h r) k)).B i:=by
 simp only [cC.cK,jR]
 by_cases c:i=r
 ·subst c;simp
 ·have:h i≠h r:=fun e=>c (fI e)
  simp [c,this]
theorem Ol {α:Type}{m i:Nat}(ao:i<m)(f:Nat→α):(a4 m f).take (i-0)++((a4 m f).drop (0+(i+1))).take (m-(i+1))=a4 (m-1) (skip i f):=by
 apply List.ext_getElem?
 intro j
 rw [Nat.sub_zero,Nat.zero_add]
 have aV:((a4 m f).take i).length=i:=by rw [List.length_take,cS];omega
 by_cases c:j<i
 ·rw [List.getElem?_append_left (by omega),List.getElem?_take,if_pos c,fZ (by omega),fZ (by omega)]
  simp only [skip];rw [if_pos c]
 ·rw [List.getElem?_append_right (by omega),aV,List.getElem?_take,List.getElem?_drop]
  by_cases cb:j<m-1
  ·rw [if_pos (by omega),fZ (by omega),fZ cb]
   simp only [skip];rw [if_neg c];congr 2;omega
  ·rw [if_neg (by omega)]
   symm
   rw [List.getElem?_eq_none_iff,cS];omega
theorem XV {m N M n:Nat}(fN:N<1000)(a2:n≤N){h:Nat→Nat}{w:Rat}{t:cC}(f:qD m N w t){e5:List (List bm)}(hb:mI m N M h w t e5){i:Nat}(ao:i<m)(iX:Bool)(ko:List Int)(aE:Int)(q2:List Int)(bK:List Bool):
 ∃k:Nat,Cq (n:Int) (i:Int) iX ko aE (hc m N h) e5 q2 bK 0=some (k:Int)∧k≤n∧(k<n→t.T i k≠0)∧ ∀j,j<k→t.T i j=0:=by
 unfold Cq
 obtain ⟨r,e,k,rfl,h1,h2,ab⟩:=ql (f:=fun q:Int=>vM (n:Int) (i:Int) iX ko aE (hc m N h) e5 q2 bK q) (fun (c:Nat) (_:Unit)=>(c:Int)) n (fun c _=> ∀j,j<c→t.T i j=0)
  (fun r=> ∃k:Nat,r=(k:Int)∧k≤n∧(k<n→t.T i k≠0)∧ ∀j,j<k→t.T i j=0)
  (fun c ba _ cE=>by
    have hw:=f.pos
    have bV:=sW ((f.iG i ao c (by omega)).mono (sc (by have:=pS;generalize fD=q at *;omega)))
    unfold vM
    by_cases ER:t.T i c=0
    ·left
     refine ⟨(),dx (by omega) (bD (by unfold hc;rw [cS];omega) (aQ (x:=some (h i,N+1)) (by rw [Int.toNat_natCast];exact h3 ao) (aQ (x:=(h i,N+1)) rfl (aQ (hb.row i ao) (bD (by simp only;omega) (aQ (x:=bX (t.T i c*w)) (by rw [Int.toNat_natCast];exact h3 (by omega)) (aQ bV (gz (by rw [xF hw,re.2 ER];rfl) (by rw [fq (by omega)]))))))))),fun j aC=> ?_⟩
     by_cases e:j=c
     ·rw [e];exact ER
     ·exact cE j (by omega)
    ·right
     exact ⟨_,dx (by omega) (bD (by unfold hc;rw [cS];omega) (aQ (x:=some (h i,N+1)) (by rw [Int.toNat_natCast];exact h3 ao) (aQ (x:=(h i,N+1)) rfl (aQ (hb.row i ao) (bD (by simp only;omega) (aQ (x:=bX (t.T i c*w)) (by rw [Int.toNat_natCast];exact h3 (by omega)) (aQ bV (jH (by rw [xF hw];exact u4 (fun c=>ER (re.1 c))) rfl)))))))),c,rfl,by omega,fun _=>ER,cE⟩)
  (fun _ cE=>⟨_,by unfold vM;exact dY (by omega) rfl,n,rfl,Nat.le_refl _,fun c=>by omega,cE⟩) () (fun j aC=>by omega)
 exact ⟨k,e,h1,h2,ab⟩
structure qz (m n N:Nat) (A:Nat→Nat→Rat) (t:cC) (cq:Nat) (h:Nat→Nat):Prop where
 inv:kK m N A t
 z : ∀i,i<m→n≤t.B i→t.T i N=0
 le:cq≤m
 lt : ∀i,i<cq→h i<m
 inj : ∀i,i<cq→ ∀k,k<cq→h i=h k→i=k
 dead : ∀d,d<m→(∀i,i<cq→h i≠d)→n≤t.B d∧ ∀j,j<n→t.T d j=0
theorem qz.x8 {m n N cq:Nat}{A:Nat→Nat→Rat}{t:cC}{h:Nat→Nat}(s:Small m N A)(a:qz m n N A t cq h):qD cq N (hd m A t) (jR h t) :=
 have f:=a.inv.x8 s
 ⟨f.pos,f.hw,fun i ao j aC=>f.iG (h i) (a.lt i ao) j aC,fun i ao=>f.gU (h i) (a.lt i ao)⟩
theorem qz.D6 {m n N cq:Nat}{A:Nat→Nat→Rat}{t:cC}{h:Nat→Nat}(s:Small m N A)(a:qz m n N A t cq h){r k:Nat}(aq:r<cq)(a5:k<N)(aj:t.T (h r) k≠0):x7 cq N (hd m A t) (jR h t) r k :=
 have f:=a.inv.D6 s (a.lt r aq) a5 aj
 ⟨aq,a5,aj,fun i ao j aC=>by
  rw [(JS (t:=t) (k:=k) (a.inj i ao r aq)).1 j]
  exact f.BV (h i) (a.lt i ao) j aC⟩
theorem qz.cK {m n N cq:Nat}{A:Nat→Nat→Rat}{t:cC}{h:Nat→Nat}(LN:n≤N)(a:qz m n N A t cq h){r k:Nat}(aq:r<cq)(a5:k<n)(aP:n≤t.B (h r))(aj:t.T (h r) k≠0):qz m n N A (t.cK (h r) k) cq h:=by
 have cm:=a.z (h r) (a.lt r aq) aP
 have dF : ∀i,(t.cK (h r) k).T i N=t.T i N:=fun i=>by
  simp only [cC.cK]
  split
  ·rename_i e;rw [e,cm];grind
  ·rw [cm];grind
 refine ⟨⟨a.inv.ok.cK (a.lt r aq) (by omega) aj,fun i ao=>by rw [dF];exact a.inv.nK i ao,?_⟩,fun i ao gU=> ?_,a.le,a.lt,a.inj,fun d bC jo=> ?_⟩
 ·rw [a.inv.ok.xU (a.lt r aq) (by omega)]
  have:=a.inv.sB
  grind
 ·rw [dF]
  simp only [cC.cK] at gU
  by_cases c:i=h r
  ·rw [if_pos c] at gU;omega
  ·rw [if_neg c] at gU;exact a.z i ao gU
 ·obtain ⟨h1,h2⟩:=a.dead d bC jo
  have dk:d≠h r:=fun e=>jo r aq e.symm
  simp only [cC.cK,if_neg dk]
  refine ⟨h1,fun j aC=> ?_⟩
  rw [h2 j aC,h2 k a5];grind
theorem Zg {m n N:Nat}{A:Nat→Nat→Rat}(s:Small m N A)(fN:N<1000)(LN:n≤N)(free:List Bool){t:cC}(ca:kK m N A t)(cm:∀i,i<m→n≤t.B i→t.T i N=0){e5:List (List bm)}(hb:mI m N m (fun i=>i) (hd m A t) t e5):
 ∃c6 cq h kR,yZ (n:Int) (bX (hd m A t)).cJ (bX (hd m A t)).cw (N:Int) (hc m N fun i=>i) e5 (dp m t) free=some ((bX (hd m A c6)).cJ,(bX (hd m A c6)).cw,hc cq N h,kR,dp cq (jR h c6)) ∧
  qz m n N A c6 cq h∧(∀i,i<cq→c6.B (h i)<n)∧mI cq N m h (hd m A c6) (jR h c6) kR:=by
 have hm:=s.hm
 unfold yZ F7
 obtain ⟨x,e,c6,cq,h,kR,rfl,h1,h2,ab⟩:=jw (f:=fun w:Int×Bool×(List Int)×(List bt)×(List (List bm))×(List Int)=>yN (n:Int) (N:Int) free w.1 w.2.1 w.2.2.1 w.2.2.2.1 w.2.2.2.2.1 w.2.2.2.2.2)
  (fun w=> ∃(i cq:Nat) (h:Nat→Nat) (t:cC) (p:List (List bm)),w=((i:Int),(bX (hd m A t)).cJ,(bX (hd m A t)).cw,hc cq N h,p,dp cq (jR h t))∧i≤cq∧qz m n N A t cq h∧(∀q,q<i→t.B (h q)<n)∧mI cq N m h (hd m A t) (jR h t) p)
  (fun w=>w.2.2.2.1.length-w.1.toNat)
  (fun x=> ∃c6 cq h kR,x=((bX (hd m A c6)).cJ,(bX (hd m A c6)).cw,hc cq N h,kR,dp cq (jR h c6))∧qz m n N A c6 cq h∧(∀i,i<cq→c6.B (h i)<n)∧mI cq N m h (hd m A c6) (jR h c6) kR)
  (fun w hw=>by
    obtain ⟨i,cq,h,t,p,rfl,ao,bA,a8,aj⟩:=hw
    have kT:=bA.le
    have so:(hc cq N h).length=cq:=cS ..
    have LO:(dp cq (jR h t)).length=cq:=cS ..
    simp only
    unfold yN
    by_cases c:i<cq
    ·left
     have g1:0≤(i:Int)∧(i:Int)<((dp cq (jR h t)).length:Nat):=by rw [LO];omega
     have g2:(dp cq (jR h t))[(0+((i:Int)).toNat)]? = some ((t.B (h i):Nat):Int):=by rw [Int.toNat_natCast];exact h3 c
     by_cases ES:t.B (h i)<n
     ·refine ⟨(((i+1:Nat):Int),(bX (hd m A t)).cJ,(bX (hd m A t)).cw,hc cq N h,p,dp cq (jR h t)),dx (by rw [so];omega) (bD g1 (aQ g2 (dx (by omega) (by rw [fq (by omega)])))),⟨i+1,cq,h,t,p,rfl,by omega,bA,fun q na=> ?_,aj⟩,by simp only [so];omega⟩
      by_cases e:q=i
      ·rw [e];exact ES
      ·exact a8 q (by omega)
     ·obtain ⟨k,mS,li,qd,L2⟩:=XV fN LN (bA.x8 s) aj c (bX (hd m A t)).cJ (bX (hd m A t)).cw (N:Int) (dp cq (jR h t)) free
      by_cases L3:k<n
      ·have LP:t.T (h i) k≠0:=qd L3
       obtain ⟨ka,e1,e2⟩:=PS (by omega) fN bA.inj (bA.x8 s) (bA.D6 s c (by omega) LP) aj (N:Int) free
       have tD:po (hd m A t) (jR h t) i k=hd m A (t.cK (h i) k):=Qn bA.inv.ok bA.inv.sB (bA.lt i c) (by omega) LP
       have ad2:dp cq ((jR h t).cK i k)=dp cq (jR h (t.cK (h i) k)):=eX fun q na=>by
        have:=(JS (t:=t) (k:=k) (bA.inj q na i c)).2
        rw [this]
       rw [tD,ad2] at e1
       rw [tD] at e2
       refine ⟨(((i+1:Nat):Int),(bX (hd m A (t.cK (h i) k))).cJ,(bX (hd m A (t.cK (h i) k))).cw,hc cq N h,ka,dp cq (jR h (t.cK (h i) k))),dx (by rw [so];omega) (bD g1 (aQ g2 (dY (by omega) (aQ mS (dx (by omega) (aQ e1 (by rw [fq (by omega)]))))))),⟨i+1,cq,h,t.cK (h i) k,ka,rfl,by omega,bA.cK LN c L3 (by omega) LP,fun q na=> ?_,e2.len,fun q na=> ?_⟩,by simp only [so];omega⟩
       ·simp only [cC.cK]
        split
        ·exact L3
        ·rename_i dk
         have:q≠i:=fun e=>dk (by rw [e])
         exact a8 q (by omega)
       ·rw [e2.row q na]
        congr 1
        exact eX fun j _=>by rw [(JS (t:=t) (k:=k) (bA.inj q na i c)).1 j]
      ·have LL:k=n:=by omega
       have BR:J ((i:Int)+1)=((i+1:Nat):Int):=fq (by omega)
       have ED:(((hc cq N h).drop (0+(i+1))).take (cq-(i+1))).length=cq-(i+1):=by rw [List.length_take,List.length_drop,so];omega
       have LD:(((dp cq (jR h t)).drop (0+(i+1))).take (cq-(i+1))).length=cq-(i+1):=by rw [List.length_take,List.length_drop,LO];omega
       have bj:(hc cq N h).take (i-0)++((hc cq N h).drop (0+(i+1))).take (cq-(i+1))=hc (cq-1) N (skip i h):=Ol c _
       have ed:(dp cq (jR h t)).take (i-0)++((dp cq (jR h t)).drop (0+(i+1))).take (cq-(i+1))=dp (cq-1) (jR (skip i h) t):=Ol c _
       refine ⟨((i:Int),(bX (hd m A t)).cJ,(bX (hd m A t)).cw,hc (cq-1) N (skip i h),p,dp (cq-1) (jR (skip i h) t)),dx (by rw [so];omega) (bD g1 (aQ g2 (dY (by omega) (aQ mS (dY (by omega) ?_))))),⟨i,cq-1,skip i h,t,p,rfl,by omega,⟨bA.inv,bA.z,by omega,fun q na=> ?_,fun q na q2 x9 e=> ?_,fun d bC jo=> ?_⟩,fun q na=> ?_,aj.len,fun q na=> ?_⟩,?_⟩
       ·rw [BR,Int.toNat_natCast,Int.toNat_natCast,so,LO,ED,LD,bj,ed]
        exact bD (by omega) (bD (by omega) (bD (by omega) (bD (by omega) (bD (by omega) (bD (by omega) (bD (by omega) (bD (by omega) (bD (by omega) (bD (by omega) (bD (by omega) (bD (by omega) rfl)))))))))))
       ·simp only [skip];split<;>exact bA.lt _ (by omega)
       ·simp only [skip] at e
        have:=bA.inj _ (by split<;>omega) _ (by split<;>omega) e
        split at this<;>split at this<;>omega
       ·by_cases Sr:d=h i
        ·rw [Sr]
         exact ⟨by omega,fun j aC=>L2 j (by omega)⟩
        ·refine bA.dead d bC fun q na=> ?_
         by_cases br:q<i
         ·have:=jo q (by omega);simp only [skip] at this;rw [if_pos br] at this;exact this
         ·by_cases cb:q=i
          ·rw [cb];exact fun e=>Sr e.symm
          ·have:=jo (q-1) (by omega);simp only [skip] at this;rw [if_neg (by omega),show q-1+1=q by omega] at this;exact this
       ·simp only [skip];rw [if_pos na];exact a8 q na
       ·simp only [skip]
        by_cases br:q<i
        ·rw [if_pos br,aj.row q (by omega)];congr 1
         exact eX fun j _=>by simp only [jR,skip];rw [if_pos br]
        ·rw [if_neg br,aj.row (q+1) (by omega)];congr 1
         exact eX fun j _=>by simp only [jR,skip];rw [if_neg br]
       ·simp only [so,show (hc (cq-1) N (skip i h)).length=cq-1 from cS ..];omega
    ·right
     have adz:i=cq:=by omega
     subst adz
     exact ⟨_,dY (by rw [so];omega) rfl,t,i,h,p,rfl,bA,a8,aj⟩)
  ((0:Int),(bX (hd m A t)).cJ,(bX (hd m A t)).cw,hc m N (fun i=>i),e5,dp m t)
  ⟨0,m,fun i=>i,t,e5,rfl,by omega,⟨ca,cm,Nat.le_refl _,fun i ao=>ao,fun i _ k _ e=>e,fun d bC jo=>(jo d bC rfl).elim⟩,fun q a8=>by omega,hb.len,hb.row⟩
 exact ⟨c6,cq,h,kR,aQ e rfl,h1,h2,ab⟩
theorem PT:(⟨false,([]:List Int)⟩:bm)=bX 0:=by
 show _=gR (0:Rat).num
 rw [show (0:Rat).num=0 from rfl]
 unfold gR
 rw [show L ((0:Int).natAbs:Int)=[] from s5.2 (by simp)];rfl
theorem J3 {α:Type}(l:List α)(x:α):(l++[x])[l.length]? = some x:=by simp
theorem xG {α:Type}(l:List α)(x y:α):(l++[x]).set l.length y=l++[y]:=by simp
theorem PU {p:hk}{m n:Nat}{a:Nat→Nat→Int}{b:Nat→Int}(h:l7 p m n a b){i:Nat}(ao:i<m):wX p i=some (a4 n (a i)):=by
 have:=Kk h ao
 unfold ug at this
 unfold wX
 exact this
theorem Xv {p:hk}{m n:Nat}{a:Nat→Nat→Int}{b:Nat→Int}(h:l7 p m n a b){i:Nat}(ao:i<m)(aP:b i<0)(x0:Int)(mv:Bool)(gN:List Int)(q2:List bt)(bW:List Int)(cD:List Bool)(P:List (List bm)):
 CL p.fp p.d6 p.dE p.eg p.hB x0 (i:Int) P.length (n+m+1) (a4 n (a i)) (len_ eI (a4 n (a i))) mv gN q2 bW cD 0 (P++[a4 (n+m+1) fun _=>bX 0])=some (P++[a4 (n+m+1) fun j=>if j<n then bX (dA m n a b i j) else bX 0]):=by
 have hm:=h.hm
 have a2:=h.a2
 have bV:j7 (b i) = -1:=by unfold j7;rw [if_pos aP]
 unfold CL
 rw [fL,cS]
 obtain ⟨s1,e1,-⟩:=hY (f:=fun w:Int×List (List bm)=>wy p.fp p.d6 p.dE p.eg p.hB x0 (i:Int) P.length (n+m+1) (a4 n (a i)) ((n:Nat):Int) mv gN q2 bW cD w.1 w.2)
  (fun (k:Nat) (_:Unit)=>((k:Int),P++[a4 (n+m+1) fun j=>if j<k then bX (dA m n a b i j) else bX 0])) n (fun _ _=>True) (fun _=>P++[a4 (n+m+1) fun j=>if j<n then bX (dA m n a b i j) else bX 0])
  (fun k a5 _ _=>by
    refine ⟨(),?_,trivial⟩
    have bA:=h.sA i ao k a5
    have e:J ((-1:Int)*a i k)=kd m n a b i k:=by
     rw [cr (by omega) (by omega)];unfold kd;rw [if_pos a5,bV]
    unfold wy
    refine dx (by simp only;omega) (bD (by rw [cS];simp only;omega) (aQ (x:=a i k) (by simp only;rw [Int.toNat_natCast];exact fZ a5) (aQ (x:=bX (dA m n a b i k)) (by rw [e];exact rM (by have:=r8 h ao k;rw [mz];omega)) (aQ (J3 _ _) (bD (by simp only;omega) (aQ (by simp only;rw [Int.toNat_natCast];exact h3 (by omega)) ?_))))))
    simp only
    rw [fq (by omega),Int.toNat_natCast,Nat.zero_add,k1,xG]
    congr 5
    refine eX fun j _=> ?_
    by_cases br:j=k
    ·subst br;rw [if_pos rfl,if_pos (by omega)]
    ·rw [if_neg br]
     by_cases cb:j<k
     ·rw [if_pos cb,if_pos (by omega)]
     ·rw [if_neg cb,if_neg (by omega)])
  (fun _ _=>by unfold wy;exact dY (by simp) rfl) () trivial
 have e0:(a4 (n+m+1) fun j=>if j<0 then bX (dA m n a b i j) else bX 0)=a4 (n+m+1) fun _=>bX 0:=eX fun j _=>by rw [if_neg (by omega)]
 rw [e0] at e1
 exact e1
theorem Xw {p:hk}{m n:Nat}{a:Nat→Nat→Int}{b:Nat→Int}(h:l7 p m n a b){i:Nat}(ao:i<m)(aP:¬b i<0)(x0:Int)(mv:Bool)(gN:List Int)(q2:List bt)(bW:List Int)(cD:List Bool)(P:List (List bm)):
 CM p.fp p.d6 p.dE p.eg p.hB x0 (i:Int) P.length (n+m+1) (a4 n (a i)) (len_ eI (a4 n (a i))) mv gN q2 bW cD 0 (P++[a4 (n+m+1) fun _=>bX 0])=some (P++[a4 (n+m+1) fun j=>if j<n then bX (dA m n a b i j) else bX 0]):=by
 have hm:=h.hm
 have a2:=h.a2
 have bV:j7 (b i)=1:=by unfold j7;rw [if_neg aP]
 unfold CM
 rw [fL,cS]
 obtain ⟨s1,e1,-⟩:=hY (f:=fun w:Int×List (List bm)=>wz p.fp p.d6 p.dE p.eg p.hB x0 (i:Int) P.length (n+m+1) (a4 n (a i)) ((n:Nat):Int) mv gN q2 bW cD w.1 w.2)
  (fun (k:Nat) (_:Unit)=>((k:Int),P++[a4 (n+m+1) fun j=>if j<k then bX (dA m n a b i j) else bX 0])) n (fun _ _=>True) (fun _=>P++[a4 (n+m+1) fun j=>if j<n then bX (dA m n a b i j) else bX 0])
  (fun k a5 _ _=>by
    refine ⟨(),?_,trivial⟩
    have bA:=h.sA i ao k a5
    have e:J ((1:Int)*a i k)=kd m n a b i k:=by
     rw [cr (by omega) (by omega)];unfold kd;rw [if_pos a5,bV]
    unfold wz
    refine dx (by simp only;omega) (bD (by rw [cS];simp only;omega) (aQ (x:=a i k) (by simp only;rw [Int.toNat_natCast];exact fZ a5) (aQ (x:=bX (dA m n a b i k)) (by rw [e];exact rM (by have:=r8 h ao k;rw [mz];omega)) (aQ (J3 _ _) (bD (by simp only;omega) (aQ (by simp only;rw [Int.toNat_natCast];exact h3 (by omega)) ?_))))))
    simp only
    rw [fq (by omega),Int.toNat_natCast,Nat.zero_add,k1,xG]
    congr 5
    refine eX fun j _=> ?_
    by_cases br:j=k
    ·subst br;rw [if_pos rfl,if_pos (by omega)]
    ·rw [if_neg br]
     by_cases cb:j<k
     ·rw [if_pos cb,if_pos (by omega)]
     ·rw [if_neg cb,if_neg (by omega)])
  (fun _ _=>by unfold wz;exact dY (by simp) rfl) () trivial
 have e0:(a4 (n+m+1) fun j=>if j<0 then bX (dA m n a b i j) else bX 0)=a4 (n+m+1) fun _=>bX 0:=eX fun j _=>by rw [if_neg (by omega)]
 rw [e0] at e1
 exact e1
theorem qp {α:Type}(n:Nat)(x:α):List.replicate n x=a4 n fun _=>x:=by
 apply List.ext_getElem?
 intro i
 by_cases c:i<n
 ·rw [fZ c];simp [c]
 ·rw [List.getElem?_eq_none_iff.2 (by simp;omega),List.getElem?_eq_none_iff.2 (by rw [cS];omega)]
theorem NE {p:hk}{m n:Nat}{a:Nat→Nat→Int}{b:Nat→Int}(h:l7 p m n a b)(mv:Bool)(gN:List Int)(cD:List Bool):
 CN p.fp p.d6 p.dE p.eg p.hB ((n+m:Nat):Int) mv gN cD 0 ([]:List bt) ([]:List (List bm)) ([]:List Int)=some (hc m (n+m) (fun i=>i),a4 m (fun i=>a4 (n+m+1) fun j=>bX (dA m n a b i j)),dp m (h6 m n a b)):=by
 have hm:=h.hm
 have a2:=h.a2
 unfold CN
 obtain ⟨s,e,-⟩:=hY (f:=fun w:Int×(List bt)×(List (List bm))×(List Int)=>wA p.fp p.d6 p.dE p.eg p.hB ((n+m:Nat):Int) mv gN cD w.1 w.2.1 w.2.2.1 w.2.2.2)
  (fun (i:Nat) (_:Unit)=>((i:Int),a4 i (fun k=>(some (k,n+m+1):bt)),a4 i (fun i=>a4 (n+m+1) fun j=>bX (dA m n a b i j)),a4 i (fun k=>((n+k:Nat):Int)))) m (fun _ _=>True)
  (fun _=>(hc m (n+m) (fun i=>i),a4 m (fun i=>a4 (n+m+1) fun j=>bX (dA m n a b i j)),dp m (h6 m n a b)))
  (fun i ao _ _=>by
    refine ⟨(),?_,trivial⟩
    have aP:=h.vv i ao
    have ke:J (((n+m:Nat):Int)+1)=((n+m+1:Nat):Int):=fq (by omega)
    have hw:J (p.d6+(i:Int))=((n+i:Nat):Int):=by rw [h.gm,← Int.natCast_add,cr (by omega) (by omega)]
    have R8:(a4 i (fun i=>a4 (n+m+1) fun j=>bX (dA m n a b i j))).length=i:=cS ..
    have pz:kd m n a b i (n+m)=j7 (b i)*b i:=by unfold kd;rw [if_neg (by omega),if_pos rfl]
    have dr:((a4 (n+m+1) fun j=>if j<n then bX (dA m n a b i j) else bX 0).set (n+i) (bX ((1:Int):Rat))).set (n+m) (bX (dA m n a b i (n+m)))=a4 (n+m+1) fun j=>bX (dA m n a b i j):=by
     rw [k1,k1]
     refine eX fun j aC=> ?_
     by_cases br:j=n+m
     ·rw [if_pos br,br]
     ·rw [if_neg br]
      by_cases cb:j=n+i
      ·rw [if_pos cb,cb,rT ao,if_pos rfl];rfl
      ·rw [if_neg cb]
       by_cases jg:j<n
       ·rw [if_pos jg]
       ·rw [if_neg jg]
        obtain ⟨k,rfl⟩ : ∃k,j=n+k:=⟨j-n,by omega⟩
        rw [rT (by omega),if_neg (by omega)]
    unfold wA
    rw [ke,hw,Int.toNat_natCast]
    refine dx (by simp only;rw [h.rows];omega) (bD (by omega) (bD (by simp only;rw [h.vw];omega) (aQ (x:=b i) (by first|exact h.x6 i ao|(rw [Int.toNat_natCast];exact h.x6 i ao)|(simp only;rw [Int.toNat_natCast];exact h.x6 i ao)) ?_)))
    have fin:(some (Sum.inl (J ((i:Int)+1),(a4 i (fun k=>(some (k,n+m+1):bt)))++[some (i,n+m+1)],(a4 i (fun i=>a4 (n+m+1) fun j=>bX (dA m n a b i j)))++[a4 (n+m+1) fun j=>bX (dA m n a b i j)],(a4 i fun k=>((n+k:Nat):Int))++[((n+i:Nat):Int)])):Option ((Int×(List bt)×(List (List bm))×(List Int))⊕((List bt)×(List (List bm))×(List Int)))) =
     some (Sum.inl (((i+1:Nat):Int),a4 (i+1) (fun k=>(some (k,n+m+1):bt)),a4 (i+1) (fun i=>a4 (n+m+1) fun j=>bX (dA m n a b i j)),a4 (i+1) (fun k=>((n+k:Nat):Int)))):=by
     rw [fq (by omega),k0 i (fun k=>(some (k,n+m+1):bt)),k0 i (fun i=>a4 (n+m+1) fun j=>bX (dA m n a b i j)),k0 i (fun k=>((n+k:Nat):Int))]
    have R : ∀(P:List (List bm)) (F:List bm→Option ((Int×(List bt)×(List (List bm))×(List Int))⊕((List bt)×(List (List bm))×(List Int)))) (x:List bm) r,F x=r→(P++[x])[P.length]? >>= F=r:=fun P F x r tx=>aQ (J3 P x) tx
    refine oc (fun c=> ?_) (fun c=> ?_)
    ·have m5:b i<0:=of_decide_eq_true c
     have bV:j7 (b i) = -1:=by unfold j7;rw [if_pos m5]
     refine aQ (PU h ao) (aQ (by rw [PT,qp];exact Xv h ao m5 _ _ _ _ _ _ _) (aQ (rM (n:=1) (by rw [mz];omega)) (R _ _ _ _ ?_)))
     refine bD (by omega) (aQ (x:=bX 0) (by rw [Int.toNat_natCast,h3 (by omega),if_neg (by omega)]) (aQ (x:=bX (dA m n a b i (n+m))) (by
      have e:J ((-1:Int)*b i)=kd m n a b i (n+m):=by rw [pz,bV,cr (by omega) (by omega)]
      rw [e];exact rM (by have:=r8 h ao (n+m);rw [mz];omega)) ?_))
     rw [xG,Int.toNat_natCast,Nat.zero_add,Int.toNat_natCast,Nat.zero_add]
     refine R _ _ _ _ (bD (by omega) ?_)
     obtain ⟨v,bc⟩ : ∃v,((a4 (n+m+1) fun j=>if j<n then bX (dA m n a b i j) else bX 0).set (n+i) (bX ((1:Int):Rat)))[n+m]? = some v:=by
      rw [k1,fZ (by omega)];exact ⟨_,rfl⟩
     refine aQ bc (bD (by simp only [List.length_append,cS,List.length_cons,List.length_nil];omega) (bD (by simp only [List.length_append,cS,List.length_cons,List.length_nil];omega) ?_))
     rw [xG]
     simp only [Int.toNat_natCast,Nat.zero_add]
     rw [dr,R8]
     exact fin
    ·have m5 : ¬b i<0:=of_decide_eq_false c
     have bV:j7 (b i)=1:=by unfold j7;rw [if_neg m5]
     refine aQ (PU h ao) (aQ (by rw [PT,qp];exact Xw h ao m5 _ _ _ _ _ _ _) (aQ (rM (n:=1) (by rw [mz];omega)) (R _ _ _ _ ?_)))
     refine bD (by omega) (aQ (x:=bX 0) (by rw [Int.toNat_natCast,h3 (by omega),if_neg (by omega)]) (aQ (x:=bX (dA m n a b i (n+m))) (by
      have e:J ((1:Int)*b i)=kd m n a b i (n+m):=by rw [pz,bV,cr (by omega) (by omega)]
      rw [e];exact rM (by have:=r8 h ao (n+m);rw [mz];omega)) ?_))
     rw [xG,Int.toNat_natCast,Nat.zero_add,Int.toNat_natCast,Nat.zero_add]
     refine R _ _ _ _ (bD (by omega) ?_)
     obtain ⟨v,bc⟩ : ∃v,((a4 (n+m+1) fun j=>if j<n then bX (dA m n a b i j) else bX 0).set (n+i) (bX ((1:Int):Rat)))[n+m]? = some v:=by
      rw [k1,fZ (by omega)];exact ⟨_,rfl⟩
     refine aQ bc (bD (by simp only [List.length_append,cS,List.length_cons,List.length_nil];omega) (bD (by simp only [List.length_append,cS,List.length_cons,List.length_nil];omega) ?_))
     rw [xG]
     simp only [Int.toNat_natCast,Nat.zero_add]
     rw [dr,R8]
     exact fin)
  (fun _ _=>by unfold wA;exact dY (by simp only;rw [h.rows];omega) rfl) () trivial
 exact e
def pE (n j:Nat):Int:=if n≤j then -1 else 0
theorem Qo {m n j:Nat}(aC:j<n+m):((pE n j:Int):Rat)=gB m n j:=by
 unfold pE gB
 by_cases c:n≤j
 ·rw [if_pos c,if_pos ⟨c,aC⟩];rfl
 ·rw [if_neg c,if_neg (by omega)];rfl
theorem PV {m n:Nat}{t:cC}(gU:∀i,i<m→t.B i<n+m){j:Nat}(aC:j<n+m):t.dv m (fun j=>((pE n j:Int):Rat)) j=t.dv m (gB m n) j:=by
 unfold cC.dv
 simp only
 rw [Qo aC,hX (g:=fun i=>gB m n (t.B i)*t.T i j) fun i ao=>by rw [Qo (gU i ao)]]
theorem NU {p:hk}{m n:Nat}{a:Nat→Nat→Int}{b:Nat→Int}(h:l7 p m n a b)(x0:Int)(mv:Bool)(gN:List Int)(q2:List bt)(bK:List (List bm))(bW:List Int):
 CO p.fp p.d6 p.dE p.eg p.hB x0 ((n+m:Nat):Int) mv gN q2 bK bW 0 (a4 (n+m) fun _=>(0:Int)) (a4 (n+m) fun _=>false)=some (a4 (n+m) (pE n),a4 (n+m) fun j=>decide (j<n)):=by
 have hm:=h.hm
 have a2:=h.a2
 unfold CO
 obtain ⟨s,e,-⟩:=hY (f:=fun w:Int×List Int×List Bool=>wB p.fp p.d6 p.dE p.eg p.hB x0 ((n+m:Nat):Int) mv gN q2 bK bW w.1 w.2.1 w.2.2)
  (fun (k:Nat) (_:Unit)=>((k:Int),(a4 (n+m) fun j=>if j<k then pE n j else 0),a4 (n+m) fun j=>if j<k then decide (j<n) else false)) (n+m) (fun _ _=>True) (fun _=>(a4 (n+m) (pE n),a4 (n+m) fun j=>decide (j<n)))
  (fun k a5 _ _=>by
    refine ⟨(),?_,trivial⟩
    have e2:(a4 (n+m) fun j=>if j<k then decide (j<n) else false).set (0+((k:Int)).toNat) (decide (k<n))=a4 (n+m) fun j=>if j<k+1 then decide (j<n) else false:=by
     rw [Int.toNat_natCast,Nat.zero_add,k1]
     refine eX fun j _=> ?_
     by_cases c:j=k
     ·subst c;rw [if_pos rfl,if_pos (by omega)]
     ·rw [if_neg c]
      by_cases cb:j<k
      ·rw [if_pos cb,if_pos (by omega)]
      ·rw [if_neg cb,if_neg (by omega)]
    have L4:decide ((k:Int)<p.d6)=decide (k<n):=by rw [h.gm];simp
    unfold wB
    simp only
    rw [L4,e2,fq (by omega)]
    refine dx (by omega) (bD (by rw [cS];omega) (bD (by rw [cS,Int.toNat_natCast];omega) ?_))
    by_cases c:n≤k
    ·refine dx (by rw [h.gm];omega) (bD (by rw [cS];omega) (bD (by rw [cS,Int.toNat_natCast];omega) ?_))
     rw [Int.toNat_natCast,Nat.zero_add,k1]
     congr 4
     refine eX fun j _=> ?_
     by_cases br:j=k
     ·subst br;rw [if_pos rfl,if_pos (by omega)];unfold pE;rw [if_pos c]
     ·rw [if_neg br]
      by_cases cb:j<k
      ·rw [if_pos cb,if_pos (by omega)]
      ·rw [if_neg cb,if_neg (by omega)]
    ·refine dY (by rw [h.gm];omega) ?_
     congr 4
     refine eX fun j _=> ?_
     by_cases br:j=k
     ·subst br;rw [if_neg (by omega),if_pos (by omega)];unfold pE;rw [if_neg c]
     ·by_cases cb:j<k
      ·rw [if_pos cb,if_pos (by omega)]
      ·rw [if_neg cb,if_neg (by omega)])
  (fun _ _=>by
    unfold wB
    refine dY (by simp) ?_
    simp only
    congr 3
    ·exact eX fun j aC=>by rw [if_pos aC]
    ·exact eX fun j aC=>by rw [if_pos aC]) () trivial
 have B7:(a4 (n+m) fun j=>if j<0 then pE n j else 0)=a4 (n+m) fun _=>(0:Int):=eX fun j _=>by rw [if_neg (by omega)]
 have ad3:(a4 (n+m) fun j=>if j<0 then decide (j<n) else false)=a4 (n+m) fun _=>false:=eX fun j _=>by rw [if_neg (by omega)]
 rw [B7,ad3] at e
 exact e
theorem Xx {p:hk}{m n:Nat}{a:Nat→Nat→Int}{b:Nat→Int}(h:l7 p m n a b){w:Rat}{t:cC}(f:qD m (n+m) w t){e5:List (List bm)}(hb:mI m (n+m) m (fun i=>i) w t e5)(mv:Bool)(gN:List Int)(x0:Int)(q:List Bool):
 ∃r,CP p.fp p.d6 p.dE p.eg p.hB ((n+m:Nat):Int) ((m:Nat):Int) mv gN x0 (dp m t) (hc m (n+m) fun i=>i) e5 q 0=some r∧((r = .inr ()∧ ∃i,i<m∧n≤t.B i∧0<t.T i (n+m))∨(r = .inl ()∧ ∀i,i<m→n≤t.B i→ ¬0<t.T i (n+m))):=by
 have hm:=h.hm
 have a2:=h.a2
 have hw:=f.pos
 unfold CP
 exact ql (f:=fun w:Int=>wC p.fp p.d6 p.dE p.eg p.hB ((n+m:Nat):Int) ((m:Nat):Int) mv gN x0 (dp m t) (hc m (n+m) fun i=>i) e5 q w) (fun (i:Nat) (_:Unit)=>(i:Int)) m (fun k _=> ∀i,i<k→n≤t.B i→ ¬0<t.T i (n+m)) _
  (fun i ao _ cE=>by
    have bV:=sW ((f.iG i ao (n+m) (Nat.le_refl _)).mono (sc (by have:=pS;generalize fD=q at *;omega)))
    have g1:0≤(i:Int)∧(i:Int)<((dp m t).length:Nat):=by unfold dp;rw [cS];omega
    have g2:(dp m t)[(0+((i:Int)).toNat)]? = some ((t.B i:Nat):Int):=by rw [Int.toNat_natCast];exact h3 ao
    have g3:0≤(i:Int)∧(i:Int)<((hc m (n+m) fun i=>i).length:Nat):=by unfold hc;rw [cS];omega
    have g4:(hc m (n+m) fun i=>i)[(0+((i:Int)).toNat)]? = some (some (i,n+m+1)):=by rw [Int.toNat_natCast];exact h3 ao
    unfold wC
    by_cases ES:n≤t.B i
    ·by_cases kp:0<t.T i (n+m)
     ·right
      exact ⟨_,dx (by omega) (bD g1 (aQ g2 (dx (by rw [h.gm];omega) (bD g3 (aQ g4 (aQ (x:=(i,n+m+1)) rfl (aQ (hb.row i ao) (bD (by simp only;omega) (aQ (x:=bX (t.T i (n+m)*w)) (by rw [Int.toNat_natCast];exact h3 (by omega)) (aQ bV (dx (by rw [xF hw];exact qo.2 kp) rfl))))))))))),.inl ⟨rfl,i,ao,ES,kp⟩⟩
     ·left
      refine ⟨(),dx (by omega) (bD g1 (aQ g2 (dx (by rw [h.gm];omega) (bD g3 (aQ g4 (aQ (x:=(i,n+m+1)) rfl (aQ (hb.row i ao) (bD (by simp only;omega) (aQ (x:=bX (t.T i (n+m)*w)) (by rw [Int.toNat_natCast];exact h3 (by omega)) (aQ bV (dY (by rw [xF hw];exact fun c=>kp (qo.1 c)) (by rw [fq (by omega)])))))))))))),fun k a5=> ?_⟩
      by_cases e:k=i
      ·rw [e];exact fun _=>kp
      ·exact cE k (by omega)
    ·left
     refine ⟨(),dx (by omega) (bD g1 (aQ g2 (dY (by rw [h.gm];omega) (by rw [fq (by omega)])))),fun k a5=> ?_⟩
     by_cases e:k=i
     ·rw [e];exact fun c=>(ES c).elim
     ·exact cE k (by omega))
  (fun _ cE=>⟨_,by unfold wC;exact dY (by omega) rfl,.inr ⟨rfl,cE⟩⟩) () (fun k a5=>by omega)
theorem Xy {p:hk}{m n:Nat}{a:Nat→Nat→Int}{b:Nat→Int}(h:l7 p m n a b)(F:Nat→Bool)(mv:Bool)(gN:List Int)(x0:Int)(q2:List bt)(bK:List (List bm))(bW:List Int):
 CQ p.fp p.d6 p.dE p.eg p.hB ((n+m:Nat):Int) mv gN x0 q2 bK bW 0 (a4 (n+m) F)=some (a4 (n+m) fun j=>decide (j<n)):=by
 have hm:=h.hm
 have a2:=h.a2
 unfold CQ
 obtain ⟨s,e,-⟩:=hY (f:=fun w:Int×List Bool=>wD p.fp p.d6 p.dE p.eg p.hB ((n+m:Nat):Int) mv gN x0 q2 bK bW w.1 w.2)
  (fun (k:Nat) (_:Unit)=>((k:Int),a4 (n+m) fun j=>if j<k then decide (j<n) else F j)) (n+m) (fun _ _=>True) (fun _=>a4 (n+m) fun j=>decide (j<n))
  (fun k a5 _ _=>by
    refine ⟨(),?_,trivial⟩
    have L4:decide ((k:Int)<p.d6)=decide (k<n):=by rw [h.gm];simp
    unfold wD
    simp only
    rw [L4,fq (by omega)]
    refine dx (by omega) (bD (by rw [cS];omega) (bD (by rw [cS,Int.toNat_natCast];omega) ?_))
    rw [Int.toNat_natCast,Nat.zero_add,k1]
    congr 3
    refine eX fun j _=> ?_
    by_cases c:j=k
    ·subst c;rw [if_pos rfl,if_pos (by omega)]
    ·rw [if_neg c]
     by_cases cb:j<k
     ·rw [if_pos cb,if_pos (by omega)]
     ·rw [if_neg cb,if_neg (by omega)])
  (fun _ _=>by
    unfold wD
    refine dY (by simp) ?_
    simp only
    congr 2
    exact eX fun j aC=>by rw [if_pos aC]) () trivial
 have B7:(a4 (n+m) fun j=>if j<0 then decide (j<n) else F j)=a4 (n+m) F:=eX fun j _=>by rw [if_neg (by omega)]
 rw [B7] at e
 exact e
theorem R9 {m n:Nat}{a:Nat→Nat→Int}{b:Nat→Int}:hd m (dA m n a b) (h6 m n a b)=1:=by
 unfold hd;rw [Qf,if_pos (by grind)]
theorem Z8 {p:hk}{m n:Nat}{a:Nat→Nat→Int}{b:Nat→Int}(h:l7 p m n a b):
 ∃r,zH p=some r∧((s9 m n a b∧ ∃t cq g e5,r = .inl ((bX (hd m (dA m n a b) t)).cJ,(bX (hd m (dA m n a b) t)).cw,((n+m:Nat):Int),hc cq (n+m) g,dp cq (jR g t),a4 (n+m) (fun j=>decide (j<n)),e5) ∧
  qz m n (n+m) (dA m n a b) t cq g∧(∀i,i<cq→t.B (g i)<n)∧mI cq (n+m) m g (hd m (dA m n a b) t) (jR g t) e5)∨(¬s9 m n a b∧r = .inr ())):=by
 have hm:=h.hm
 have a2:=h.a2
 have sC:=JD h
 have fN:J (p.d6+p.fp)=((n+m:Nat):Int):=by rw [h.gm,h.rows,← Int.natCast_add,cr (by omega) (by omega)]
 have adA:mI m (n+m) m (fun i=>i) (hd m (dA m n a b) (h6 m n a b)) (h6 m n a b) (a4 m (fun i=>a4 (n+m+1) fun j=>bX (dA m n a b i j))):=⟨cS ..,fun i ao=>by
  rw [fZ ao,R9]
  congr 1
  exact eX fun j _=>by
   show bX (dA m n a b i j)=bX (dA m n a b i j*1)
   congr 1;grind⟩
 obtain ⟨q,bJ,t,e5,yE,e,⟨cE,rfl⟩,hb,eh⟩:=XU (gh:=m) (m:=m) (N:=n+m) (M:=m) (A:=dA m n a b) hm (by omega) (h:=fun i=>i) (fun i _ k _ e=>e) (pE n) (fun j _=>by unfold pE;split<;>omega) (fun j=>decide (j<n))
  (fun w t=>kK m (n+m) (dA m n a b) t∧w=hd m (dA m n a b) t) (fun w t cE=>⟨cE.1.ok,cE.1.nK,cE.2▸cE.1.x8 sC⟩)
  (fun w t r s cE b=>by
    obtain ⟨h1,rfl⟩:=cE
    have aj:t.T r s≠0:=by have:=b.pos;grind
    exact ⟨h1.D6 sC b.aq b.bV aj,h1.gL b,Qn h1.ok h1.sB b.aq b.bV aj⟩)
  (w:=hd m (dA m n a b) (h6 m n a b)) (t:=h6 m n a b) ⟨⟨PJ,OH,O9⟩,rfl⟩ adA
 rw [R9] at e
 have ach : ∀j,j<n→t.dv m (gB m n) j≤0:=by
  rcases eh with ⟨-,eh,-⟩|⟨-,s,bV,dD,jo⟩
  ·intro j aC
   have:=eh j (by omega) (by simpa using aC)
   rw [PV cE.ok.lc (by omega)] at this
   grind
  ·rw [PV cE.ok.lc bV] at dD
   obtain ⟨i,ao,aj⟩:=Nz cE.ok bV dD
   exact (jo i ao aj).elim
 have e1:oe 1=some (bX 1):=by
  have:=rM (n:=1) (by rw [mz];omega)
  rw [show ((1:Int):Rat)=1 from rfl] at this
  exact this
 obtain ⟨r,r1,r2⟩:=Xx h (cE.x8 sC) hb (bX (hd m (dA m n a b) t)).cJ (bX (hd m (dA m n a b) t)).cw ((n+m:Nat):Int) (a4 (n+m) yE)
 unfold zH
 rw [fN]
 rcases r2 with ⟨rfl,i,ao,gU,iG⟩|⟨rfl,jo⟩
 ·have Be : ¬s9 m n a b:=fun bV=>by
   have:=NR cE.nK (Oe cE.ok cE.nK ach bV) cE.ok.lc i ao gU
   grind
  refine ⟨_,aQ e1 (bD (by omega) (aQ (NE h _ _ _) (bD (by omega) (aQ (x:=(a4 (n+m) (pE n),a4 (n+m) fun j=>decide (j<n))) (by rw [Int.toNat_natCast,qp,qp];exact NU h _ _ _ _ _ _) (aQ e ?_))))),.inr ⟨Be,rfl⟩⟩
  refine aQ (x:= .inr ()) ?_ rfl
  simp only
  rw [show ((dp m t).length:Nat)=m from cS ..]
  exact r1
 ·have cm : ∀i,i<m→n≤t.B i→t.T i (n+m)=0:=fun i ao gU=>by
   have h1:=jo i ao gU
   have h2:=cE.nK i ao
   grind
  have bV:s9 m n a b:=NQ cE.ok cE.nK cm
  obtain ⟨c6,cq,g,kR,kD,qT,ad4,jS⟩:=Zg (n:=n) sC (by omega) (by omega) (a4 (n+m) fun j=>decide (j<n)) cE cm hb
  refine ⟨_,aQ e1 (bD (by omega) (aQ (NE h _ _ _) (bD (by omega) (aQ (x:=(a4 (n+m) (pE n),a4 (n+m) fun j=>decide (j<n))) (by rw [Int.toNat_natCast,qp,qp];exact NU h _ _ _ _ _ _) (aQ e ?_))))),.inl ⟨bV,c6,cq,g,kR,rfl,qT,ad4,jS⟩⟩
  refine aQ (x:= .inl ()) ?_ ?_
  ·simp only
   rw [show ((dp m t).length:Nat)=m from cS ..]
   exact r1
  ·simp only
   rw [show ((a4 (n+m) yE).length:Nat)=n+m from cS ..]
   refine aQ (Xy h yE _ _ _ _ _ _) ?_
   rw [h.gm]
   exact aQ kD rfl
def td (k:Nat)(x:bP):List ev:=(if x.iU=2 then [] else [⟨(k:Int),1⟩])++(if x.iU=1 then [] else [⟨(k:Int),-1⟩])
def ls (dX:List bP):Nat→List ev
 | 0=>[]
 | n+1=>ls dX n++(match dX[n]? with
  | some x=>td n x
  | none=>[])
theorem Dv (dX:List bP): ∀n,(ls dX n).length≤2*n
 | 0=>by simp [ls]
 | n+1=>by
  have:=Dv dX n
  rw [ls,List.length_append]
  have h2:(match dX[n]? with
   | some x=>td n x
   | none=>[]).length≤2:=by
   split
   ·rename_i x _;unfold td;rw [List.length_append];split<;>split<;>simp
   ·simp
  omega
theorem Po {dX:List bP}: ∀ {n:Nat} {c:ev},n≤dX.length→c∈ls dX n→ ∃k:Nat,c.mB=k∧k<n∧(c.pW=1∨c.pW = -1)
 | 0,c,_,h=>by simp [ls] at h
 | n+1,c,a2,h=>by
  rw [ls,List.mem_append] at h
  rcases h with h|h
  ·obtain ⟨k,h1,h2,ab⟩:=Po (by omega) h
   exact ⟨k,h1,by omega,ab⟩
  ·rw [List.getElem?_eq_getElem (by omega)] at h
   simp only [td,List.mem_append] at h
   rcases h with h|h
   ·split at h
    ·simp at h
    ·simp at h;subst h;exact ⟨n,rfl,by omega,.inl rfl⟩
   ·split at h
    ·simp at h
    ·simp at h;subst h;exact ⟨n,rfl,by omega,.inr rfl⟩
theorem Yy (s:cI)(d9:s.bG.length≤1000):yT s=some (ls s.bG s.bG.length):=by
 unfold yT FC
 rw [fa]
 obtain ⟨x,e,-⟩:=hY (f:=fun w:Int×List ev=>vG s.bG (s.bG.length:Nat) w.1 w.2) (fun (n:Nat) (_:Unit)=>((n:Int),ls s.bG n)) s.bG.length (fun _ _=>True) (fun _=>ls s.bG s.bG.length)
  (fun n a2 _ _=>by
    refine ⟨(),?_,trivial⟩
    have R:=List.getElem?_eq_getElem a2
    have aV:=Dv s.bG n
    have e1:ls s.bG (n+1)=ls s.bG n++td n s.bG[n]:=by rw [ls,R]
    unfold vG
    refine dx (by simp only;omega) (bD (by simp only;omega) (aQ (x:=s.bG[n]) (by simp only;rw [Int.toNat_natCast];exact R) ?_))
    simp only
    rw [fq (by omega),e1]
    unfold td
    by_cases br:s.bG[n].iU=2
    ·rw [if_pos br]
     refine jH (Er br) (gz (yr (by omega)) (bD (by simp only [List.length_append,List.length_cons,List.length_nil];omega) ?_))
     rw [if_neg (by omega)];simp
    ·rw [if_neg br]
     refine gz (yr br) (bD (by simp only [List.length_append,List.length_cons,List.length_nil];omega) ?_)
     by_cases cb:s.bG[n].iU=1
     ·refine jH (Er cb) ?_
      rw [if_pos cb];simp
     ·refine gz (yr cb) (bD (by simp only [List.length_append,List.length_cons,List.length_nil];omega) ?_)
      rw [if_neg cb];simp)
  (fun _ _=>by unfold vG;exact dY (by simp) rfl) () trivial
 exact aQ e rfl
theorem Xe (s:cI)(d9:s.bG.length≤1000):y9 s=some ((ls s.bG s.bG.length).map ev.mB,(ls s.bG s.bG.length).map ev.pW):=by
 unfold y9 HE
 rw [fa]
 obtain ⟨x,e,-⟩:=hY (f:=fun w:Int×List Int×List Int=>vX s.bG (s.bG.length:Nat) w.1 w.2.1 w.2.2) (fun (n:Nat) (_:Unit)=>((n:Int),(ls s.bG n).map ev.mB,(ls s.bG n).map ev.pW)) s.bG.length (fun _ _=>True) (fun _=>((ls s.bG s.bG.length).map ev.mB,(ls s.bG s.bG.length).map ev.pW))
  (fun n a2 _ _=>by
    refine ⟨(),?_,trivial⟩
    have R:=List.getElem?_eq_getElem a2
    have aV:=Dv s.bG n
    have e1:ls s.bG (n+1)=ls s.bG n++td n s.bG[n]:=by rw [ls,R]
    unfold vX
    refine dx (by simp only;omega) (bD (by simp only;omega) (aQ (x:=s.bG[n]) (by simp only;rw [Int.toNat_natCast];exact R) ?_))
    simp only
    rw [fq (by omega),e1]
    unfold td
    by_cases br:s.bG[n].iU=2
    ·rw [if_pos br]
     refine jH (Er br) (gz (yr (by omega)) (bD (by simp only [List.length_append,List.length_map,List.length_cons,List.length_nil];omega) (bD (by simp only [List.length_append,List.length_map,List.length_cons,List.length_nil];omega) ?_)))
     rw [if_neg (by omega)];simp
    ·rw [if_neg br]
     refine gz (yr br) (bD (by simp only [List.length_append,List.length_map,List.length_cons,List.length_nil];omega) (bD (by simp only [List.length_append,List.length_map,List.length_cons,List.length_nil];omega) ?_))
     by_cases cb:s.bG[n].iU=1
     ·refine jH (Er cb) ?_
      rw [if_pos cb];simp
     ·refine gz (yr cb) (bD (by simp only [List.length_append,List.length_map,List.length_cons,List.length_nil];omega) (bD (by simp only [List.length_append,List.length_map,List.length_cons,List.length_nil];omega) ?_))
      rw [if_neg cb];simp)
  (fun _ _=>by unfold vX;exact dY (by simp) rfl) () trivial
 exact aQ e rfl
theorem aaC {α:Type}(a b:Nat)(f:Nat→α):a4 (a+b) f=a4 a f++a4 b (fun j=>f (a+j)):=by
 induction b with
 | zero=>simp [a4]
 | succ b ih=>rw [← Nat.add_assoc,k0,ih,k0,List.append_assoc]
def lH (s:cI)(k:Nat):Int×Int:=(tN s k).getD (0,0)
theorem JT (s:cI)(i0:ks s)(h:j2 s=some true)(k:Nat)(a5:k<s.bG.length):tN s k=some (lH s k)∧w0 s k=some (lH s k)∧(-100≤(lH s k).1∧(lH s k).1≤100)∧(-100≤(lH s k).2∧(lH s k).2≤100):=by
 obtain ⟨x,y,h1,h2,ab,au⟩:=Y7 s i0 h k (by omega) (by omega)
 have e:lH s k=(x,y):=by unfold lH;rw [h1];rfl
 rw [e];exact ⟨h1,h2,ab,au⟩
def iu (s:cI)(j:Int)(i3 k:Nat):Int :=
 match s.bG[k]? with
 | none=>0
 | some x=>if j=x.dE then (if i3=0 then (lH s k).1 else (lH s k).2) else if j=x.eg then -(if i3=0 then (lH s k).1 else (lH s k).2) else 0
theorem aba (s:cI)(i0:ks s)(h:j2 s=some true)(j:Int)(i3 k:Nat): -100≤iu s j i3 k∧iu s j i3 k≤100:=by
 unfold iu
 split
 ·omega
 ·rename_i x R
  obtain ⟨-,-,ab,au⟩:=JT s i0 h k (fQ R)
  split
  ·split<;>omega
  ·split
   ·split<;>omega
   ·omega
theorem aaD (s:cI)(i0:ks s)(h:j2 s=some true)(j:Int)(q1:List Int)(q2 bK:Int)(bW:List Int):
 CI j q1 q2 bK s.bG (len_ bS s.bG) s.bZ bW 0 ([]:List Int) ([]:List Int)=some (a4 s.bG.length (iu s j 0),a4 s.bG.length (iu s j 1)):=by
 obtain ⟨-,-,f3,f4⟩:=od s i0 h
 unfold CI
 rw [fa]
 obtain ⟨x,e,-⟩:=hY (f:=fun w:Int×List Int×List Int=>wq j q1 q2 bK s.bG (s.bG.length:Nat) s.bZ bW w.1 w.2.1 w.2.2) (fun (n:Nat) (_:Unit)=>((n:Int),a4 n (iu s j 0),a4 n (iu s j 1))) s.bG.length (fun _ _=>True) (fun _=>(a4 s.bG.length (iu s j 0),a4 s.bG.length (iu s j 1)))
  (fun n a2 _ _=>by
    refine ⟨(),?_,trivial⟩
    have R:=List.getElem?_eq_getElem a2
    obtain ⟨-,v2,v3,v4⟩:=JT s i0 h n a2
    unfold wq
    refine dx (by simp only;omega) (bD (by simp only;omega) (aQ (x:=s.bG[n]) (by simp only;rw [Int.toNat_natCast];exact R) (aQ (x:=lH s n) v2 ?_)))
    simp only
    rw [fq (by omega),k0,k0]
    have g : ∀(F:Nat→Int) (v:Int),(a4 n F++[v]).length*8≤140737488355328:=fun F v=>by simp only [List.length_append,cS,List.length_cons,List.length_nil];omega
    by_cases br:j=s.bG[n].dE
    ·have e0 : ∀i3,iu s j i3 n=if i3=0 then (lH s n).1 else (lH s n).2:=fun i3=>by unfold iu;rw [R];simp only [if_pos br]
     refine gz (sj br) (bD (g _ _) (bD (g _ _) ?_))
     rw [e0,e0];rfl
    ·refine jH (u4 br) ?_
     by_cases cb:j=s.bG[n].eg
     ·have e0 : ∀i3,iu s j i3 n = -(if i3=0 then (lH s n).1 else (lH s n).2):=fun i3=>by unfold iu;rw [R];simp only [if_neg br,if_pos cb]
      refine gz (sj cb) (bD (g _ _) (bD (g _ _) ?_))
      rw [e0,e0,cr (by omega) (by omega),cr (by omega) (by omega)]
      simp
     ·have e0 : ∀i3,iu s j i3 n=0:=fun i3=>by unfold iu;rw [R];simp only [if_neg br,if_neg cb]
      refine jH (u4 cb) (bD (g _ _) (bD (g _ _) ?_))
      rw [e0,e0])
  (fun _ _=>by unfold wq;exact dY (by simp) rfl) () trivial
 exact e
end Go.Proofs.YtdkjpcaalflfhaaGreat
