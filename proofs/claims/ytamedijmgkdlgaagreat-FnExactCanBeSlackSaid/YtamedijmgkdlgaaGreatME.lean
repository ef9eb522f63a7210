/- Lemmas, plain functions of the program, and what they answer. No condition. -/
import Derived.Test.YtamedijmgkdlgaaGreatMD
namespace Go.Proofs.YtamedijmgkdlgaaGreat
set_option linter.unusedVariables false
set_option linter.unusedSimpArgs false
open Go Go.VL
theorem nx {n:Nat}(h:n≤10000000):R ((n:Int)+1)=((n+1:Nat):Int):=by rw [cu (by omega) (by omega)];rfl
theorem p6 {n:Nat}(h:n≤10000000):R ((n:Int)-1)=(n:Int)-1:=cu (by omega) (by omega)
theorem KI {n:Nat}(h:n≤10000000):R (((n+1:Nat):Int)-1)=n:=by rw [cu (by omega) (by omega)];omega
theorem fC (l:List Int):len_ eI l=l.length:=fa _ l
theorem Zk {l:List Int}{k:Nat}{x:Int}(J:l[k]? = some x)(a2:l.length≤5000000):tT l ((k+1:Nat):Int)=some (if x=0 then .inl (k:Int) else .inr ((k+1:Nat):Int)):=by
 have a5:=fO J
 unfold tT
 rw [KI (by omega),if_pos (by simp),if_pos (by omega),Int.toNat_natCast,J]
 by_cases h:x=0<;>simp [h]
theorem rb {l:List Int}(aU:cl l)(a2:l.length≤5000000):pN l=some (L (V l)):=by
 have : ∃r,iter (fun w:Int=>tT l w) (l.length:Int)=some r∧ ∃k:Nat,r=k∧k≤l.length∧l.take k=L (V l):=by
  refine jA (eL:=fun w:Int=> ∃k:Nat,w=k∧k≤l.length∧V (l.take k)=V l) (m:=fun w:Int=>w.toNat) _ ?_ _ ⟨l.length,rfl,by omega,by simp⟩
  rintro _ ⟨k,rfl,a5,bd⟩
  cases k with
  | zero =>
   refine .inr ⟨0,by simp [tT],0,rfl,by omega,?_⟩
   rw [← bd]
   simp [V,qy]
  | succ k =>
   have J:=List.getElem?_eq_getElem (show k<l.length by omega)
   rw [Zk J a2]
   by_cases h:l[k]=0
   ·refine .inl ⟨_,by simp [h],⟨k,rfl,by omega,?_⟩,by omega⟩
    have:=rS J
    rw [h] at this
    simp at this
    omega
   ·refine .inr ⟨_,by simp [h],k+1,rfl,a5,?_⟩
    rcases fE.Ke aU k (fun x h1=>by rw [J] at h1;simp at h1;omega) with h1|h1
    ·exact ta h1 bd
    ·omega
 obtain ⟨r,aq,k,rfl,h1,h2⟩:=this
 unfold pN IW
 rw [fC,aq]
 simp [h1,h2]
theorem xN {l:List Int}(aU:cl l)(a2:l.length≤5000000):pR l=some (L (V l)):=by
 have : ∃r,iter (fun w:List Int=>w2 w) l=some r∧r=L (V l):=by
  refine jA (eL:=fun w=> ∃k:Nat,w=l.take k∧k≤l.length∧V (l.take k)=V l) (m:=fun w:List Int=>w.length) _ ?_ _ ⟨l.length,by simp,by omega,by simp⟩
  rintro _ ⟨k,rfl,a5,bd⟩
  have hlen:(l.take k).length=k:=by simp;omega
  cases k with
  | zero =>
   refine .inr ⟨[],by simp [w2,fC],?_⟩
   rw [← bd]
   simp [V,qy]
  | succ k =>
   have J:=List.getElem?_eq_getElem (show k<l.length by omega)
   have dA:(l.take (k+1))[k]? = some l[k]:=by rw [List.getElem?_take];simp [J]
   unfold w2
   simp only [fC,hlen]
   rw [KI (by omega),if_pos (by simp),if_pos (by omega),Int.toNat_natCast,dA]
   by_cases h:l[k]=0
   ·refine .inl ⟨l.take k,by simp [h,List.take_take,Nat.min_eq_left],⟨k,rfl,by omega,?_⟩,by simp;omega⟩
    have:=rS J
    rw [h] at this
    simp at this
    omega
   ·refine .inr ⟨l.take (k+1),by simp [h],?_⟩
    rcases fE.Ke aU k (fun x h1=>by rw [J] at h1;simp at h1;omega) with h1|h1
    ·exact ta h1 bd
    ·omega
 obtain ⟨r,aq,rfl⟩:=this
 unfold pR Jt
 rw [aq]
 rfl
theorem Zl {l:List Int}(aU:cl l)(a2:l.length≤5000000): ∃k,z2 l=some k∧k≤l.length∧l.take k=L (V l):=by
 have : ∃r,iter (fun w:Nat=>wU l w) l.length=some r∧r≤l.length∧l.take r=L (V l):=by
  refine jA (eL:=fun k=>k≤l.length∧V (l.take k)=V l) (m:=fun w:Nat=>w) _ ?_ _ ⟨by omega,by simp⟩
  rintro k ⟨a5,bd⟩
  cases k with
  | zero =>
   refine .inr ⟨0,by simp [wU],by omega,?_⟩
   rw [← bd]
   simp [V,qy]
  | succ k =>
   have J:=List.getElem?_eq_getElem (show k<l.length by omega)
   unfold wU
   rw [KI (by omega),if_pos (by simp),if_pos (by omega),Int.toNat_natCast,Nat.zero_add,J]
   by_cases h:l[k]=0
   ·refine .inl ⟨k,by simp [h],⟨by omega,?_⟩,by omega⟩
    have:=rS J
    rw [h] at this
    simp at this
    omega
   ·refine .inr ⟨k+1,by simp [h],a5,?_⟩
    rcases fE.Ke aU k (fun x h1=>by rw [J] at h1;simp at h1;omega) with h1|h1
    ·exact ta h1 bd
    ·omega
 obtain ⟨r,aq,h1,h2⟩:=this
 unfold z2 Je
 rw [aq]
 exact ⟨r,rfl,h1,h2⟩
theorem rV {a b:List Int}(bE:fE a)(aP:fE b)(a2:a.length≤5000000):pP a b=some (kS (V a) (V b)):=by
 unfold pP kS
 simp only [fC]
 by_cases h1:a.length=b.length
 ·rw [if_neg (by simp [h1])]
  have : ∃r,iter (fun w:Int=>wQ a b w) ((a.length:Int)-1)=some r∧(r.elim (fun _=>V a=V b) (fun c=>(c = -1∧V a<V b)∨(c=1∧V b<V a))):=by
   refine jA (eL:=fun w:Int=> ∃k:Nat,w=(k:Int)-1∧k≤a.length∧V (a.drop k)=V (b.drop k)) (m:=fun w:Int=>(w+1).toNat) _ ?_ _ ⟨a.length,rfl,by omega,by rw [List.drop_length,h1,List.drop_length]⟩
   rintro _ ⟨k,rfl,a5,bd⟩
   cases k with
   | zero=>exact .inr ⟨.inl (),by simp [wQ],by simpa using bd⟩
   | succ k =>
    have J:=List.getElem?_eq_getElem (show k<a.length by omega)
    have a0:=List.getElem?_eq_getElem (show k<b.length by omega)
    have e:((k+1:Nat):Int)-1=k:=by omega
    unfold wQ
    rw [e,p6 (by omega),if_pos (by simp),if_pos (by omega),Int.toNat_natCast,J]
    simp only [Option.bind_eq_bind,Option.bind_some]
    rw [if_pos (by omega),a0]
    by_cases h2:a[k]<b[k]
    ·exact .inr ⟨.inr (-1),by simp [h2],.inl ⟨rfl,P3 bE.1 aP.1 J a0 bd h2⟩⟩
    ·by_cases ab:b[k]<a[k]
     ·exact .inr ⟨.inr 1,by simp [h2,ab],.inr ⟨rfl,P3 aP.1 bE.1 a0 J bd.symm ab⟩⟩
     ·refine .inl ⟨(k:Int)-1,by simp [h2,ab],⟨k,rfl,by omega,?_⟩,by omega⟩
      rw [oq J,oq a0,bd,show a[k]=b[k] by omega]
  obtain ⟨r,aq,h2⟩:=this
  unfold I7
  rw [p6 (by omega),aq]
  cases r with
  | inl u =>
   simp at h2
   simp [h2]
  | inr c =>
   rcases h2 with ⟨rfl,h2⟩|⟨rfl,h2⟩
   ·simp [h2]
   ·simp [h2];omega
 ·rw [if_pos (by simp;omega)]
  by_cases h2:a.length<b.length
  ·have:=DP bE aP h2
   simp [h2,this]
  ·have:=DP aP bE (by omega)
   rw [if_neg (by simp;omega),if_neg (by omega),if_pos this]
theorem XW:ql=pP:=rfl
theorem OG {a b:List Int}(bE:fE a)(aP:fE b)(a2:a.length≤5000000):ql a b=some (kS (V a) (V b)):=rV bE aP a2
theorem AH {x y:Int}(J:0≤x∧x<1000000000)(a0:0≤y∧y<1000000000):0≤x*y∧x*y≤999999998000000001:=by
 have h1:=Int.mul_nonneg J.1 a0.1
 have h2:x*y≤999999999*999999999:=Int.mul_le_mul (by omega) (by omega) a0.1 (by omega)
 omega
theorem pI {a b:Int}(h:0≤a):a.tmod b=a % b:=Int.tmod_eq_emod_of_nonneg h
theorem mY {a b:Int}(h:0≤a):a.tdiv b=a / b:=Int.tdiv_eq_ediv_of_nonneg h
theorem Kh (k:Nat)(x:Int)(q:List Int):(List.replicate (k+1) 0++q).set k x=List.replicate k 0++x::q:=by
 induction k with
 | zero=>rfl
 | succ k ih =>
  show (0::(List.replicate (k+1) 0++q)).set (k+1) x=_
  rw [List.set_cons_succ,ih];rfl
theorem YK {a:List Int}{d rest:Int}{row:List Int}{k:Nat}{x:Int}(J:a[k]? = some x)(kn:0≤x∧x<1000000000)(bG:0<d∧d<1000000000)(aq:0≤rest∧rest<d)(dw:row.length=a.length)(a2:a.length≤1000000):
 wz a d rest (k:Int) row=some (.inl ((rest*1000000000+x) % d,(k:Int)-1,row.set k ((rest*1000000000+x) / d))):=by
 have a5:=fO J
 unfold wz
 rw [if_pos (by simp),if_pos (by omega),Int.toNat_natCast,J]
 simp only [Option.bind_eq_bind,Option.bind_some]
 rw [if_pos (by omega),if_pos (by omega),if_pos (by omega),p6 (by omega)]
 have h1:R (R (rest*1000000000)+x)=rest*1000000000+x:=by rw [cu (x:=rest*1000000000) (by omega) (by omega)];exact cu (by omega) (by omega)
 have h2:0≤rest*1000000000+x:=by omega
 have ab:(rest*1000000000+x) / d≤rest*1000000000+x:=Int.ediv_le_self _ h2
 have au:0≤(rest*1000000000+x) / d:=Int.ediv_nonneg h2 (by omega)
 rw [h1,pI h2,mY h2,cu (by omega) (by omega),Nat.zero_add]
theorem OH {a:List Int}{d:Int}(bE:cl a)(bG:0<d∧d<1000000000)(a2:a.length≤1000000):
 ∃r,CR a d 0 ((a.length:Int)-1) (List.replicate a.length 0)=some r∧r.1=V a % d∧cl r.2∧r.2.length=a.length∧V r.2=V a / d:=by
 refine jA (eL:=fun w:Int×Int×List Int=> ∃(k:Nat) (q:List Int),w.2.1=(k:Int)-1∧k≤a.length∧w.2.2=List.replicate k 0++q∧q.length+k=a.length∧cl q∧0≤w.1∧w.1<d∧V (a.drop k)=V q*d+w.1) (m:=fun w:Int×Int×List Int=>(w.2.1+1).toNat) _ ?_ _ ⟨a.length,[],rfl,by omega,by simp,by simp,cl.nil,by omega,by omega,by simp [V]⟩
 rintro ⟨rest,i,row⟩ ⟨k,q,h1,a5,h2,a9,pE,k9,hQ,bd⟩
 simp only at h1 h2 k9 hQ bd ⊢
 subst h1 h2
 cases k with
 | zero =>
  refine .inr ⟨(rest,q),by simp [wz],?_,pE,by simpa using a9,?_⟩
  ·simp at bd
   rw [bd,Int.add_comm,Int.add_mul_emod_self_right]
   exact (Int.emod_eq_of_lt k9 hQ).symm
  ·simp at bd
   rw [bd,Int.add_comm,Int.add_mul_ediv_right _ _ (by omega),Int.ediv_eq_zero_of_lt k9 hQ]
   simp
 | succ k =>
  have J:=List.getElem?_eq_getElem (show k<a.length by omega)
  have kn:=bE.get J
  rw [show ((k+1:Nat):Int)-1=k by omega,YK J kn bG ⟨k9,hQ⟩ (by simp;omega) a2]
  refine .inl ⟨_,rfl,⟨k,(rest*1000000000+a[k]) / d::q,rfl,by omega,Kh _ _ _,by simp;omega,cl.cons ⟨Int.ediv_nonneg (by omega) (by omega),?_⟩ pE,Int.emod_nonneg _ (by omega),Int.emod_lt_of_pos _ bG.1,?_⟩,by simp⟩
  ·refine Int.ediv_lt_of_lt_mul bG.1 ?_
   omega
  ·rw [oq J,bd,k2]
   have:=Int.mul_ediv_add_emod (rest*1000000000+a[k]) d
   generalize (rest*1000000000+a[k]) / d=u at *
   generalize (rest*1000000000+a[k]) % d=t at *
   grind
theorem aag {a:List Int}{d:Int}(bE:cl a)(bG:0<d∧d<1000000000)(a2:a.length≤1000000):zE a d=some (L (V a / d),V a % d):=by
 obtain ⟨r,aq,h1,h2,ab,au⟩:=OH bE bG a2
 unfold zE
 simp only [fC]
 rw [if_pos (by omega),p6 (by omega),Int.toNat_natCast,aq]
 simp only [Option.bind_eq_bind,Option.bind_some]
 rw [rb h2 (by omega),h1,au]
 rfl
theorem Xa:Iu=CR:=rfl
theorem NV {a:List Int}{d:Int}(bE:cl a)(bG:0<d∧d<1000000000)(a2:a.length≤1000000):xc a d=some (L (V a / d),V a % d):=by
 obtain ⟨r,aq,h1,h2,ab,au⟩:=OH bE bG a2
 unfold xc
 simp only [fC]
 rw [if_pos (by omega),p6 (by omega),Int.toNat_natCast,Xa,aq]
 simp only [Option.bind_eq_bind,Option.bind_some]
 rw [xN h2 (by omega),h1,au]
 rfl
theorem Zm {b:List Int}{i j:Nat}{x y z carry:Int}{row t26:List Int}{t27:Int}(a0:b[j]? = some y)(cp:row[i+j]? = some z)(J:0≤x∧x<1000000000)(oS:0≤y∧y<1000000000)(qM:0≤z∧z<1000000000)(bb:0≤carry∧carry<1000000000)(a2:row.length≤2000000):
 wR b i x t26 t27 b.length carry j row=some (.inl ((z+x*y+carry) / 1000000000,((j+1:Nat):Int),row.set (i+j) ((z+x*y+carry) % 1000000000))):=by
 have aD:=fO a0
 have pz:=fO cp
 obtain ⟨ij,hc⟩:=AH J oS
 unfold wR
 have e:R ((i:Int)+(j:Int))=((i+j:Nat):Int):=by rw [cu (by omega) (by omega)];rfl
 rw [if_pos (by simp;omega),if_pos (by omega),Int.toNat_natCast,a0]
 simp only [Option.bind_eq_bind,Option.bind_some,e,Int.toNat_natCast,Nat.zero_add]
 rw [if_pos (by omega),cp]
 simp only [Option.bind_some]
 rw [if_pos (by omega),nx (by omega),cu (x:=x*y) (by omega) (by omega),cu (x:=z+x*y) (by omega) (by omega),cu (x:=z+x*y+carry) (by omega) (by omega),pI (by omega),mY (by omega),cu (by omega) (by omega)]
theorem Zn {b:List Int}{i:Nat}{x:Int}{row t26:List Int}{t27:Int}(aP:cl b)(dw:cl row)(J:0≤x∧x<1000000000)(aU:i+b.length<row.length)(a2:row.length≤2000000):
 ∃r,Jb b i x t26 t27 b.length 0 0 row=some r∧0≤r.1∧r.1<1000000000∧cl r.2∧r.2.length=row.length∧V r.2+r.1*B (i+b.length)=V row+x*B i*V b∧ ∀j,i+b.length≤j→r.2[j]? = row[j]? := by
 refine jA (eL:=fun w:Int×Int×List Int=> ∃(j:Nat),w.2.1=(j:Int)∧j≤b.length∧0≤w.1∧w.1<1000000000∧cl w.2.2∧w.2.2.length=row.length∧V w.2.2+w.1*B (i+j)=V row+x*B i*V (b.take j)∧ ∀j,i+b.length≤j→w.2.2[j]? = row[j]?) (m:=fun w:Int×Int×List Int=>b.length-w.2.1.toNat) _ ?_ _ ⟨0,rfl,by omega,by simp,by simp,dw,rfl,by simp [V],fun _ _=>rfl⟩
 rintro ⟨carry,aej,fD⟩ ⟨j,h1,aD,mn,mP,kc,hlen,bd,k5⟩
 simp only at h1 mn mP kc hlen bd k5 ⊢
 subst h1
 by_cases adw:j=b.length
 ·subst adw
  refine .inr ⟨(carry,fD),by simp [wR],mn,mP,kc,hlen,by simpa using bd,k5⟩
 ·have a0:=List.getElem?_eq_getElem (show j<b.length by omega)
  have cp:=List.getElem?_eq_getElem (show i+j<fD.length by omega)
  have oS:=aP.get a0
  have qM:=kc.get cp
  obtain ⟨ij,hc⟩:=AH J oS
  rw [Zm a0 cp J oS qM ⟨mn,mP⟩ (by omega)]
  refine .inl ⟨_,rfl,⟨j+1,rfl,by omega,by simp only;omega,by simp only;omega,kc.set (by omega),by simpa using hlen,?_,fun hH tj=> ?_⟩,by simp;omega⟩
  ·simp only
   rw [rm cp,rS a0,← Nat.add_assoc,l4]
   rw [AS] at bd ⊢
   have:=Int.mul_ediv_add_emod (fD[i+j]+x*b[j]+carry) 1000000000
   generalize (fD[i+j]+x*b[j]+carry) / 1000000000=u at *
   generalize (fD[i+j]+x*b[j]+carry) % 1000000000=t at *
   grind
  ·rw [← k5 hH tj]
   exact List.getElem?_set_ne (by omega)
theorem JQ {a b:List Int}(bE:cl a)(aP:cl b)(a2:a.length≤1000000)(hm:b.length≤1000000):
 ∃r,zw b a a.length 0 (List.replicate (a.length+b.length) 0)=some r∧cl r∧r.length=a.length+b.length∧V r=V a*V b:=by
 refine jA (eL:=fun w:Int×List Int=> ∃(i:Nat),w.1=(i:Int)∧i≤a.length∧cl w.2∧w.2.length=a.length+b.length∧V w.2=V (a.take i)*V b∧ ∀j,i+b.length≤j→j<a.length+b.length→w.2[j]? = some 0) (m:=fun w:Int×List Int=>a.length-w.1.toNat) _ ?_ _ ⟨0,rfl,by omega,cl.Ly _,by simp,by simp [V,KF],fun j _ h=>by simp [List.getElem?_replicate,h]⟩
 rintro ⟨ii,row⟩ ⟨i,h1,an,kc,hlen,bd,h0⟩
 simp only at h1 kc hlen bd h0 ⊢
 subst h1
 by_cases BW:i=a.length
 ·subst BW
  refine .inr ⟨row,by simp [zb],kc,hlen,by simpa using bd⟩
 ·have J:=List.getElem?_eq_getElem (show i<a.length by omega)
  have kn:=bE.get J
  obtain ⟨r,aq,mn,mP,acu,QO,Bp,k5⟩:=Zn (i:=i) (t26:=a) (t27:=a.length) aP kc kn (by omega) (by omega)
  have e:R ((i:Int)+(b.length:Int))=((i+b.length:Nat):Int):=by rw [cu (by omega) (by omega)];rfl
  have cp:r.2[i+b.length]? = some 0:=by rw [k5 _ (Nat.le_refl _)];exact h0 _ (Nat.le_refl _) (by omega)
  refine .inl ⟨(((i+1:Nat):Int),r.2.set (i+b.length) r.1),?_,⟨i+1,rfl,by omega,acu.set ⟨mn,mP⟩,by simp;omega,?_,fun j afN adx=> ?_⟩,by simp;omega⟩
  ·unfold zb
   rw [if_pos (by simp;omega),if_pos (by omega),Int.toNat_natCast,J]
   simp only [Option.bind_eq_bind,Option.bind_some,fC]
   rw [aq]
   simp only [Option.bind_some,e,Int.toNat_natCast,Nat.zero_add]
   rw [if_pos (by omega),if_pos (by omega),nx (n:=i) (by omega)]
  ·simp only
   rw [rm cp,rS J]
   grind
  ·simp only
   rw [List.getElem?_set_ne (by omega),k5 _ (by omega)]
   exact h0 _ (by omega) adx
theorem mul_eq {a b:List Int}(bE:cl a)(aP:cl b)(a2:a.length≤1000000)(hm:b.length≤1000000):hF a b=some (L (V a*V b)):=by
 unfold hF
 simp only [fC]
 by_cases h1:a=[]
 ·subst h1
  simp [V,qy]
 ·by_cases h2:b=[]
  ·subst h2
   simp [h1,V,qy]
  ·obtain ⟨r,aq,ab,au,aA⟩:=JQ bE aP a2 hm
   have e:R ((a.length:Int)+(b.length:Int))=((a.length+b.length:Nat):Int):=by rw [cu (by omega) (by omega)];rfl
   rw [if_neg (by simp [h1]),if_neg (by simp [h2]),e,if_pos (by omega),Int.toNat_natCast,aq]
   simp only [Option.bind_eq_bind,Option.bind_some]
   rw [rb ab (by omega),aA]
   rfl
theorem Yg:Jq=zw:=rfl
theorem XB:I1=zw:=rfl
theorem aah {a b:List Int}(bE:cl a)(aP:cl b)(a2:a.length≤1000000)(hm:b.length≤1000000):Ac a b=some (L (V a*V b)):=by
 unfold Ac
 simp only [fC]
 by_cases h1:a=[]
 ·subst h1
  simp [V,qy]
 ·by_cases h2:b=[]
  ·subst h2
   simp [h1,V,qy]
  ·obtain ⟨r,aq,ab,au,aA⟩:=JQ bE aP a2 hm
   have e:R ((a.length:Int)+(b.length:Int))=((a.length+b.length:Nat):Int):=by rw [cu (by omega) (by omega)];rfl
   rw [if_neg (by simp [h1]),if_neg (by simp [h2]),e,if_pos (by omega),Int.toNat_natCast,Yg,aq]
   simp only [Option.bind_eq_bind,Option.bind_some]
   rw [xN ab (by omega),aA]
   rfl
theorem OI {a b:List Int}(bE:cl a)(aP:cl b)(h1:a≠[])(h2:b≠[])(a2:a.length≤1000000)(hm:b.length≤1000000):
 ∃k r,xl a b=some (k,r)∧k≤r.length∧r.length=a.length+b.length∧r.take k=L (V a*V b)∧cl r:=by
 obtain ⟨r,aq,ab,au,aA⟩:=JQ bE aP a2 hm
 obtain ⟨k,a5,aW,a7⟩:=Zl ab (by omega)
 refine ⟨k,r,?_,aW,au,by rw [a7,aA],ab⟩
 unfold xl
 simp only [fC]
 have e:R ((a.length:Int)+(b.length:Int))=((a.length+b.length:Nat):Int):=by rw [cu (by omega) (by omega)];rfl
 rw [if_neg (by simp [h1]),if_neg (by simp [h2]),e,if_pos (by omega),Int.toNat_natCast,XB,aq]
 simp only [Option.bind_eq_bind,Option.bind_some]
 rw [a5]
 rfl
theorem AX {x:Int}(h1:0≤x)(h2:x<18446744073709551616):IntKind.wrap .u64 x=x:=by
 simp only [IntKind.wrap,IntKind.signed,IntKind.bits]
 have:((2:Int) ^ 64)=18446744073709551616:=by decide
 simp
 omega
theorem ab1 {x:Int}(h1:-9223372036854775808≤x)(h2:x<9223372036854775808):IntKind.wrap .i64 x=x:=cu h1 h2
theorem fE.snoc {l:List Int}{x:Int}(h:cl l)(J:0<x∧x<1000000000):fE (l++[x]):=⟨h.append (cl.cons (by omega) cl.nil),fun y a0=>by
 rw [List.getLast?_append] at a0
 simp at a0
 omega⟩
theorem O5 {N:Int}(fN:N<18446744073709551616){n:Int}{row:List Int}(h:0≤n∧cl row∧V row+B row.length*n=N∧(n=0→fE row)∧((row.length=0∧n<18446744073709551616)∨(row.length=1∧n<20000000000)∨(row.length=2∧n<20)∨(row.length=3∧n=0)))(a2:0<n):
 (fun (n:Int) (row:List Int)=>0≤n∧cl row∧V row+B row.length*n=N∧(n=0→fE row)∧((row.length=0∧n<18446744073709551616)∨(row.length=1∧n<20000000000)∨(row.length=2∧n<20)∨(row.length=3∧n=0))) (n / 1000000000) (row++[n % 1000000000]):=by
 obtain ⟨h0,h1,h2,ab,au⟩:=h
 refine ⟨by omega,h1.append (cl.cons (by omega) cl.nil),?_,fun aA=>fE.snoc h1 (by omega),?_⟩
 ·rw [uE,List.length_append,List.length_singleton,l4,k2,AU]
  have:=Int.mul_ediv_add_emod n 1000000000
  generalize n / 1000000000=u at *
  generalize n % 1000000000=t at *
  grind
 ·rw [List.length_append,List.length_singleton]
  omega
theorem xF {n:Int}(h:0≤n)(a2:n<9223372036854775808):ra n=some (L n):=by
 have : ∃r,iter (fun w:Int×List Int=>wZ w.1 w.2) (n,[])=some r∧r=L n:=by
  refine jA (eL:=fun w:Int×List Int=>w.1≤n∧0≤w.1∧cl w.2∧V w.2+B w.2.length*w.1=n∧(w.1=0→fE w.2)∧((w.2.length=0∧w.1<18446744073709551616)∨(w.2.length=1∧w.1<20000000000)∨(w.2.length=2∧w.1<20)∨(w.2.length=3∧w.1=0))) (m:=fun w:Int×List Int=>w.1.toNat) _ ?_ _ ⟨Int.le_refl _,h,cl.nil,by simp [V,B],fun _=>fE.nil,.inl ⟨rfl,by simp only;omega⟩⟩
  rintro ⟨m,row⟩ ⟨hm,cw⟩
  simp only at hm cw
  obtain ⟨h0,h1,h2,ab,au⟩:=id cw
  by_cases jZ:0<m
  ·have:=O5 (by omega) cw jZ
   refine .inl ⟨(m / 1000000000,row++[m % 1000000000]),?_,⟨by simp only;omega,this⟩,by simp only;omega⟩
   unfold wZ
   rw [if_pos (by simp;omega),pI (by omega),mY (by omega),if_pos (by simp;omega),cu (by omega) (by omega)]
  ·refine .inr ⟨row,by simp [wZ,jZ],?_⟩
   have nG:m=0:=by omega
   refine ta (ab nG) ?_
   rw [nG] at h2
   simpa using h2
 obtain ⟨r,aq,rfl⟩:=this
 unfold ra Jl
 rw [aq]
 rfl
theorem JH {n:Int}(h:0≤n)(a2:n<18446744073709551616):ui n=some (L n):=by
 have : ∃r,iter (fun w:Int×List Int=>wE w.1 w.2) (n,[])=some r∧r=L n:=by
  refine jA (eL:=fun w:Int×List Int=>w.1≤n∧0≤w.1∧cl w.2∧V w.2+B w.2.length*w.1=n∧(w.1=0→fE w.2)∧((w.2.length=0∧w.1<18446744073709551616)∨(w.2.length=1∧w.1<20000000000)∨(w.2.length=2∧w.1<20)∨(w.2.length=3∧w.1=0))) (m:=fun w:Int×List Int=>w.1.toNat) _ ?_ _ ⟨Int.le_refl _,h,cl.nil,by simp [V,B],fun _=>fE.nil,.inl ⟨rfl,by simp only;omega⟩⟩
  rintro ⟨m,row⟩ ⟨hm,cw⟩
  simp only at hm cw
  obtain ⟨h0,h1,h2,ab,au⟩:=id cw
  by_cases jZ:0<m
  ·have:=O5 (by omega) cw jZ
   refine .inl ⟨(m / 1000000000,row++[m % 1000000000]),?_,⟨by simp only;omega,this⟩,by simp only;omega⟩
   unfold wE
   rw [if_pos (by simp;omega),pI (by omega),mY (by omega),ab1 (x:=m % 1000000000) (by omega) (by omega),if_pos (by simp;omega),AX (by omega) (by omega)]
  ·refine .inr ⟨row,by simp [wE,jZ],?_⟩
   have nG:m=0:=by omega
   refine ta (ab nG) ?_
   rw [nG] at h2
   simpa using h2
 obtain ⟨r,aq,rfl⟩:=this
 unfold ui IZ
 rw [aq]
 rfl
def tc (x:Int):Bool:=decide (0≤x) && decide (x<1000000000)
theorem P9 (l:List Int):l.all tc=true↔cl l:=by
 simp [tc,cl]
theorem OJ {a:List Int}(h:a≠[]): ∃x,a[a.length-1]? = some x∧(fE a↔cl a∧x≠0):=by
 have aj:=List.length_pos_iff.mpr h
 refine ⟨a[a.length-1],List.getElem?_eq_getElem (by omega),?_⟩
 have e:a.getLast? = some a[a.length-1]:=by rw [List.getLast?_eq_getElem?];exact List.getElem?_eq_getElem (by omega)
 constructor
 ·exact fun h=>⟨h.1,h.2 _ e⟩
 ·refine fun h=>⟨h.1,fun x J=> ?_⟩
  rw [e] at J
  rw [← Option.some.inj J]
  exact h.2
theorem ab2 {a:List Int}(h:a≠[])(hm:(a.length:Int)<9223372036854775807):R ((a.length:Int)-1)=((a.length-1:Nat):Int):=by
 have aj:=List.length_pos_iff.mpr h
 rw [cu (by omega) (by omega)]
 omega
theorem YL (x:Int):mg x 0 999999999=some (tc x):=by
 unfold mg tc
 by_cases h:0≤x
 ·simp [h];omega
 ·simp [h]
theorem JI {a:List Int}(hm:(a.length:Int)<9223372036854775807): ∃ok,rL a=some ok∧(ok=true↔fE a∧a.length≤60):=by
 have h1:iter (fun w:Int=>w0 a a.length w) 0=some (if a.all tc then .inl () else .inr ()):=by
  refine Pu a tc (fun n x J=> ?_) (by simp [w0])
  have:=fO J
  unfold w0
  rw [if_pos (by simp;omega),if_pos (by omega),Int.toNat_natCast,J]
  simp only [Option.bind_eq_bind,Option.bind_some,YL]
  rw [i1 (by omega)]
  cases tc x<;>rfl
 unfold rL Jm
 simp only [fC]
 rw [h1]
 by_cases tA:a.all tc=true
 ·have Bm:=(P9 a).1 tA
  simp only [tA,if_true,Option.bind_eq_bind,Option.bind_some]
  by_cases qh:a.length≤60
  ·rw [if_pos (by simp;omega)]
   by_cases h0:a=[]
   ·subst h0
    exact ⟨true,rfl,by simp [fE.nil]⟩
   ·obtain ⟨x,J,a2⟩:=OJ h0
    have aj:=List.length_pos_iff.mpr h0
    rw [if_neg (by simp [h0]),ab2 h0 hm,if_pos (by omega),Int.toNat_natCast,J]
    refine ⟨_,rfl,?_⟩
    rw [a2]
    simp [Bm,qh]
  ·rw [if_neg (by simp;omega)]
   exact ⟨false,rfl,by simp;omega⟩
 ·have Bm : ¬cl a:=fun h=>tA ((P9 a).2 h)
  simp only [Bool.not_eq_true] at tA
  refine ⟨false,by simp [tA],?_⟩
  simp only [Bool.false_eq_true,false_iff]
  exact fun h=>Bm h.1.1
theorem Od {a:List Int}(bE:fE a)(qh:a.length≤60)(bd:V a<9223372036854775808):xf a=some (V a,true):=by
 obtain ⟨ok,h1,h2⟩:=JI (a:=a) (by omega)
 have mM:ok=true:=h2.2 ⟨bE,qh⟩
 subst mM
 have bb:fE [854775807,223372036,9]:=⟨by intro x J;simp at J;omega,by simp⟩
 have LJ:V [854775807,223372036,9]=9223372036854775807:=by decide
 unfold xf
 rw [h1]
 simp only [Option.bind_eq_bind,Option.bind_some,if_true]
 rw [rV bE bb (by omega),LJ]
 have : ∃r,iter (fun w:Int×Int=>wx a w.1 w.2) (0,(a.length:Int)-1)=some r∧r=V a:=by
  refine jA (eL:=fun w:Int×Int=> ∃k:Nat,w.2=(k:Int)-1∧k≤a.length∧w.1=V (a.drop k)) (m:=fun w:Int×Int=>(w.2+1).toNat) _ ?_ _ ⟨a.length,rfl,by omega,by simp [V]⟩
  rintro ⟨n,i⟩ ⟨k,ab,a5,au⟩
  simp only at ab au
  subst ab au
  cases k with
  | zero=>exact .inr ⟨V a,by simp [wx],rfl⟩
  | succ k =>
   have J:=List.getElem?_eq_getElem (show k<a.length by omega)
   have kn:=bE.1.get J
   have aA:=oq J
   have aW:=mC (bE.1.drop (k+1))
   have a7:V (a.drop k)≤V a:=by
    have bi:=uG (l:=a) (n:=k) (by omega)
    have cg:=mC (bE.1.take k)
    have cO:=mC (bE.1.drop k)
    have eH:1*V (a.drop k)≤B k*V (a.drop k):=Int.mul_le_mul_of_nonneg_right (oz k) cO
    omega
   refine .inl ⟨(V (a.drop k),(k:Int)-1),?_,⟨k,rfl,by omega,rfl⟩,by simp only;omega⟩
   unfold wx
   rw [show ((k+1:Nat):Int)-1=k by omega,if_pos (by simp),if_pos (by omega),Int.toNat_natCast,J]
   simp only [Option.bind_eq_bind,Option.bind_some]
   rw [p6 (by omega),cu (x:=V (a.drop (k+1))*1000000000) (by omega) (by omega),cu (by omega) (by omega),aA]
   congr 3
   omega
 obtain ⟨r,aq,rfl⟩:=this
 unfold kS IF
 simp only [fC]
 rw [p6 (by omega),aq]
 have ab : ¬(9223372036854775807:Int)<V a:=by omega
 by_cases au:V a<9223372036854775807<;>simp [ab,au]
theorem aai {a b row:List Int}{less x:Int}{i:Nat}(aP:cl b)(J:a[i]? = some x)(kn:0≤x∧x<1000000000)(aU:less=0∨less=1)(a2:a.length≤1000000)(hm:b.length≤1000000)(aq:row.length≤1000000):
 ∃y,0≤y∧y<1000000000∧(∀z,b[i]? = some z→y=z)∧(b[i]? = none→y=0) ∧
 tV a b a.length less i row=some (.inl (if x-less-y<0 then (1,((i+1:Nat):Int),row++[x-less-y+1000000000]) else (0,((i+1:Nat):Int),row++[x-less-y]))):=by
 have an:=fO J
 unfold tV
 rw [if_pos (by simp;omega),if_pos (by omega),Int.toNat_natCast,J]
 simp only [Option.bind_eq_bind,Option.bind_some,fC]
 by_cases R4:i<b.length
 ·have a0:=List.getElem?_eq_getElem R4
  have oS:=aP.get a0
  refine ⟨b[i],oS.1,oS.2,fun z cp=>by rw [a0] at cp;exact Option.some.inj cp,fun h=>by rw [a0] at h;simp at h,?_⟩
  rw [if_pos (by simp;omega),if_pos (by omega),a0]
  simp only [Option.bind_some]
  rw [cu (x:=x-less) (by omega) (by omega),cu (x:=x-less-b[i]) (by omega) (by omega),nx (n:=i) (by omega),cu (x:=x-less-b[i]+1000000000) (by omega) (by omega)]
  by_cases h:x-less-b[i]<0
  ·rw [if_pos (by simp [h]),if_pos (by simp;omega)]
   simp [h]
  ·rw [if_neg (by simp [h]),if_pos (by simp;omega)]
   simp [h]
 ·have a0:b[i]? = none:=by simp;omega
  refine ⟨0,by omega,by omega,fun z cp=>by rw [a0] at cp;simp at cp,fun _=>rfl,?_⟩
  rw [if_neg (by simp;omega),cu (x:=x-less) (by omega) (by omega),nx (n:=i) (by omega),cu (x:=x-less+1000000000) (by omega) (by omega),Int.sub_zero]
  by_cases h:x-less<0
  ·rw [if_pos (by simp [h]),if_pos (by simp;omega)]
   simp [h]
  ·rw [if_neg (by simp [h]),if_pos (by simp;omega)]
   simp [h]
theorem PA {b:List Int}{i:Nat}{y:Int}(h1:∀z,b[i]? = some z→y=z)(h2:b[i]? = none→y=0):V (b.take (i+1))=V (b.take i)+B i*y:=by
 cases h:b[i]? with
 | some z=>rw [h1 z h,rS h]
 | none =>
  rw [h2 h]
  have:b.length≤i:=by simpa using h
  rw [List.take_of_length_le (by omega),List.take_of_length_le (by omega)]
  simp
theorem sub_eq {a b:List Int}(bE:cl a)(aP:cl b)(hlen:b.length≤a.length)(tp:V b≤V a)(a2:a.length≤1000000):rK a b=some (L (V a-V b)):=by
 have : ∃r,iter (fun w:Int×Int×List Int=>tV a b a.length w.1 w.2.1 w.2.2) (0,0,[])=some r∧cl r∧r.length=a.length∧V r=V a-V b:=by
  refine jA (eL:=fun w:Int×Int×List Int=> ∃i:Nat,w.2.1=i∧i≤a.length∧(w.1=0∨w.1=1)∧cl w.2.2∧w.2.2.length=i∧V w.2.2-w.1*B i=V (a.take i)-V (b.take i)) (m:=fun w:Int×Int×List Int=>a.length-w.2.1.toNat) _ ?_ _ ⟨0,rfl,by omega,.inl rfl,cl.nil,rfl,by simp [V]⟩
  rintro ⟨less,ii,row⟩ ⟨i,h1,an,aU,kc,so,bd⟩
  simp only at h1 aU kc so bd ⊢
  subst h1
  by_cases BW:i=a.length
  ·refine .inr ⟨row,by simp [tV,BW],kc,by omega,?_⟩
   rw [BW] at bd
   rw [List.take_length,List.take_of_length_le hlen] at bd
   have h2:=m8 kc
   rw [so,BW] at h2
   rcases aU with rfl|rfl<;>omega
  ·have J:=List.getElem?_eq_getElem (show i<a.length by omega)
   have kn:=bE.get J
   obtain ⟨y,BX,BZ,ady,adz,he⟩:=aai (row:=row) aP J kn aU a2 (by omega) (by omega)
   rw [he]
   refine .inl ⟨_,rfl,?_⟩
   have ab:=rS J
   have au:=PA ady adz
   by_cases h:a[i]-less-y<0
   ·rw [if_pos h]
    refine ⟨⟨i+1,rfl,by omega,.inr rfl,kc.append (cl.cons (by omega) cl.nil),by simp [so],?_⟩,by simp only;omega⟩
    simp only
    rw [ab,au,uE,so,l4,k2,AU]
    grind
   ·rw [if_neg h]
    refine ⟨⟨i+1,rfl,by omega,.inl rfl,kc.append (cl.cons (by omega) cl.nil),by simp [so],?_⟩,by simp only;omega⟩
    simp only
    rw [ab,au,uE,so,k2,AU]
    grind
 obtain ⟨r,aq,h1,h2,ab⟩:=this
 unfold rK I8
 simp only [fC]
 rw [aq]
 simp only [Option.bind_eq_bind,Option.bind_some]
 rw [rb h1 (by omega),ab]
 rfl
theorem rc {l:List Int}(h:cl l){k:Nat}(a5:k≤l.length):B k*V (l.drop k)≤V l∧V l<B k*(V (l.drop k)+1):=by
 have h1:=uG a5
 have h2:=mC (h.take k)
 have ab:=m8 (h.take k)
 rw [List.length_take,Nat.min_eq_left a5] at ab
 rw [Int.mul_add,Int.mul_one]
 omega
theorem Ak {l:List Int}{k:Nat}{x:Int}(J:l[k]? = some x)(aU:l.length=k+1):V (l.drop k)=x:=by
 rw [oq J,List.drop_of_length_le (by omega)]
 simp [V]
theorem NW {aR W t d P:Int}(hf:1≤P)(EK:P*t≤aR)(LK:aR<P*(t+1))(tu:P*d≤W)(EL:W<P*(d+1))(bG:0<d)(ca:0≤t)(LL:aR<1000000000*W):t / (d+1)≤aR / W∧aR / W≤t / d∧aR / W≤999999999:=by
 have hW:0<W:=by
  have:=Int.mul_pos (a:=P) (b:=d) (by omega) bG
  omega
 have cV:0≤aR:=by
  have:=Int.mul_nonneg (a:=P) (b:=t) (by omega) ca
  omega
 refine ⟨?_,?_,?_⟩
 ·apply (Int.le_ediv_iff_mul_le hW).2
  have h1:t / (d+1)*(d+1)≤t:=Int.ediv_mul_le _ (by omega)
  have h2:0≤t / (d+1):=Int.ediv_nonneg ca (by omega)
  have ab:t / (d+1)*W≤t / (d+1)*(P*(d+1)):=Int.mul_le_mul_of_nonneg_left (by omega) h2
  have au:P*(t / (d+1)*(d+1))≤P*t:=Int.mul_le_mul_of_nonneg_left h1 (by omega)
  have aA:t / (d+1)*(P*(d+1))=P*(t / (d+1)*(d+1)):=by grind
  omega
 ·apply (Int.le_ediv_iff_mul_le bG).2
  have h1:aR / W*W≤aR:=Int.ediv_mul_le _ (by omega)
  have h2:0≤aR / W:=Int.ediv_nonneg cV (by omega)
  have ab:aR / W*(P*d)≤aR / W*W:=Int.mul_le_mul_of_nonneg_left tu h2
  have au:aR / W*(P*d)=P*(aR / W*d):=by grind
  have aA:P*(aR / W*d)<P*(t+1):=by omega
  have:=Int.lt_of_mul_lt_mul_left aA (by omega)
  omega
 ·have:=Int.ediv_lt_of_lt_mul hW LL
  omega
theorem Qa {a b:Int}:kS a b≤0↔a≤b:=by
 unfold kS
 by_cases h:a<b
 ·simp [h];omega
 ·by_cases h2:b<a
  ·simp [h,h2]
  ·simp [h,h2];omega
theorem sV {a b:Int}:kS a b<0↔a<b:=by
 unfold kS
 by_cases h:a<b
 ·simp [h]
 ·by_cases h2:b<a
  ·simp [h,h2]
  ·simp [h,h2]
theorem OK {r b:List Int}(aq:fE r)(aP:fE b)(lb:b≠[])(a2:r.length≤1000000)(hm:b.length≤1000000){bS an:Int}(h0:0≤bS)(h1:bS≤V r / V b)(h2:V r / V b≤an)(ab:an≤999999999):CS r b bS an=some (V r / V b):=by
 have jy:=s6 aP lb
 have : ∃q,iter (fun w:Int×Int=>tQ r b w.1 w.2) (bS,an)=some q∧q=V r / V b:=by
  refine jA (eL:=fun w:Int×Int=>0≤w.1∧w.1≤V r / V b∧V r / V b≤w.2∧w.2≤999999999) (m:=fun w:Int×Int=>(w.2-w.1).toNat) _ ?_ _ ⟨h0,h1,h2,ab⟩
  rintro ⟨l,h⟩ ⟨g0,g1,g2,g3⟩
  simp only at g0 g1 g2 g3
  by_cases dE:l<h
  ·have e1:R ((R ((R (l+h))+(1:Int))).tdiv (2:Int))=(l+h+1) / 2:=by
    rw [cu (x:=l+h) (by omega) (by omega),cu (x:=l+h+1) (by omega) (by omega),mY (by omega),cu (by omega) (by omega)]
   have nG:0≤(l+h+1) / 2:=by omega
   have o8:(l+h+1) / 2<1000000000:=by omega
   have RE:(L ((l+h+1) / 2)).length≤1:=(iX nG).2 (by simpa [B] using o8)
   have e2:tQ r b l h=some (.inl (if V b*((l+h+1) / 2)≤V r then ((l+h+1) / 2,h) else (l,(l+h+1) / 2-1))):=by
    unfold tQ
    rw [if_pos (by simp [dE]),e1,xF nG (by omega)]
    simp only [Option.bind_eq_bind,Option.bind_some]
    rw [mul_eq aP.1 (gY _) hm (by omega),eg nG]
    simp only [Option.bind_some]
    have aj:0≤V b*((l+h+1) / 2):=Int.mul_nonneg (by omega) nG
    have hlen:(L (V b*((l+h+1) / 2))).length≤b.length+1:=(iX aj).2 (by
     rw [l4]
     have aA:=m8 aP.1
     have:V b*((l+h+1) / 2)≤V b*1000000000:=Int.mul_le_mul_of_nonneg_left (by omega) (by omega)
     omega)
    rw [rV (jc _) aq (by omega),eg aj]
    simp only [Option.bind_some]
    by_cases bb:V b*((l+h+1) / 2)≤V r
    ·rw [if_pos (by simpa using Qa.2 bb),if_pos bb]
    ·rw [if_neg (fun h=>bb (Qa.1 (by simpa using h))),if_neg bb,cu (by omega) (by omega)]
   rw [e2]
   refine .inl ⟨_,rfl,?_⟩
   by_cases bb:V b*((l+h+1) / 2)≤V r
   ·rw [if_pos bb]
    have:(l+h+1) / 2≤V r / V b:=(Int.le_ediv_iff_mul_le jy).2 (by rw [Int.mul_comm];exact bb)
    exact ⟨⟨by simp only;omega,this,g2,g3⟩,by simp only;omega⟩
   ·rw [if_neg bb]
    have:V r / V b<(l+h+1) / 2:=(Int.ediv_lt_iff_lt_mul jy).2 (by rw [Int.mul_comm];omega)
    exact ⟨⟨g0,g1,by simp only;omega,by simp only;omega⟩,by simp only;omega⟩
  ·exact .inr ⟨l,by simp [tQ,dE],by omega⟩
 obtain ⟨q,a9,rfl⟩:=this
 exact a9
theorem D1 {b:List Int}(aP:fE b)(lb:b≠[]): ∃k d,b.length=k+1∧b[k]? = some d∧0<d∧d<1000000000∧V (b.drop k)=d:=by
 have aj:=List.length_pos_iff.mpr lb
 obtain ⟨x,J,h⟩:=OJ lb
 have h1:=h.1 aP
 have h2:=h1.1.get J
 exact ⟨b.length-1,x,by omega,J,by omega,h2.2,Ak J (by omega)⟩
theorem aaj {r b:List Int}(aq:fE r)(aP:fE b)(lb:b≠[])(a2:r.length≤1000000)(hm:b.length≤1000000)(h1:V b≤V r)(h2:V r<1000000000*V b):zF r b=some (V r / V b):=by
 obtain ⟨k,d,a5,bG,sk,EM,yJ⟩:=D1 aP lb
 have Rw:b.length≤r.length:=Nat.le_of_not_lt fun h=>by
  have:=DP aq aP h
  omega
 have Rx:r.length≤b.length+1:=aq.len.2 (by
  have:=m8 aP.1
  rw [l4]
  omega)
 have ti:=rc aP.1 (k:=k) (by omega)
 rw [yJ] at ti
 have hQ:=rc aq.1 (k:=k) (by omega)
 have J:=List.getElem?_eq_getElem (show k<r.length by omega)
 have kn:=aq.1.get J
 have hw:R ((b.length:Int)-1)=(k:Int):=by rw [cu (by omega) (by omega)];omega
 have mu:=mC (aq.1.drop k)
 have EN:=NW (oz k) hQ.1 hQ.2 ti.1 ti.2 sk mu h2
 have afO:=mC aq.1
 have hW:=s6 aP lb
 unfold zF
 simp only [fC,hw]
 rw [if_pos (by omega),Int.toNat_natCast,J]
 simp only [Option.bind_eq_bind,Option.bind_some]
 by_cases hlen:b.length<r.length
 ·have a0:=List.getElem?_eq_getElem hlen
  have oS:=aq.1.get a0
  have nI:V (r.drop (k+1))=r[b.length]:=by
   rw [← a5]
   exact Ak a0 (by omega)
  have ca:V (r.drop k)=r[k]+1000000000*r[b.length]:=by rw [oq J,nI]
  rw [ca] at EN mu
  have lQ:0≤(r[k]+1000000000*r[b.length]) / (d+1):=Int.ediv_nonneg mu (by omega)
  have n9:(r[k]+1000000000*r[b.length]) / (d+1)≤r[k]+1000000000*r[b.length]:=Int.ediv_le_self _ mu
  have yj:0≤(r[k]+1000000000*r[b.length]) / d:=Int.ediv_nonneg mu (by omega)
  have adA:(r[k]+1000000000*r[b.length]) / d≤r[k]+1000000000*r[b.length]:=Int.ediv_le_self _ mu
  rw [if_pos (by simp;omega),if_pos (by omega),Int.toNat_natCast,a0]
  simp only [Option.bind_some]
  rw [if_pos (by omega),bG]
  simp only [Option.bind_some]
  have e1:R (d+1)=d+1:=cu (by omega) (by omega)
  have e2:R (r[k]+R (r[b.length]*1000000000))=r[k]+1000000000*r[b.length]:=by
   rw [cu (x:=r[b.length]*1000000000) (by omega) (by omega),cu (by omega) (by omega),Int.mul_comm]
  rw [e1,if_pos (by omega),if_pos (by omega),e2,mY mu,mY mu,cu (by omega) (by omega),cu (x:=(r[k]+1000000000*r[b.length]) / d) (by omega) (by omega)]
  rw [OK aq aP lb a2 hm lQ EN.1 (by split<;>omega) (by split<;>omega)]
  rfl
 ·have ca:V (r.drop k)=r[k]:=Ak J (by omega)
  rw [ca] at EN mu
  have lQ:0≤r[k] / (d+1):=Int.ediv_nonneg mu (by omega)
  have n9:r[k] / (d+1)≤r[k]:=Int.ediv_le_self _ mu
  have yj:0≤r[k] / d:=Int.ediv_nonneg mu (by omega)
  have adA:r[k] / d≤r[k]:=Int.ediv_le_self _ mu
  rw [if_neg (by simp;omega),if_pos (by omega),bG]
  simp only [Option.bind_some]
  have e1:R (d+1)=d+1:=cu (by omega) (by omega)
  rw [e1,if_pos (by omega),if_pos (by omega),mY mu,mY mu,cu (by omega) (by omega),cu (x:=r[k] / d) (by omega) (by omega)]
  rw [OK aq aP lb a2 hm lQ EN.1 (by split<;>omega) (by split<;>omega)]
  rfl
theorem aak {a b:List Int}(bE:fE a)(aP:fE b)(lb:b≠[])(a2:a.length≤900000)(hm:b.length≤900000):
 ∃r,Jc a b [] ((a.length:Int)-1) (List.replicate a.length 0)=some r∧r.1=L (V a % V b)∧cl r.2∧r.2.length=a.length∧V r.2=V a / V b:=by
 have jy:=s6 aP lb
 refine jA (eL:=fun w:List Int×Int×List Int=> ∃(k:Nat) (q:List Int),w.2.1=(k:Int)-1∧k≤a.length∧w.2.2=List.replicate k 0++q∧q.length+k=a.length∧cl q∧fE w.1∧V w.1<V b∧V (a.drop k)=V q*V b+V w.1) (m:=fun w:List Int×Int×List Int=>(w.2.1+1).toNat) _ ?_ _ ⟨a.length,[],rfl,by omega,by simp,by simp,cl.nil,fE.nil,by simpa [V] using jy,by simp [V]⟩
 rintro ⟨rest,i,row⟩ ⟨k,q,h1,a5,h2,a9,pE,k9,hQ,bd⟩
 simp only at h1 h2 k9 hQ bd ⊢
 subst h1 h2
 have B0:=mC k9.1
 cases k with
 | zero =>
  simp at bd
  refine .inr ⟨(rest,q),by simp [wS],?_,pE,by simpa using a9,?_⟩
  ·refine ta k9 ?_
   rw [bd,Int.add_comm,Int.add_mul_emod_self_right]
   exact (Int.emod_eq_of_lt B0 hQ).symm
  ·rw [bd,Int.add_comm,Int.add_mul_ediv_right _ _ (by omega),Int.ediv_eq_zero_of_lt B0 hQ]
   simp
 | succ k =>
  have J:=List.getElem?_eq_getElem (show k<a.length by omega)
  have kn:=bE.1.get J
  have so:rest.length≤b.length:=k9.len.2 (by have:=m8 aP.1;omega)
  have iu:cl (a[k]::rest):=cl.cons kn k9.1
  have LJ:V (a[k]::rest)=a[k]+1000000000*V rest:=k2 _ _
  have oT:0≤a[k]+1000000000*V rest:=by omega
  have afP:(L (a[k]+1000000000*V rest)).length≤b.length+1:=(iX oT).2 (by
   have:=m8 aP.1
   rw [l4]
   omega)
  have bG:=oq J
  have KJ:wS a b rest (k:Int) (List.replicate (k+1) 0++q)=some (.inl (if a[k]+1000000000*V rest<V b then (L (a[k]+1000000000*V rest),(k:Int)-1,List.replicate (k+1) 0++q) else (L ((a[k]+1000000000*V rest) % V b),(k:Int)-1,(List.replicate (k+1) 0++q).set k ((a[k]+1000000000*V rest) / V b)))):=by
   unfold wS
   rw [if_pos (by simp),if_pos (by omega),Int.toNat_natCast,J]
   simp only [Option.bind_eq_bind,Option.bind_some,List.singleton_append]
   rw [if_pos (by simp;omega),rb iu (by simp;omega),LJ]
   simp only [Option.bind_some]
   rw [rV (jc _) aP (by omega),eg oT]
   simp only [Option.bind_some]
   by_cases bb:a[k]+1000000000*V rest<V b
   ·rw [if_pos (by simpa using sV.2 bb),if_pos bb,p6 (by omega)]
   ·rw [if_neg (fun h=>bb (sV.1 (by simpa using h))),if_neg bb]
    have dE:a[k]+1000000000*V rest<1000000000*V b:=by omega
    rw [aaj (jc _) aP lb (by omega) (by omega) (by rw [eg oT];omega) (by rw [eg oT];exact dE),eg oT]
    simp only [Option.bind_some]
    have lQ:0≤(a[k]+1000000000*V rest) / V b:=Int.ediv_nonneg oT (by omega)
    have n9:(a[k]+1000000000*V rest) / V b<1000000000:=Int.ediv_lt_of_lt_mul jy dE
    have afQ:(L ((a[k]+1000000000*V rest) / V b)).length≤1:=(iX lQ).2 (by simpa [B] using n9)
    have o8:=Int.mul_ediv_add_emod (a[k]+1000000000*V rest) (V b)
    have B1:=Int.emod_nonneg (a[k]+1000000000*V rest) (b:=V b) (by omega)
    have LM:0≤V b*((a[k]+1000000000*V rest) / V b):=Int.mul_nonneg (by omega) lQ
    rw [if_pos (by simp;omega),if_pos (by simp;omega),xF lQ (by omega)]
    simp only [Option.bind_some]
    rw [mul_eq aP.1 (gY _) (by omega) (by omega),eg lQ]
    simp only [Option.bind_some]
    rw [sub_eq (gY _) (gY _) ((iX LM).2 (by
     have:=m8 (gY (a[k]+1000000000*V rest))
     rw [eg oT] at this
     omega)) (by rw [eg oT,eg LM];omega) (by omega),eg oT,eg LM]
    simp only [Option.bind_some]
    rw [p6 (by omega),Nat.zero_add]
    congr 4
    omega
  rw [show ((k+1:Nat):Int)-1=k by omega,KJ]
  refine .inl ⟨_,rfl,?_⟩
  by_cases bb:a[k]+1000000000*V rest<V b
  ·rw [if_pos bb]
   refine ⟨⟨k,0::q,rfl,by omega,?_,by simp;omega,cl.cons (by omega) pE,jc _,by rw [eg oT];exact bb,?_⟩,by simp⟩
   ·simp only
    rw [List.replicate_succ',List.append_assoc];rfl
   ·simp only
    rw [bG,bd,k2,eg oT]
    grind
  ·rw [if_neg bb]
   have dE:a[k]+1000000000*V rest<1000000000*V b:=by omega
   have B1:=Int.emod_nonneg (a[k]+1000000000*V rest) (b:=V b) (by omega)
   refine ⟨⟨k,(a[k]+1000000000*V rest) / V b::q,rfl,by omega,Kh _ _ _,by simp;omega,cl.cons ⟨Int.ediv_nonneg oT (by omega),Int.ediv_lt_of_lt_mul jy dE⟩ pE,jc _,by rw [eg B1];exact Int.emod_lt_of_pos _ jy,?_⟩,by simp⟩
   simp only
   rw [bG,bd,k2,eg B1]
   have o8:=Int.mul_ediv_add_emod (a[k]+1000000000*V rest) (V b)
   generalize (a[k]+1000000000*V rest) / V b=u at *
   generalize (a[k]+1000000000*V rest) % V b=t at *
   grind
theorem div_eq {a b:List Int}(bE:fE a)(aP:fE b)(lb:b≠[])(a2:a.length≤900000)(hm:b.length≤900000):sL a b=some (L (V a / V b),L (V a % V b)):=by
 unfold sL
 simp only [fC]
 by_cases h1:b.length=1
 ·obtain ⟨k,d,a5,bG,sk,EM,yJ⟩:=D1 aP lb
  have sj:k=0:=by omega
  subst sj
  have LN:V b=d:=by simpa using yJ
  rw [if_pos (by simp [h1]),if_pos (by omega),bG]
  simp only [Option.bind_eq_bind,Option.bind_some]
  have o8:=Int.emod_nonneg (V a) (b:=d) (by omega)
  have B1:=Int.emod_lt_of_pos (V a) sk
  rw [aag bE.1 ⟨sk,EM⟩ (by omega)]
  simp only [Option.bind_some]
  rw [xF o8 (by omega),LN]
  rfl
 ·obtain ⟨r,aq,e1,e2,bR,c7⟩:=aak bE aP lb a2 hm
  rw [if_neg (by simp;omega),if_pos (by omega),p6 (by omega),Int.toNat_natCast,aq]
  simp only [Option.bind_eq_bind,Option.bind_some]
  rw [rb e2 (by omega),c7,e1]
  rfl
theorem PB {x y:Int}(J:0≤x):Int.gcd y (x % y)=Int.gcd x y:=by
 have:=Nat.gcd_rec y.natAbs x.natAbs
 simp only [Int.gcd]
 rw [Nat.gcd_comm x.natAbs,this,Int.natAbs_emod_of_nonneg J,Nat.gcd_comm]
theorem Qb {x:Int}(J:0≤x):(Int.gcd x 0:Int)=x:=by
 rw [Int.gcd_zero_right];omega
theorem aal {x y:Int}(J:0≤x)(a0:0≤y)(B2:x<9223372036854775808)(BX:y<9223372036854775808):zD x y=some (L (Int.gcd x y)):=by
 have : ∃r,iter (fun w:Int×Int=>wy w.1 w.2) (x,y)=some r∧(r=(Int.gcd x y:Int)∧r<9223372036854775808):=by
  refine jA (eL:=fun w:Int×Int=>0≤w.1∧0≤w.2∧w.1<9223372036854775808∧w.2<9223372036854775808∧Int.gcd w.1 w.2=Int.gcd x y) (m:=fun w:Int×Int=>w.2.toNat) _ ?_ _ ⟨J,a0,B2,BX,rfl⟩
  rintro ⟨u,v⟩ ⟨h1,h2,ab,au,aA⟩
  simp only at h1 h2 ab au aA
  by_cases bd:0<v
  ·have aW:=Int.emod_nonneg u (b:=v) (by omega)
   have a7:=Int.emod_lt_of_pos u bd
   refine .inl ⟨(v,u % v),?_,⟨h2,aW,au,by simp only;omega,by rw [← aA];exact PB h1⟩,by simp only;omega⟩
   unfold wy
   rw [if_pos (by simpa using bd),if_pos (by omega),pI h1]
  ·have adB:v=0:=by omega
   subst adB
   refine .inr ⟨u,by simp [wy],?_,ab⟩
   rw [← aA,Qb h1]
 obtain ⟨r,aq,rfl,h⟩:=this
 unfold zD IG
 rw [aq]
 simp only [Option.bind_eq_bind,Option.bind_some]
 rw [xF (by omega) h]
 rfl
theorem D2 {a:List Int}(bE:fE a)(h:a.length<3):V a<9223372036854775808:=by
 have h1:=m8 bE.1
 have h2:=qx (m:=a.length) (n:=2) (by omega)
 have ab:B 2=1000000000000000000:=by decide
 omega
theorem QE {a b:List Int}(bE:fE a)(aP:fE b)(a2:a.length≤900000)(hm:b.length≤900000):xo a b=some (L (Int.gcd (V a) (V b))):=by
 have : ∃r,iter (fun w:List Int×List Int=>tW w.1 w.2) (a,b)=some r∧r.elim id id=L (Int.gcd (V a) (V b)):=by
  refine jA (eL:=fun w:List Int×List Int=>fE w.1∧fE w.2∧w.1.length≤900000∧w.2.length≤900000∧Int.gcd (V w.1) (V w.2)=Int.gcd (V a) (V b)) (m:=fun w:List Int×List Int=>(V w.2).toNat) _ ?_ _ ⟨bE,aP,a2,hm,rfl⟩
  rintro ⟨x,y⟩ ⟨h1,h2,ab,au,aA⟩
  simp only at h1 h2 ab au aA ⊢
  have kn:=mC h1.1
  have oS:=mC h2.1
  by_cases a0:y=[]
  ·subst a0
   refine .inr ⟨.inl x,by simp [tW,fC],?_⟩
   rw [← aA,AU,Qb kn]
   exact (EG h1).symm
  ·have adC:=s6 h2 a0
   have afR:=List.length_pos_iff.mpr a0
   by_cases bX:x.length<3∧y.length<3
   ·refine .inr ⟨.inr (L (Int.gcd (V a) (V b))),?_,rfl⟩
    unfold tW
    simp only [fC]
    rw [if_pos (by simp;omega),if_pos (by simp;omega),if_pos (by simp;omega),Od h1 (by omega) (D2 h1 bX.1)]
    simp only [Option.bind_eq_bind,Option.bind_some]
    rw [Od h2 (by omega) (D2 h2 bX.2)]
    simp only [Option.bind_some]
    rw [aal kn oS (D2 h1 bX.1) (D2 h2 bX.2),aA]
    rfl
   ·have EO:=Int.emod_nonneg (V x) (b:=V y) (by omega)
    have afS:=Int.emod_lt_of_pos (V x) adC
    refine .inl ⟨(y,L (V x % V y)),?_,⟨h2,jc _,au,(iX EO).2 ?_,?_⟩,?_⟩
    ·unfold tW
     simp only [fC]
     rw [if_pos (by simp;omega),div_eq h1 h2 a0 ab au]
     by_cases vh:x.length<3
     ·rw [if_pos (by simp;omega),if_neg (by simp;omega)]
      rfl
     ·rw [if_neg (by simp;omega)]
      rfl
    ·have:=m8 h2.1
     have:=qx au
     omega
    ·simp only
     rw [eg EO,← aA]
     exact PB kn
    ·simp only
     rw [eg EO]
     omega
 obtain ⟨r,aq,h⟩:=this
 unfold xo Jd
 rw [List.nil_append,List.nil_append,if_pos (by omega),if_pos (by omega),aq]
 cases r with
 | inl r=>exact congrArg some h
 | inr r=>exact congrArg some h
def oL (p:Nat)(l:List Int):Prop:= ∀i z,i≠p→l[i]? = some z→0≤z∧z<1000000000
theorem oL.set {p:Nat}{l:List Int}(h:oL p l){k:Nat}{x:Int}(J:0≤x∧x<1000000000):oL p (l.set k x):=fun i z an cp=>by
 by_cases a5:k=i
 ·subst a5
  rw [List.getElem?_set] at cp
  simp only [if_true] at cp
  split at cp
  ·rw [← Option.some.inj cp];exact J
  ·simp at cp
 ·rw [List.getElem?_set_ne a5] at cp
  exact h i z an cp
theorem oL.Rl {p:Nat}{l:List Int}(h:oL p l){x:Int}:oL p (l.set p x):=fun i z an cp=>by
 rw [List.getElem?_set_ne (fun h=>an h.symm)] at cp
 exact h i z an cp
theorem cl.toE {l:List Int}(h:cl l)(p:Nat):oL p l:=fun _ _ _ cp=>h.get cp
theorem Zo {v row:List Int}{bS mI i:Nat}{iP carry x y:Int}(J:v[i]? = some x)(a0:row[bS+i]? = some y)(kn:0≤x∧x<1000000000)(oS:0≤y∧y<1000000000)(aP:0≤iP∧iP<1000000000)(bb:0≤carry∧carry<1000000000)(hu:i<mI)(a2:row.length≤5000000):
 ∃c z,tX bS mI v iP v.length carry i row=some (.inl (c,((i+1:Nat):Int),row.set (bS+i) z))∧0≤c∧c<1000000000∧0≤z∧z<1000000000∧z-1000000000*c=y-iP*x-carry:=by
 have an:=fO J
 have aD:=fO a0
 obtain ⟨ij,hc⟩:=AH aP kn
 have e:R (R (y-R (iP*x))-carry)=y-iP*x-carry:=by
  rw [cu (x:=iP*x) (by omega) (by omega),cu (x:=y-iP*x) (by omega) (by omega),cu (by omega) (by omega)]
 by_cases ca:y-iP*x-carry<0
 ·refine ⟨(999999999-(y-iP*x-carry)) / 1000000000,y-iP*x-carry+(999999999-(y-iP*x-carry)) / 1000000000*1000000000,?_,by omega,by omega,by omega,by omega,by omega⟩
  unfold tX
  rw [if_pos (by simp;omega),if_pos (by omega),Int.toNat_natCast,J]
  simp only [Option.bind_eq_bind,Option.bind_some]
  rw [if_pos (by omega),a0]
  simp only [Option.bind_some,e]
  rw [if_pos (by simpa using ca),if_pos (by omega),nx (n:=i) (by omega),cu (x:=999999999-(y-iP*x-carry)) (by omega) (by omega),mY (by omega),cu (x:=(999999999-(y-iP*x-carry)) / 1000000000) (by omega) (by omega),cu (x:=(999999999-(y-iP*x-carry)) / 1000000000*1000000000) (by omega) (by omega),cu (by omega) (by omega)]
 ·refine ⟨0,y-iP*x-carry,?_,by omega,by omega,by omega,by omega,by omega⟩
  unfold tX
  rw [if_pos (by simp;omega),if_pos (by omega),Int.toNat_natCast,J]
  simp only [Option.bind_eq_bind,Option.bind_some]
  rw [if_pos (by omega),a0]
  simp only [Option.bind_some,e]
  rw [if_neg (by simpa using ca),if_pos (by omega),nx (n:=i) (by omega)]
theorem Zp {v row:List Int}{bS mI:Nat}{iP:Int}(bd:cl v)(aq:cl row)(aP:0≤iP∧iP<1000000000)(hu:v.length<mI)(aU:bS+v.length<row.length)(a2:row.length≤5000000):
 ∃r,Jf bS mI v iP v.length 0 0 row=some r∧0≤r.1∧r.1<1000000000∧cl r.2∧r.2.length=row.length∧V r.2=V row-iP*B bS*V v+r.1*B (bS+v.length)∧ ∀i,i<bS∨bS+v.length≤i→r.2[i]? = row[i]? := by
 refine jA (eL:=fun w:Int×Int×List Int=> ∃(i:Nat),w.2.1=(i:Int)∧i≤v.length∧0≤w.1∧w.1<1000000000∧cl w.2.2∧w.2.2.length=row.length∧V w.2.2=V row-iP*B bS*V (v.take i)+w.1*B (bS+i)∧ ∀i,i<bS∨bS+v.length≤i→w.2.2[i]? = row[i]?) (m:=fun w:Int×Int×List Int=>v.length-w.2.1.toNat) _ ?_ _ ⟨0,rfl,by omega,by simp,by simp,aq,rfl,by simp [V],fun _ _=>rfl⟩
 rintro ⟨carry,ii,fD⟩ ⟨i,h1,an,mn,mP,kc,hlen,hV,k5⟩
 simp only at h1 mn mP kc hlen hV k5 ⊢
 subst h1
 by_cases LO:i=v.length
 ·subst LO
  exact .inr ⟨(carry,fD),by simp [tX],mn,mP,kc,hlen,by simpa using hV,k5⟩
 ·have J:=List.getElem?_eq_getElem (show i<v.length by omega)
  have a0:=List.getElem?_eq_getElem (show bS+i<fD.length by omega)
  obtain ⟨c,z,he,da,br,eZ,Ck,cp⟩:=Zo (mI:=mI) J a0 (bd.get J) (kc.get a0) aP ⟨mn,mP⟩ (by omega) (by omega)
  rw [he]
  refine .inl ⟨_,rfl,⟨i+1,rfl,by omega,da,br,kc.set ⟨eZ,Ck⟩,by simpa using hlen,?_,fun k a5=> ?_⟩,by simp;omega⟩
  ·simp only
   rw [rm a0,rS J,hV,← Nat.add_assoc,l4,AS]
   have u5:z=fD[bS+i]-iP*v[i]-carry+1000000000*c:=by omega
   rw [u5]
   grind
  ·simp only
   rw [List.getElem?_set_ne (by omega)]
   exact k5 k a5
theorem abv {v row:List Int}{bS mI:Nat}{iP:Int}(bd:cl v)(aq:cl row)(aP:0≤iP∧iP<1000000000)(hu:v.length<mI)(aU:bS+v.length<row.length)(a2:row.length≤5000000):
 ∃y dV,z3 v iP bS mI row=some (decide (y<0),dV)∧dV.length=row.length∧oL (bS+v.length) dV∧dV[bS+v.length]? = some y∧ -1000000000<y∧y<1000000000∧V dV=V row-iP*B bS*V v∧ ∀i,i<bS∨bS+v.length<i→dV[i]? = row[i]? := by
 obtain ⟨r,hQ,da,br,kc,hlen,hV,k5⟩:=Zp bd aq aP hu aU a2
 have J:=List.getElem?_eq_getElem (show bS+v.length<r.2.length by omega)
 have kn:=kc.get J
 refine ⟨r.2[bS+v.length]-r.1,r.2.set (bS+v.length) (r.2[bS+v.length]-r.1),?_,by simpa using hlen,(cl.toE kc _).Rl,?_,by omega,by omega,?_,fun i an=> ?_⟩
 ·unfold z3
  simp only [fC]
  rw [hQ]
  simp only [Option.bind_eq_bind,Option.bind_some,Int.toNat_natCast]
  rw [if_pos (by omega),J]
  simp only [Option.bind_some]
  rw [if_pos (by omega),cu (by omega) (by omega),List.getElem?_set,if_pos rfl,if_pos (by omega)]
  rfl
 ·rw [List.getElem?_set,if_pos rfl,if_pos (by omega)]
 ·rw [rm J,hV]
  grind
 ·rw [List.getElem?_set_ne (by omega)]
  exact k5 i (by omega)
theorem Zq {v row:List Int}{bS mI:Nat}(bd:cl v)(aq:oL (bS+v.length) row)(hu:v.length<mI)(aU:bS+v.length<row.length)(a2:row.length≤5000000):
 ∃r,Jg bS mI v v.length 0 0 row=some r∧0≤r.1∧r.1≤1∧oL (bS+v.length) r.2∧r.2.length=row.length∧V r.2=V row+B bS*V v-r.1*B (bS+v.length)∧ ∀i,i<bS∨bS+v.length≤i→r.2[i]? = row[i]? := by
 refine jA (eL:=fun w:Int×Int×List Int=> ∃(i:Nat),w.2.1=(i:Int)∧i≤v.length∧0≤w.1∧w.1≤1∧oL (bS+v.length) w.2.2∧w.2.2.length=row.length∧V w.2.2=V row+B bS*V (v.take i)-w.1*B (bS+i)∧ ∀i,i<bS∨bS+v.length≤i→w.2.2[i]? = row[i]?) (m:=fun w:Int×Int×List Int=>v.length-w.2.1.toNat) _ ?_ _ ⟨0,rfl,by omega,by simp,by simp,aq,rfl,by simp [V],fun _ _=>rfl⟩
 rintro ⟨carry,ii,fD⟩ ⟨i,h1,an,mn,mP,kc,hlen,hV,k5⟩
 simp only at h1 mn mP kc hlen hV k5 ⊢
 subst h1
 by_cases LO:i=v.length
 ·subst LO
  exact .inr ⟨(carry,fD),by simp [wV],mn,mP,kc,hlen,by simpa using hV,k5⟩
 ·have J:=List.getElem?_eq_getElem (show i<v.length by omega)
  have a0:=List.getElem?_eq_getElem (show bS+i<fD.length by omega)
  have kn:=bd.get J
  have oS:=kc _ _ (by omega) a0
  have he:wV bS mI v v.length carry i fD=some (.inl ((fD[bS+i]+v[i]+carry) / 1000000000,((i+1:Nat):Int),fD.set (bS+i) ((fD[bS+i]+v[i]+carry) % 1000000000))):=by
   unfold wV
   rw [if_pos (by simp;omega),if_pos (by omega),Int.toNat_natCast,J]
   simp only [Option.bind_eq_bind,Option.bind_some]
   rw [if_pos (by omega),a0]
   simp only [Option.bind_some]
   rw [if_pos (by omega),cu (x:=fD[bS+i]+v[i]) (by omega) (by omega),cu (x:=fD[bS+i]+v[i]+carry) (by omega) (by omega),pI (by omega),mY (by omega),cu (by omega) (by omega),nx (n:=i) (by omega)]
  rw [he]
  refine .inl ⟨_,rfl,⟨i+1,rfl,by omega,by simp only;omega,by simp only;omega,kc.set (by omega),by simpa using hlen,?_,fun k a5=> ?_⟩,by simp;omega⟩
  ·simp only
   rw [rm a0,rS J,hV,← Nat.add_assoc,l4,AS]
   have:=Int.mul_ediv_add_emod (fD[bS+i]+v[i]+carry) 1000000000
   generalize (fD[bS+i]+v[i]+carry) / 1000000000=q at *
   generalize (fD[bS+i]+v[i]+carry) % 1000000000=t at *
   have u5:t=fD[bS+i]+v[i]+carry-1000000000*q:=by omega
   rw [u5]
   grind
  ·simp only
   rw [List.getElem?_set_ne (by omega)]
   exact k5 k a5
theorem abw {v row:List Int}{bS mI:Nat}{y:Int}(bd:cl v)(aq:oL (bS+v.length) row)(hu:v.length<mI)(aU:bS+v.length<row.length)(a2:row.length≤5000000)(a0:row[bS+v.length]? = some y)(oS:-1000000000<y)(BX:y<1000000000):
 ∃lW dV,xq v bS mI row=some dV∧dV.length=row.length∧oL (bS+v.length) dV∧dV[bS+v.length]? = some lW∧V dV=V row+B bS*V v∧ ∀i,i<bS∨bS+v.length<i→dV[i]? = row[i]? := by
 obtain ⟨r,hQ,da,br,kc,hlen,hV,k5⟩:=Zq bd aq hu aU a2
 have J:r.2[bS+v.length]? = some y:=by rw [k5 _ (by omega)];exact a0
 refine ⟨y+r.1,r.2.set (bS+v.length) (y+r.1),?_,by simpa using hlen,kc.Rl,?_,?_,fun i an=> ?_⟩
 ·unfold xq
  simp only [fC]
  rw [hQ]
  simp only [Option.bind_eq_bind,Option.bind_some,Int.toNat_natCast]
  rw [if_pos (by omega),J]
  simp only [Option.bind_some]
  rw [if_pos (by omega),cu (by omega) (by omega)]
 ·rw [List.getElem?_set,if_pos rfl,if_pos (by omega)]
 ·rw [rm J,hV]
  grind
 ·rw [List.getElem?_set_ne (by omega)]
  exact k5 i (by omega)
theorem aam {g q v1 v2 top gL rest aR W P:Int}(hf:1≤P)(dF:0≤g)(ca:g*v1+rest=top)(tu:P*(v1*1000000000+v2)≤W)(LK:aR<P*(top*1000000000+gL+1))(R5:q*W≤aR)(hW:0≤W)(h:rest*1000000000+gL<g*v2):q<g:=by
 apply Int.not_le.mp
 intro tv
 have h1:g*W≤q*W:=Int.mul_le_mul_of_nonneg_right tv hW
 have h2:g*(P*(v1*1000000000+v2))≤g*W:=Int.mul_le_mul_of_nonneg_left tu dF
 have ab:g*(P*(v1*1000000000+v2))=P*(g*(v1*1000000000+v2)):=by grind
 have au:P*(g*(v1*1000000000+v2))<P*(top*1000000000+gL+1):=by omega
 have aA:=Int.lt_of_mul_lt_mul_left au (by omega)
 have aW:g*(v1*1000000000+v2)=1000000000*(g*v1)+g*v2:=by grind
 omega
theorem O6 {g v1 v2 top gL rest aR W P:Int}(hf:1≤P)(dF:0≤g)(tw:g≤999999999)(sq:1≤v1)(B3:0≤v2)(ca:g*v1+rest=top)(tu:P*(v1*1000000000+v2)≤W)(EL:W<P*(v1*1000000000+v2+1))(EK:P*(top*1000000000+gL)≤aR)(h:g*v2≤rest*1000000000+gL):g≤aR / W+1:=by
 have B4:P*1000000000≤W:=by
  have h1:P*1000000000≤P*(v1*1000000000+v2):=Int.mul_le_mul_of_nonneg_left (by omega) (by omega)
  omega
 have h1:g*W≤g*(P*(v1*1000000000+v2+1)):=Int.mul_le_mul_of_nonneg_left (by omega) dF
 have h2:g*(P*(v1*1000000000+v2+1))=P*(1000000000*(g*v1)+g*v2+g):=by grind
 have ab:P*(1000000000*(g*v1)+g*v2+g)≤P*(top*1000000000+gL+999999999):=Int.mul_le_mul_of_nonneg_left (by omega) (by omega)
 have au:P*(top*1000000000+gL+999999999)=P*(top*1000000000+gL)+P*999999999:=by grind
 have aA:(g-1)*W=g*W-W:=by grind
 have:g-1≤aR / W:=(Int.le_ediv_iff_mul_le (by omega)).2 (by omega)
 omega
theorem YM {aa u iA ai:List Int}{N n j:Nat}{v1 v2 gL top aR W P:Int}(a2:2≤n)(Et:n≤5000000)(B5:j+n<N)(fN:N≤5000000)(h1:iA[n-1]? = some v1)(h2:iA[n-2]? = some v2)(ab:u[j+n-2]? = some gL)
 (sq:1≤v1∧v1<1000000000) (B3:0≤v2∧v2<1000000000) (afT:0≤gL∧gL<1000000000) (hf:1≤P) (tu:P*(v1*1000000000+v2)≤W) (EL:W<P*(v1*1000000000+v2+1)) (EK:P*(top*1000000000+gL)≤aR) (LK:aR<P*(top*1000000000+gL+1)) (cV:0≤aR) (LL:aR<1000000000*W) (mu:0≤top) (afU:top≤v1*1000000000+999999999) (a9:aR / W≤top / v1) :
 ∃g,Ju N n n j aa u iA ai (top / v1) (top % v1)=some g∧(aR / W=g∨aR / W+1=g)∧0≤g∧g≤999999999:=by
 have B4:0<W:=by
  have h1:P*1000000000≤P*(v1*1000000000+v2):=Int.mul_le_mul_of_nonneg_left (by omega) (by omega)
  omega
 have lQ:0≤aR / W:=Int.ediv_nonneg cV (by omega)
 have n9:aR / W<1000000000:=Int.ediv_lt_of_lt_mul B4 LL
 have R5:aR / W*W≤aR:=Int.ediv_mul_le _ (by omega)
 have adE:=Int.mul_ediv_add_emod top v1
 have nG:=Int.emod_nonneg top (b:=v1) (by omega)
 have o8:=Int.emod_lt_of_pos top (b:=v1) (by omega)
 have K0:R ((n:Int)-1)=((n-1:Nat):Int):=by rw [cu (by omega) (by omega)];omega
 have acv:R ((n:Int)-2)=((n-2:Nat):Int):=by rw [cu (by omega) (by omega)];omega
 have acw:R (R ((j:Int)+(n:Int))-2)=((j+n-2:Nat):Int):=by rw [cu (x:=(j:Int)+n) (by omega) (by omega),cu (by omega) (by omega)];omega
 have Ej:top / v1≤top:=Int.ediv_le_self _ mu
 refine jA (eL:=fun w:Int×Int=>w.1*v1+w.2=top∧0≤w.2∧w.2<1000000000∧aR / W≤w.1∧w.1≤top) (m:=fun w:Int×Int=>w.1.toNat) _ ?_ _ ⟨by rw [Int.mul_comm];exact adE,nG,by simp only;omega,a9,Ej⟩
 rintro ⟨g,rest⟩ ⟨i1,i2,Mh,Ce,aek⟩
 simp only at i1 i2 Mh Ce aek ⊢
 have LP:R (rest+v1)=rest+v1:=cu (by omega) (by omega)
 have LQ:R (g-1)=g-1:=cu (by omega) (by omega)
 have tw:(g-1)*v1+(rest+v1)=top:=by grind
 have QF:aR / W≤g-1→1000000000≤rest+v1→(aR / W=g-1∨aR / W+1=g-1)∧0≤g-1∧g-1≤999999999:=by
  intro mU li
  have qj:(g-1)*v1<1000000000*v1:=by omega
  have Mi:g-1<1000000000:=Int.lt_of_mul_lt_mul_right qj (by omega)
  have SI:0≤g-1:=by omega
  have agq:=(AH ⟨SI,Mi⟩ B3).2
  have:=O6 hf SI (by omega) sq.1 B3.1 tw tu EL EK (by omega)
  omega
 by_cases K1:1000000000≤g
 ·by_cases aP:1000000000≤rest+v1
  ·refine .inr ⟨g-1,?_,QF (by omega) aP⟩
   unfold t0
   rw [if_pos (by simpa using K1),K0,if_pos (by omega),Nat.zero_add,Int.toNat_natCast,h1]
   simp only [Option.bind_eq_bind,Option.bind_some,LP,LQ]
   rw [if_pos (by simpa using aP)]
  ·refine .inl ⟨(g-1,rest+v1),?_,⟨tw,by simp only;omega,by simp only;omega,by simp only;omega,by simp only;omega⟩,by simp only;omega⟩
   unfold t0
   rw [if_pos (by simpa using K1),K0,if_pos (by omega),Nat.zero_add,Int.toNat_natCast,h1]
   simp only [Option.bind_eq_bind,Option.bind_some,LP,LQ]
   rw [if_neg (by simpa using aP)]
 ·have i4:0≤g:=by omega
  obtain ⟨ij,hc⟩:=AH ⟨i4,by omega⟩ B3
  have e1:R (R (rest*1000000000)+gL)=rest*1000000000+gL:=by rw [cu (x:=rest*1000000000) (by omega) (by omega),cu (by omega) (by omega)]
  have e2:R (g*v2)=g*v2:=cu (by omega) (by omega)
  have KJ:t0 N n n j aa u iA ai g rest=some (if rest*1000000000+gL<g*v2 then (if 1000000000≤rest+v1 then .inr (g-1) else .inl (g-1,rest+v1)) else .inr g):=by
   unfold t0
   rw [if_neg (by simpa using K1),acv,if_pos (by omega),Nat.zero_add,Int.toNat_natCast,h2]
   simp only [Option.bind_eq_bind,Option.bind_some]
   rw [acw,if_pos (by omega),Nat.zero_add,Int.toNat_natCast,ab]
   simp only [Option.bind_some,e1,e2]
   by_cases bb:rest*1000000000+gL<g*v2
   ·rw [if_pos (by simpa using bb),if_pos bb,K0,if_pos (by omega),Nat.zero_add,Int.toNat_natCast,h1]
    simp only [Option.bind_some,LP,LQ]
    by_cases aP:1000000000≤rest+v1
    ·rw [if_pos (by simpa using aP),if_pos aP]
    ·rw [if_neg (by simpa using aP),if_neg aP]
   ·rw [if_neg (by simpa using bb),if_neg bb]
  rw [KJ]
  by_cases bb:rest*1000000000+gL<g*v2
  ·have afV:=aam hf i4 i1 tu LK R5 (by omega) bb
   rw [if_pos bb]
   by_cases aP:1000000000≤rest+v1
   ·rw [if_pos aP]
    exact .inr ⟨g-1,rfl,QF (by omega) aP⟩
   ·rw [if_neg aP]
    exact .inl ⟨(g-1,rest+v1),rfl,⟨tw,by simp only;omega,by simp only;omega,by simp only;omega,by simp only;omega⟩,by simp only;omega⟩
  ·rw [if_neg bb]
   have:=O6 hf i4 (by omega) sq.1 B3.1 i1 tu EL EK (by omega)
   exact .inr ⟨g,rfl,by omega,by omega,by omega⟩
theorem Zr {a b:List Int}{k:Nat}(h:∀i,k≤i→a[i]? = b[i]?):a.drop k=b.drop k:=by
 apply List.ext_getElem?
 intro i
 rw [List.getElem?_drop,List.getElem?_drop]
 exact h _ (by omega)
theorem Zs {a b:List Int}{k:Nat}(h:∀i,i<k→a[i]? = b[i]?):a.take k=b.take k:=by
 apply List.ext_getElem?
 intro i
 rw [List.getElem?_take,List.getElem?_take]
 by_cases an:i<k
 ·rw [if_pos an,if_pos an];exact h i an
 ·rw [if_neg an,if_neg an]
theorem R6 {u w:List Int}{j n:Nat}{y c:Int}(hlen:w.length=u.length)(B5:j+n<u.length)(ej:oL (j+n) w)(a0:w[j+n]? = some y)(k5:∀i,i<j∨j+n<i→w[i]? = u[i]?)(h0:V (u.drop (j+n+1))=0)(hV:V w=V u-c*B j):
 V (w.drop j)=V (u.drop j)-c∧ ∃low,0≤low∧low<B n∧V (w.drop j)=low+B n*y:=by
 have h1:=uG (l:=u) (n:=j) (by omega)
 have h2:=uG (l:=w) (n:=j) (by omega)
 rw [Zs (a:=w) (b:=u) (fun i an=>k5 i (.inl an))] at h2
 have ab:B j*V (w.drop j)=B j*(V (u.drop j)-c):=by grind
 have gW:=oz j
 have au:V (w.drop j)=V (u.drop j)-c:=Int.eq_of_mul_eq_mul_left (by omega) ab
 refine ⟨au,V ((w.drop j).take n),?_,?_,?_⟩
 ·refine mC (fun x J=> ?_)
  obtain ⟨i,an⟩:=List.mem_iff_getElem?.mp J
  have lR:=fO an
  simp at lR
  rw [List.getElem?_take,if_pos (by omega),List.getElem?_drop] at an
  exact ej _ _ (by omega) an
 ·have aU:cl ((w.drop j).take n):=fun x J=>by
   obtain ⟨i,an⟩:=List.mem_iff_getElem?.mp J
   have lR:=fO an
   simp at lR
   rw [List.getElem?_take,if_pos (by omega),List.getElem?_drop] at an
   exact ej _ _ (by omega) an
  have:=m8 aU
  rwa [List.length_take,Nat.min_eq_left (by simp;omega)] at this
 ·have aA:=uG (l:=w.drop j) (n:=n) (by simp;omega)
  rw [List.drop_drop,oq a0,Zr (a:=w) (b:=u) (k:=j+n+1) (fun i an=>k5 i (.inr (by omega))),h0] at aA
  rw [aA]
  grind
theorem O7 {w:List Int}{p:Nat}(ej:oL p w)(a0:w[p]? = some 0):cl w:=fun x J=>by
 obtain ⟨i,an⟩:=List.mem_iff_getElem?.mp J
 by_cases h:i=p
 ·subst h
  rw [a0] at an
  have:=Option.some.inj an
  omega
 ·exact ej i x h an
theorem PC {low y X vA W:Int}(h0:0≤low)(h1:low<vA)(E4:X=low+vA*y)(h2:0≤X)(ab:X<W)(au:W≤vA):y=0:=by
 have dE:vA*y<vA*1:=by omega
 have aA:=Int.lt_of_mul_lt_mul_left dE (by omega)
 have EA:vA*(-1)<vA*y:=by omega
 have aW:=Int.lt_of_mul_lt_mul_left EA (by omega)
 omega
theorem Zt {aa u iA ai:List Int}{n j:Nat}{v1 W:Int}(a2:2≤n)(LR:n≤iA.length)(bd:cl (iA.take n))(hW:V (iA.take n)=W)(sq:iA[n-1]? = some v1)(K2:1≤v1)(hu:cl u)(vi:u.length≤5000000)(B5:j+n<u.length)(dE:V (u.drop (j+1))<W)(afW:j<ai.length):
 ∃pH,ua u.length n n aa iA j u ai=some (.inl ((j:Int)-1,pH,ai.set j (V (u.drop j) / W)))∧cl pH∧pH.length=u.length∧V pH=V u-(V (u.drop j) / W)*B j*W∧V (pH.drop j)<W∧0≤V (u.drop j) / W∧V (u.drop j) / W<1000000000:=by
 obtain ⟨n,rfl⟩ : ∃m,n=m+2:=⟨n-2,by omega⟩
 have pv:(iA.take (n+2)).length=n+2:=by simp;omega
 have tw:(iA.take (n+2))[n+1]? = some v1:=by rw [List.getElem?_take,if_pos (by omega)];exact sq
 have R7:=List.getElem?_eq_getElem (show n<iA.length by omega)
 have Rm:(iA.take (n+2))[n]? = some iA[n]:=by rw [List.getElem?_take,if_pos (by omega)];exact R7
 have acx:=bd.get tw
 have acy:=bd.get Rm
 have kn:=List.getElem?_eq_getElem (show j+(n+2)<u.length by omega)
 have B2:=List.getElem?_eq_getElem (show j+(n+1)<u.length by omega)
 have BD:=List.getElem?_eq_getElem (show j+n<u.length by omega)
 have R8:=List.getElem?_eq_getElem (show j<u.length by omega)
 have lb:=hu.get kn
 have ti:=hu.get B2
 have Ln:=hu.get BD
 have afX:=hu.get R8
 have B6:=rc bd (k:=n+1) (by omega)
 rw [Ak tw (by omega),hW] at B6
 have LS:=rc bd (k:=n) (by omega)
 rw [oq Rm,Ak tw (by omega),hW] at LS
 have K3:=m8 bd
 rw [pv,hW] at K3
 have afY:0≤W:=by rw [← hW];exact mC bd
 have cp:=rc (hu.drop (j+1)) (k:=n+2) (by simp;omega)
 rw [List.drop_drop] at cp
 have adF:=mC (hu.drop (j+1+(n+2)))
 have afZ:=oz (n+2)
 have h0:V (u.drop (j+(n+2)+1))=0:=by
  rw [show j+(n+2)+1=j+1+(n+2) by omega]
  apply Int.le_antisymm _ adF
  apply Int.not_lt.mp
  intro h
  have:B (n+2)*1≤B (n+2)*V (u.drop (j+1+(n+2))):=Int.mul_le_mul_of_nonneg_left (by omega) (by omega)
  omega
 have mu:V (u.drop (j+(n+2)))=u[j+(n+2)]:=by rw [oq kn,h0];omega
 have Ej:V (u.drop (j+(n+1)))=u[j+(n+1)]+1000000000*u[j+(n+2)]:=by rw [oq B2,show j+(n+1)+1=j+(n+2) by omega,mu]
 have iJ:V (u.drop (j+n))=u[j+n]+1000000000*(u[j+(n+1)]+1000000000*u[j+(n+2)]):=by rw [oq BD,show j+n+1=j+(n+1) by omega,Ej]
 have hQ:=rc (hu.drop j) (k:=n+1) (by simp;omega)
 rw [List.drop_drop,Ej] at hQ
 have vj:=rc (hu.drop j) (k:=n) (by simp;omega)
 rw [List.drop_drop,iJ] at vj
 have oT:=mC (hu.drop j)
 have cV:V (u.drop j)<1000000000*W:=by rw [oq R8];omega
 have adG:=oz n
 have acz:=oz (n+1)
 have u4:u[j+(n+2)]≤v1:=by
  have h1:=rc (hu.drop (j+1)) (k:=n+1) (by simp;omega)
  rw [List.drop_drop,show j+1+(n+1)=j+(n+2) by omega,mu] at h1
  have h2:B (n+1)*u[j+(n+2)]<B (n+1)*(v1+1):=by omega
  have:=Int.lt_of_mul_lt_mul_left h2 (by omega)
  omega
 have acA:=NW acz hQ.1 hQ.2 B6.1 B6.2 (by omega) (by omega) cV
 obtain ⟨g,dF,tv,adH,af0⟩:=YM (aa:=aa) (ai:=ai) (N:=u.length) (n:=n+2) (j:=j) (v1:=v1) (v2:=iA[n]) (gL:=u[j+n]) (top:=u[j+(n+1)]+1000000000*u[j+(n+2)]) (aR:=V (u.drop j)) (W:=W) (P:=B n) (u:=u) (iA:=iA) (by omega) (by omega) B5 vi sq R7 BD ⟨K2,acx.2⟩ acy Ln adG
  (by rw [Int.mul_comm v1,Int.add_comm];exact LS.1) (by rw [Int.mul_comm v1,Int.add_comm (1000000000*v1)];exact LS.2)
  (by rw [Int.mul_comm (u[j+(n+1)]+_),Int.add_comm];exact vj.1) (by rw [Int.mul_comm (u[j+(n+1)]+_),Int.add_comm (1000000000*_) u[j+n]];exact vj.2) oT cV (by omega) (by omega) acA.2.1
 have B4:0<W:=by
  have:B (n+1)*1≤B (n+1)*v1:=Int.mul_le_mul_of_nonneg_left (by omega) (by omega)
  omega
 have lQ:0≤V (u.drop j) / W:=Int.ediv_nonneg oT (by omega)
 have n9:V (u.drop j) / W<1000000000:=Int.ediv_lt_of_lt_mul B4 cV
 have hm:=Int.mul_ediv_add_emod (V (u.drop j)) W
 have nG:=Int.emod_nonneg (V (u.drop j)) (b:=W) (by omega)
 have o8:=Int.emod_lt_of_pos (V (u.drop j)) B4
 obtain ⟨y,w,ca,R9,EP,EQ,oS,BX,ER,Ku⟩:=abv (v:=iA.take (n+2)) (row:=u) (bS:=j) (mI:=u.length-j) (iP:=g) bd hu ⟨adH,by omega⟩ (by omega) (by omega) vi
 rw [pv] at EP EQ Ku
 rw [hW] at ER
 obtain ⟨vh,low,nf,ES,si⟩:=R6 (c:=g*W) R9 B5 EP EQ Ku h0 (by rw [ER];grind)
 have adI:R ((j:Int)-1)=(j:Int)-1:=p6 (by omega)
 have e1:R ((j:Int)+((n+2:Nat):Int))=((j+(n+2):Nat):Int):=by rw [cu (by omega) (by omega)];omega
 have e2:R (((j+(n+2):Nat):Int)-1)=((j+(n+1):Nat):Int):=by rw [cu (by omega) (by omega)];omega
 have bR:R (((n+2:Nat):Int)-1)=((n+1:Nat):Int):=by rw [cu (by omega) (by omega)];omega
 have c7:R (R (u[j+(n+2)]*1000000000)+u[j+(n+1)])=u[j+(n+1)]+1000000000*u[j+(n+2)]:=by
  rw [cu (x:=u[j+(n+2)]*1000000000) (by omega) (by omega),cu (by omega) (by omega)];omega
 have dh:0≤u[j+(n+1)]+1000000000*u[j+(n+2)]:=by omega
 have dS:(u[j+(n+1)]+1000000000*u[j+(n+2)]) / v1≤u[j+(n+1)]+1000000000*u[j+(n+2)]:=Int.ediv_le_self _ dh
 have eF:0≤(u[j+(n+1)]+1000000000*u[j+(n+2)]) / v1:=Int.ediv_nonneg dh (by omega)
 have acB:iA[n+1]? = some v1:=sq
 have pre:ua u.length (n+2) ((n+2:Nat):Int) aa iA j u ai =
  (if (decide (y<0))=true then
    xq (iA.take (n+2)) j (u.length-j) w >>= fun jj=>some (.inl ((j:Int)-1,jj,ai.set j (R (g-1))))
  else some (.inl ((j:Int)-1,w,ai.set j g))):=by
  unfold ua
  rw [if_pos (by simp)]
  simp only [e1,e2,bR,Int.toNat_natCast,Nat.zero_add,adI]
  rw [if_pos (by omega),kn]
  simp only [Option.bind_eq_bind,Option.bind_some]
  rw [if_pos (by omega),B2]
  simp only [Option.bind_some]
  rw [if_pos (by omega),acB]
  simp only [Option.bind_some]
  rw [if_pos (by omega),c7,mY dh,pI dh,cu (by omega) (by omega),dF]
  simp only [Option.bind_some]
  rw [if_pos (by omega),if_pos (by omega),if_pos (by omega),List.drop_zero,ca]
  simp only [Option.bind_some]
  by_cases a0:y<0
  ·have bG:(decide (y<0))=true:=by simpa using a0
   simp only [if_pos bG]
   congr 1
   funext r
   rw [if_pos (by omega),if_pos (by omega)]
  ·have bG : ¬(decide (y<0))=true:=by simpa using a0
   simp only [if_neg bG]
   rw [if_pos (by omega),if_pos (by omega)]
 rcases tv with tv|tv
 ·subst tv
  have E4:V (w.drop j)=V (u.drop j) % W:=by rw [vh];grind
  have a0:y=0:=PC (W:=W) nf ES si (by rw [E4];exact nG) (by rw [E4];exact o8) (Int.le_of_lt K3)
  subst a0
  refine ⟨w,?_,O7 EP EQ,R9,ER,by omega,lQ,n9⟩
  rw [pre]
  rfl
 ·have E4:V (w.drop j)=V (u.drop j) % W-W:=by rw [vh,← tv];grind
  have a0:y<0:=by
   apply Int.not_le.mp
   intro h
   have:0≤B (n+2)*y:=Int.mul_nonneg (by omega) h
   omega
  obtain ⟨lW,bK,nB,aft,K4,K5,Rn,Qc⟩:=abw (v:=iA.take (n+2)) (row:=w) (bS:=j) (mI:=u.length-j) (y:=y) bd (by rw [pv];exact EP) (by omega) (by omega) (by omega) (by rw [pv];exact EQ) oS BX
  rw [pv] at K4 K5 Qc
  rw [hW] at Rn
  have Sa:V bK=V u-V (u.drop j) / W*B j*W:=by rw [Rn,ER,← tv];grind
  obtain ⟨acC,afu,acD,acE,acF⟩:=R6 (c:=V (u.drop j) / W*W) (by omega) B5 K4 K5 (fun i an=>by rw [Qc i an,Ku i an]) h0 (by rw [Sa];grind)
  have Sb:V (bK.drop j)=V (u.drop j) % W:=by rw [acC];grind
  have nI:lW=0:=PC (W:=W) acD acE acF (by rw [Sb];exact nG) (by rw [Sb];exact o8) (Int.le_of_lt K3)
  subst nI
  refine ⟨bK,?_,O7 K4 K5,by omega,Sa,by omega,lQ,n9⟩
  rw [pre,if_pos (by simpa using a0),nB]
  simp only [Option.bind_eq_bind,Option.bind_some]
  rw [cu (by omega) (by omega),show g-1=V (u.drop j) / W by omega]
theorem Zu {aa iA u:List Int}{n m:Nat}{v1 W:Int}(a2:2≤n)(LR:n≤iA.length)(bd:cl (iA.take n))(hW:V (iA.take n)=W)(sq:iA[n-1]? = some v1)(K2:1≤v1)(hu:cl u)(vi:u.length≤5000000)(hm:m+n=u.length)(dE:V (u.drop m)<W):
 ∃r,Jv u.length n n aa iA ((m:Int)-1) u (List.replicate m 0)=some r∧cl r.1∧r.1.length=u.length∧V r.1<W∧cl r.2∧r.2.length=m∧V u=V r.2*W+V r.1:=by
 refine jA (eL:=fun w:Int×List Int×List Int=> ∃(k:Nat) (q:List Int),w.1=(k:Int)-1∧k≤m∧cl w.2.1∧w.2.1.length=u.length∧w.2.2=List.replicate k 0++q∧q.length+k=m∧cl q∧V (w.2.1.drop k)<W∧V u=V w.2.1+B k*V q*W) (m:=fun w:Int×List Int×List Int=>(w.1+1).toNat) _ ?_ _ ⟨m,[],rfl,by omega,hu,rfl,by simp,by simp,cl.nil,dE,by simp [V]⟩
 rintro ⟨aej,pH,ai⟩ ⟨k,q,h1,a5,oa,hlen,ab,a9,pE,K6,hV⟩
 simp only at h1 oa hlen ab K6 hV ⊢
 subst h1 ab
 cases k with
 | zero =>
  refine .inr ⟨(pH,q),by simp [ua],oa,hlen,by simpa using K6,pE,by simpa using a9,?_⟩
  rw [hV]
  simp [B]
  omega
 | succ k =>
  obtain ⟨af1,he,s1,s2,vr,ael,aem,aen⟩:=Zt (aa:=aa) (iA:=iA) (u:=pH) (ai:=List.replicate (k+1) 0++q) (j:=k) a2 LR bd hW sq K2 oa (by omega) (by omega) K6 (by simp;omega)
  rw [hlen] at he
  rw [show ((k+1:Nat):Int)-1=k by omega,he]
  refine .inl ⟨_,rfl,⟨k,V (pH.drop k) / W::q,rfl,by omega,s1,s2.trans hlen,Kh _ _ _,by simp;omega,cl.cons ⟨aem,aen⟩ pE,ael,?_⟩,by simp only;omega⟩
  simp only
  rw [hV,vr,k2,l4]
  grind
theorem aan {a:List Int}(h:a.length≤900000):As a=some a:=by
 unfold As
 rw [if_pos (by omega)]
theorem YN {a b q s:Int}(h:a=q*b+s)(h0:0≤s)(h1:s<b):a / b=q∧a % b=s:=by
 subst h
 constructor
 ·rw [Int.add_comm,Int.add_mul_ediv_right _ _ (by omega),Int.ediv_eq_zero_of_lt h0 h1]
  omega
 ·rw [Int.add_comm,Int.add_mul_emod_self_right]
  exact Int.emod_eq_of_lt h0 h1
theorem aaY {a b:List Int}(bE:fE a)(aP:fE b)(lb:b≠[])(a2:a.length≤900000)(hm:b.length≤900000):xy a b=some (L (V a / V b),L (V a % V b)):=by
 have jy:=s6 aP lb
 have Es:=mC bE.1
 unfold xy
 simp only [fC]
 rw [OG bE aP (by omega)]
 simp only [Option.bind_eq_bind,Option.bind_some]
 by_cases bb:V a<V b
 ·rw [if_pos (by simpa using sV.2 bb),aan a2,Int.ediv_eq_zero_of_lt Es bb,Int.emod_eq_of_lt Es bb,qy,EG bE]
  rfl
 ·rw [if_neg (fun h=>bb (sV.1 (by simpa using h)))]
  obtain ⟨k,d,a5,bG,sk,EM,yJ⟩:=D1 aP lb
  by_cases h1:b.length=1
  ·have sj:k=0:=by omega
   subst sj
   have LN:V b=d:=by simpa using yJ
   rw [if_pos (by simp [h1]),if_pos (by omega),bG]
   simp only [Option.bind_some]
   have o8:=Int.emod_nonneg (V a) (b:=d) (by omega)
   have B1:=Int.emod_lt_of_pos (V a) sk
   rw [NV bE.1 ⟨sk,EM⟩ (by omega)]
   simp only [Option.bind_some]
   rw [AX o8 (by omega),JH o8 (by omega),LN]
   rfl
  ·have hw:R ((b.length:Int)-1)=(k:Int):=by rw [cu (by omega) (by omega)];omega
   have e1:R (d+1)=d+1:=cu (by omega) (by omega)
   have yK:1≤1000000000 / (d+1):=by
    apply (Int.le_ediv_iff_mul_le (by omega)).2
    omega
   have B7:1000000000 / (d+1)<1000000000:=by
    apply Int.ediv_lt_of_lt_mul (by omega)
    omega
   have adJ:1000000000 / (d+1)*(d+1)≤1000000000:=Int.ediv_mul_le _ (by omega)
   have e2:R ((1000000000:Int).tdiv (d+1))=1000000000 / (d+1):=by rw [mY (by omega),cu (by omega) (by omega)]
   rw [if_neg (by simp;omega),hw,if_pos (by omega),Int.toNat_natCast,bG]
   simp only [Option.bind_some,e1,e2]
   generalize 1000000000 / (d+1)=f at *
   rw [if_pos (by omega)]
   have jE:cl [f]:=cl.cons (by omega) cl.nil
   have adK:V [f]=f:=by simp [V]
   have adL:a≠[]:=by
    intro h
    subst h
    simp [V] at bb
    omega
   obtain ⟨lY,vB,adM,af2,adN,ET,af3⟩:=OI bE.1 jE adL (by simp) (by omega) (by simp)
   obtain ⟨Cl,iA,adO,af4,adP,LU,af5⟩:=OI aP.1 jE lb (by simp) (by omega) (by simp)
   rw [adK] at ET LU
   rw [adM]
   simp only [Option.bind_some]
   simp only [List.length_singleton] at adN adP
   have af6:=oz k
   have adQ:V b*f<B b.length:=by
    have h2:=(rc aP.1 (k:=k) (by omega)).2
    rw [yJ] at h2
    have ab:V b*f≤(B k*(d+1)-1)*f:=Int.mul_le_mul_of_nonneg_right (by omega) (by omega)
    have au:(B k*(d+1)-1)*f=B k*(f*(d+1))-f:=by grind
    have aA:B k*(f*(d+1))≤B k*1000000000:=Int.mul_le_mul_of_nonneg_left adJ (by omega)
    rw [a5,l4]
    omega
   have af7:V b≤V b*f:=by
    have:V b*1≤V b*f:=Int.mul_le_mul_of_nonneg_left yK (by omega)
    omega
   have af8:V a≤V a*f:=by
    have:V a*1≤V a*f:=Int.mul_le_mul_of_nonneg_left yK (by omega)
    omega
   have LV:0≤V b*f:=by omega
   have Sc:0≤V a*f:=by omega
   have Sd:Cl=b.length:=by
    have h2:(iA.take Cl).length=Cl:=by simp;omega
    rw [LU] at h2
    have ab:=(iX LV (k:=b.length)).2 adQ
    have au:=Ei aP lb
    have aA : ¬(L (V b*f)).length≤b.length-1:=fun h=>by
     have:=(iX LV).1 h
     omega
    omega
   have adR:(L (V a*f)).length=lY:=by rw [← ET];simp;omega
   have Ro:=m8 (gY (V a*f))
   rw [eg Sc,adR] at Ro
   have afv:a.length≤lY:=bE.len.2 (by omega)
   have af9:b.length≤a.length:=Nat.le_of_not_lt fun h=>by
    have:=DP bE aP h
    omega
   rw [if_pos (by omega),if_pos (by simp;omega),adO]
   simp only [Option.bind_some]
   have vi:(vB.take lY++[0]).length=lY+1:=by simp;omega
   have adS:Df a Cl [f] iA (vB.take lY++[0])=some (vB.take lY++[0]):=by
    unfold Df
    rw [iter]
    unfold CQ
    simp only [fC,vi]
    rw [if_neg (by simp;omega)]
    rfl
   rw [adS]
   simp only [Option.bind_some,vi]
   have l9:R (((lY+1:Nat):Int)-((Cl:Nat):Int))=((lY+1-b.length:Nat):Int):=by rw [cu (by omega) (by omega)];omega
   rw [l9,if_pos (by omega),p6 (by omega),Int.toNat_natCast]
   have Q2:cl (vB.take lY++[0]):=by
    rw [ET]
    exact (gY _).append (cl.cons (by omega) cl.nil)
   have Se:V (vB.take lY++[0])=V a*f:=by
    rw [uE,ET,eg Sc]
    simp [V]
   have Kv:iA.take b.length=L (V b*f):=by rw [← Sd];exact LU
   have adT:V (iA.take b.length)=V b*f:=by rw [Kv,eg LV]
   obtain ⟨d7,aeo,oN,p8,afw,afx,afy⟩:=D1 (jc (V b*f)) (fun h=>by have:=s7.1 h;omega)
   rw [← Kv] at oN p8
   have pv:(iA.take b.length).length=b.length:=by simp;omega
   have BI:iA[b.length-1]? = some aeo:=by
    rw [List.getElem?_take] at p8
    rw [show b.length-1=d7 by omega]
    split at p8
    ·exact p8
    ·simp at p8
   have acG:V ((vB.take lY++[0]).drop (lY+1-b.length))<V b*f:=by
    have h2:=(rc Q2 (k:=lY+1-b.length) (by omega)).1
    rw [Se] at h2
    have ab:=Ei aP lb
    have au:B lY=B (lY+1-b.length)*B (b.length-1):=by rw [← AS];congr 1;omega
    rw [au] at Ro
    have aA:B (lY+1-b.length)*V ((vB.take lY++[0]).drop (lY+1-b.length))<B (lY+1-b.length)*B (b.length-1):=by omega
    have:=Int.lt_of_mul_lt_mul_left aA (by have:=oz (lY+1-b.length);omega)
    omega
   obtain ⟨r,aq,r1,r2,bc,bh,aZ,bA⟩:=Zu (aa:=[f]) (m:=lY+1-b.length) (by omega) (by omega) (by rw [Kv];exact gY _) adT BI (by omega) Q2 (by omega) (by omega) acG
   rw [vi] at aq r2
   rw [Sd,aq]
   simp only [Option.bind_some]
   rw [if_pos (by omega),List.drop_zero,List.take_of_length_le (by omega),xN r1 (by omega)]
   simp only [Option.bind_some]
   have B0:=mC r1
   rw [Se] at bA
   have bX:V r.1=(V a-V r.2*V b)*f:=by grind
   have adU:0≤V a-V r.2*V b:=by
    apply Int.not_lt.mp
    intro h
    have:(V a-V r.2*V b)*f≤(-1)*f:=Int.mul_le_mul_of_nonneg_right (by omega) (by omega)
    omega
   have vh:V a-V r.2*V b<V b:=by
    apply Int.lt_of_mul_lt_mul_right (a:=f) _ (by omega)
    omega
   obtain ⟨q1,q2⟩:=YN (a:=V a) (b:=V b) (q:=V r.2) (s:=V a-V r.2*V b) (by omega) adU vh
   rw [if_pos (by simp)]
   simp only [List.getElem?_cons_zero,Option.bind_some]
   have LW:(L (V r.1)).length≤lY+1:=(iX B0).2 (by have:=m8 r1;rwa [r2] at this)
   rw [NV (gY _) ⟨by omega,B7⟩ (by omega),eg B0]
   simp only [Option.bind_some]
   rw [xN bh (by omega)]
   simp only [Option.bind_some]
   rw [q1,q2,bX,Int.mul_ediv_cancel _ (by omega)]
def gU (n:Int):bm:=⟨decide (n<0),L n.natAbs⟩
def eb (neg:Bool)(a:Int):Int:=if neg then -a else a
def mk (p:Int×Int):aK:=⟨gU p.1,L p.2⟩
def LX:aK:=⟨⟨false,[]⟩,[]⟩
def enc:Option (Int×Int)→aK
 | none=>LX
 | some p=>mk p
structure Fr (p:Int×Int):Prop where
 pos:0<p.2
 Sf:Int.gcd p.1 p.2=1
 num:(p.1.natAbs:Int)<B 24
 den:p.2<B 24
theorem PD {n:Int}:(gU n).cA=L n.natAbs:=rfl
theorem PE {n:Int}:(gU n).cQ=decide (n<0):=rfl
theorem O8 {n:Int}(h:0≤n):decide ((0:Int)<((L n).length:Nat))=decide (0<n):=by
 apply decide_eq_decide.2
 by_cases h1:0<n
 ·have:(L n)≠[]:=fun h2=>by have:=s7.1 h2;omega
  have:=List.length_pos_iff.mpr this
  omega
 ·have:n=0:=by omega
  subst this
  simp [qy]
theorem K7 {n:Int}(h:0≤n):(((L n).length:Nat):Int)=0↔n=0:=by
 constructor
 ·intro h1
  have:L n=[]:=List.eq_nil_of_length_eq_zero (by omega)
  have:=s7.1 this
  omega
 ·rintro rfl
  simp [qy]
theorem Kw {neg:Bool}{a:Int}(h:0≤a):((eb neg a).natAbs:Int)=a:=by
 unfold eb
 cases neg<;>simp<;>omega
theorem Qd {neg:Bool}{a:Int}(h:0≤a):(⟨neg && decide (0<a),L a⟩:bm)=gU (eb neg a):=by
 unfold gU
 rw [Kw h]
 congr 1
 unfold eb
 cases neg
 ·simp;omega
 ·simp
theorem abx {a:Int}(h:0≤a)(qh:a<B 60):xm (L a)=some (L a):=by
 have aU:=(iX h).2 qh
 unfold xm
 rw [rb (gY _) (by omega),eg h]
 simp only [Option.bind_eq_bind,Option.bind_some,fC]
 rw [if_neg (by simp;omega)]
theorem pT {neg:Bool}{a:Int}(h:0≤a)(qh:a<B 60):hL neg (L a)=some (gU (eb neg a)):=by
 have aU:=(iX h).2 qh
 unfold hL
 rw [abx h qh]
 simp only [Option.bind_eq_bind,Option.bind_some,fC,List.nil_append]
 have bb:(L a).length*8≤140737488355328:=by omega
 rw [← Qd h,← O8 h]
 cases neg<;>simp [bb]
theorem rO {neg:Bool}{a:Int}(h:0≤a):m0 neg (L a)=some (gU (eb neg a)):=by
 unfold m0
 rw [← Qd h,fC,O8 h]
 cases neg<;>simp
theorem QG {a b:Int}:eb (!(decide (a<0) == decide (b<0))) ((a.natAbs:Int)*(b.natAbs:Int))=a*b:=by
 unfold eb
 by_cases bE:a<0
 ·have e1:(a.natAbs:Int) = -a:=by omega
  by_cases aP:b<0
  ·have e2:(b.natAbs:Int) = -b:=by omega
   rw [e1,e2]
   simp [bE,aP,Int.neg_mul,Int.mul_neg]
  ·have e2:(b.natAbs:Int)=b:=by omega
   rw [e1,e2]
   simp [bE,aP,Int.neg_mul,Int.mul_neg]
 ·have e1:(a.natAbs:Int)=a:=by omega
  by_cases aP:b<0
  ·have e2:(b.natAbs:Int) = -b:=by omega
   rw [e1,e2]
   simp [bE,aP,Int.neg_mul,Int.mul_neg]
  ·have e2:(b.natAbs:Int)=b:=by omega
   rw [e1,e2]
   simp [bE,aP,Int.neg_mul,Int.mul_neg]
theorem Au {a b:Int}:eb (decide (a<0)) ((a.natAbs:Int)*b)=a*b:=by
 unfold eb
 by_cases bE:a<0
 ·have e1:(a.natAbs:Int) = -a:=by omega
  rw [e1]
  simp [bE,Int.neg_mul,Int.mul_neg]
 ·have e1:(a.natAbs:Int)=a:=by omega
  rw [e1]
  simp [bE,Int.neg_mul,Int.mul_neg]
theorem PF {a c:Int}:kS (-c) (-a)=kS a c:=by
 unfold kS
 by_cases h:a<c
 ·have : -c < -a:=by omega
  simp [h,this]
 ·by_cases h2:c<a
  ·have ab : ¬ -c < -a:=by omega
   have au : -a < -c:=by omega
   simp [h,h2,ab,au]
  ·have ab : ¬ -c < -a:=by omega
   have au : ¬ -a < -c:=by omega
   simp [h,h2,ab,au]
theorem Zv {a c:Int}(bE:(L a.natAbs).length≤5000000)(bb:(L c.natAbs).length≤5000000):z0 (gU a) (gU c)=some (kS a c):=by
 unfold z0
 simp only [PE,PD,decide_eq_true_eq]
 by_cases h1:a<0
 ·by_cases h2:c<0
  ·rw [if_pos h1,if_pos h2,rV (jc _) (jc _) bb,eg (by omega),eg (by omega),show (c.natAbs:Int) = -c by omega,show (a.natAbs:Int) = -a by omega,PF]
   rfl
  ·rw [if_pos h1,if_neg h2]
   unfold kS
   rw [if_pos (by omega)]
 ·by_cases h2:c<0
  ·rw [if_neg h1,if_pos h2]
   unfold kS
   rw [if_neg (by omega),if_pos (by omega)]
  ·rw [if_neg h1,if_neg h2,rV (jc _) (jc _) bE,eg (by omega),eg (by omega)]
   show some (kS _ _)=_
   congr 2<;>omega
theorem Wn {a c:Int}(bE:(L a.natAbs).length≤5000000)(bb:(L c.natAbs).length≤5000000):rD (gU a) (gU c)=some (kS a c):=by
 have bX:rD (gU a) (gU c)=if (decide (a<0) == decide (c<0))=true then (if decide (a<0)=true then (ql (L c.natAbs) (L a.natAbs)).bind (fun r=>some r) else (ql (L a.natAbs) (L c.natAbs)).bind (fun r=>some r)) else if decide (a<0)=true then some (-1) else some 1:=rfl
 rw [bX,XW]
 by_cases h1:a<0
 ·by_cases h2:c<0
  ·rw [if_pos (by simp [h1,h2]),if_pos (by simpa using h1),rV (jc _) (jc _) bb,eg (by omega),eg (by omega),show (c.natAbs:Int) = -c by omega,show (a.natAbs:Int) = -a by omega,PF]
   rfl
  ·rw [if_neg (by simp [h1,h2]),if_pos (by simpa using h1)]
   unfold kS
   rw [if_pos (by omega)]
 ·by_cases h2:c<0
  ·rw [if_neg (by simp [h1,h2]),if_neg (by simpa using h1)]
   unfold kS
   rw [if_neg (by omega),if_pos (by omega)]
  ·rw [if_pos (by simp [h1,h2]),if_neg (by simpa using h1),rV (jc _) (jc _) bE,eg (by omega),eg (by omega),show (c.natAbs:Int)=c by omega,show (a.natAbs:Int)=a by omega]
   rfl
def fits (x:Int):Prop:=x<B 24
noncomputable instance (x:Int):Decidable (fits x):=Classical.propDecidable _
noncomputable def low (n d:Int):Option (Int×Int) :=
 if fits ((n / (Int.gcd n d:Int)).natAbs:Int)∧fits (d / (Int.gcd n d:Int)) then some (n / (Int.gcd n d:Int),d / (Int.gcd n d:Int)) else none
theorem Ki {n d:Int}(h:0<d):(0:Int)<Int.gcd n d:=by
 have:Int.gcd n d≠0:=by
  rw [Ne,Int.gcd_eq_zero_iff]
  omega
 omega
theorem aaZ {n d:Int}(h:0<d): ∃m e,n / (Int.gcd n d:Int)=m∧d / (Int.gcd n d:Int)=e∧n=Int.gcd n d*m∧d=Int.gcd n d*e∧0<e∧(n.natAbs:Int) / (Int.gcd n d:Int)=m.natAbs:=by
 have dF:=Ki (n:=n) h
 obtain ⟨m,hm⟩:=Int.gcd_dvd_left (a:=n) (b:=d)
 obtain ⟨e,he⟩:=Int.gcd_dvd_right (a:=n) (b:=d)
 refine ⟨m,e,?_,?_,hm,he,?_,?_⟩
 ·conv=>lhs;lhs;rw [hm]
  exact Int.mul_ediv_cancel_left _ (by omega)
 ·conv=>lhs;lhs;rw [he]
  exact Int.mul_ediv_cancel_left _ (by omega)
 ·apply Int.not_le.mp
  intro h1
  have:(Int.gcd n d:Int)*e≤Int.gcd n d*0:=Int.mul_le_mul_of_nonneg_left h1 (by omega)
  omega
 ·have e1:(n.natAbs:Int)=Int.gcd n d*m.natAbs:=by
   conv=>lhs;rw [hm]
   rw [Int.natAbs_mul]
   simp
  rw [e1]
  exact Int.mul_ediv_cancel_left _ (by omega)
theorem AJ {a:Int}(h:0≤a):qn (L a)=some (decide (a=1)):=by
 unfold qn
 simp only [fC]
 by_cases h1:(L a).length=1
 ·have h2:=(iX (k:=1) h).1 (by omega)
  have ab:0<a:=by
   apply Int.not_le.mp
   intro au
   rw [Q1 au] at h1
   simp at h1
  have aA:a<1000000000:=by simpa [B] using h2
  rw [Kf ⟨ab,aA⟩]
  by_cases aW:a=1<;>simp [aW]
 ·rw [if_neg (by simp;omega)]
  have:a≠1:=by
   rintro rfl
   rw [Kf (by omega)] at h1
   simp at h1
  simp [this]
theorem Qe {n d:Int}(h:0≤d):Int.gcd (n.natAbs:Int) d=Int.gcd n d:=by
 simp [Int.gcd]
theorem Kx:B 24≤B 60:=qx (by omega)
theorem JR {neg:Bool}{m e:Int}(hm:0≤m)(he:0≤e):(if (decide ((24:Int)<((L m).length:Nat)))=true then some LX else if (decide ((24:Int)<((L e).length:Nat)))=true then some LX else hL neg (L m) >>= fun r=>if (([]:List Int)++L e).length*8≤140737488355328 then some (⟨r,([]:List Int)++L e⟩:aK) else none) =
 some (enc (if fits m∧fits e then some (eb neg m,e) else none)):=by
 by_cases h1:fits m
 ·have h2:=(iX hm).2 h1
  rw [if_neg (by simp;omega)]
  by_cases ab:fits e
  ·have au:=(iX he).2 ab
   have:=Kx
   unfold fits at h1
   rw [if_neg (by simp;omega),pT hm (by omega),if_pos ⟨h1,ab⟩]
   simp only [Option.bind_eq_bind,Option.bind_some]
   rw [if_pos (by simp;omega)]
   rfl
  ·have au : ¬(L e).length≤24:=fun h=>ab ((iX he).1 h)
   rw [if_pos (by simp;omega),if_neg (fun h=>ab h.2)]
   rfl
 ·have au : ¬(L m).length≤24:=fun h=>h1 ((iX hm).1 h)
  rw [if_pos (by simp;omega),if_neg (fun h=>h1 h.1)]
  rfl
theorem aby {neg:Bool}{p m g:Int}(aj:0≤p)(dF:0<g)(hm:eb neg p=g*m):eb neg (m.natAbs:Int)=m:=by
 unfold eb at hm ⊢
 cases neg
 ·simp at hm ⊢
  have:0≤m:=by
   apply Int.not_lt.mp
   intro h1
   have:g*m≤g*(-1):=Int.mul_le_mul_of_nonneg_left (by omega) (by omega)
   omega
  omega
 ·simp at hm ⊢
  have:m≤0:=by
   apply Int.not_lt.mp
   intro h1
   have:g*1≤g*m:=Int.mul_le_mul_of_nonneg_left (by omega) (by omega)
   omega
  omega
theorem JS {neg:Bool}{p q:Int}(aj:0≤p)(a9:0<q)(Sg:(L p).length≤900000)(pE:(L q).length≤900000):nS neg (L p) (L q)=some (enc (low (eb neg p) q)):=by
 obtain ⟨m,e,h1,h2,ab,au,aA,aW⟩:=aaZ (n:=eb neg p) a9
 have pA:=aby aj (Ki (n:=eb neg p) a9) ab
 rw [Kw aj] at aW
 have dF:Int.gcd p q=Int.gcd (eb neg p) q:=by rw [← Qe (n:=eb neg p) (by omega),Kw aj]
 have aga:=Ki (n:=eb neg p) a9
 unfold nS
 rw [rb (gY _) (by omega),eg aj]
 simp only [Option.bind_eq_bind,Option.bind_some]
 rw [rb (gY _) (by omega),eg (by omega)]
 simp only [Option.bind_some,fC]
 have lQ : ¬((((L q).length:Nat):Int) == 0)=true:=by
  simp only [beq_iff_eq]
  intro h
  have:=(K7 (n:=q) (by omega)).1 h
  omega
 rw [if_neg lQ,AJ (by omega)]
 simp only [Option.bind_some]
 have Ba:low (eb neg p) q=if fits (m.natAbs:Int)∧fits e then some (eb neg (m.natAbs:Int),e) else none:=by
  unfold low
  rw [h1,h2,pA]
 have Q3:Int.gcd (eb neg p) q=1→(m.natAbs:Int)=p∧e=q:=by
  intro hu
  rw [hu] at h2 aW
  simp at h2 aW
  omega
 by_cases n9:q=1
 ·have hu:Int.gcd (eb neg p) q=1:=by rw [n9];simp
  obtain ⟨lk,nL⟩:=Q3 hu
  rw [if_pos (by simpa using n9),Ba,lk,nL]
  exact JR aj (by omega)
 ·rw [if_neg (by simpa using n9),QE (jc _) (jc _) Sg pE,eg aj,eg (by omega)]
  simp only [Option.bind_some]
  rw [AJ (by omega)]
  simp only [Option.bind_some]
  by_cases hu:Int.gcd p q=1
  ·obtain ⟨lk,nL⟩:=Q3 (by omega)
   rw [if_pos (by simp;omega),Ba,lk,nL]
   exact JR aj (by omega)
  ·rw [if_neg (by simp;omega)]
   have Sh:(L (Int.gcd p q)).length≤900000:=by
    have a7:(Int.gcd p q:Int)≤q:=by
     rw [dF]
     have:(Int.gcd (eb neg p) q:Int)*1≤Int.gcd (eb neg p) q*e:=Int.mul_le_mul_of_nonneg_left (by omega) (by omega)
     omega
    apply (iX (by omega)).2
    have:=(iX (n:=q) (by omega)).1 pE
    omega
   have Si:L (Int.gcd p q)≠[]:=fun h=>by
    have:=s7.1 h
    omega
   rw [div_eq (jc _) (jc _) Si Sg Sh,eg aj,eg (by omega)]
   simp only [Option.bind_some]
   rw [div_eq (jc _) (jc _) Si pE Sh,eg (by omega),eg (by omega)]
   simp only [Option.bind_some]
   rw [dF,aW,h2,Ba]
   exact JR (by omega) (by omega)
theorem Fr.td {p:Int×Int}(h:Fr p):(L p.1.natAbs).length≤24:=(iX (by omega)).2 h.num
theorem Fr.sc {p:Int×Int}(h:Fr p):(L p.2).length≤24:=(iX (by have:=h.pos;omega)).2 h.den
theorem ab3 (m n:Nat):B m*B n=B (m+n):=(AS m n).symm
theorem sW {x y:Int}{m n:Nat}(J:0≤x)(a0:0≤y)(h1:x<B m)(h2:y<B n):(L (x*y)).length≤m+n:=by
 apply (iX (Int.mul_nonneg J a0)).2
 rw [← ab3]
 have ab:x*y≤(B m-1)*(B n-1):=Int.mul_le_mul (by omega) (by omega) a0 (by omega)
 have au:(B m-1)*(B n-1)=B m*B n-B m-B n+1:=by grind
 have aA:=oz m
 have aW:=oz n
 omega
theorem YO (r s:aK){a b:Int}(bE:0≤a)(aP:0<b)(h1:hF r.fl.cA s.fl.cA=some (L a))(h2:hF r.ho s.ho=some (L b))(ab:(L a).length≤900000)(au:(L b).length≤900000):sM r s=some (enc (low (eb (!(r.fl.cQ == s.fl.cQ)) a) b)):=by
 unfold sM
 rw [h1]
 simp only [Option.bind_eq_bind,Option.bind_some]
 rw [h2]
 simp only [Option.bind_some]
 rw [JS bE aP ab au]
 simp only [Option.bind_some]
theorem Zw {p q:Int×Int}(aj:Fr p)(a9:Fr q):sM (mk p) (mk q)=some (enc (low (p.1*q.1) (p.2*q.2))):=by
 have h1:=aj.td
 have h2:=aj.sc
 have ab:=a9.td
 have au:=a9.sc
 have aA:=aj.pos
 have aW:=a9.pos
 have a7:=sW (x:=p.1.natAbs) (y:=q.1.natAbs) (by omega) (by omega) aj.num a9.num
 have bi:=sW (x:=p.2) (y:=q.2) (by omega) (by omega) aj.den a9.den
 have e1:hF (L p.1.natAbs) (L q.1.natAbs)=some (L ((p.1.natAbs:Int)*q.1.natAbs)):=by
  rw [mul_eq (gY _) (gY _) (by omega) (by omega),eg (by omega),eg (by omega)]
 have e2:hF (L p.2) (L q.2)=some (L (p.2*q.2)):=by
  rw [mul_eq (gY _) (gY _) (by omega) (by omega),eg (by omega),eg (by omega)]
 have:=YO (mk p) (mk q) (a:=(p.1.natAbs:Int)*q.1.natAbs) (b:=p.2*q.2) (Int.mul_nonneg (by omega) (by omega)) (Int.mul_pos aA aW) e1 e2 (by omega) (by omega)
 rw [this]
 have bR:eb (!((mk p).fl.cQ == (mk q).fl.cQ)) ((p.1.natAbs:Int)*q.1.natAbs)=p.1*q.1:=QG
 rw [bR]
theorem Zx {a b:Int}(bE:(L a.natAbs).length≤900000)(aP:(L b.natAbs).length≤900000):pb (gU a) (gU b)=some (gU (a*b)):=by
 unfold pb
 simp only [PD,PE]
 rw [aah (gY _) (gY _) (by omega) (by omega),eg (by omega),eg (by omega)]
 simp only [Option.bind_eq_bind,Option.bind_some]
 rw [rO (Int.mul_nonneg (by omega) (by omega)),QG]
 rfl
theorem aa0:(1000000000000000000000000000:Int)≤B 24:=by
 have h:B 3≤B 24:=qx (by omega)
 have ab:B 3=1000000000000000000000000000:=by decide
 omega
theorem aa1:(1000000000000000000000000000:Int)≤B 60:=by
 have:=Kx
 have:=aa0
 omega
theorem Yh {n:Int}(h:n8 n):zC n=some (gU n):=by
 obtain ⟨h1,h2⟩:=mB.1 h
 have aP:=aa1
 unfold zC
 by_cases hm:n = -9223372036854775808
 ·rw [if_pos (by simpa using hm)]
  have e:([854775808,223372036,9]:List Int)=L 9223372036854775808:=ta ⟨by intro x J;simp at J;omega,by simp⟩ (by decide)
  rw [e,pT (by omega) (by omega)]
  subst hm
  rfl
 ·rw [if_neg (by simpa using hm)]
  by_cases a2:n<0
  ·rw [if_pos (by simpa using a2),cu (by omega) (by omega),xF (by omega) (by omega)]
   simp only [Option.bind_eq_bind,Option.bind_some]
   rw [pT (by omega) (by omega)]
   simp only [Option.bind_some]
   congr 2
   unfold eb
   simp
  ·rw [if_neg (by simpa using a2),xF (by omega) (by omega)]
   simp only [Option.bind_eq_bind,Option.bind_some]
   rw [pT (by omega) (by omega)]
   simp only [Option.bind_some]
   congr 2
theorem YP {n:Int}(h:n8 n):om n=some (gU n):=by
 obtain ⟨h1,h2⟩:=mB.1 h
 unfold om
 by_cases a2:n<0
 ·rw [if_pos (by simpa using a2),cu (x:=n+1) (by omega) (by omega),cu (x:=0-(n+1)) (by omega) (by omega),AX (x:=0-(n+1)) (by omega) (by omega),AX (by omega) (by omega),JH (by omega) (by omega)]
  simp only [Option.bind_eq_bind,Option.bind_some]
  rw [rO (by omega)]
  simp only [Option.bind_some]
  congr 2
  unfold eb
  simp
  omega
 ·rw [if_neg (by simpa using a2),AX (by omega) (by omega),JH (by omega) (by omega)]
  simp only [Option.bind_eq_bind,Option.bind_some]
  rw [rO (by omega)]
  simp only [Option.bind_some]
  congr 2
theorem Q4:L 1=[1]:=Kf (by omega)
theorem XC {n:Int}(h:n8 n):oW n=some (mk (n,1)):=by
 unfold oW
 rw [Yh h]
 simp only [Option.bind_eq_bind,Option.bind_some,mk,Q4]
theorem Zy {p q:Int×Int}(aj:Fr p)(a9:Fr q):uq (mk p) (mk q)=some (kS (p.1*q.2) (q.1*p.2)):=by
 have h1:=aj.td
 have h2:=aj.sc
 have ab:=a9.td
 have au:=a9.sc
 have aA:=aj.pos
 have aW:=a9.pos
 have a7:=sW (x:=p.1.natAbs) (y:=q.2) (by omega) (by omega) aj.num a9.den
 have bi:=sW (x:=q.1.natAbs) (y:=p.2) (by omega) (by omega) a9.num aj.den
 have Cm:0≤(p.1.natAbs:Int)*q.2:=Int.mul_nonneg (by omega) (by omega)
 have SJ:0≤(q.1.natAbs:Int)*p.2:=Int.mul_nonneg (by omega) (by omega)
 have oU:((p.1*q.2).natAbs:Int)=(p.1.natAbs:Int)*q.2:=by
  rw [Int.natAbs_mul,Int.natCast_mul]
  congr 1
  omega
 have me:((q.1*p.2).natAbs:Int)=(q.1.natAbs:Int)*p.2:=by
  rw [Int.natAbs_mul,Int.natCast_mul]
  congr 1
  omega
 have e1:hF (mk p).fl.cA (mk q).ho=some (L ((p.1.natAbs:Int)*q.2)):=by
  show hF (L p.1.natAbs) (L q.2)=_
  rw [mul_eq (gY _) (gY _) (by omega) (by omega),eg (by omega),eg (by omega)]
 have e2:hF (mk q).fl.cA (mk p).ho=some (L ((q.1.natAbs:Int)*p.2)):=by
  show hF (L q.1.natAbs) (L p.2)=_
  rw [mul_eq (gY _) (gY _) (by omega) (by omega),eg (by omega),eg (by omega)]
 have bR:hL (mk p).fl.cQ (L ((p.1.natAbs:Int)*q.2))=some (gU (p.1*q.2)):=by
  show hL (decide (p.1<0)) _=_
  rw [pT Cm ((iX Cm).1 (by omega)),Au]
 have c7:hL (mk q).fl.cQ (L ((q.1.natAbs:Int)*p.2))=some (gU (q.1*p.2)):=by
  show hL (decide (q.1<0)) _=_
  rw [pT SJ ((iX SJ).1 (by omega)),Au]
 unfold uq
 rw [e1,Option.bind_eq_bind,Option.bind_some,bR,Option.bind_eq_bind,Option.bind_some,e2,Option.bind_eq_bind,Option.bind_some,c7,Option.bind_some,Zv (by rw [oU];omega) (by rw [me];omega)]
 rfl
theorem Ky {a d:Int}(bG:0≤d):((a*d).natAbs:Int)=(a.natAbs:Int)*d:=by
 rw [Int.natAbs_mul,Int.natCast_mul]
 congr 1
 omega
theorem qq (n bS an:Int):mg n bS an=some (decide (bS≤n∧n≤an)):=by
 unfold mg
 by_cases h:bS≤n<;>simp [h]
theorem Dz {α β:Type}{t:Nat→α→Option β}: ∀(l:List α) (k:Nat),(∀n x,l[n]? = some x→t (k+n) x=none)→scan t k l=none
 | [],_,_=>rfl
 | x::l,k,h=>by
  have h0:=h 0 x rfl
  simp only [Nat.add_zero] at h0
  simp only [scan,h0]
  exact Dz l (k+1) fun n y a0=>by rw [show k+1+n=k+(n+1) by omega];exact h (n+1) y (by simpa using a0)
theorem Oe (l:List Int)(h:l.length≤1048576):xr l l=some true:=by
 have h1:Jh l l 0=some (.inl ()):=by
  have:=Dx (f:=fun w=>wW l l w) (t:=fun _ _=>none) (e:= .inl ()) l 0 (fun n x J=>by
   have a2:=fO J
   have hw:R ((n:Int)+1)=((n+1:Nat):Int):=by rw [cu (by omega) (by omega)];rfl
   simp only [wW,fa,Nat.zero_add,hw]
   simp [a2]) (by simp [wW,fa])
  rw [Dz l 0 (fun _ _ _=>rfl)] at this
  exact this
 simp [xr,h1]
theorem XX (j:bB):zW j j=some true:=by simp [zW]
theorem XD (j:bM):zN j j=some true:=by simp [zN]
theorem XE (l:List bB)(h:l.length≤1048576):zM l l=some true:=by
 have h1:IP l l 0=some (.inl ()):=by
  have:=Dx (f:=fun w=>wB l l w) (t:=fun _ _=>none) (e:= .inl ()) l 0 (fun n x J=>by
   have a2:=fO J
   have hw:R ((n:Int)+1)=((n+1:Nat):Int):=by rw [cu (by omega) (by omega)];rfl
   simp only [wB,fa,Nat.zero_add,hw]
   simp [a2,XX]) (by simp [wB,fa])
  rw [Dz l 0 (fun _ _ _=>rfl)] at this
  exact this
 simp [zM,h1]
theorem Xr (l:List bM)(h:l.length≤1048576):zy l l=some true:=by
 have h1:Iy l l 0=some (.inl ()):=by
  have:=Dx (f:=fun w=>wt l l w) (t:=fun _ _=>none) (e:= .inl ()) l 0 (fun n x J=>by
   have a2:=fO J
   have hw:R ((n:Int)+1)=((n+1:Nat):Int):=by rw [cu (by omega) (by omega)];rfl
   simp only [wt,fa,Nat.zero_add,hw]
   simp [a2,XD]) (by simp [wt,fa])
  rw [Dz l 0 (fun _ _ _=>rfl)] at this
  exact this
 simp [zy,h1]
theorem WO (s:ct)(h1:s.bY.length≤1048576)(h2:s.bt.length≤1048576):zj s s=some true:=by
 simp [zj,XE _ h1,Xr _ h2]
theorem XY (j:bB)(left:Int)(aD:j.k6.size≤maxLen)(h0:0≤left)(h1:left≤1048576): ∃r,zP j left=some r∧r≤left:=by
 have hm:j.k6.size<9223372036854775808:=by have:maxLen=9223372036854775807:=by decide
                                           omega
 have hw:R (left-j.k6.size)=left-j.k6.size:=cu (by omega) (by omega)
 unfold zP
 rw [hw]
 by_cases h:left-(j.k6.size:Int)<0
 ·exact ⟨-1,by simp [h],by omega⟩
 ·exact ⟨left-j.k6.size,by simp [h],by omega⟩
theorem XF (l:List bB)(left:Int)(aU:l.length≤maxLen)(aD:∀j∈l,j.k6.size≤maxLen)(h0:0≤left)(h1:left≤1048576):
 ∃r,zz l left=some r∧r≤left∧(0≤r→l.length≤1048576):=by
 have hm:maxLen=9223372036854775807:=by decide
 have hw:R (left-(l.length:Nat))=left-(l.length:Nat):=cu (by omega) (by omega)
 unfold zz
 simp only [fa,hw]
 by_cases h:left-(l.length:Int)<0
 ·exact ⟨-1,by simp [h],by omega,by omega⟩
 ·obtain ⟨r,r1,r2⟩:=jA (f:=fun w:Int×Int=>tO l w.1 w.2) (fun w=>0≤w.1∧w.1≤left∧0≤w.2∧w.2≤l.length) (fun w=>(l.length-w.2).toNat)
   (fun r=>match r with | .inl a=>a≤left | .inr _=>True) (fun w hw=>by
     obtain ⟨a,i⟩:=w
     simp only at hw
     obtain ⟨kh,pJ,tG,SK⟩:=hw
     by_cases an:i<l.length
     ·obtain ⟨x,J⟩ : ∃x,l[i.toNat]? = some x:=⟨_,List.getElem?_eq_getElem (by omega)⟩
      obtain ⟨r,s1,s2⟩:=XY x a (aD x (List.mem_of_getElem? J)) kh (by omega)
      obtain ⟨a2,rfl⟩:=List.getElem?_eq_some_iff.1 J
      have BK:R (i+1)=i+1:=cu (by omega) (by omega)
      by_cases aq:r<0
      ·right
       exact ⟨.inr (),by simp [tO,fa,an,tG,J,s1,aq],trivial⟩
      ·left
       refine ⟨(r,i+1),by simp [tO,fa,an,tG,J,s1,aq,BK],?_,?_⟩
       ·simp only;omega
       ·simp only;omega
     ·right
      exact ⟨.inl a,by simp [tO,fa,an],by simpa using pJ⟩) (left-(l.length:Nat),0) (by simp only;omega)
  have EU:IA l (left-(l.length:Nat)) 0=some r:=r1
  rw [EU]
  cases r with
  | inl a=>exact ⟨a,by simp [h],r2,by omega⟩
  | inr a=>exact ⟨-1,by simp [h],by omega,by omega⟩
theorem Xs (l:List bM)(left:Int)(aU:l.length≤maxLen)(h0:0≤left)(h1:left≤1048576):
 ∃r,zs l left=some r∧r≤left∧(0≤r→l.length≤1048576):=by
 have hm:maxLen=9223372036854775807:=by decide
 have hw:R (left-(l.length:Nat))=left-(l.length:Nat):=cu (by omega) (by omega)
 unfold zs
 simp only [fa,hw]
 by_cases h:left-(l.length:Int)<0
 ·exact ⟨-1,by simp [h],by omega,by omega⟩
 ·exact ⟨left-(l.length:Nat),by simp [h],by omega,by omega⟩
theorem WQ (s:ct)(i0:kt s)(left:Int)(h0:0≤left)(h1:left≤1048576):
 ∃r,zg s left=some r∧(0≤r→s.bY.length≤1048576∧s.bt.length≤1048576):=by
 obtain ⟨⟨gx,ht⟩,c8,fL⟩:=i0
 obtain ⟨r,r1,r2,bc⟩:=XF s.bY left gx (fun j aD=>(ht j aD).1) h0 h1
 unfold zg
 rw [r1]
 by_cases h:r<0
 ·exact ⟨-1,by simp [h],by omega⟩
 ·obtain ⟨q,q1,q2,bL⟩:=Xs s.bt r c8 (by omega) (by omega)
  by_cases a9:q<0
  ·exact ⟨-1,by simp [h,q1,a9],by omega⟩
  ·exact ⟨q,by simp [h,q1,a9],fun _=>⟨bc (by omega),bL (by omega)⟩⟩
theorem xz:maxLen=9223372036854775807:=by decide
theorem YQ (n:Int):xk n=mg n (-50) 50:=by
 rw [qq]
 unfold xk
 by_cases h : -50≤n<;>simp [h]
theorem Yi (c:Int):zK c=some (decide (97≤c∧c≤122)):=by
 unfold zK
 by_cases h:97≤c<;>simp [h]
theorem YR (c:Int):zR c=some (decide (48≤c∧c≤57)):=by
 unfold zR
 by_cases h:48≤c<;>simp [h]
theorem Yj (s:ByteArray)(i:Int):zc s s.size i=sE s i:=by
 unfold zc sE
 generalize ((s.data.toList.getD i.toNat 0).toNat:Int)=c
 simp only [Yi,YR,Option.bind_eq_bind,Option.bind_some]
 by_cases h1:i<(s.size:Int)<;>by_cases h0:0≤i<;>by_cases a:(97:Int)≤c<;>by_cases b:c≤122<;>by_cases d:i=0<;>by_cases e:c<48<;>by_cases f:57<c <;>
  simp [h1,h0,a,b,d,e,f,Int.not_lt.1,Int.not_le]<;>omega
theorem Zz (s:ByteArray):z1 s=sJ s:=by
 have h:C7 s s.size 0=zt s 0:=by
  unfold C7 zt
  congr 1
  funext w
  exact Yj s w
 unfold z1 sJ
 rw [h]
 congr 1
 funext r
 cases r with
 | inr a=>rfl
 | inl a =>
  simp only [qq,Option.bind_eq_bind,Option.bind_some]
  by_cases h0:s.size=0
  ·have:s=⟨#[]⟩:=by
    cases s with
    | mk d=>simp only [ByteArray.size] at h0;rw [Array.size_eq_zero_iff] at h0;rw [h0]
   subst this
   have e0:(ByteArray.mk #[]).size=0:=rfl
   simp [e0]
  ·have dt:s.toList≠(⟨#[]⟩:ByteArray).toList:=by
    intro e
    have aU : ∀x:ByteArray,x.toList.length=x.size:=by intro x;rw [ByteArray.toList_eq];rfl
    have:=aU s
    rw [e,aU] at this
    exact h0 this.symm
   simp only [beq_iff_eq,dt,Bool.not_eq_true',beq_eq_false_iff_ne,ne_eq,not_false_eq_true,if_true]
   congr 1
   apply decide_eq_decide.2
   omega
theorem Yk (s:ByteArray)(bX:s.size≤maxLen): ∃r,sJ s=some r:=by
 have hm:=xz
 obtain ⟨r,h,-⟩:=jA (f:=fun w=>sE s w) (fun i=>0≤i∧i≤s.size) (fun i=>(s.size-i).toNat) (fun _=>True) (fun i an=>by
  obtain ⟨h0,h1⟩:=an
  by_cases h2:i<(s.size:Int)
  ·have hw:R (i+1)=i+1:=cu (by omega) (by omega)
   unfold sE
   generalize ((s.data.toList.getD i.toNat 0).toNat:Int)=c
   have ab4:0≤i+1∧i+1≤(s.size:Int):=by omega
   have l9:((s.size:Int)-(i+1)).toNat<((s.size:Int)-i).toNat:=by omega
   have key : ∀x:Option (Int⊕(Unit⊕Unit)),(x=some (.inl (i+1))∨x=some (.inr (.inr ())))→(∃dz,x=some (.inl dz)∧(0≤dz∧dz≤(s.size:Int))∧((s.size:Int)-dz).toNat<((s.size:Int)-i).toNat)∨ ∃r,x=some (.inr r)∧True:=by
    intro x J
    rcases J with J|J
    ·exact .inl ⟨i+1,J,ab4,l9⟩
    ·exact .inr ⟨_,J,trivial⟩
   apply key
   simp only [h2,h0,hw,decide_true,if_true,and_self]
   by_cases a:(97:Int)≤c<;>by_cases b:c≤122<;>by_cases d:i=0<;>by_cases e:c<48<;>by_cases f:57<c<;>simp [a,b,d,e,f]
  ·exact .inr ⟨.inl (),by simp [sE,h2],trivial⟩) 0 (by omega)
 have cB:zt s 0=some r:=h
 unfold sJ
 rw [cB]
 cases r with
 | inl a=>exact ⟨_,by simp [qq];rfl⟩
 | inr a=>exact ⟨_,rfl⟩
end Go.Proofs.YtamedijmgkdlgaaGreat
namespace Go.Proofs.YtamedijmgkdlgaaGreat
set_option linter.unusedVariables false
set_option linter.unusedSimpArgs false
open Go Go.VL
theorem YS (j:bB):zS j=pc j:=by
 unfold zS pc
 simp only [Zz,YQ]
theorem NX (j:bB)(h:j.k6.size≤maxLen): ∃r,pc j=some r:=by
 obtain ⟨r,aq⟩:=Yk _ h
 unfold pc
 simp only [aq,qq,Option.bind_eq_bind,Option.bind_some]
 repeat' split
 all_goals exact ⟨_,rfl⟩
theorem XG (s:ct)(n:ByteArray):zq s n=uc s n:=by
 have h:Cq s.bY n (len_ bI s.bY) 0=wX n s.bY (len_ bI s.bY) 0:=by
  unfold Cq wX
  congr 1
 unfold zq uc Cu
 rw [h]
 cases wX n s.bY (len_ bI s.bY) 0 with
 | none=>rfl
 | some r=>cases r<;>rfl
theorem Nz (s:ct)(n:ByteArray)(h:s.bY.length≤maxLen): ∃r,uc s n=some r:=by
 have hm:=xz
 obtain ⟨r,h1,-⟩:=jA (f:=fun w=>wa n s.bY (len_ bI s.bY) w) (fun i=>0≤i∧i≤s.bY.length) (fun i=>(s.bY.length-i).toNat) (fun _=>True) (fun i an=>by
  obtain ⟨h0,h1⟩:=an
  by_cases h2:i<(s.bY.length:Int)
  ·have hw:R (i+1)=i+1:=cu (by omega) (by omega)
   obtain ⟨x,J⟩ : ∃x,s.bY[i.toNat]? = some x:=⟨_,List.getElem?_eq_getElem (by omega)⟩
   unfold wa
   simp only [fa,h2,h0,hw,J,decide_true,if_true,and_self,Option.bind_eq_bind,Option.bind_some]
   by_cases e:(x.k6.toList == n.toList)=true
   ·exact .inr ⟨_,by rw [if_pos e],trivial⟩
   ·exact .inl ⟨i+1,by rw [if_neg e],by omega,by omega⟩
  ·exact .inr ⟨.inl (),by simp [wa,fa,h2],trivial⟩) 0 (by omega)
 have cB:wX n s.bY (len_ bI s.bY) 0=some r:=h1
 unfold uc
 rw [cB]
 cases r with
 | inl a=>exact ⟨_,rfl⟩
 | inr a=>exact ⟨_,rfl⟩
theorem NA (s:ct):CK s.bY (len_ bI s.bY) s.bt 0=q7 s.bY (len_ bI s.bY) s.bt 0:=by
 unfold CK q7
 congr 1
 funext w
 unfold CA q6
 simp only [YS,XG]
theorem Iz (s:ct)(i0:kt s): ∃r,q7 s.bY (len_ bI s.bY) s.bt 0=some r:=by
 have hm:=xz
 obtain ⟨⟨gx,ht⟩,-⟩:=i0
 obtain ⟨r,h1,-⟩:=jA (f:=fun w=>q6 s.bY (len_ bI s.bY) s.bt w) (fun i=>0≤i∧i≤s.bY.length) (fun i=>(s.bY.length-i).toNat) (fun _=>True) (fun i an=>by
  obtain ⟨h0,h1⟩:=an
  by_cases h2:i<(s.bY.length:Int)
  ·have hw:R (i+1)=i+1:=cu (by omega) (by omega)
   obtain ⟨x,J⟩ : ∃x,s.bY[i.toNat]? = some x:=⟨_,List.getElem?_eq_getElem (by omega)⟩
   obtain ⟨p,aj⟩:=NX x (ht x (List.mem_of_getElem? J)).1
   obtain ⟨q,a9⟩:=Nz ⟨s.bY,s.bt⟩ x.k6 gx
   unfold q6
   simp only [fa,h2,h0,hw,J,aj,a9,decide_true,if_true,and_self,Option.bind_eq_bind,Option.bind_some]
   by_cases e:p=true
   ·rw [if_pos e]
    by_cases e2:(q != i)=true
    ·exact .inr ⟨_,by rw [if_pos e2],trivial⟩
    ·exact .inl ⟨i+1,by rw [if_neg e2],by omega,by omega⟩
   ·exact .inr ⟨_,by rw [if_neg e],trivial⟩
  ·exact .inr ⟨.inl (),by simp [q6,fa,h2],trivial⟩) 0 (by omega)
 exact ⟨r,h1⟩
def qt (gR:List bB)(m:bM):Bool :=
 decide (0≤m.dG∧m.dG<gR.length∧0≤m.ei∧m.ei<gR.length∧1≤m.hU∧m.hU≤3) &&
 match gR[m.dG.toNat]?,gR[m.ei.toNat]? with
 | some a,some b=> !(a.j2 == b.j2 && a.j3 == b.j3) && !(a.k3 && b.k3)
 | _,_=>false
theorem Dm (s:ct)(m:bM):y1 s m=some (qt s.bY m):=by
 unfold y1 qt
 simp only [fa]
 by_cases h1:m.dG<0
 ·simp [h1];omega
 by_cases h2:(s.bY.length:Int)≤m.dG
 ·simp [h1,h2];omega
 by_cases ab:m.ei<0
 ·simp [h1,h2,ab];omega
 by_cases au:(s.bY.length:Int)≤m.ei
 ·simp [h1,h2,ab,au];omega
 by_cases aA:m.hU<1
 ·simp [h1,h2,ab,au,aA];omega
 by_cases aW:3<m.hU
 ·simp [h1,h2,ab,au,aA,aW];omega
 obtain ⟨x,J⟩ : ∃x,s.bY[m.dG.toNat]? = some x:=⟨_,List.getElem?_eq_getElem (by omega)⟩
 obtain ⟨y,a0⟩ : ∃y,s.bY[m.ei.toNat]? = some y:=⟨_,List.getElem?_eq_getElem (by omega)⟩
 have br:0≤m.dG∧m.dG<s.bY.length:=by omega
 have cb:0≤m.ei∧m.ei<s.bY.length:=by omega
 have jk:0≤m.dG∧m.dG<s.bY.length∧0≤m.ei∧m.ei<s.bY.length∧1≤m.hU∧m.hU≤3:=by omega
 rw [decide_eq_false h1,decide_eq_false h2,decide_eq_false ab,decide_eq_false au,decide_eq_false aA,decide_eq_false aW,decide_eq_true jk,if_pos br,J]
 simp only [Bool.false_eq_true,if_false,Option.bind_eq_bind,Option.bind_some,Bool.true_and]
 rw [if_pos cb,a0]
 simp only [Option.bind_some]
 by_cases e1:x.j2=y.j2<;>by_cases e2:x.j3=y.j3<;>by_cases yK:x.k3=true<;>by_cases B7:y.k3=true<;>simp [e1,e2,yK,B7]
theorem NL (gR:List bB)(dY:List bM)(aD:gR.length≤6)(En:dY.length≤8)(i:Int):
 y0 (R (len_ bI gR-1)) dY (len_ bQ dY) gR i =
 (nQ dY gR dY (len_ bQ dY) i).map (Sum.map id (Sum.map id fun _=>())):=by
 have hw:R ((gR.length:Nat)-1)=(gR.length:Nat)-1:=cu (by omega) (by omega)
 unfold y0 nQ tY
 simp only [fa,hw,Dm,qq,Option.bind_eq_bind,Option.bind_some]
 by_cases h1:i<(dY.length:Int)
 ·by_cases h0:0≤i
  ·obtain ⟨m,hm⟩ : ∃x,dY[i.toNat]? = some x:=⟨_,List.getElem?_eq_getElem (by omega)⟩
   simp only [h1,h0,hm,decide_true,if_true,and_self,Option.bind_some]
   unfold qt
   by_cases hA:0≤m.dG∧m.dG≤(gR.length:Int)-1
   ·by_cases gW:0≤m.ei∧m.ei≤(gR.length:Int)-1
    ·by_cases hz:1≤m.hU∧m.hU≤3
     ·obtain ⟨x,J⟩ : ∃x,gR[m.dG.toNat]? = some x:=⟨_,List.getElem?_eq_getElem (by omega)⟩
      obtain ⟨y,a0⟩ : ∃y,gR[m.ei.toNat]? = some y:=⟨_,List.getElem?_eq_getElem (by omega)⟩
      have br:0≤m.dG∧m.dG<gR.length:=by omega
      have cb:0≤m.ei∧m.ei<gR.length:=by omega
      have jk:0≤m.dG∧m.dG<gR.length∧0≤m.ei∧m.ei<gR.length∧1≤m.hU∧m.hU≤3:=by omega
      rw [decide_eq_true hA,decide_eq_true gW,decide_eq_true hz,decide_eq_true jk]
      simp only [if_true,Option.bind_some,Bool.true_and]
      rw [if_pos br,J]
      simp only [Option.bind_some]
      rw [if_pos cb,a0]
      simp only [Option.bind_some]
      by_cases e1:x.j2=y.j2<;>by_cases e2:x.j3=y.j3<;>by_cases yK:x.k3=true<;>by_cases B7:y.k3=true<;>simp [e1,e2,yK,B7]
     ·have jk : ¬(0≤m.dG∧m.dG<gR.length∧0≤m.ei∧m.ei<gR.length∧1≤m.hU∧m.hU≤3):=by omega
      rw [decide_eq_true hA,decide_eq_true gW,decide_eq_false hz,decide_eq_false jk]
      simp
    ·have jk : ¬(0≤m.dG∧m.dG<gR.length∧0≤m.ei∧m.ei<gR.length∧1≤m.hU∧m.hU≤3):=by omega
     rw [decide_eq_true hA,decide_eq_false gW,decide_eq_false jk]
     simp
   ·have jk : ¬(0≤m.dG∧m.dG<gR.length∧0≤m.ei∧m.ei<gR.length∧1≤m.hU∧m.hU≤3):=by omega
    rw [decide_eq_false hA,decide_eq_false jk]
    simp
  ·simp [h1,h0]
 ·simp [h1]
theorem Nc (gR:List bB)(dY:List bM)(En:dY.length≤8): ∃r,tJ dY gR dY (len_ bQ dY) 0=some r∧ ∀k,r = .inr k→0≤k:=by
 exact jA (f:=fun w=>nQ dY gR dY (len_ bQ dY) w) (fun i=>0≤i∧i≤dY.length) (fun i=>(dY.length-i).toNat) (fun r=> ∀k,r = .inr k→0≤k) (fun i an=>by
  obtain ⟨h0,h1⟩:=an
  by_cases h2:i<(dY.length:Int)
  ·have hw:R (i+1)=i+1:=cu (by omega) (by omega)
   obtain ⟨x,J⟩ : ∃x,dY[i.toNat]? = some x:=⟨_,List.getElem?_eq_getElem (by omega)⟩
   unfold nQ tY
   simp only [fa,h2,h0,hw,J,Dm,decide_true,if_true,and_self,Option.bind_eq_bind,Option.bind_some]
   by_cases e:(!qt gR x)=true
   ·exact .inr ⟨_,by rw [if_pos e],by intro k a5;simp at a5;omega⟩
   ·exact .inl ⟨i+1,by rw [if_neg e],by omega,by omega⟩
  ·exact .inr ⟨.inl (),by simp [nQ,fa,h2],by intro k a5;simp at a5⟩) 0 (by omega)
theorem Nq (s:ct)(i0:kt s): ∃r,j5 s=some r∧w6 s=some r:=by
 unfold j5 w6
 by_cases h1:6<(s.bY.length:Int)
 ·exact ⟨false,by simp [fa,h1],by simp [fa,h1]⟩
 by_cases h2:8<(s.bt.length:Int)
 ·exact ⟨false,by simp [fa,h1,h2],by simp [fa,h1,h2]⟩
 obtain ⟨r,aq⟩:=Iz s i0
 rw [NA,aq]
 obtain ⟨q,a9,lQ⟩:=Nc s.bY s.bt (by omega)
 have LY:CH (R (len_ bI s.bY-1)) s.bt (len_ bQ s.bt) s.bY 0=some (Sum.map id (fun _=>()) q) :=
  Pt (f:=fun w=>nQ s.bt s.bY s.bt (len_ bQ s.bt) w) (Sum.map id fun _=>()) (fun _=>True) (fun _ _ _ _=>trivial)
   (fun i _=>NL s.bY s.bt (by omega) (by omega) i) 0 q a9 trivial
 simp only [yT,yW,a9,LY,Option.bind_eq_bind,Option.bind_some]
 have d1:decide ((6:Int)<len_ bI s.bY)=false:=by rw [fa];exact decide_eq_false h1
 have d2:decide ((8:Int)<len_ bQ s.bt)=false:=by rw [fa];exact decide_eq_false h2
 rw [d1,d2]
 simp only [Bool.false_eq_true,if_false]
 cases r with
 | inr a=>exact ⟨false,rfl,rfl⟩
 | inl a =>
  cases q with
  | inl b=>exact ⟨true,rfl,by simp⟩
  | inr k =>
   have:=lQ k rfl
   exact ⟨false,rfl,by simp [this]⟩
theorem NM (j:bB)(h:pc j=some true): -50≤j.j2∧j.j2≤50∧ -50≤j.j3∧j.j3≤50:=by
 unfold pc at h
 cases a2:sJ j.k6 with
 | none=>simp [a2] at h
 | some r =>
  simp only [a2,qq,Option.bind_eq_bind,Option.bind_some] at h
  cases r with
  | false=>simp at h
  | true =>
   by_cases a : -50≤j.j2∧j.j2≤50
   ·by_cases b : -50≤j.j3∧j.j3≤50
    ·omega
    ·simp [a,b] at h
   ·simp [a] at h
theorem ZA (s:ct)(i0:kt s)(h:q7 s.bY (len_ bI s.bY) s.bt 0=some (.inl ())): ∀(n:Nat) j,s.bY[n]? = some j→pc j=some true:=by
 have hm:=xz
 obtain ⟨⟨gx,ht⟩,-⟩:=i0
 obtain ⟨r,h1,h2⟩:=jA (f:=fun w=>q6 s.bY (len_ bI s.bY) s.bt w) (fun i=>0≤i∧i≤s.bY.length∧ ∀(n:Nat) j,(n:Int)<i→s.bY[n]? = some j→pc j=some true) (fun i=>(s.bY.length-i).toNat)
  (fun r=>r = .inl ()→ ∀(n:Nat) j,s.bY[n]? = some j→pc j=some true) (fun i an=>by
  obtain ⟨h0,h1,ab⟩:=an
  by_cases h2:i<(s.bY.length:Int)
  ·have hw:R (i+1)=i+1:=cu (by omega) (by omega)
   obtain ⟨x,J⟩ : ∃x,s.bY[i.toNat]? = some x:=⟨_,List.getElem?_eq_getElem (by omega)⟩
   obtain ⟨p,aj⟩:=NX x (ht x (List.mem_of_getElem? J)).1
   obtain ⟨q,a9⟩:=Nz ⟨s.bY,s.bt⟩ x.k6 gx
   unfold q6
   simp only [fa,h2,h0,hw,J,aj,a9,decide_true,if_true,and_self,Option.bind_eq_bind,Option.bind_some]
   by_cases e:p=true
   ·rw [if_pos e]
    by_cases e2:(q != i)=true
    ·exact .inr ⟨_,by rw [if_pos e2],by simp⟩
    ·refine .inl ⟨i+1,by rw [if_neg e2],⟨by omega,by omega,fun n j a2 aD=> ?_⟩,by omega⟩
     by_cases c:(n:Int)<i
     ·exact ab n j c aD
     ·have:n=i.toNat:=by omega
      subst this
      rw [J] at aD
      obtain rfl:=Option.some.inj aD
      rw [aj,e]
   ·exact .inr ⟨_,by rw [if_neg e],by simp⟩
  ·refine .inr ⟨.inl (),by simp [q6,fa,h2],fun _ n j aD=>ab n j (by have:=fO aD;omega) aD⟩) 0 ⟨by omega,by omega,fun n j a2=>by omega⟩
 have qa:q7 s.bY (len_ bI s.bY) s.bt 0=some r:=h1
 rw [h] at qa
 exact h2 (Option.some.inj qa).symm
theorem YT (gR:List bB)(dY:List bM)(En:dY.length≤8)(h:tJ dY gR dY (len_ bQ dY) 0=some (.inl ())): ∀(n:Nat) m,dY[n]? = some m→qt gR m=true:=by
 obtain ⟨r,h1,h2⟩:=jA (f:=fun w=>nQ dY gR dY (len_ bQ dY) w) (fun i=>0≤i∧i≤dY.length∧ ∀(n:Nat) m,(n:Int)<i→dY[n]? = some m→qt gR m=true) (fun i=>(dY.length-i).toNat)
  (fun r=>r = .inl ()→ ∀(n:Nat) m,dY[n]? = some m→qt gR m=true) (fun i an=>by
  obtain ⟨h0,h1,ab⟩:=an
  by_cases h2:i<(dY.length:Int)
  ·have hw:R (i+1)=i+1:=cu (by omega) (by omega)
   obtain ⟨x,J⟩ : ∃x,dY[i.toNat]? = some x:=⟨_,List.getElem?_eq_getElem (by omega)⟩
   unfold nQ tY
   simp only [fa,h2,h0,hw,J,Dm,decide_true,if_true,and_self,Option.bind_eq_bind,Option.bind_some]
   by_cases e:(!qt gR x)=true
   ·exact .inr ⟨_,by rw [if_pos e],by simp⟩
   ·refine .inl ⟨i+1,by rw [if_neg e],⟨by omega,by omega,fun n j a2 aD=> ?_⟩,by omega⟩
    by_cases c:(n:Int)<i
    ·exact ab n j c aD
    ·have:n=i.toNat:=by omega
     subst this
     rw [J] at aD
     obtain rfl:=Option.some.inj aD
     simpa using e
  ·refine .inr ⟨.inl (),by simp [nQ,fa,h2],fun _ n j aD=>ab n j (by have:=fO aD;omega) aD⟩) 0 ⟨by omega,by omega,fun n j a2=>by omega⟩
 have qa:tJ dY gR dY (len_ bQ dY) 0=some r:=h1
 rw [h] at qa
 exact h2 (Option.some.inj qa).symm
theorem ol (s:ct)(i0:kt s)(h:j5 s=some true):
 (∀(n:Nat) j,s.bY[n]? = some j→pc j=some true)∧(∀(n:Nat) m,s.bt[n]? = some m→qt s.bY m=true)∧s.bY.length≤6∧s.bt.length≤8:=by
 obtain ⟨p,p1,p2⟩:=Nq s i0
 rw [h] at p1
 obtain rfl:=Option.some.inj p1
 unfold w6 at p2
 by_cases h1:6<(s.bY.length:Int)
 ·simp [fa,h1] at p2
 by_cases h2:8<(s.bt.length:Int)
 ·simp [fa,h1,h2] at p2
 obtain ⟨r,aq⟩:=Iz s i0
 rw [NA,aq] at p2
 obtain ⟨q,a9,lQ⟩:=Nc s.bY s.bt (by omega)
 have d1:decide ((6:Int)<len_ bI s.bY)=false:=by rw [fa];exact decide_eq_false h1
 have d2:decide ((8:Int)<len_ bQ s.bt)=false:=by rw [fa];exact decide_eq_false h2
 rw [d1,d2] at p2
 simp only [yT,yW,a9,Bool.false_eq_true,if_false,Option.bind_eq_bind,Option.bind_some] at p2
 cases r with
 | inr a=>simp at p2
 | inl a =>
  cases q with
  | inr k =>
   have:=lQ k rfl
   simp [this] at p2
  | inl b=>exact ⟨ZA s i0 aq,YT s.bY s.bt (by omega) a9,by omega,by omega⟩
theorem ZB (s:ct)(i0:kt s)(h:j5 s=some true)(k:Int)(h0:0≤k)(h1:k<s.bt.length):
 ∃x y,tS s k=some (x,y)∧xa s k=some (x,y)∧(-100≤x∧x≤100)∧(-100≤y∧y≤100):=by
 obtain ⟨f1,f2,f3,f4⟩:=ol s i0 h
 obtain ⟨m,hm⟩ : ∃x,s.bt[k.toNat]? = some x:=⟨_,List.getElem?_eq_getElem (by omega)⟩
 have LZ:=f2 _ m hm
 unfold qt at LZ
 simp only [Bool.and_eq_true,decide_eq_true_eq] at LZ
 obtain ⟨⟨g1,g2,g3,g4,-⟩,-⟩:=LZ
 obtain ⟨a,bE⟩ : ∃x,s.bY[m.dG.toNat]? = some x:=⟨_,List.getElem?_eq_getElem (by omega)⟩
 obtain ⟨b,aP⟩ : ∃x,s.bY[m.ei.toNat]? = some x:=⟨_,List.getElem?_eq_getElem (by omega)⟩
 have agr:=NM a (f1 _ a bE)
 have ags:=NM b (f1 _ b aP)
 have e1:R (b.j2-a.j2)=b.j2-a.j2:=cu (by omega) (by omega)
 have e2:R (b.j3-a.j3)=b.j3-a.j3:=cu (by omega) (by omega)
 have da:0≤k∧k<s.bt.length:=⟨h0,h1⟩
 have br:0≤m.dG∧m.dG<s.bY.length:=⟨g1,g2⟩
 have cb:0≤m.ei∧m.ei<s.bY.length:=⟨g3,g4⟩
 refine ⟨b.j2-a.j2,b.j3-a.j3,?_,?_,by omega,by omega⟩
 ·unfold tS
  simp only [if_pos da,hm,if_pos br,if_pos cb,bE,aP,Option.bind_eq_bind,Option.bind_some,e1,e2]
 ·unfold xa
  simp only [if_pos da,hm,if_pos br,if_pos cb,bE,aP,Option.bind_eq_bind,Option.bind_some,e1,e2]
def rA (l:List Int)(n:Nat)(x:Int):Prop:=0≤x∧x<1000000000∧(∀z,l[n]? = some z→x=z)∧(l[n]? = none→x=0)
theorem uT {l:List Int}(h:cl l){n:Nat}(a2:n<l.length):rA l n l[n]:=by
 have J:=List.getElem?_eq_getElem a2
 have h0:=h.get J
 exact ⟨h0.1,h0.2,fun z cp=>by rw [J] at cp;exact Option.some.inj cp,fun h=>by rw [J] at h;simp at h⟩
theorem xX {l:List Int}{n:Nat}(a2:¬n<l.length):rA l n 0:=by
 have J:l[n]? = none:=by simp;omega
 exact ⟨by omega,by omega,fun z cp=>by rw [J] at cp;simp at cp,fun _=>rfl⟩
theorem rA.take {l:List Int}{n:Nat}{x:Int}(h:rA l n x):V (l.take (n+1))=V (l.take n)+B n*x:=PA h.2.2.1 h.2.2.2
theorem aao {a b row:List Int}{carry:Int}{n:Nat}(bE:cl a)(aP:cl b)(bb:carry=0∨carry=1)(qQ:a.length≤1000000)(L0:b.length≤1000000)(aq:row.length≤1000001)(Et:n≤1000001)(a2:n<a.length∨n<b.length∨carry=1):
 ∃x y,rA a n x∧rA b n y∧tU a b carry n row=some (.inl ((carry+x+y) / 1000000000,((n+1:Nat):Int),row++[(carry+x+y) % 1000000000])):=by
 have mn:0≤carry∧carry≤1:=by omega
 unfold tU
 simp only [fC]
 by_cases h1:n<a.length
 ·have hA:=uT bE h1
  have J:=List.getElem?_eq_getElem h1
  rw [if_pos (by simp;omega),if_pos (by omega),Int.toNat_natCast,J]
  simp only [Option.bind_eq_bind,Option.bind_some]
  by_cases h2:n<b.length
  ·have gW:=uT aP h2
   have a0:=List.getElem?_eq_getElem h2
   have gx:=hA.1
   have ht:=hA.2.1
   have i3:=gW.1
   have kp:=gW.2.1
   refine ⟨a[n],b[n],hA,gW,?_⟩
   rw [if_pos (by simp;omega),if_pos (by omega),a0]
   simp only [Option.bind_some]
   rw [cu (x:=carry+a[n]) (by omega) (by omega),cu (x:=carry+a[n]+b[n]) (by omega) (by omega),pI (by omega),mY (by omega),cu (by omega) (by omega),nx (n:=n) (by omega),if_pos (by simp;omega)]
  ·have gx:=hA.1
   have ht:=hA.2.1
   refine ⟨a[n],0,hA,xX h2,?_⟩
   rw [if_neg (by simp;omega),cu (x:=carry+a[n]) (by omega) (by omega),pI (by omega),mY (by omega),cu (by omega) (by omega),nx (n:=n) (by omega),if_pos (by simp;omega),Int.add_zero]
 ·rw [if_neg (by simp;omega)]
  by_cases h2:n<b.length
  ·have gW:=uT aP h2
   have a0:=List.getElem?_eq_getElem h2
   have i3:=gW.1
   have kp:=gW.2.1
   refine ⟨0,b[n],xX h1,gW,?_⟩
   rw [if_pos (by simp;omega),if_pos (by omega),Int.toNat_natCast,a0]
   simp only [Option.bind_eq_bind,Option.bind_some]
   rw [cu (x:=carry+b[n]) (by omega) (by omega),pI (by omega),mY (by omega),cu (by omega) (by omega),nx (n:=n) (by omega),if_pos (by simp;omega),Int.add_zero]
  ·refine ⟨0,0,xX h1,xX h2,?_⟩
   rw [if_neg (by simp;omega),if_pos (by simp;omega),pI (by omega),mY (by omega),cu (by omega) (by omega),nx (n:=n) (by omega),if_pos (by simp;omega),Int.add_zero,Int.add_zero]
theorem aap {a b:List Int}(bE:cl a)(aP:cl b)(qQ:a.length≤900000)(L0:b.length≤900000): ∃r,xn a b=some r∧cl r∧V r=V a+V b∧r.length≤a.length+b.length+1:=by
 obtain ⟨r,aq,h1,h2,ab⟩:=jA (f:=fun w:Int×Int×List Int=>tU a b w.1 w.2.1 w.2.2) (eL:=fun w=> ∃n:Nat,w.2.1=n∧w.2.2.length=n∧(w.1=0∨w.1=1)∧cl w.2.2∧V w.2.2+w.1*B n=V (a.take n)+V (b.take n)∧(n≤a.length∨n≤b.length∨w.1=0)∧n≤a.length+b.length+1) (m:=fun w=>(a.length+b.length+2-w.2.1.toNat))
  (fun r=>cl r∧V r=V a+V b∧r.length≤a.length+b.length+1) (by
    rintro ⟨carry,ii,row⟩ ⟨n,e1,e2,bR,c7,dh,dS,eF⟩
    simp only at e1 e2 bR c7 dh dS
    subst e1
    by_cases a2:n<a.length∨n<b.length∨carry=1
    ·obtain ⟨x,y,J,a0,qK⟩:=aao (row:=row) bE aP bR (by omega) (by omega) (by omega) (by omega) a2
     have x0:=J.1
     have x1:=J.2.1
     have SL:=a0.1
     have my:=a0.2.1
     have LR:n≤a.length+b.length:=by omega
     refine .inl ⟨_,qK,⟨n+1,rfl,by simp [e2],by simp only;omega,c7.append (cl.cons (by omega) cl.nil),?_,?_,by omega⟩,by simp only;omega⟩
     ·simp only
      rw [uE,e2,l4,k2,AU,J.take,a0.take]
      have:=Int.mul_ediv_add_emod (carry+x+y) 1000000000
      generalize (carry+x+y) / 1000000000=u at *
      generalize (carry+x+y) % 1000000000=t at *
      have ca:t=carry+x+y-1000000000*u:=by omega
      rw [ca]
      grind
     ·simp only
      by_cases h:n+1≤a.length∨n+1≤b.length
      ·omega
      ·
       have agb : ¬n<a.length:=by omega
       have agc : ¬n<b.length:=by omega
       have hJ:x=0:=J.2.2.2 (by simp;omega)
       have iR:y=0:=a0.2.2.2 (by simp;omega)
       omega
    ·refine .inr ⟨row,?_,c7,?_,by omega⟩
     ·unfold tU
      simp only [fC]
      rw [if_neg (by simp;omega),if_neg (by simp;omega),if_neg (by simp;omega)]
     ·have bb:carry=0:=by omega
      rw [bb,List.take_of_length_le (by omega),List.take_of_length_le (by omega)] at dh
      omega) (0,0,[]) ⟨0,rfl,rfl,.inl rfl,cl.nil,by simp [V],by omega,by omega⟩
 unfold xn I6
 rw [aq]
 exact ⟨r,rfl,h1,h2,ab⟩
theorem ZC {neg:Bool}{r:List Int}(aq:cl r)(aU:r.length≤5000000)(qh:V r<B 60):hL neg r=some (gU (eb neg (V r))):=by
 have h0:=mC aq
 have:hL neg r=hL neg (L (V r)):=by
  unfold hL xm
  have hlen:=(iX h0).2 qh
  rw [rb aq aU,rb (gY _) (by omega),eg h0]
 rw [this,pT h0 qh]
theorem ZD {a b row:List Int}{carry:Int}{n:Nat}(bE:cl a)(aP:cl b)(bb:carry=0∨carry=1)(qQ:a.length≤1000000)(a2:n<a.length)(aq:n<row.length):
 ∃x y,rA a n x∧rA b n y∧w3 a b a.length carry n row=some (.inl ((carry+x+y) / 1000000000,((n+1:Nat):Int),row.set n ((carry+x+y) % 1000000000))):=by
 have mn:0≤carry∧carry≤1:=by omega
 have hA:=uT bE a2
 have J:=List.getElem?_eq_getElem a2
 have gx:=hA.1
 have ht:=hA.2.1
 unfold w3
 simp only [fC]
 rw [if_pos (by simp;omega),if_pos (by omega),Int.toNat_natCast,J]
 simp only [Option.bind_eq_bind,Option.bind_some]
 by_cases h2:n<b.length
 ·have gW:=uT aP h2
  have a0:=List.getElem?_eq_getElem h2
  have i3:=gW.1
  have kp:=gW.2.1
  refine ⟨a[n],b[n],hA,gW,?_⟩
  rw [if_pos (by simp;omega),if_pos (by omega),a0]
  simp only [Option.bind_some]
  rw [if_pos (by omega),if_pos (by omega),cu (x:=a[n]+carry) (by omega) (by omega),cu (x:=a[n]+carry+b[n]) (by omega) (by omega),pI (by omega),mY (by omega),cu (by omega) (by omega),nx (n:=n) (by omega),Nat.zero_add,Int.add_comm a[n] carry]
 ·refine ⟨a[n],0,hA,xX h2,?_⟩
  rw [if_neg (by simp;omega),if_pos (by omega),if_pos (by omega),cu (x:=a[n]+carry) (by omega) (by omega),pI (by omega),mY (by omega),cu (by omega) (by omega),nx (n:=n) (by omega),Nat.zero_add,Int.add_zero,Int.add_comm a[n] carry]
theorem ZE {a b:List Int}(bE:cl a)(aP:cl b)(qQ:a.length≤900000)(tp:b.length≤a.length):
 ∃r,zU a b a.length 0 0 (List.replicate (a.length+1) 0)=some r∧(r.1=0∨r.1=1)∧cl r.2∧r.2.length=a.length+1∧V r.2+r.1*B a.length=V a+V b∧r.2[a.length]? = some 0:=by
 refine jA (eL:=fun w:Int×Int×List Int=> ∃n:Nat,w.2.1=n∧n≤a.length∧(w.1=0∨w.1=1)∧cl w.2.2∧w.2.2.length=a.length+1∧V w.2.2+w.1*B n=V (a.take n)+V (b.take n)∧ ∀j,n≤j→j<a.length+1→w.2.2[j]? = some 0) (m:=fun w=>a.length-w.2.1.toNat) _ ?_ _ ⟨0,rfl,by omega,.inl rfl,cl.Ly _,by simp,by simp [V,KF],fun j _ h=>by simp [List.getElem?_replicate];omega⟩
 rintro ⟨carry,ii,row⟩ ⟨n,e1,e2,bR,c7,dh,dS,eF⟩
 simp only at e1 bR c7 dh dS eF ⊢
 subst e1
 by_cases a2:n=a.length
 ·subst a2
  refine .inr ⟨(carry,row),by simp [w3],bR,c7,dh,?_,eF _ (Nat.le_refl _) (by omega)⟩
  rw [List.take_length,List.take_of_length_le tp] at dS
  exact dS
 ·obtain ⟨x,y,J,a0,qK⟩:=ZD (row:=row) (n:=n) bE aP bR (by omega) (by omega) (by omega)
  have x0:=J.1
  have x1:=J.2.1
  have SL:=a0.1
  have my:=a0.2.1
  refine .inl ⟨_,qK,⟨n+1,rfl,by omega,by simp only;omega,c7.set (by omega),by simpa using dh,?_,fun j h1 h2=> ?_⟩,by simp only;omega⟩
  ·simp only
   rw [rm (eF n (Nat.le_refl _) (by omega)),l4,J.take,a0.take]
   have:=Int.mul_ediv_add_emod (carry+x+y) 1000000000
   generalize (carry+x+y) / 1000000000=u at *
   generalize (carry+x+y) % 1000000000=t at *
   have ca:t=carry+x+y-1000000000*u:=by omega
   rw [ca]
   grind
  ·simp only
   rw [List.getElem?_set_ne (by omega)]
   exact eF j (by omega) h2
theorem O9 {a b:List Int}(bE:cl a)(aP:cl b)(qQ:a.length≤900000)(tp:b.length≤a.length):
 (if 0≤(R ((len_ eI a)+(1:Int)))∧(8:Int)*(R ((len_ eI a)+(1:Int)))≤281474976710656∧(R ((len_ eI a)+(1:Int)))<9223372036854775808 then
   (zU a b (len_ eI a) 0 0 (List.replicate (R ((len_ eI a)+(1:Int))).toNat 0:List Int)).bind fun bc =>
   if 0≤(len_ eI a)∧(len_ eI a)<(bc.2.length:Nat) then
   if (0+(len_ eI a).toNat)<bc.2.length then
   (pR (bc.2.set (0+(len_ eI a).toNat) bc.1)).bind fun ck=>some ck
   else none
   else none
   else none)=some (L (V a+V b)):=by
 obtain ⟨r,aq,h1,h2,ab,au,aA⟩:=ZE bE aP qQ tp
 rw [fC,nx (by omega),if_pos (by omega),Int.toNat_natCast,aq,Option.bind_some,if_pos (by omega),Int.toNat_natCast,Nat.zero_add,if_pos (by omega)]
 have Bm:cl (r.2.set a.length r.1):=h2.set (by omega)
 rw [xN Bm (by simp;omega),rm aA,Option.bind_some]
 congr 2
 rw [← au]
 grind
theorem aa2 {a b:List Int}(bE:cl a)(aP:cl b)(qQ:a.length≤900000)(L0:b.length≤900000):xx a b=some (L (V a+V b)):=by
 unfold xx
 by_cases h:a.length<b.length
 ·rw [if_pos (by rw [fC,fC];simpa using h)]
  have:=O9 aP bE L0 (by omega)
  rw [Int.add_comm (V a)]
  exact this
 ·rw [if_neg (by rw [fC,fC];simpa using h)]
  exact O9 bE aP qQ (by omega)
theorem YU {a b row:List Int}{less:Int}{n:Nat}(bE:cl a)(aP:cl b)(aU:less=0∨less=1)(qQ:a.length≤1000000)(a2:n<a.length)(aq:n<row.length):
 ∃x y,rA a n x∧rA b n y∧w1 b a a.length less n row=some (.inl (if x-less-y<0 then (1,((n+1:Nat):Int),row.set n (x-less-y+1000000000)) else (0,((n+1:Nat):Int),row.set n (x-less-y)))):=by
 have mn:0≤less∧less≤1:=by omega
 have hA:=uT bE a2
 have J:=List.getElem?_eq_getElem a2
 have gx:=hA.1
 have ht:=hA.2.1
 unfold w1
 simp only [fC]
 rw [if_pos (by simp;omega),if_pos (by omega),Int.toNat_natCast,J]
 simp only [Option.bind_eq_bind,Option.bind_some]
 by_cases h2:n<b.length
 ·have gW:=uT aP h2
  have a0:=List.getElem?_eq_getElem h2
  have i3:=gW.1
  have kp:=gW.2.1
  refine ⟨a[n],b[n],hA,gW,?_⟩
  rw [if_pos (by simp;omega),if_pos (by omega),a0]
  simp only [Option.bind_some]
  rw [cu (x:=a[n]-less) (by omega) (by omega),cu (x:=a[n]-less-b[n]) (by omega) (by omega),nx (n:=n) (by omega),cu (x:=a[n]-less-b[n]+1000000000) (by omega) (by omega),Nat.zero_add]
  by_cases h:a[n]-less-b[n]<0
  ·rw [if_pos (by simpa using h),if_pos h,if_pos (by omega),if_pos (by omega)]
  ·rw [if_neg (by simpa using h),if_neg h,if_pos (by omega),if_pos (by omega)]
 ·refine ⟨a[n],0,hA,xX h2,?_⟩
  rw [if_neg (by simp;omega),cu (x:=a[n]-less) (by omega) (by omega),nx (n:=n) (by omega),cu (x:=a[n]-less+1000000000) (by omega) (by omega),Nat.zero_add,Int.sub_zero]
  by_cases h:a[n]-less<0
  ·rw [if_pos (by simpa using h),if_pos h,if_pos (by omega),if_pos (by omega)]
  ·rw [if_neg (by simpa using h),if_neg h,if_pos (by omega),if_pos (by omega)]
theorem PG {a b:List Int}(bE:cl a)(aP:cl b)(hlen:b.length≤a.length)(tp:V b≤V a)(qQ:a.length≤900000):sQ a b=some (L (V a-V b)):=by
 have : ∃r,Jr b a a.length 0 0 (List.replicate a.length 0)=some r∧cl r∧r.length=a.length∧V r=V a-V b:=by
  refine jA (eL:=fun w:Int×Int×List Int=> ∃n:Nat,w.2.1=n∧n≤a.length∧(w.1=0∨w.1=1)∧cl w.2.2∧w.2.2.length=a.length∧V w.2.2-w.1*B n=V (a.take n)-V (b.take n)∧ ∀j,n≤j→j<a.length→w.2.2[j]? = some 0) (m:=fun w=>a.length-w.2.1.toNat) _ ?_ _ ⟨0,rfl,by omega,.inl rfl,cl.Ly _,by simp,by simp [V,KF],fun j _ h=>by simp [List.getElem?_replicate];omega⟩
  rintro ⟨less,ii,row⟩ ⟨n,e1,e2,bR,c7,dh,dS,eF⟩
  simp only at e1 bR c7 dh dS eF ⊢
  subst e1
  by_cases a2:n=a.length
  ·subst a2
   refine .inr ⟨row,by simp [w1],c7,dh,?_⟩
   rw [List.take_length,List.take_of_length_le hlen] at dS
   have h2:=m8 c7
   rw [dh] at h2
   rcases bR with rfl|rfl<;>omega
  ·obtain ⟨x,y,J,a0,qK⟩:=YU (row:=row) (n:=n) bE aP bR (by omega) (by omega) (by omega)
   have x0:=J.1
   have x1:=J.2.1
   have SL:=a0.1
   have my:=a0.2.1
   rw [qK]
   refine .inl ⟨_,rfl,?_⟩
   by_cases h:x-less-y<0
   ·rw [if_pos h]
    refine ⟨⟨n+1,rfl,by omega,.inr rfl,c7.set (by omega),by simpa using dh,?_,fun j h1 h2=> ?_⟩,by simp only;omega⟩
    ·simp only
     rw [rm (eF n (Nat.le_refl _) (by omega)),l4,J.take,a0.take]
     grind
    ·simp only
     rw [List.getElem?_set_ne (by omega)]
     exact eF j (by omega) h2
   ·rw [if_neg h]
    refine ⟨⟨n+1,rfl,by omega,.inl rfl,c7.set (by omega),by simpa using dh,?_,fun j h1 h2=> ?_⟩,by simp only;omega⟩
    ·simp only
     rw [rm (eF n (Nat.le_refl _) (by omega)),J.take,a0.take]
     grind
    ·simp only
     rw [List.getElem?_set_ne (by omega)]
     exact eF j (by omega) h2
 obtain ⟨r,aq,h1,h2,ab⟩:=this
 unfold sQ
 simp only [fC]
 rw [if_pos (by omega),Int.toNat_natCast,aq]
 simp only [Option.bind_eq_bind,Option.bind_some]
 rw [xN h1 (by omega),ab]
 rfl
theorem QH {a b:Int}(h:decide (a<0)=decide (b<0)):eb (decide (a<0)) ((a.natAbs:Int)+(b.natAbs:Int))=a+b:=by
 have cB:a<0↔b<0:=by simpa using h
 unfold eb
 by_cases h1:a<0
 ·have:=cB.1 h1
  simp only [h1,decide_true,if_true]
  omega
 ·have : ¬b<0:=fun aP=>h1 (cB.2 aP)
  simp only [h1,decide_false,Bool.false_eq_true,if_false]
  omega
theorem DS {a b:Int}(h:¬decide (a<0)=decide (b<0)):eb (decide (a<0)) ((a.natAbs:Int)-(b.natAbs:Int))=a+b∧eb (decide (b<0)) ((b.natAbs:Int)-(a.natAbs:Int))=a+b:=by
 have cB : ¬(a<0↔b<0):=by simpa using h
 unfold eb
 by_cases h1:a<0
 ·have h2 : ¬b<0:=fun aP=>cB ⟨fun _=>aP,fun _=>h1⟩
  simp only [h1,h2,decide_true,if_true,decide_false,Bool.false_eq_true,if_false]
  omega
 ·have h2:b<0:=by
   apply Classical.byContradiction
   intro aP
   exact cB ⟨fun h=>absurd h h1,fun h=>absurd h aP⟩
  simp only [h1,h2,decide_true,if_true,decide_false,Bool.false_eq_true,if_false]
  omega
theorem DI {x y:Int}(J:0≤x)(Lz:x≤y):(L x).length≤(L y).length:=by
 apply (iX J).2
 have:=m8 (gY y)
 rw [eg (by omega)] at this
 omega
theorem Pa {a b:Int}(bE:(a.natAbs:Int)<B 50)(aP:(b.natAbs:Int)<B 50):pQ (gU a) (gU b)=some (gU (a+b)):=by
 have sB:=(iX (k:=50) (n:=a.natAbs) (by omega)).2 bE
 have vC:=(iX (k:=50) (n:=b.natAbs) (by omega)).2 aP
 have qh:B 50+B 50≤B 60:=by
  have h1:B 51≤B 60:=qx (by omega)
  have h2:=oz 50
  rw [l4] at h1
  omega
 have bX:pQ (gU a) (gU b)=(if (decide (a<0) == decide (b<0))=true then (xn (L a.natAbs) (L b.natAbs)).bind fun r2=>(hL (decide (a<0)) r2).bind fun bh=>some bh else (pP (L a.natAbs) (L b.natAbs)).bind fun r2=>if (decide ((0:Int)≤r2))=true then (rK (L a.natAbs) (L b.natAbs)).bind fun aZ=>(hL (decide (a<0)) aZ).bind fun ck=>some ck else (rK (L b.natAbs) (L a.natAbs)).bind fun aZ=>(hL (decide (b<0)) aZ).bind fun ck=>some ck):=rfl
 rw [bX]
 by_cases h:decide (a<0)=decide (b<0)
 ·rw [if_pos (by simpa using h)]
  obtain ⟨r,r1,r2,bc,bh⟩:=aap (gY a.natAbs) (gY b.natAbs) (by omega) (by omega)
  rw [eg (by omega),eg (by omega)] at bc
  rw [r1,Option.bind_some,ZC r2 (by omega) (by omega),bc,QH h]
  rfl
 ·rw [if_neg (by simpa using h),rV (jc _) (jc _) (by omega),eg (by omega),eg (by omega),Option.bind_some]
  by_cases bb:(b.natAbs:Int)≤a.natAbs
  ·have vk:0≤kS (a.natAbs:Int) b.natAbs:=by
    apply Int.not_lt.mp
    intro h1
    have:=sV.1 h1
    omega
   rw [if_pos (by simpa using vk),sub_eq (gY _) (gY _) (DI (by omega) bb) (by rw [eg (by omega),eg (by omega)];exact bb) (by omega),eg (by omega),eg (by omega),Option.bind_some,pT (by omega) (by omega),(DS h).1]
   rfl
  ·have vk : ¬0≤kS (a.natAbs:Int) b.natAbs:=by
    have:=sV.2 (show (a.natAbs:Int)<b.natAbs by omega)
    omega
   rw [if_neg (by simpa using vk),sub_eq (gY _) (gY _) (DI (by omega) (by omega)) (by rw [eg (by omega),eg (by omega)];omega) (by omega),eg (by omega),eg (by omega),Option.bind_some,pT (by omega) (by omega),(DS h).2]
   rfl
theorem aaq {a b:Int}(bE:(a.natAbs:Int)<B 50)(aP:(b.natAbs:Int)<B 50):w8 (gU a) (gU b)=some (gU (a+b)):=by
 have sB:=(iX (k:=50) (n:=a.natAbs) (by omega)).2 bE
 have vC:=(iX (k:=50) (n:=b.natAbs) (by omega)).2 aP
 have bX:w8 (gU a) (gU b)=((ql (L a.natAbs) (L b.natAbs)).bind fun r1=>if (decide (a<0) == decide (b<0))=true then (xx (L a.natAbs) (L b.natAbs)).bind fun r2=>(m0 (decide (a<0)) r2).bind fun bh=>some bh else if (decide ((0:Int)≤r1))=true then (sQ (L a.natAbs) (L b.natAbs)).bind fun aZ=>(m0 (decide (a<0)) aZ).bind fun ck=>some ck else (sQ (L b.natAbs) (L a.natAbs)).bind fun aZ=>(m0 (decide (b<0)) aZ).bind fun ck=>some ck):=rfl
 rw [bX,OG (jc _) (jc _) (by omega),eg (by omega),eg (by omega),Option.bind_some]
 by_cases h:decide (a<0)=decide (b<0)
 ·rw [if_pos (by simpa using h),aa2 (gY _) (gY _) (by omega) (by omega),eg (by omega),eg (by omega),Option.bind_some,rO (by omega),QH h]
  rfl
 ·rw [if_neg (by simpa using h)]
  by_cases bb:(b.natAbs:Int)≤a.natAbs
  ·have vk:0≤kS (a.natAbs:Int) b.natAbs:=by
    apply Int.not_lt.mp
    intro h1
    have:=sV.1 h1
    omega
   rw [if_pos (by simpa using vk),PG (gY _) (gY _) (DI (by omega) bb) (by rw [eg (by omega),eg (by omega)];exact bb) (by omega),eg (by omega),eg (by omega),Option.bind_some,rO (by omega),(DS h).1]
   rfl
  ·have vk : ¬0≤kS (a.natAbs:Int) b.natAbs:=by
    have:=sV.2 (show (a.natAbs:Int)<b.natAbs by omega)
    omega
   rw [if_neg (by simpa using vk),PG (gY _) (gY _) (DI (by omega) (by omega)) (by rw [eg (by omega),eg (by omega)];omega) (by omega),eg (by omega),eg (by omega),Option.bind_some,rO (by omega),(DS h).2]
   rfl
theorem Kz {b:Int}:eb (!(decide (b<0))) (b.natAbs:Int) = -b:=by
 unfold eb
 by_cases h:b<0
 ·simp only [h,decide_true,Bool.not_true,Bool.false_eq_true,if_false]
  omega
 ·simp only [h,decide_false,Bool.not_false,if_true]
  omega
theorem ZF {a b:Int}(bE:(a.natAbs:Int)<B 50)(aP:(b.natAbs:Int)<B 50):tZ (gU a) (gU b)=some (gU (a-b)):=by
 have bX:tZ (gU a) (gU b)=(((m0 (!(decide (b<0))) (L b.natAbs)).bind fun r=>some r).bind fun r1=>(w8 (gU a) r1).bind fun bc=>some bc):=rfl
 rw [bX,rO (by omega),Kz,Option.bind_some,Option.bind_some,aaq bE (by omega),Option.bind_some,Int.sub_eq_add_neg]
theorem Fr.neg {q:Int×Int}(h:Fr q):Fr (-q.1,q.2):=⟨h.pos,by simp only;rw [Int.neg_gcd];exact h.Sf,by simp only;have:=h.num;omega,h.den⟩
theorem ZG {q:Int×Int}(h:Fr q):ur (mk q)=some (mk (-q.1,q.2)):=by
 have h1:=h.num
 have h2:=h.sc
 have ab:=Kx
 have bX:ur (mk q)=((hL (!(decide (q.1<0))) (L q.1.natAbs)).bind fun r1=>if (([]:List Int)++L q.2).length*8≤140737488355328 then some (⟨r1,([]:List Int)++L q.2⟩:aK) else none):=rfl
 rw [bX,pT (by omega) (by omega),Kz,Option.bind_some,if_pos (by simp;omega)]
 rfl
theorem PH {p q:Int×Int}(aj:Fr p)(a9:Fr q):((p.1*q.2).natAbs:Int)<B 48∧(L (p.1.natAbs*q.2:Int)).length≤48∧0≤(p.1.natAbs*q.2:Int):=by
 have aW:=a9.pos
 have a7:=sW (x:=p.1.natAbs) (y:=q.2) (by omega) (by omega) aj.num a9.den
 have Cm:0≤(p.1.natAbs:Int)*q.2:=Int.mul_nonneg (by omega) (by omega)
 rw [Ky (by omega)]
 exact ⟨(iX Cm).1 a7,a7,Cm⟩
theorem abz:B 48+B 48≤B 50:=by
 have h1:B 49≤B 50:=qx (by omega)
 have h2:=oz 48
 rw [l4] at h1
 omega
theorem ZH {p q:Int×Int}(aj:Fr p)(a9:Fr q):q9 (mk p) (mk q)=some (enc (low (p.1*q.2+q.1*p.2) (p.2*q.2))):=by
 have h1:=aj.td
 have h2:=aj.sc
 have ab:=a9.td
 have au:=a9.sc
 have aA:=aj.pos
 have aW:=a9.pos
 have Rt:=aj.num
 have n9:=a9.num
 have agd:=aj.den
 have age:=a9.den
 have gW:=abz
 have afq:B 24≤B 48:=qx (by omega)
 have afr:B 50≤B 60:=qx (by omega)
 obtain ⟨br,cb,jk⟩:=PH aj a9
 obtain ⟨d1,d2,d3⟩:=PH a9 aj
 have afz:=oz 48
 have e1:hF (L p.1.natAbs) (L q.2)=some (L ((p.1.natAbs:Int)*q.2)):=by
  rw [mul_eq (gY _) (gY _) (by omega) (by omega),eg (by omega),eg (by omega)]
 have e2:hF (L q.1.natAbs) (L p.2)=some (L ((q.1.natAbs:Int)*p.2)):=by
  rw [mul_eq (gY _) (gY _) (by omega) (by omega),eg (by omega),eg (by omega)]
 have bR:hL (decide (p.1<0)) (L ((p.1.natAbs:Int)*q.2))=some (gU (p.1*q.2)):=by
  rw [pT jk (by rw [← Ky (by omega)];omega),Au]
 have c7:hL (decide (q.1<0)) (L ((q.1.natAbs:Int)*p.2))=some (gU (q.1*p.2)):=by
  rw [pT d3 (by rw [← Ky (by omega)];omega),Au]
 have dh:pQ (gU (p.1*q.2)) (gU (q.1*p.2))=some (gU (p.1*q.2+q.1*p.2)):=Pa (by omega) (by omega)
 have bi:=sW (x:=p.2) (y:=q.2) (by omega) (by omega) aj.den a9.den
 have dS:hF (L p.2) (L q.2)=some (L (p.2*q.2)):=by
  rw [mul_eq (gY _) (gY _) (by omega) (by omega),eg (by omega),eg (by omega)]
 have Rj:(L (p.1*q.2+q.1*p.2).natAbs).length≤50:=(iX (by omega)).2 (by omega)
 have eF:nS (decide (p.1*q.2+q.1*p.2<0)) (L (p.1*q.2+q.1*p.2).natAbs) (L (p.2*q.2))=some (enc (low (p.1*q.2+q.1*p.2) (p.2*q.2))):=by
  rw [JS (by omega) (Int.mul_pos aA aW) (by omega) (by omega)]
  have:eb (decide (p.1*q.2+q.1*p.2<0)) ((p.1*q.2+q.1*p.2).natAbs:Int)=p.1*q.2+q.1*p.2:=by
   have:=Au (a:=p.1*q.2+q.1*p.2) (b:=1)
   rwa [Int.mul_one,Int.mul_one] at this
  rw [this]
 have Rp:((hF (L p.1.natAbs) (L q.2)).bind fun ck=>(hL (decide (p.1<0)) ck).bind fun b6=>(hF (L q.1.natAbs) (L p.2)).bind fun dc=>(hL (decide (q.1<0)) dc).bind fun ex=>(pQ b6 ex).bind fun gw=>(hF (L p.2) (L q.2)).bind fun gk=>(nS gw.cQ gw.cA gk).bind fun oO=>some oO)=some (enc (low (p.1*q.2+q.1*p.2) (p.2*q.2))):=by
  rw [e1,Option.bind_some,bR,Option.bind_some,e2,Option.bind_some,c7,Option.bind_some,dh,Option.bind_some,dS,Option.bind_some]
  show (nS (decide (p.1*q.2+q.1*p.2<0)) (L (p.1*q.2+q.1*p.2).natAbs) (L (p.2*q.2))).bind _=_
  rw [eF,Option.bind_some]
 have bX:q9 (mk p) (mk q)=((qn (L p.2)).bind fun r1=>if r1=true then (qn (L q.2)).bind fun bh=>if bh=true then (pQ (gU p.1) (gU q.1)).bind fun ck=>(nS ck.cQ ck.cA ([1]:List Int)).bind fun b6=>some b6 else ((hF (L p.1.natAbs) (L q.2)).bind fun ck=>(hL (decide (p.1<0)) ck).bind fun b6=>(hF (L q.1.natAbs) (L p.2)).bind fun dc=>(hL (decide (q.1<0)) dc).bind fun ex=>(pQ b6 ex).bind fun gw=>(hF (L p.2) (L q.2)).bind fun gk=>(nS gw.cQ gw.cA gk).bind fun oO=>some oO) else ((hF (L p.1.natAbs) (L q.2)).bind fun ck=>(hL (decide (p.1<0)) ck).bind fun b6=>(hF (L q.1.natAbs) (L p.2)).bind fun dc=>(hL (decide (q.1<0)) dc).bind fun ex=>(pQ b6 ex).bind fun gw=>(hF (L p.2) (L q.2)).bind fun gk=>(nS gw.cQ gw.cA gk).bind fun oO=>some oO)):=rfl
 rw [bX,AJ (by omega),Option.bind_some]
 by_cases ae:p.2=1
 ·rw [if_pos (by simpa using ae),AJ (by omega),Option.bind_some]
  by_cases aS:q.2=1
  ·rw [if_pos (by simpa using aS),Pa (by omega) (by omega),Option.bind_some]
   have gM:p.1*q.2+q.1*p.2=p.1+q.1:=by rw [ae,aS,Int.mul_one,Int.mul_one]
   have SM:p.2*q.2=1:=by rw [ae,aS];rfl
   rw [gM,SM,Q4] at eF
   rw [gM,SM]
   show (nS (decide (p.1+q.1<0)) (L (p.1+q.1).natAbs) [1]).bind _=_
   rw [eF,Option.bind_some]
  ·rw [if_neg (by simpa using aS)]
   exact Rp
 ·rw [if_neg (by simpa using ae)]
  exact Rp
def pX (n:Int):Bool:=decide (-100≤n∧n≤100)
def qD (vE:Nat)(l:List Int):Bool:=decide (l.length=2*vE) && l.all pX
theorem YV (n:Int):zT n=some (pX n):=by
 unfold zT pX
 by_cases h : -100≤n<;>simp [h]
theorem Pb (s:ct)(p:Bool)(aj:j5 s=some p)(q4:p=true→s.bY.length≤6)(l:List Int)(aU:l.length≤maxLen):sK s l=some (p && qD s.bY.length l):=by
 have hm:=xz
 unfold sK
 simp only [aj,Option.bind_eq_bind,Option.bind_some,fa]
 cases p with
 | false=>rfl
 | true =>
  have q4:=q4 rfl
  have hw:R (2*((s.bY.length:Nat):Int))=2*((s.bY.length:Nat):Int):=cu (by omega) (by omega)
  rw [hw]
  unfold qD
  by_cases e:l.length=2*s.bY.length
  ·have h1:I4 l (l.length:Nat) 0=some (if l.all pX then .inl () else .inr ()):=by
    refine Pu (f:=fun w=>wN l (l.length:Nat) w) l pX (fun n x J=> ?_) ?_
    ·have dE:=fO J
     unfold wN
     have c:(n:Int)<(l.length:Int):=by omega
     have dJ:0≤(n:Int)∧(n:Int)<(l.length:Int):=by omega
     simp only [decide_eq_true c,if_true,if_pos dJ,Int.toNat_natCast,J,Option.bind_eq_bind,Option.bind_some,qq]
     rw [i1 (by omega)]
     unfold pX
     by_cases q : -100≤x∧x≤100
     ·simp [q]
     ·rw [decide_eq_false q];simp
    ·simp [wN]
   have c:((l.length:Int) != 2*(s.bY.length:Int))=false:=by simp;omega
   simp only [c,h1,Bool.false_eq_true,if_false,if_true,Option.bind_some]
   cases l.all pX<;>simp [e]
  ·have c:((l.length:Int) != 2*(s.bY.length:Int))=true:=by simp;omega
   simp only [c,if_true]
   simp [e]
theorem Yl (s:ct)(q4:s.bY.length≤6)(l:List Int)(aU:l.length≤maxLen):zL s l=some (qD s.bY.length l):=by
 have hm:=xz
 have hw:R (2*((s.bY.length:Nat):Int))=2*((s.bY.length:Nat):Int):=cu (by omega) (by omega)
 unfold zL Cr Cx qD
 simp only [fa,hw,Option.bind_eq_bind]
 obtain ⟨r,h1,h2⟩:=Ze (f:=fun w=>vG l (l.length:Nat) w) l (fun n=> !pX n) (fun n x J=>by
  have dE:=fO J
  unfold vG CX
  have c:(n:Int)<(l.length:Int):=by omega
  have dJ:0≤(n:Int)∧(n:Int)<(l.length:Int):=by omega
  simp only [decide_eq_true c,if_true,if_pos dJ,Int.toNat_natCast,J,Option.bind_eq_bind,Option.bind_some,YV]
  rw [i1 (by omega)]
  cases pX x<;>rfl) (by simp [vG])
 have qa:Fu l (l.length:Nat) 0=some r:=h1
 rw [qa]
 have acH:(l.any fun n=> !pX n) = !l.all pX:=by
  rw [List.not_all_eq_any_not]
 rw [acH] at h2
 by_cases e:l.length=2*s.bY.length
 ·have c:((l.length:Int) == 2*(s.bY.length:Int))=true:=by simp;omega
  rw [c]
  rcases h2 with ⟨k,rfl,a5,bE⟩|⟨rfl,bE⟩
  ·simp only [Bool.not_eq_true'] at bE
   simp [e,bE,a5]
  ·simp only [Bool.not_eq_false'] at bE
   simp [e,bE]
 ·have c:((l.length:Int) == 2*(s.bY.length:Int))=false:=by simp;omega
  rw [c]
  simp [e]
theorem pJ {i:Int}{a:Nat}(h0:0≤i)(h1:i≤100)(bE:a≤1):R (R (2*i)+(a:Int))=(((2*i+a).toNat:Nat):Int):=by
 rw [cu (x:=2*i) (by omega) (by omega),cu (by omega) (by omega)]
 omega
theorem Of (l:List Int)(h:l.length≤1048576):xd l=some l:=by
 have aP : ∀(n:Nat) x (row:List Int),l[n]? = some x→row.length=l.length→tP l n row=some (.inl (((n+1:Nat):Int),row.set n x)):=by
  intro n x row J aq
  obtain ⟨a2,rfl⟩:=List.getElem?_eq_some_iff.1 J
  have hw:R ((n:Int)+1)=((n+1:Nat):Int):=by rw [cu (by omega) (by omega)];rfl
  simp only [tP,fa,hw]
  simp [a2,aq]
 have he : ∀row:List Int,tP l l.length row=some (.inr row):=by
  intro row
  simp [tP,fa]
 have h1:IB l 0 (List.replicate (len_ eI l).toNat 0)=some l :=
  JN l (List.replicate (len_ eI l).toNat 0) (by simp [fa]) aP he
 unfold xd
 rw [h1,if_pos (by rw [fa];omega)]
 simp [fa]
theorem XH (l:List bB)(h:l.length≤1048576):zk l=some l:=by
 have aP : ∀(n:Nat) x (row:List bB),l[n]? = some x→row.length=l.length→tM l n row=some (.inl (((n+1:Nat):Int),row.set n x)):=by
  intro n x row J aq
  obtain ⟨a2,rfl⟩:=List.getElem?_eq_some_iff.1 J
  have hw:R ((n:Int)+1)=((n+1:Nat):Int):=by rw [cu (by omega) (by omega)];rfl
  simp only [tM,fa,hw,De]
  simp [a2,aq]
 have he : ∀row:List bB,tM l l.length row=some (.inr row):=by
  intro row
  simp [tM,fa]
 have h1:HV l 0 (List.replicate (len_ bI l).toNat (⟨ByteArray.empty,0,0,false⟩:bB))=some l :=
  JN l _ (by simp [fa]) aP he
 unfold zk
 rw [h1,if_pos (by rw [fa];omega)]
 simp [fa]
theorem Xt (l:List bM)(h:l.length≤1048576):zh l=some l:=by
 have aP : ∀(n:Nat) x (row:List bM),l[n]? = some x→row.length=l.length→tL l n row=some (.inl (((n+1:Nat):Int),row.set n x)):=by
  intro n x row J aq
  obtain ⟨a2,rfl⟩:=List.getElem?_eq_some_iff.1 J
  have hw:R ((n:Int)+1)=((n+1:Nat):Int):=by rw [cu (by omega) (by omega)];rfl
  simp only [tL,fa,hw,C9]
  simp [a2,aq]
 have he : ∀row:List bM,tL l l.length row=some (.inr row):=by
  intro row
  simp [tL,fa]
 have h1:Hp l 0 (List.replicate (len_ bQ l).toNat (⟨0,0,0⟩:bM))=some l :=
  JN l _ (by simp [fa]) aP he
 unfold zh
 rw [h1,if_pos (by rw [fa];omega)]
 simp [fa]
theorem WR (s:ct)(h1:s.bY.length≤1048576)(h2:s.bt.length≤1048576):zd s=some (s.bY,s.bt):=by
 simp [zd,XH _ h1,Xt _ h2]
def L1 (P:List (List Int)):bu→Prop
 | none=>True
 | some (k,c)=> ∃x,P[k]? = some x∧x.length=c∧c≤1048576
theorem L1.set {P:List (List Int)}{k:Nat}{x y:List Int}(J:P[k]? = some x)(a0:y.length=x.length){h:bu}(fJ:L1 P h):L1 (P.set k y) h:=by
 cases h with
 | none=>trivial
 | some p =>
  obtain ⟨j,c⟩:=p
  obtain ⟨z,h1,h2,ab⟩:=fJ
  by_cases aD:k=j
  ·subst aD
   rw [J] at h1
   obtain rfl:=Option.some.inj h1
   exact ⟨y,by rw [List.getElem?_set,if_pos rfl,if_pos (fO J)],by omega,ab⟩
  ·exact ⟨z,by rw [List.getElem?_set,if_neg aD];exact h1,h2,ab⟩
def kJ:List bB→Nat→List Nat
 | [],_=>[]
 | x::l,n=>if x.k3 then kJ l (n+1) else n::kJ l (n+1)
theorem J6 : ∀(l:List bB) (n i:Nat),i∈kJ l n→n≤i∧i<n+l.length
 | [],n,i,h=>by simp [kJ] at h
 | x::l,n,i,h=>by
  rw [kJ] at h
  simp only [List.length_cons]
  split at h
  ·have:=J6 l (n+1) i h;omega
  ·rcases List.mem_cons.1 h with h|h
   ·omega
   ·have:=J6 l (n+1) i h;omega
theorem PI : ∀(l:List bB) (n:Nat),(kJ l n).length≤l.length
 | [],n=>by simp [kJ]
 | x::l,n=>by
  rw [kJ]
  have:=PI l (n+1)
  split<;>simp only [List.length_cons]<;>omega
theorem YW {l:List bB}{n:Nat}{x:bB}(h:l[n]? = some x)(m:Nat):kJ (l.drop n) m=if x.k3 then kJ (l.drop (n+1)) (m+1) else m::kJ (l.drop (n+1)) (m+1):=by
 rw [Pv h,kJ]
theorem Pc {f:Int×List Int→Option ((Int×List Int)⊕List Int)}(gR:List bB)(q4:gR.length≤1000)
 (h : ∀(n:Nat) acc x,gR[n]? = some x→f ((n:Int),acc)=if x.k3=true then some (.inl (R ((n:Int)+1),acc)) else if (acc++[(n:Int)]).length*8≤140737488355328 then some (.inl (R ((n:Int)+1),acc++[(n:Int)])) else none)
 (he : ∀acc,f ((gR.length:Int),acc)=some (.inr acc)):iter f ((0:Int),[])=some ((kJ gR 0).map (fun n:Nat=>(n:Int))):=by
 obtain ⟨s,h1,h2⟩:=h5 (fun (n:Nat) (acc:List Int)=>((n:Int),acc)) gR.length (fun n acc=>acc++(kJ (gR.drop n) n).map (fun n:Nat=>(n:Int))=(kJ gR 0).map (fun n:Nat=>(n:Int))∧acc.length≤n) (fun acc=>acc) (f:=f) (fun n a2 acc cw=>by
  obtain ⟨cw,aU⟩:=cw
  have J:=List.getElem?_eq_getElem a2
  rw [YW J] at cw
  rw [h n acc _ J,nx (by omega)]
  by_cases c:gR[n].k3=true
  ·rw [if_pos c] at cw ⊢
   exact ⟨_,rfl,cw,by omega⟩
  ·rw [if_neg c] at cw ⊢
   rw [if_pos (by simp only [List.length_append,List.length_cons,List.length_nil];omega)]
   refine ⟨_,rfl,?_,by simp only [List.length_append,List.length_cons,List.length_nil];omega⟩
   rw [List.append_assoc]
   exact cw) (fun acc _=>he acc) [] ⟨by rw [List.drop_zero];rfl,by simp⟩
 obtain ⟨h2,-⟩:=h2
 rw [List.drop_length] at h2
 simp only [kJ,List.map_nil,List.append_nil] at h2
 subst h2
 exact h1
theorem JJ (s:ct)(q4:s.bY.length≤1000):ug s=some ((kJ s.bY 0).map (fun n:Nat=>(n:Int))):=by
 unfold ug IR
 rw [fa,Pc s.bY q4 (fun n acc x J=>by
  have a2:=fO J
  unfold y7
  exact dn (by omega) (bC (by omega) (aN (gt rfl J) rfl))) (fun acc=>by
  unfold y7
  exact dZ (by omega) rfl)]
 rfl
theorem NS (s:ct)(q4:s.bY.length≤1000):vY s=some ((kJ s.bY 0).map (fun n:Nat=>(n:Int))):=by
 unfold vY FB
 rw [fa,Pc s.bY q4 (fun n acc x J=>by
  have a2:=fO J
  unfold yU
  exact dn (by omega) (bC (by omega) (aN (gt rfl J) rfl))) (fun acc=>by
  unfold yU
  exact dZ (by omega) rfl)]
 rfl
def fF (x:Rat):Int×Int:=(x.num,(x.den:Int))
def gg (x:Rat):Prop:=(x.num.natAbs:Int)<B 24∧(x.den:Int)<B 24
def cT (x:Rat):aK:=mk (fF x)
instance aeX (x:Rat):Decidable (gg x):=by unfold gg;infer_instance
theorem gg.fc {x:Rat}(h:gg x):Fr (fF x):=⟨by have:=x.den_pos;simp only [fF];omega,by simp only [fF];rw [Int.gcd,Int.natAbs_natCast];exact x.reduced,h.1,h.2⟩
theorem aa3 {n d:Int}(bG:0<d):low n d=if gg (Rat.divInt n d) then some (fF (Rat.divInt n d)) else none:=by
 have e1:(Rat.divInt n d).num=n / (Int.gcd n d:Int):=by rw [Rat.num_divInt,Int.sign_eq_one_of_pos bG,Int.one_mul,Int.gcd_comm]
 have e2:((Rat.divInt n d).den:Int)=d / (Int.gcd n d:Int):=by
  rw [Rat.den_divInt,if_neg (by omega),Int.gcd_comm]
  rw [Int.natCast_ediv,Int.natAbs_of_nonneg (by omega)]
 have bR:gg (Rat.divInt n d)↔fits ((n / (Int.gcd n d:Int)).natAbs:Int)∧fits (d / (Int.gcd n d:Int)):=by unfold gg fits;rw [e1,e2]
 unfold low
 by_cases c:gg (Rat.divInt n d)
 ·rw [if_pos c,if_pos (bR.1 c)]
  unfold fF;rw [e1,e2]
 ·rw [if_neg c,if_neg (fun x=>c (bR.2 x))]
theorem J7 {n d:Int}{x:Rat}(bG:0<d)(e:(d:Rat)*x=n)(h:gg x):low n d=some (fF x):=by
 have p8:(d:Rat)≠0:=fun c=>by
  have:d=0:=Rat.intCast_inj.1 (by rw [c];rfl)
  omega
 have:x=Rat.divInt n d:=by rw [Rat.divInt_eq_div,← e];grind
 rw [aa3 bG,← this,if_pos h]
theorem xO (x:Rat):((x.den:Int):Rat)*x=((x.num:Int):Rat):=by
 have h:x=(x.num:Rat) / ((x.den:Int):Rat):=by rw [← Rat.divInt_eq_div,Rat.num_divInt_den]
 have bG:((x.den:Int):Rat)≠0:=fun c=>by
  have:(x.den:Int)=0:=Rat.intCast_inj.1 (by rw [c];rfl)
  have:=x.den_pos
  omega
 conv=>lhs;rhs;rw [h]
 grind
theorem QI {x y:Rat}(J:gg x)(a0:gg y)(h:gg (x*y)):sM (cT x) (cT y)=some (cT (x*y)):=by
 unfold cT
 rw [Zw J.fc a0.fc,J7 (x:=x*y) (Int.mul_pos J.fc.pos a0.fc.pos) ?_ h];rfl
 have h1:=xO x
 have h2:=xO y
 simp only [fF,Rat.intCast_mul]
 grind
theorem KA {x y:Rat}(J:gg x)(a0:gg y)(h:gg (x+y)):q9 (cT x) (cT y)=some (cT (x+y)):=by
 unfold cT
 rw [ZH J.fc a0.fc,J7 (x:=x+y) (Int.mul_pos J.fc.pos a0.fc.pos) ?_ h];rfl
 have h1:=xO x
 have h2:=xO y
 simp only [fF,Rat.intCast_mul,Rat.intCast_add]
 grind
theorem gg.neg {x:Rat}(h:gg x):gg (-x):=by
 unfold gg at h ⊢
 rw [Rat.neg_num,Rat.neg_den,Int.natAbs_neg];exact h
theorem QJ {x:Rat}(J:gg x):ur (cT x)=some (cT (-x)):=by
 unfold cT
 rw [ZG J.fc]
 simp only [fF,Rat.neg_num,Rat.neg_den]
theorem aar {p:Int×Int}(h:Fr p):sP (mk p)=some true:=by
 have ES:(L p.1.natAbs).length≤24:=(iX (by omega)).2 h.num
 have LW:(L p.2).length≤24:=(iX (by have:=h.pos;omega)).2 h.den
 have aj:=h.pos
 obtain ⟨ae,gx,ht⟩:=JI (a:=L p.1.natAbs) (by omega)
 obtain ⟨aS,i3,kp⟩:=JI (a:=L p.2) (by omega)
 have h1:ae=true:=ht.2 ⟨jc _,by omega⟩
 have h2:aS=true:=kp.2 ⟨jc _,by omega⟩
 subst h1;subst h2
 have bG:(L p.2)≠[]:=fun c=>by have:=s7.1 c;omega
 have agf:=List.length_pos_iff.mpr bG
 have e1:zH (mk p).fl=some true:=by
  unfold zH
  show (rL (L p.1.natAbs)).bind _=_
  rw [gx]
  simp only [Option.bind_some,if_true,fC]
  show (if decide (p.1<0)=true then some (decide ((0:Int)<(L p.1.natAbs).length)) else some true)=_
  by_cases c:p.1<0
  ·rw [if_pos (by simpa using c)]
   have:L p.1.natAbs≠[]:=fun c=>by have:=s7.1 c;omega
   have:=List.length_pos_iff.mpr this
   rw [decide_eq_true (by omega)]
  ·rw [if_neg (by simpa using c)]
 unfold sP
 rw [e1]
 simp only [Option.bind_eq_bind,Option.bind_some,if_true,fC]
 show (rL (L p.2)).bind _=_
 rw [i3]
 simp only [Option.bind_some,if_true]
 rw [show (mk p).ho=L p.2 from rfl,show (mk p).fl.cA=L p.1.natAbs from rfl]
 rw [if_neg (by simp [bG]),if_neg (by simp;omega),if_neg (by simp;omega)]
 rw [QE (jc _) (jc _) (by omega) (by omega),eg (by omega),eg (by omega),Qe (by omega),h.Sf]
 simp only [Option.bind_some]
 rw [AJ (by omega)]
 rfl
theorem KK {x:Rat}(J:gg x):sP (cT x)=some true:=aar J.fc
def jG (x:Rat):Int:=if x=0 then 0 else if x<0 then -1 else 1
theorem pU {x:Rat}(J:gg x):pO (cT x)=some (jG x):=by
 unfold pO
 rw [KK J]
 simp only [Option.bind_eq_bind,Option.bind_some,if_true,fC]
 show (if (((L (fF x).1.natAbs).length:Int) == 0)=true then some 0 else if decide ((fF x).1<0)=true then some (-1) else some 1)=_
 have e:((L (fF x).1.natAbs).length:Int)=0↔x.num=0:=by
  rw [K7 (by omega)]
  simp only [fF];omega
 unfold jG
 by_cases h0:x=0
 ·rw [if_pos h0,if_pos]
  rw [beq_iff_eq,e,Rat.num_eq_zero];exact h0
 ·rw [if_neg h0,if_neg (by rw [beq_iff_eq,e,Rat.num_eq_zero];exact h0)]
  by_cases h1:x<0
  ·have h2 : ¬0≤x:=by grind
   have ab : ¬0≤x.num:=fun c=>h2 (Rat.num_nonneg.1 c)
   rw [if_pos h1,if_pos (decide_eq_true (show (fF x).1<0 by simp only [fF];omega))]
  ·have h2:0≤x:=by grind
   have ab:0≤x.num:=Rat.num_nonneg.2 h2
   rw [if_neg h1,if_neg (fun c=>by have:=of_decide_eq_true c;simp only [fF] at this;omega)]
theorem abA {x y:Rat}(J:gg x)(a0:gg y):uq (cT x) (cT y)=some (if x<y then -1 else if y<x then 1 else 0):=by
 unfold cT
 rw [Zy J.fc a0.fc]
 unfold kS
 simp only [fF,← Rat.lt_iff]
theorem QK {x y:Rat}(J:gg x)(a0:gg y)(h0:y≠0)(h:gg (x / y)):uo (cT x) (cT y)=some (cT (x / y)):=by
 have h1:=J.fc.td
 have h2:=J.fc.sc
 have ab:=a0.fc.td
 have au:=a0.fc.sc
 have aA:=J.fc.pos
 have aW:(0:Int)<(fF y).1.natAbs:=by
  have:(fF y).1≠0:=fun c=>h0 (Rat.num_eq_zero.1 c)
  omega
 have a7:=sW (x:=(fF x).1.natAbs) (y:=(fF y).2) (by omega) (by have:=a0.fc.pos;omega) J.fc.num a0.fc.den
 have bi:=sW (x:=(fF x).2) (y:=(fF y).1.natAbs) (by omega) (by omega) J.fc.den a0.fc.num
 have e1:hF (L (fF x).1.natAbs) (L (fF y).2)=some (L (((fF x).1.natAbs:Int)*(fF y).2)):=by
  rw [mul_eq (gY _) (gY _) (by omega) (by omega),eg (by omega),eg (by have:=a0.fc.pos;omega)]
 have e2:hF (L (fF x).2) (L (fF y).1.natAbs)=some (L ((fF x).2*((fF y).1.natAbs:Int))):=by
  rw [mul_eq (gY _) (gY _) (by omega) (by omega),eg (by omega),eg (by omega)]
 unfold uo
 rw [KK J,KK a0]
 simp only [Option.bind_eq_bind,Option.bind_some,if_true]
 show (hF (L (fF x).1.natAbs) (L (fF y).2)).bind _=_
 rw [e1]
 simp only [Option.bind_some]
 show (hF (L (fF x).2) (L (fF y).1.natAbs)).bind _=_
 rw [e2]
 simp only [Option.bind_some]
 rw [JS (Int.mul_nonneg (by omega) (by have:=a0.fc.pos;omega)) (Int.mul_pos aA aW) (by omega) (by omega)]
 simp only [Option.bind_some]
 rw [J7 (x:=x / y) (Int.mul_pos aA aW) ?_ h];rfl
 have d1:=xO x
 have d2:=xO y
 have bR:eb (!((cT x).fl.cQ == (cT y).fl.cQ)) (((fF x).1.natAbs:Int)*(fF y).2)=(if y<0 then -1 else 1)*((fF x).1*(fF y).2):=by
  show eb (!(decide ((fF x).1<0) == decide ((fF y).1<0))) _=_
  have a2:=Rat.num_nonneg (q:=y)
  have hm:0≤((fF x).1.natAbs:Int)*(fF y).2:=Int.mul_nonneg (by omega) (by have:=a0.fc.pos;omega)
  have BZ:y<0↔(fF y).1<0:=by
   have ab:=Rat.num_nonneg (q:=y)
   simp only [fF]
   constructor
   ·intro c;have : ¬0≤y:=by grind
    have au : ¬0≤y.num:=fun c=>this (ab.1 c)
    omega
   ·intro c;have : ¬0≤y:=fun dJ=>by have:=ab.2 dJ;omega
    grind
  by_cases br:(fF x).1<0<;>by_cases cb:(fF y).1<0
  ·rw [if_pos (BZ.2 cb),decide_eq_true br,decide_eq_true cb]
   simp only [eb,BEq.rfl,Bool.not_true,Bool.false_eq_true,if_false]
   rw [show ((fF x).1.natAbs:Int) = -(fF x).1 by omega];grind
  ·rw [if_neg (fun c=>cb (BZ.1 c)),decide_eq_true br,decide_eq_false cb]
   simp only [eb,show (!(true == false))=true from rfl,if_true]
   rw [show ((fF x).1.natAbs:Int) = -(fF x).1 by omega];grind
  ·rw [if_pos (BZ.2 cb),decide_eq_false br,decide_eq_true cb]
   simp only [eb,show (!(false == true))=true from rfl,if_true]
   rw [show ((fF x).1.natAbs:Int)=(fF x).1 by omega];grind
  ·rw [if_neg (fun c=>cb (BZ.1 c)),decide_eq_false br,decide_eq_false cb]
   simp only [eb,BEq.rfl,Bool.not_true,Bool.false_eq_true,if_false]
   rw [show ((fF x).1.natAbs:Int)=(fF x).1 by omega];grind
 rw [bR]
 have c7:(((fF y).1.natAbs:Int):Rat)=(if y<0 then -1 else 1)*(((fF y).1:Int):Rat):=by
  have a2:=Rat.num_nonneg (q:=y)
  by_cases c:y<0
  ·have:y.num<0:=by have : ¬0≤y.num:=fun h=>by have:=a2.1 h;grind
                    omega
   rw [if_pos c,show ((fF y).1.natAbs:Int) = -(fF y).1 by simp only [fF];omega,Rat.intCast_neg];grind
  ·have:0≤y.num:=a2.2 (by grind)
   rw [if_neg c,show ((fF y).1.natAbs:Int)=(fF y).1 by simp only [fF];omega];grind
 rw [Rat.intCast_mul,c7,Rat.intCast_mul,Rat.intCast_mul]
 simp only [fF] at *
 split<;>grind
theorem rW {n:Int}(h:n8 n):oW n=some (cT (n:Rat)):=by
 rw [XC h]
 unfold cT fF
 rw [Rat.num_intCast,Rat.den_intCast];rfl
theorem PJ {n d:Int}{x:Rat}(h0:d≠0)(e:(d:Rat)*x=n)(a2:(n.natAbs:Int)<B 24)(bG:(d.natAbs:Int)<B 24):gg x:=by
 have p8:(d:Rat)≠0:=fun c=>h0 (Rat.intCast_inj.1 (by rw [c];rfl))
 have J:x=Rat.divInt n d:=by rw [Rat.divInt_eq_div,← e];grind
 rw [J]
 unfold gg
 rw [Rat.num_divInt,Rat.den_divInt,if_neg h0]
 constructor
 ·have h1:(d.sign*n / (d.gcd n:Int)).natAbs≤(d.sign*n).natAbs:=Int.natAbs_ediv_le_natAbs _ _
  have h2:(d.sign*n).natAbs≤n.natAbs:=by
   rw [Int.natAbs_mul]
   have:d.sign.natAbs≤1:=by rw [Int.natAbs_sign];split<;>omega
   exact Nat.le_trans (Nat.mul_le_mul_right _ this) (by omega)
  omega
 ·have:d.natAbs / d.gcd n≤d.natAbs:=Nat.div_le_self _ _
  omega
theorem ri {x:Rat}:jG x=0↔x=0:=by
 unfold jG
 split
 ·simp_all
 ·split<;>simp_all
theorem qu {x:Rat}:0<jG x↔0<x:=by
 unfold jG
 split
 ·rename_i h;rw [h];simp
 ·split
  ·rename_i h1 h2;constructor
   ·intro h;omega
   ·intro h;grind
  ·rename_i h1 h2;constructor
   ·intro h;grind
   ·intro h;omega
theorem aas (n:Nat)(a2:n≤1000)(k:Nat)(a5:k<n)(a b:Nat→Rat)(bE:∀j,j<n→gg (a j))(aP:∀j,j<n→gg (b j))(hm:∀j,j<n→gg (-(a k)*b j))(bX:∀j,j<n→gg (a j-a k*b j)):
 zn k 0 n 0 n (a4 n fun j=>cT (a j)) (a4 n fun j=>cT (b j))=some (a4 n fun j=>cT (a j-a k*b j)):=by
 unfold zn
 refine bC (by omega) (aN (x:=cT (a k)) (by rw [Int.toNat_natCast];exact h7 a5) (aN (pU (bE k a5)) ?_))
 refine oj (fun h=> ?_) (fun h=> ?_)
 ·have h0:=ri.1 (by simpa using h)
  congr 1
  exact eY fun j _=>by rw [h0];congr 1;grind
 ·refine aN (QJ (bE k a5)) ?_
  obtain ⟨s,e1,e2⟩:=h5 (f:=fun w:Int×List aK=>wk 0 n 0 n ((n:Nat):Int) (a4 n fun j=>cT (b j)) (cT (-(a k))).fl.cQ (cT (-(a k))).fl.cA (cT (-(a k))).ho w.1 w.2)
   (fun (i:Nat) (_:Unit)=>((i:Int),a4 n fun j=>if j<i then cT (a j-a k*b j) else cT (a j))) n (fun _ _=>True) (fun _=>a4 n fun j=>cT (a j-a k*b j))
   (fun i an _ _=>by
     refine ⟨(),?_,trivial⟩
     unfold wk
     refine dn (by simp only;omega) (bC (by simp only;omega) (aN (x:=cT (b i)) (by simp only;rw [Int.toNat_natCast];exact h7 an) (aN (pU (aP i an)) ?_)))
     refine oj (fun h=> ?_) (fun h=> ?_)
     ·refine bC (by simp only;omega) (aN (x:=cT (a i)) (by simp only;rw [Int.toNat_natCast,h7 an,if_neg (by omega)]) ?_)
      refine aN (QI (bE k a5).neg (aP i an) (hm i an)) (aN (KA (bE i an) (hm i an) (by have:=bX i an;rw [show a i + -(a k)*b i=a i-a k*b i by grind];exact this)) ?_)
      refine bC (by simp only;rw [cX];omega) ?_
      simp only
      rw [fs (by omega),Int.toNat_natCast,Nat.zero_add,k1]
      congr 3
      exact eY fun j _=>by
       by_cases c:j=i
       ·subst c;rw [if_pos rfl,if_pos (by omega)];congr 1;grind
       ·rw [if_neg c]
        by_cases cb:j<i
        ·rw [if_pos cb,if_pos (by omega)]
        ·rw [if_neg cb,if_neg (by omega)]
     ·have h0:b i=0:=ri.1 (by simpa using h)
      simp only
      rw [fs (by omega)]
      congr 3
      exact eY fun j _=>by
       by_cases c:j=i
       ·subst c;rw [if_neg (by omega),if_pos (by omega),h0];congr 1;grind
       ·by_cases cb:j<i
        ·rw [if_pos cb,if_pos (by omega)]
        ·rw [if_neg cb,if_neg (by omega)])
   (fun _ _=>by
     unfold wk
     refine dZ (by simp) ?_
     simp only
     congr 2
     exact eY fun j aD=>if_pos aD) () trivial
  refine aN (x:=a4 n fun j=>cT (a j-a k*b j)) ?_ rfl
  unfold H8
  have bR:(a4 n fun j=>if j<0 then cT (a j-a k*b j) else cT (a j))=a4 n fun j=>cT (a j):=eY fun j _=>if_neg (by omega)
  rw [bR] at e1
  exact e1
theorem ZI (n:Nat)(a2:n≤1000)(k:Nat)(a5:k<n)(a b:Nat→Rat)(bE:∀j,j<n→gg (a j))(aP:∀j,j<n→gg (b j))(hm:∀j,j<n→gg (-(a k)*b j))(bX:∀j,j<n→gg (a j-a k*b j)):
 zi k 0 n (a4 n fun j=>cT (a j)) (a4 n fun j=>cT (b j))=some (a4 n fun j=>cT (a j-a k*b j)):=by
 unfold zi
 rw [cX]
 refine bC (by omega) (aN (x:=cT (a k)) (by rw [Int.toNat_natCast];exact h7 a5) (aN (pU (bE k a5)) ?_))
 refine oj (fun h=> ?_) (fun h=> ?_)
 ·have h0:=ri.1 (by simpa using h)
  congr 1
  exact eY fun j _=>by rw [h0];congr 1;grind
 ·refine aN (QJ (bE k a5)) ?_
  obtain ⟨s,e1,e2⟩:=h5 (f:=fun w:Int×List aK=>v9 0 n ((n:Nat):Int) (a4 n fun j=>cT (b j)) (cT (-(a k))).fl.cQ (cT (-(a k))).fl.cA (cT (-(a k))).ho w.1 w.2)
   (fun (i:Nat) (_:Unit)=>((i:Int),a4 n fun j=>if j<i then cT (a j-a k*b j) else cT (a j))) n (fun _ _=>True) (fun _=>a4 n fun j=>cT (a j-a k*b j))
   (fun i an _ _=>by
     refine ⟨(),?_,trivial⟩
     unfold v9
     refine dn (by simp only;omega) (bC (by simp only;omega) (aN (x:=cT (b i)) (by simp only;rw [Int.toNat_natCast];exact h7 an) (aN (pU (aP i an)) ?_)))
     refine oj (fun h=> ?_) (fun h=> ?_)
     ·refine bC (by simp only;rw [cX];omega) (aN (x:=cT (a i)) (by simp only;rw [Int.toNat_natCast,h7 an,if_neg (by omega)]) ?_)
      refine aN (QI (bE k a5).neg (aP i an) (hm i an)) (aN (KA (bE i an) (hm i an) (by have:=bX i an;rw [show a i + -(a k)*b i=a i-a k*b i by grind];exact this)) ?_)
      refine bC (by simp only;rw [cX];omega) ?_
      simp only
      rw [fs (by omega),Int.toNat_natCast,Nat.zero_add,k1]
      congr 3
      exact eY fun j _=>by
       by_cases c:j=i
       ·subst c;rw [if_pos rfl,if_pos (by omega)];congr 1;grind
       ·rw [if_neg c]
        by_cases cb:j<i
        ·rw [if_pos cb,if_pos (by omega)]
        ·rw [if_neg cb,if_neg (by omega)]
     ·have h0:b i=0:=ri.1 (by simpa using h)
      simp only
      rw [fs (by omega)]
      congr 3
      exact eY fun j _=>by
       by_cases c:j=i
       ·subst c;rw [if_neg (by omega),if_pos (by omega),h0];congr 1;grind
       ·by_cases cb:j<i
        ·rw [if_pos cb,if_pos (by omega)]
        ·rw [if_neg cb,if_neg (by omega)])
   (fun _ _=>by
     unfold v9
     refine dZ (by simp) ?_
     simp only
     congr 2
     exact eY fun j aD=>if_pos aD) () trivial
  refine aN (x:=a4 n fun j=>cT (a j-a k*b j)) ?_ rfl
  unfold HG
  have bR:(a4 n fun j=>if j<0 then cT (a j-a k*b j) else cT (a j))=a4 n fun j=>cT (a j):=eY fun j _=>if_neg (by omega)
  rw [bR] at e1
  exact e1
def mJ (m N:Nat):List bu:=a4 m fun i=>some (i,N+1)
def du (m:Nat)(t:cG):List Int:=a4 m fun i=>((t.B i:Nat):Int)
def ha (N:Nat)(t:cG)(i:Nat):List aK:=a4 (N+1) fun j=>cT (t.T i j)
def iL (m N:Nat)(t:cG):List (List aK):=a4 m (ha N t)
def k7 (N:Nat)(c:Nat→Rat):List aK:=a4 (N+1) fun j=>cT (c j)
structure K8 (m N:Nat) (t:cG) (c:Nat→Rat) (r k:Nat):Prop where
 T : ∀i,i<m→ ∀j,j≤N→gg (t.T i j)
 il : ∀i,i<m→ ∀j,j≤N→gg ((t.cR r k).T i j)
 M : ∀i,i<m→i≠r→ ∀j,j≤N→gg (-(t.T i k)*(t.T r j / t.T r k))
 bb : ∀j,j≤N→gg (c j)
 se : ∀j,j≤N→gg (c j-c k*(t.T r j / t.T r k))
 hm : ∀j,j≤N→gg (-(c k)*(t.T r j / t.T r k))
theorem aat {m N:Nat}(hm:m≤1000)(fN:N<1000){t:cG}{c:Nat→Rat}{r k:Nat}(aq:r<m)(a5:k≤N)(aj:t.T r k≠0)(h:K8 m N t c r k)(lh:Int):
 zo r k lh (mJ m N) (du m t) (k7 N c) (iL m N t)=some (du m (t.cR r k),k7 N (fun j=>c j-c k*(t.T r j / t.T r k)),iL m N (t.cR r k)):=by
 have q5 : ∀j,(t.cR r k).T r j=t.T r j / t.T r k:=fun j=>by simp [cG.cR]
 have yR : ∀i j,i≠r→(t.cR r k).T i j=t.T i j-t.T i k*(t.T r j / t.T r k):=fun i j an=>by simp [cG.cR,an]
 unfold zo
 refine bC (by unfold mJ;rw [cX];omega) (aN (x:=some (r,N+1)) (by rw [Int.toNat_natCast];exact h7 aq) (aN (x:=(r,N+1)) rfl (aN (x:=ha N t r) (f8 aq) ?_)))
 refine bC (by simp only;omega) (aN (x:=cT (t.T r k)) (by rw [Int.toNat_natCast];exact h7 (by omega)) ?_)
 obtain ⟨s1,e1,-⟩:=h5 (f:=fun w:Int×List (List aK)=>wm r k (((N+1:Nat):Nat):Int) lh (mJ m N) (du m t) (k7 N c) (cT (t.T r k)).fl.cQ (cT (t.T r k)).fl.cA (cT (t.T r k)).ho w.1 w.2)
  (fun (i:Nat) (_:Unit)=>((i:Int),a4 m fun eA=>if eA=r then a4 (N+1) (fun j=>if j<i then cT (t.T r j / t.T r k) else cT (t.T r j)) else ha N t eA)) (N+1) (fun _ _=>True)
  (fun _=>a4 m fun eA=>if eA=r then ha N (t.cR r k) r else ha N t eA)
  (fun i an _ _=>by
    refine ⟨(),?_,trivial⟩
    unfold wm
    refine dn (by simp only;omega) (bC (by unfold mJ;rw [cX];omega) (aN (x:=some (r,N+1)) (by rw [Int.toNat_natCast];exact h7 aq) (aN (x:=(r,N+1)) rfl ?_)))
    refine aN (x:=a4 (N+1) (fun j=>if j<i then cT (t.T r j / t.T r k) else cT (t.T r j))) (by simp only;rw [f8 aq,if_pos rfl]) ?_
    refine bC (by simp only;omega) (aN (x:=cT (t.T r i)) (by simp only;rw [Int.toNat_natCast,h7 an,if_neg (by omega)]) ?_)
    refine aN (QK (h.T r aq i (by omega)) (h.T r aq k a5) aj (by have:=h.il r aq i (by omega);rw [q5] at this;exact this)) ?_
    simp only
    rw [fs (by omega),Int.toNat_natCast,Nat.zero_add,k1,k1]
    congr 3
    refine eY fun eA _=> ?_
    by_cases br:eA=r
    ·rw [if_pos br,if_pos br]
     exact eY fun j _=>by
      by_cases cb:j=i
      ·subst cb;rw [if_pos rfl,if_pos (by omega)]
      ·rw [if_neg cb]
       by_cases jk:j<i
       ·rw [if_pos jk,if_pos (by omega)]
       ·rw [if_neg jk,if_neg (by omega)]
    ·rw [if_neg br,if_neg br,if_neg br])
  (fun _ _=>by
    unfold wm
    refine dZ (by simp) ?_
    simp only
    congr 2
    refine eY fun eA _=> ?_
    by_cases br:eA=r
    ·rw [if_pos br,if_pos br]
     exact eY fun j aD=>by rw [if_pos aD,q5]
    ·rw [if_neg br,if_neg br]) () trivial
 refine aN (x:=a4 m fun eA=>if eA=r then ha N (t.cR r k) r else ha N t eA) ?_ ?_
 ·unfold H9
  have bR:(a4 m fun eA=>if eA=r then a4 (N+1) (fun j=>if j<0 then cT (t.T r j / t.T r k) else cT (t.T r j)) else ha N t eA)=iL m N t:=eY fun eA _=>by
   by_cases br:eA=r
   ·rw [if_pos br,br];exact eY fun j _=>if_neg (by omega)
   ·rw [if_neg br]
  rw [bR] at e1
  exact e1
 obtain ⟨s2,e2,-⟩:=h5 (f:=fun w:Int×List (List aK)=>wo r k ((m:Nat):Int) lh (mJ m N) (du m t) (k7 N c) w.1 w.2)
  (fun (i:Nat) (_:Unit)=>((i:Int),a4 m fun eA=>if eA=r∨eA<i then ha N (t.cR r k) eA else ha N t eA)) m (fun _ _=>True)
  (fun _=>iL m N (t.cR r k))
  (fun i an _ _=>by
    refine ⟨(),?_,trivial⟩
    unfold wo
    refine dn (by simp only;omega) (oj (fun dt=> ?_) (fun yl=> ?_))
    ·have yL:i≠r:=by intro c;subst c;simp at dt
     refine bC (by unfold mJ;rw [cX];simp only;omega) (aN (x:=some (i,N+1)) (by simp only;rw [Int.toNat_natCast];exact h7 an) ?_)
     refine bC (by unfold mJ;rw [cX];omega) (aN (x:=some (r,N+1)) (by rw [Int.toNat_natCast];exact h7 aq) ?_)
     refine aN (x:=(i,N+1)) rfl (aN (x:=(r,N+1)) rfl ?_)
     refine aN (x:=ha N t i) (by simp only;rw [f8 an,if_neg (by omega)]) (aN (x:=ha N (t.cR r k) r) (by simp only;rw [f8 aq,if_pos (.inl rfl)]) ?_)
     refine bC (by simp only;omega) ?_
     refine aN (aas (N+1) (by omega) k (by omega) (fun j=>t.T i j) (fun j=>(t.cR r k).T r j) (fun j aD=>h.T i an j (by omega)) (fun j aD=>h.il r aq j (by omega)) (fun j aD=>by rw [q5];exact h.M i an yL j (by omega)) (fun j aD=>by
      have:=h.il i an j (by omega);rw [yR i j yL] at this;rw [q5];exact this)) ?_
     simp only
     rw [fs (by omega),k1,k1]
     congr 3
     refine eY fun eA _=> ?_
     by_cases br:eA=r
     ·rw [if_pos br,if_pos (.inl br),br]
     ·rw [if_neg br]
      by_cases cb:eA=i
      ·subst cb
       rw [if_pos rfl,if_pos (.inr (by omega))]
       exact eY fun j _=>by rw [yR eA j yL,q5]
      ·rw [if_neg cb]
       by_cases jk:eA<i
       ·rw [if_pos (.inr jk),if_pos (.inr (by omega))]
       ·rw [if_neg (by omega),if_neg (by omega)]
    ·have yL:i=r:=by simp at yl;omega
     simp only
     rw [fs (by omega)]
     congr 3
     refine eY fun eA _=> ?_
     by_cases br:eA=r∨eA<i
     ·rw [if_pos br,if_pos (by omega)]
     ·rw [if_neg br,if_neg (by omega)])
  (fun _ _=>by
    unfold wo
    refine dZ (by simp) ?_
    simp only
    congr 2
    exact eY fun eA kA=>if_pos (.inr kA)) () trivial
 refine aN (x:=iL m N (t.cR r k)) ?_ ?_
 ·unfold Ia
  rw [show ((mJ m N).length:Nat)=m from cX ..]
  have bR:(a4 m fun eA=>if eA=r∨eA<0 then ha N (t.cR r k) eA else ha N t eA)=a4 m fun eA=>if eA=r then ha N (t.cR r k) r else ha N t eA:=eY fun eA _=>by
   by_cases br:eA=r
   ·rw [if_pos (.inl br),if_pos br,br]
   ·rw [if_neg (by omega),if_neg br]
  rw [bR] at e2
  exact e2
 refine aN (x:=ha N (t.cR r k) r) (f8 aq) (bC (by simp only;omega) ?_)
 refine aN (ZI (N+1) (by omega) k (by omega) c (fun j=>(t.cR r k).T r j) (fun j aD=>h.bb j (by omega)) (fun j aD=>h.il r aq j (by omega)) (fun j aD=>by rw [q5];exact h.hm j (by omega)) (fun j aD=>by rw [q5];exact h.se j (by omega))) ?_
 refine bC (by unfold k7;rw [cX,cX]) (bC (by unfold du;rw [cX];omega) (bC (by unfold du;rw [cX,Int.toNat_natCast];omega) ?_))
 congr 1
 rw [Int.toNat_natCast,Nat.zero_add]
 congr 1
 ·unfold du
  rw [k1]
  exact eY fun i _=>by
   simp only [cG.cR]
   split<;>rfl
 ·congr 1
  ·exact eY fun j _=>by rw [q5]
  ·unfold iL
   rw [k1]
   exact eY fun i _=>by
    split
    ·rename_i br;rw [br]
    ·rfl
theorem aau {m:Nat}(hm:m≤1000)(t:cG)(lh:Int)(rows:List (List aK))(cost:List aK)(j:Nat): ∃b,zG ⟨lh,rows,du m t,cost⟩ (j:Int)=some b∧(b=true↔ ∃i,i<m∧t.B i=j):=by
 unfold zG
 obtain ⟨r,e,h⟩:=pg (f:=fun w:Int=>y4 j (du m t) ((m:Nat):Int) w) (fun (i:Nat) (_:Unit)=>(i:Int)) m (fun i _=> ∀k,k<i→t.B k≠j) (fun r=>(r = .inr ()∧ ∃i,i<m∧t.B i=j)∨(r = .inl ()∧ ¬∃i,i<m∧t.B i=j))
  (fun i an _ cw=>by
    unfold y4
    by_cases c:t.B i=j
    ·right
     refine ⟨_,dn (by omega) (bC (by unfold du;rw [cX];omega) (aN (x:=((t.B i:Nat):Int)) (by rw [Int.toNat_natCast];exact f8 an) (f7 (by simp [c]) rfl))),.inl ⟨rfl,i,an,c⟩⟩
    ·left
     refine ⟨(),dn (by omega) (bC (by unfold du;rw [cX];omega) (aN (x:=((t.B i:Nat):Int)) (by rw [Int.toNat_natCast];exact f8 an) (iS (by simp;omega) (by rw [fs (by omega)])))),fun k a5=> ?_⟩
     by_cases e:k=i
     ·rw [e];exact c
     ·exact cw k (by omega))
  (fun _ cw=>⟨_,dZ (by omega) rfl,.inr ⟨rfl,fun ⟨i,an,e⟩=>cw i an e⟩⟩) () (fun k a5=>by omega)
 have eK:CT j (du m t) (len_ eI (du m t)) 0=some r:=by
  unfold CT;rw [fC,show (du m t).length=m from cX ..];exact e
 rcases h with ⟨rfl,h⟩|⟨rfl,h⟩
 ·exact ⟨true,aN eK rfl,by simp [h]⟩
 ·exact ⟨false,aN eK rfl,by simp [h]⟩
theorem aa4 {N:Nat}(fN:N<1000)(lh:Int)(rows:List (List aK))(lc:List Int)(c:Nat→Rat){j:Nat}(aD:j≤N)(bb:gg (c j)):uh ⟨lh,rows,lc,k7 N c⟩ (j:Int) false=some (jG (c j)):=by
 unfold uh
 refine bC (by unfold k7;rw [cX];omega) (aN (x:=cT (c j)) (by rw [Int.toNat_natCast];exact f8 (by omega)) (aN (pU bb) ?_))
 refine aN (x:= .inl (jG (c j))) ?_ rfl
 unfold IX
 rw [iter]
 have:y8 lh rows lc (k7 N c) (j:Int) false (jG (c j)) 0=some (.inr (.inl (jG (c j)))):=by
  unfold y8
  exact oj (fun _=>rfl) (fun _=>rfl)
 simp only
 rw [this];rfl
theorem DJ {x y z w:Rat}(a0:0<y)(hw:0<w):(x / y≤z / w↔x*w≤z*y)∧(x / y=z / w↔x*w=z*y):=by
 have e1:x*w=(x / y)*(y*w):=by grind
 have e2:z*y=(z / w)*(y*w):=by grind
 have aj:0<y*w:=Rat.mul_pos a0 hw
 constructor
 ·rw [e1,e2]
  constructor
  ·intro h;exact Rat.mul_le_mul_of_nonneg_right h (Rat.le_of_lt aj)
  ·intro h
   apply Classical.byContradiction
   intro c
   have:z / w<x / y:=by grind
   have:=Rat.mul_lt_mul_of_pos_right this aj
   grind
 ·rw [e1,e2]
  constructor
  ·intro h;rw [h]
  ·intro h
   have dt:y*w≠0:=by grind
   grind
def DT (m N:Nat)(t:cG)(j:Nat)(r:Int):Prop :=
 (r = -1∧ ∀i,i<m→ ¬0<t.T i j)∨ ∃b:Nat,r=b∧b<m∧0<t.T b j∧(∀i,i<m→0<t.T i j→t.T b N*t.T i j≤t.T i N*t.T b j)∧(∀i,i<m→0<t.T i j→t.T b N*t.T i j=t.T i N*t.T b j→t.B b≤t.B i)
theorem aav {m N:Nat}(hm:m≤1000)(fN:N<1000)(t:cG)(lh:Int)(cost:List aK){j:Nat}(aD:j≤N)(iJ:∀i,i<m→ ∀j,j≤N→gg (t.T i j))(a9:∀i,i<m→0<t.T i j→gg (t.T i N / t.T i j)):
 ∃r,zI ⟨lh,iL m N t,du m t,cost⟩ (j:Int)=some r∧DT m N t j r:=by
 unfold zI
 obtain ⟨r,e,h⟩:=pg (f:=fun w:Int×Int×Bool×(List Int)×(List Int)=>wA lh (iL m N t) (du m t) cost j ((m:Nat):Int) w.1 w.2.1 w.2.2.1 w.2.2.2.1 w.2.2.2.2)
  (fun (i:Nat) (s:Int×aK)=>(s.1,(i:Int),s.2.fl.cQ,s.2.fl.cA,s.2.ho)) m
  (fun n s=>(s.1 = -1∧ ∀i,i<n→ ¬0<t.T i j)∨ ∃b:Nat,s.1=b∧b<n∧0<t.T b j∧s.2=cT (t.T b N / t.T b j)∧ ∀i,i<n→0<t.T i j→t.T b N / t.T b j<t.T i N / t.T i j∨(t.T b N / t.T b j=t.T i N / t.T i j∧t.B b≤t.B i))
  (fun r=>DT m N t j r)
  (fun n a2 s cw=>by
    left
    unfold wA
    have g1:0≤((n:Nat):Int)∧((n:Nat):Int)<((iL m N t).length:Nat):=by unfold iL;rw [cX];omega
    have g2:(iL m N t)[((n:Nat):Int).toNat]? = some (ha N t n):=by rw [Int.toNat_natCast];exact f8 a2
    have g3:0≤((j:Nat):Int)∧((j:Nat):Int)<((ha N t n).length:Nat):=by unfold ha;rw [cX];omega
    have g4:(ha N t n)[((j:Nat):Int).toNat]? = some (cT (t.T n j)):=by rw [Int.toNat_natCast];exact f8 (by omega)
    have kh:R ((n:Int)+1)=((n+1:Nat):Int):=fs (by omega)
    have wl:R (len_ aM (ha N t n)-1)=(N:Int):=by
     rw [fa,show (ha N t n).length=N+1 from cX ..,cu (by omega) (by omega)];omega
    by_cases aj:0<t.T n j
    ·have bX : ¬jG (t.T n j)≤0:=by have:=qu.2 aj;omega
     have g5:0≤R (len_ aM (ha N t n)-1)∧R (len_ aM (ha N t n)-1)<((ha N t n).length:Nat):=by rw [wl];unfold ha;rw [cX];omega
     have g6:(ha N t n)[(R (len_ aM (ha N t n)-1)).toNat]? = some (cT (t.T n N)):=by rw [wl,Int.toNat_natCast];exact f8 (by omega)
     have g7:uo (cT (t.T n N)) (cT (t.T n j))=some (cT (t.T n N / t.T n j)):=QK (iJ n a2 N (by omega)) (iJ n a2 j aD) (by grind) (a9 n a2 aj)
     rcases cw with ⟨h1,h2⟩|⟨b,h1,aP,jy,h2,ab⟩
     ·refine ⟨((n:Int),cT (t.T n N / t.T n j)),dn (by simp only;omega) (bC g1 (aN g2 (bC g3 (aN g4 (aN (pU (iJ n a2 j aD)) (dZ bX (bC g5 (aN g6 (aN g7 (dn (by simp only;omega) ?_)))))))))),.inr ⟨n,rfl,by omega,aj,rfl,fun i an ig=> ?_⟩⟩
      ·simp only;rw [kh]
      ·by_cases c:i=n
       ·subst c;exact .inr ⟨rfl,Nat.le_refl _⟩
       ·exact (h2 i (by omega) ig).elim
     ·have g8:uq (cT (t.T n N / t.T n j)) (⟨(⟨s.2.fl.cQ,s.2.fl.cA⟩:bm),s.2.ho⟩:aK)=some (if t.T n N / t.T n j<t.T b N / t.T b j then -1 else if t.T b N / t.T b j<t.T n N / t.T n j then 1 else 0):=by
       have:(⟨(⟨s.2.fl.cQ,s.2.fl.cA⟩:bm),s.2.ho⟩:aK)=cT (t.T b N / t.T b j):=h2
       rw [this]
       exact abA (a9 n a2 aj) (a9 b (by omega) jy)
      by_cases br:t.T n N / t.T n j<t.T b N / t.T b j
      ·rw [if_pos br] at g8
       refine ⟨((n:Int),cT (t.T n N / t.T n j)),dn (by simp only;omega) (bC g1 (aN g2 (bC g3 (aN g4 (aN (pU (iJ n a2 j aD)) (dZ bX (bC g5 (aN g6 (aN g7 (dZ (by simp only;omega) (aN g8 (dn (by omega) ?_)))))))))))),.inr ⟨n,rfl,by omega,aj,rfl,fun i an ig=> ?_⟩⟩
       ·simp only;rw [kh]
       ·by_cases c:i=n
        ·subst c;exact .inr ⟨rfl,Nat.le_refl _⟩
        ·rcases ab i (by omega) ig with h|⟨h,-⟩
         ·left;grind
         ·left;rw [← h];exact br
      ·rw [if_neg br] at g8
       by_cases cb:t.T b N / t.T b j<t.T n N / t.T n j
       ·rw [if_pos cb] at g8
        refine ⟨s,dn (by simp only;omega) (bC g1 (aN g2 (bC g3 (aN g4 (aN (pU (iJ n a2 j aD)) (dZ bX (bC g5 (aN g6 (aN g7 (dZ (by simp only;omega) (aN g8 (dZ (by omega) (iS (by decide) ?_))))))))))))),.inr ⟨b,h1,by omega,jy,h2,fun i an ig=> ?_⟩⟩
        ·simp only;rw [kh]
        ·by_cases c:i=n
         ·subst c;exact .inl cb
         ·exact ab i (by omega) ig
       ·rw [if_neg cb] at g8
        have L2:t.T b N / t.T b j=t.T n N / t.T n j:=by grind
        have EV:0≤((n:Nat):Int)∧((n:Nat):Int)<((du m t).length:Nat):=by unfold du;rw [cX];omega
        have EW:(du m t)[((n:Nat):Int).toNat]? = some ((t.B n:Nat):Int):=by rw [Int.toNat_natCast];exact f8 a2
        have Sj:0≤s.1∧s.1<((du m t).length:Nat):=by unfold du;rw [cX];omega
        have Sk:(du m t)[s.1.toNat]? = some ((t.B b:Nat):Int):=by rw [h1,Int.toNat_natCast];exact f8 (by omega)
        by_cases jk:t.B n<t.B b
        ·refine ⟨((n:Int),cT (t.T n N / t.T n j)),dn (by simp only;omega) (bC g1 (aN g2 (bC g3 (aN g4 (aN (pU (iJ n a2 j aD)) (dZ bX (bC g5 (aN g6 (aN g7 (dZ (by simp only;omega) (aN g8 (dZ (by omega) (f7 rfl (bC EV (aN EW (bC Sj (aN Sk (dn (by omega) ?_)))))))))))))))))),.inr ⟨n,rfl,by omega,aj,rfl,fun i an ig=> ?_⟩⟩
         ·simp only;rw [kh]
         ·by_cases c:i=n
          ·subst c;exact .inr ⟨rfl,Nat.le_refl _⟩
          ·rcases ab i (by omega) ig with h|⟨h,cB⟩
           ·left;grind
           ·right;exact ⟨by grind,by omega⟩
        ·refine ⟨s,dn (by simp only;omega) (bC g1 (aN g2 (bC g3 (aN g4 (aN (pU (iJ n a2 j aD)) (dZ bX (bC g5 (aN g6 (aN g7 (dZ (by simp only;omega) (aN g8 (dZ (by omega) (f7 rfl (bC EV (aN EW (bC Sj (aN Sk (dZ (by omega) ?_)))))))))))))))))),.inr ⟨b,h1,by omega,jy,h2,fun i an ig=> ?_⟩⟩
         ·simp only;rw [kh]
         ·by_cases c:i=n
          ·subst c;exact .inr ⟨L2,by omega⟩
          ·exact ab i (by omega) ig
    ·have bX:jG (t.T n j)≤0:=by
      have : ¬0<jG (t.T n j):=fun c=>aj (qu.1 c)
      omega
     refine ⟨s,dn (by simp only;omega) (bC g1 (aN g2 (bC g3 (aN g4 (aN (pU (iJ n a2 j aD)) (dn bX ?_)))))),?_⟩
     ·simp only;rw [kh]
     ·rcases cw with ⟨h1,h2⟩|⟨b,h1,aP,jy,h2,ab⟩
      ·exact .inl ⟨h1,fun i an=>if c:i=n then c▸aj else h2 i (by omega)⟩
      ·exact .inr ⟨b,h1,by omega,jy,h2,fun i an ig=>if c:i=n then (aj (c▸ig)).elim else ab i (by omega) ig⟩)
  (fun s cw=>by
    refine ⟨s.1,by unfold wA;exact dZ (by simp only;omega) rfl,?_⟩
    rcases cw with ⟨h1,h2⟩|⟨b,h1,aP,jy,h2,ab⟩
    ·exact .inl ⟨h1,h2⟩
    ·refine .inr ⟨b,h1,aP,jy,fun i an ig=> ?_,fun i an ig he=> ?_⟩
     ·rw [← (DJ jy ig).1]
      rcases ab i an ig with h|⟨h,-⟩
      ·exact Rat.le_of_lt h
      ·rw [h];exact Rat.le_refl
     ·rw [← (DJ jy ig).2] at he
      rcases ab i an ig with h|⟨-,h⟩
      ·rw [he] at h;grind
      ·exact h) ((-1:Int),(⟨⟨false,[]⟩,[]⟩:aK)) (.inl ⟨rfl,fun i an=>by omega⟩)
 refine ⟨r,aN ?_ rfl,h⟩
 unfold IH
 rw [fa,show (iL m N t).length=m from cX ..]
 exact e
theorem AK {m N:Nat}(t:cG):(mJ m N).all (qR (iL m N t))=true:=by
 rw [List.all_eq_true]
 intro x J
 obtain ⟨i,an,rfl⟩:=Kg.1 J
 simp only [qR]
 have h1:(iL m N t).length=m:=cX ..
 have h2:(iL m N t).getD i []=ha N t i:=by
  rw [List.getD_eq_getElem?_getD,show (iL m N t)[i]? = some (ha N t i) from f8 an];rfl
 rw [h1,h2,show (ha N t i).length=N+1 from cX ..]
 simp [an]
theorem uN {m N:Nat}(t:cG):(mJ m N).map (iv (iL m N t))=iL m N t:=by
 unfold mJ
 rw [P6]
 exact eY fun i an=>by
  have h2:(iL m N t).getD i []=ha N t i:=by
   rw [List.getD_eq_getElem?_getD,show (iL m N t)[i]? = some (ha N t i) from f8 an];rfl
  simp only [iv]
  rw [h2]
  exact List.take_of_length_le (Nat.le_of_eq (cX ..))
theorem aaw {m N:Nat}(hm:m≤1000)(fN:N<1000)(t:cG)(c:Nat→Rat)(deep:Bool)(G:Nat→Prop)(aep:∀j,G j→ ∀i,i<m→t.B i≠j)
 (bX : ∀j,j<N→ ∃g,uh ⟨N,iL m N t,du m t,k7 N c⟩ (j:Int) deep=some g∧((∀i,i<m→t.B i≠j)→(0<g↔G j))) :
 ∃r,CU deep N (mJ m N) (du m t) (k7 N c) (iL m N t) (-1) 0=some r∧((r = -1∧ ∀j,j<N→ ¬G j)∨ ∃s:Nat,r=s∧s<N∧G s∧ ∀j,j<s→ ¬G j):=by
 unfold CU
 refine pg (f:=fun w:Int×Int=>tR deep N (mJ m N) (du m t) (k7 N c) (iL m N t) w.1 w.2) (fun (i:Nat) (e:Int)=>(e,(i:Int))) N
  (fun n e=>(e = -1∧ ∀j,j<n→ ¬G j)∨ ∃s:Nat,e=s∧s<N∧G s∧ ∀j,j<s→ ¬G j) _ (fun n a2 e cw=> ?_) (fun e cw=> ?_) (-1) (.inl ⟨rfl,fun j aD=>by omega⟩)
 ·rcases cw with ⟨rfl,h⟩|⟨s,rfl,vh,si,adV⟩
  ·left
   obtain ⟨b,e1,e2⟩:=aau hm t (N:Int) (iL m N t) (k7 N c) n
   obtain ⟨g,g1,g2⟩:=bX n a2
   unfold tR
   cases b with
   | true =>
    obtain ⟨i,an,Ez⟩:=e2.1 rfl
    refine ⟨-1,dn (by simp only;omega) (dn (by simp) (bC (AK t) (aN (by rw [uN];exact e1) (f7 rfl ?_)))),.inl ⟨rfl,fun j aD dF=> ?_⟩⟩
    ·simp only;rw [fs (by omega)]
    ·by_cases c:j=n
     ·subst c;exact aep j dF i an Ez
     ·exact h j (by omega) dF
   | false =>
    have Sl : ∀i,i<m→t.B i≠n:=fun i an e=>by have:=e2.2 ⟨i,an,e⟩;simp at this
    by_cases dF:G n
    ·refine ⟨(n:Int),dn (by simp only;omega) (dn (by simp) (bC (AK t) (aN (by rw [uN];exact e1) (iS rfl (aN (by rw [uN];exact g1) (dn ((g2 Sl).2 dF) ?_)))))),.inr ⟨n,rfl,a2,dF,h⟩⟩
     simp only;rw [fs (by omega)]
    ·refine ⟨-1,dn (by simp only;omega) (dn (by simp) (bC (AK t) (aN (by rw [uN];exact e1) (iS rfl (aN (by rw [uN];exact g1) (dZ (fun x=>dF ((g2 Sl).1 x)) ?_)))))),.inl ⟨rfl,fun j aD=>if c:j=n then c▸dF else h j (by omega)⟩⟩
     simp only;rw [fs (by omega)]
  ·right
   exact ⟨(s:Int),by unfold tR;exact dn (by simp only;omega) (dZ (by simp only;omega) rfl),.inr ⟨s,rfl,vh,si,adV⟩⟩
 ·exact ⟨e,by unfold tR;exact dZ (by simp only;omega) rfl,cw⟩
theorem cG.Ym {gj m N K:Nat}{A obj:Nat→Nat→Rat}{t:cG}(h:f6 gj m N A t){j:Nat}(g:t.rz m K obj j): ∀i,i<m→t.B i≠j :=
 fun i an e=>hN.not_zero g fun l _=>by rw [← e];exact h.Ab (obj l) an
theorem abB {gj m N K:Nat}(hm:m≤1000)(fN:N<1000){A obj:Nat→Nat→Rat}(deep:Bool)(Inv:cG→Prop)
 (inv : ∀t,Inv t→f6 gj m N A t∧t.lO m N) (gC : ∀t r s,Inv t→o3 m N K obj (fun _=>True) t r s→Inv (t.cR r s))
 (bX : ∀t,Inv t→ ∀j,j<N→ ∃g,uh ⟨N,iL m N t,du m t,k7 N (t.dy m (obj 0))⟩ (j:Int) deep=some g∧((∀i,i<m→t.B i≠j)→(0<g↔t.rz m K obj j)))
 (iJ : ∀t,Inv t→ ∀i,i<m→ ∀j,j≤N→gg (t.T i j)) (a9 : ∀t,Inv t→ ∀i,i<m→ ∀j,j≤N→0<t.T i j→gg (t.T i N / t.T i j))
 (aj : ∀t,Inv t→ ∀r k,r<m→k<N→t.T r k≠0→K8 m N t (t.dy m (obj 0)) r k) (t:cG) (ca:Inv t) :
 ∃b c9,xg deep N (mJ m N) (du m t) (k7 N (t.dy m (obj 0))) (iL m N t)=some (b,du m c9,k7 N (c9.dy m (obj 0)),iL m N c9)∧Inv c9 ∧
  ((b=true∧ ∀j,j<N→ ¬c9.rz m K obj j)∨(b=false∧ ∃s,s<N∧c9.rz m K obj s∧ ∀i,i<m→ ¬0<c9.T i s)):=by
 obtain ⟨x,dz,c9,e,⟨RL,cw⟩,-,-,ej⟩:=OD (gj:=gj) (m:=m) (N:=N) (K:=K) (A:=A) (obj:=obj) (b4:=fun _=>True)
  (f:=fun w:(List Int)×(List aK)×(List (List aK))=>y5 deep N (mJ m N) w.1 w.2.1 w.2.2)
  (fun a t=>a=(du m t,k7 N (t.dy m (obj 0)),iL m N t)∧Inv t)
  (fun a x t=> ∃b,x=(b,du m t,k7 N (t.dy m (obj 0)),iL m N t)∧((b=true∧ ∀j,j<N→ ¬t.rz m K obj j)∨(b=false∧ ∃s,s<N∧t.rz m K obj s∧ ∀i,i<m→ ¬0<t.T i s)))
  (fun a t cV ok nN=>by
    obtain ⟨rfl,cw⟩:=cV
    obtain ⟨r,e1,e2⟩:=aaw hm fN t (t.dy m (obj 0)) deep (t.rz m K obj) (fun j dF=>cG.Ym ok dF) (bX t cw)
    simp only
    unfold y5
    rcases e2 with ⟨rfl,h⟩|⟨s,rfl,EX,dF,aU⟩
    ·left
     exact ⟨_,aN e1 (dn (by decide) rfl),true,rfl,.inl ⟨rfl,h⟩⟩
    ·obtain ⟨q,q1,q2⟩:=aav hm fN t (N:Int) (k7 N (t.dy m (obj 0))) (j:=s) (by omega) (iJ t cw) (fun i an ig=>a9 t cw i an s (by omega) ig)
     rcases q2 with ⟨rfl,h⟩|⟨b,rfl,aP,jy,h1,h2⟩
     ·left
      exact ⟨_,aN e1 (dZ (by omega) (bC (AK t) (aN (by rw [uN];exact q1) (dn (by decide) rfl)))),false,rfl,.inr ⟨rfl,s,EX,dF,h⟩⟩
     ·right
      have dx:o3 m N K obj (fun _=>True) t b s:=⟨EX,trivial,dF,fun j aD _=>aU j aD,aP,jy,h1,h2⟩
      refine ⟨_,b,s,aN e1 (dZ (by omega) (bC (AK t) (aN (by rw [uN];exact q1) (dZ (by omega) (aN (aat hm fN aP (by omega) (by grind) (aj t cw b s aP EX (by grind)) N) rfl))))),dx,?_,gC t b s cw dx⟩
      refine Prod.ext rfl (Prod.ext ?_ rfl)
      exact eY fun j _=>by rw [ok.J5 (obj 0) aP EX (by grind)])
  (a:=(du m t,k7 N (t.dy m (obj 0)),iL m N t)) (t:=t) ⟨rfl,ca⟩ (inv t ca).1 (inv t ca).2
 obtain ⟨b,rfl,aP⟩:=ej
 refine ⟨b,c9,?_,cw,aP⟩
 unfold xg
 exact aN (x:=(b,du m c9,k7 N (c9.dy m (obj 0)),iL m N c9)) (by unfold II;exact e) rfl
structure mb (p:hn) (m n:Nat) (a:Nat→Nat→Int) (b:Nat→Int):Prop where
 rows:p.fr=m
 gp:p.d9=n
 gz:p.dG.length=m*n
 K9 : ∀i,i<m→ ∀j,j<n→p.dG[i*n+j]? = some (a i j)
 vD:p.ei.length=m
 yg : ∀i,i<m→p.ei[i]? = some (b i)
 hm:m≤20
 a2:n≤40
 sB : ∀i,i<m→ ∀j,j<n→ -100≤a i j∧a i j≤100
 vC : ∀i,i<m→ -100≤b i∧b i≤100
theorem r9 {p:hn}{m n:Nat}{a:Nat→Nat→Int}{b:Nat→Int}(h:mb p m n a b){i:Nat}(an:i<m)(j:Nat): -100≤kg m n a b i j∧kg m n a b i j≤100:=by
 have aP:=h.vC i an
 unfold kg ka
 by_cases c:j<n
 ·have bE:=h.sB i an j c
  rw [if_pos c];split<;>omega
 ·rw [if_neg c]
  split
  ·split<;>omega
  ·split<;>omega
theorem KL {p:hn}{m n:Nat}{a:Nat→Nat→Int}{b:Nat→Int}(h:mb p m n a b){i:Nat}(an:i<m)(j:Nat):eo 100 (dC m n a b i j) :=
 ⟨kg m n a b i j,rfl,by have:=r9 h an j;omega⟩
theorem aa5:(1000000000000000000:Int)<B 24:=by decide
theorem JT {K:Nat}{x:Rat}(h:eo K x)(a5:K≤1000000000000000000):gg x:=by
 obtain ⟨z,rfl,cp⟩:=h
 have:=aa5
 exact PJ (n:=z) (d:=1) (by decide) (by rw [show ((1:Int):Rat)=1 from rfl];grind) (by omega) (by omega)
theorem KB {p:hn}{m n:Nat}{a:Nat→Nat→Int}{b:Nat→Int}(h:mb p m n a b){i:Nat}(an:i<m):um p i=some (a4 n (a i)):=by
 have hm:=h.hm
 have a2:=h.a2
 have h1:i*n≤20*40:=Nat.mul_le_mul (by omega) a2
 have h2:(i+1)*n≤20*40:=Nat.mul_le_mul (by omega) a2
 have ab:(i+1)*n≤m*n:=Nat.mul_le_mul_right _ an
 have e1:R ((i:Int)*p.d9)=((i*n:Nat):Int):=by
  rw [h.gp,← Int.natCast_mul,cu (by omega) (by omega)]
 have e2:R (R ((i:Int)+1)*p.d9)=(((i+1)*n:Nat):Int):=by
  rw [h.gp,fs (by omega),← Int.natCast_mul,cu (by omega) (by omega)]
 have au:(i+1)*n=i*n+n:=Nat.succ_mul i n
 unfold um
 rw [e1,e2,Int.toNat_natCast,Int.toNat_natCast,h.gz]
 refine bC (by omega) (bC (by omega) (bC (by omega) ?_))
 congr 1
 apply List.ext_getElem?
 intro j
 rw [List.getElem?_take,List.getElem?_drop]
 by_cases c:j<n
 ·rw [if_pos (by omega),h.K9 i an j c,f8 c]
 ·rw [if_neg (by omega)]
  symm
  rw [List.getElem?_eq_none_iff,cX];omega
def gV (m n:Nat)(a:Nat→Nat→Int)(b:Nat→Int)(i j:Nat):Rat:=if j<n∨j=n+m then dj i (fun k=>dC m n a b k j) else 0
theorem Q5 {p:hn}{m n:Nat}{a:Nat→Nat→Int}{b:Nat→Int}(h:mb p m n a b){i:Nat}(an:i≤m)(j:Nat):eo 2000 (gV m n a b i j):=by
 have hm:=h.hm
 unfold gV
 split
 ·exact (eo.sum fun k a5=>KL h (by omega) j).mono (by omega)
 ·exact ⟨0,rfl,by omega⟩
theorem XI {p:hn}{m n:Nat}{a:Nat→Nat→Int}{b:Nat→Int}(h:mb p m n a b){i:Nat}(an:i<m)(aP:b i<0)(x0:Int)(q2:List bu)(bL:List (List aK))(bZ:List Int)(cH:List aK):
 (CN (i:Int) (a4 n (a i)) (len_ eI (a4 n (a i))) p.fr p.d9 p.dG p.ei p.hC x0 q2 bL bZ cH 0 ([]:List aK) >>= fun cm=>CO (i:Int) p.fr p.d9 p.dG p.ei p.hC x0 q2 bL bZ cH 0 cm)=some (a4 (n+m) fun j=>cT (dC m n a b i j)):=by
 have hm:=h.hm
 have a2:=h.a2
 have bX:ka (b i) = -1:=by unfold ka;rw [if_pos aP]
 obtain ⟨s1,e1,-⟩:=h5 (f:=fun w:Int×List aK=>wh (i:Int) (a4 n (a i)) ((n:Nat):Int) p.fr p.d9 p.dG p.ei p.hC x0 q2 bL bZ cH w.1 w.2)
  (fun (k:Nat) (_:Unit)=>((k:Int),a4 k fun j=>cT (dC m n a b i j))) n (fun _ _=>True) (fun _=>a4 n fun j=>cT (dC m n a b i j))
  (fun k a5 _ _=>by
    refine ⟨(),?_,trivial⟩
    have bE:=h.sB i an k a5
    unfold wh
    have e:R ((-1:Int)*a i k)=kg m n a b i k:=by
     rw [cu (by omega) (by omega)];unfold kg;rw [if_pos a5,bX]
    refine dn (by simp only;omega) (bC (by rw [cX];simp only;omega) (aN (x:=a i k) (by simp only;rw [Int.toNat_natCast];exact f8 a5) (aN (x:=cT (dC m n a b i k)) ?_ (bC (by simp only [List.length_append,cX,List.length_cons,List.length_nil];omega) ?_))))
    ·rw [e];exact rW (by have:=r9 h an k;rw [mB];omega)
    ·simp only;rw [fs (by omega),k0])
  (fun _ _=>by unfold wh;exact dZ (by simp) rfl) () trivial
 refine aN (x:=a4 n fun j=>cT (dC m n a b i j)) (by unfold CN;rw [fC,cX];exact e1) ?_
 obtain ⟨s2,e2,-⟩:=h5 (f:=fun w:Int×List aK=>wi (i:Int) p.fr p.d9 p.dG p.ei p.hC x0 q2 bL bZ cH w.1 w.2)
  (fun (k:Nat) (_:Unit)=>((k:Int),a4 (n+k) fun j=>cT (dC m n a b i j))) m (fun _ _=>True) (fun _=>a4 (n+m) fun j=>cT (dC m n a b i j))
  (fun k a5 _ _=>by
    refine ⟨(),?_,trivial⟩
    unfold wi
    have Cn:kg m n a b i (n+k)=if k=i then 1 else 0:=by
     unfold kg
     rw [if_neg (by omega),if_neg (by omega)]
     by_cases c:k=i
     ·rw [if_pos c,if_pos (by omega)]
     ·rw [if_neg c,if_neg (by omega)]
    refine dn (by simp only;rw [h.rows];omega) (oj (fun c=> ?_) (fun c=> ?_))
    ·have vl:k=i:=by simp at c;omega
     refine aN (x:=cT (dC m n a b i (n+k))) (by unfold dC;rw [Cn,if_pos vl];exact rW (by rw [mB];omega)) (bC (by simp only [List.length_append,cX,List.length_cons,List.length_nil];omega) ?_)
     simp only;rw [fs (by omega),← Nat.add_assoc,k0]
    ·have vl:k≠i:=by simp at c;omega
     refine aN (x:=cT (dC m n a b i (n+k))) (by unfold dC;rw [Cn,if_neg vl];exact rW (by rw [mB];omega)) (bC (by simp only [List.length_append,cX,List.length_cons,List.length_nil];omega) ?_)
     simp only;rw [fs (by omega),← Nat.add_assoc,k0])
  (fun _ _=>by unfold wi;exact dZ (by simp only;rw [h.rows];omega) rfl) () trivial
 unfold CO
 exact e2
theorem XJ {p:hn}{m n:Nat}{a:Nat→Nat→Int}{b:Nat→Int}(h:mb p m n a b){i:Nat}(an:i<m)(aP:¬b i<0)(x0:Int)(q2:List bu)(bL:List (List aK))(bZ:List Int)(cH:List aK):
 (CI (i:Int) (a4 n (a i)) (len_ eI (a4 n (a i))) p.fr p.d9 p.dG p.ei p.hC x0 q2 bL bZ cH 0 ([]:List aK) >>= fun cm=>CJ (i:Int) p.fr p.d9 p.dG p.ei p.hC x0 q2 bL bZ cH 0 cm)=some (a4 (n+m) fun j=>cT (dC m n a b i j)):=by
 have hm:=h.hm
 have a2:=h.a2
 have bX:ka (b i)=1:=by unfold ka;rw [if_neg aP]
 obtain ⟨s1,e1,-⟩:=h5 (f:=fun w:Int×List aK=>v5 (i:Int) (a4 n (a i)) ((n:Nat):Int) p.fr p.d9 p.dG p.ei p.hC x0 q2 bL bZ cH w.1 w.2)
  (fun (k:Nat) (_:Unit)=>((k:Int),a4 k fun j=>cT (dC m n a b i j))) n (fun _ _=>True) (fun _=>a4 n fun j=>cT (dC m n a b i j))
  (fun k a5 _ _=>by
    refine ⟨(),?_,trivial⟩
    have bE:=h.sB i an k a5
    unfold v5
    have e:R ((1:Int)*a i k)=kg m n a b i k:=by
     rw [cu (by omega) (by omega)];unfold kg;rw [if_pos a5,bX]
    refine dn (by simp only;omega) (bC (by rw [cX];simp only;omega) (aN (x:=a i k) (by simp only;rw [Int.toNat_natCast];exact f8 a5) (aN (x:=cT (dC m n a b i k)) ?_ (bC (by simp only [List.length_append,cX,List.length_cons,List.length_nil];omega) ?_))))
    ·rw [e];exact rW (by have:=r9 h an k;rw [mB];omega)
    ·simp only;rw [fs (by omega),k0])
  (fun _ _=>by unfold v5;exact dZ (by simp) rfl) () trivial
 refine aN (x:=a4 n fun j=>cT (dC m n a b i j)) (by unfold CI;rw [fC,cX];exact e1) ?_
 obtain ⟨s2,e2,-⟩:=h5 (f:=fun w:Int×List aK=>v7 (i:Int) p.fr p.d9 p.dG p.ei p.hC x0 q2 bL bZ cH w.1 w.2)
  (fun (k:Nat) (_:Unit)=>((k:Int),a4 (n+k) fun j=>cT (dC m n a b i j))) m (fun _ _=>True) (fun _=>a4 (n+m) fun j=>cT (dC m n a b i j))
  (fun k a5 _ _=>by
    refine ⟨(),?_,trivial⟩
    unfold v7
    have Cn:kg m n a b i (n+k)=if k=i then 1 else 0:=by
     unfold kg
     rw [if_neg (by omega),if_neg (by omega)]
     by_cases c:k=i
     ·rw [if_pos c,if_pos (by omega)]
     ·rw [if_neg c,if_neg (by omega)]
    refine dn (by simp only;rw [h.rows];omega) (oj (fun c=> ?_) (fun c=> ?_))
    ·have vl:k=i:=by simp at c;omega
     refine aN (x:=cT (dC m n a b i (n+k))) (by unfold dC;rw [Cn,if_pos vl];exact rW (by rw [mB];omega)) (bC (by simp only [List.length_append,cX,List.length_cons,List.length_nil];omega) ?_)
     simp only;rw [fs (by omega),← Nat.add_assoc,k0]
    ·have vl:k≠i:=by simp at c;omega
     refine aN (x:=cT (dC m n a b i (n+k))) (by unfold dC;rw [Cn,if_neg vl];exact rW (by rw [mB];omega)) (bC (by simp only [List.length_append,cX,List.length_cons,List.length_nil];omega) ?_)
     simp only;rw [fs (by omega),← Nat.add_assoc,k0])
  (fun _ _=>by unfold v7;exact dZ (by simp only;rw [h.rows];omega) rfl) () trivial
 unfold CJ
 exact e2
theorem OL {p:hn}{m n:Nat}{a:Nat→Nat→Int}{b:Nat→Int}(h:mb p m n a b){i:Nat}(an:i<m)(q2:List (List aK))(bL:List bu)(bZ:List Int)(a9:q2[i]? = some (a4 (n+m+1) fun j=>cT (dC m n a b i j))):
 ze (i:Int) i (n+m+1) (((n+m+1:Nat):Nat):Int) p.fr p.d9 p.dG p.ei p.hC ((n+m:Nat):Int) q2 bL bZ 0 (a4 (n+m+1) fun j=>cT (gV m n a b i j))=some (a4 (n+m+1) fun j=>cT (gV m n a b (i+1) j)):=by
 have hm:=h.hm
 have a2:=h.a2
 have aeq : ∀j,gg (dC m n a b i j):=fun j=>JT (KL h an j) (by omega)
 have f1 : ∀j,gg (gV m n a b i j):=fun j=>JT (Q5 h (by omega) j) (by omega)
 have f2 : ∀j,gg (gV m n a b (i+1) j):=fun j=>JT (Q5 h (by omega) j) (by omega)
 have es : ∀j,(j<n∨j=n+m)→gV m n a b i j+dC m n a b i j=gV m n a b (i+1) j:=fun j aD=>by
  unfold gV;rw [if_pos aD,if_pos aD,dj]
 have aer : ∀j,¬(j<n∨j=n+m)→gV m n a b i j=gV m n a b (i+1) j:=fun j aD=>by
  unfold gV;rw [if_neg aD,if_neg aD]
 obtain ⟨s,e,-⟩:=h5 (f:=fun w:Int×List aK=>wj (i:Int) i (n+m+1) (((n+m+1:Nat):Nat):Int) p.fr p.d9 p.dG p.ei p.hC ((n+m:Nat):Int) q2 bL bZ w.1 w.2)
  (fun (k:Nat) (_:Unit)=>((k:Int),a4 (n+m+1) fun j=>cT (if j<k then gV m n a b (i+1) j else gV m n a b i j))) (n+m+1) (fun _ _=>True) (fun _=>a4 (n+m+1) fun j=>cT (gV m n a b (i+1) j))
  (fun k a5 _ _=>by
    refine ⟨(),?_,trivial⟩
    have fin : ∀r,r=gV m n a b (i+1) k→(R ((k:Int)+1),(a4 (n+m+1) fun j=>cT (if j<k then gV m n a b (i+1) j else gV m n a b i j)).set (0+((k:Int)).toNat) (cT r))=(((k+1:Nat):Int),a4 (n+m+1) fun j=>cT (if j<k+1 then gV m n a b (i+1) j else gV m n a b i j)):=by
     intro r aq
     rw [fs (by omega),Int.toNat_natCast,Nat.zero_add,k1]
     congr 1
     refine eY fun j _=> ?_
     by_cases c:j=k
     ·subst c;rw [if_pos rfl,if_pos (by omega),aq]
     ·rw [if_neg c]
      by_cases cb:j<k
      ·rw [if_pos cb,if_pos (by omega)]
      ·rw [if_neg cb,if_neg (by omega)]
    have SN : ∀ {x:Option ((Int×List aK)⊕List aK)},(k<n∨k=n+m)→(∀r,(R ((k:Int)+1),(a4 (n+m+1) fun j=>cT (if j<k then gV m n a b (i+1) j else gV m n a b i j)).set (0+((k:Int)).toNat) (cT r))=(((k+1:Nat):Int),a4 (n+m+1) fun j=>cT (if j<k+1 then gV m n a b (i+1) j else gV m n a b i j))→some (Sum.inl (R ((k:Int)+1),(a4 (n+m+1) fun j=>cT (if j<k then gV m n a b (i+1) j else gV m n a b i j)).set (0+((k:Int)).toNat) (cT r)))=x) →
     (if 0≤(k:Int)∧(k:Int)<(((a4 (n+m+1) fun j=>cT (if j<k then gV m n a b (i+1) j else gV m n a b i j)).length:Nat):Int) then
       (a4 (n+m+1) fun j=>cT (if j<k then gV m n a b (i+1) j else gV m n a b i j))[(0+((k:Int)).toNat)]? >>= fun fT =>
       q2[i]? >>= fun mX =>
       if 0≤(k:Int)∧(k:Int)<((n+m+1:Nat):Int) then
       mX[(0+((k:Int)).toNat)]? >>= fun ee =>
       q9 fT ee >>= fun dc =>
       if (0+((k:Int)).toNat)<(a4 (n+m+1) fun j=>cT (if j<k then gV m n a b (i+1) j else gV m n a b i j)).length then
       some (.inl (R ((k:Int)+(1:Int)),(a4 (n+m+1) fun j=>cT (if j<k then gV m n a b (i+1) j else gV m n a b i j)).set (0+((k:Int)).toNat) dc))
       else none
       else none
       else none)=x:=by
     intro x EH J
     refine bC (by rw [cX];omega) (aN (x:=cT (gV m n a b i k)) (by rw [Int.toNat_natCast,h7 a5,if_neg (by omega)]) (aN a9 (bC (by omega) (aN (x:=cT (dC m n a b i k)) (by rw [Int.toNat_natCast];exact h7 a5) (aN (KA (f1 k) (aeq k) (by rw [es k EH];exact f2 k)) (bC (by rw [cX,Int.toNat_natCast];omega) ?_))))))
     exact J _ (fin _ (es k EH))
    unfold wj
    refine dn (by simp only;omega) (oj (fun c=> ?_) (fun c=> ?_))
    ·have L3:k<n:=by have:=of_decide_eq_true c;rw [h.gp] at this;simp only at this;omega
     exact SN (.inl L3) fun r aq=>by rw [aq]
    ·have L3 : ¬k<n:=by have:=of_decide_eq_false c;rw [h.gp] at this;simp only at this;omega
     refine oj (fun cb=> ?_) (fun cb=> ?_)
     ·have Sm:k=n+m:=by simp at cb;omega
      exact SN (.inr Sm) fun r aq=>by rw [aq]
     ·have Sm:k≠n+m:=by simp at cb;omega
      simp only
      rw [fs (by omega)]
      congr 3
      refine eY fun j _=> ?_
      by_cases jk:j=k
      ·subst jk;rw [if_neg (by omega),if_pos (by omega),aer j (by omega)]
      ·by_cases pG:j<k
       ·rw [if_pos pG,if_pos (by omega)]
       ·rw [if_neg pG,if_neg (by omega)])
  (fun _ _=>by
    unfold wj
    refine dZ (by simp) ?_
    simp only
    congr 2
    exact eY fun j aD=>by rw [if_pos aD]) () trivial
 unfold ze
 have bR:(a4 (n+m+1) fun j=>cT (if j<0 then gV m n a b (i+1) j else gV m n a b i j))=a4 (n+m+1) fun j=>cT (gV m n a b i j):=eY fun j _=>by rw [if_neg (by omega)]
 rw [bR] at e
 exact e
theorem uU {K:Nat}{d x y:Rat}(bG:eo K d)(a0:eo K y)(h0:d≠0)(e:d*x=y)(hz:(K:Int)<B 24):gg x:=by
 obtain ⟨z,rfl,cp⟩:=bG
 obtain ⟨w,rfl,hw⟩:=a0
 exact PJ (n:=w) (d:=z) (fun c=>h0 (by rw [c];rfl)) e (by omega) (by omega)
@[irreducible] def fG:Nat:=qg 100 20
theorem AY:qg 100 20=fG:=by unfold fG;rfl
theorem abC:((21*100*(fG*fG):Nat):Int)<B 24:=by decide +kernel
theorem pY:0<fG:=by decide +kernel
structure kL (m N:Nat) (A:Nat→Nat→Rat) (t:cG):Prop where
 ok:f6 m m N A t
 nN:t.lO m N
 sC:t.D m A≠0
structure Small (m N:Nat) (A:Nat→Nat→Rat):Prop where
 hm:m≤20
 tH : ∀c,c<m→ ∀j,j≤N→eo 100 (A c j)
theorem kL.B8 {m N:Nat}{A:Nat→Nat→Rat}(s:Small m N A){t:cG}(h:kL m N A t):eo fG (t.D m A):=by
 refine eo.mono (xW fun i an c bb=>s.tH c bb _ (Nat.le_of_lt (h.ok.lc i an))) (AY▸xE (by omega) s.hm)
theorem kL.tx {m N:Nat}{A:Nat→Nat→Rat}(s:Small m N A){t:cG}(h:kL m N A t){i j:Nat}(an:i<m)(aD:j≤N):eo fG (t.T i j*t.D m A):=by
 rw [← h.ok.vy an aD]
 refine eo.mono (xW fun k a5 c bb=> ?_) (AY▸xE (by omega) s.hm)
 simp only [ga]
 split
 ·exact s.tH c bb j aD
 ·exact s.tH c bb _ (Nat.le_of_lt (h.ok.lc k a5))
theorem uV {k:Nat}(h:k≤21*100*(fG*fG)):((k:Nat):Int)<B 24:=by have:=abC;omega
theorem La:fG≤21*100*(fG*fG):=by
 have h1:fG*1≤fG*fG:=Nat.mul_le_mul_left _ pY
 omega
theorem kL.Rq {m N:Nat}{A:Nat→Nat→Rat}(s:Small m N A){t:cG}(h:kL m N A t){i j:Nat}(an:i<m)(aD:j≤N):gg (t.T i j) :=
 uU (h.B8 s) (h.tx s an aD) h.sC (by grind) (uV La)
theorem kL.acI {m N:Nat}{A:Nat→Nat→Rat}(s:Small m N A){t:cG}(h:kL m N A t){i j:Nat}(an:i<m)(aD:j≤N)(aj:0<t.T i j):gg (t.T i N / t.T i j) :=
 uU (h.tx s an aD) (h.tx s an (Nat.le_refl _)) (fun c=>by
  have h1:=h.sC
  have:t.T i j≠0:=by grind
  grind) (by grind) (uV La)
theorem kL.Sn {m N:Nat}{A:Nat→Nat→Rat}(s:Small m N A){t:cG}(h:kL m N A t){o:Nat→Rat}(ao:∀j,j≤N→eo 100 (o j)){j:Nat}(aD:j≤N):eo (21*100*fG) (t.dy m o j*t.D m A):=by
 have hm:=s.hm
 unfold cG.dy
 have e:(o j-dj m (fun i=>o (t.B i)*t.T i j))*t.D m A=o j*t.D m A-dj m (fun i=>o (t.B i)*(t.T i j*t.D m A)):=by
  rw [h4 (f:=fun i=>o (t.B i)*(t.T i j*t.D m A)) (g:=fun i=>(o (t.B i)*t.T i j)*t.D m A) (fun i _=>by grind),Aa];grind
 rw [e]
 refine eo.mono (((ao j aD).mul (h.B8 s)).sub (eo.sum fun i an=>(ao _ (Nat.le_of_lt (h.ok.lc i an))).mul (h.tx s an aD))) ?_
 have:m*(100*fG)≤20*(100*fG):=Nat.mul_le_mul_right _ hm
 omega
theorem Rr:21*100*fG≤21*100*(fG*fG):=by
 have h1:fG*1≤fG*fG:=Nat.mul_le_mul_left _ pY
 omega
theorem kL.Lb {m N:Nat}{A:Nat→Nat→Rat}(s:Small m N A){t:cG}(h:kL m N A t){o:Nat→Rat}(ao:∀j,j≤N→eo 100 (o j)){j:Nat}(aD:j≤N):gg (t.dy m o j) :=
 uU ((h.B8 s).mono (Nat.le_trans (by omega:fG≤21*100*fG) (Nat.le_refl _))) (h.Sn s ao aD) h.sC (by grind) (uV Rr)
theorem kL.gC {m N K:Nat}{A obj:Nat→Nat→Rat}{b4:Nat→Prop}{t:cG}(h:kL m N A t){r k:Nat}(b:o3 m N K obj b4 t r k):kL m N A (t.cR r k) :=
 ⟨b.ok h.ok,b.KZ h.nN,by
  rw [h.ok.x7 b.aq b.bX]
  have h1:=b.pos
  have h2:=h.sC
  intro c
  have:t.T r k≠0:=by grind
  grind⟩
end Go.Proofs.YtamedijmgkdlgaaGreat
namespace Go.Proofs.YtamedijmgkdlgaaGreat
set_option linter.unusedVariables false
set_option linter.unusedSimpArgs false
open Go Go.VL
theorem kL.acJ {m N:Nat}{A:Nat→Nat→Rat}(s:Small m N A){t:cG}(h:kL m N A t){o:Nat→Rat}(ao:∀j,j≤N→eo 100 (o j)){r k:Nat}(aq:r<m)(a5:k<N)(aj:t.T r k≠0)(cB:f6 m m N A (t.cR r k)):K8 m N t (t.dy m o) r k:=by
 have bG:=h.sC
 have p8:(t.cR r k).D m A≠0:=by rw [h.ok.x7 aq a5];grind
 have eK:(t.cR r k).D m A=t.T r k*t.D m A:=h.ok.x7 aq a5
 have i2:eo fG ((t.cR r k).D m A):=eo.mono (xW fun i an c bb=>s.tH c bb _ (Nat.le_of_lt (cB.lc i an))) (AY▸xE (by omega) s.hm)
 have vp : ∀i,i<m→ ∀j,j≤N→eo fG ((t.cR r k).T i j*(t.cR r k).D m A):=fun i an j aD=>by
  rw [← cB.vy an aD]
  refine eo.mono (xW fun k a5 c bb=> ?_) (AY▸xE (by omega) s.hm)
  simp only [ga]
  split
  ·exact s.tH c bb j aD
  ·exact s.tH c bb _ (Nat.le_of_lt (cB.lc k a5))
 have SO:eo (21*100*(fG*fG)) (t.D m A*(t.cR r k).D m A):=((h.B8 s).mul i2).mono (by omega)
 have So:t.D m A*(t.cR r k).D m A≠0:=by grind
 refine ⟨fun i an j aD=>h.Rq s an aD,fun i an j aD=>uU i2 (vp i an j aD) p8 (by grind) (uV La),fun i an _ j aD=> ?_,fun j aD=>h.Lb s ao aD,fun j aD=> ?_,fun j aD=> ?_⟩
 ·refine uU SO (((h.tx s an (Nat.le_of_lt a5)).mul (h.tx s aq aD)).neg.mono (by omega)) So ?_ (uV (Nat.le_refl _))
  rw [eK];grind
 ·rw [← h.ok.J5 o aq a5 aj]
  have g2:eo (21*100*fG) ((t.cR r k).dy m o j*(t.cR r k).D m A):=by
   have hm:=s.hm
   unfold cG.dy
   have e:(o j-dj m (fun i=>o ((t.cR r k).B i)*(t.cR r k).T i j))*(t.cR r k).D m A=o j*(t.cR r k).D m A-dj m (fun i=>o ((t.cR r k).B i)*((t.cR r k).T i j*(t.cR r k).D m A)):=by
    rw [h4 (f:=fun i=>o ((t.cR r k).B i)*((t.cR r k).T i j*(t.cR r k).D m A)) (g:=fun i=>(o ((t.cR r k).B i)*(t.cR r k).T i j)*(t.cR r k).D m A) (fun i _=>by grind),Aa];grind
   rw [e]
   refine eo.mono (((ao j aD).mul i2).sub (eo.sum fun i an=>(ao _ (Nat.le_of_lt (cB.lc i an))).mul (vp i an j aD))) ?_
   have:m*(100*fG)≤20*(100*fG):=Nat.mul_le_mul_right _ hm
   omega
  exact uU (i2.mono (by omega)) g2 p8 (by grind) (uV Rr)
 ·refine uU SO (((h.Sn s ao (Nat.le_of_lt a5)).mul (h.tx s aq aD)).neg.mono (by
   rw [Nat.mul_assoc];exact Nat.le_refl _)) So ?_ (uV (Nat.le_refl _))
  rw [eK];grind
theorem aax {p:hn}{m n:Nat}{a:Nat→Nat→Int}{b:Nat→Int}(h:mb p m n a b):
 zm p=some (((n+m:Nat):Int),mJ m (n+m),du m (ia m n a b),k7 (n+m) ((ia m n a b).dy m (gD m n)),iL m (n+m) (ia m n a b)):=by
 have hm:=h.hm
 have a2:=h.a2
 have fN:R (p.d9+p.fr)=((n+m:Nat):Int):=by rw [h.gp,h.rows,← Int.natCast_add,cu (by omega) (by omega)]
 unfold zm
 rw [fN]
 obtain ⟨s1,e1,-⟩:=h5 (f:=fun w:Int×List aK=>wg p.fr p.d9 p.dG p.ei p.hC ((n+m:Nat):Int) w.1 w.2)
  (fun (k:Nat) (_:Unit)=>((k:Int),a4 k fun j=>cT (0:Rat))) (n+m+1) (fun _ _=>True) (fun _=>a4 (n+m+1) fun j=>cT (0:Rat))
  (fun k a5 _ _=>by
    refine ⟨(),?_,trivial⟩
    unfold wg
    refine dn (by simp only;omega) (aN (x:=cT (0:Rat)) (rW (n:=0) (by rw [mB];omega)) (bC (by simp only [List.length_append,cX,List.length_cons,List.length_nil];omega) ?_))
    simp only;rw [fs (by omega),k0])
  (fun _ _=>by unfold wg;exact dZ (by simp only;omega) rfl) () trivial
 refine aN (x:=a4 (n+m+1) fun j=>cT (0:Rat)) (by unfold H7;exact e1) ?_
 obtain ⟨s2,e2,-⟩:=h5 (f:=fun w:Int×(List bu)×(List (List aK))×(List Int)×(List aK)=>v8 p.fr p.d9 p.dG p.ei p.hC ((n+m:Nat):Int) w.1 w.2.1 w.2.2.1 w.2.2.2.1 w.2.2.2.2)
  (fun (i:Nat) (_:Unit)=>((i:Int),a4 i (fun k=>some (k,n+m+1)),a4 i (ha (n+m) (ia m n a b)),a4 i (fun k=>((n+k:Nat):Int)),a4 (n+m+1) fun j=>cT (gV m n a b i j))) m (fun _ _=>True)
  (fun _=>(mJ m (n+m),iL m (n+m) (ia m n a b),du m (ia m n a b),a4 (n+m+1) fun j=>cT (gV m n a b m j)))
  (fun i an _ _=>by
    refine ⟨(),?_,trivial⟩
    have aP:=h.vC i an
    have hlen:((a4 (n+m) fun j=>cT (dC m n a b i j))++[cT (dC m n a b i (n+m))])=ha (n+m) (ia m n a b) i:=(k0 ..).symm
    have ty:(ha (n+m) (ia m n a b) i).length=n+m+1:=cX ..
    have hw:R (p.d9+(i:Int))=((n+i:Nat):Int):=by rw [h.gp,← Int.natCast_add,cu (by omega) (by omega)]
    have dF:(a4 i (ha (n+m) (ia m n a b))++[ha (n+m) (ia m n a b) i])[i]? = some (ha (n+m) (ia m n a b) i):=by rw [← k0];exact f8 (by omega)
    have Sp:(a4 i (ha (n+m) (ia m n a b))).length=i:=cX ..
    have pF:kg m n a b i (n+m)=ka (b i)*b i:=by unfold kg;rw [if_neg (by omega),if_pos rfl]
    have fin:(some (Sum.inl (R ((i:Int)+1),(a4 i (fun k=>(some (k,n+m+1):bu)))++[some (i,n+m+1)],a4 i (ha (n+m) (ia m n a b))++[ha (n+m) (ia m n a b) i],(a4 i fun k=>((n+k:Nat):Int))++[((n+i:Nat):Int)],a4 (n+m+1) fun j=>cT (gV m n a b (i+1) j))):Option ((Int×(List bu)×(List (List aK))×(List Int)×(List aK))⊕((List bu)×(List (List aK))×(List Int)×(List aK)))) =
     some (Sum.inl (((i+1:Nat):Int),a4 (i+1) (fun k=>some (k,n+m+1)),a4 (i+1) (ha (n+m) (ia m n a b)),a4 (i+1) (fun k=>((n+k:Nat):Int)),a4 (n+m+1) fun j=>cT (gV m n a b (i+1) j))):=by
     rw [fs (by omega),k0 i (fun k=>(some (k,n+m+1):bu)),k0 i (ha (n+m) (ia m n a b)),k0 i (fun k=>((n+k:Nat):Int))]
    unfold v8
    refine dn (by simp only;rw [h.rows];omega) (bC (by simp only;rw [h.vD];omega) (aN (x:=b i) (by simp only;rw [Int.toNat_natCast];exact h.yg i an) (oj (fun c=> ?_) (fun c=> ?_))))
    ·have m7:b i<0:=of_decide_eq_true c
     have bX:ka (b i) = -1:=by unfold ka;rw [if_pos m7]
     refine aN (KB h an) ?_
     have aq:=XI h an m7 ((n+m:Nat):Int) (a4 i (fun k=>some (k,n+m+1))) (a4 i (ha (n+m) (ia m n a b))) (a4 i (fun k=>((n+k:Nat):Int))) (a4 (n+m+1) fun j=>cT (gV m n a b i j))
     rw [Option.bind_eq_bind,Option.bind_eq_some_iff] at aq
     obtain ⟨cm,hQ,vj⟩:=aq
     refine aN hQ (aN vj (aN (x:=cT (dC m n a b i (n+m))) (by
      have e:R ((-1:Int)*b i)=kg m n a b i (n+m):=by rw [pF,bX,cu (by omega) (by omega)]
      rw [e];exact rW (by have:=r9 h an (n+m);rw [mB];omega)) ?_))
     simp only
     rw [hlen,Sp,ty,hw]
     refine bC (by omega) (aN dF (aN (OL h an _ _ _ dF) (bC (by simp only [List.length_append,cX,List.length_cons,List.length_nil];omega) (bC (by simp only [List.length_append,cX,List.length_cons,List.length_nil];omega) fin))))
    ·have m7 : ¬b i<0:=of_decide_eq_false c
     have bX:ka (b i)=1:=by unfold ka;rw [if_neg m7]
     refine aN (KB h an) ?_
     have aq:=XJ h an m7 ((n+m:Nat):Int) (a4 i (fun k=>some (k,n+m+1))) (a4 i (ha (n+m) (ia m n a b))) (a4 i (fun k=>((n+k:Nat):Int))) (a4 (n+m+1) fun j=>cT (gV m n a b i j))
     rw [Option.bind_eq_bind,Option.bind_eq_some_iff] at aq
     obtain ⟨cm,hQ,vj⟩:=aq
     refine aN hQ (aN vj (aN (x:=cT (dC m n a b i (n+m))) (by
      have e:R ((1:Int)*b i)=kg m n a b i (n+m):=by rw [pF,bX,cu (by omega) (by omega)]
      rw [e];exact rW (by have:=r9 h an (n+m);rw [mB];omega)) ?_))
     simp only
     rw [hlen,Sp,ty,hw]
     refine bC (by omega) (aN dF (aN (OL h an _ _ _ dF) (bC (by simp only [List.length_append,cX,List.length_cons,List.length_nil];omega) (bC (by simp only [List.length_append,cX,List.length_cons,List.length_nil];omega) fin)))))
  (fun _ _=>by unfold v8;exact dZ (by simp only;rw [h.rows];omega) rfl) () trivial
 have e0:(a4 (n+m+1) fun j=>cT (gV m n a b 0 j))=a4 (n+m+1) fun j=>cT (0:Rat):=eY fun j _=>by
  unfold gV;split<;>rfl
 rw [e0] at e2
 refine aN (x:=(mJ m (n+m),iL m (n+m) (ia m n a b),du m (ia m n a b),a4 (n+m+1) fun j=>cT (gV m n a b m j))) (by unfold HE;exact e2) ?_
 congr 1
 refine Prod.ext rfl (Prod.ext rfl (Prod.ext rfl (Prod.ext ?_ rfl)))
 refine eY fun j aD=> ?_
 rw [Zg]
 unfold gV gD
 by_cases c:j<n∨j=n+m
 ·rw [if_pos c,if_neg (by omega)];congr 1;grind
 ·rw [if_neg c,if_pos (by omega)]
  obtain ⟨k,rfl⟩ : ∃k,j=n+k:=⟨j-n,by omega⟩
  rw [nU (k:=k) (by omega) (fun i _ dt=>by rw [rU (by omega),if_neg (Ne.symm dt)]),rU (by omega),if_pos rfl,show (-1:Rat)+1=0 by grind]
theorem J8 (l:List Int)(aU:l.length≤1000)(h:∀x∈l,-100≤x∧x≤100):uv l=some true:=by
 unfold uv Jj
 rw [fC]
 obtain ⟨s,e,-⟩:=h5 (f:=fun w:Int=>wY l (l.length:Nat) w) (fun (i:Nat) (_:Unit)=>(i:Int)) l.length (fun _ _=>True) (fun _=>(Sum.inl ():Unit⊕Unit))
  (fun i an _ _=>by
    refine ⟨(),?_,trivial⟩
    have J:=h l[i] (List.getElem_mem an)
    unfold wY
    refine dn (by omega) (bC (by omega) (aN (x:=l[i]) (by rw [Int.toNat_natCast];exact List.getElem?_eq_getElem an) (aN (qq _ _ _) (f7 (decide_eq_true (by omega)) ?_))))
    rw [fs (by omega)])
  (fun _ _=>by unfold wY;exact dZ (by omega) rfl) () trivial
 exact aN e rfl
theorem XZ {p:hn}{m n:Nat}{a:Nat→Nat→Int}{b:Nat→Int}(h:mb p m n a b)(E5:p.hC.length=n)(Co:∀x∈p.hC,-100≤x∧x≤100):zu p=some true:=by
 have hm:=h.hm
 have a2:=h.a2
 have EO:m*n≤20*40:=Nat.mul_le_mul hm a2
 have hA : ∀x∈p.dG,-100≤x∧x≤100:=fun x J=>by
  obtain ⟨k,a5,rfl⟩:=List.getElem_of_mem J
  rw [h.gz] at a5
  have Bt:0<n:=by
   rcases Nat.eq_zero_or_pos n with c|c
   ·rw [c] at a5;omega
   ·exact c
  have h1:k / n<m:=Nat.div_lt_of_lt_mul (by rw [Nat.mul_comm];exact a5)
  have h2:k % n<n:=Nat.mod_lt _ Bt
  have ab:=h.K9 (k / n) h1 (k % n) h2
  have au:k / n*n+k % n=k:=by rw [Nat.mul_comm];exact Nat.div_add_mod k n
  rw [au,List.getElem?_eq_getElem (by rw [h.gz];exact a5)] at ab
  rw [Option.some.inj ab]
  exact h.sB _ h1 _ h2
 have gW : ∀x∈p.ei,-100≤x∧x≤100:=fun x J=>by
  obtain ⟨k,a5,rfl⟩:=List.getElem_of_mem J
  have ab:=h.yg k (by rw [← h.vD];exact a5)
  rw [List.getElem?_eq_getElem a5] at ab
  rw [Option.some.inj ab]
  exact h.vC _ (by rw [← h.vD];exact a5)
 unfold zu
 rw [h.rows,h.gp]
 refine aN (qq _ _ _) (f7 (decide_eq_true (by omega)) (aN (qq _ _ _) (f7 (decide_eq_true (by omega)) ?_)))
 refine f7 (sl (by rw [fC,h.gz,← Int.natCast_mul,cu (by omega) (by omega)])) (f7 (sl (by rw [fC,h.vD])) (f7 (sl (by rw [fC,E5])) ?_))
 exact aN (J8 _ (by rw [h.gz];omega) hA) (f7 rfl (aN (J8 _ (by rw [h.vD];omega) gW) (f7 rfl (aN (J8 _ (by rw [E5];omega) Co) rfl))))
theorem Kj (m n j:Nat):eo 100 (gD m n j):=by
 unfold gD;split
 ·exact ⟨-1,rfl,by omega⟩
 ·exact ⟨0,rfl,by omega⟩
theorem Ek {g:Nat→Rat}:hN 1 g↔0<g 0:=by
 constructor
 ·rintro ⟨l,h1,h2,-⟩;rw [show l=0 by omega] at h2;exact h2
 ·intro h;exact ⟨0,by omega,h,fun gi aU=>by omega⟩
theorem JU {p:hn}{m n:Nat}{a:Nat→Nat→Int}{b:Nat→Int}(h:mb p m n a b):Small m (n+m) (dC m n a b):=⟨h.hm,fun c bb j _=>KL h bb j⟩
theorem ZJ {p:hn}{m n:Nat}{a:Nat→Nat→Int}{b:Nat→Int}(h:mb p m n a b):
 ∃t,xg false ((n+m:Nat):Int) (mJ m (n+m)) (du m (ia m n a b)) (k7 (n+m) ((ia m n a b).dy m (gD m n))) (iL m (n+m) (ia m n a b))=some (true,du m t,k7 (n+m) (t.dy m (gD m n)),iL m (n+m) t) ∧
  kL m (n+m) (dC m n a b) t∧(t.dy m (gD m n) (n+m)=0↔tb m n a b):=by
 have hm:=h.hm
 have a2:=h.a2
 have sD:=JU h
 obtain ⟨q,t,e,cw,ej⟩:=abB (gj:=m) (m:=m) (N:=n+m) (K:=1) (by omega) (by omega) (A:=dC m n a b) (obj:=fun _=>gD m n) false (kL m (n+m) (dC m n a b)) (fun t ca=>⟨ca.ok,ca.nN⟩) (fun t r s ca b=>ca.gC b)
  (fun t ca j aD=>⟨jG (t.dy m (gD m n) j),aa4 (by omega) _ _ _ _ (by omega) (ca.Lb sD (fun j _=>Kj m n j) (by omega)),fun _=>by rw [qu];exact (Ek (g:=fun _=>t.dy m (gD m n) j)).symm⟩)
  (fun t ca i an j aD=>ca.Rq sD an aD) (fun t ca i an j aD aj=>ca.acI sD an aD aj)
  (fun t ca r k aq a5 aj=>ca.acJ sD (fun j _=>Kj m n j) aq a5 aj (ca.ok.cR aq a5 aj)) (ia m n a b) ⟨P7,O4,Py⟩
 rcases ej with ⟨rfl,ej⟩|⟨-,s,bX,dF,ju⟩
 ·refine ⟨t,e,cw,fun h0=>Ob cw.ok cw.nN (Oc cw.nN h0 cw.ok.lc),fun adW=>OE cw.ok cw.nN (fun j aD=> ?_) adW⟩
  have:=ej j (by omega)
  have h2 : ¬0<t.dy m (gD m n) j:=fun c=>this (Ek.2 c)
  grind
 ·obtain ⟨i,an,aj⟩:=NU cw.ok bX (Ek.1 dF)
  exact (ju i an aj).elim
theorem Xu {p:hn}{m n:Nat}{a:Nat→Nat→Int}{b:Nat→Int}(h:mb p m n a b)(E5:p.hC.length=n)(Co:∀x∈p.hC,-100≤x∧x≤100): ∃r,ub p=some r∧(r=true↔tb m n a b):=by
 have hm:=h.hm
 have a2:=h.a2
 obtain ⟨t,e,cw,bX⟩:=ZJ h
 unfold ub
 refine ⟨_,aN (XZ h E5 Co) (f7 rfl (aN (aax h) (aN e (bC (by simp only;unfold k7;rw [cX];omega) (aN (x:=cT (t.dy m (gD m n) (n+m))) (by simp only;rw [Int.toNat_natCast];exact h7 (by omega)) (aN (pU (cw.Lb (JU h) (fun j _=>Kj m n j) (Nat.le_refl _))) rfl)))))),?_⟩
 rw [← bX,beq_iff_eq,ri]
def b0 (x:Rat):bm:=gU x.num
@[irreducible] def ks:Nat:=1000000000 ^ 40
theorem Rs:((ks:Nat):Int)+((ks:Nat):Int)<B 50:=by decide +kernel
theorem abD {K:Nat}{x:Rat}(h:eo K x):((x.num:Int):Rat)=x∧x.num.natAbs≤K:=by
 obtain ⟨z,rfl,cp⟩:=h
 rw [Rat.num_intCast];exact ⟨rfl,cp⟩
theorem oy (z:Int):b0 (z:Rat)=gU z:=by unfold b0;rw [Rat.num_intCast]
theorem xY {x:Rat}(h:eo ks x):(L x.num.natAbs).length≤50:=by
 have:=Rs
 have h1:=(abD h).2
 exact (iX (by omega)).2 (by omega)
theorem xG {x y:Rat}(J:eo ks x)(a0:eo ks y):pb (b0 x) (b0 y)=some (b0 (x*y)):=by
 have h1:=xY J
 have h2:=xY a0
 obtain ⟨a,rfl,-⟩:=J;obtain ⟨b,rfl,-⟩:=a0
 rw [Rat.num_intCast] at h1 h2
 rw [oy,oy,← Rat.intCast_mul,oy]
 exact Zx (by omega) (by omega)
theorem PK {x y:Rat}(J:eo ks x)(a0:eo ks y):tZ (b0 x) (b0 y)=some (b0 (x-y)):=by
 have gW:=Rs
 obtain ⟨a,rfl,bE⟩:=J;obtain ⟨b,rfl,aP⟩:=a0
 rw [oy,oy,← Rat.intCast_sub,oy]
 exact ZF (by omega) (by omega)
theorem sX {x:Rat}(J:eo ks x):oV (b0 x)=some (jG x):=by
 obtain ⟨a,rfl,bE⟩:=J
 rw [oy]
 unfold oV jG
 simp only [fC]
 have e:(((L a.natAbs).length:Nat):Int)=0↔a=0:=by rw [K7 (by omega)];omega
 show (if (((L a.natAbs).length:Int) == 0)=true then some 0 else if decide (a<0)=true then some (-1) else some 1)=_
 by_cases h0:a=0
 ·rw [if_pos (by rw [beq_iff_eq,e];exact h0),if_pos (by rw [h0];rfl)]
 ·have adX:(a:Rat)≠0:=fun c=>h0 (Rat.intCast_inj.1 (by rw [c];rfl))
  rw [if_neg (by rw [beq_iff_eq,e];exact h0),if_neg adX]
  have e2:(a:Rat)<0↔a<0:=by
   rw [show (0:Rat)=((0:Int):Rat) from rfl,Rat.intCast_lt_intCast]
  by_cases h1:a<0
  ·rw [if_pos (decide_eq_true h1),if_pos (e2.2 h1)]
  ·rw [if_neg (by simpa using h1),if_neg (fun c=>h1 (e2.1 c))]
theorem YX {x y:Rat}(J:eo ks x)(a0:eo ks y):rD (b0 x) (b0 y)=some (if x<y then -1 else if y<x then 1 else 0):=by
 have h1:=xY J
 have h2:=xY a0
 obtain ⟨a,rfl,-⟩:=J;obtain ⟨b,rfl,-⟩:=a0
 rw [Rat.num_intCast] at h1 h2
 rw [oy,oy,Wn (by omega) (by omega)]
 unfold kS
 simp only [Rat.intCast_lt_intCast]
theorem Og {x:Rat}(J:eo ks x):rC (b0 x)=some (b0 (-x)):=by
 obtain ⟨a,rfl,-⟩:=J
 rw [oy,← Rat.intCast_neg,oy]
 unfold rC
 show (m0 (!(decide (a<0))) (L a.natAbs)).bind _=_
 rw [rO (by omega),Kz];rfl
theorem rN {n:Int}(h:n8 n):om n=some (b0 (n:Rat)):=by rw [oy];exact YP h
theorem YY {x y:Rat}(J:eo ks x)(a0:eo ks y)(Lz:eo ks (x*y))(h0:y≠0):sG (b0 (x*y)) (b0 y)=some (b0 x):=by
 have h1:=xY Lz
 have h2:=xY a0
 obtain ⟨a,rfl,-⟩:=J;obtain ⟨b,rfl,-⟩:=a0
 rw [← Rat.intCast_mul] at h1 ⊢
 rw [Rat.num_intCast] at h1 h2
 have aP:b≠0:=fun c=>h0 (by rw [c];rfl)
 rw [oy,oy,oy]
 unfold sG
 show (xy (L (a*b).natAbs) (L b.natAbs)).bind _=_
 rw [aaY (jc _) (jc _) (fun c=>by have:=s7.1 c;omega) (by omega) (by omega),eg (by omega),eg (by omega)]
 have e1:((a*b).natAbs:Int) / (b.natAbs:Int)=(a.natAbs:Int):=by
  rw [Int.natAbs_mul,Int.natCast_mul];exact Int.mul_ediv_cancel _ (by omega)
 simp only [Option.bind_some]
 rw [e1]
 show (m0 (!(decide (a*b<0) == decide (b<0))) (L a.natAbs)).bind _=_
 rw [rO (by omega)]
 simp only [Option.bind_some]
 congr 2
 rcases Int.lt_or_gt_of_ne aP with c|c
 ·by_cases bE:a<0
  ·have : ¬a*b<0:=by have:=Int.mul_pos_of_neg_of_neg bE c;omega
   rw [decide_eq_false this,decide_eq_true c];simp only [eb,show (!(false == true))=true from rfl,if_true];omega
  ·by_cases cp:a=0
   ·subst cp;simp [eb]
   ·have:a*b<0:=Int.mul_neg_of_pos_of_neg (by omega) c
    rw [decide_eq_true this,decide_eq_true c];simp only [eb,BEq.rfl,Bool.not_true,Bool.false_eq_true,if_false];omega
 ·by_cases bE:a<0
  ·have:a*b<0:=Int.mul_neg_of_neg_of_pos bE c
   rw [decide_eq_true this,decide_eq_false (by omega)];simp only [eb,show (!(true == false))=true from rfl,if_true];omega
  ·have : ¬a*b<0:=by have:=Int.mul_nonneg (show 0≤a by omega) (show 0≤b by omega);omega
   rw [decide_eq_false this,decide_eq_false (by omega)];simp only [eb,BEq.rfl,Bool.not_true,Bool.false_eq_true,if_false];omega
def gP (N:Nat)(w:Rat)(t:cG)(i:Nat):List bm:=a4 (N+1) fun j=>b0 (t.T i j*w)
structure qI (m N:Nat) (w:Rat) (t:cG):Prop where
 pos:0<w
 hw:eo (21*100*fG) w
 iJ : ∀i,i<m→ ∀j,j≤N→eo fG (t.T i j*w)
 gW : ∀i,i<m→t.B i<N
theorem AZ:21*100*fG*(21*100*fG)+21*100*fG*(21*100*fG)≤ks:=by decide +kernel
theorem acK {q i:Nat}(a9:0<q)(an:i≤20):21*100*q*100+i*(q*100)≤21*100*q*(21*100*q):=by
 have h1:i*(q*100)≤20*(q*100):=Nat.mul_le_mul_right _ an
 have h2:21*100*q*2100≤21*100*q*(21*100*q):=Nat.mul_le_mul_left _ (by omega)
 generalize 21*100*q*(21*100*q)=z at *
 omega
theorem acL {i:Nat}(an:i≤20):21*100*fG*100+i*(fG*100)≤ks :=
 Nat.le_trans (acK pY an) (Nat.le_trans (Nat.le_add_right _ _) AZ)
theorem sd {K:Nat}(h:K≤21*100*fG):K≤ks:=by
 have adY:=AZ
 have h1:21*100*fG*1≤21*100*fG*(21*100*fG):=Nat.mul_le_mul_left _ (by have:=pY;generalize fG=q at *;omega)
 rw [Nat.mul_one] at h1
 exact Nat.le_trans h (Nat.le_trans h1 (Nat.le_trans (Nat.le_add_right _ _) adY))
theorem Qf {m N:Nat}(hm:m≤20)(fN:N<1000){w:Rat}{t:cG}(h:qI m N w t)(o:Nat→Int)(ao:∀j,j<N→ -100≤o j∧o j≤100)(iP:bm)(yk:iP=b0 w)(gp:Int)(free:List Bool){k:Nat}(a5:k<N):
 w4 ⟨a4 m (gP N w t),iP,du m t,gp,free⟩ (a4 N o) (k:Int)=some (jG (t.dy m (fun j=>(o j:Rat)) k)):=by
 subst yk
 have agh:=pY
 have small : ∀ {x:Rat} {K:Nat},eo K x→K≤21*100*fG→eo ks x:=fun h1 h2=>h1.mono (sd h2)
 have al : ∀j,j<N→eo 100 ((o j:Int):Rat):=fun j aD=>⟨o j,rfl,by have:=ao j aD;omega⟩
 have Sq : ∀j,j<N→n8 (o j):=fun j aD=>by have:=ao j aD;rw [mB];omega
 let S:Nat→Rat:=fun i=>w*(o k:Rat)-dj i (fun i=>(t.T i k*w)*(o (t.B i):Rat))
 have SP : ∀i,i≤m→eo ks (S i):=fun i an=>by
  have e1:eo (21*100*fG*100) (w*(o k:Rat)):=h.hw.mul (al k a5)
  have e2:eo (i*(fG*100)) (dj i (fun i=>(t.T i k*w)*(o (t.B i):Rat))):=eo.sum fun eA kA=>(h.iJ eA (by omega) k (by omega)).mul (al _ (h.gW eA (by omega)))
  exact (e1.sub e2).mono (acL (by omega))
 unfold w4
 refine bC (by rw [cX];omega) (aN (x:=o k) (by rw [Int.toNat_natCast];exact f8 a5) (aN (rN (Sq k a5)) (aN (xG (small h.hw (Nat.le_refl _)) (small (al k a5) (by omega))) ?_)))
 obtain ⟨s,e,-⟩:=h5 (f:=fun q:Int×Bool×List Int=>vZ (a4 m (gP N w t)) (b0 w).cQ (b0 w).cA (du m t) gp free (a4 N o) (k:Int) ((m:Nat):Int) q.1 q.2.1 q.2.2)
  (fun (i:Nat) (_:Unit)=>((i:Int),(b0 (S i)).cQ,(b0 (S i)).cA)) m (fun _ _=>True) (fun _=>((b0 (S m)).cQ,(b0 (S m)).cA))
  (fun i an _ _=>by
    refine ⟨(),?_,trivial⟩
    have EY:=h.gW i an
    have L4:S (i+1)=S i-(t.T i k*w)*(o (t.B i):Rat):=by simp only [S,dj];grind
    unfold vZ
    refine dn (by simp only;omega) (bC (by unfold du;rw [cX];simp only;omega) (aN (x:=((t.B i:Nat):Int)) (by simp only;rw [Int.toNat_natCast];exact f8 an) (bC (by rw [cX];omega) (aN (x:=o (t.B i)) (by rw [Int.toNat_natCast];exact f8 EY) (oj (fun c=> ?_) (fun c=> ?_))))))
    ·refine bC (by rw [cX];simp only;omega) (aN (x:=gP N w t i) (by simp only;rw [Int.toNat_natCast];exact f8 an) (bC (by unfold gP;rw [cX];omega) (aN (x:=b0 (t.T i k*w)) (by rw [Int.toNat_natCast];exact f8 (by omega)) (aN (sX (small (h.iJ i an k (by omega)) (by omega))) (oj (fun cb=> ?_) (fun cb=> ?_))))))
     ·refine aN (rN (Sq _ EY)) (aN (xG (small (h.iJ i an k (by omega)) (by omega)) (small (al _ EY) (by omega))) (aN (PK (SP i (by omega)) (by
       exact small ((h.iJ i an k (by omega)).mul (al _ EY)) (by omega))) ?_))
      simp only;rw [fs (by omega),L4]
     ·have cp:t.T i k*w=0:=ri.1 (by simpa using cb)
      simp only;rw [fs (by omega),L4,cp,show S i-0*(o (t.B i):Rat)=S i by grind]
    ·have cp:o (t.B i)=0:=by simpa using c
     simp only;rw [fs (by omega),L4,cp,show S i-t.T i k*w*((0:Int):Rat)=S i by rw [show ((0:Int):Rat)=0 from rfl];grind])
  (fun _ _=>by unfold vZ;exact dZ (by simp) rfl) () trivial
 have e0:S 0=w*(o k:Rat):=by simp only [S,dj];grind
 rw [e0] at e
 refine aN (x:=((b0 (S m)).cQ,(b0 (S m)).cA)) (by unfold He;rw [fC,show (du m t).length=m from cX ..];exact e) (aN (x:=jG (S m)) (sX (SP m (Nat.le_refl _))) ?_)
 congr 1
 have e2:S m=w*t.dy m (fun j=>(o j:Rat)) k:=by
  simp only [S]
  unfold cG.dy
  rw [h4 (f:=fun i=>t.T i k*w*(o (t.B i):Rat)) (g:=fun i=>w*((o (t.B i):Rat)*t.T i k)) (fun i _=>by grind),ls];grind
 rw [e2]
 have aj:=h.pos
 unfold jG
 by_cases c:t.dy m (fun j=>(o j:Rat)) k=0
 ·rw [if_pos c,if_pos (by rw [c];grind)]
 ·rw [if_neg c,if_neg (by grind)]
  by_cases cb:t.dy m (fun j=>(o j:Rat)) k<0
  ·rw [if_pos cb,if_pos]
   have:=Rat.mul_pos aj (show 0 < -(t.dy m (fun j=>(o j:Rat)) k) by grind)
   grind
  ·rw [if_neg cb,if_neg]
   have:=Rat.mul_pos aj (show 0<t.dy m (fun j=>(o j:Rat)) k by grind)
   grind
theorem PL {x y z v w:Rat}(hw:0<w)(a0:0<y)(bd:0<v):(x*w)*(v*w)<(z*w)*(y*w)↔x / y<z / v:=by
 have e1:(x*w)*(v*w)=(x / y)*((y*v)*(w*w)):=by grind
 have e2:(z*w)*(y*w)=(z / v)*((y*v)*(w*w)):=by grind
 have aj:0<(y*v)*(w*w):=Rat.mul_pos (Rat.mul_pos a0 bd) (Rat.mul_pos hw hw)
 rw [e1,e2]
 constructor
 ·intro h
  apply Classical.byContradiction
  intro c
  have:z / v≤x / y:=by grind
  have:=Rat.mul_le_mul_of_nonneg_right this (Rat.le_of_lt aj)
  grind
 ·intro h;exact Rat.mul_lt_mul_of_pos_right h aj
theorem xP {x w:Rat}(hw:0<w):jG (x*w)=jG x:=by
 unfold jG
 by_cases c:x=0
 ·rw [if_pos c,if_pos (by rw [c];grind)]
 ·rw [if_neg c,if_neg (by grind)]
  by_cases cb:x<0
  ·rw [if_pos cb,if_pos]
   have:=Rat.mul_pos (show 0 < -x by grind) hw
   grind
  ·rw [if_neg cb,if_neg]
   have:=Rat.mul_pos (show 0<x by grind) hw
   grind
theorem YZ {m N:Nat}(hm:m≤20)(fN:N<1000){w:Rat}{t:cG}(h:qI m N w t)(iP:bm)(free:List Bool){k:Nat}(a5:k≤N):
 ∃r,y9 ⟨a4 m (gP N w t),iP,du m t,(N:Int),free⟩ (k:Int)=some r∧DT m N t k r:=by
 have hw:=h.pos
 have nP : ∀i,i<m→ ∀j,j≤N→eo ks (t.T i j*w):=fun i an j aD=>(h.iJ i an j aD).mono (sd (by have:=pY;generalize fG=q at *;omega))
 have Cp : ∀i,i<m→ ∀j,j≤N→ ∀eA,eA<m→ ∀hH,hH≤N→eo ks (t.T i j*w*(t.T eA hH*w)):=fun i an j aD eA kA hH tj=>((h.iJ i an j aD).mul (h.iJ eA kA hH tj)).mono (by
  refine Nat.le_trans ?_ (Nat.le_trans (Nat.le_add_right _ _) AZ)
  exact Nat.mul_le_mul (by generalize fG=q;omega) (by generalize fG=q;omega))
 unfold y9
 obtain ⟨r,e,aq⟩:=pg (f:=fun q:Int×Int=>vP (a4 m (gP N w t)) iP.cQ iP.cA (du m t) (N:Int) free (k:Int) ((m:Nat):Int) q.1 q.2)
  (fun (i:Nat) (s:Int)=>(s,(i:Int))) m
  (fun n s=>(s = -1∧ ∀i,i<n→ ¬0<t.T i k)∨ ∃b:Nat,s=b∧b<n∧0<t.T b k∧ ∀i,i<n→0<t.T i k→t.T b N / t.T b k<t.T i N / t.T i k∨(t.T b N / t.T b k=t.T i N / t.T i k∧t.B b≤t.B i))
  (fun r=>DT m N t k r)
  (fun n a2 s cw=>by
    left
    unfold vP
    have g1:0≤((n:Nat):Int)∧((n:Nat):Int)<((a4 m (gP N w t)).length:Nat):=by rw [cX];omega
    have g2:(a4 m (gP N w t))[((n:Nat):Int).toNat]? = some (gP N w t n):=by rw [Int.toNat_natCast];exact f8 a2
    have g3 : ∀b,0≤((k:Nat):Int)∧((k:Nat):Int)<((gP N w t b).length:Nat):=fun b=>by unfold gP;rw [cX];omega
    have g4 : ∀b,(gP N w t b)[((k:Nat):Int).toNat]? = some (b0 (t.T b k*w)):=fun b=>by rw [Int.toNat_natCast];exact f8 (by omega)
    have g5 : ∀b,0≤((N:Nat):Int)∧((N:Nat):Int)<((gP N w t b).length:Nat):=fun b=>by unfold gP;rw [cX];omega
    have g6 : ∀b,(gP N w t b)[((N:Nat):Int).toNat]? = some (b0 (t.T b N*w)):=fun b=>by rw [Int.toNat_natCast];exact f8 (by omega)
    have kh:R ((n:Int)+1)=((n+1:Nat):Int):=fs (by omega)
    have pA:oV (b0 (t.T n k*w))=some (jG (t.T n k)):=by rw [sX (nP n a2 k a5),xP hw]
    by_cases aj:0<t.T n k
    ·have bX : ¬jG (t.T n k)≤0:=by have:=qu.2 aj;omega
     rcases cw with ⟨h1,h2⟩|⟨b,h1,aP,jy,ab⟩
     ·refine ⟨(n:Int),dn (by simp only;omega) (bC g1 (aN g2 (bC (g3 n) (aN (g4 n) (aN pA (dZ bX (dn (by simp only;omega) ?_))))))),.inr ⟨n,rfl,by omega,aj,fun i an ig=> ?_⟩⟩
      ·simp only;rw [kh]
      ·by_cases c:i=n
       ·subst c;exact .inr ⟨rfl,Nat.le_refl _⟩
       ·exact (h2 i (by omega) ig).elim
     ·subst h1
      have EV:0≤((b:Nat):Int)∧((b:Nat):Int)<((a4 m (gP N w t)).length:Nat):=by rw [cX];omega
      have EW:(a4 m (gP N w t))[((b:Nat):Int).toNat]? = some (gP N w t b):=by rw [Int.toNat_natCast];exact f8 (by omega)
      have gc:rD (b0 (t.T n N*w*(t.T b k*w))) (b0 (t.T b N*w*(t.T n k*w)))=some (if t.T n N / t.T n k<t.T b N / t.T b k then -1 else if t.T b N / t.T b k<t.T n N / t.T n k then 1 else 0):=by
       rw [YX (Cp n a2 N (by omega) b (by omega) k a5) (Cp b (by omega) N (by omega) n a2 k a5)]
       have r1:=PL (x:=t.T n N) (y:=t.T n k) (z:=t.T b N) (v:=t.T b k) hw aj jy
       have r2:=PL (x:=t.T b N) (y:=t.T b k) (z:=t.T n N) (v:=t.T n k) hw jy aj
       by_cases br:t.T n N / t.T n k<t.T b N / t.T b k
       ·rw [if_pos br,if_pos (r1.2 br)]
       ·rw [if_neg br,if_neg (fun c=>br (r1.1 c))]
        by_cases cb:t.T b N / t.T b k<t.T n N / t.T n k
        ·rw [if_pos cb,if_pos (r2.2 cb)]
        ·rw [if_neg cb,if_neg (fun c=>cb (r2.1 c))]
      have lead : ∀ {x r:Option ((Int×Int)⊕Int)} {f:Int→Option ((Int×Int)⊕Int)} {q:Int},rD (b0 (t.T n N*w*(t.T b k*w))) (b0 (t.T b N*w*(t.T n k*w)))=some q→f q=r →
       (if 0≤((N:Nat):Int)∧((N:Nat):Int)<((gP N w t n).length:Nat) then
         (gP N w t n)[((N:Nat):Int).toNat]? >>= fun qV =>
         if 0≤((b:Nat):Int)∧((b:Nat):Int)<((a4 m (gP N w t)).length:Nat) then
         (a4 m (gP N w t))[((b:Nat):Int).toNat]? >>= fun mr =>
         if 0≤((k:Nat):Int)∧((k:Nat):Int)<(mr.length:Nat) then
         mr[((k:Nat):Int).toNat]? >>= fun qW =>
         pb qV qW >>= fun nJ =>
         if 0≤((N:Nat):Int)∧((N:Nat):Int)<(mr.length:Nat) then
         mr[((N:Nat):Int).toNat]? >>= fun sn =>
         pb sn (b0 (t.T n k*w)) >>= fun nK =>
         rD nJ nK >>= f
         else none else none else none else none)=r:=fun a9 cf =>
       bC (g5 n) (aN (g6 n) (bC EV (aN EW (bC (g3 b) (aN (g4 b) (aN (xG (nP n a2 N (by omega)) (nP b (by omega) k a5)) (bC (g5 b) (aN (g6 b) (aN (xG (nP b (by omega) N (by omega)) (nP n a2 k a5)) (aN a9 cf))))))))))
      by_cases br:t.T n N / t.T n k<t.T b N / t.T b k
      ·rw [if_pos br] at gc
       refine ⟨(n:Int),dn (by simp only;omega) (bC g1 (aN g2 (bC (g3 n) (aN (g4 n) (aN pA (dZ bX (dZ (by simp only;omega) (lead (x:=none) gc (dn (by omega) ?_))))))))),.inr ⟨n,rfl,by omega,aj,fun i an ig=> ?_⟩⟩
       ·simp only;rw [kh]
       ·by_cases c:i=n
        ·subst c;exact .inr ⟨rfl,Nat.le_refl _⟩
        ·rcases ab i (by omega) ig with h|⟨h,-⟩
         ·left;grind
         ·left;rw [← h];exact br
      ·rw [if_neg br] at gc
       by_cases cb:t.T b N / t.T b k<t.T n N / t.T n k
       ·rw [if_pos cb] at gc
        refine ⟨(b:Int),dn (by simp only;omega) (bC g1 (aN g2 (bC (g3 n) (aN (g4 n) (aN pA (dZ bX (dZ (by simp only;omega) (lead (x:=none) gc (dZ (by omega) (iS (by decide) ?_)))))))))),.inr ⟨b,rfl,by omega,jy,fun i an ig=> ?_⟩⟩
        ·simp only;rw [kh]
        ·by_cases c:i=n
         ·subst c;exact .inl cb
         ·exact ab i (by omega) ig
       ·rw [if_neg cb] at gc
        have L2:t.T b N / t.T b k=t.T n N / t.T n k:=by grind
        have Sr:0≤((n:Nat):Int)∧((n:Nat):Int)<((du m t).length:Nat):=by unfold du;rw [cX];omega
        have Ss:(du m t)[((n:Nat):Int).toNat]? = some ((t.B n:Nat):Int):=by rw [Int.toNat_natCast];exact f8 a2
        have St:0≤((b:Nat):Int)∧((b:Nat):Int)<((du m t).length:Nat):=by unfold du;rw [cX];omega
        have Su:(du m t)[((b:Nat):Int).toNat]? = some ((t.B b:Nat):Int):=by rw [Int.toNat_natCast];exact f8 (by omega)
        by_cases jk:t.B n<t.B b
        ·refine ⟨(n:Int),dn (by simp only;omega) (bC g1 (aN g2 (bC (g3 n) (aN (g4 n) (aN pA (dZ bX (dZ (by simp only;omega) (lead (x:=none) gc (dZ (by omega) (f7 rfl (bC Sr (aN Ss (bC St (aN Su (dn (by omega) ?_))))))))))))))),.inr ⟨n,rfl,by omega,aj,fun i an ig=> ?_⟩⟩
         ·simp only;rw [kh]
         ·by_cases c:i=n
          ·subst c;exact .inr ⟨rfl,Nat.le_refl _⟩
          ·rcases ab i (by omega) ig with h|⟨h,cB⟩
           ·left;grind
           ·right;exact ⟨by grind,by omega⟩
        ·refine ⟨(b:Int),dn (by simp only;omega) (bC g1 (aN g2 (bC (g3 n) (aN (g4 n) (aN pA (dZ bX (dZ (by simp only;omega) (lead (x:=none) gc (dZ (by omega) (f7 rfl (bC Sr (aN Ss (bC St (aN Su (dZ (by omega) ?_))))))))))))))),.inr ⟨b,rfl,by omega,jy,fun i an ig=> ?_⟩⟩
         ·simp only;rw [kh]
         ·by_cases c:i=n
          ·subst c;exact .inr ⟨L2,by omega⟩
          ·exact ab i (by omega) ig
    ·have bX:jG (t.T n k)≤0:=by
      have : ¬0<jG (t.T n k):=fun c=>aj (qu.1 c)
      omega
     refine ⟨s,dn (by simp only;omega) (bC g1 (aN g2 (bC (g3 n) (aN (g4 n) (aN pA (dn bX ?_)))))),?_⟩
     ·simp only;rw [kh]
     ·rcases cw with ⟨h1,h2⟩|⟨b,h1,aP,jy,ab⟩
      ·exact .inl ⟨h1,fun i an=>if c:i=n then c▸aj else h2 i (by omega)⟩
      ·exact .inr ⟨b,h1,by omega,jy,fun i an ig=>if c:i=n then (aj (c▸ig)).elim else ab i (by omega) ig⟩)
  (fun s cw=>by
    refine ⟨s,by unfold vP;exact dZ (by simp only;omega) rfl,?_⟩
    rcases cw with ⟨h1,h2⟩|⟨b,h1,aP,jy,ab⟩
    ·exact .inl ⟨h1,h2⟩
    ·refine .inr ⟨b,h1,aP,jy,fun i an ig=> ?_,fun i an ig he=> ?_⟩
     ·rw [← (DJ jy ig).1]
      rcases ab i an ig with h|⟨h,-⟩
      ·exact Rat.le_of_lt h
      ·rw [h];exact Rat.le_refl
     ·rw [← (DJ jy ig).2] at he
      rcases ab i an ig with h|⟨-,h⟩
      ·rw [he] at h;grind
      ·exact h) (-1:Int) (.inl ⟨rfl,fun i an=>by omega⟩)
 refine ⟨r,aN ?_ rfl,aq⟩
 unfold Gn
 rw [fa,cX]
 exact e
def hg (m N:Nat)(h:Nat→Nat):List bu:=a4 m fun i=>some (h i,N+1)
structure mK (m N M:Nat) (h:Nat→Nat) (w:Rat) (t:cG) (e6:List (List bm)):Prop where
 len:e6.length=M
 row : ∀i,i<m→e6[h i]? = some (gP N w t i)
theorem Dg {α:Type}{l:List α}{i:Nat}{x y:α}(h:l[i]? = some x):(l.set i y)[i]? = some y:=by
 rw [List.getElem?_set,if_pos rfl,if_pos (List.getElem?_eq_some_iff.1 h).1]
theorem JK {α:Type}{l:List α}{i k:Nat}{y:α}(h:i≠k):(l.set i y)[k]? = l[k]? := by
 rw [List.getElem?_set,if_neg h]
theorem set_set {α:Type}(l:List α)(i:Nat)(x y:α):(l.set i x).set i y=l.set i y:=by
 rw [List.set_set]
structure yh (m N:Nat) (w:Rat) (t:cG) (r k:Nat):Prop where
 aq:r<m
 a5:k<N
 aj:t.T r k≠0
 B9 : ∀i,i<m→ ∀j,j≤N→eo fG ((t.cR r k).T i j*(t.T r k*w))
theorem aay {m N:Nat}(fN:N<1000){h:Nat→Nat}{w:Rat}{t:cG}{r k:Nat}(f:qI m N w t)(g:yh m N w t r k){i:Nat}(an:i<m)(yL:i≠r)(dt:h i≠h r){e6:List (List bm)}(h1:e6[h i]? = some (gP N w t i))(h2:e6[h r]? = some (gP N w t r))
 (x1 x2:Int) (aC:Int) (q1:List bu) (q2:List Int) (bL:List Bool) (v1 v2:Int) :
 CB v1 v2 (some (h r,N+1)) (some (h i,N+1)) x1 x2 (((N+1:Nat):Nat):Int) (b0 w).cQ (b0 w).cA aC q1 q2 bL (b0 (t.T r k*w)).cQ (b0 (t.T r k*w)).cA (b0 (t.T i k*w)).cQ (b0 (t.T i k*w)).cA 0 e6=some (e6.set (h i) (gP N (t.T r k*w) (t.cR r k) i)):=by
 have hw:=f.pos
 have nP : ∀i,i<m→ ∀j,j≤N→eo ks (t.T i j*w):=fun i an j aD=>(f.iJ i an j aD).mono (sd (by have:=pY;generalize fG=q at *;omega))
 have aes:eo ks w:=f.hw.mono (sd (Nat.le_refl _))
 have aet : ∀i,i<m→ ∀j,j≤N→eo ks ((t.cR r k).T i j*(t.T r k*w)):=fun i an j aD=>(g.B9 i an j aD).mono (sd (by have:=pY;generalize fG=q at *;omega))
 have Cp : ∀i,i<m→ ∀j,j≤N→ ∀eA,eA<m→ ∀hH,hH≤N→eo ks (t.T i j*w*(t.T eA hH*w)):=fun i an j aD eA kA hH tj=>((f.iJ i an j aD).mul (f.iJ eA kA hH tj)).mono (by
  refine Nat.le_trans ?_ (Nat.le_trans (Nat.le_add_right _ _) AZ)
  exact Nat.mul_le_mul (by generalize fG=q;omega) (by generalize fG=q;omega))
 have adZ : ∀j,j≤N→eo ks ((t.cR r k).T i j*(t.T r k*w)*w):=fun j aD=>((g.B9 i an j aD).mul f.hw).mono (by
  refine Nat.le_trans ?_ (Nat.le_trans (Nat.le_add_right _ _) AZ)
  exact Nat.mul_le_mul (by generalize fG=q;omega) (Nat.le_refl _))
 have aq:=g.aq
 have a5:=g.a5
 have aj:=g.aj
 have yR : ∀j,(t.cR r k).T i j=t.T i j-t.T i k*(t.T r j / t.T r k):=fun j=>by simp [cG.cR,yL]
 have Lg:w≠0:=by grind
 unfold CB
 obtain ⟨s,e,-⟩:=h5 (f:=fun q:Int×List (List bm)=>vQ v1 v2 (some (h r,N+1)) (some (h i,N+1)) x1 x2 (((N+1:Nat):Nat):Int) (b0 w).cQ (b0 w).cA aC q1 q2 bL (b0 (t.T r k*w)).cQ (b0 (t.T r k*w)).cA (b0 (t.T i k*w)).cQ (b0 (t.T i k*w)).cA q.1 q.2)
  (fun (c:Nat) (_:Unit)=>((c:Int),e6.set (h i) (a4 (N+1) fun j=>if j<c then b0 ((t.cR r k).T i j*(t.T r k*w)) else b0 (t.T i j*w)))) (N+1) (fun _ _=>True)
  (fun _=>e6.set (h i) (gP N (t.T r k*w) (t.cR r k) i))
  (fun c bb _ _=>by
    refine ⟨(),?_,trivial⟩
    have fin:(some (Sum.inl (R ((c:Int)+1),(e6.set (h i) (a4 (N+1) fun j=>if j<c then b0 ((t.cR r k).T i j*(t.T r k*w)) else b0 (t.T i j*w))).set (h i) ((a4 (N+1) fun j=>if j<c then b0 ((t.cR r k).T i j*(t.T r k*w)) else b0 (t.T i j*w)).set (0+((c:Int)).toNat) (b0 ((t.cR r k).T i c*(t.T r k*w)))))):Option ((Int×List (List bm))⊕List (List bm))) =
     some (Sum.inl (((c+1:Nat):Int),e6.set (h i) (a4 (N+1) fun j=>if j<c+1 then b0 ((t.cR r k).T i j*(t.T r k*w)) else b0 (t.T i j*w)))):=by
     rw [fs (by omega),Int.toNat_natCast,Nat.zero_add,set_set,k1]
     congr 4
     refine eY fun j _=> ?_
     by_cases br:j=c
     ·subst br;rw [if_pos rfl,if_pos (by omega)]
     ·rw [if_neg br]
      by_cases cb:j<c
      ·rw [if_pos cb,if_pos (by omega)]
      ·rw [if_neg cb,if_neg (by omega)]
    have hJ:sG (b0 ((t.cR r k).T i c*(t.T r k*w)*w)) (b0 w)=some (b0 ((t.cR r k).T i c*(t.T r k*w))):=YY (aet i an c (by omega)) aes (adZ c (by omega)) Lg
    unfold vQ
    refine dn (by simp only;omega) (aN (x:=(h i,N+1)) rfl (aN (x:=a4 (N+1) fun j=>if j<c then b0 ((t.cR r k).T i j*(t.T r k*w)) else b0 (t.T i j*w)) (by simp only;exact Dg h1) (bC (by simp only;omega) (aN (x:=b0 (t.T i c*w)) (by simp only;rw [Int.toNat_natCast,h7 bb,if_neg (by omega)]) ?_))))
    refine aN (xG (nP i an c (by omega)) (nP r aq k (by omega))) (aN (sX (nP i an k (by omega))) (oj (fun d=> ?_) (fun d=> ?_)))
    ·refine aN (x:=(h r,N+1)) rfl (aN (x:=gP N w t r) (by simp only;rw [JK dt];exact h2) (bC (by simp only;omega) (aN (x:=b0 (t.T r c*w)) (by simp only;rw [Int.toNat_natCast];exact h7 bb) (aN (sX (nP r aq c (by omega))) (oj (fun d2=> ?_) (fun d2=> ?_))))))
     ·refine aN (xG (nP i an k (by omega)) (nP r aq c (by omega))) (aN (PK (Cp i an c (by omega) r aq k (by omega)) (Cp i an k (by omega) r aq c (by omega))) (aN ?_ fin))
      rw [show t.T i c*w*(t.T r k*w)-t.T i k*w*(t.T r c*w)=(t.cR r k).T i c*(t.T r k*w)*w by rw [yR];grind]
      exact hJ
     ·have cp:t.T r c=0:=by have:=ri.1 (by simpa using d2);grind
      refine aN ?_ fin
      rw [show t.T i c*w*(t.T r k*w)=(t.cR r k).T i c*(t.T r k*w)*w by rw [yR,cp];grind]
      exact hJ
    ·have cp:t.T i k=0:=by have:=ri.1 (by simpa using d);grind
     refine aN ?_ fin
     rw [show t.T i c*w*(t.T r k*w)=(t.cR r k).T i c*(t.T r k*w)*w by rw [yR,cp];grind]
     exact hJ)
  (fun _ _=>by
    unfold vQ
    refine dZ (by simp) ?_
    simp only
    congr 3
    exact eY fun j aD=>by rw [if_pos aD]) () trivial
 have e0:e6.set (h i) (a4 (N+1) fun j=>if j<0 then b0 ((t.cR r k).T i j*(t.T r k*w)) else b0 (t.T i j*w))=e6:=by
  have:(a4 (N+1) fun j=>if j<0 then b0 ((t.cR r k).T i j*(t.T r k*w)) else b0 (t.T i j*w))=gP N w t i:=eY fun j _=>by rw [if_neg (by omega)]
  rw [this]
  apply List.ext_getElem?
  intro c
  rw [List.getElem?_set]
  split
  ·rename_i e;subst e
   rw [if_pos (List.getElem?_eq_some_iff.1 h1).1,h1]
  ·rfl
 rw [e0] at e
 exact e
theorem aaz {m N:Nat}(fN:N<1000){h:Nat→Nat}{w:Rat}{t:cG}(iJ:∀i,i<m→ ∀j,j≤N→eo fG (t.T i j*w)){i:Nat}(an:i<m){e6:List (List bm)}(h1:e6[h i]? = some (gP N w t i))
 (x1 x2:Int) (i3:Bool) (kp:List Int) (aC:Int) (q1:List bu) (q2:List Int) (bL:List Bool) :
 CD (some (h i,N+1)) x1 x2 (((N+1:Nat):Nat):Int) i3 kp aC q1 q2 bL 0 e6=some (e6.set (h i) (gP N (-w) t i)):=by
 have nP : ∀j,j≤N→eo ks (t.T i j*w):=fun j aD=>(iJ i an j aD).mono (sd (by have:=pY;generalize fG=q at *;omega))
 unfold CD
 obtain ⟨s,e,-⟩:=h5 (f:=fun q:Int×List (List bm)=>vS (some (h i,N+1)) x1 x2 (((N+1:Nat):Nat):Int) i3 kp aC q1 q2 bL q.1 q.2)
  (fun (c:Nat) (_:Unit)=>((c:Int),e6.set (h i) (a4 (N+1) fun j=>if j<c then b0 (t.T i j * -w) else b0 (t.T i j*w)))) (N+1) (fun _ _=>True)
  (fun _=>e6.set (h i) (gP N (-w) t i))
  (fun c bb _ _=>by
    refine ⟨(),?_,trivial⟩
    unfold vS
    refine dn (by simp only;omega) (aN (x:=(h i,N+1)) rfl (aN (x:=a4 (N+1) fun j=>if j<c then b0 (t.T i j * -w) else b0 (t.T i j*w)) (by simp only;exact Dg h1) (bC (by simp only;omega) (aN (x:=b0 (t.T i c*w)) (by simp only;rw [Int.toNat_natCast,h7 bb,if_neg (by omega)]) (aN (Og (nP c (by omega))) ?_)))))
    simp only
    rw [fs (by omega),Int.toNat_natCast,Nat.zero_add,set_set,k1]
    congr 4
    refine eY fun j _=> ?_
    by_cases br:j=c
    ·subst br;rw [if_pos rfl,if_pos (by omega)];congr 1;grind
    ·rw [if_neg br]
     by_cases cb:j<c
     ·rw [if_pos cb,if_pos (by omega)]
     ·rw [if_neg cb,if_neg (by omega)])
  (fun _ _=>by
    unfold vS
    refine dZ (by simp) ?_
    simp only
    congr 3
    exact eY fun j aD=>by rw [if_pos aD]) () trivial
 have e0:e6.set (h i) (a4 (N+1) fun j=>if j<0 then b0 (t.T i j * -w) else b0 (t.T i j*w))=e6:=by
  have:(a4 (N+1) fun j=>if j<0 then b0 (t.T i j * -w) else b0 (t.T i j*w))=gP N w t i:=eY fun j _=>by rw [if_neg (by omega)]
  rw [this]
  apply List.ext_getElem?
  intro c
  rw [List.getElem?_set]
  split
  ·rename_i e;subst e
   rw [if_pos (List.getElem?_eq_some_iff.1 h1).1,h1]
  ·rfl
 rw [e0] at e
 exact e
def pu (w:Rat)(t:cG)(r k:Nat):Rat:=if 0<t.T r k then t.T r k*w else -(t.T r k*w)
theorem Qg {m N M:Nat}(hm:m≤20)(fN:N<1000){h:Nat→Nat}(inj:∀i,i<m→ ∀k,k<m→h i=h k→i=k){w:Rat}{t:cG}{r k:Nat}(f:qI m N w t)(g:yh m N w t r k){e6:List (List bm)}(hf:mK m N M h w t e6)(gp:Int)(free:List Bool):
 ∃kR,wG r k (b0 w).cQ (b0 w).cA gp (hg m N h) e6 (du m t) free=some ((b0 (pu w t r k)).cQ,(b0 (pu w t r k)).cA,kR,du m (t.cR r k))∧mK m N M h (pu w t r k) (t.cR r k) kR:=by
 have aq:=g.aq
 have a5:=g.a5
 have aj:=g.aj
 have hw:=f.pos
 have nP : ∀i,i<m→ ∀j,j≤N→eo ks (t.T i j*w):=fun i an j aD=>(f.iJ i an j aD).mono (sd (by have:=pY;generalize fG=q at *;omega))
 have q5:gP N (t.T r k*w) (t.cR r k) r=gP N w t r:=eY fun j _=>by
  simp only [cG.cR,if_true];congr 1;grind
 have yS:(hg m N h).length=m:=cX ..
 unfold wG
 obtain ⟨p1,e1,kE,r1⟩:=h5 (f:=fun q:Int×List (List bm)=>vR (r:Int) (k:Int) (some (h r,N+1)) ((m:Nat):Int) (b0 w).cQ (b0 w).cA gp (hg m N h) (du m t) free (b0 (t.T r k*w)).cQ (b0 (t.T r k*w)).cA q.1 q.2)
  (fun (i:Nat) (p:List (List bm))=>((i:Int),p)) m (fun n p=>p.length=M∧ ∀i,i<m→p[h i]? = some (if i=r∨i<n then gP N (t.T r k*w) (t.cR r k) i else gP N w t i)) (fun p=>p)
  (fun n a2 p cw=>by
    obtain ⟨aU,cw⟩:=cw
    unfold vR
    by_cases c:n=r
    ·subst c
     refine ⟨p,dn (by simp only;omega) (bC (by rw [yS];simp only;omega) (aN (x:=some (h n,N+1)) (by simp only;rw [Int.toNat_natCast];exact h7 a2) (f7 (by simp) ?_))),aU,fun i an=> ?_⟩
     ·simp only;rw [fs (by omega)]
     ·rw [cw i an]
      by_cases br:i=n∨i<n
      ·rw [if_pos br,if_pos (by omega)]
      ·rw [if_neg br,if_neg (by omega)]
    ·have dt:h n≠h r:=fun e=>c (inj n a2 r aq e)
     have h1:p[h n]? = some (gP N w t n):=by rw [cw n a2,if_neg (by omega)]
     have h2:p[h r]? = some (gP N w t r):=by rw [cw r aq,if_pos (.inl rfl),q5]
     refine ⟨p.set (h n) (gP N (t.T r k*w) (t.cR r k) n),dn (by simp only;omega) (bC (by rw [yS];simp only;omega) (aN (x:=some (h n,N+1)) (by simp only;rw [Int.toNat_natCast];exact h7 a2) (iS (by simp;omega) (aN (x:=(h n,N+1)) rfl (aN h1 (bC (by simp only;omega) (aN (x:=b0 (t.T n k*w)) (by rw [Int.toNat_natCast];exact h7 (by omega)) (aN (aay fN f g a2 c dt h1 h2 _ _ _ _ _ _ _ _) ?_)))))))),by rw [List.length_set];exact aU,fun i an=> ?_⟩
     ·simp only;rw [fs (by omega)]
     ·by_cases br:i=n
      ·subst br;rw [Dg h1,if_pos (.inr (by omega))]
      ·rw [JK (fun e=>br (inj i an n a2 e.symm)),cw i an]
       by_cases cb:i=r∨i<n
       ·rw [if_pos cb,if_pos (by omega)]
       ·rw [if_neg cb,if_neg (by omega)])
  (fun p _=>by unfold vR;exact dZ (by simp) rfl) e6 ⟨hf.len,fun i an=>by
    rw [hf.row i an]
    by_cases c:i=r
    ·rw [if_pos (.inl c),c,q5]
    ·rw [if_neg (by omega)]⟩
 have EU : ∀i,i<m→p1[h i]? = some (gP N (t.T r k*w) (t.cR r k) i):=fun i an=>by rw [r1 i an,if_pos (.inr an)]
 have acM:(du m t).set (0+((r:Int)).toNat) (k:Int)=du m (t.cR r k):=by
  rw [Int.toNat_natCast,Nat.zero_add]
  unfold du
  rw [k1]
  exact eY fun i _=>by
   simp only [cG.cR]
   split<;>rfl
 have lead :
  (if 0≤(r:Int)∧(r:Int)<((hg m N h).length:Nat) then
    (hg m N h)[(0+((r:Int)).toNat)]? >>= fun x2 =>
    x2 >>= fun jz =>
    e6[jz.1]? >>= fun mX =>
    if 0≤(k:Int)∧(k:Int)<(jz.2:Nat) then
    mX[(0+((k:Int)).toNat)]? >>= fun ee =>
    CC (r:Int) (k:Int) x2 (((hg m N h).length:Nat):Int) (b0 w).cQ (b0 w).cA gp (hg m N h) (du m t) free ee.cQ ee.cA 0 e6 >>= fun dc =>
    if 0≤(r:Int)∧(r:Int)<((du m t).length:Nat) then
    if (0+((r:Int)).toNat)<(du m t).length then
    oV ee >>= fun gw =>
    if (decide ((0:Int)<gw))=true then
     some (ee.cQ,ee.cA,dc,(du m t).set (0+((r:Int)).toNat) (k:Int))
    else
     rC ee >>= fun e7 =>
     y2 (((hg m N h).length:Nat):Int) e7.cQ e7.cA gp (hg m N h) ((du m t).set (0+((r:Int)).toNat) (k:Int)) free 0 dc >>= fun jj =>
     some (e7.cQ,e7.cA,jj,(du m t).set (0+((r:Int)).toNat) (k:Int))
    else none else none else none else none)=(if (decide ((0:Int)<jG (t.T r k)))=true then
     some ((b0 (t.T r k*w)).cQ,(b0 (t.T r k*w)).cA,p1,du m (t.cR r k))
    else
     rC (b0 (t.T r k*w)) >>= fun e7 =>
     y2 ((m:Nat):Int) e7.cQ e7.cA gp (hg m N h) (du m (t.cR r k)) free 0 p1 >>= fun jj =>
     some (e7.cQ,e7.cA,jj,du m (t.cR r k))):=by
  refine bC (by rw [yS];omega) (aN (x:=some (h r,N+1)) (by rw [Int.toNat_natCast];exact h7 aq) (aN (x:=(h r,N+1)) rfl (aN (hf.row r aq) (bC (by simp only;omega) (aN (x:=b0 (t.T r k*w)) (by rw [Int.toNat_natCast];exact h7 (by omega)) (aN (x:=p1) (by unfold CC;rw [yS];exact e1) (bC (by unfold du;rw [cX];omega) (bC (by unfold du;rw [cX,Int.toNat_natCast];omega) (aN (sX (nP r aq k (by omega))) ?_)))))))))
  rw [xP hw,acM,yS]
 by_cases jZ:0<t.T r k
 ·have tI:pu w t r k=t.T r k*w:=if_pos jZ
  refine ⟨p1,lead.trans ?_,kE,fun i an=>by rw [tI];exact EU i an⟩
  rw [tI]
  exact dn (qu.2 jZ) rfl
 ·have tI:pu w t r k = -(t.T r k*w):=if_neg jZ
  obtain ⟨p2,e2,qX,r2⟩:=h5 (f:=fun q:Int×List (List bm)=>vT ((m:Nat):Int) (b0 (-(t.T r k*w))).cQ (b0 (-(t.T r k*w))).cA gp (hg m N h) (du m (t.cR r k)) free q.1 q.2)
   (fun (i:Nat) (p:List (List bm))=>((i:Int),p)) m (fun n p=>p.length=M∧ ∀i,i<m→p[h i]? = some (if i<n then gP N (-(t.T r k*w)) (t.cR r k) i else gP N (t.T r k*w) (t.cR r k) i)) (fun p=>p)
   (fun n a2 p cw=>by
     obtain ⟨aU,cw⟩:=cw
     have h1:p[h n]? = some (gP N (t.T r k*w) (t.cR r k) n):=by rw [cw n a2,if_neg (by omega)]
     unfold vT
     refine ⟨p.set (h n) (gP N (-(t.T r k*w)) (t.cR r k) n),dn (by simp only;omega) (bC (by rw [yS];simp only;omega) (aN (x:=some (h n,N+1)) (by simp only;rw [Int.toNat_natCast];exact h7 a2) (aN (x:=(h n,N+1)) rfl (aN h1 (aN (aaz fN g.B9 a2 h1 _ _ _ _ _ _ _ _) ?_))))),by rw [List.length_set];exact aU,fun i an=> ?_⟩
     ·simp only;rw [fs (by omega)]
     ·by_cases br:i=n
      ·subst br;rw [Dg h1,if_pos (by omega)]
      ·rw [JK (fun e=>br (inj i an n a2 e.symm)),cw i an]
       by_cases cb:i<n
       ·rw [if_pos cb,if_pos (by omega)]
       ·rw [if_neg cb,if_neg (by omega)])
   (fun p _=>by unfold vT;exact dZ (by simp) rfl) p1 ⟨kE,fun i an=>by rw [EU i an,if_neg (by omega)]⟩
  refine ⟨p2,lead.trans ?_,qX,fun i an=>by rw [tI,r2 i an,if_pos an]⟩
  rw [tI]
  exact dZ (fun c=>jZ (qu.1 c)) (aN (Og (nP r aq k (by omega))) (aN (x:=p2) (by unfold y2;exact e2) rfl))
theorem NY {m:Nat}(hm:m≤1000)(t:cG)(j:Nat): ∃b,rM (du m t) (j:Int)=some b∧(b=true↔ ∃i,i<m∧t.B i=j):=by
 unfold rM Ar Ds
 obtain ⟨r,e,h⟩:=pg (f:=fun w:Int=>rG (du m t) (j:Int) ((m:Nat):Int) w) (fun (i:Nat) (_:Unit)=>(i:Int)) m (fun i _=> ∀k,k<i→t.B k≠j)
  (fun r=>(∃i:Nat,r = .inr (i:Int)∧i<m∧t.B i=j)∨(r = .inl ()∧ ¬∃i,i<m∧t.B i=j))
  (fun i an _ cw=>by
    unfold rG
    by_cases c:t.B i=j
    ·right
     exact ⟨_,dn (by omega) (bC (by unfold du;rw [cX];omega) (aN (x:=((t.B i:Nat):Int)) (by rw [Int.toNat_natCast];exact f8 an) (f7 (by simp [c]) rfl))),.inl ⟨i,rfl,an,c⟩⟩
    ·left
     refine ⟨(),dn (by omega) (bC (by unfold du;rw [cX];omega) (aN (x:=((t.B i:Nat):Int)) (by rw [Int.toNat_natCast];exact f8 an) (iS (by simp;omega) (by rw [fs (by omega)])))),fun k a5=> ?_⟩
     by_cases e:k=i
     ·rw [e];exact c
     ·exact cw k (by omega))
  (fun _ cw=>⟨_,by unfold rG;exact dZ (by omega) rfl,.inr ⟨rfl,fun ⟨i,an,e⟩=>cw i an e⟩⟩) () (fun k a5=>by omega)
 rw [fC,show (du m t).length=m from cX ..]
 rcases h with ⟨i,rfl,h1,h2⟩|⟨rfl,h⟩
 ·exact ⟨true,aN (x:=(i:Int)) (aN e rfl) (by simp),by simp only [true_iff];exact ⟨i,h1,h2⟩⟩
 ·exact ⟨false,aN (x:=(-1:Int)) (aN e rfl) rfl,by simp [h]⟩
theorem Av {m N M:Nat}{h:Nat→Nat}{w:Rat}{t:cG}{e6:List (List bm)}(hf:mK m N M h w t e6):(hg m N h).all (qR e6)=true:=by
 rw [List.all_eq_true]
 intro x J
 obtain ⟨i,an,rfl⟩:=Kg.1 J
 simp only [qR]
 have h1:=hf.row i an
 have h2:e6.getD (h i) []=gP N w t i:=by rw [List.getD_eq_getElem?_getD,h1];rfl
 rw [h2,show (gP N w t i).length=N+1 from cX ..]
 simp [(List.getElem?_eq_some_iff.1 h1).1]
theorem uH {m N M:Nat}{h:Nat→Nat}{w:Rat}{t:cG}{e6:List (List bm)}(hf:mK m N M h w t e6):(hg m N h).map (iv e6)=a4 m (gP N w t):=by
 unfold hg
 rw [P6]
 exact eY fun i an=>by
  have h2:e6.getD (h i) []=gP N w t i:=by rw [List.getD_eq_getElem?_getD,hf.row i an];rfl
  simp only [iv]
  rw [h2]
  exact List.take_of_length_le (Nat.le_of_eq (cX ..))
theorem Sv {m:Nat}{o:Nat→Rat}{t:cG}{j:Nat}:t.rz m 1 (fun _=>o) j↔0<t.dy m o j:=Ek (g:=fun _=>t.dy m o j)
theorem Y0 {gj m N M:Nat}{A:Nat→Nat→Rat}(hm:m≤20)(fN:N<1000){h:Nat→Nat}(inj:∀i,i<m→ ∀k,k<m→h i=h k→i=k){w:Rat}{t:cG}(ok:f6 gj m N A t)(f:qI m N w t)(o:Nat→Int)(ao:∀j,j<N→ -100≤o j∧o j≤100)(fc:Nat→Bool)
 (aeu : ∀r s,o3 m N 1 (fun _ j=>(o j:Rat)) (fun j=>fc j=true) t r s→yh m N w t r s) {e6:List (List bm)} (hf:mK m N M h w t e6) :
 ∃x,vX (N:Int) (b0 w).cQ (b0 w).cA (hg m N h) e6 (du m t) (a4 N fc) (a4 N o) 0=some x ∧
  ((x = .inl (false,(b0 w).cQ,(b0 w).cA,e6,du m t)∧ ∀j,j<N→fc j=true→ ¬0<t.dy m (fun j=>(o j:Rat)) j) ∨
   (∃r s kR,x = .inl (true,(b0 (pu w t r s)).cQ,(b0 (pu w t r s)).cA,kR,du m (t.cR r s))∧o3 m N 1 (fun _ j=>(o j:Rat)) (fun j=>fc j=true) t r s∧mK m N M h (pu w t r s) (t.cR r s) kR) ∨
   (x = .inr ()∧ ∃s,s<N∧0<t.dy m (fun j=>(o j:Rat)) s∧ ∀i,i<m→ ¬0<t.T i s)):=by
 unfold vX
 refine pg (f:=fun q:Int=>vM (N:Int) (b0 w).cQ (b0 w).cA (hg m N h) e6 (du m t) (a4 N fc) (a4 N o) q) (fun (i:Nat) (_:Unit)=>(i:Int)) N
  (fun n _=> ∀j,j<n→fc j=true→ ¬0<t.dy m (fun j=>(o j:Rat)) j) _ (fun n a2 _ cw=> ?_) (fun _ cw=> ?_) () (fun j aD=>by omega)
 ·have next : ∀(ju:fc n=true→ ¬0<t.dy m (fun j=>(o j:Rat)) n),∀j,j<n+1→fc j=true→ ¬0<t.dy m (fun j=>(o j:Rat)) j:=fun ju j aD=>by
   by_cases c:j=n
   ·subst c;exact ju
   ·exact cw j (by omega)
  have g1:0≤((n:Nat):Int)∧((n:Nat):Int)<((a4 N fc).length:Nat):=by rw [cX];omega
  have g2:(a4 N fc)[(0+((n:Nat):Int).toNat)]? = some (fc n):=by rw [Int.toNat_natCast];exact h7 a2
  have kh:R ((n:Int)+1)=((n+1:Nat):Int):=fs (by omega)
  unfold vM
  by_cases qk:fc n=true
  ·obtain ⟨b,i3,kp⟩:=NY (m:=m) (by omega) t n
   cases b with
   | true =>
    obtain ⟨i,an,gW⟩:=kp.1 rfl
    left
    refine ⟨(),dn (by omega) (bC g1 (aN g2 (f7 qk (aN i3 (f7 rfl (by rw [kh])))))),next fun _=> ?_⟩
    rw [← gW,ok.Ab _ an];grind
   | false =>
    have dF:=Qf hm fN f o ao ((⟨(b0 w).cQ,(b0 w).cA⟩:bm)) rfl (N:Int) (a4 N fc) a2
    by_cases rB:0<t.dy m (fun j=>(o j:Rat)) n
    ·obtain ⟨q,q1,q2⟩:=YZ hm fN f ((⟨(b0 w).cQ,(b0 w).cA⟩:bm)) (a4 N fc) (k:=n) (by omega)
     have bX : ¬jG (t.dy m (fun j=>(o j:Rat)) n)≤0:=by have:=qu.2 rB;omega
     right
     rcases q2 with ⟨rfl,h2⟩|⟨b,rfl,aP,jy,ab,au⟩
     ·exact ⟨_,dn (by omega) (bC g1 (aN g2 (f7 qk (aN i3 (iS rfl (bC (Av hf) (aN (by rw [uH hf];exact dF) (dZ bX (aN (by rw [uH hf];exact q1) (dn (by decide) rfl)))))))))),.inr (.inr ⟨rfl,n,a2,rB,h2⟩)⟩
     ·have dx:o3 m N 1 (fun _ j=>(o j:Rat)) (fun j=>fc j=true) t b n:=⟨a2,qk,Sv.2 rB,fun j aD cf dF=>cw j aD cf (Sv.1 dF),aP,jy,ab,au⟩
      obtain ⟨kR,e1,e2⟩:=Qg hm fN inj f (aeu b n dx) hf (N:Int) (a4 N fc)
      exact ⟨_,dn (by omega) (bC g1 (aN g2 (f7 qk (aN i3 (iS rfl (bC (Av hf) (aN (by rw [uH hf];exact dF) (dZ bX (aN (by rw [uH hf];exact q1) (dZ (by omega) (aN e1 rfl))))))))))),.inr (.inl ⟨b,n,kR,rfl,dx,e2⟩)⟩
    ·left
     have bX:jG (t.dy m (fun j=>(o j:Rat)) n)≤0:=by
      have : ¬0<jG (t.dy m (fun j=>(o j:Rat)) n):=fun c=>rB (qu.1 c)
      omega
     exact ⟨(),dn (by omega) (bC g1 (aN g2 (f7 qk (aN i3 (iS rfl (bC (Av hf) (aN (by rw [uH hf];exact dF) (dn bX (by rw [kh]))))))))),next fun _=>rB⟩
  ·left
   have EZ:fc n=false:=by simpa using qk
   exact ⟨(),dn (by omega) (bC g1 (aN g2 (iS EZ (by rw [kh])))),next fun c=>(qk c).elim⟩
 ·exact ⟨_,by unfold vM;exact dZ (by omega) rfl,.inl ⟨rfl,cw⟩⟩
def te (N:Int)(p9:List bu)(free:List Bool)(obj:List Int)(s:Bool×List Int×List (List bm)×List Int):Option ((Bool×List Int×List (List bm)×List Int)⊕((Bool×List Int×List (List bm)×List Int)⊕(Bool×List Int×List (List bm)×List Int))) :=
 match vX N s.1 s.2.1 p9 s.2.2.1 s.2.2.2 free obj 0 with
 | none=>none
 | some (.inl (true,bO))=>some (.inl bO)
 | some (.inl (false,bO))=>some (.inr (.inl bO))
 | some (.inr ())=>some (.inr (.inr s))
theorem aaA {N:Int}{p9:List bu}{free:List Bool}{obj:List Int}: ∀s r,iter (te N p9 free obj) s=some r→Cy N p9 free obj true s.1 s.2.1 s.2.2.1 s.2.2.2=some r:=by
 unfold Cy
 apply iter.partial_correctness (te N p9 free obj) (fun s r=>iter (fun w:Bool×Bool×(List Int)×(List (List bm))×(List Int)=>tK N p9 free obj w.1 w.2.1 w.2.2.1 w.2.2.2.1 w.2.2.2.2) (true,s.1,s.2.1,s.2.2.1,s.2.2.2)=some r)
 intro it ih s r aq
 cases J:vX N s.1 s.2.1 p9 s.2.2.1 s.2.2.2 free obj 0 with
 | none=>unfold te at aq;rw [J] at aq;simp at aq
 | some x =>
  have hm:tK N p9 free obj true s.1 s.2.1 s.2.2.1 s.2.2.2=match x with
   | .inl fL=>(some (.inl (fL.1,fL.2.1,fL.2.2.1,fL.2.2.2.1,fL.2.2.2.2)))
   | .inr fL=>(some (.inr (.inr (s.1,s.2.1,s.2.2.1,s.2.2.2)))):=by
   unfold tK
   refine f7 rfl ?_
   cases x with
   | inl a=>exact aN J rfl
   | inr a=>exact aN J rfl
  unfold te at aq
  rw [J] at aq
  rw [iter]
  simp only
  rw [hm]
  match x,aq with
  | .inl (true,bO),aq=>exact ih _ _ aq
  | .inl (false,bO),aq =>
   simp at aq
   subst aq
   show iter _ (false,bO.1,bO.2.1,bO.2.2.1,bO.2.2.2)=_
   rw [iter]
   simp only
   unfold tK
   rfl
  | .inr (),aq =>
   simp at aq
   subst aq
   rfl
theorem aaB {gj m N M:Nat}{A:Nat→Nat→Rat}(hm:m≤20)(fN:N<1000){h:Nat→Nat}{w:Rat}{t:cG}(ok:f6 gj m N A t)(f:qI m N w t)(o:Nat→Int)(ao:∀j,j<N→ -100≤o j∧o j≤100)(fc:Nat→Bool){e6:List (List bm)}(hf:mK m N M h w t e6):
 Cz (N:Int) (b0 w).cQ (b0 w).cA (hg m N h) e6 (du m t) (a4 N o) 0 (a4 N fc)=some (a4 N fun j=>fc j && !decide (t.dy m (fun j=>(o j:Rat)) j<0)):=by
 unfold Cz
 obtain ⟨s,e,-⟩:=h5 (f:=fun q:Int×List Bool=>vN (N:Int) (b0 w).cQ (b0 w).cA (hg m N h) e6 (du m t) (a4 N o) q.1 q.2)
  (fun (i:Nat) (_:Unit)=>((i:Int),a4 N fun j=>if j<i then fc j && !decide (t.dy m (fun j=>(o j:Rat)) j<0) else fc j)) N (fun _ _=>True) (fun _=>a4 N fun j=>fc j && !decide (t.dy m (fun j=>(o j:Rat)) j<0))
  (fun n a2 _ _=>by
    refine ⟨(),?_,trivial⟩
    have same:fc n=(fc n && !decide (t.dy m (fun j=>(o j:Rat)) n<0))→(R ((n:Int)+1),a4 N fun j=>if j<n then fc j && !decide (t.dy m (fun j=>(o j:Rat)) j<0) else fc j)=(((n+1:Nat):Int),a4 N fun j=>if j<n+1 then fc j && !decide (t.dy m (fun j=>(o j:Rat)) j<0) else fc j):=fun he=>by
     rw [fs (by omega)]
     congr 1
     refine eY fun j _=> ?_
     by_cases c:j=n
     ·subst c;rw [if_neg (by omega),if_pos (by omega)];exact he
     ·by_cases cb:j<n
      ·rw [if_pos cb,if_pos (by omega)]
      ·rw [if_neg cb,if_neg (by omega)]
    have g1 : ∀F:Nat→Bool,0≤((n:Nat):Int)∧((n:Nat):Int)<((a4 N F).length:Nat):=fun F=>by rw [cX];omega
    have g2:(a4 N fun j=>if j<n then fc j && !decide (t.dy m (fun j=>(o j:Rat)) j<0) else fc j)[(0+((n:Nat):Int).toNat)]? = some (fc n):=by rw [Int.toNat_natCast,h7 a2,if_neg (by omega)]
    unfold vN
    by_cases qk:fc n=true
    ·obtain ⟨b,i3,kp⟩:=NY (m:=m) (by omega) t n
     cases b with
     | true =>
      obtain ⟨i,an,gW⟩:=kp.1 rfl
      refine dn (by simp only;omega) (bC (g1 _) (aN g2 (f7 qk (aN i3 (f7 rfl ?_)))))
      simp only
      rw [same]
      rw [← gW,ok.Ab _ an,decide_eq_false (by grind)];simp
     | false =>
      have dF:=Qf hm fN f o ao ((⟨(b0 w).cQ,(b0 w).cA⟩:bm)) rfl (N:Int) (a4 N fun j=>if j<n then fc j && !decide (t.dy m (fun j=>(o j:Rat)) j<0) else fc j) a2
      have bX:jG (t.dy m (fun j=>(o j:Rat)) n)<0↔t.dy m (fun j=>(o j:Rat)) n<0:=by
       unfold jG
       by_cases c:t.dy m (fun j=>(o j:Rat)) n=0
       ·rw [if_pos c,c];constructor
        ·intro h;omega
        ·intro h;grind
       ·rw [if_neg c]
        by_cases cb:t.dy m (fun j=>(o j:Rat)) n<0
        ·rw [if_pos cb];simp [cb]
        ·rw [if_neg cb];constructor
         ·intro h;omega
         ·intro h;exact (cb h).elim
      by_cases rB:t.dy m (fun j=>(o j:Rat)) n<0
      ·refine dn (by simp only;omega) (bC (g1 _) (aN g2 (f7 qk (aN i3 (iS rfl (bC (Av hf) (aN (by rw [uH hf];exact dF) (dn (bX.2 rB) (bC (by rw [cX,Int.toNat_natCast];omega) ?_)))))))))
       simp only
       rw [fs (by omega),Int.toNat_natCast,Nat.zero_add,k1]
       congr 3
       refine eY fun j _=> ?_
       by_cases c:j=n
       ·subst c;rw [if_pos rfl,if_pos (by omega),decide_eq_true rB];simp
       ·rw [if_neg c]
        by_cases cb:j<n
        ·rw [if_pos cb,if_pos (by omega)]
        ·rw [if_neg cb,if_neg (by omega)]
      ·refine dn (by simp only;omega) (bC (g1 _) (aN g2 (f7 qk (aN i3 (iS rfl (bC (Av hf) (aN (by rw [uH hf];exact dF) (dZ (fun c=>rB (bX.1 c)) ?_))))))))
       simp only
       rw [same]
       rw [decide_eq_false rB];simp
    ·have EZ:fc n=false:=by simpa using qk
     refine dn (by simp only;omega) (bC (g1 _) (aN g2 (iS EZ ?_)))
     simp only
     rw [same]
     rw [EZ];simp)
  (fun _ _=>by
    unfold vN
    refine dZ (by simp) ?_
    simp only
    congr 2
    exact eY fun j aD=>by rw [if_pos aD]) () trivial
 have e0:(a4 N fun j=>if j<0 then fc j && !decide (t.dy m (fun j=>(o j:Rat)) j<0) else fc j)=a4 N fc:=eY fun j _=>by rw [if_neg (by omega)]
 rw [e0] at e
 exact e
theorem Yn {gj m N M:Nat}{A:Nat→Nat→Rat}(hm:m≤20)(fN:N<1000){h:Nat→Nat}(inj:∀i,i<m→ ∀k,k<m→h i=h k→i=k)(o:Nat→Int)(ao:∀j,j<N→ -100≤o j∧o j≤100)(fc:Nat→Bool)
 (Inv:Rat→cG→Prop) (inv : ∀w t,Inv w t→f6 gj m N A t∧t.lO m N∧qI m N w t)
 (gC : ∀w t r s,Inv w t→o3 m N 1 (fun _ j=>(o j:Rat)) (fun j=>fc j=true) t r s→yh m N w t r s∧Inv (pu w t r s) (t.cR r s)) {w:Rat} {t:cG} (cw:Inv w t) {e6:List (List bm)} (hf:mK m N M h w t e6) :
 ∃b bK c9 kR yM,wq (b0 w).cQ (b0 w).cA (N:Int) (hg m N h) e6 (du m t) (a4 N fc) (a4 N o)=some (b,(b0 bK).cQ,(b0 bK).cA,kR,du m c9,a4 N yM)∧Inv bK c9∧mK m N M h bK c9 kR ∧
  ((b=true∧(∀j,j<N→fc j=true→ ¬0<c9.dy m (fun j=>(o j:Rat)) j)∧yM=fun j=>fc j && !decide (c9.dy m (fun j=>(o j:Rat)) j<0))∨(b=false∧ ∃s,s<N∧0<c9.dy m (fun j=>(o j:Rat)) s∧ ∀i,i<m→ ¬0<c9.T i s)):=by
 obtain ⟨ok,nN,Cb⟩:=inv w t cw
 obtain ⟨x,dz,c9,e,-,-,-,bK,kR,h1,h2,ab⟩:=OD (gj:=gj) (m:=m) (N:=N) (K:=1) (A:=A) (obj:=fun _ j=>(o j:Rat)) (b4:=fun j=>fc j=true)
  (f:=te (N:Int) (hg m N h) (a4 N fc) (a4 N o))
  (fun s t=> ∃w e6,s=((b0 w).cQ,(b0 w).cA,e6,du m t)∧Inv w t∧mK m N M h w t e6)
  (fun s x t=> ∃w e6,Inv w t∧mK m N M h w t e6∧((x = .inl ((b0 w).cQ,(b0 w).cA,e6,du m t)∧ ∀j,j<N→fc j=true→ ¬0<t.dy m (fun j=>(o j:Rat)) j) ∨
    (x = .inr ((b0 w).cQ,(b0 w).cA,e6,du m t)∧ ∃s,s<N∧0<t.dy m (fun j=>(o j:Rat)) s∧ ∀i,i<m→ ¬0<t.T i s)))
  (fun s t cV ok _=>by
    obtain ⟨w,e6,rfl,cw,hf⟩:=cV
    obtain ⟨x,e,J⟩:=Y0 hm fN inj ok (inv w t cw).2.2 o ao fc (fun r s b=>(gC w t r s cw b).1) hf
    rcases J with ⟨rfl,J⟩|⟨r,s,kR,rfl,dx,ad0⟩|⟨rfl,J⟩
    ·left
     exact ⟨_,by unfold te;simp only;rw [e],w,e6,cw,hf,.inl ⟨rfl,J⟩⟩
    ·right
     exact ⟨_,r,s,by unfold te;simp only;rw [e],dx,pu w t r s,kR,rfl,(gC w t r s cw dx).2,ad0⟩
    ·left
     exact ⟨_,by unfold te;simp only;rw [e],w,e6,cw,hf,.inr ⟨rfl,J⟩⟩)
  (a:=((b0 w).cQ,(b0 w).cA,e6,du m t)) (t:=t) ⟨w,e6,rfl,cw,hf⟩ ok nN
 have e2:=aaA _ _ e
 obtain ⟨kM,agi,ad1⟩:=inv bK c9 h1
 rcases ab with ⟨rfl,ab⟩|⟨rfl,ab⟩
 ·refine ⟨true,bK,c9,kR,_,?_,h1,h2,.inl ⟨rfl,ab,rfl⟩⟩
  unfold wq
  exact aN e2 (aN (aaB hm fN kM ad1 o ao fc h2) rfl)
 ·refine ⟨false,bK,c9,kR,fc,?_,h1,h2,.inr ⟨rfl,ab⟩⟩
  unfold wq
  exact aN e2 rfl
def hh (m:Nat)(A:Nat→Nat→Rat)(t:cG):Rat:=if 0<t.D m A then t.D m A else -(t.D m A)
theorem abE {m N:Nat}{A:Nat→Nat→Rat}{t:cG}(h:t.D m A≠0):0<hh m A t:=by
 unfold hh;split<;>grind
theorem Q6 {m K:Nat}{A:Nat→Nat→Rat}{t:cG}{x:Rat}(h:eo K (x*t.D m A)):eo K (x*hh m A t):=by
 unfold hh;split
 ·exact h
 ·have:=h.neg
  rw [show x * -(t.D m A) = -(x*t.D m A) by grind];exact this
theorem kL.yi {m N:Nat}{A:Nat→Nat→Rat}(s:Small m N A){t:cG}(h:kL m N A t):qI m N (hh m A t) t where
 pos:=abE (N:=N) h.sC
 hw:=by
  have h1:eo fG (1*t.D m A):=by rw [Rat.one_mul];exact h.B8 s
  have:=Q6 h1
  rw [Rat.one_mul] at this
  exact this.mono (by generalize fG=q;omega)
 iJ:=fun i an j aD=>Q6 (h.tx s an aD)
 gW:=h.ok.lc
theorem kL.El {m N:Nat}{A:Nat→Nat→Rat}(s:Small m N A){t:cG}(h:kL m N A t){r k:Nat}(aq:r<m)(a5:k<N)(aj:t.T r k≠0):yh m N (hh m A t) t r k where
 aq:=aq
 a5:=a5
 aj:=aj
 B9:=fun i an j aD=>by
  have kM:=h.ok.cR aq a5 aj
  have h1:eo fG ((t.cR r k).T i j*(t.cR r k).D m A):=by
   rw [← kM.vy an aD]
   refine eo.mono (xW fun d7 oN c bb=> ?_) (AY▸xE (by omega) s.hm)
   simp only [ga]
   split
   ·exact s.tH c bb j aD
   ·exact s.tH c bb _ (Nat.le_of_lt (kM.lc d7 oN))
  rw [h.ok.x7 aq a5] at h1
  unfold hh
  split
  ·exact h1
  ·have:=h1.neg
   rw [show (t.cR r k).T i j*(t.T r k * -(t.D m A)) = -((t.cR r k).T i j*(t.T r k*t.D m A)) by grind];exact this
theorem QL {m N:Nat}{A:Nat→Nat→Rat}{t:cG}(h:f6 m m N A t)(bG:t.D m A≠0){r k:Nat}(aq:r<m)(a5:k<N)(aj:t.T r k≠0):pu (hh m A t) t r k=hh m A (t.cR r k):=by
 have e:=h.x7 aq a5
 unfold pu hh
 rw [e]
 by_cases br:0<t.T r k<;>by_cases cb:0<t.D m A
 ·rw [if_pos br,if_pos cb,if_pos (Rat.mul_pos br cb)]
 ·have:=Rat.mul_pos br (show 0 < -(t.D m A) by grind)
  rw [if_pos br,if_neg cb,if_neg (by grind)];grind
 ·have:=Rat.mul_pos (show 0 < -(t.T r k) by grind) cb
  rw [if_neg br,if_pos cb,if_neg (by grind)]
 ·have:=Rat.mul_pos (show 0 < -(t.T r k) by grind) (show 0 < -(t.D m A) by grind)
  rw [if_neg br,if_neg cb,if_pos (by grind)];grind
def jT (h:Nat→Nat)(t:cG):cG:=⟨fun i j=>t.T (h i) j,fun i=>t.B (h i)⟩
theorem J9 {h:Nat→Nat}{t:cG}{r k i:Nat}(fJ:h i=h r→i=r):(∀j,((jT h t).cR r k).T i j=(jT h (t.cR (h r) k)).T i j)∧((jT h t).cR r k).B i=(jT h (t.cR (h r) k)).B i:=by
 simp only [cG.cR,jT]
 by_cases c:i=r
 ·subst c;simp
 ·have:h i≠h r:=fun e=>c (fJ e)
  simp [c,this]
theorem OM {α:Type}{m i:Nat}(an:i<m)(f:Nat→α):(a4 m f).take (i-0)++((a4 m f).drop (0+(i+1))).take (m-(i+1))=a4 (m-1) (skip i f):=by
 apply List.ext_getElem?
 intro j
 rw [Nat.sub_zero,Nat.zero_add]
 have aU:((a4 m f).take i).length=i:=by rw [List.length_take,cX];omega
 by_cases c:j<i
 ·rw [List.getElem?_append_left (by omega),List.getElem?_take,if_pos c,f8 (by omega),f8 (by omega)]
  simp only [skip];rw [if_pos c]
 ·rw [List.getElem?_append_right (by omega),aU,List.getElem?_take,List.getElem?_drop]
  by_cases cb:j<m-1
  ·rw [if_pos (by omega),f8 (by omega),f8 cb]
   simp only [skip];rw [if_neg c];congr 2;omega
  ·rw [if_neg (by omega)]
   symm
   rw [List.getElem?_eq_none_iff,cX];omega
theorem Yo {m N M n:Nat}(fN:N<1000)(a2:n≤N){h:Nat→Nat}{w:Rat}{t:cG}(f:qI m N w t){e6:List (List bm)}(hf:mK m N M h w t e6){i:Nat}(an:i<m)(i3:Bool)(kp:List Int)(aC:Int)(q2:List Int)(bL:List Bool):
 ∃k:Nat,CE (n:Int) (i:Int) i3 kp aC (hg m N h) e6 q2 bL 0=some (k:Int)∧k≤n∧(k<n→t.T i k≠0)∧ ∀j,j<k→t.T i j=0:=by
 unfold CE
 obtain ⟨r,e,k,rfl,h1,h2,ab⟩:=pg (f:=fun q:Int=>vU (n:Int) (i:Int) i3 kp aC (hg m N h) e6 q2 bL q) (fun (c:Nat) (_:Unit)=>(c:Int)) n (fun c _=> ∀j,j<c→t.T i j=0)
  (fun r=> ∃k:Nat,r=(k:Int)∧k≤n∧(k<n→t.T i k≠0)∧ ∀j,j<k→t.T i j=0)
  (fun c bb _ cw=>by
    have hw:=f.pos
    have bX:=sX ((f.iJ i an c (by omega)).mono (sd (by have:=pY;generalize fG=q at *;omega)))
    unfold vU
    by_cases E6:t.T i c=0
    ·left
     refine ⟨(),dn (by omega) (bC (by unfold hg;rw [cX];omega) (aN (x:=some (h i,N+1)) (by rw [Int.toNat_natCast];exact h7 an) (aN (x:=(h i,N+1)) rfl (aN (hf.row i an) (bC (by simp only;omega) (aN (x:=b0 (t.T i c*w)) (by rw [Int.toNat_natCast];exact h7 (by omega)) (aN bX (f7 (by rw [xP hw,ri.2 E6];rfl) (by rw [fs (by omega)]))))))))),fun j aD=> ?_⟩
     by_cases e:j=c
     ·rw [e];exact E6
     ·exact cw j (by omega)
    ·right
     exact ⟨_,dn (by omega) (bC (by unfold hg;rw [cX];omega) (aN (x:=some (h i,N+1)) (by rw [Int.toNat_natCast];exact h7 an) (aN (x:=(h i,N+1)) rfl (aN (hf.row i an) (bC (by simp only;omega) (aN (x:=b0 (t.T i c*w)) (by rw [Int.toNat_natCast];exact h7 (by omega)) (aN bX (iS (by rw [xP hw];exact tm (fun c=>E6 (ri.1 c))) rfl)))))))),c,rfl,by omega,fun _=>E6,cw⟩)
  (fun _ cw=>⟨_,by unfold vU;exact dZ (by omega) rfl,n,rfl,Nat.le_refl _,fun c=>by omega,cw⟩) () (fun j aD=>by omega)
 exact ⟨k,e,h1,h2,ab⟩
structure qE (m n N:Nat) (A:Nat→Nat→Rat) (t:cG) (cr:Nat) (h:Nat→Nat):Prop where
 inv:kL m N A t
 z : ∀i,i<m→n≤t.B i→t.T i N=0
 le:cr≤m
 lt : ∀i,i<cr→h i<m
 inj : ∀i,i<cr→ ∀k,k<cr→h i=h k→i=k
 dead : ∀d,d<m→(∀i,i<cr→h i≠d)→n≤t.B d∧ ∀j,j<n→t.T d j=0
theorem qE.yi {m n N cr:Nat}{A:Nat→Nat→Rat}{t:cG}{h:Nat→Nat}(s:Small m N A)(a:qE m n N A t cr h):qI cr N (hh m A t) (jT h t) :=
 have f:=a.inv.yi s
 ⟨f.pos,f.hw,fun i an j aD=>f.iJ (h i) (a.lt i an) j aD,fun i an=>f.gW (h i) (a.lt i an)⟩
theorem qE.El {m n N cr:Nat}{A:Nat→Nat→Rat}{t:cG}{h:Nat→Nat}(s:Small m N A)(a:qE m n N A t cr h){r k:Nat}(aq:r<cr)(a5:k<N)(aj:t.T (h r) k≠0):yh cr N (hh m A t) (jT h t) r k :=
 have f:=a.inv.El s (a.lt r aq) a5 aj
 ⟨aq,a5,aj,fun i an j aD=>by
  rw [(J9 (t:=t) (k:=k) (a.inj i an r aq)).1 j]
  exact f.B9 (h i) (a.lt i an) j aD⟩
theorem qE.cR {m n N cr:Nat}{A:Nat→Nat→Rat}{t:cG}{h:Nat→Nat}(L5:n≤N)(a:qE m n N A t cr h){r k:Nat}(aq:r<cr)(a5:k<n)(aP:n≤t.B (h r))(aj:t.T (h r) k≠0):qE m n N A (t.cR (h r) k) cr h:=by
 have cp:=a.z (h r) (a.lt r aq) aP
 have dH : ∀i,(t.cR (h r) k).T i N=t.T i N:=fun i=>by
  simp only [cG.cR]
  split
  ·rename_i e;rw [e,cp];grind
  ·rw [cp];grind
 refine ⟨⟨a.inv.ok.cR (a.lt r aq) (by omega) aj,fun i an=>by rw [dH];exact a.inv.nN i an,?_⟩,fun i an gW=> ?_,a.le,a.lt,a.inj,fun d bG ju=> ?_⟩
 ·rw [a.inv.ok.x7 (a.lt r aq) (by omega)]
  have:=a.inv.sC
  grind
 ·rw [dH]
  simp only [cG.cR] at gW
  by_cases c:i=h r
  ·rw [if_pos c] at gW;omega
  ·rw [if_neg c] at gW;exact a.z i an gW
 ·obtain ⟨h1,h2⟩:=a.dead d bG ju
  have dt:d≠h r:=fun e=>ju r aq e.symm
  simp only [cG.cR,if_neg dt]
  refine ⟨h1,fun j aD=> ?_⟩
  rw [h2 j aD,h2 k a5];grind
theorem ZK {m n N:Nat}{A:Nat→Nat→Rat}(s:Small m N A)(fN:N<1000)(L5:n≤N)(free:List Bool){t:cG}(ca:kL m N A t)(cp:∀i,i<m→n≤t.B i→t.T i N=0){e6:List (List bm)}(hf:mK m N m (fun i=>i) (hh m A t) t e6):
 ∃c9 cr h kR,za (n:Int) (b0 (hh m A t)).cQ (b0 (hh m A t)).cA (N:Int) (hg m N fun i=>i) e6 (du m t) free=some ((b0 (hh m A c9)).cQ,(b0 (hh m A c9)).cA,hg cr N h,kR,du cr (jT h c9)) ∧
  qE m n N A c9 cr h∧(∀i,i<cr→c9.B (h i)<n)∧mK cr N m h (hh m A c9) (jT h c9) kR:=by
 have hm:=s.hm
 unfold za Gp
 obtain ⟨x,e,c9,cr,h,kR,rfl,h1,h2,ab⟩:=jA (f:=fun w:Int×Bool×(List Int)×(List bu)×(List (List bm))×(List Int)=>yX (n:Int) (N:Int) free w.1 w.2.1 w.2.2.1 w.2.2.2.1 w.2.2.2.2.1 w.2.2.2.2.2)
  (fun w=> ∃(i cr:Nat) (h:Nat→Nat) (t:cG) (p:List (List bm)),w=((i:Int),(b0 (hh m A t)).cQ,(b0 (hh m A t)).cA,hg cr N h,p,du cr (jT h t))∧i≤cr∧qE m n N A t cr h∧(∀q,q<i→t.B (h q)<n)∧mK cr N m h (hh m A t) (jT h t) p)
  (fun w=>w.2.2.2.1.length-w.1.toNat)
  (fun x=> ∃c9 cr h kR,x=((b0 (hh m A c9)).cQ,(b0 (hh m A c9)).cA,hg cr N h,kR,du cr (jT h c9))∧qE m n N A c9 cr h∧(∀i,i<cr→c9.B (h i)<n)∧mK cr N m h (hh m A c9) (jT h c9) kR)
  (fun w hw=>by
    obtain ⟨i,cr,h,t,p,rfl,an,bE,a9,aj⟩:=hw
    have kT:=bE.le
    have sr:(hg cr N h).length=cr:=cX ..
    have L6:(du cr (jT h t)).length=cr:=cX ..
    simp only
    unfold yX
    by_cases c:i<cr
    ·left
     have g1:0≤(i:Int)∧(i:Int)<((du cr (jT h t)).length:Nat):=by rw [L6];omega
     have g2:(du cr (jT h t))[(0+((i:Int)).toNat)]? = some ((t.B (h i):Nat):Int):=by rw [Int.toNat_natCast];exact h7 c
     by_cases E7:t.B (h i)<n
     ·refine ⟨(((i+1:Nat):Int),(b0 (hh m A t)).cQ,(b0 (hh m A t)).cA,hg cr N h,p,du cr (jT h t)),dn (by rw [sr];omega) (bC g1 (aN g2 (dn (by omega) (by rw [fs (by omega)])))),⟨i+1,cr,h,t,p,rfl,by omega,bE,fun q nc=> ?_,aj⟩,by simp only [sr];omega⟩
      by_cases e:q=i
      ·rw [e];exact E7
      ·exact a9 q (by omega)
     ·obtain ⟨k,mU,li,qj,Mi⟩:=Yo fN L5 (bE.yi s) aj c (b0 (hh m A t)).cQ (b0 (hh m A t)).cA (N:Int) (du cr (jT h t)) free
      by_cases Mj:k<n
      ·have L7:t.T (h i) k≠0:=qj Mj
       obtain ⟨kd,e1,e2⟩:=Qg (by omega) fN bE.inj (bE.yi s) (bE.El s c (by omega) L7) aj (N:Int) free
       have tI:pu (hh m A t) (jT h t) i k=hh m A (t.cR (h i) k):=QL bE.inv.ok bE.inv.sC (bE.lt i c) (by omega) L7
       have aev:du cr ((jT h t).cR i k)=du cr (jT h (t.cR (h i) k)):=eY fun q nc=>by
        have:=(J9 (t:=t) (k:=k) (bE.inj q nc i c)).2
        rw [this]
       rw [tI,aev] at e1
       rw [tI] at e2
       refine ⟨(((i+1:Nat):Int),(b0 (hh m A (t.cR (h i) k))).cQ,(b0 (hh m A (t.cR (h i) k))).cA,hg cr N h,kd,du cr (jT h (t.cR (h i) k))),dn (by rw [sr];omega) (bC g1 (aN g2 (dZ (by omega) (aN mU (dn (by omega) (aN e1 (by rw [fs (by omega)]))))))),⟨i+1,cr,h,t.cR (h i) k,kd,rfl,by omega,bE.cR L5 c Mj (by omega) L7,fun q nc=> ?_,e2.len,fun q nc=> ?_⟩,by simp only [sr];omega⟩
       ·simp only [cG.cR]
        split
        ·exact Mj
        ·rename_i dt
         have:q≠i:=fun e=>dt (by rw [e])
         exact a9 q (by omega)
       ·rw [e2.row q nc]
        congr 1
        exact eY fun j _=>by rw [(J9 (t:=t) (k:=k) (bE.inj q nc i c)).1 j]
      ·have L3:k=n:=by omega
       have B6:R ((i:Int)+1)=((i+1:Nat):Int):=fs (by omega)
       have ES:(((hg cr N h).drop (0+(i+1))).take (cr-(i+1))).length=cr-(i+1):=by rw [List.length_take,List.length_drop,sr];omega
       have LW:(((du cr (jT h t)).drop (0+(i+1))).take (cr-(i+1))).length=cr-(i+1):=by rw [List.length_take,List.length_drop,L6];omega
       have bk:(hg cr N h).take (i-0)++((hg cr N h).drop (0+(i+1))).take (cr-(i+1))=hg (cr-1) N (skip i h):=OM c _
       have ed:(du cr (jT h t)).take (i-0)++((du cr (jT h t)).drop (0+(i+1))).take (cr-(i+1))=du (cr-1) (jT (skip i h) t):=OM c _
       refine ⟨((i:Int),(b0 (hh m A t)).cQ,(b0 (hh m A t)).cA,hg (cr-1) N (skip i h),p,du (cr-1) (jT (skip i h) t)),dn (by rw [sr];omega) (bC g1 (aN g2 (dZ (by omega) (aN mU (dZ (by omega) ?_))))),⟨i,cr-1,skip i h,t,p,rfl,by omega,⟨bE.inv,bE.z,by omega,fun q nc=> ?_,fun q nc q2 yj e=> ?_,fun d bG ju=> ?_⟩,fun q nc=> ?_,aj.len,fun q nc=> ?_⟩,?_⟩
       ·rw [B6,Int.toNat_natCast,Int.toNat_natCast,sr,L6,ES,LW,bk,ed]
        exact bC (by omega) (bC (by omega) (bC (by omega) (bC (by omega) (bC (by omega) (bC (by omega) (bC (by omega) (bC (by omega) (bC (by omega) (bC (by omega) (bC (by omega) (bC (by omega) rfl)))))))))))
       ·simp only [skip];split<;>exact bE.lt _ (by omega)
       ·simp only [skip] at e
        have:=bE.inj _ (by split<;>omega) _ (by split<;>omega) e
        split at this<;>split at this<;>omega
       ·by_cases SQ:d=h i
        ·rw [SQ]
         exact ⟨by omega,fun j aD=>Mi j (by omega)⟩
        ·refine bE.dead d bG fun q nc=> ?_
         by_cases br:q<i
         ·have:=ju q (by omega);simp only [skip] at this;rw [if_pos br] at this;exact this
         ·by_cases cb:q=i
          ·rw [cb];exact fun e=>SQ e.symm
          ·have:=ju (q-1) (by omega);simp only [skip] at this;rw [if_neg (by omega),show q-1+1=q by omega] at this;exact this
       ·simp only [skip];rw [if_pos nc];exact a9 q nc
       ·simp only [skip]
        by_cases br:q<i
        ·rw [if_pos br,aj.row q (by omega)];congr 1
         exact eY fun j _=>by simp only [jT,skip];rw [if_pos br]
        ·rw [if_neg br,aj.row (q+1) (by omega)];congr 1
         exact eY fun j _=>by simp only [jT,skip];rw [if_neg br]
       ·simp only [sr,show (hg (cr-1) N (skip i h)).length=cr-1 from cX ..];omega
    ·right
     have ad2:i=cr:=by omega
     subst ad2
     exact ⟨_,dZ (by rw [sr];omega) rfl,t,i,h,p,rfl,bE,a9,aj⟩)
  ((0:Int),(b0 (hh m A t)).cQ,(b0 (hh m A t)).cA,hg m N (fun i=>i),e6,du m t)
  ⟨0,m,fun i=>i,t,e6,rfl,by omega,⟨ca,cp,Nat.le_refl _,fun i an=>an,fun i _ k _ e=>e,fun d bG ju=>(ju d bG rfl).elim⟩,fun q a9=>by omega,hf.len,hf.row⟩
 exact ⟨c9,cr,h,kR,aN e rfl,h1,h2,ab⟩
theorem Qh:(⟨false,([]:List Int)⟩:bm)=b0 0:=by
 show _=gU (0:Rat).num
 rw [show (0:Rat).num=0 from rfl]
 unfold gU
 rw [show L ((0:Int).natAbs:Int)=[] from s7.2 (by simp)];rfl
theorem Kk {α:Type}(l:List α)(x:α):(l++[x])[l.length]? = some x:=by simp
theorem xQ {α:Type}(l:List α)(x y:α):(l++[x]).set l.length y=l++[y]:=by simp
theorem Qi {p:hn}{m n:Nat}{a:Nat→Nat→Int}{b:Nat→Int}(h:mb p m n a b){i:Nat}(an:i<m):w7 p i=some (a4 n (a i)):=by
 have:=KB h an
 unfold um at this
 unfold w7
 exact this
theorem X0 {p:hn}{m n:Nat}{a:Nat→Nat→Int}{b:Nat→Int}(h:mb p m n a b){i:Nat}(an:i<m)(aP:b i<0)(x0:Int)(my:Bool)(gQ:List Int)(q2:List bu)(bZ:List Int)(cH:List Bool)(P:List (List bm)):
 CZ p.fr p.d9 p.dG p.ei p.hC x0 (i:Int) P.length (n+m+1) (a4 n (a i)) (len_ eI (a4 n (a i))) my gQ q2 bZ cH 0 (P++[a4 (n+m+1) fun _=>b0 0])=some (P++[a4 (n+m+1) fun j=>if j<n then b0 (dC m n a b i j) else b0 0]):=by
 have hm:=h.hm
 have a2:=h.a2
 have bX:ka (b i) = -1:=by unfold ka;rw [if_pos aP]
 unfold CZ
 rw [fC,cX]
 obtain ⟨s1,e1,-⟩:=h5 (f:=fun w:Int×List (List bm)=>wH p.fr p.d9 p.dG p.ei p.hC x0 (i:Int) P.length (n+m+1) (a4 n (a i)) ((n:Nat):Int) my gQ q2 bZ cH w.1 w.2)
  (fun (k:Nat) (_:Unit)=>((k:Int),P++[a4 (n+m+1) fun j=>if j<k then b0 (dC m n a b i j) else b0 0])) n (fun _ _=>True) (fun _=>P++[a4 (n+m+1) fun j=>if j<n then b0 (dC m n a b i j) else b0 0])
  (fun k a5 _ _=>by
    refine ⟨(),?_,trivial⟩
    have bE:=h.sB i an k a5
    have e:R ((-1:Int)*a i k)=kg m n a b i k:=by
     rw [cu (by omega) (by omega)];unfold kg;rw [if_pos a5,bX]
    unfold wH
    refine dn (by simp only;omega) (bC (by rw [cX];simp only;omega) (aN (x:=a i k) (by simp only;rw [Int.toNat_natCast];exact f8 a5) (aN (x:=b0 (dC m n a b i k)) (by rw [e];exact rN (by have:=r9 h an k;rw [mB];omega)) (aN (Kk _ _) (bC (by simp only;omega) (aN (by simp only;rw [Int.toNat_natCast];exact h7 (by omega)) ?_))))))
    simp only
    rw [fs (by omega),Int.toNat_natCast,Nat.zero_add,k1,xQ]
    congr 5
    refine eY fun j _=> ?_
    by_cases br:j=k
    ·subst br;rw [if_pos rfl,if_pos (by omega)]
    ·rw [if_neg br]
     by_cases cb:j<k
     ·rw [if_pos cb,if_pos (by omega)]
     ·rw [if_neg cb,if_neg (by omega)])
  (fun _ _=>by unfold wH;exact dZ (by simp) rfl) () trivial
 have e0:(a4 (n+m+1) fun j=>if j<0 then b0 (dC m n a b i j) else b0 0)=a4 (n+m+1) fun _=>b0 0:=eY fun j _=>by rw [if_neg (by omega)]
 rw [e0] at e1
 exact e1
theorem X1 {p:hn}{m n:Nat}{a:Nat→Nat→Int}{b:Nat→Int}(h:mb p m n a b){i:Nat}(an:i<m)(aP:¬b i<0)(x0:Int)(my:Bool)(gQ:List Int)(q2:List bu)(bZ:List Int)(cH:List Bool)(P:List (List bm)):
 C0 p.fr p.d9 p.dG p.ei p.hC x0 (i:Int) P.length (n+m+1) (a4 n (a i)) (len_ eI (a4 n (a i))) my gQ q2 bZ cH 0 (P++[a4 (n+m+1) fun _=>b0 0])=some (P++[a4 (n+m+1) fun j=>if j<n then b0 (dC m n a b i j) else b0 0]):=by
 have hm:=h.hm
 have a2:=h.a2
 have bX:ka (b i)=1:=by unfold ka;rw [if_neg aP]
 unfold C0
 rw [fC,cX]
 obtain ⟨s1,e1,-⟩:=h5 (f:=fun w:Int×List (List bm)=>wI p.fr p.d9 p.dG p.ei p.hC x0 (i:Int) P.length (n+m+1) (a4 n (a i)) ((n:Nat):Int) my gQ q2 bZ cH w.1 w.2)
  (fun (k:Nat) (_:Unit)=>((k:Int),P++[a4 (n+m+1) fun j=>if j<k then b0 (dC m n a b i j) else b0 0])) n (fun _ _=>True) (fun _=>P++[a4 (n+m+1) fun j=>if j<n then b0 (dC m n a b i j) else b0 0])
  (fun k a5 _ _=>by
    refine ⟨(),?_,trivial⟩
    have bE:=h.sB i an k a5
    have e:R ((1:Int)*a i k)=kg m n a b i k:=by
     rw [cu (by omega) (by omega)];unfold kg;rw [if_pos a5,bX]
    unfold wI
    refine dn (by simp only;omega) (bC (by rw [cX];simp only;omega) (aN (x:=a i k) (by simp only;rw [Int.toNat_natCast];exact f8 a5) (aN (x:=b0 (dC m n a b i k)) (by rw [e];exact rN (by have:=r9 h an k;rw [mB];omega)) (aN (Kk _ _) (bC (by simp only;omega) (aN (by simp only;rw [Int.toNat_natCast];exact h7 (by omega)) ?_))))))
    simp only
    rw [fs (by omega),Int.toNat_natCast,Nat.zero_add,k1,xQ]
    congr 5
    refine eY fun j _=> ?_
    by_cases br:j=k
    ·subst br;rw [if_pos rfl,if_pos (by omega)]
    ·rw [if_neg br]
     by_cases cb:j<k
     ·rw [if_pos cb,if_pos (by omega)]
     ·rw [if_neg cb,if_neg (by omega)])
  (fun _ _=>by unfold wI;exact dZ (by simp) rfl) () trivial
 have e0:(a4 (n+m+1) fun j=>if j<0 then b0 (dC m n a b i j) else b0 0)=a4 (n+m+1) fun _=>b0 0:=eY fun j _=>by rw [if_neg (by omega)]
 rw [e0] at e1
 exact e1
theorem qv {α:Type}(n:Nat)(x:α):List.replicate n x=a4 n fun _=>x:=by
 apply List.ext_getElem?
 intro i
 by_cases c:i<n
 ·rw [f8 c];simp [c]
 ·rw [List.getElem?_eq_none_iff.2 (by simp;omega),List.getElem?_eq_none_iff.2 (by rw [cX];omega)]
theorem NZ {p:hn}{m n:Nat}{a:Nat→Nat→Int}{b:Nat→Int}(h:mb p m n a b)(my:Bool)(gQ:List Int)(cH:List Bool):
 C1 p.fr p.d9 p.dG p.ei p.hC ((n+m:Nat):Int) my gQ cH 0 ([]:List bu) ([]:List (List bm)) ([]:List Int)=some (hg m (n+m) (fun i=>i),a4 m (fun i=>a4 (n+m+1) fun j=>b0 (dC m n a b i j)),du m (ia m n a b)):=by
 have hm:=h.hm
 have a2:=h.a2
 unfold C1
 obtain ⟨s,e,-⟩:=h5 (f:=fun w:Int×(List bu)×(List (List bm))×(List Int)=>wJ p.fr p.d9 p.dG p.ei p.hC ((n+m:Nat):Int) my gQ cH w.1 w.2.1 w.2.2.1 w.2.2.2)
  (fun (i:Nat) (_:Unit)=>((i:Int),a4 i (fun k=>(some (k,n+m+1):bu)),a4 i (fun i=>a4 (n+m+1) fun j=>b0 (dC m n a b i j)),a4 i (fun k=>((n+k:Nat):Int)))) m (fun _ _=>True)
  (fun _=>(hg m (n+m) (fun i=>i),a4 m (fun i=>a4 (n+m+1) fun j=>b0 (dC m n a b i j)),du m (ia m n a b)))
  (fun i an _ _=>by
    refine ⟨(),?_,trivial⟩
    have aP:=h.vC i an
    have kh:R (((n+m:Nat):Int)+1)=((n+m+1:Nat):Int):=fs (by omega)
    have hw:R (p.d9+(i:Int))=((n+i:Nat):Int):=by rw [h.gp,← Int.natCast_add,cu (by omega) (by omega)]
    have Sw:(a4 i (fun i=>a4 (n+m+1) fun j=>b0 (dC m n a b i j))).length=i:=cX ..
    have pF:kg m n a b i (n+m)=ka (b i)*b i:=by unfold kg;rw [if_neg (by omega),if_pos rfl]
    have dw:((a4 (n+m+1) fun j=>if j<n then b0 (dC m n a b i j) else b0 0).set (n+i) (b0 ((1:Int):Rat))).set (n+m) (b0 (dC m n a b i (n+m)))=a4 (n+m+1) fun j=>b0 (dC m n a b i j):=by
     rw [k1,k1]
     refine eY fun j aD=> ?_
     by_cases br:j=n+m
     ·rw [if_pos br,br]
     ·rw [if_neg br]
      by_cases cb:j=n+i
      ·rw [if_pos cb,cb,rU an,if_pos rfl];rfl
      ·rw [if_neg cb]
       by_cases jk:j<n
       ·rw [if_pos jk]
       ·rw [if_neg jk]
        obtain ⟨k,rfl⟩ : ∃k,j=n+k:=⟨j-n,by omega⟩
        rw [rU (by omega),if_neg (by omega)]
    unfold wJ
    rw [kh,hw,Int.toNat_natCast]
    refine dn (by simp only;rw [h.rows];omega) (bC (by omega) (bC (by simp only;rw [h.vD];omega) (aN (x:=b i) (by first|exact h.yg i an|(rw [Int.toNat_natCast];exact h.yg i an)|(simp only;rw [Int.toNat_natCast];exact h.yg i an)) ?_)))
    have fin:(some (Sum.inl (R ((i:Int)+1),(a4 i (fun k=>(some (k,n+m+1):bu)))++[some (i,n+m+1)],(a4 i (fun i=>a4 (n+m+1) fun j=>b0 (dC m n a b i j)))++[a4 (n+m+1) fun j=>b0 (dC m n a b i j)],(a4 i fun k=>((n+k:Nat):Int))++[((n+i:Nat):Int)])):Option ((Int×(List bu)×(List (List bm))×(List Int))⊕((List bu)×(List (List bm))×(List Int)))) =
     some (Sum.inl (((i+1:Nat):Int),a4 (i+1) (fun k=>(some (k,n+m+1):bu)),a4 (i+1) (fun i=>a4 (n+m+1) fun j=>b0 (dC m n a b i j)),a4 (i+1) (fun k=>((n+k:Nat):Int)))):=by
     rw [fs (by omega),k0 i (fun k=>(some (k,n+m+1):bu)),k0 i (fun i=>a4 (n+m+1) fun j=>b0 (dC m n a b i j)),k0 i (fun k=>((n+k:Nat):Int))]
    have J : ∀(P:List (List bm)) (F:List bm→Option ((Int×(List bu)×(List (List bm))×(List Int))⊕((List bu)×(List (List bm))×(List Int)))) (x:List bm) r,F x=r→(P++[x])[P.length]? >>= F=r:=fun P F x r tC=>aN (Kk P x) tC
    refine oj (fun c=> ?_) (fun c=> ?_)
    ·have m7:b i<0:=of_decide_eq_true c
     have bX:ka (b i) = -1:=by unfold ka;rw [if_pos m7]
     refine aN (Qi h an) (aN (by rw [Qh,qv];exact X0 h an m7 _ _ _ _ _ _ _) (aN (rN (n:=1) (by rw [mB];omega)) (J _ _ _ _ ?_)))
     refine bC (by omega) (aN (x:=b0 0) (by rw [Int.toNat_natCast,h7 (by omega),if_neg (by omega)]) (aN (x:=b0 (dC m n a b i (n+m))) (by
      have e:R ((-1:Int)*b i)=kg m n a b i (n+m):=by rw [pF,bX,cu (by omega) (by omega)]
      rw [e];exact rN (by have:=r9 h an (n+m);rw [mB];omega)) ?_))
     rw [xQ,Int.toNat_natCast,Nat.zero_add,Int.toNat_natCast,Nat.zero_add]
     refine J _ _ _ _ (bC (by omega) ?_)
     obtain ⟨v,bd⟩ : ∃v,((a4 (n+m+1) fun j=>if j<n then b0 (dC m n a b i j) else b0 0).set (n+i) (b0 ((1:Int):Rat)))[n+m]? = some v:=by
      rw [k1,f8 (by omega)];exact ⟨_,rfl⟩
     refine aN bd (bC (by simp only [List.length_append,cX,List.length_cons,List.length_nil];omega) (bC (by simp only [List.length_append,cX,List.length_cons,List.length_nil];omega) ?_))
     rw [xQ]
     simp only [Int.toNat_natCast,Nat.zero_add]
     rw [dw,Sw]
     exact fin
    ·have m7 : ¬b i<0:=of_decide_eq_false c
     have bX:ka (b i)=1:=by unfold ka;rw [if_neg m7]
     refine aN (Qi h an) (aN (by rw [Qh,qv];exact X1 h an m7 _ _ _ _ _ _ _) (aN (rN (n:=1) (by rw [mB];omega)) (J _ _ _ _ ?_)))
     refine bC (by omega) (aN (x:=b0 0) (by rw [Int.toNat_natCast,h7 (by omega),if_neg (by omega)]) (aN (x:=b0 (dC m n a b i (n+m))) (by
      have e:R ((1:Int)*b i)=kg m n a b i (n+m):=by rw [pF,bX,cu (by omega) (by omega)]
      rw [e];exact rN (by have:=r9 h an (n+m);rw [mB];omega)) ?_))
     rw [xQ,Int.toNat_natCast,Nat.zero_add,Int.toNat_natCast,Nat.zero_add]
     refine J _ _ _ _ (bC (by omega) ?_)
     obtain ⟨v,bd⟩ : ∃v,((a4 (n+m+1) fun j=>if j<n then b0 (dC m n a b i j) else b0 0).set (n+i) (b0 ((1:Int):Rat)))[n+m]? = some v:=by
      rw [k1,f8 (by omega)];exact ⟨_,rfl⟩
     refine aN bd (bC (by simp only [List.length_append,cX,List.length_cons,List.length_nil];omega) (bC (by simp only [List.length_append,cX,List.length_cons,List.length_nil];omega) ?_))
     rw [xQ]
     simp only [Int.toNat_natCast,Nat.zero_add]
     rw [dw,Sw]
     exact fin)
  (fun _ _=>by unfold wJ;exact dZ (by simp only;rw [h.rows];omega) rfl) () trivial
 exact e
def pK (n j:Nat):Int:=if n≤j then -1 else 0
theorem QM {m n j:Nat}(aD:j<n+m):((pK n j:Int):Rat)=gD m n j:=by
 unfold pK gD
 by_cases c:n≤j
 ·rw [if_pos c,if_pos ⟨c,aD⟩];rfl
 ·rw [if_neg c,if_neg (by omega)];rfl
theorem Qj {m n:Nat}{t:cG}(gW:∀i,i<m→t.B i<n+m){j:Nat}(aD:j<n+m):t.dy m (fun j=>((pK n j:Int):Rat)) j=t.dy m (gD m n) j:=by
 unfold cG.dy
 simp only
 rw [QM aD,h4 (g:=fun i=>gD m n (t.B i)*t.T i j) fun i an=>by rw [QM (gW i an)]]
theorem Oh {p:hn}{m n:Nat}{a:Nat→Nat→Int}{b:Nat→Int}(h:mb p m n a b)(x0:Int)(my:Bool)(gQ:List Int)(q2:List bu)(bL:List (List bm))(bZ:List Int):
 C2 p.fr p.d9 p.dG p.ei p.hC x0 ((n+m:Nat):Int) my gQ q2 bL bZ 0 (a4 (n+m) fun _=>(0:Int)) (a4 (n+m) fun _=>false)=some (a4 (n+m) (pK n),a4 (n+m) fun j=>decide (j<n)):=by
 have hm:=h.hm
 have a2:=h.a2
 unfold C2
 obtain ⟨s,e,-⟩:=h5 (f:=fun w:Int×List Int×List Bool=>wK p.fr p.d9 p.dG p.ei p.hC x0 ((n+m:Nat):Int) my gQ q2 bL bZ w.1 w.2.1 w.2.2)
  (fun (k:Nat) (_:Unit)=>((k:Int),(a4 (n+m) fun j=>if j<k then pK n j else 0),a4 (n+m) fun j=>if j<k then decide (j<n) else false)) (n+m) (fun _ _=>True) (fun _=>(a4 (n+m) (pK n),a4 (n+m) fun j=>decide (j<n)))
  (fun k a5 _ _=>by
    refine ⟨(),?_,trivial⟩
    have e2:(a4 (n+m) fun j=>if j<k then decide (j<n) else false).set (0+((k:Int)).toNat) (decide (k<n))=a4 (n+m) fun j=>if j<k+1 then decide (j<n) else false:=by
     rw [Int.toNat_natCast,Nat.zero_add,k1]
     refine eY fun j _=> ?_
     by_cases c:j=k
     ·subst c;rw [if_pos rfl,if_pos (by omega)]
     ·rw [if_neg c]
      by_cases cb:j<k
      ·rw [if_pos cb,if_pos (by omega)]
      ·rw [if_neg cb,if_neg (by omega)]
    have Mk:decide ((k:Int)<p.d9)=decide (k<n):=by rw [h.gp];simp
    unfold wK
    simp only
    rw [Mk,e2,fs (by omega)]
    refine dn (by omega) (bC (by rw [cX];omega) (bC (by rw [cX,Int.toNat_natCast];omega) ?_))
    by_cases c:n≤k
    ·refine dn (by rw [h.gp];omega) (bC (by rw [cX];omega) (bC (by rw [cX,Int.toNat_natCast];omega) ?_))
     rw [Int.toNat_natCast,Nat.zero_add,k1]
     congr 4
     refine eY fun j _=> ?_
     by_cases br:j=k
     ·subst br;rw [if_pos rfl,if_pos (by omega)];unfold pK;rw [if_pos c]
     ·rw [if_neg br]
      by_cases cb:j<k
      ·rw [if_pos cb,if_pos (by omega)]
      ·rw [if_neg cb,if_neg (by omega)]
    ·refine dZ (by rw [h.gp];omega) ?_
     congr 4
     refine eY fun j _=> ?_
     by_cases br:j=k
     ·subst br;rw [if_neg (by omega),if_pos (by omega)];unfold pK;rw [if_neg c]
     ·by_cases cb:j<k
      ·rw [if_pos cb,if_pos (by omega)]
      ·rw [if_neg cb,if_neg (by omega)])
  (fun _ _=>by
    unfold wK
    refine dZ (by simp) ?_
    simp only
    congr 3
    ·exact eY fun j aD=>by rw [if_pos aD]
    ·exact eY fun j aD=>by rw [if_pos aD]) () trivial
 have Ck:(a4 (n+m) fun j=>if j<0 then pK n j else 0)=a4 (n+m) fun _=>(0:Int):=eY fun j _=>by rw [if_neg (by omega)]
 have aew:(a4 (n+m) fun j=>if j<0 then decide (j<n) else false)=a4 (n+m) fun _=>false:=eY fun j _=>by rw [if_neg (by omega)]
 rw [Ck,aew] at e
 exact e
theorem X2 {p:hn}{m n:Nat}{a:Nat→Nat→Int}{b:Nat→Int}(h:mb p m n a b){w:Rat}{t:cG}(f:qI m (n+m) w t){e6:List (List bm)}(hf:mK m (n+m) m (fun i=>i) w t e6)(my:Bool)(gQ:List Int)(x0:Int)(q:List Bool):
 ∃r,C3 p.fr p.d9 p.dG p.ei p.hC ((n+m:Nat):Int) ((m:Nat):Int) my gQ x0 (du m t) (hg m (n+m) fun i=>i) e6 q 0=some r∧((r = .inr ()∧ ∃i,i<m∧n≤t.B i∧0<t.T i (n+m))∨(r = .inl ()∧ ∀i,i<m→n≤t.B i→ ¬0<t.T i (n+m))):=by
 have hm:=h.hm
 have a2:=h.a2
 have hw:=f.pos
 unfold C3
 exact pg (f:=fun w:Int=>wL p.fr p.d9 p.dG p.ei p.hC ((n+m:Nat):Int) ((m:Nat):Int) my gQ x0 (du m t) (hg m (n+m) fun i=>i) e6 q w) (fun (i:Nat) (_:Unit)=>(i:Int)) m (fun k _=> ∀i,i<k→n≤t.B i→ ¬0<t.T i (n+m)) _
  (fun i an _ cw=>by
    have bX:=sX ((f.iJ i an (n+m) (Nat.le_refl _)).mono (sd (by have:=pY;generalize fG=q at *;omega)))
    have g1:0≤(i:Int)∧(i:Int)<((du m t).length:Nat):=by unfold du;rw [cX];omega
    have g2:(du m t)[(0+((i:Int)).toNat)]? = some ((t.B i:Nat):Int):=by rw [Int.toNat_natCast];exact h7 an
    have g3:0≤(i:Int)∧(i:Int)<((hg m (n+m) fun i=>i).length:Nat):=by unfold hg;rw [cX];omega
    have g4:(hg m (n+m) fun i=>i)[(0+((i:Int)).toNat)]? = some (some (i,n+m+1)):=by rw [Int.toNat_natCast];exact h7 an
    unfold wL
    by_cases E7:n≤t.B i
    ·by_cases kq:0<t.T i (n+m)
     ·right
      exact ⟨_,dn (by omega) (bC g1 (aN g2 (dn (by rw [h.gp];omega) (bC g3 (aN g4 (aN (x:=(i,n+m+1)) rfl (aN (hf.row i an) (bC (by simp only;omega) (aN (x:=b0 (t.T i (n+m)*w)) (by rw [Int.toNat_natCast];exact h7 (by omega)) (aN bX (dn (by rw [xP hw];exact qu.2 kq) rfl))))))))))),.inl ⟨rfl,i,an,E7,kq⟩⟩
     ·left
      refine ⟨(),dn (by omega) (bC g1 (aN g2 (dn (by rw [h.gp];omega) (bC g3 (aN g4 (aN (x:=(i,n+m+1)) rfl (aN (hf.row i an) (bC (by simp only;omega) (aN (x:=b0 (t.T i (n+m)*w)) (by rw [Int.toNat_natCast];exact h7 (by omega)) (aN bX (dZ (by rw [xP hw];exact fun c=>kq (qu.1 c)) (by rw [fs (by omega)])))))))))))),fun k a5=> ?_⟩
      by_cases e:k=i
      ·rw [e];exact fun _=>kq
      ·exact cw k (by omega)
    ·left
     refine ⟨(),dn (by omega) (bC g1 (aN g2 (dZ (by rw [h.gp];omega) (by rw [fs (by omega)])))),fun k a5=> ?_⟩
     by_cases e:k=i
     ·rw [e];exact fun c=>(E7 c).elim
     ·exact cw k (by omega))
  (fun _ cw=>⟨_,by unfold wL;exact dZ (by omega) rfl,.inr ⟨rfl,cw⟩⟩) () (fun k a5=>by omega)
theorem X3 {p:hn}{m n:Nat}{a:Nat→Nat→Int}{b:Nat→Int}(h:mb p m n a b)(F:Nat→Bool)(my:Bool)(gQ:List Int)(x0:Int)(q2:List bu)(bL:List (List bm))(bZ:List Int):
 C4 p.fr p.d9 p.dG p.ei p.hC ((n+m:Nat):Int) my gQ x0 q2 bL bZ 0 (a4 (n+m) F)=some (a4 (n+m) fun j=>decide (j<n)):=by
 have hm:=h.hm
 have a2:=h.a2
 unfold C4
 obtain ⟨s,e,-⟩:=h5 (f:=fun w:Int×List Bool=>wM p.fr p.d9 p.dG p.ei p.hC ((n+m:Nat):Int) my gQ x0 q2 bL bZ w.1 w.2)
  (fun (k:Nat) (_:Unit)=>((k:Int),a4 (n+m) fun j=>if j<k then decide (j<n) else F j)) (n+m) (fun _ _=>True) (fun _=>a4 (n+m) fun j=>decide (j<n))
  (fun k a5 _ _=>by
    refine ⟨(),?_,trivial⟩
    have Mk:decide ((k:Int)<p.d9)=decide (k<n):=by rw [h.gp];simp
    unfold wM
    simp only
    rw [Mk,fs (by omega)]
    refine dn (by omega) (bC (by rw [cX];omega) (bC (by rw [cX,Int.toNat_natCast];omega) ?_))
    rw [Int.toNat_natCast,Nat.zero_add,k1]
    congr 3
    refine eY fun j _=> ?_
    by_cases c:j=k
    ·subst c;rw [if_pos rfl,if_pos (by omega)]
    ·rw [if_neg c]
     by_cases cb:j<k
     ·rw [if_pos cb,if_pos (by omega)]
     ·rw [if_neg cb,if_neg (by omega)])
  (fun _ _=>by
    unfold wM
    refine dZ (by simp) ?_
    simp only
    congr 2
    exact eY fun j aD=>by rw [if_pos aD]) () trivial
 have Ck:(a4 (n+m) fun j=>if j<0 then decide (j<n) else F j)=a4 (n+m) F:=eY fun j _=>by rw [if_neg (by omega)]
 rw [Ck] at e
 exact e
theorem Sx {m n:Nat}{a:Nat→Nat→Int}{b:Nat→Int}:hh m (dC m n a b) (ia m n a b)=1:=by
 unfold hh;rw [QD,if_pos (by grind)]
theorem aaC {p:hn}{m n:Nat}{a:Nat→Nat→Int}{b:Nat→Int}(h:mb p m n a b):
 ∃r,zV p=some r∧((tb m n a b∧ ∃t cr g e6,r = .inl ((b0 (hh m (dC m n a b) t)).cQ,(b0 (hh m (dC m n a b) t)).cA,((n+m:Nat):Int),hg cr (n+m) g,du cr (jT g t),a4 (n+m) (fun j=>decide (j<n)),e6) ∧
  qE m n (n+m) (dC m n a b) t cr g∧(∀i,i<cr→t.B (g i)<n)∧mK cr (n+m) m g (hh m (dC m n a b) t) (jT g t) e6)∨(¬tb m n a b∧r = .inr ())):=by
 have hm:=h.hm
 have a2:=h.a2
 have sD:=JU h
 have fN:R (p.d9+p.fr)=((n+m:Nat):Int):=by rw [h.gp,h.rows,← Int.natCast_add,cu (by omega) (by omega)]
 have ad3:mK m (n+m) m (fun i=>i) (hh m (dC m n a b) (ia m n a b)) (ia m n a b) (a4 m (fun i=>a4 (n+m+1) fun j=>b0 (dC m n a b i j))):=⟨cX ..,fun i an=>by
  rw [f8 an,Sx]
  congr 1
  exact eY fun j _=>by
   show b0 (dC m n a b i j)=b0 (dC m n a b i j*1)
   congr 1;grind⟩
 obtain ⟨q,bK,t,e6,yM,e,⟨cw,rfl⟩,hf,ej⟩:=Yn (gj:=m) (m:=m) (N:=n+m) (M:=m) (A:=dC m n a b) hm (by omega) (h:=fun i=>i) (fun i _ k _ e=>e) (pK n) (fun j _=>by unfold pK;split<;>omega) (fun j=>decide (j<n))
  (fun w t=>kL m (n+m) (dC m n a b) t∧w=hh m (dC m n a b) t) (fun w t cw=>⟨cw.1.ok,cw.1.nN,cw.2▸cw.1.yi sD⟩)
  (fun w t r s cw b=>by
    obtain ⟨h1,rfl⟩:=cw
    have aj:t.T r s≠0:=by have:=b.pos;grind
    exact ⟨h1.El sD b.aq b.bX aj,h1.gC b,QL h1.ok h1.sC b.aq b.bX aj⟩)
  (w:=hh m (dC m n a b) (ia m n a b)) (t:=ia m n a b) ⟨⟨P7,O4,Py⟩,rfl⟩ ad3
 rw [Sx] at e
 have acN : ∀j,j<n→t.dy m (gD m n) j≤0:=by
  rcases ej with ⟨-,ej,-⟩|⟨-,s,bX,dF,ju⟩
  ·intro j aD
   have:=ej j (by omega) (by simpa using aD)
   rw [Qj cw.ok.lc (by omega)] at this
   grind
  ·rw [Qj cw.ok.lc bX] at dF
   obtain ⟨i,an,aj⟩:=NU cw.ok bX dF
   exact (ju i an aj).elim
 have e1:om 1=some (b0 1):=by
  have:=rN (n:=1) (by rw [mB];omega)
  rw [show ((1:Int):Rat)=1 from rfl] at this
  exact this
 obtain ⟨r,r1,r2⟩:=X2 h (cw.yi sD) hf (b0 (hh m (dC m n a b) t)).cQ (b0 (hh m (dC m n a b) t)).cA ((n+m:Nat):Int) (a4 (n+m) yM)
 unfold zV
 rw [fN]
 rcases r2 with ⟨rfl,i,an,gW,iJ⟩|⟨rfl,ju⟩
 ·have Bq : ¬tb m n a b:=fun bX=>by
   have:=Oc cw.nN (OE cw.ok cw.nN acN bX) cw.ok.lc i an gW
   grind
  refine ⟨_,aN e1 (bC (by omega) (aN (NZ h _ _ _) (bC (by omega) (aN (x:=(a4 (n+m) (pK n),a4 (n+m) fun j=>decide (j<n))) (by rw [Int.toNat_natCast,qv,qv];exact Oh h _ _ _ _ _ _) (aN e ?_))))),.inr ⟨Bq,rfl⟩⟩
  refine aN (x:= .inr ()) ?_ rfl
  simp only
  rw [show ((du m t).length:Nat)=m from cX ..]
  exact r1
 ·have cp : ∀i,i<m→n≤t.B i→t.T i (n+m)=0:=fun i an gW=>by
   have h1:=ju i an gW
   have h2:=cw.nN i an
   grind
  have bX:tb m n a b:=Ob cw.ok cw.nN cp
  obtain ⟨c9,cr,g,kR,kE,qX,aex,jV⟩:=ZK (n:=n) sD (by omega) (by omega) (a4 (n+m) fun j=>decide (j<n)) cw cp hf
  refine ⟨_,aN e1 (bC (by omega) (aN (NZ h _ _ _) (bC (by omega) (aN (x:=(a4 (n+m) (pK n),a4 (n+m) fun j=>decide (j<n))) (by rw [Int.toNat_natCast,qv,qv];exact Oh h _ _ _ _ _ _) (aN e ?_))))),.inl ⟨bX,c9,cr,g,kR,rfl,qX,aex,jV⟩⟩
  refine aN (x:= .inl ()) ?_ ?_
  ·simp only
   rw [show ((du m t).length:Nat)=m from cX ..]
   exact r1
  ·simp only
   rw [show ((a4 (n+m) yM).length:Nat)=n+m from cX ..]
   refine aN (X3 h yM _ _ _ _ _ _) ?_
   rw [h.gp]
   exact aN kE rfl
def tf (k:Nat)(x:bM):List eu:=(if x.hU=2 then [] else [⟨(k:Int),1⟩])++(if x.hU=1 then [] else [⟨(k:Int),-1⟩])
def lx (dY:List bM):Nat→List eu
 | 0=>[]
 | n+1=>lx dY n++(match dY[n]? with
  | some x=>tf n x
  | none=>[])
theorem DK (dY:List bM): ∀n,(lx dY n).length≤2*n
 | 0=>by simp [lx]
 | n+1=>by
  have:=DK dY n
  rw [lx,List.length_append]
  have h2:(match dY[n]? with
   | some x=>tf n x
   | none=>[]).length≤2:=by
   split
   ·rename_i x _;unfold tf;rw [List.length_append];split<;>split<;>simp
   ·simp
  omega
theorem PM {dY:List bM}: ∀ {n:Nat} {c:eu},n≤dY.length→c∈lx dY n→ ∃k:Nat,c.mD=k∧k<n∧(c.p5=1∨c.p5 = -1)
 | 0,c,_,h=>by simp [lx] at h
 | n+1,c,a2,h=>by
  rw [lx,List.mem_append] at h
  rcases h with h|h
  ·obtain ⟨k,h1,h2,ab⟩:=PM (by omega) h
   exact ⟨k,h1,by omega,ab⟩
  ·rw [List.getElem?_eq_getElem (by omega)] at h
   simp only [tf,List.mem_append] at h
   rcases h with h|h
   ·split at h
    ·simp at h
    ·simp at h;subst h;exact ⟨n,rfl,by omega,.inl rfl⟩
   ·split at h
    ·simp at h
    ·simp at h;subst h;exact ⟨n,rfl,by omega,.inr rfl⟩
theorem Y1 (s:ct)(ea:s.bt.length≤1000):y3 s=some (lx s.bt s.bt.length):=by
 unfold y3 FU
 rw [fa]
 obtain ⟨x,e,-⟩:=h5 (f:=fun w:Int×List eu=>vO s.bt (s.bt.length:Nat) w.1 w.2) (fun (n:Nat) (_:Unit)=>((n:Int),lx s.bt n)) s.bt.length (fun _ _=>True) (fun _=>lx s.bt s.bt.length)
  (fun n a2 _ _=>by
    refine ⟨(),?_,trivial⟩
    have J:=List.getElem?_eq_getElem a2
    have aU:=DK s.bt n
    have e1:lx s.bt (n+1)=lx s.bt n++tf n s.bt[n]:=by rw [lx,J]
    unfold vO
    refine dn (by simp only;omega) (bC (by simp only;omega) (aN (x:=s.bt[n]) (by simp only;rw [Int.toNat_natCast];exact J) ?_))
    simp only
    rw [fs (by omega),e1]
    unfold tf
    by_cases br:s.bt[n].hU=2
    ·rw [if_pos br]
     refine iS (BN br) (f7 (vb (by omega)) (bC (by simp only [List.length_append,List.length_cons,List.length_nil];omega) ?_))
     rw [if_neg (by omega)];simp
    ·rw [if_neg br]
     refine f7 (vb br) (bC (by simp only [List.length_append,List.length_cons,List.length_nil];omega) ?_)
     by_cases cb:s.bt[n].hU=1
     ·refine iS (BN cb) ?_
      rw [if_pos cb];simp
     ·refine f7 (vb cb) (bC (by simp only [List.length_append,List.length_cons,List.length_nil];omega) ?_)
      rw [if_neg cb];simp)
  (fun _ _=>by unfold vO;exact dZ (by simp) rfl) () trivial
 exact aN e rfl
theorem XK (s:ct)(ea:s.bt.length≤1000):zl s=some ((lx s.bt s.bt.length).map eu.mD,(lx s.bt s.bt.length).map eu.p5):=by
 unfold zl HW
 rw [fa]
 obtain ⟨x,e,-⟩:=h5 (f:=fun w:Int×List Int×List Int=>wb s.bt (s.bt.length:Nat) w.1 w.2.1 w.2.2) (fun (n:Nat) (_:Unit)=>((n:Int),(lx s.bt n).map eu.mD,(lx s.bt n).map eu.p5)) s.bt.length (fun _ _=>True) (fun _=>((lx s.bt s.bt.length).map eu.mD,(lx s.bt s.bt.length).map eu.p5))
  (fun n a2 _ _=>by
    refine ⟨(),?_,trivial⟩
    have J:=List.getElem?_eq_getElem a2
    have aU:=DK s.bt n
    have e1:lx s.bt (n+1)=lx s.bt n++tf n s.bt[n]:=by rw [lx,J]
    unfold wb
    refine dn (by simp only;omega) (bC (by simp only;omega) (aN (x:=s.bt[n]) (by simp only;rw [Int.toNat_natCast];exact J) ?_))
    simp only
    rw [fs (by omega),e1]
    unfold tf
    by_cases br:s.bt[n].hU=2
    ·rw [if_pos br]
     refine iS (BN br) (f7 (vb (by omega)) (bC (by simp only [List.length_append,List.length_map,List.length_cons,List.length_nil];omega) (bC (by simp only [List.length_append,List.length_map,List.length_cons,List.length_nil];omega) ?_)))
     rw [if_neg (by omega)];simp
    ·rw [if_neg br]
     refine f7 (vb br) (bC (by simp only [List.length_append,List.length_map,List.length_cons,List.length_nil];omega) (bC (by simp only [List.length_append,List.length_map,List.length_cons,List.length_nil];omega) ?_))
     by_cases cb:s.bt[n].hU=1
     ·refine iS (BN cb) ?_
      rw [if_pos cb];simp
     ·refine f7 (vb cb) (bC (by simp only [List.length_append,List.length_map,List.length_cons,List.length_nil];omega) (bC (by simp only [List.length_append,List.length_map,List.length_cons,List.length_nil];omega) ?_))
      rw [if_neg cb];simp)
  (fun _ _=>by unfold wb;exact dZ (by simp) rfl) () trivial
 exact aN e rfl
theorem aa6 {α:Type}(a b:Nat)(f:Nat→α):a4 (a+b) f=a4 a f++a4 b (fun j=>f (a+j)):=by
 induction b with
 | zero=>simp [a4]
 | succ b ih=>rw [← Nat.add_assoc,k0,ih,k0,List.append_assoc]
def lK (s:ct)(k:Nat):Int×Int:=(tS s k).getD (0,0)
theorem Ka (s:ct)(i0:kt s)(h:j5 s=some true)(k:Nat)(a5:k<s.bt.length):tS s k=some (lK s k)∧xa s k=some (lK s k)∧(-100≤(lK s k).1∧(lK s k).1≤100)∧(-100≤(lK s k).2∧(lK s k).2≤100):=by
 obtain ⟨x,y,h1,h2,ab,au⟩:=ZB s i0 h k (by omega) (by omega)
 have e:lK s k=(x,y):=by unfold lK;rw [h1];rfl
 rw [e];exact ⟨h1,h2,ab,au⟩
def iw (s:ct)(j:Int)(i6 k:Nat):Int :=
 match s.bt[k]? with
 | none=>0
 | some x=>if j=x.dG then (if i6=0 then (lK s k).1 else (lK s k).2) else if j=x.ei then -(if i6=0 then (lK s k).1 else (lK s k).2) else 0
theorem abF (s:ct)(i0:kt s)(h:j5 s=some true)(j:Int)(i6 k:Nat): -100≤iw s j i6 k∧iw s j i6 k≤100:=by
 unfold iw
 split
 ·omega
 ·rename_i x J
  obtain ⟨-,-,ab,au⟩:=Ka s i0 h k (fO J)
  split
  ·split<;>omega
  ·split
   ·split<;>omega
   ·omega
theorem aa7 (s:ct)(i0:kt s)(h:j5 s=some true)(j:Int)(q1:List Int)(q2 bL:Int)(bZ:List Int):
 CW j q1 q2 bL s.bt (len_ bQ s.bt) s.bY bZ 0 ([]:List Int) ([]:List Int)=some (a4 s.bt.length (iw s j 0),a4 s.bt.length (iw s j 1)):=by
 obtain ⟨-,-,f3,f4⟩:=ol s i0 h
 unfold CW
 rw [fa]
 obtain ⟨x,e,-⟩:=h5 (f:=fun w:Int×List Int×List Int=>wC j q1 q2 bL s.bt (s.bt.length:Nat) s.bY bZ w.1 w.2.1 w.2.2) (fun (n:Nat) (_:Unit)=>((n:Int),a4 n (iw s j 0),a4 n (iw s j 1))) s.bt.length (fun _ _=>True) (fun _=>(a4 s.bt.length (iw s j 0),a4 s.bt.length (iw s j 1)))
  (fun n a2 _ _=>by
    refine ⟨(),?_,trivial⟩
    have J:=List.getElem?_eq_getElem a2
    obtain ⟨-,v2,v3,v4⟩:=Ka s i0 h n a2
    unfold wC
    refine dn (by simp only;omega) (bC (by simp only;omega) (aN (x:=s.bt[n]) (by simp only;rw [Int.toNat_natCast];exact J) (aN (x:=lK s n) v2 ?_)))
    simp only
    rw [fs (by omega),k0,k0]
    have g : ∀(F:Nat→Int) (v:Int),(a4 n F++[v]).length*8≤140737488355328:=fun F v=>by simp only [List.length_append,cX,List.length_cons,List.length_nil];omega
    by_cases br:j=s.bt[n].dG
    ·have e0 : ∀i6,iw s j i6 n=if i6=0 then (lK s n).1 else (lK s n).2:=fun i6=>by unfold iw;rw [J];simp only [if_pos br]
     refine f7 (sl br) (bC (g _ _) (bC (g _ _) ?_))
     rw [e0,e0];rfl
    ·refine iS (tm br) ?_
     by_cases cb:j=s.bt[n].ei
     ·have e0 : ∀i6,iw s j i6 n = -(if i6=0 then (lK s n).1 else (lK s n).2):=fun i6=>by unfold iw;rw [J];simp only [if_neg br,if_pos cb]
      refine f7 (sl cb) (bC (g _ _) (bC (g _ _) ?_))
      rw [e0,e0,cu (by omega) (by omega),cu (by omega) (by omega)]
      simp
     ·have e0 : ∀i6,iw s j i6 n=0:=fun i6=>by unfold iw;rw [J];simp only [if_neg br,if_neg cb]
      refine iS (tm cb) (bC (g _ _) (bC (g _ _) ?_))
      rw [e0,e0])
  (fun _ _=>by unfold wC;exact dZ (by simp) rfl) () trivial
 exact e
end Go.Proofs.YtamedijmgkdlgaaGreat
