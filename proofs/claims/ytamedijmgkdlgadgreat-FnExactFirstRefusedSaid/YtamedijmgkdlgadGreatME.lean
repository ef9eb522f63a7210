/- Lemmas, plain functions of the program, and what they answer. No condition. -/
import Derived.Test.YtamedijmgkdlgadGreatMD
namespace Go.Proofs.YtamedijmgkdlgadGreat
set_option linter.unusedVariables false
set_option linter.unusedSimpArgs false
open Go Go.VL
theorem nw {n:Nat}(h:n≤10000000):R ((n:Int)+1)=((n+1:Nat):Int):=by rw [cE (by omega) (by omega)];rfl
theorem qh {n:Nat}(h:n≤10000000):R ((n:Int)-1)=(n:Int)-1:=cE (by omega) (by omega)
theorem K4 {n:Nat}(h:n≤10000000):R (((n+1:Nat):Int)-1)=n:=by rw [cE (by omega) (by omega)];omega
theorem f9 (l:List Int):len_ eI l=l.length:=e8 _ l
theorem ZG {l:List Int}{k:Nat}{x:Int}(U:l[k]? = some x)(a3:l.length≤5000000):tV l ((k+1:Nat):Int)=some (if x=0 then .inl (k:Int) else .inr ((k+1:Nat):Int)):=by
 have a6:=fE U
 unfold tV
 rw [K4 (by omega),if_pos (by simp),if_pos (by omega),Int.toNat_natCast,U]
 by_cases h:x=0<;>simp [h]
theorem rr {l:List Int}(aT:cA l)(a3:l.length≤5000000):pZ l=some (L (V l)):=by
 have : ∃r,iter (fun w:Int=>tV l w) (l.length:Int)=some r∧ ∃k:Nat,r=k∧k≤l.length∧l.take k=L (V l):=by
  refine jA (eK:=fun w:Int=> ∃k:Nat,w=k∧k≤l.length∧V (l.take k)=V l) (m:=fun w:Int=>w.toNat) _ ?_ _ ⟨l.length,rfl,by omega,by simp⟩
  rintro _ ⟨k,rfl,a6,bh⟩
  cases k with
  | zero =>
   refine .inr ⟨0,by simp [tV],0,rfl,by omega,?_⟩
   rw [← bh]
   simp [V,qQ]
  | succ k =>
   have U:=List.getElem?_eq_getElem (show k<l.length by omega)
   rw [ZG U a3]
   by_cases h:l[k]=0
   ·refine .inl ⟨_,by simp [h],⟨k,rfl,by omega,?_⟩,by omega⟩
    have:=sa U
    rw [h] at this
    simp at this
    omega
   ·refine .inr ⟨_,by simp [h],k+1,rfl,a6,?_⟩
    rcases fL.Kx aT k (fun x h1=>by rw [U] at h1;simp at h1;omega) with h1|h1
    ·exact tj h1 bh
    ·omega
 obtain ⟨r,ao,k,rfl,h1,o⟩:=this
 unfold pZ Jc
 rw [f9,ao]
 simp [h1,o]
theorem x2 {l:List Int}(aT:cA l)(a3:l.length≤5000000):p5 l=some (L (V l)):=by
 have : ∃r,iter (fun w:List Int=>xh w) l=some r∧r=L (V l):=by
  refine jA (eK:=fun w=> ∃k:Nat,w=l.take k∧k≤l.length∧V (l.take k)=V l) (m:=fun w:List Int=>w.length) _ ?_ _ ⟨l.length,by simp,by omega,by simp⟩
  rintro _ ⟨k,rfl,a6,bh⟩
  have hlen:(l.take k).length=k:=by simp;omega
  cases k with
  | zero =>
   refine .inr ⟨[],by simp [xh,f9],?_⟩
   rw [← bh]
   simp [V,qQ]
  | succ k =>
   have U:=List.getElem?_eq_getElem (show k<l.length by omega)
   have dK:(l.take (k+1))[k]? = some l[k]:=by rw [List.getElem?_take];simp [U]
   unfold xh
   simp only [f9,hlen]
   rw [K4 (by omega),if_pos (by simp),if_pos (by omega),Int.toNat_natCast,dK]
   by_cases h:l[k]=0
   ·refine .inl ⟨l.take k,by simp [h,List.take_take,Nat.min_eq_left],⟨k,rfl,by omega,?_⟩,by simp;omega⟩
    have:=sa U
    rw [h] at this
    simp at this
    omega
   ·refine .inr ⟨l.take (k+1),by simp [h],?_⟩
    rcases fL.Kx aT k (fun x h1=>by rw [U] at h1;simp at h1;omega) with h1|h1
    ·exact tj h1 bh
    ·omega
 obtain ⟨r,ao,rfl⟩:=this
 unfold p5 JK
 rw [ao]
 rfl
theorem ZH {l:List Int}(aT:cA l)(a3:l.length≤5000000): ∃k,Ad l=some k∧k≤l.length∧l.take k=L (V l):=by
 have : ∃r,iter (fun w:Nat=>w7 l w) l.length=some r∧r≤l.length∧l.take r=L (V l):=by
  refine jA (eK:=fun k=>k≤l.length∧V (l.take k)=V l) (m:=fun w:Nat=>w) _ ?_ _ ⟨by omega,by simp⟩
  rintro k ⟨a6,bh⟩
  cases k with
  | zero =>
   refine .inr ⟨0,by simp [w7],by omega,?_⟩
   rw [← bh]
   simp [V,qQ]
  | succ k =>
   have U:=List.getElem?_eq_getElem (show k<l.length by omega)
   unfold w7
   rw [K4 (by omega),if_pos (by simp),if_pos (by omega),Int.toNat_natCast,Nat.zero_add,U]
   by_cases h:l[k]=0
   ·refine .inl ⟨k,by simp [h],⟨by omega,?_⟩,by omega⟩
    have:=sa U
    rw [h] at this
    simp at this
    omega
   ·refine .inr ⟨k+1,by simp [h],a6,?_⟩
    rcases fL.Kx aT k (fun x h1=>by rw [U] at h1;simp at h1;omega) with h1|h1
    ·exact tj h1 bh
    ·omega
 obtain ⟨r,ao,h1,o⟩:=this
 unfold Ad Jv
 rw [ao]
 exact ⟨r,rfl,h1,o⟩
theorem sd {a b:List Int}(bF:fL a)(aR:fL b)(a3:a.length≤5000000):p3 a b=some (kZ (V a) (V b)):=by
 unfold p3 kZ
 simp only [f9]
 by_cases h1:a.length=b.length
 ·rw [if_neg (by simp [h1])]
  have : ∃r,iter (fun w:Int=>w4 a b w) ((a.length:Int)-1)=some r∧(r.elim (fun _=>V a=V b) (fun c=>(c = -1∧V a<V b)∨(c=1∧V b<V a))):=by
   refine jA (eK:=fun w:Int=> ∃k:Nat,w=(k:Int)-1∧k≤a.length∧V (a.drop k)=V (b.drop k)) (m:=fun w:Int=>(w+1).toNat) _ ?_ _ ⟨a.length,rfl,by omega,by rw [List.drop_length,h1,List.drop_length]⟩
   rintro _ ⟨k,rfl,a6,bh⟩
   cases k with
   | zero=>exact .inr ⟨.inl (),by simp [w4],by simpa using bh⟩
   | succ k =>
    have U:=List.getElem?_eq_getElem (show k<a.length by omega)
    have aW:=List.getElem?_eq_getElem (show k<b.length by omega)
    have e:((k+1:Nat):Int)-1=k:=by omega
    unfold w4
    rw [e,qh (by omega),if_pos (by simp),if_pos (by omega),Int.toNat_natCast,U]
    simp only [Option.bind_eq_bind,Option.bind_some]
    rw [if_pos (by omega),aW]
    by_cases o:a[k]<b[k]
    ·exact .inr ⟨.inr (-1),by simp [o],.inl ⟨rfl,Qn bF.1 aR.1 U aW bh o⟩⟩
    ·by_cases ae:b[k]<a[k]
     ·exact .inr ⟨.inr 1,by simp [o,ae],.inr ⟨rfl,Qn aR.1 bF.1 aW U bh.symm ae⟩⟩
     ·refine .inl ⟨(k:Int)-1,by simp [o,ae],⟨k,rfl,by omega,?_⟩,by omega⟩
      rw [ol U,ol aW,bh,show a[k]=b[k] by omega]
  obtain ⟨r,ao,o⟩:=this
  unfold Jo
  rw [qh (by omega),ao]
  cases r with
  | inl u =>
   simp at o
   simp [o]
  | inr c =>
   rcases o with ⟨rfl,o⟩|⟨rfl,o⟩
   ·simp [o]
   ·simp [o];omega
 ·rw [if_pos (by simp;omega)]
  by_cases o:a.length<b.length
  ·have:=D1 bF aR o
   simp [o,this]
  ·have:=D1 aR bF (by omega)
   rw [if_neg (by simp;omega),if_neg (by omega),if_pos this]
theorem Yf:qz=p3:=rfl
theorem O3 {a b:List Int}(bF:fL a)(aR:fL b)(a3:a.length≤5000000):qz a b=some (kZ (V a) (V b)):=sd bF aR a3
theorem AV {x y:Int}(U:0≤x∧x<1000000000)(aW:0≤y∧y<1000000000):0≤x*y∧x*y≤999999998000000001:=by
 have h1:=Int.mul_nonneg U.1 aW.1
 have o:x*y≤999999999*999999999:=Int.mul_le_mul (by omega) (by omega) aW.1 (by omega)
 omega
theorem pQ {a b:Int}(h:0≤a):a.tmod b=a % b:=Int.tmod_eq_emod_of_nonneg h
theorem m4 {a b:Int}(h:0≤a):a.tdiv b=a / b:=Int.tdiv_eq_ediv_of_nonneg h
theorem KA (k:Nat)(x:Int)(q:List Int):(List.replicate (k+1) 0++q).set k x=List.replicate k 0++x::q:=by
 induction k with
 | zero=>rfl
 | succ k ih =>
  show (0::(List.replicate (k+1) 0++q)).set (k+1) x=_
  rw [List.set_cons_succ,ih];rfl
theorem Y6 {a:List Int}{d rest:Int}{row:List Int}{k:Nat}{x:Int}(U:a[k]? = some x)(kv:0≤x∧x<1000000000)(bE:0<d∧d<1000000000)(ao:0≤rest∧rest<d)(dC:row.length=a.length)(a3:a.length≤1000000):
 wL a d rest (k:Int) row=some (.inl ((rest*1000000000+x) % d,(k:Int)-1,row.set k ((rest*1000000000+x) / d))):=by
 have a6:=fE U
 unfold wL
 rw [if_pos (by simp),if_pos (by omega),Int.toNat_natCast,U]
 simp only [Option.bind_eq_bind,Option.bind_some]
 rw [if_pos (by omega),if_pos (by omega),if_pos (by omega),qh (by omega)]
 have h1:R (R (rest*1000000000)+x)=rest*1000000000+x:=by rw [cE (x:=rest*1000000000) (by omega) (by omega)];exact cE (by omega) (by omega)
 have o:0≤rest*1000000000+x:=by omega
 have ae:(rest*1000000000+x) / d≤rest*1000000000+x:=Int.ediv_le_self _ o
 have au:0≤(rest*1000000000+x) / d:=Int.ediv_nonneg o (by omega)
 rw [h1,pQ o,m4 o,cE (by omega) (by omega),Nat.zero_add]
theorem O4 {a:List Int}{d:Int}(bF:cA a)(bE:0<d∧d<1000000000)(a3:a.length≤1000000):
 ∃r,C4 a d 0 ((a.length:Int)-1) (List.replicate a.length 0)=some r∧r.1=V a % d∧cA r.2∧r.2.length=a.length∧V r.2=V a / d:=by
 refine jA (eK:=fun w:Int×Int×List Int=> ∃(k:Nat) (q:List Int),w.2.1=(k:Int)-1∧k≤a.length∧w.2.2=List.replicate k 0++q∧q.length+k=a.length∧cA q∧0≤w.1∧w.1<d∧V (a.drop k)=V q*d+w.1) (m:=fun w:Int×Int×List Int=>(w.2.1+1).toNat) _ ?_ _ ⟨a.length,[],rfl,by omega,by simp,by simp,cA.nil,by omega,by omega,by simp [V]⟩
 rintro ⟨rest,i,row⟩ ⟨k,q,h1,a6,o,a7,pL,lh,h3,bh⟩
 simp only at h1 o lh h3 bh ⊢
 subst h1 o
 cases k with
 | zero =>
  refine .inr ⟨(rest,q),by simp [wL],?_,pL,by simpa using a7,?_⟩
  ·simp at bh
   rw [bh,Int.add_comm,Int.add_mul_emod_self_right]
   exact (Int.emod_eq_of_lt lh h3).symm
  ·simp at bh
   rw [bh,Int.add_comm,Int.add_mul_ediv_right _ _ (by omega),Int.ediv_eq_zero_of_lt lh h3]
   simp
 | succ k =>
  have U:=List.getElem?_eq_getElem (show k<a.length by omega)
  have kv:=bF.get U
  rw [show ((k+1:Nat):Int)-1=k by omega,Y6 U kv bE ⟨lh,h3⟩ (by simp;omega) a3]
  refine .inl ⟨_,rfl,⟨k,(rest*1000000000+a[k]) / d::q,rfl,by omega,KA _ _ _,by simp;omega,cA.cons ⟨Int.ediv_nonneg (by omega) (by omega),?_⟩ pL,Int.emod_nonneg _ (by omega),Int.emod_lt_of_pos _ bE.1,?_⟩,by simp⟩
  ·refine Int.ediv_lt_of_lt_mul bE.1 ?_
   omega
  ·rw [ol U,bh,k9]
   have:=Int.mul_ediv_add_emod (rest*1000000000+a[k]) d
   generalize (rest*1000000000+a[k]) / d=u at *
   generalize (rest*1000000000+a[k]) % d=t at *
   grind
theorem aaE {a:List Int}{d:Int}(bF:cA a)(bE:0<d∧d<1000000000)(a3:a.length≤1000000):zO a d=some (L (V a / d),V a % d):=by
 obtain ⟨r,ao,h1,o,ae,au⟩:=O4 bF bE a3
 unfold zO
 simp only [f9]
 rw [if_pos (by omega),qh (by omega),Int.toNat_natCast,ao]
 simp only [Option.bind_eq_bind,Option.bind_some]
 rw [rr o (by omega),h1,au]
 rfl
theorem Xs:IJ=C4:=rfl
theorem Ok {a:List Int}{d:Int}(bF:cA a)(bE:0<d∧d<1000000000)(a3:a.length≤1000000):xq a d=some (L (V a / d),V a % d):=by
 obtain ⟨r,ao,h1,o,ae,au⟩:=O4 bF bE a3
 unfold xq
 simp only [f9]
 rw [if_pos (by omega),qh (by omega),Int.toNat_natCast,Xs,ao]
 simp only [Option.bind_eq_bind,Option.bind_some]
 rw [x2 o (by omega),h1,au]
 rfl
theorem ZI {b:List Int}{i j:Nat}{x y z carry:Int}{row t26:List Int}{t27:Int}(aW:b[j]? = some y)(cC:row[i+j]? = some z)(U:0≤x∧x<1000000000)(oW:0≤y∧y<1000000000)(qZ:0≤z∧z<1000000000)(bf:0≤carry∧carry<1000000000)(a3:row.length≤2000000):
 w5 b i x t26 t27 b.length carry j row=some (.inl ((z+x*y+carry) / 1000000000,((j+1:Nat):Int),row.set (i+j) ((z+x*y+carry) % 1000000000))):=by
 have aC:=fE aW
 have pF:=fE cC
 obtain ⟨ir,hh⟩:=AV U oW
 unfold w5
 have e:R ((i:Int)+(j:Int))=((i+j:Nat):Int):=by rw [cE (by omega) (by omega)];rfl
 rw [if_pos (by simp;omega),if_pos (by omega),Int.toNat_natCast,aW]
 simp only [Option.bind_eq_bind,Option.bind_some,e,Int.toNat_natCast,Nat.zero_add]
 rw [if_pos (by omega),cC]
 simp only [Option.bind_some]
 rw [if_pos (by omega),nw (by omega),cE (x:=x*y) (by omega) (by omega),cE (x:=z+x*y) (by omega) (by omega),cE (x:=z+x*y+carry) (by omega) (by omega),pQ (by omega),m4 (by omega),cE (by omega) (by omega)]
theorem ZJ {b:List Int}{i:Nat}{x:Int}{row t26:List Int}{t27:Int}(aR:cA b)(dC:cA row)(U:0≤x∧x<1000000000)(aT:i+b.length<row.length)(a3:row.length≤2000000):
 ∃r,Js b i x t26 t27 b.length 0 0 row=some r∧0≤r.1∧r.1<1000000000∧cA r.2∧r.2.length=row.length∧V r.2+r.1*B (i+b.length)=V row+x*B i*V b∧ ∀j,i+b.length≤j→r.2[j]? = row[j]? := by
 refine jA (eK:=fun w:Int×Int×List Int=> ∃(j:Nat),w.2.1=(j:Int)∧j≤b.length∧0≤w.1∧w.1<1000000000∧cA w.2.2∧w.2.2.length=row.length∧V w.2.2+w.1*B (i+j)=V row+x*B i*V (b.take j)∧ ∀j,i+b.length≤j→w.2.2[j]? = row[j]?) (m:=fun w:Int×Int×List Int=>b.length-w.2.1.toNat) _ ?_ _ ⟨0,rfl,by omega,by simp,by simp,dC,rfl,by simp [V],fun _ _=>rfl⟩
 rintro ⟨carry,aeN,fG⟩ ⟨j,h1,aC,mr,mU,km,hlen,bh,lc⟩
 simp only at h1 mr mU km hlen bh lc ⊢
 subst h1
 by_cases adV:j=b.length
 ·subst adV
  refine .inr ⟨(carry,fG),by simp [w5],mr,mU,km,hlen,by simpa using bh,lc⟩
 ·have aW:=List.getElem?_eq_getElem (show j<b.length by omega)
  have cC:=List.getElem?_eq_getElem (show i+j<fG.length by omega)
  have oW:=aR.get aW
  have qZ:=km.get cC
  obtain ⟨ir,hh⟩:=AV U oW
  rw [ZI aW cC U oW qZ ⟨mr,mU⟩ (by omega)]
  refine .inl ⟨_,rfl,⟨j+1,rfl,by omega,by simp only;omega,by simp only;omega,km.set (by omega),by simpa using hlen,?_,fun hP tu=> ?_⟩,by simp;omega⟩
  ·simp only
   rw [rG cC,sa aW,← Nat.add_assoc,l8]
   rw [A7] at bh ⊢
   have:=Int.mul_ediv_add_emod (fG[i+j]+x*b[j]+carry) 1000000000
   generalize (fG[i+j]+x*b[j]+carry) / 1000000000=u at *
   generalize (fG[i+j]+x*b[j]+carry) % 1000000000=t at *
   grind
  ·rw [← lc hP tu]
   exact List.getElem?_set_ne (by omega)
theorem J8 {a b:List Int}(bF:cA a)(aR:cA b)(a3:a.length≤1000000)(hm:b.length≤1000000):
 ∃r,zG b a a.length 0 (List.replicate (a.length+b.length) 0)=some r∧cA r∧r.length=a.length+b.length∧V r=V a*V b:=by
 refine jA (eK:=fun w:Int×List Int=> ∃(i:Nat),w.1=(i:Int)∧i≤a.length∧cA w.2∧w.2.length=a.length+b.length∧V w.2=V (a.take i)*V b∧ ∀j,i+b.length≤j→j<a.length+b.length→w.2[j]? = some 0) (m:=fun w:Int×List Int=>a.length-w.1.toNat) _ ?_ _ ⟨0,rfl,by omega,cA.LV _,by simp,by simp [V,K1],fun j _ h=>by simp [List.getElem?_replicate,h]⟩
 rintro ⟨ii,row⟩ ⟨i,h1,ah,km,hlen,bh,h0⟩
 simp only at h1 km hlen bh h0 ⊢
 subst h1
 by_cases Cb:i=a.length
 ·subst Cb
  refine .inr ⟨row,by simp [zm],km,hlen,by simpa using bh⟩
 ·have U:=List.getElem?_eq_getElem (show i<a.length by omega)
  have kv:=bF.get U
  obtain ⟨r,ao,mr,mU,acS,Q5,BE,lc⟩:=ZJ (i:=i) (t26:=a) (t27:=a.length) aR km kv (by omega) (by omega)
  have e:R ((i:Int)+(b.length:Int))=((i+b.length:Nat):Int):=by rw [cE (by omega) (by omega)];rfl
  have cC:r.2[i+b.length]? = some 0:=by rw [lc _ (Nat.le_refl _)];exact h0 _ (Nat.le_refl _) (by omega)
  refine .inl ⟨(((i+1:Nat):Int),r.2.set (i+b.length) r.1),?_,⟨i+1,rfl,by omega,acS.set ⟨mr,mU⟩,by simp;omega,?_,fun j agi adW=> ?_⟩,by simp;omega⟩
  ·unfold zm
   rw [if_pos (by simp;omega),if_pos (by omega),Int.toNat_natCast,U]
   simp only [Option.bind_eq_bind,Option.bind_some,f9]
   rw [ao]
   simp only [Option.bind_some,e,Int.toNat_natCast,Nat.zero_add]
   rw [if_pos (by omega),if_pos (by omega),nw (n:=i) (by omega)]
  ·simp only
   rw [rG cC,sa U]
   grind
  ·simp only
   rw [List.getElem?_set_ne (by omega),lc _ (by omega)]
   exact h0 _ (by omega) adW
theorem mul_eq {a b:List Int}(bF:cA a)(aR:cA b)(a3:a.length≤1000000)(hm:b.length≤1000000):hN a b=some (L (V a*V b)):=by
 unfold hN
 simp only [f9]
 by_cases h1:a=[]
 ·subst h1
  simp [V,qQ]
 ·by_cases o:b=[]
  ·subst o
   simp [h1,V,qQ]
  ·obtain ⟨r,ao,ae,au,aA⟩:=J8 bF aR a3 hm
   have e:R ((a.length:Int)+(b.length:Int))=((a.length+b.length:Nat):Int):=by rw [cE (by omega) (by omega)];rfl
   rw [if_neg (by simp [h1]),if_neg (by simp [o]),e,if_pos (by omega),Int.toNat_natCast,ao]
   simp only [Option.bind_eq_bind,Option.bind_some]
   rw [rr ae (by omega),aA]
   rfl
theorem YD:JH=zG:=rfl
theorem XU:Ji=zG:=rfl
theorem aaF {a b:List Int}(bF:cA a)(aR:cA b)(a3:a.length≤1000000)(hm:b.length≤1000000):An a b=some (L (V a*V b)):=by
 unfold An
 simp only [f9]
 by_cases h1:a=[]
 ·subst h1
  simp [V,qQ]
 ·by_cases o:b=[]
  ·subst o
   simp [h1,V,qQ]
  ·obtain ⟨r,ao,ae,au,aA⟩:=J8 bF aR a3 hm
   have e:R ((a.length:Int)+(b.length:Int))=((a.length+b.length:Nat):Int):=by rw [cE (by omega) (by omega)];rfl
   rw [if_neg (by simp [h1]),if_neg (by simp [o]),e,if_pos (by omega),Int.toNat_natCast,YD,ao]
   simp only [Option.bind_eq_bind,Option.bind_some]
   rw [x2 ae (by omega),aA]
   rfl
theorem O5 {a b:List Int}(bF:cA a)(aR:cA b)(h1:a≠[])(o:b≠[])(a3:a.length≤1000000)(hm:b.length≤1000000):
 ∃k r,xz a b=some (k,r)∧k≤r.length∧r.length=a.length+b.length∧r.take k=L (V a*V b)∧cA r:=by
 obtain ⟨r,ao,ae,au,aA⟩:=J8 bF aR a3 hm
 obtain ⟨k,a6,a2,bd⟩:=ZH ae (by omega)
 refine ⟨k,r,?_,a2,au,by rw [bd,aA],ae⟩
 unfold xz
 simp only [f9]
 have e:R ((a.length:Int)+(b.length:Int))=((a.length+b.length:Nat):Int):=by rw [cE (by omega) (by omega)];rfl
 rw [if_neg (by simp [h1]),if_neg (by simp [o]),e,if_pos (by omega),Int.toNat_natCast,XU,ao]
 simp only [Option.bind_eq_bind,Option.bind_some]
 rw [a6]
 rfl
theorem Bb {x:Int}(h1:0≤x)(o:x<18446744073709551616):IntKind.wrap .u64 x=x:=by
 simp only [IntKind.wrap,IntKind.signed,IntKind.bits]
 have:((2:Int) ^ 64)=18446744073709551616:=by decide
 simp
 omega
theorem acr {x:Int}(h1:-9223372036854775808≤x)(o:x<9223372036854775808):IntKind.wrap .i64 x=x:=cE h1 o
theorem fL.snoc {l:List Int}{x:Int}(h:cA l)(U:0<x∧x<1000000000):fL (l++[x]):=⟨h.append (cA.cons (by omega) cA.nil),fun y aW=>by
 rw [List.getLast?_append] at aW
 simp at aW
 omega⟩
theorem Pt {N:Int}(fT:N<18446744073709551616){n:Int}{row:List Int}(h:0≤n∧cA row∧V row+B row.length*n=N∧(n=0→fL row)∧((row.length=0∧n<18446744073709551616)∨(row.length=1∧n<20000000000)∨(row.length=2∧n<20)∨(row.length=3∧n=0)))(a3:0<n):
 (fun (n:Int) (row:List Int)=>0≤n∧cA row∧V row+B row.length*n=N∧(n=0→fL row)∧((row.length=0∧n<18446744073709551616)∨(row.length=1∧n<20000000000)∨(row.length=2∧n<20)∨(row.length=3∧n=0))) (n / 1000000000) (row++[n % 1000000000]):=by
 obtain ⟨h0,h1,o,ae,au⟩:=h
 refine ⟨by omega,h1.append (cA.cons (by omega) cA.nil),?_,fun aA=>fL.snoc h1 (by omega),?_⟩
 ·rw [uG,List.length_append,List.length_singleton,l8,k9,A8]
  have:=Int.mul_ediv_add_emod n 1000000000
  generalize n / 1000000000=u at *
  generalize n % 1000000000=t at *
  grind
 ·rw [List.length_append,List.length_singleton]
  omega
theorem xS {n:Int}(h:0≤n)(a3:n<9223372036854775808):rq n=some (L n):=by
 have : ∃r,iter (fun w:Int×List Int=>xc w.1 w.2) (n,[])=some r∧r=L n:=by
  refine jA (eK:=fun w:Int×List Int=>w.1≤n∧0≤w.1∧cA w.2∧V w.2+B w.2.length*w.1=n∧(w.1=0→fL w.2)∧((w.2.length=0∧w.1<18446744073709551616)∨(w.2.length=1∧w.1<20000000000)∨(w.2.length=2∧w.1<20)∨(w.2.length=3∧w.1=0))) (m:=fun w:Int×List Int=>w.1.toNat) _ ?_ _ ⟨Int.le_refl _,h,cA.nil,by simp [V,B],fun _=>fL.nil,.inl ⟨rfl,by simp only;omega⟩⟩
  rintro ⟨m,row⟩ ⟨hm,cT⟩
  simp only at hm cT
  obtain ⟨h0,h1,o,ae,au⟩:=id cT
  by_cases j6:0<m
  ·have:=Pt (by omega) cT j6
   refine .inl ⟨(m / 1000000000,row++[m % 1000000000]),?_,⟨by simp only;omega,this⟩,by simp only;omega⟩
   unfold xc
   rw [if_pos (by simp;omega),pQ (by omega),m4 (by omega),if_pos (by simp;omega),cE (by omega) (by omega)]
  ·refine .inr ⟨row,by simp [xc,j6],?_⟩
   have nF:m=0:=by omega
   refine tj (ae nF) ?_
   rw [nF] at o
   simpa using o
 obtain ⟨r,ao,rfl⟩:=this
 unfold rq JD
 rw [ao]
 rfl
theorem J0 {n:Int}(h:0≤n)(a3:n<18446744073709551616):ul n=some (L n):=by
 have : ∃r,iter (fun w:Int×List Int=>wT w.1 w.2) (n,[])=some r∧r=L n:=by
  refine jA (eK:=fun w:Int×List Int=>w.1≤n∧0≤w.1∧cA w.2∧V w.2+B w.2.length*w.1=n∧(w.1=0→fL w.2)∧((w.2.length=0∧w.1<18446744073709551616)∨(w.2.length=1∧w.1<20000000000)∨(w.2.length=2∧w.1<20)∨(w.2.length=3∧w.1=0))) (m:=fun w:Int×List Int=>w.1.toNat) _ ?_ _ ⟨Int.le_refl _,h,cA.nil,by simp [V,B],fun _=>fL.nil,.inl ⟨rfl,by simp only;omega⟩⟩
  rintro ⟨m,row⟩ ⟨hm,cT⟩
  simp only at hm cT
  obtain ⟨h0,h1,o,ae,au⟩:=id cT
  by_cases j6:0<m
  ·have:=Pt (by omega) cT j6
   refine .inl ⟨(m / 1000000000,row++[m % 1000000000]),?_,⟨by simp only;omega,this⟩,by simp only;omega⟩
   unfold wT
   rw [if_pos (by simp;omega),pQ (by omega),m4 (by omega),acr (x:=m % 1000000000) (by omega) (by omega),if_pos (by simp;omega),Bb (by omega) (by omega)]
  ·refine .inr ⟨row,by simp [wT,j6],?_⟩
   have nF:m=0:=by omega
   refine tj (ae nF) ?_
   rw [nF] at o
   simpa using o
 obtain ⟨r,ao,rfl⟩:=this
 unfold ul Jf
 rw [ao]
 rfl
def tm (x:Int):Bool:=decide (0≤x) && decide (x<1000000000)
theorem Qs (l:List Int):l.all tm=true↔cA l:=by
 simp [tm,cA]
theorem O6 {a:List Int}(h:a≠[]): ∃x,a[a.length-1]? = some x∧(fL a↔cA a∧x≠0):=by
 have ai:=List.length_pos_iff.mpr h
 refine ⟨a[a.length-1],List.getElem?_eq_getElem (by omega),?_⟩
 have e:a.getLast? = some a[a.length-1]:=by rw [List.getLast?_eq_getElem?];exact List.getElem?_eq_getElem (by omega)
 constructor
 ·exact fun h=>⟨h.1,h.2 _ e⟩
 ·refine fun h=>⟨h.1,fun x U=> ?_⟩
  rw [e] at U
  rw [← Option.some.inj U]
  exact h.2
theorem acs {a:List Int}(h:a≠[])(hm:(a.length:Int)<9223372036854775807):R ((a.length:Int)-1)=((a.length-1:Nat):Int):=by
 have ai:=List.length_pos_iff.mpr h
 rw [cE (by omega) (by omega)]
 omega
theorem Y7 (x:Int):mE x 0 999999999=some (tm x):=by
 unfold mE tm
 by_cases h:0≤x
 ·simp [h];omega
 ·simp [h]
theorem J1 {a:List Int}(hm:(a.length:Int)<9223372036854775807): ∃ok,r3 a=some ok∧(ok=true↔fL a∧a.length≤60):=by
 have h1:iter (fun w:Int=>xd a a.length w) 0=some (if a.all tm then .inl () else .inr ()):=by
  refine Av a tm (fun n x U=> ?_) (by simp [xd])
  have:=fE U
  unfold xd
  rw [if_pos (by simp;omega),if_pos (by omega),Int.toNat_natCast,U]
  simp only [Option.bind_eq_bind,Option.bind_some,Y7]
  rw [i1 (by omega)]
  cases tm x<;>rfl
 unfold r3 JE
 simp only [f9]
 rw [h1]
 by_cases tG:a.all tm=true
 ·have BB:=(Qs a).1 tG
  simp only [tG,if_true,Option.bind_eq_bind,Option.bind_some]
  by_cases qs:a.length≤60
  ·rw [if_pos (by simp;omega)]
   by_cases h0:a=[]
   ·subst h0
    exact ⟨true,rfl,by simp [fL.nil]⟩
   ·obtain ⟨x,U,a3⟩:=O6 h0
    have ai:=List.length_pos_iff.mpr h0
    rw [if_neg (by simp [h0]),acs h0 hm,if_pos (by omega),Int.toNat_natCast,U]
    refine ⟨_,rfl,?_⟩
    rw [a3]
    simp [BB,qs]
  ·rw [if_neg (by simp;omega)]
   exact ⟨false,rfl,by simp;omega⟩
 ·have BB : ¬cA a:=fun h=>tG ((Qs a).2 h)
  simp only [Bool.not_eq_true] at tG
  refine ⟨false,by simp [tG],?_⟩
  simp only [Bool.false_eq_true,false_iff]
  exact fun h=>BB h.1.1
theorem OG {a:List Int}(bF:fL a)(qs:a.length≤60)(bh:V a<9223372036854775808):xt a=some (V a,true):=by
 obtain ⟨ok,h1,o⟩:=J1 (a:=a) (by omega)
 have mR:ok=true:=o.2 ⟨bF,qs⟩
 subst mR
 have bf:fL [854775807,223372036,9]:=⟨by intro x U;simp at U;omega,by simp⟩
 have L5:V [854775807,223372036,9]=9223372036854775807:=by decide
 unfold xt
 rw [h1]
 simp only [Option.bind_eq_bind,Option.bind_some,if_true]
 rw [sd bF bf (by omega),L5]
 have : ∃r,iter (fun w:Int×Int=>wJ a w.1 w.2) (0,(a.length:Int)-1)=some r∧r=V a:=by
  refine jA (eK:=fun w:Int×Int=> ∃k:Nat,w.2=(k:Int)-1∧k≤a.length∧w.1=V (a.drop k)) (m:=fun w:Int×Int=>(w.2+1).toNat) _ ?_ _ ⟨a.length,rfl,by omega,by simp [V]⟩
  rintro ⟨n,i⟩ ⟨k,ae,a6,au⟩
  simp only at ae au
  subst ae au
  cases k with
  | zero=>exact .inr ⟨V a,by simp [wJ],rfl⟩
  | succ k =>
   have U:=List.getElem?_eq_getElem (show k<a.length by omega)
   have kv:=bF.1.get U
   have aA:=ol U
   have a2:=mG (bF.1.drop (k+1))
   have bd:V (a.drop k)≤V a:=by
    have bn:=uI (l:=a) (n:=k) (by omega)
    have cy:=mG (bF.1.take k)
    have cN:=mG (bF.1.drop k)
    have eW:1*V (a.drop k)≤B k*V (a.drop k):=Int.mul_le_mul_of_nonneg_right (oA k) cN
    omega
   refine .inl ⟨(V (a.drop k),(k:Int)-1),?_,⟨k,rfl,by omega,rfl⟩,by simp only;omega⟩
   unfold wJ
   rw [show ((k+1:Nat):Int)-1=k by omega,if_pos (by simp),if_pos (by omega),Int.toNat_natCast,U]
   simp only [Option.bind_eq_bind,Option.bind_some]
   rw [qh (by omega),cE (x:=V (a.drop (k+1))*1000000000) (by omega) (by omega),cE (by omega) (by omega),aA]
   congr 3
   omega
 obtain ⟨r,ao,rfl⟩:=this
 unfold kZ IX
 simp only [f9]
 rw [qh (by omega),ao]
 have ae : ¬(9223372036854775807:Int)<V a:=by omega
 by_cases au:V a<9223372036854775807<;>simp [ae,au]
theorem aaG {a b row:List Int}{less x:Int}{i:Nat}(aR:cA b)(U:a[i]? = some x)(kv:0≤x∧x<1000000000)(aT:less=0∨less=1)(a3:a.length≤1000000)(hm:b.length≤1000000)(ao:row.length≤1000000):
 ∃y,0≤y∧y<1000000000∧(∀z,b[i]? = some z→y=z)∧(b[i]? = none→y=0) ∧
 tY a b a.length less i row=some (.inl (if x-less-y<0 then (1,((i+1:Nat):Int),row++[x-less-y+1000000000]) else (0,((i+1:Nat):Int),row++[x-less-y]))):=by
 have ah:=fE U
 unfold tY
 rw [if_pos (by simp;omega),if_pos (by omega),Int.toNat_natCast,U]
 simp only [Option.bind_eq_bind,Option.bind_some,f9]
 by_cases So:i<b.length
 ·have aW:=List.getElem?_eq_getElem So
  have oW:=aR.get aW
  refine ⟨b[i],oW.1,oW.2,fun z cC=>by rw [aW] at cC;exact Option.some.inj cC,fun h=>by rw [aW] at h;simp at h,?_⟩
  rw [if_pos (by simp;omega),if_pos (by omega),aW]
  simp only [Option.bind_some]
  rw [cE (x:=x-less) (by omega) (by omega),cE (x:=x-less-b[i]) (by omega) (by omega),nw (n:=i) (by omega),cE (x:=x-less-b[i]+1000000000) (by omega) (by omega)]
  by_cases h:x-less-b[i]<0
  ·rw [if_pos (by simp [h]),if_pos (by simp;omega)]
   simp [h]
  ·rw [if_neg (by simp [h]),if_pos (by simp;omega)]
   simp [h]
 ·have aW:b[i]? = none:=by simp;omega
  refine ⟨0,by omega,by omega,fun z cC=>by rw [aW] at cC;simp at cC,fun _=>rfl,?_⟩
  rw [if_neg (by simp;omega),cE (x:=x-less) (by omega) (by omega),nw (n:=i) (by omega),cE (x:=x-less+1000000000) (by omega) (by omega),Int.sub_zero]
  by_cases h:x-less<0
  ·rw [if_pos (by simp [h]),if_pos (by simp;omega)]
   simp [h]
  ·rw [if_neg (by simp [h]),if_pos (by simp;omega)]
   simp [h]
theorem PU {b:List Int}{i:Nat}{y:Int}(h1:∀z,b[i]? = some z→y=z)(o:b[i]? = none→y=0):V (b.take (i+1))=V (b.take i)+B i*y:=by
 cases h:b[i]? with
 | some z=>rw [h1 z h,sa h]
 | none =>
  rw [o h]
  have:b.length≤i:=by simpa using h
  rw [List.take_of_length_le (by omega),List.take_of_length_le (by omega)]
  simp
theorem sub_eq {a b:List Int}(bF:cA a)(aR:cA b)(hlen:b.length≤a.length)(ty:V b≤V a)(a3:a.length≤1000000):r2 a b=some (L (V a-V b)):=by
 have : ∃r,iter (fun w:Int×Int×List Int=>tY a b a.length w.1 w.2.1 w.2.2) (0,0,[])=some r∧cA r∧r.length=a.length∧V r=V a-V b:=by
  refine jA (eK:=fun w:Int×Int×List Int=> ∃i:Nat,w.2.1=i∧i≤a.length∧(w.1=0∨w.1=1)∧cA w.2.2∧w.2.2.length=i∧V w.2.2-w.1*B i=V (a.take i)-V (b.take i)) (m:=fun w:Int×Int×List Int=>a.length-w.2.1.toNat) _ ?_ _ ⟨0,rfl,by omega,.inl rfl,cA.nil,rfl,by simp [V]⟩
  rintro ⟨less,ii,row⟩ ⟨i,h1,ah,aT,km,vr,bh⟩
  simp only at h1 aT km vr bh ⊢
  subst h1
  by_cases Cb:i=a.length
  ·refine .inr ⟨row,by simp [tY,Cb],km,by omega,?_⟩
   rw [Cb] at bh
   rw [List.take_length,List.take_of_length_le hlen] at bh
   have o:=nc km
   rw [vr,Cb] at o
   rcases aT with rfl|rfl<;>omega
  ·have U:=List.getElem?_eq_getElem (show i<a.length by omega)
   have kv:=bF.get U
   obtain ⟨y,Cc,Cd,adX,adY,he⟩:=aaG (row:=row) aR U kv aT a3 (by omega) (by omega)
   rw [he]
   refine .inl ⟨_,rfl,?_⟩
   have ae:=sa U
   have au:=PU adX adY
   by_cases h:a[i]-less-y<0
   ·rw [if_pos h]
    refine ⟨⟨i+1,rfl,by omega,.inr rfl,km.append (cA.cons (by omega) cA.nil),by simp [vr],?_⟩,by simp only;omega⟩
    simp only
    rw [ae,au,uG,vr,l8,k9,A8]
    grind
   ·rw [if_neg h]
    refine ⟨⟨i+1,rfl,by omega,.inl rfl,km.append (cA.cons (by omega) cA.nil),by simp [vr],?_⟩,by simp only;omega⟩
    simp only
    rw [ae,au,uG,vr,k9,A8]
    grind
 obtain ⟨r,ao,h1,o,ae⟩:=this
 unfold r2 Jp
 simp only [f9]
 rw [ao]
 simp only [Option.bind_eq_bind,Option.bind_some]
 rw [rr h1 (by omega),ae]
 rfl
theorem rs {l:List Int}(h:cA l){k:Nat}(a6:k≤l.length):B k*V (l.drop k)≤V l∧V l<B k*(V (l.drop k)+1):=by
 have h1:=uI a6
 have o:=mG (h.take k)
 have ae:=nc (h.take k)
 rw [List.length_take,Nat.min_eq_left a6] at ae
 rw [Int.mul_add,Int.mul_one]
 omega
theorem Ax {l:List Int}{k:Nat}{x:Int}(U:l[k]? = some x)(aT:l.length=k+1):V (l.drop k)=x:=by
 rw [ol U,List.drop_of_length_le (by omega)]
 simp [V]
theorem Ol {aX W t d P:Int}(hj:1≤P)(EW:P*t≤aX)(L6:aX<P*(t+1))(tA:P*d≤W)(EX:W<P*(d+1))(bE:0<d)(cf:0≤t)(L7:aX<1000000000*W):t / (d+1)≤aX / W∧aX / W≤t / d∧aX / W≤999999999:=by
 have hW:0<W:=by
  have:=Int.mul_pos (a:=P) (b:=d) (by omega) bE
  omega
 have cZ:0≤aX:=by
  have:=Int.mul_nonneg (a:=P) (b:=t) (by omega) cf
  omega
 refine ⟨?_,?_,?_⟩
 ·apply (Int.le_ediv_iff_mul_le hW).2
  have h1:t / (d+1)*(d+1)≤t:=Int.ediv_mul_le _ (by omega)
  have o:0≤t / (d+1):=Int.ediv_nonneg cf (by omega)
  have ae:t / (d+1)*W≤t / (d+1)*(P*(d+1)):=Int.mul_le_mul_of_nonneg_left (by omega) o
  have au:P*(t / (d+1)*(d+1))≤P*t:=Int.mul_le_mul_of_nonneg_left h1 (by omega)
  have aA:t / (d+1)*(P*(d+1))=P*(t / (d+1)*(d+1)):=by grind
  omega
 ·apply (Int.le_ediv_iff_mul_le bE).2
  have h1:aX / W*W≤aX:=Int.ediv_mul_le _ (by omega)
  have o:0≤aX / W:=Int.ediv_nonneg cZ (by omega)
  have ae:aX / W*(P*d)≤aX / W*W:=Int.mul_le_mul_of_nonneg_left tA o
  have au:aX / W*(P*d)=P*(aX / W*d):=by grind
  have aA:P*(aX / W*d)<P*(t+1):=by omega
  have:=Int.lt_of_mul_lt_mul_left aA (by omega)
  omega
 ·have:=Int.ediv_lt_of_lt_mul hW L7
  omega
theorem Qt {a b:Int}:kZ a b≤0↔a≤b:=by
 unfold kZ
 by_cases h:a<b
 ·simp [h];omega
 ·by_cases o:b<a
  ·simp [h,o]
  ·simp [h,o];omega
theorem s8 {a b:Int}:kZ a b<0↔a<b:=by
 unfold kZ
 by_cases h:a<b
 ·simp [h]
 ·by_cases o:b<a
  ·simp [h,o]
  ·simp [h,o]
theorem O7 {r b:List Int}(ao:fL r)(aR:fL b)(lj:b≠[])(a3:r.length≤1000000)(hm:b.length≤1000000){bU ah:Int}(h0:0≤bU)(h1:bU≤V r / V b)(o:V r / V b≤ah)(ae:ah≤999999999):C5 r b bU ah=some (V r / V b):=by
 have jJ:=tf aR lj
 have : ∃q,iter (fun w:Int×Int=>tT r b w.1 w.2) (bU,ah)=some q∧q=V r / V b:=by
  refine jA (eK:=fun w:Int×Int=>0≤w.1∧w.1≤V r / V b∧V r / V b≤w.2∧w.2≤999999999) (m:=fun w:Int×Int=>(w.2-w.1).toNat) _ ?_ _ ⟨h0,h1,o,ae⟩
  rintro ⟨l,h⟩ ⟨g0,g1,g2,g3⟩
  simp only at g0 g1 g2 g3
  by_cases dE:l<h
  ·have e1:R ((R ((R (l+h))+(1:Int))).tdiv (2:Int))=(l+h+1) / 2:=by
    rw [cE (x:=l+h) (by omega) (by omega),cE (x:=l+h+1) (by omega) (by omega),m4 (by omega),cE (by omega) (by omega)]
   have nF:0≤(l+h+1) / 2:=by omega
   have ph:(l+h+1) / 2<1000000000:=by omega
   have RW:(L ((l+h+1) / 2)).length≤1:=(jb nF).2 (by simpa [B] using ph)
   have aE:tT r b l h=some (.inl (if V b*((l+h+1) / 2)≤V r then ((l+h+1) / 2,h) else (l,(l+h+1) / 2-1))):=by
    unfold tT
    rw [if_pos (by simp [dE]),e1,xS nF (by omega)]
    simp only [Option.bind_eq_bind,Option.bind_some]
    rw [mul_eq aR.1 (hb _) hm (by omega),eo nF]
    simp only [Option.bind_some]
    have ai:0≤V b*((l+h+1) / 2):=Int.mul_nonneg (by omega) nF
    have hlen:(L (V b*((l+h+1) / 2))).length≤b.length+1:=(jb ai).2 (by
     rw [l8]
     have aA:=nc aR.1
     have:V b*((l+h+1) / 2)≤V b*1000000000:=Int.mul_le_mul_of_nonneg_left (by omega) (by omega)
     omega)
    rw [sd (jr _) ao (by omega),eo ai]
    simp only [Option.bind_some]
    by_cases bf:V b*((l+h+1) / 2)≤V r
    ·rw [if_pos (by simpa using Qt.2 bf),if_pos bf]
    ·rw [if_neg (fun h=>bf (Qt.1 (by simpa using h))),if_neg bf,cE (by omega) (by omega)]
   rw [aE]
   refine .inl ⟨_,rfl,?_⟩
   by_cases bf:V b*((l+h+1) / 2)≤V r
   ·rw [if_pos bf]
    have:(l+h+1) / 2≤V r / V b:=(Int.le_ediv_iff_mul_le jJ).2 (by rw [Int.mul_comm];exact bf)
    exact ⟨⟨by simp only;omega,this,g2,g3⟩,by simp only;omega⟩
   ·rw [if_neg bf]
    have:V r / V b<(l+h+1) / 2:=(Int.ediv_lt_iff_lt_mul jJ).2 (by rw [Int.mul_comm];omega)
    exact ⟨⟨g0,g1,by simp only;omega,by simp only;omega⟩,by simp only;omega⟩
  ·exact .inr ⟨l,by simp [tT,dE],by omega⟩
 obtain ⟨q,a7,rfl⟩:=this
 exact a7
theorem Eg {b:List Int}(aR:fL b)(lj:b≠[]): ∃k d,b.length=k+1∧b[k]? = some d∧0<d∧d<1000000000∧V (b.drop k)=d:=by
 have ai:=List.length_pos_iff.mpr lj
 obtain ⟨x,U,h⟩:=O6 lj
 have h1:=h.1 aR
 have o:=h1.1.get U
 exact ⟨b.length-1,x,by omega,U,by omega,o.2,Ax U (by omega)⟩
theorem aaH {r b:List Int}(ao:fL r)(aR:fL b)(lj:b≠[])(a3:r.length≤1000000)(hm:b.length≤1000000)(h1:V b≤V r)(o:V r<1000000000*V b):zP r b=some (V r / V b):=by
 obtain ⟨k,d,a6,bE,sC,EY,yT⟩:=Eg aR lj
 have RO:b.length≤r.length:=Nat.le_of_not_lt fun h=>by
  have:=D1 ao aR h
  omega
 have RP:r.length≤b.length+1:=ao.len.2 (by
  have:=nc aR.1
  rw [l8]
  omega)
 have tt:=rs aR.1 (k:=k) (by omega)
 rw [yT] at tt
 have h3:=rs ao.1 (k:=k) (by omega)
 have U:=List.getElem?_eq_getElem (show k<r.length by omega)
 have kv:=ao.1.get U
 have hw:R ((b.length:Int)-1)=(k:Int):=by rw [cE (by omega) (by omega)];omega
 have mx:=mG (ao.1.drop k)
 have EZ:=Ol (oA k) h3.1 h3.2 tt.1 tt.2 sC mx o
 have agj:=mG ao.1
 have hW:=tf aR lj
 unfold zP
 simp only [f9,hw]
 rw [if_pos (by omega),Int.toNat_natCast,U]
 simp only [Option.bind_eq_bind,Option.bind_some]
 by_cases hlen:b.length<r.length
 ·have aW:=List.getElem?_eq_getElem hlen
  have oW:=ao.1.get aW
  have nH:V (r.drop (k+1))=r[b.length]:=by
   rw [← a6]
   exact Ax aW (by omega)
  have cf:V (r.drop k)=r[k]+1000000000*r[b.length]:=by rw [ol U,nH]
  rw [cf] at EZ mx
  have lT:0≤(r[k]+1000000000*r[b.length]) / (d+1):=Int.ediv_nonneg mx (by omega)
  have n4:(r[k]+1000000000*r[b.length]) / (d+1)≤r[k]+1000000000*r[b.length]:=Int.ediv_le_self _ mx
  have ys:0≤(r[k]+1000000000*r[b.length]) / d:=Int.ediv_nonneg mx (by omega)
  have adZ:(r[k]+1000000000*r[b.length]) / d≤r[k]+1000000000*r[b.length]:=Int.ediv_le_self _ mx
  rw [if_pos (by simp;omega),if_pos (by omega),Int.toNat_natCast,aW]
  simp only [Option.bind_some]
  rw [if_pos (by omega),bE]
  simp only [Option.bind_some]
  have e1:R (d+1)=d+1:=cE (by omega) (by omega)
  have aE:R (r[k]+R (r[b.length]*1000000000))=r[k]+1000000000*r[b.length]:=by
   rw [cE (x:=r[b.length]*1000000000) (by omega) (by omega),cE (by omega) (by omega),Int.mul_comm]
  rw [e1,if_pos (by omega),if_pos (by omega),aE,m4 mx,m4 mx,cE (by omega) (by omega),cE (x:=(r[k]+1000000000*r[b.length]) / d) (by omega) (by omega)]
  rw [O7 ao aR lj a3 hm lT EZ.1 (by split<;>omega) (by split<;>omega)]
  rfl
 ·have cf:V (r.drop k)=r[k]:=Ax U (by omega)
  rw [cf] at EZ mx
  have lT:0≤r[k] / (d+1):=Int.ediv_nonneg mx (by omega)
  have n4:r[k] / (d+1)≤r[k]:=Int.ediv_le_self _ mx
  have ys:0≤r[k] / d:=Int.ediv_nonneg mx (by omega)
  have adZ:r[k] / d≤r[k]:=Int.ediv_le_self _ mx
  rw [if_neg (by simp;omega),if_pos (by omega),bE]
  simp only [Option.bind_some]
  have e1:R (d+1)=d+1:=cE (by omega) (by omega)
  rw [e1,if_pos (by omega),if_pos (by omega),m4 mx,m4 mx,cE (by omega) (by omega),cE (x:=r[k] / d) (by omega) (by omega)]
  rw [O7 ao aR lj a3 hm lT EZ.1 (by split<;>omega) (by split<;>omega)]
  rfl
theorem aaI {a b:List Int}(bF:fL a)(aR:fL b)(lj:b≠[])(a3:a.length≤900000)(hm:b.length≤900000):
 ∃r,Jt a b [] ((a.length:Int)-1) (List.replicate a.length 0)=some r∧r.1=L (V a % V b)∧cA r.2∧r.2.length=a.length∧V r.2=V a / V b:=by
 have jJ:=tf aR lj
 refine jA (eK:=fun w:List Int×Int×List Int=> ∃(k:Nat) (q:List Int),w.2.1=(k:Int)-1∧k≤a.length∧w.2.2=List.replicate k 0++q∧q.length+k=a.length∧cA q∧fL w.1∧V w.1<V b∧V (a.drop k)=V q*V b+V w.1) (m:=fun w:List Int×Int×List Int=>(w.2.1+1).toNat) _ ?_ _ ⟨a.length,[],rfl,by omega,by simp,by simp,cA.nil,fL.nil,by simpa [V] using jJ,by simp [V]⟩
 rintro ⟨rest,i,row⟩ ⟨k,q,h1,a6,o,a7,pL,lh,h3,bh⟩
 simp only at h1 o lh h3 bh ⊢
 subst h1 o
 have Ce:=mG lh.1
 cases k with
 | zero =>
  simp at bh
  refine .inr ⟨(rest,q),by simp [w6],?_,pL,by simpa using a7,?_⟩
  ·refine tj lh ?_
   rw [bh,Int.add_comm,Int.add_mul_emod_self_right]
   exact (Int.emod_eq_of_lt Ce h3).symm
  ·rw [bh,Int.add_comm,Int.add_mul_ediv_right _ _ (by omega),Int.ediv_eq_zero_of_lt Ce h3]
   simp
 | succ k =>
  have U:=List.getElem?_eq_getElem (show k<a.length by omega)
  have kv:=bF.1.get U
  have vr:rest.length≤b.length:=lh.len.2 (by have:=nc aR.1;omega)
  have iB:cA (a[k]::rest):=cA.cons kv lh.1
  have L5:V (a[k]::rest)=a[k]+1000000000*V rest:=k9 _ _
  have oX:0≤a[k]+1000000000*V rest:=by omega
  have agk:(L (a[k]+1000000000*V rest)).length≤b.length+1:=(jb oX).2 (by
   have:=nc aR.1
   rw [l8]
   omega)
  have bE:=ol U
  have K5:w6 a b rest (k:Int) (List.replicate (k+1) 0++q)=some (.inl (if a[k]+1000000000*V rest<V b then (L (a[k]+1000000000*V rest),(k:Int)-1,List.replicate (k+1) 0++q) else (L ((a[k]+1000000000*V rest) % V b),(k:Int)-1,(List.replicate (k+1) 0++q).set k ((a[k]+1000000000*V rest) / V b)))):=by
   unfold w6
   rw [if_pos (by simp),if_pos (by omega),Int.toNat_natCast,U]
   simp only [Option.bind_eq_bind,Option.bind_some,List.singleton_append]
   rw [if_pos (by simp;omega),rr iB (by simp;omega),L5]
   simp only [Option.bind_some]
   rw [sd (jr _) aR (by omega),eo oX]
   simp only [Option.bind_some]
   by_cases bf:a[k]+1000000000*V rest<V b
   ·rw [if_pos (by simpa using s8.2 bf),if_pos bf,qh (by omega)]
   ·rw [if_neg (fun h=>bf (s8.1 (by simpa using h))),if_neg bf]
    have dE:a[k]+1000000000*V rest<1000000000*V b:=by omega
    rw [aaH (jr _) aR lj (by omega) (by omega) (by rw [eo oX];omega) (by rw [eo oX];exact dE),eo oX]
    simp only [Option.bind_some]
    have lT:0≤(a[k]+1000000000*V rest) / V b:=Int.ediv_nonneg oX (by omega)
    have n4:(a[k]+1000000000*V rest) / V b<1000000000:=Int.ediv_lt_of_lt_mul jJ dE
    have agl:(L ((a[k]+1000000000*V rest) / V b)).length≤1:=(jb lT).2 (by simpa [B] using n4)
    have ph:=Int.mul_ediv_add_emod (a[k]+1000000000*V rest) (V b)
    have Cf:=Int.emod_nonneg (a[k]+1000000000*V rest) (b:=V b) (by omega)
    have Cg:0≤V b*((a[k]+1000000000*V rest) / V b):=Int.mul_nonneg (by omega) lT
    rw [if_pos (by simp;omega),if_pos (by simp;omega),xS lT (by omega)]
    simp only [Option.bind_some]
    rw [mul_eq aR.1 (hb _) (by omega) (by omega),eo lT]
    simp only [Option.bind_some]
    rw [sub_eq (hb _) (hb _) ((jb Cg).2 (by
     have:=nc (hb (a[k]+1000000000*V rest))
     rw [eo oX] at this
     omega)) (by rw [eo oX,eo Cg];omega) (by omega),eo oX,eo Cg]
    simp only [Option.bind_some]
    rw [qh (by omega),Nat.zero_add]
    congr 4
    omega
  rw [show ((k+1:Nat):Int)-1=k by omega,K5]
  refine .inl ⟨_,rfl,?_⟩
  by_cases bf:a[k]+1000000000*V rest<V b
  ·rw [if_pos bf]
   refine ⟨⟨k,0::q,rfl,by omega,?_,by simp;omega,cA.cons (by omega) pL,jr _,by rw [eo oX];exact bf,?_⟩,by simp⟩
   ·simp only
    rw [List.replicate_succ',List.append_assoc];rfl
   ·simp only
    rw [bE,bh,k9,eo oX]
    grind
  ·rw [if_neg bf]
   have dE:a[k]+1000000000*V rest<1000000000*V b:=by omega
   have Cf:=Int.emod_nonneg (a[k]+1000000000*V rest) (b:=V b) (by omega)
   refine ⟨⟨k,(a[k]+1000000000*V rest) / V b::q,rfl,by omega,KA _ _ _,by simp;omega,cA.cons ⟨Int.ediv_nonneg oX (by omega),Int.ediv_lt_of_lt_mul jJ dE⟩ pL,jr _,by rw [eo Cf];exact Int.emod_lt_of_pos _ jJ,?_⟩,by simp⟩
   simp only
   rw [bE,bh,k9,eo Cf]
   have ph:=Int.mul_ediv_add_emod (a[k]+1000000000*V rest) (V b)
   generalize (a[k]+1000000000*V rest) / V b=u at *
   generalize (a[k]+1000000000*V rest) % V b=t at *
   grind
theorem div_eq {a b:List Int}(bF:fL a)(aR:fL b)(lj:b≠[])(a3:a.length≤900000)(hm:b.length≤900000):sW a b=some (L (V a / V b),L (V a % V b)):=by
 unfold sW
 simp only [f9]
 by_cases h1:b.length=1
 ·obtain ⟨k,d,a6,bE,sC,EY,yT⟩:=Eg aR lj
  have sB:k=0:=by omega
  subst sB
  have L8:V b=d:=by simpa using yT
  rw [if_pos (by simp [h1]),if_pos (by omega),bE]
  simp only [Option.bind_eq_bind,Option.bind_some]
  have ph:=Int.emod_nonneg (V a) (b:=d) (by omega)
  have Cf:=Int.emod_lt_of_pos (V a) sC
  rw [aaE bF.1 ⟨sC,EY⟩ (by omega)]
  simp only [Option.bind_some]
  rw [xS ph (by omega),L8]
  rfl
 ·obtain ⟨r,ao,e1,aE,bT,de⟩:=aaI bF aR lj a3 hm
  rw [if_neg (by simp;omega),if_pos (by omega),qh (by omega),Int.toNat_natCast,ao]
  simp only [Option.bind_eq_bind,Option.bind_some]
  rw [rr aE (by omega),de,e1]
  rfl
theorem PV {x y:Int}(U:0≤x):Int.gcd y (x % y)=Int.gcd x y:=by
 have:=Nat.gcd_rec y.natAbs x.natAbs
 simp only [Int.gcd]
 rw [Nat.gcd_comm x.natAbs,this,Int.natAbs_emod_of_nonneg U,Nat.gcd_comm]
theorem Qu {x:Int}(U:0≤x):(Int.gcd x 0:Int)=x:=by
 rw [Int.gcd_zero_right];omega
theorem aaJ {x y:Int}(U:0≤x)(aW:0≤y)(Ch:x<9223372036854775808)(Cc:y<9223372036854775808):zN x y=some (L (Int.gcd x y)):=by
 have : ∃r,iter (fun w:Int×Int=>wK w.1 w.2) (x,y)=some r∧(r=(Int.gcd x y:Int)∧r<9223372036854775808):=by
  refine jA (eK:=fun w:Int×Int=>0≤w.1∧0≤w.2∧w.1<9223372036854775808∧w.2<9223372036854775808∧Int.gcd w.1 w.2=Int.gcd x y) (m:=fun w:Int×Int=>w.2.toNat) _ ?_ _ ⟨U,aW,Ch,Cc,rfl⟩
  rintro ⟨u,v⟩ ⟨h1,o,ae,au,aA⟩
  simp only at h1 o ae au aA
  by_cases bh:0<v
  ·have a2:=Int.emod_nonneg u (b:=v) (by omega)
   have bd:=Int.emod_lt_of_pos u bh
   refine .inl ⟨(v,u % v),?_,⟨o,a2,au,by simp only;omega,by rw [← aA];exact PV h1⟩,by simp only;omega⟩
   unfold wK
   rw [if_pos (by simpa using bh),if_pos (by omega),pQ h1]
  ·have Si:v=0:=by omega
   subst Si
   refine .inr ⟨u,by simp [wK],?_,ae⟩
   rw [← aA,Qu h1]
 obtain ⟨r,ao,rfl,h⟩:=this
 unfold zN IY
 rw [ao]
 simp only [Option.bind_eq_bind,Option.bind_some]
 rw [xS (by omega) h]
 rfl
theorem Eh {a:List Int}(bF:fL a)(h:a.length<3):V a<9223372036854775808:=by
 have h1:=nc bF.1
 have o:=qP (m:=a.length) (n:=2) (by omega)
 have ae:B 2=1000000000000000000:=by decide
 omega
theorem QW {a b:List Int}(bF:fL a)(aR:fL b)(a3:a.length≤900000)(hm:b.length≤900000):xD a b=some (L (Int.gcd (V a) (V b))):=by
 have : ∃r,iter (fun w:List Int×List Int=>tZ w.1 w.2) (a,b)=some r∧r.elim id id=L (Int.gcd (V a) (V b)):=by
  refine jA (eK:=fun w:List Int×List Int=>fL w.1∧fL w.2∧w.1.length≤900000∧w.2.length≤900000∧Int.gcd (V w.1) (V w.2)=Int.gcd (V a) (V b)) (m:=fun w:List Int×List Int=>(V w.2).toNat) _ ?_ _ ⟨bF,aR,a3,hm,rfl⟩
  rintro ⟨x,y⟩ ⟨h1,o,ae,au,aA⟩
  simp only at h1 o ae au aA ⊢
  have kv:=mG h1.1
  have oW:=mG o.1
  by_cases aW:y=[]
  ·subst aW
   refine .inr ⟨.inl x,by simp [tZ,f9],?_⟩
   rw [← aA,A8,Qu kv]
   exact (EQ h1).symm
  ·have ad0:=tf o aW
   have agm:=List.length_pos_iff.mpr aW
   by_cases bS:x.length<3∧y.length<3
   ·refine .inr ⟨.inr (L (Int.gcd (V a) (V b))),?_,rfl⟩
    unfold tZ
    simp only [f9]
    rw [if_pos (by simp;omega),if_pos (by simp;omega),if_pos (by simp;omega),OG h1 (by omega) (Eh h1 bS.1)]
    simp only [Option.bind_eq_bind,Option.bind_some]
    rw [OG o (by omega) (Eh o bS.2)]
    simp only [Option.bind_some]
    rw [aaJ kv oW (Eh h1 bS.1) (Eh o bS.2),aA]
    rfl
   ·have E0:=Int.emod_nonneg (V x) (b:=V y) (by omega)
    have agn:=Int.emod_lt_of_pos (V x) ad0
    refine .inl ⟨(y,L (V x % V y)),?_,⟨o,jr _,au,(jb E0).2 ?_,?_⟩,?_⟩
    ·unfold tZ
     simp only [f9]
     rw [if_pos (by simp;omega),div_eq h1 o aW ae au]
     by_cases vt:x.length<3
     ·rw [if_pos (by simp;omega),if_neg (by simp;omega)]
      rfl
     ·rw [if_neg (by simp;omega)]
      rfl
    ·have:=nc o.1
     have:=qP au
     omega
    ·simp only
     rw [eo E0,← aA]
     exact PV kv
    ·simp only
     rw [eo E0]
     omega
 obtain ⟨r,ao,h⟩:=this
 unfold xD Ju
 rw [List.nil_append,List.nil_append,if_pos (by omega),if_pos (by omega),ao]
 cases r with
 | inl r=>exact congrArg some h
 | inr r=>exact congrArg some h
def oO (p:Nat)(l:List Int):Prop:= ∀i z,i≠p→l[i]? = some z→0≤z∧z<1000000000
theorem oO.set {p:Nat}{l:List Int}(h:oO p l){k:Nat}{x:Int}(U:0≤x∧x<1000000000):oO p (l.set k x):=fun i z ah cC=>by
 by_cases a6:k=i
 ·subst a6
  rw [List.getElem?_set] at cC
  simp only [if_true] at cC
  split at cC
  ·rw [← Option.some.inj cC];exact U
  ·simp at cC
 ·rw [List.getElem?_set_ne a6] at cC
  exact h i z ah cC
theorem oO.RC {p:Nat}{l:List Int}(h:oO p l){x:Int}:oO p (l.set p x):=fun i z ah cC=>by
 rw [List.getElem?_set_ne (fun h=>ah h.symm)] at cC
 exact h i z ah cC
theorem cA.toE {l:List Int}(h:cA l)(p:Nat):oO p l:=fun _ _ _ cC=>h.get cC
theorem ZK {v row:List Int}{bU mN i:Nat}{i3 carry x y:Int}(U:v[i]? = some x)(aW:row[bU+i]? = some y)(kv:0≤x∧x<1000000000)(oW:0≤y∧y<1000000000)(aR:0≤i3∧i3<1000000000)(bf:0≤carry∧carry<1000000000)(hu:i<mN)(a3:row.length≤5000000):
 ∃c z,t0 bU mN v i3 v.length carry i row=some (.inl (c,((i+1:Nat):Int),row.set (bU+i) z))∧0≤c∧c<1000000000∧0≤z∧z<1000000000∧z-1000000000*c=y-i3*x-carry:=by
 have ah:=fE U
 have aC:=fE aW
 obtain ⟨ir,hh⟩:=AV aR kv
 have e:R (R (y-R (i3*x))-carry)=y-i3*x-carry:=by
  rw [cE (x:=i3*x) (by omega) (by omega),cE (x:=y-i3*x) (by omega) (by omega),cE (by omega) (by omega)]
 by_cases cf:y-i3*x-carry<0
 ·refine ⟨(999999999-(y-i3*x-carry)) / 1000000000,y-i3*x-carry+(999999999-(y-i3*x-carry)) / 1000000000*1000000000,?_,by omega,by omega,by omega,by omega,by omega⟩
  unfold t0
  rw [if_pos (by simp;omega),if_pos (by omega),Int.toNat_natCast,U]
  simp only [Option.bind_eq_bind,Option.bind_some]
  rw [if_pos (by omega),aW]
  simp only [Option.bind_some,e]
  rw [if_pos (by simpa using cf),if_pos (by omega),nw (n:=i) (by omega),cE (x:=999999999-(y-i3*x-carry)) (by omega) (by omega),m4 (by omega),cE (x:=(999999999-(y-i3*x-carry)) / 1000000000) (by omega) (by omega),cE (x:=(999999999-(y-i3*x-carry)) / 1000000000*1000000000) (by omega) (by omega),cE (by omega) (by omega)]
 ·refine ⟨0,y-i3*x-carry,?_,by omega,by omega,by omega,by omega,by omega⟩
  unfold t0
  rw [if_pos (by simp;omega),if_pos (by omega),Int.toNat_natCast,U]
  simp only [Option.bind_eq_bind,Option.bind_some]
  rw [if_pos (by omega),aW]
  simp only [Option.bind_some,e]
  rw [if_neg (by simpa using cf),if_pos (by omega),nw (n:=i) (by omega)]
theorem ZL {v row:List Int}{bU mN:Nat}{i3:Int}(bh:cA v)(ao:cA row)(aR:0≤i3∧i3<1000000000)(hu:v.length<mN)(aT:bU+v.length<row.length)(a3:row.length≤5000000):
 ∃r,Jw bU mN v i3 v.length 0 0 row=some r∧0≤r.1∧r.1<1000000000∧cA r.2∧r.2.length=row.length∧V r.2=V row-i3*B bU*V v+r.1*B (bU+v.length)∧ ∀i,i<bU∨bU+v.length≤i→r.2[i]? = row[i]? := by
 refine jA (eK:=fun w:Int×Int×List Int=> ∃(i:Nat),w.2.1=(i:Int)∧i≤v.length∧0≤w.1∧w.1<1000000000∧cA w.2.2∧w.2.2.length=row.length∧V w.2.2=V row-i3*B bU*V (v.take i)+w.1*B (bU+i)∧ ∀i,i<bU∨bU+v.length≤i→w.2.2[i]? = row[i]?) (m:=fun w:Int×Int×List Int=>v.length-w.2.1.toNat) _ ?_ _ ⟨0,rfl,by omega,by simp,by simp,ao,rfl,by simp [V],fun _ _=>rfl⟩
 rintro ⟨carry,ii,fG⟩ ⟨i,h1,ah,mr,mU,km,hlen,hV,lc⟩
 simp only at h1 mr mU km hlen hV lc ⊢
 subst h1
 by_cases L9:i=v.length
 ·subst L9
  exact .inr ⟨(carry,fG),by simp [t0],mr,mU,km,hlen,by simpa using hV,lc⟩
 ·have U:=List.getElem?_eq_getElem (show i<v.length by omega)
  have aW:=List.getElem?_eq_getElem (show bU+i<fG.length by omega)
  obtain ⟨c,z,he,dM,bx,fK,Cz,cC⟩:=ZK (mN:=mN) U aW (bh.get U) (km.get aW) aR ⟨mr,mU⟩ (by omega) (by omega)
  rw [he]
  refine .inl ⟨_,rfl,⟨i+1,rfl,by omega,dM,bx,km.set ⟨fK,Cz⟩,by simpa using hlen,?_,fun k a6=> ?_⟩,by simp;omega⟩
  ·simp only
   rw [rG aW,sa U,hV,← Nat.add_assoc,l8,A7]
   have va:z=fG[bU+i]-i3*v[i]-carry+1000000000*c:=by omega
   rw [va]
   grind
  ·simp only
   rw [List.getElem?_set_ne (by omega)]
   exact lc k a6
theorem abS {v row:List Int}{bU mN:Nat}{i3:Int}(bh:cA v)(ao:cA row)(aR:0≤i3∧i3<1000000000)(hu:v.length<mN)(aT:bU+v.length<row.length)(a3:row.length≤5000000):
 ∃y d5,Ae v i3 bU mN row=some (decide (y<0),d5)∧d5.length=row.length∧oO (bU+v.length) d5∧d5[bU+v.length]? = some y∧ -1000000000<y∧y<1000000000∧V d5=V row-i3*B bU*V v∧ ∀i,i<bU∨bU+v.length<i→d5[i]? = row[i]? := by
 obtain ⟨r,h3,dM,bx,km,hlen,hV,lc⟩:=ZL bh ao aR hu aT a3
 have U:=List.getElem?_eq_getElem (show bU+v.length<r.2.length by omega)
 have kv:=km.get U
 refine ⟨r.2[bU+v.length]-r.1,r.2.set (bU+v.length) (r.2[bU+v.length]-r.1),?_,by simpa using hlen,(cA.toE km _).RC,?_,by omega,by omega,?_,fun i ah=> ?_⟩
 ·unfold Ae
  simp only [f9]
  rw [h3]
  simp only [Option.bind_eq_bind,Option.bind_some,Int.toNat_natCast]
  rw [if_pos (by omega),U]
  simp only [Option.bind_some]
  rw [if_pos (by omega),cE (by omega) (by omega),List.getElem?_set,if_pos rfl,if_pos (by omega)]
  rfl
 ·rw [List.getElem?_set,if_pos rfl,if_pos (by omega)]
 ·rw [rG U,hV]
  grind
 ·rw [List.getElem?_set_ne (by omega)]
  exact lc i (by omega)
theorem ZM {v row:List Int}{bU mN:Nat}(bh:cA v)(ao:oO (bU+v.length) row)(hu:v.length<mN)(aT:bU+v.length<row.length)(a3:row.length≤5000000):
 ∃r,Jx bU mN v v.length 0 0 row=some r∧0≤r.1∧r.1≤1∧oO (bU+v.length) r.2∧r.2.length=row.length∧V r.2=V row+B bU*V v-r.1*B (bU+v.length)∧ ∀i,i<bU∨bU+v.length≤i→r.2[i]? = row[i]? := by
 refine jA (eK:=fun w:Int×Int×List Int=> ∃(i:Nat),w.2.1=(i:Int)∧i≤v.length∧0≤w.1∧w.1≤1∧oO (bU+v.length) w.2.2∧w.2.2.length=row.length∧V w.2.2=V row+B bU*V (v.take i)-w.1*B (bU+i)∧ ∀i,i<bU∨bU+v.length≤i→w.2.2[i]? = row[i]?) (m:=fun w:Int×Int×List Int=>v.length-w.2.1.toNat) _ ?_ _ ⟨0,rfl,by omega,by simp,by simp,ao,rfl,by simp [V],fun _ _=>rfl⟩
 rintro ⟨carry,ii,fG⟩ ⟨i,h1,ah,mr,mU,km,hlen,hV,lc⟩
 simp only at h1 mr mU km hlen hV lc ⊢
 subst h1
 by_cases L9:i=v.length
 ·subst L9
  exact .inr ⟨(carry,fG),by simp [w8],mr,mU,km,hlen,by simpa using hV,lc⟩
 ·have U:=List.getElem?_eq_getElem (show i<v.length by omega)
  have aW:=List.getElem?_eq_getElem (show bU+i<fG.length by omega)
  have kv:=bh.get U
  have oW:=km _ _ (by omega) aW
  have he:w8 bU mN v v.length carry i fG=some (.inl ((fG[bU+i]+v[i]+carry) / 1000000000,((i+1:Nat):Int),fG.set (bU+i) ((fG[bU+i]+v[i]+carry) % 1000000000))):=by
   unfold w8
   rw [if_pos (by simp;omega),if_pos (by omega),Int.toNat_natCast,U]
   simp only [Option.bind_eq_bind,Option.bind_some]
   rw [if_pos (by omega),aW]
   simp only [Option.bind_some]
   rw [if_pos (by omega),cE (x:=fG[bU+i]+v[i]) (by omega) (by omega),cE (x:=fG[bU+i]+v[i]+carry) (by omega) (by omega),pQ (by omega),m4 (by omega),cE (by omega) (by omega),nw (n:=i) (by omega)]
  rw [he]
  refine .inl ⟨_,rfl,⟨i+1,rfl,by omega,by simp only;omega,by simp only;omega,km.set (by omega),by simpa using hlen,?_,fun k a6=> ?_⟩,by simp;omega⟩
  ·simp only
   rw [rG aW,sa U,hV,← Nat.add_assoc,l8,A7]
   have:=Int.mul_ediv_add_emod (fG[bU+i]+v[i]+carry) 1000000000
   generalize (fG[bU+i]+v[i]+carry) / 1000000000=q at *
   generalize (fG[bU+i]+v[i]+carry) % 1000000000=t at *
   have va:t=fG[bU+i]+v[i]+carry-1000000000*q:=by omega
   rw [va]
   grind
  ·simp only
   rw [List.getElem?_set_ne (by omega)]
   exact lc k a6
theorem abT {v row:List Int}{bU mN:Nat}{y:Int}(bh:cA v)(ao:oO (bU+v.length) row)(hu:v.length<mN)(aT:bU+v.length<row.length)(a3:row.length≤5000000)(aW:row[bU+v.length]? = some y)(oW:-1000000000<y)(Cc:y<1000000000):
 ∃lY d5,xE v bU mN row=some d5∧d5.length=row.length∧oO (bU+v.length) d5∧d5[bU+v.length]? = some lY∧V d5=V row+B bU*V v∧ ∀i,i<bU∨bU+v.length<i→d5[i]? = row[i]? := by
 obtain ⟨r,h3,dM,bx,km,hlen,hV,lc⟩:=ZM bh ao hu aT a3
 have U:r.2[bU+v.length]? = some y:=by rw [lc _ (by omega)];exact aW
 refine ⟨y+r.1,r.2.set (bU+v.length) (y+r.1),?_,by simpa using hlen,km.RC,?_,?_,fun i ah=> ?_⟩
 ·unfold xE
  simp only [f9]
  rw [h3]
  simp only [Option.bind_eq_bind,Option.bind_some,Int.toNat_natCast]
  rw [if_pos (by omega),U]
  simp only [Option.bind_some]
  rw [if_pos (by omega),cE (by omega) (by omega)]
 ·rw [List.getElem?_set,if_pos rfl,if_pos (by omega)]
 ·rw [rG U,hV]
  grind
 ·rw [List.getElem?_set_ne (by omega)]
  exact lc i (by omega)
theorem aaK {g q v1 v2 top gP rest aX W P:Int}(hj:1≤P)(dt:0≤g)(cf:g*v1+rest=top)(tA:P*(v1*1000000000+v2)≤W)(L6:aX<P*(top*1000000000+gP+1))(Sp:q*W≤aX)(hW:0≤W)(h:rest*1000000000+gP<g*v2):q<g:=by
 apply Int.not_le.mp
 intro tB
 have h1:g*W≤q*W:=Int.mul_le_mul_of_nonneg_right tB hW
 have o:g*(P*(v1*1000000000+v2))≤g*W:=Int.mul_le_mul_of_nonneg_left tA dt
 have ae:g*(P*(v1*1000000000+v2))=P*(g*(v1*1000000000+v2)):=by grind
 have au:P*(g*(v1*1000000000+v2))<P*(top*1000000000+gP+1):=by omega
 have aA:=Int.lt_of_mul_lt_mul_left au (by omega)
 have a2:g*(v1*1000000000+v2)=1000000000*(g*v1)+g*v2:=by grind
 omega
theorem Pu {g v1 v2 top gP rest aX W P:Int}(hj:1≤P)(dt:0≤g)(tC:g≤999999999)(sG:1≤v1)(Ci:0≤v2)(cf:g*v1+rest=top)(tA:P*(v1*1000000000+v2)≤W)(EX:W<P*(v1*1000000000+v2+1))(EW:P*(top*1000000000+gP)≤aX)(h:g*v2≤rest*1000000000+gP):g≤aX / W+1:=by
 have Cj:P*1000000000≤W:=by
  have h1:P*1000000000≤P*(v1*1000000000+v2):=Int.mul_le_mul_of_nonneg_left (by omega) (by omega)
  omega
 have h1:g*W≤g*(P*(v1*1000000000+v2+1)):=Int.mul_le_mul_of_nonneg_left (by omega) dt
 have o:g*(P*(v1*1000000000+v2+1))=P*(1000000000*(g*v1)+g*v2+g):=by grind
 have ae:P*(1000000000*(g*v1)+g*v2+g)≤P*(top*1000000000+gP+999999999):=Int.mul_le_mul_of_nonneg_left (by omega) (by omega)
 have au:P*(top*1000000000+gP+999999999)=P*(top*1000000000+gP)+P*999999999:=by grind
 have aA:(g-1)*W=g*W-W:=by grind
 have:g-1≤aX / W:=(Int.le_ediv_iff_mul_le (by omega)).2 (by omega)
 omega
theorem Y8 {ad u iJ al:List Int}{N n j:Nat}{v1 v2 gP top aX W P:Int}(a3:2≤n)(EE:n≤5000000)(Ck:j+n<N)(fT:N≤5000000)(h1:iJ[n-1]? = some v1)(o:iJ[n-2]? = some v2)(ae:u[j+n-2]? = some gP)
 (sG:1≤v1∧v1<1000000000) (Ci:0≤v2∧v2<1000000000) (ago:0≤gP∧gP<1000000000) (hj:1≤P) (tA:P*(v1*1000000000+v2)≤W) (EX:W<P*(v1*1000000000+v2+1)) (EW:P*(top*1000000000+gP)≤aX) (L6:aX<P*(top*1000000000+gP+1)) (cZ:0≤aX) (L7:aX<1000000000*W) (mx:0≤top) (agp:top≤v1*1000000000+999999999) (a7:aX / W≤top / v1) :
 ∃g,JL N n n j ad u iJ al (top / v1) (top % v1)=some g∧(aX / W=g∨aX / W+1=g)∧0≤g∧g≤999999999:=by
 have Cj:0<W:=by
  have h1:P*1000000000≤P*(v1*1000000000+v2):=Int.mul_le_mul_of_nonneg_left (by omega) (by omega)
  omega
 have lT:0≤aX / W:=Int.ediv_nonneg cZ (by omega)
 have n4:aX / W<1000000000:=Int.ediv_lt_of_lt_mul Cj L7
 have Sp:aX / W*W≤aX:=Int.ediv_mul_le _ (by omega)
 have ad2:=Int.mul_ediv_add_emod top v1
 have nF:=Int.emod_nonneg top (b:=v1) (by omega)
 have ph:=Int.emod_lt_of_pos top (b:=v1) (by omega)
 have Ll:R ((n:Int)-1)=((n-1:Nat):Int):=by rw [cE (by omega) (by omega)];omega
 have acT:R ((n:Int)-2)=((n-2:Nat):Int):=by rw [cE (by omega) (by omega)];omega
 have acU:R (R ((j:Int)+(n:Int))-2)=((j+n-2:Nat):Int):=by rw [cE (x:=(j:Int)+n) (by omega) (by omega),cE (by omega) (by omega)];omega
 have Ex:top / v1≤top:=Int.ediv_le_self _ mx
 refine jA (eK:=fun w:Int×Int=>w.1*v1+w.2=top∧0≤w.2∧w.2<1000000000∧aX / W≤w.1∧w.1≤top) (m:=fun w:Int×Int=>w.1.toNat) _ ?_ _ ⟨by rw [Int.mul_comm];exact ad2,nF,by simp only;omega,a7,Ex⟩
 rintro ⟨g,rest⟩ ⟨i1,pk,MA,Ct,aeO⟩
 simp only at i1 pk MA Ct aeO ⊢
 have Ma:R (rest+v1)=rest+v1:=cE (by omega) (by omega)
 have Mb:R (g-1)=g-1:=cE (by omega) (by omega)
 have tC:(g-1)*v1+(rest+v1)=top:=by grind
 have QX:aX / W≤g-1→1000000000≤rest+v1→(aX / W=g-1∨aX / W+1=g-1)∧0≤g-1∧g-1≤999999999:=by
  intro lZ kI
  have oe:(g-1)*v1<1000000000*v1:=by omega
  have MC:g-1<1000000000:=Int.lt_of_mul_lt_mul_right oe (by omega)
  have S6:0≤g-1:=by omega
  have agU:=(AV ⟨S6,MC⟩ Ci).2
  have:=Pu hj S6 (by omega) sG.1 Ci.1 tC tA EX EW (by omega)
  omega
 by_cases Lm:1000000000≤g
 ·by_cases aR:1000000000≤rest+v1
  ·refine .inr ⟨g-1,?_,QX (by omega) aR⟩
   unfold ua
   rw [if_pos (by simpa using Lm),Ll,if_pos (by omega),Nat.zero_add,Int.toNat_natCast,h1]
   simp only [Option.bind_eq_bind,Option.bind_some,Ma,Mb]
   rw [if_pos (by simpa using aR)]
  ·refine .inl ⟨(g-1,rest+v1),?_,⟨tC,by simp only;omega,by simp only;omega,by simp only;omega,by simp only;omega⟩,by simp only;omega⟩
   unfold ua
   rw [if_pos (by simpa using Lm),Ll,if_pos (by omega),Nat.zero_add,Int.toNat_natCast,h1]
   simp only [Option.bind_eq_bind,Option.bind_some,Ma,Mb]
   rw [if_neg (by simpa using aR)]
 ·have jg:0≤g:=by omega
  obtain ⟨ir,hh⟩:=AV ⟨jg,by omega⟩ Ci
  have e1:R (R (rest*1000000000)+gP)=rest*1000000000+gP:=by rw [cE (x:=rest*1000000000) (by omega) (by omega),cE (by omega) (by omega)]
  have aE:R (g*v2)=g*v2:=cE (by omega) (by omega)
  have K5:ua N n n j ad u iJ al g rest=some (if rest*1000000000+gP<g*v2 then (if 1000000000≤rest+v1 then .inr (g-1) else .inl (g-1,rest+v1)) else .inr g):=by
   unfold ua
   rw [if_neg (by simpa using Lm),acT,if_pos (by omega),Nat.zero_add,Int.toNat_natCast,o]
   simp only [Option.bind_eq_bind,Option.bind_some]
   rw [acU,if_pos (by omega),Nat.zero_add,Int.toNat_natCast,ae]
   simp only [Option.bind_some,e1,aE]
   by_cases bf:rest*1000000000+gP<g*v2
   ·rw [if_pos (by simpa using bf),if_pos bf,Ll,if_pos (by omega),Nat.zero_add,Int.toNat_natCast,h1]
    simp only [Option.bind_some,Ma,Mb]
    by_cases aR:1000000000≤rest+v1
    ·rw [if_pos (by simpa using aR),if_pos aR]
    ·rw [if_neg (by simpa using aR),if_neg aR]
   ·rw [if_neg (by simpa using bf),if_neg bf]
  rw [K5]
  by_cases bf:rest*1000000000+gP<g*v2
  ·have agq:=aaK hj jg i1 tA L6 Sp (by omega) bf
   rw [if_pos bf]
   by_cases aR:1000000000≤rest+v1
   ·rw [if_pos aR]
    exact .inr ⟨g-1,rfl,QX (by omega) aR⟩
   ·rw [if_neg aR]
    exact .inl ⟨(g-1,rest+v1),rfl,⟨tC,by simp only;omega,by simp only;omega,by simp only;omega,by simp only;omega⟩,by simp only;omega⟩
  ·rw [if_neg bf]
   have:=Pu hj jg (by omega) sG.1 Ci.1 i1 tA EX EW (by omega)
   exact .inr ⟨g,rfl,by omega,by omega,by omega⟩
theorem ZN {a b:List Int}{k:Nat}(h:∀i,k≤i→a[i]? = b[i]?):a.drop k=b.drop k:=by
 apply List.ext_getElem?
 intro i
 rw [List.getElem?_drop,List.getElem?_drop]
 exact h _ (by omega)
theorem ZO {a b:List Int}{k:Nat}(h:∀i,i<k→a[i]? = b[i]?):a.take k=b.take k:=by
 apply List.ext_getElem?
 intro i
 rw [List.getElem?_take,List.getElem?_take]
 by_cases ah:i<k
 ·rw [if_pos ah,if_pos ah];exact h i ah
 ·rw [if_neg ah,if_neg ah]
theorem Sq {u w:List Int}{j n:Nat}{y c:Int}(hlen:w.length=u.length)(Ck:j+n<u.length)(er:oO (j+n) w)(aW:w[j+n]? = some y)(lc:∀i,i<j∨j+n<i→w[i]? = u[i]?)(h0:V (u.drop (j+n+1))=0)(hV:V w=V u-c*B j):
 V (w.drop j)=V (u.drop j)-c∧ ∃low,0≤low∧low<B n∧V (w.drop j)=low+B n*y:=by
 have h1:=uI (l:=u) (n:=j) (by omega)
 have o:=uI (l:=w) (n:=j) (by omega)
 rw [ZO (a:=w) (b:=u) (fun i ah=>lc i (.inl ah))] at o
 have ae:B j*V (w.drop j)=B j*(V (u.drop j)-c):=by grind
 have gH:=oA j
 have au:V (w.drop j)=V (u.drop j)-c:=Int.eq_of_mul_eq_mul_left (by omega) ae
 refine ⟨au,V ((w.drop j).take n),?_,?_,?_⟩
 ·refine mG (fun x U=> ?_)
  obtain ⟨i,ah⟩:=List.mem_iff_getElem?.mp U
  have lU:=fE ah
  simp at lU
  rw [List.getElem?_take,if_pos (by omega),List.getElem?_drop] at ah
  exact er _ _ (by omega) ah
 ·have aT:cA ((w.drop j).take n):=fun x U=>by
   obtain ⟨i,ah⟩:=List.mem_iff_getElem?.mp U
   have lU:=fE ah
   simp at lU
   rw [List.getElem?_take,if_pos (by omega),List.getElem?_drop] at ah
   exact er _ _ (by omega) ah
  have:=nc aT
  rwa [List.length_take,Nat.min_eq_left (by simp;omega)] at this
 ·have aA:=uI (l:=w.drop j) (n:=n) (by simp;omega)
  rw [List.drop_drop,ol aW,ZN (a:=w) (b:=u) (k:=j+n+1) (fun i ah=>lc i (.inr (by omega))),h0] at aA
  rw [aA]
  grind
theorem Pv {w:List Int}{p:Nat}(er:oO p w)(aW:w[p]? = some 0):cA w:=fun x U=>by
 obtain ⟨i,ah⟩:=List.mem_iff_getElem?.mp U
 by_cases h:i=p
 ·subst h
  rw [aW] at ah
  have:=Option.some.inj ah
  omega
 ·exact er i x h ah
theorem PW {low y X vM W:Int}(h0:0≤low)(h1:low<vM)(Fg:X=low+vM*y)(o:0≤X)(ae:X<W)(au:W≤vM):y=0:=by
 have dE:vM*y<vM*1:=by omega
 have aA:=Int.lt_of_mul_lt_mul_left dE (by omega)
 have EL:vM*(-1)<vM*y:=by omega
 have a2:=Int.lt_of_mul_lt_mul_left EL (by omega)
 omega
theorem ZP {ad u iJ al:List Int}{n j:Nat}{v1 W:Int}(a3:2≤n)(Mc:n≤iJ.length)(bh:cA (iJ.take n))(hW:V (iJ.take n)=W)(sG:iJ[n-1]? = some v1)(Ln:1≤v1)(hu:cA u)(vu:u.length≤5000000)(Ck:j+n<u.length)(dE:V (u.drop (j+1))<W)(agr:j<al.length):
 ∃pO,ub u.length n n ad iJ j u al=some (.inl ((j:Int)-1,pO,al.set j (V (u.drop j) / W)))∧cA pO∧pO.length=u.length∧V pO=V u-(V (u.drop j) / W)*B j*W∧V (pO.drop j)<W∧0≤V (u.drop j) / W∧V (u.drop j) / W<1000000000:=by
 obtain ⟨n,rfl⟩ : ∃m,n=m+2:=⟨n-2,by omega⟩
 have pB:(iJ.take (n+2)).length=n+2:=by simp;omega
 have tC:(iJ.take (n+2))[n+1]? = some v1:=by rw [List.getElem?_take,if_pos (by omega)];exact sG
 have Sr:=List.getElem?_eq_getElem (show n<iJ.length by omega)
 have RD:(iJ.take (n+2))[n]? = some iJ[n]:=by rw [List.getElem?_take,if_pos (by omega)];exact Sr
 have acV:=bh.get tC
 have acW:=bh.get RD
 have kv:=List.getElem?_eq_getElem (show j+(n+2)<u.length by omega)
 have Ch:=List.getElem?_eq_getElem (show j+(n+1)<u.length by omega)
 have BQ:=List.getElem?_eq_getElem (show j+n<u.length by omega)
 have Ss:=List.getElem?_eq_getElem (show j<u.length by omega)
 have lj:=hu.get kv
 have tt:=hu.get Ch
 have LJ:=hu.get BQ
 have ags:=hu.get Ss
 have Cl:=rs bh (k:=n+1) (by omega)
 rw [Ax tC (by omega),hW] at Cl
 have Md:=rs bh (k:=n) (by omega)
 rw [ol RD,Ax tC (by omega),hW] at Md
 have Lo:=nc bh
 rw [pB,hW] at Lo
 have agt:0≤W:=by rw [← hW];exact mG bh
 have cC:=rs (hu.drop (j+1)) (k:=n+2) (by simp;omega)
 rw [List.drop_drop] at cC
 have ad3:=mG (hu.drop (j+1+(n+2)))
 have agu:=oA (n+2)
 have h0:V (u.drop (j+(n+2)+1))=0:=by
  rw [show j+(n+2)+1=j+1+(n+2) by omega]
  apply Int.le_antisymm _ ad3
  apply Int.not_lt.mp
  intro h
  have:B (n+2)*1≤B (n+2)*V (u.drop (j+1+(n+2))):=Int.mul_le_mul_of_nonneg_left (by omega) (by omega)
  omega
 have mx:V (u.drop (j+(n+2)))=u[j+(n+2)]:=by rw [ol kv,h0];omega
 have Ex:V (u.drop (j+(n+1)))=u[j+(n+1)]+1000000000*u[j+(n+2)]:=by rw [ol Ch,show j+(n+1)+1=j+(n+2) by omega,mx]
 have ic:V (u.drop (j+n))=u[j+n]+1000000000*(u[j+(n+1)]+1000000000*u[j+(n+2)]):=by rw [ol BQ,show j+n+1=j+(n+1) by omega,Ex]
 have h3:=rs (hu.drop j) (k:=n+1) (by simp;omega)
 rw [List.drop_drop,Ex] at h3
 have vv:=rs (hu.drop j) (k:=n) (by simp;omega)
 rw [List.drop_drop,ic] at vv
 have oX:=mG (hu.drop j)
 have cZ:V (u.drop j)<1000000000*W:=by rw [ol Ss];omega
 have ad4:=oA n
 have acX:=oA (n+1)
 have u9:u[j+(n+2)]≤v1:=by
  have h1:=rs (hu.drop (j+1)) (k:=n+1) (by simp;omega)
  rw [List.drop_drop,show j+1+(n+1)=j+(n+2) by omega,mx] at h1
  have o:B (n+1)*u[j+(n+2)]<B (n+1)*(v1+1):=by omega
  have:=Int.lt_of_mul_lt_mul_left o (by omega)
  omega
 have acY:=Ol acX h3.1 h3.2 Cl.1 Cl.2 (by omega) (by omega) cZ
 obtain ⟨g,dt,tB,ad5,agv⟩:=Y8 (ad:=ad) (al:=al) (N:=u.length) (n:=n+2) (j:=j) (v1:=v1) (v2:=iJ[n]) (gP:=u[j+n]) (top:=u[j+(n+1)]+1000000000*u[j+(n+2)]) (aX:=V (u.drop j)) (W:=W) (P:=B n) (u:=u) (iJ:=iJ) (by omega) (by omega) Ck vu sG Sr BQ ⟨Ln,acV.2⟩ acW LJ ad4
  (by rw [Int.mul_comm v1,Int.add_comm];exact Md.1) (by rw [Int.mul_comm v1,Int.add_comm (1000000000*v1)];exact Md.2)
  (by rw [Int.mul_comm (u[j+(n+1)]+_),Int.add_comm];exact vv.1) (by rw [Int.mul_comm (u[j+(n+1)]+_),Int.add_comm (1000000000*_) u[j+n]];exact vv.2) oX cZ (by omega) (by omega) acY.2.1
 have Cj:0<W:=by
  have:B (n+1)*1≤B (n+1)*v1:=Int.mul_le_mul_of_nonneg_left (by omega) (by omega)
  omega
 have lT:0≤V (u.drop j) / W:=Int.ediv_nonneg oX (by omega)
 have n4:V (u.drop j) / W<1000000000:=Int.ediv_lt_of_lt_mul Cj cZ
 have hm:=Int.mul_ediv_add_emod (V (u.drop j)) W
 have nF:=Int.emod_nonneg (V (u.drop j)) (b:=W) (by omega)
 have ph:=Int.emod_lt_of_pos (V (u.drop j)) Cj
 obtain ⟨y,w,cf,St,E1,E2,oW,Cc,E3,KN⟩:=abS (v:=iJ.take (n+2)) (row:=u) (bU:=j) (mN:=u.length-j) (i3:=g) bh hu ⟨ad5,by omega⟩ (by omega) (by omega) vu
 rw [pB] at E1 E2 KN
 rw [hW] at E3
 obtain ⟨vt,low,nj,E4,sA⟩:=Sq (c:=g*W) St Ck E1 E2 KN h0 (by rw [E3];grind)
 have ad6:R ((j:Int)-1)=(j:Int)-1:=qh (by omega)
 have e1:R ((j:Int)+((n+2:Nat):Int))=((j+(n+2):Nat):Int):=by rw [cE (by omega) (by omega)];omega
 have aE:R (((j+(n+2):Nat):Int)-1)=((j+(n+1):Nat):Int):=by rw [cE (by omega) (by omega)];omega
 have bT:R (((n+2:Nat):Int)-1)=((n+1:Nat):Int):=by rw [cE (by omega) (by omega)];omega
 have de:R (R (u[j+(n+2)]*1000000000)+u[j+(n+1)])=u[j+(n+1)]+1000000000*u[j+(n+2)]:=by
  rw [cE (x:=u[j+(n+2)]*1000000000) (by omega) (by omega),cE (by omega) (by omega)];omega
 have dw:0≤u[j+(n+1)]+1000000000*u[j+(n+2)]:=by omega
 have d9:(u[j+(n+1)]+1000000000*u[j+(n+2)]) / v1≤u[j+(n+1)]+1000000000*u[j+(n+2)]:=Int.ediv_le_self _ dw
 have eX:0≤(u[j+(n+1)]+1000000000*u[j+(n+2)]) / v1:=Int.ediv_nonneg dw (by omega)
 have acZ:iJ[n+1]? = some v1:=sG
 have pre:ub u.length (n+2) ((n+2:Nat):Int) ad iJ j u al =
  (if (decide (y<0))=true then
    xE (iJ.take (n+2)) j (u.length-j) w >>= fun jw=>some (.inl ((j:Int)-1,jw,al.set j (R (g-1))))
  else some (.inl ((j:Int)-1,w,al.set j g))):=by
  unfold ub
  rw [if_pos (by simp)]
  simp only [e1,aE,bT,Int.toNat_natCast,Nat.zero_add,ad6]
  rw [if_pos (by omega),kv]
  simp only [Option.bind_eq_bind,Option.bind_some]
  rw [if_pos (by omega),Ch]
  simp only [Option.bind_some]
  rw [if_pos (by omega),acZ]
  simp only [Option.bind_some]
  rw [if_pos (by omega),de,m4 dw,pQ dw,cE (by omega) (by omega),dt]
  simp only [Option.bind_some]
  rw [if_pos (by omega),if_pos (by omega),if_pos (by omega),List.drop_zero,cf]
  simp only [Option.bind_some]
  by_cases aW:y<0
  ·have bE:(decide (y<0))=true:=by simpa using aW
   simp only [if_pos bE]
   congr 1
   funext r
   rw [if_pos (by omega),if_pos (by omega)]
  ·have bE : ¬(decide (y<0))=true:=by simpa using aW
   simp only [if_neg bE]
   rw [if_pos (by omega),if_pos (by omega)]
 rcases tB with tB|tB
 ·subst tB
  have Fg:V (w.drop j)=V (u.drop j) % W:=by rw [vt];grind
  have aW:y=0:=PW (W:=W) nj E4 sA (by rw [Fg];exact nF) (by rw [Fg];exact ph) (Int.le_of_lt Lo)
  subst aW
  refine ⟨w,?_,Pv E1 E2,St,E3,by omega,lT,n4⟩
  rw [pre]
  rfl
 ·have Fg:V (w.drop j)=V (u.drop j) % W-W:=by rw [vt,← tB];grind
  have aW:y<0:=by
   apply Int.not_le.mp
   intro h
   have:0≤B (n+2)*y:=Int.mul_nonneg (by omega) h
   omega
  obtain ⟨lY,bL,nA,afY,Lp,Lq,RE,Qv⟩:=abT (v:=iJ.take (n+2)) (row:=w) (bU:=j) (mN:=u.length-j) (y:=y) bh (by rw [pB];exact E1) (by omega) (by omega) (by omega) (by rw [pB];exact E2) oW Cc
  rw [pB] at Lp Lq Qv
  rw [hW] at RE
  have Su:V bL=V u-V (u.drop j) / W*B j*W:=by rw [RE,E3,← tB];grind
  obtain ⟨ac0,afZ,ac1,ac2,ac3⟩:=Sq (c:=V (u.drop j) / W*W) (by omega) Ck Lp Lq (fun i ah=>by rw [Qv i ah,KN i ah]) h0 (by rw [Su];grind)
  have Sv:V (bL.drop j)=V (u.drop j) % W:=by rw [ac0];grind
  have nH:lY=0:=PW (W:=W) ac1 ac2 ac3 (by rw [Sv];exact nF) (by rw [Sv];exact ph) (Int.le_of_lt Lo)
  subst nH
  refine ⟨bL,?_,Pv Lp Lq,by omega,Su,by omega,lT,n4⟩
  rw [pre,if_pos (by simpa using aW),nA]
  simp only [Option.bind_eq_bind,Option.bind_some]
  rw [cE (by omega) (by omega),show g-1=V (u.drop j) / W by omega]
theorem ZQ {ad iJ u:List Int}{n m:Nat}{v1 W:Int}(a3:2≤n)(Mc:n≤iJ.length)(bh:cA (iJ.take n))(hW:V (iJ.take n)=W)(sG:iJ[n-1]? = some v1)(Ln:1≤v1)(hu:cA u)(vu:u.length≤5000000)(hm:m+n=u.length)(dE:V (u.drop m)<W):
 ∃r,JM u.length n n ad iJ ((m:Int)-1) u (List.replicate m 0)=some r∧cA r.1∧r.1.length=u.length∧V r.1<W∧cA r.2∧r.2.length=m∧V u=V r.2*W+V r.1:=by
 refine jA (eK:=fun w:Int×List Int×List Int=> ∃(k:Nat) (q:List Int),w.1=(k:Int)-1∧k≤m∧cA w.2.1∧w.2.1.length=u.length∧w.2.2=List.replicate k 0++q∧q.length+k=m∧cA q∧V (w.2.1.drop k)<W∧V u=V w.2.1+B k*V q*W) (m:=fun w:Int×List Int×List Int=>(w.1+1).toNat) _ ?_ _ ⟨m,[],rfl,by omega,hu,rfl,by simp,by simp,cA.nil,dE,by simp [V]⟩
 rintro ⟨aeN,pO,al⟩ ⟨k,q,h1,a6,n5,hlen,ae,a7,pL,Lr,hV⟩
 simp only at h1 n5 hlen ae Lr hV ⊢
 subst h1 ae
 cases k with
 | zero =>
  refine .inr ⟨(pO,q),by simp [ub],n5,hlen,by simpa using Lr,pL,by simpa using a7,?_⟩
  rw [hV]
  simp [B]
  omega
 | succ k =>
  obtain ⟨agw,he,s1,s2,vE,aeP,aeQ,aeR⟩:=ZP (ad:=ad) (iJ:=iJ) (u:=pO) (al:=List.replicate (k+1) 0++q) (j:=k) a3 Mc bh hW sG Ln n5 (by omega) (by omega) Lr (by simp;omega)
  rw [hlen] at he
  rw [show ((k+1:Nat):Int)-1=k by omega,he]
  refine .inl ⟨_,rfl,⟨k,V (pO.drop k) / W::q,rfl,by omega,s1,s2.trans hlen,KA _ _ _,by simp;omega,cA.cons ⟨aeQ,aeR⟩ pL,aeP,?_⟩,by simp only;omega⟩
  simp only
  rw [hV,vE,k9,l8]
  grind
theorem aaL {a:List Int}(h:a.length≤900000):AG a=some a:=by
 unfold AG
 rw [if_pos (by omega)]
theorem Y9 {a b q s:Int}(h:a=q*b+s)(h0:0≤s)(h1:s<b):a / b=q∧a % b=s:=by
 subst h
 constructor
 ·rw [Int.add_comm,Int.add_mul_ediv_right _ _ (by omega),Int.ediv_eq_zero_of_lt h0 h1]
  omega
 ·rw [Int.add_comm,Int.add_mul_emod_self_right]
  exact Int.emod_eq_of_lt h0 h1
theorem abj {a b:List Int}(bF:fL a)(aR:fL b)(lj:b≠[])(a3:a.length≤900000)(hm:b.length≤900000):xM a b=some (L (V a / V b),L (V a % V b)):=by
 have jJ:=tf aR lj
 have ED:=mG bF.1
 unfold xM
 simp only [f9]
 rw [O3 bF aR (by omega)]
 simp only [Option.bind_eq_bind,Option.bind_some]
 by_cases bf:V a<V b
 ·rw [if_pos (by simpa using s8.2 bf),aaL a3,Int.ediv_eq_zero_of_lt ED bf,Int.emod_eq_of_lt ED bf,qQ,EQ bF]
  rfl
 ·rw [if_neg (fun h=>bf (s8.1 (by simpa using h)))]
  obtain ⟨k,d,a6,bE,sC,EY,yT⟩:=Eg aR lj
  by_cases h1:b.length=1
  ·have sB:k=0:=by omega
   subst sB
   have L8:V b=d:=by simpa using yT
   rw [if_pos (by simp [h1]),if_pos (by omega),bE]
   simp only [Option.bind_some]
   have ph:=Int.emod_nonneg (V a) (b:=d) (by omega)
   have Cf:=Int.emod_lt_of_pos (V a) sC
   rw [Ok bF.1 ⟨sC,EY⟩ (by omega)]
   simp only [Option.bind_some]
   rw [Bb ph (by omega),J0 ph (by omega),L8]
   rfl
  ·have hw:R ((b.length:Int)-1)=(k:Int):=by rw [cE (by omega) (by omega)];omega
   have e1:R (d+1)=d+1:=cE (by omega) (by omega)
   have yU:1≤1000000000 / (d+1):=by
    apply (Int.le_ediv_iff_mul_le (by omega)).2
    omega
   have Cm:1000000000 / (d+1)<1000000000:=by
    apply Int.ediv_lt_of_lt_mul (by omega)
    omega
   have ad7:1000000000 / (d+1)*(d+1)≤1000000000:=Int.ediv_mul_le _ (by omega)
   have aE:R ((1000000000:Int).tdiv (d+1))=1000000000 / (d+1):=by rw [m4 (by omega),cE (by omega) (by omega)]
   rw [if_neg (by simp;omega),hw,if_pos (by omega),Int.toNat_natCast,bE]
   simp only [Option.bind_some,e1,aE]
   generalize 1000000000 / (d+1)=f at *
   rw [if_pos (by omega)]
   have jP:cA [f]:=cA.cons (by omega) cA.nil
   have ad8:V [f]=f:=by simp [V]
   have ad9:a≠[]:=by
    intro h
    subst h
    simp [V] at bf
    omega
   obtain ⟨l1,vN,aea,agx,aeb,E5,agy⟩:=O5 bF.1 jP ad9 (by simp) (by omega) (by simp)
   obtain ⟨CA,iJ,aec,agz,aed,Me,agA⟩:=O5 aR.1 jP lj (by simp) (by omega) (by simp)
   rw [ad8] at E5 Me
   rw [aea]
   simp only [Option.bind_some]
   simp only [List.length_singleton] at aeb aed
   have agB:=oA k
   have aee:V b*f<B b.length:=by
    have o:=(rs aR.1 (k:=k) (by omega)).2
    rw [yT] at o
    have ae:V b*f≤(B k*(d+1)-1)*f:=Int.mul_le_mul_of_nonneg_right (by omega) (by omega)
    have au:(B k*(d+1)-1)*f=B k*(f*(d+1))-f:=by grind
    have aA:B k*(f*(d+1))≤B k*1000000000:=Int.mul_le_mul_of_nonneg_left ad7 (by omega)
    rw [a6,l8]
    omega
   have agC:V b≤V b*f:=by
    have:V b*1≤V b*f:=Int.mul_le_mul_of_nonneg_left yU (by omega)
    omega
   have agD:V a≤V a*f:=by
    have:V a*1≤V a*f:=Int.mul_le_mul_of_nonneg_left yU (by omega)
    omega
   have Mf:0≤V b*f:=by omega
   have Sw:0≤V a*f:=by omega
   have Sx:CA=b.length:=by
    have o:(iJ.take CA).length=CA:=by simp;omega
    rw [Me] at o
    have ae:=(jb Mf (k:=b.length)).2 aee
    have au:=Ew aR lj
    have aA : ¬(L (V b*f)).length≤b.length-1:=fun h=>by
     have:=(jb Mf).1 h
     omega
    omega
   have aef:(L (V a*f)).length=l1:=by rw [← E5];simp;omega
   have RF:=nc (hb (V a*f))
   rw [eo Sw,aef] at RF
   have af0:a.length≤l1:=bF.len.2 (by omega)
   have agE:b.length≤a.length:=Nat.le_of_not_lt fun h=>by
    have:=D1 bF aR h
    omega
   rw [if_pos (by omega),if_pos (by simp;omega),aec]
   simp only [Option.bind_some]
   have vu:(vN.take l1++[0]).length=l1+1:=by simp;omega
   have aeg:Dt a CA [f] iJ (vN.take l1++[0])=some (vN.take l1++[0]):=by
    unfold Dt
    rw [iter]
    unfold C2
    simp only [f9,vu]
    rw [if_neg (by simp;omega)]
    rfl
   rw [aeg]
   simp only [Option.bind_some,vu]
   have mf:R (((l1+1:Nat):Int)-((CA:Nat):Int))=((l1+1-b.length:Nat):Int):=by rw [cE (by omega) (by omega)];omega
   rw [mf,if_pos (by omega),qh (by omega),Int.toNat_natCast]
   have Rj:cA (vN.take l1++[0]):=by
    rw [E5]
    exact (hb _).append (cA.cons (by omega) cA.nil)
   have Sy:V (vN.take l1++[0])=V a*f:=by
    rw [uG,E5,eo Sw]
    simp [V]
   have KO:iJ.take b.length=L (V b*f):=by rw [← Sx];exact Me
   have aeh:V (iJ.take b.length)=V b*f:=by rw [KO,eo Mf]
   obtain ⟨dU,aeS,mV,qi,af1,af2,af3⟩:=Eg (jr (V b*f)) (fun h=>by have:=tg.1 h;omega)
   rw [← KO] at mV qi
   have pB:(iJ.take b.length).length=b.length:=by simp;omega
   have BV:iJ[b.length-1]? = some aeS:=by
    rw [List.getElem?_take] at qi
    rw [show b.length-1=dU by omega]
    split at qi
    ·exact qi
    ·simp at qi
   have ac4:V ((vN.take l1++[0]).drop (l1+1-b.length))<V b*f:=by
    have o:=(rs Rj (k:=l1+1-b.length) (by omega)).1
    rw [Sy] at o
    have ae:=Ew aR lj
    have au:B l1=B (l1+1-b.length)*B (b.length-1):=by rw [← A7];congr 1;omega
    rw [au] at RF
    have aA:B (l1+1-b.length)*V ((vN.take l1++[0]).drop (l1+1-b.length))<B (l1+1-b.length)*B (b.length-1):=by omega
    have:=Int.lt_of_mul_lt_mul_left aA (by have:=oA (l1+1-b.length);omega)
    omega
   obtain ⟨r,ao,r1,b5,bk,bg,aU,ck⟩:=ZQ (ad:=[f]) (m:=l1+1-b.length) (by omega) (by omega) (by rw [KO];exact hb _) aeh BV (by omega) Rj (by omega) (by omega) ac4
   rw [vu] at ao b5
   rw [Sx,ao]
   simp only [Option.bind_some]
   rw [if_pos (by omega),List.drop_zero,List.take_of_length_le (by omega),x2 r1 (by omega)]
   simp only [Option.bind_some]
   have Ce:=mG r1
   rw [Sy] at ck
   have bS:V r.1=(V a-V r.2*V b)*f:=by grind
   have aei:0≤V a-V r.2*V b:=by
    apply Int.not_lt.mp
    intro h
    have:(V a-V r.2*V b)*f≤(-1)*f:=Int.mul_le_mul_of_nonneg_right (by omega) (by omega)
    omega
   have vt:V a-V r.2*V b<V b:=by
    apply Int.lt_of_mul_lt_mul_right (a:=f) _ (by omega)
    omega
   obtain ⟨q1,a1⟩:=Y9 (a:=V a) (b:=V b) (q:=V r.2) (s:=V a-V r.2*V b) (by omega) aei vt
   rw [if_pos (by simp)]
   simp only [List.getElem?_cons_zero,Option.bind_some]
   have B3:(L (V r.1)).length≤l1+1:=(jb Ce).2 (by have:=nc r1;rwa [b5] at this)
   rw [Ok (hb _) ⟨by omega,Cm⟩ (by omega),eo Ce]
   simp only [Option.bind_some]
   rw [x2 bg (by omega)]
   simp only [Option.bind_some]
   rw [q1,a1,bS,Int.mul_ediv_cancel _ (by omega)]
def gZ (n:Int):bp:=⟨decide (n<0),L n.natAbs⟩
def eh (neg:Bool)(a:Int):Int:=if neg then -a else a
def mk (p:Int×Int):aM:=⟨gZ p.1,L p.2⟩
def Mg:aM:=⟨⟨false,[]⟩,[]⟩
def enc:Option (Int×Int)→aM
 | none=>Mg
 | some p=>mk p
structure Fr (p:Int×Int):Prop where
 pos:0<p.2
 Sz:Int.gcd p.1 p.2=1
 num:(p.1.natAbs:Int)<B 24
 den:p.2<B 24
theorem PX {n:Int}:(gZ n).cH=L n.natAbs:=rfl
theorem PY {n:Int}:(gZ n).cR=decide (n<0):=rfl
theorem Pw {n:Int}(h:0≤n):decide ((0:Int)<((L n).length:Nat))=decide (0<n):=by
 apply decide_eq_decide.2
 by_cases h1:0<n
 ·have:(L n)≠[]:=fun o=>by have:=tg.1 o;omega
  have:=List.length_pos_iff.mpr this
  omega
 ·have:n=0:=by omega
  subst this
  simp [qQ]
theorem Ls {n:Int}(h:0≤n):(((L n).length:Nat):Int)=0↔n=0:=by
 constructor
 ·intro h1
  have:L n=[]:=List.eq_nil_of_length_eq_zero (by omega)
  have:=tg.1 this
  omega
 ·rintro rfl
  simp [qQ]
theorem KP {neg:Bool}{a:Int}(h:0≤a):((eh neg a).natAbs:Int)=a:=by
 unfold eh
 cases neg<;>simp<;>omega
theorem Qw {neg:Bool}{a:Int}(h:0≤a):(⟨neg && decide (0<a),L a⟩:bp)=gZ (eh neg a):=by
 unfold gZ
 rw [KP h]
 congr 1
 unfold eh
 cases neg
 ·simp;omega
 ·simp
theorem abU {a:Int}(h:0≤a)(qs:a<B 60):xB (L a)=some (L a):=by
 have aT:=(jb h).2 qs
 unfold xB
 rw [rr (hb _) (by omega),eo h]
 simp only [Option.bind_eq_bind,Option.bind_some,f9]
 rw [if_neg (by simp;omega)]
theorem p6 {neg:Bool}{a:Int}(h:0≤a)(qs:a<B 60):hS neg (L a)=some (gZ (eh neg a)):=by
 have aT:=(jb h).2 qs
 unfold hS
 rw [abU h qs]
 simp only [Option.bind_eq_bind,Option.bind_some,f9,List.nil_append]
 have bf:(L a).length*8≤140737488355328:=by omega
 rw [← Qw h,← Pw h]
 cases neg<;>simp [bf]
theorem r5 {neg:Bool}{a:Int}(h:0≤a):m6 neg (L a)=some (gZ (eh neg a)):=by
 unfold m6
 rw [← Qw h,f9,Pw h]
 cases neg<;>simp
theorem QY {a b:Int}:eh (!(decide (a<0) == decide (b<0))) ((a.natAbs:Int)*(b.natAbs:Int))=a*b:=by
 unfold eh
 by_cases bF:a<0
 ·have e1:(a.natAbs:Int) = -a:=by omega
  by_cases aR:b<0
  ·have aE:(b.natAbs:Int) = -b:=by omega
   rw [e1,aE]
   simp [bF,aR,Int.neg_mul,Int.mul_neg]
  ·have aE:(b.natAbs:Int)=b:=by omega
   rw [e1,aE]
   simp [bF,aR,Int.neg_mul,Int.mul_neg]
 ·have e1:(a.natAbs:Int)=a:=by omega
  by_cases aR:b<0
  ·have aE:(b.natAbs:Int) = -b:=by omega
   rw [e1,aE]
   simp [bF,aR,Int.neg_mul,Int.mul_neg]
  ·have aE:(b.natAbs:Int)=b:=by omega
   rw [e1,aE]
   simp [bF,aR,Int.neg_mul,Int.mul_neg]
theorem AH {a b:Int}:eh (decide (a<0)) ((a.natAbs:Int)*b)=a*b:=by
 unfold eh
 by_cases bF:a<0
 ·have e1:(a.natAbs:Int) = -a:=by omega
  rw [e1]
  simp [bF,Int.neg_mul,Int.mul_neg]
 ·have e1:(a.natAbs:Int)=a:=by omega
  rw [e1]
  simp [bF,Int.neg_mul,Int.mul_neg]
theorem PZ {a c:Int}:kZ (-c) (-a)=kZ a c:=by
 unfold kZ
 by_cases h:a<c
 ·have : -c < -a:=by omega
  simp [h,this]
 ·by_cases o:c<a
  ·have ae : ¬ -c < -a:=by omega
   have au : -a < -c:=by omega
   simp [h,o,ae,au]
  ·have ae : ¬ -c < -a:=by omega
   have au : ¬ -a < -c:=by omega
   simp [h,o,ae,au]
theorem ZR {a c:Int}(bF:(L a.natAbs).length≤5000000)(bf:(L c.natAbs).length≤5000000):Ab (gZ a) (gZ c)=some (kZ a c):=by
 unfold Ab
 simp only [PY,PX,decide_eq_true_eq]
 by_cases h1:a<0
 ·by_cases o:c<0
  ·rw [if_pos h1,if_pos o,sd (jr _) (jr _) bf,eo (by omega),eo (by omega),show (c.natAbs:Int) = -c by omega,show (a.natAbs:Int) = -a by omega,PZ]
   rfl
  ·rw [if_pos h1,if_neg o]
   unfold kZ
   rw [if_pos (by omega)]
 ·by_cases o:c<0
  ·rw [if_neg h1,if_pos o]
   unfold kZ
   rw [if_neg (by omega),if_pos (by omega)]
  ·rw [if_neg h1,if_neg o,sd (jr _) (jr _) bF,eo (by omega),eo (by omega)]
   show some (kZ _ _)=_
   congr 2<;>omega
theorem WE {a c:Int}(bF:(L a.natAbs).length≤5000000)(bf:(L c.natAbs).length≤5000000):rT (gZ a) (gZ c)=some (kZ a c):=by
 have bS:rT (gZ a) (gZ c)=if (decide (a<0) == decide (c<0))=true then (if decide (a<0)=true then (qz (L c.natAbs) (L a.natAbs)).bind (fun r=>some r) else (qz (L a.natAbs) (L c.natAbs)).bind (fun r=>some r)) else if decide (a<0)=true then some (-1) else some 1:=rfl
 rw [bS,Yf]
 by_cases h1:a<0
 ·by_cases o:c<0
  ·rw [if_pos (by simp [h1,o]),if_pos (by simpa using h1),sd (jr _) (jr _) bf,eo (by omega),eo (by omega),show (c.natAbs:Int) = -c by omega,show (a.natAbs:Int) = -a by omega,PZ]
   rfl
  ·rw [if_neg (by simp [h1,o]),if_pos (by simpa using h1)]
   unfold kZ
   rw [if_pos (by omega)]
 ·by_cases o:c<0
  ·rw [if_neg (by simp [h1,o]),if_neg (by simpa using h1)]
   unfold kZ
   rw [if_neg (by omega),if_pos (by omega)]
  ·rw [if_pos (by simp [h1,o]),if_neg (by simpa using h1),sd (jr _) (jr _) bF,eo (by omega),eo (by omega),show (c.natAbs:Int)=c by omega,show (a.natAbs:Int)=a by omega]
   rfl
def fits (x:Int):Prop:=x<B 24
noncomputable instance (x:Int):Decidable (fits x):=Classical.propDecidable _
noncomputable def low (n d:Int):Option (Int×Int) :=
 if fits ((n / (Int.gcd n d:Int)).natAbs:Int)∧fits (d / (Int.gcd n d:Int)) then some (n / (Int.gcd n d:Int),d / (Int.gcd n d:Int)) else none
theorem KB {n d:Int}(h:0<d):(0:Int)<Int.gcd n d:=by
 have:Int.gcd n d≠0:=by
  rw [Ne,Int.gcd_eq_zero_iff]
  omega
 omega
theorem abk {n d:Int}(h:0<d): ∃m e,n / (Int.gcd n d:Int)=m∧d / (Int.gcd n d:Int)=e∧n=Int.gcd n d*m∧d=Int.gcd n d*e∧0<e∧(n.natAbs:Int) / (Int.gcd n d:Int)=m.natAbs:=by
 have dt:=KB (n:=n) h
 obtain ⟨m,hm⟩:=Int.gcd_dvd_left (a:=n) (b:=d)
 obtain ⟨e,he⟩:=Int.gcd_dvd_right (a:=n) (b:=d)
 refine ⟨m,e,?_,?_,hm,he,?_,?_⟩
 ·conv=>lhs;lhs;rw [hm]
  exact Int.mul_ediv_cancel_left _ (by omega)
 ·conv=>lhs;lhs;rw [he]
  exact Int.mul_ediv_cancel_left _ (by omega)
 ·apply Int.not_le.mp
  intro h1
  have:(Int.gcd n d:Int)*e≤Int.gcd n d*0:=Int.mul_le_mul_of_nonneg_left h1 (by omega)
  omega
 ·have e1:(n.natAbs:Int)=Int.gcd n d*m.natAbs:=by
   conv=>lhs;rw [hm]
   rw [Int.natAbs_mul]
   simp
  rw [e1]
  exact Int.mul_ediv_cancel_left _ (by omega)
theorem AW {a:Int}(h:0≤a):qB (L a)=some (decide (a=1)):=by
 unfold qB
 simp only [f9]
 by_cases h1:(L a).length=1
 ·have o:=(jb (k:=1) h).1 (by omega)
  have ae:0<a:=by
   apply Int.not_le.mp
   intro au
   rw [Ri au] at h1
   simp at h1
  have aA:a<1000000000:=by simpa [B] using o
  rw [Ky ⟨ae,aA⟩]
  by_cases a2:a=1<;>simp [a2]
 ·rw [if_neg (by simp;omega)]
  have:a≠1:=by
   rintro rfl
   rw [Ky (by omega)] at h1
   simp at h1
  simp [this]
theorem Qx {n d:Int}(h:0≤d):Int.gcd (n.natAbs:Int) d=Int.gcd n d:=by
 simp [Int.gcd]
theorem KQ:B 24≤B 60:=qP (by omega)
theorem J9 {neg:Bool}{m e:Int}(hm:0≤m)(he:0≤e):(if (decide ((24:Int)<((L m).length:Nat)))=true then some Mg else if (decide ((24:Int)<((L e).length:Nat)))=true then some Mg else hS neg (L m) >>= fun r=>if (([]:List Int)++L e).length*8≤140737488355328 then some (⟨r,([]:List Int)++L e⟩:aM) else none) =
 some (enc (if fits m∧fits e then some (eh neg m,e) else none)):=by
 by_cases h1:fits m
 ·have o:=(jb hm).2 h1
  rw [if_neg (by simp;omega)]
  by_cases ae:fits e
  ·have au:=(jb he).2 ae
   have:=KQ
   unfold fits at h1
   rw [if_neg (by simp;omega),p6 hm (by omega),if_pos ⟨h1,ae⟩]
   simp only [Option.bind_eq_bind,Option.bind_some]
   rw [if_pos (by simp;omega)]
   rfl
  ·have au : ¬(L e).length≤24:=fun h=>ae ((jb he).1 h)
   rw [if_pos (by simp;omega),if_neg (fun h=>ae h.2)]
   rfl
 ·have au : ¬(L m).length≤24:=fun h=>h1 ((jb hm).1 h)
  rw [if_pos (by simp;omega),if_neg (fun h=>h1 h.1)]
  rfl
theorem abV {neg:Bool}{p m g:Int}(ai:0≤p)(dt:0<g)(hm:eh neg p=g*m):eh neg (m.natAbs:Int)=m:=by
 unfold eh at hm ⊢
 cases neg
 ·simp at hm ⊢
  have:0≤m:=by
   apply Int.not_lt.mp
   intro h1
   have:g*m≤g*(-1):=Int.mul_le_mul_of_nonneg_left (by omega) (by omega)
   omega
  omega
 ·simp at hm ⊢
  have:m≤0:=by
   apply Int.not_lt.mp
   intro h1
   have:g*1≤g*m:=Int.mul_le_mul_of_nonneg_left (by omega) (by omega)
   omega
  omega
theorem Ka {neg:Bool}{p q:Int}(ai:0≤p)(a7:0<q)(SA:(L p).length≤900000)(pL:(L q).length≤900000):nP neg (L p) (L q)=some (enc (low (eh neg p) q)):=by
 obtain ⟨m,e,h1,o,ae,au,aA,a2⟩:=abk (n:=eh neg p) a7
 have pG:=abV ai (KB (n:=eh neg p) a7) ae
 rw [KP ai] at a2
 have dt:Int.gcd p q=Int.gcd (eh neg p) q:=by rw [← Qx (n:=eh neg p) (by omega),KP ai]
 have agF:=KB (n:=eh neg p) a7
 unfold nP
 rw [rr (hb _) (by omega),eo ai]
 simp only [Option.bind_eq_bind,Option.bind_some]
 rw [rr (hb _) (by omega),eo (by omega)]
 simp only [Option.bind_some,f9]
 have lT : ¬((((L q).length:Nat):Int) == 0)=true:=by
  simp only [beq_iff_eq]
  intro h
  have:=(Ls (n:=q) (by omega)).1 h
  omega
 rw [if_neg lT,AW (by omega)]
 simp only [Option.bind_some]
 have Bo:low (eh neg p) q=if fits (m.natAbs:Int)∧fits e then some (eh neg (m.natAbs:Int),e) else none:=by
  unfold low
  rw [h1,o,pG]
 have Rk:Int.gcd (eh neg p) q=1→(m.natAbs:Int)=p∧e=q:=by
  intro hu
  rw [hu] at o a2
  simp at o a2
  omega
 by_cases n4:q=1
 ·have hu:Int.gcd (eh neg p) q=1:=by rw [n4];simp
  obtain ⟨lp,nL⟩:=Rk hu
  rw [if_pos (by simpa using n4),Bo,lp,nL]
  exact J9 ai (by omega)
 ·rw [if_neg (by simpa using n4),QW (jr _) (jr _) SA pL,eo ai,eo (by omega)]
  simp only [Option.bind_some]
  rw [AW (by omega)]
  simp only [Option.bind_some]
  by_cases hu:Int.gcd p q=1
  ·obtain ⟨lp,nL⟩:=Rk (by omega)
   rw [if_pos (by simp;omega),Bo,lp,nL]
   exact J9 ai (by omega)
  ·rw [if_neg (by simp;omega)]
   have SB:(L (Int.gcd p q)).length≤900000:=by
    have bd:(Int.gcd p q:Int)≤q:=by
     rw [dt]
     have:(Int.gcd (eh neg p) q:Int)*1≤Int.gcd (eh neg p) q*e:=Int.mul_le_mul_of_nonneg_left (by omega) (by omega)
     omega
    apply (jb (by omega)).2
    have:=(jb (n:=q) (by omega)).1 pL
    omega
   have SC:L (Int.gcd p q)≠[]:=fun h=>by
    have:=tg.1 h
    omega
   rw [div_eq (jr _) (jr _) SC SA SB,eo ai,eo (by omega)]
   simp only [Option.bind_some]
   rw [div_eq (jr _) (jr _) SC pL SB,eo (by omega),eo (by omega)]
   simp only [Option.bind_some]
   rw [dt,a2,o,Bo]
   exact J9 (by omega) (by omega)
theorem Fr.tn {p:Int×Int}(h:Fr p):(L p.1.natAbs).length≤24:=(jb (by omega)).2 h.num
theorem Fr.st {p:Int×Int}(h:Fr p):(L p.2).length≤24:=(jb (by have:=h.pos;omega)).2 h.den
theorem acu (m n:Nat):B m*B n=B (m+n):=(A7 m n).symm
theorem s9 {x y:Int}{m n:Nat}(U:0≤x)(aW:0≤y)(h1:x<B m)(o:y<B n):(L (x*y)).length≤m+n:=by
 apply (jb (Int.mul_nonneg U aW)).2
 rw [← acu]
 have ae:x*y≤(B m-1)*(B n-1):=Int.mul_le_mul (by omega) (by omega) aW (by omega)
 have au:(B m-1)*(B n-1)=B m*B n-B m-B n+1:=by grind
 have aA:=oA m
 have a2:=oA n
 omega
theorem Za (r s:aM){a b:Int}(bF:0≤a)(aR:0<b)(h1:hN r.fs.cH s.fs.cH=some (L a))(o:hN r.hC s.hC=some (L b))(ae:(L a).length≤900000)(au:(L b).length≤900000):sX r s=some (enc (low (eh (!(r.fs.cR == s.fs.cR)) a) b)):=by
 unfold sX
 rw [h1]
 simp only [Option.bind_eq_bind,Option.bind_some]
 rw [o]
 simp only [Option.bind_some]
 rw [Ka bF aR ae au]
 simp only [Option.bind_some]
theorem ZS {p q:Int×Int}(ai:Fr p)(a7:Fr q):sX (mk p) (mk q)=some (enc (low (p.1*q.1) (p.2*q.2))):=by
 have h1:=ai.tn
 have o:=ai.st
 have ae:=a7.tn
 have au:=a7.st
 have aA:=ai.pos
 have a2:=a7.pos
 have bd:=s9 (x:=p.1.natAbs) (y:=q.1.natAbs) (by omega) (by omega) ai.num a7.num
 have bn:=s9 (x:=p.2) (y:=q.2) (by omega) (by omega) ai.den a7.den
 have e1:hN (L p.1.natAbs) (L q.1.natAbs)=some (L ((p.1.natAbs:Int)*q.1.natAbs)):=by
  rw [mul_eq (hb _) (hb _) (by omega) (by omega),eo (by omega),eo (by omega)]
 have aE:hN (L p.2) (L q.2)=some (L (p.2*q.2)):=by
  rw [mul_eq (hb _) (hb _) (by omega) (by omega),eo (by omega),eo (by omega)]
 have:=Za (mk p) (mk q) (a:=(p.1.natAbs:Int)*q.1.natAbs) (b:=p.2*q.2) (Int.mul_nonneg (by omega) (by omega)) (Int.mul_pos aA a2) e1 aE (by omega) (by omega)
 rw [this]
 have bT:eh (!((mk p).fs.cR == (mk q).fs.cR)) ((p.1.natAbs:Int)*q.1.natAbs)=p.1*q.1:=QY
 rw [bT]
theorem ZT {a b:Int}(bF:(L a.natAbs).length≤900000)(aR:(L b.natAbs).length≤900000):pp (gZ a) (gZ b)=some (gZ (a*b)):=by
 unfold pp
 simp only [PX,PY]
 rw [aaF (hb _) (hb _) (by omega) (by omega),eo (by omega),eo (by omega)]
 simp only [Option.bind_eq_bind,Option.bind_some]
 rw [r5 (Int.mul_nonneg (by omega) (by omega)),QY]
 rfl
theorem abl:(1000000000000000000000000000:Int)≤B 24:=by
 have h:B 3≤B 24:=qP (by omega)
 have ae:B 3=1000000000000000000000000000:=by decide
 omega
theorem abm:(1000000000000000000000000000:Int)≤B 60:=by
 have:=KQ
 have:=abl
 omega
theorem YE {n:Int}(h:oM n):zM n=some (gZ n):=by
 obtain ⟨h1,o⟩:=mF.1 h
 have aR:=abm
 unfold zM
 by_cases hm:n = -9223372036854775808
 ·rw [if_pos (by simpa using hm)]
  have e:([854775808,223372036,9]:List Int)=L 9223372036854775808:=tj ⟨by intro x U;simp at U;omega,by simp⟩ (by decide)
  rw [e,p6 (by omega) (by omega)]
  subst hm
  rfl
 ·rw [if_neg (by simpa using hm)]
  by_cases a3:n<0
  ·rw [if_pos (by simpa using a3),cE (by omega) (by omega),xS (by omega) (by omega)]
   simp only [Option.bind_eq_bind,Option.bind_some]
   rw [p6 (by omega) (by omega)]
   simp only [Option.bind_some]
   congr 2
   unfold eh
   simp
  ·rw [if_neg (by simpa using a3),xS (by omega) (by omega)]
   simp only [Option.bind_eq_bind,Option.bind_some]
   rw [p6 (by omega) (by omega)]
   simp only [Option.bind_some]
   congr 2
theorem Zb {n:Int}(h:oM n):og n=some (gZ n):=by
 obtain ⟨h1,o⟩:=mF.1 h
 unfold og
 by_cases a3:n<0
 ·rw [if_pos (by simpa using a3),cE (x:=n+1) (by omega) (by omega),cE (x:=0-(n+1)) (by omega) (by omega),Bb (x:=0-(n+1)) (by omega) (by omega),Bb (by omega) (by omega),J0 (by omega) (by omega)]
  simp only [Option.bind_eq_bind,Option.bind_some]
  rw [r5 (by omega)]
  simp only [Option.bind_some]
  congr 2
  unfold eh
  simp
  omega
 ·rw [if_neg (by simpa using a3),Bb (by omega) (by omega),J0 (by omega) (by omega)]
  simp only [Option.bind_eq_bind,Option.bind_some]
  rw [r5 (by omega)]
  simp only [Option.bind_some]
  congr 2
theorem Rl:L 1=[1]:=Ky (by omega)
theorem XV {n:Int}(h:oM n):o1 n=some (mk (n,1)):=by
 unfold o1
 rw [YE h]
 simp only [Option.bind_eq_bind,Option.bind_some,mk,Rl]
theorem ZU {p q:Int×Int}(ai:Fr p)(a7:Fr q):uu (mk p) (mk q)=some (kZ (p.1*q.2) (q.1*p.2)):=by
 have h1:=ai.tn
 have o:=ai.st
 have ae:=a7.tn
 have au:=a7.st
 have aA:=ai.pos
 have a2:=a7.pos
 have bd:=s9 (x:=p.1.natAbs) (y:=q.2) (by omega) (by omega) ai.num a7.den
 have bn:=s9 (x:=q.1.natAbs) (y:=p.2) (by omega) (by omega) a7.num ai.den
 have CB:0≤(p.1.natAbs:Int)*q.2:=Int.mul_nonneg (by omega) (by omega)
 have S7:0≤(q.1.natAbs:Int)*p.2:=Int.mul_nonneg (by omega) (by omega)
 have oZ:((p.1*q.2).natAbs:Int)=(p.1.natAbs:Int)*q.2:=by
  rw [Int.natAbs_mul,Int.natCast_mul]
  congr 1
  omega
 have k6:((q.1*p.2).natAbs:Int)=(q.1.natAbs:Int)*p.2:=by
  rw [Int.natAbs_mul,Int.natCast_mul]
  congr 1
  omega
 have e1:hN (mk p).fs.cH (mk q).hC=some (L ((p.1.natAbs:Int)*q.2)):=by
  show hN (L p.1.natAbs) (L q.2)=_
  rw [mul_eq (hb _) (hb _) (by omega) (by omega),eo (by omega),eo (by omega)]
 have aE:hN (mk q).fs.cH (mk p).hC=some (L ((q.1.natAbs:Int)*p.2)):=by
  show hN (L q.1.natAbs) (L p.2)=_
  rw [mul_eq (hb _) (hb _) (by omega) (by omega),eo (by omega),eo (by omega)]
 have bT:hS (mk p).fs.cR (L ((p.1.natAbs:Int)*q.2))=some (gZ (p.1*q.2)):=by
  show hS (decide (p.1<0)) _=_
  rw [p6 CB ((jb CB).1 (by omega)),AH]
 have de:hS (mk q).fs.cR (L ((q.1.natAbs:Int)*p.2))=some (gZ (q.1*p.2)):=by
  show hS (decide (q.1<0)) _=_
  rw [p6 S7 ((jb S7).1 (by omega)),AH]
 unfold uu
 rw [e1,Option.bind_eq_bind,Option.bind_some,bT,Option.bind_eq_bind,Option.bind_some,aE,Option.bind_eq_bind,Option.bind_some,de,Option.bind_some,ZR (by rw [oZ];omega) (by rw [k6];omega)]
 rfl
theorem KR {a d:Int}(bE:0≤d):((a*d).natAbs:Int)=(a.natAbs:Int)*d:=by
 rw [Int.natAbs_mul,Int.natCast_mul]
 congr 1
 omega
theorem qI (n bU ah:Int):mE n bU ah=some (decide (bU≤n∧n≤ah)):=by
 unfold mE
 by_cases h:bU≤n<;>simp [h]
theorem DL {α β:Type}{t:Nat→α→Option β}: ∀(l:List α) (k:Nat),(∀n x,l[n]? = some x→t (k+n) x=none)→scan t k l=none
 | [],_,_=>rfl
 | x::l,k,h=>by
  have h0:=h 0 x rfl
  simp only [Nat.add_zero] at h0
  simp only [scan,h0]
  exact DL l (k+1) fun n y aW=>by rw [show k+1+n=k+(n+1) by omega];exact h (n+1) y (by simpa using aW)
theorem YF (l:List Int)(h:l.length≤1048576):Af l l=some true:=by
 have h1:Jy l l 0=some (.inl ()):=by
  have:=DI (f:=fun w=>w9 l l w) (t:=fun _ _=>none) (e:= .inl ()) l 0 (fun n x U=>by
   have a3:=fE U
   have hw:R ((n:Int)+1)=((n+1:Nat):Int):=by rw [cE (by omega) (by omega)];rfl
   simp only [w9,e8,Nat.zero_add,hw]
   simp [a3]) (by simp [w9,e8])
  rw [DL l 0 (fun _ _ _=>rfl)] at this
  exact this
 simp [Af,h1]
theorem Yg (j:b3):z6 j j=some true:=by simp [z6]
theorem XW (j:cj):zW j j=some true:=by simp [zW]
theorem XX (l:List b3)(h:l.length≤1048576):zV l l=some true:=by
 have h1:I5 l l 0=some (.inl ()):=by
  have:=DI (f:=fun w=>wN l l w) (t:=fun _ _=>none) (e:= .inl ()) l 0 (fun n x U=>by
   have a3:=fE U
   have hw:R ((n:Int)+1)=((n+1:Nat):Int):=by rw [cE (by omega) (by omega)];rfl
   simp only [wN,e8,Nat.zero_add,hw]
   simp [a3,Yg]) (by simp [wN,e8])
  rw [DL l 0 (fun _ _ _=>rfl)] at this
  exact this
 simp [zV,h1]
theorem XJ (l:List cj)(h:l.length≤1048576):zI l l=some true:=by
 have h1:IP l l 0=some (.inl ()):=by
  have:=DI (f:=fun w=>wH l l w) (t:=fun _ _=>none) (e:= .inl ()) l 0 (fun n x U=>by
   have a3:=fE U
   have hw:R ((n:Int)+1)=((n+1:Nat):Int):=by rw [cE (by omega) (by omega)];rfl
   simp only [wH,e8,Nat.zero_add,hw]
   simp [a3,XW]) (by simp [wH,e8])
  rw [DL l 0 (fun _ _ _=>rfl)] at this
  exact this
 simp [zI,h1]
theorem W6 (s:cS)(h1:s.b1.length≤1048576)(o:s.bO.length≤1048576):zt s s=some true:=by
 simp [zt,XX _ h1,XJ _ o]
theorem Yh (j:b3)(left:Int)(aC:j.ld.size≤maxLen)(h0:0≤left)(h1:left≤1048576): ∃r,zY j left=some r∧r≤left:=by
 have hm:j.ld.size<9223372036854775808:=by have:maxLen=9223372036854775807:=by decide
                                           omega
 have hw:R (left-j.ld.size)=left-j.ld.size:=cE (by omega) (by omega)
 unfold zY
 rw [hw]
 by_cases h:left-(j.ld.size:Int)<0
 ·exact ⟨-1,by simp [h],by omega⟩
 ·exact ⟨left-j.ld.size,by simp [h],by omega⟩
theorem Og (l:List b3)(left:Int)(aT:l.length≤maxLen)(aC:∀j∈l,j.ld.size≤maxLen)(h0:0≤left)(h1:left≤1048576):
 ∃r,zJ l left=some r∧r≤left∧(0≤r→l.length≤1048576):=by
 have hm:maxLen=9223372036854775807:=by decide
 have hw:R (left-(l.length:Nat))=left-(l.length:Nat):=cE (by omega) (by omega)
 unfold zJ
 simp only [e8,hw]
 by_cases h:left-(l.length:Int)<0
 ·exact ⟨-1,by simp [h],by omega,by omega⟩
 ·obtain ⟨r,r1,b5⟩:=jA (f:=fun w:Int×Int=>tR l w.1 w.2) (fun w=>0≤w.1∧w.1≤left∧0≤w.2∧w.2≤l.length) (fun w=>(l.length-w.2).toNat)
   (fun r=>match r with | .inl a=>a≤left | .inr _=>True) (fun w hw=>by
     obtain ⟨a,i⟩:=w
     simp only at hw
     obtain ⟨k7,sN,y2,agV⟩:=hw
     by_cases ah:i<l.length
     ·obtain ⟨x,U⟩ : ∃x,l[i.toNat]? = some x:=⟨_,List.getElem?_eq_getElem (by omega)⟩
      obtain ⟨r,s1,s2⟩:=Yh x a (aC x (List.mem_of_getElem? U)) k7 (by omega)
      obtain ⟨a3,rfl⟩:=List.getElem?_eq_some_iff.1 U
      have BX:R (i+1)=i+1:=cE (by omega) (by omega)
      by_cases ao:r<0
      ·right
       exact ⟨.inr (),by simp [tR,e8,ah,y2,U,s1,ao],trivial⟩
      ·left
       refine ⟨(r,i+1),by simp [tR,e8,ah,y2,U,s1,ao,BX],?_,?_⟩
       ·simp only;omega
       ·simp only;omega
     ·right
      exact ⟨.inl a,by simp [tR,e8,ah],by simpa using sN⟩) (left-(l.length:Nat),0) (by simp only;omega)
  have yV:IR l (left-(l.length:Nat)) 0=some r:=r1
  rw [yV]
  cases r with
  | inl a=>exact ⟨a,by simp [h],b5,by omega⟩
  | inr a=>exact ⟨-1,by simp [h],by omega,by omega⟩
theorem Oa (l:List cj)(left:Int)(aT:l.length≤maxLen)(h0:0≤left)(h1:left≤1048576):
 ∃r,zA l left=some r∧r≤left∧(0≤r→l.length≤1048576):=by
 have hm:maxLen=9223372036854775807:=by decide
 have hw:R (left-(l.length:Nat))=left-(l.length:Nat):=cE (by omega) (by omega)
 unfold zA
 simp only [e8,hw]
 by_cases h:left-(l.length:Int)<0
 ·exact ⟨-1,by simp [h],by omega,by omega⟩
 ·exact ⟨left-(l.length:Nat),by simp [h],by omega,by omega⟩
theorem W7 (s:cS)(i0:oh s)(left:Int)(h0:0≤left)(h1:left≤1048576):
 ∃r,uc s left=some r∧(0≤r→s.b1.length≤1048576∧s.bO.length≤1048576):=by
 obtain ⟨⟨gi,hn⟩,dp,fh⟩:=i0
 obtain ⟨r,r1,b5,bk⟩:=Og s.b1 left gi (fun j aC=>(hn j aC).1) h0 h1
 unfold uc
 rw [r1]
 by_cases h:r<0
 ·exact ⟨-1,by simp [h],by omega⟩
 ·obtain ⟨q,q1,a1,b0⟩:=Oa s.bO r dp (by omega) (by omega)
  by_cases a7:q<0
  ·exact ⟨-1,by simp [h,q1,a7],by omega⟩
  ·exact ⟨q,by simp [h,q1,a7],fun _=>⟨bk (by omega),b0 (by omega)⟩⟩
theorem s3:maxLen=9223372036854775807:=by decide
theorem Zc (n:Int):xx n=mE n (-50) 50:=by
 rw [qI]
 unfold xx
 by_cases h : -50≤n<;>simp [h]
theorem YG (c:Int):zT c=some (decide (97≤c∧c≤122)):=by
 unfold zT
 by_cases h:97≤c<;>simp [h]
theorem Zd (c:Int):z1 c=some (decide (48≤c∧c≤57)):=by
 unfold z1
 by_cases h:48≤c<;>simp [h]
theorem YH (s:ByteArray)(i:Int):zn s s.size i=sQ s i:=by
 unfold zn sQ
 generalize ((s.data.toList.getD i.toNat 0).toNat:Int)=c
 simp only [YG,Zd,Option.bind_eq_bind,Option.bind_some]
 by_cases h1:i<(s.size:Int)<;>by_cases h0:0≤i<;>by_cases a:(97:Int)≤c<;>by_cases b:c≤122<;>by_cases d:i=0<;>by_cases e:c<48<;>by_cases f:57<c <;>
  simp [h1,h0,a,b,d,e,f,Int.not_lt.1,Int.not_le]<;>omega
theorem ZV (s:ByteArray):Ac s=sV s:=by
 have h:Dk s s.size 0=zC s 0:=by
  unfold Dk zC
  congr 1
  funext w
  exact YH s w
 unfold Ac sV
 rw [h]
 congr 1
 funext r
 cases r with
 | inr a=>rfl
 | inl a =>
  simp only [qI,Option.bind_eq_bind,Option.bind_some]
  by_cases h0:s.size=0
  ·have:s=⟨#[]⟩:=by
    cases s with
    | mk d=>simp only [ByteArray.size] at h0;rw [Array.size_eq_zero_iff] at h0;rw [h0]
   subst this
   have e0:(ByteArray.mk #[]).size=0:=rfl
   simp [e0]
  ·have c4:s.toList≠(⟨#[]⟩:ByteArray).toList:=by
    intro e
    have aT : ∀x:ByteArray,x.toList.length=x.size:=by intro x;rw [ByteArray.toList_eq];rfl
    have:=aT s
    rw [e,aT] at this
    exact h0 this.symm
   simp only [beq_iff_eq,c4,Bool.not_eq_true',beq_eq_false_iff_ne,ne_eq,not_false_eq_true,if_true]
   congr 1
   apply decide_eq_decide.2
   omega
theorem YI (s:ByteArray)(bS:s.size≤maxLen): ∃r,sV s=some r:=by
 have hm:=s3
 obtain ⟨r,h,-⟩:=jA (f:=fun w=>sQ s w) (fun i=>0≤i∧i≤s.size) (fun i=>(s.size-i).toNat) (fun _=>True) (fun i ah=>by
  obtain ⟨h0,h1⟩:=ah
  by_cases o:i<(s.size:Int)
  ·have hw:R (i+1)=i+1:=cE (by omega) (by omega)
   unfold sQ
   generalize ((s.data.toList.getD i.toNat 0).toNat:Int)=c
   have acv:0≤i+1∧i+1≤(s.size:Int):=by omega
   have mf:((s.size:Int)-(i+1)).toNat<((s.size:Int)-i).toNat:=by omega
   have key : ∀x:Option (Int⊕(Unit⊕Unit)),(x=some (.inl (i+1))∨x=some (.inr (.inr ())))→(∃dH,x=some (.inl dH)∧(0≤dH∧dH≤(s.size:Int))∧((s.size:Int)-dH).toNat<((s.size:Int)-i).toNat)∨ ∃r,x=some (.inr r)∧True:=by
    intro x U
    rcases U with U|U
    ·exact .inl ⟨i+1,U,acv,mf⟩
    ·exact .inr ⟨_,U,trivial⟩
   apply key
   simp only [o,h0,hw,decide_true,if_true,and_self]
   by_cases a:(97:Int)≤c<;>by_cases b:c≤122<;>by_cases d:i=0<;>by_cases e:c<48<;>by_cases f:57<c<;>simp [a,b,d,e,f]
  ·exact .inr ⟨.inl (),by simp [sQ,o],trivial⟩) 0 (by omega)
 have cI:zC s 0=some r:=h
 unfold sV
 rw [cI]
 cases r with
 | inl a=>exact ⟨_,by simp [qI];rfl⟩
 | inr a=>exact ⟨_,rfl⟩
end Go.Proofs.YtamedijmgkdlgadGreat
namespace Go.Proofs.YtamedijmgkdlgadGreat
set_option linter.unusedVariables false
set_option linter.unusedSimpArgs false
open Go Go.VL
theorem Ze (j:b3):z2 j=pr j:=by
 unfold z2 pr
 simp only [ZV,Zc]
theorem Om (j:b3)(h:j.ld.size≤maxLen): ∃r,pr j=some r:=by
 obtain ⟨r,ao⟩:=YI _ h
 unfold pr
 simp only [ao,qI,Option.bind_eq_bind,Option.bind_some]
 repeat' split
 all_goals exact ⟨_,rfl⟩
theorem XY (s:cS)(n:ByteArray):zz s n=ue s n:=by
 have h:CF s.b1 n (len_ b9 s.b1) 0=xa n s.b1 (len_ b9 s.b1) 0:=by
  unfold CF xa
  congr 1
 unfold zz ue CJ
 rw [h]
 cases xa n s.b1 (len_ b9 s.b1) 0 with
 | none=>rfl
 | some r=>cases r<;>rfl
theorem NZ (s:cS)(n:ByteArray)(h:s.b1.length≤maxLen): ∃r,ue s n=some r:=by
 have hm:=s3
 obtain ⟨r,h1,-⟩:=jA (f:=fun w=>wq n s.b1 (len_ b9 s.b1) w) (fun i=>0≤i∧i≤s.b1.length) (fun i=>(s.b1.length-i).toNat) (fun _=>True) (fun i ah=>by
  obtain ⟨h0,h1⟩:=ah
  by_cases o:i<(s.b1.length:Int)
  ·have hw:R (i+1)=i+1:=cE (by omega) (by omega)
   obtain ⟨x,U⟩ : ∃x,s.b1[i.toNat]? = some x:=⟨_,List.getElem?_eq_getElem (by omega)⟩
   unfold wq
   simp only [e8,o,h0,hw,U,decide_true,if_true,and_self,Option.bind_eq_bind,Option.bind_some]
   by_cases e:(x.ld.toList == n.toList)=true
   ·exact .inr ⟨_,by rw [if_pos e],trivial⟩
   ·exact .inl ⟨i+1,by rw [if_neg e],by omega,by omega⟩
  ·exact .inr ⟨.inl (),by simp [wq,e8,o],trivial⟩) 0 (by omega)
 have cI:xa n s.b1 (len_ b9 s.b1) 0=some r:=h1
 unfold ue
 rw [cI]
 cases r with
 | inl a=>exact ⟨_,rfl⟩
 | inr a=>exact ⟨_,rfl⟩
theorem N0 (s:cS):CX s.b1 (len_ b9 s.b1) s.bO 0=tW s.b1 (len_ b9 s.b1) s.bO 0:=by
 unfold CX tW
 congr 1
 funext w
 unfold CO rl
 simp only [Ze,XY]
theorem NN (s:cS)(i0:oh s): ∃r,tW s.b1 (len_ b9 s.b1) s.bO 0=some r:=by
 have hm:=s3
 obtain ⟨⟨gi,hn⟩,-⟩:=i0
 obtain ⟨r,h1,-⟩:=jA (f:=fun w=>rl s.b1 (len_ b9 s.b1) s.bO w) (fun i=>0≤i∧i≤s.b1.length) (fun i=>(s.b1.length-i).toNat) (fun _=>True) (fun i ah=>by
  obtain ⟨h0,h1⟩:=ah
  by_cases o:i<(s.b1.length:Int)
  ·have hw:R (i+1)=i+1:=cE (by omega) (by omega)
   obtain ⟨x,U⟩ : ∃x,s.b1[i.toNat]? = some x:=⟨_,List.getElem?_eq_getElem (by omega)⟩
   obtain ⟨p,ai⟩:=Om x (hn x (List.mem_of_getElem? U)).1
   obtain ⟨q,a7⟩:=NZ ⟨s.b1,s.bO⟩ x.ld gi
   unfold rl
   simp only [e8,o,h0,hw,U,ai,a7,decide_true,if_true,and_self,Option.bind_eq_bind,Option.bind_some]
   by_cases e:p=true
   ·rw [if_pos e]
    by_cases aE:(q != i)=true
    ·exact .inr ⟨_,by rw [if_pos aE],trivial⟩
    ·exact .inl ⟨i+1,by rw [if_neg aE],by omega,by omega⟩
   ·exact .inr ⟨_,by rw [if_neg e],trivial⟩
  ·exact .inr ⟨.inl (),by simp [rl,e8,o],trivial⟩) 0 (by omega)
 exact ⟨r,h1⟩
def p7 (hp:List b3)(m:cj):Bool :=
 decide (0≤m.dF∧m.dF<hp.length∧0≤m.ei∧m.ei<hp.length∧1≤m.jc∧m.jc≤3) &&
 match hp[m.dF.toNat]?,hp[m.ei.toNat]? with
 | some a,some b=> !(a.iG == b.iG && a.iH == b.iH) && !(a.la && b.la)
 | _,_=>false
theorem JU (s:cS)(m:cj):zc s m=some (p7 s.b1 m):=by
 unfold zc p7
 simp only [e8]
 by_cases h1:m.dF<0
 ·simp [h1];omega
 by_cases o:(s.b1.length:Int)≤m.dF
 ·simp [h1,o];omega
 by_cases ae:m.ei<0
 ·simp [h1,o,ae];omega
 by_cases au:(s.b1.length:Int)≤m.ei
 ·simp [h1,o,ae,au];omega
 by_cases aA:m.jc<1
 ·simp [h1,o,ae,au,aA];omega
 by_cases a2:3<m.jc
 ·simp [h1,o,ae,au,aA,a2];omega
 obtain ⟨x,U⟩ : ∃x,s.b1[m.dF.toNat]? = some x:=⟨_,List.getElem?_eq_getElem (by omega)⟩
 obtain ⟨y,aW⟩ : ∃y,s.b1[m.ei.toNat]? = some y:=⟨_,List.getElem?_eq_getElem (by omega)⟩
 have bx:0≤m.dF∧m.dF<s.b1.length:=by omega
 have ch:0≤m.ei∧m.ei<s.b1.length:=by omega
 have jx:0≤m.dF∧m.dF<s.b1.length∧0≤m.ei∧m.ei<s.b1.length∧1≤m.jc∧m.jc≤3:=by omega
 rw [decide_eq_false h1,decide_eq_false o,decide_eq_false ae,decide_eq_false au,decide_eq_false aA,decide_eq_false a2,decide_eq_true jx,if_pos bx,U]
 simp only [Bool.false_eq_true,if_false,Option.bind_eq_bind,Option.bind_some,Bool.true_and]
 rw [if_pos ch,aW]
 simp only [Option.bind_some]
 by_cases e1:x.iG=y.iG<;>by_cases aE:x.iH=y.iH<;>by_cases yU:x.la=true<;>by_cases Cm:y.la=true<;>simp [e1,aE,yU,Cm]
theorem XK (hp:List b3)(fS:List cj)(aC:hp.length≤6)(Ez:fS.length≤8)(i:Int):
 zb (R (len_ b9 hp-1)) fS (len_ cv fS) hp i =
 (pV fS hp fS (len_ cv fS) i).map (Sum.map id (Sum.map id fun _=>())):=by
 have hw:R ((hp.length:Nat)-1)=(hp.length:Nat)-1:=cE (by omega) (by omega)
 unfold zb pV xe
 simp only [e8,hw,JU,qI,Option.bind_eq_bind,Option.bind_some]
 by_cases h1:i<(fS.length:Int)
 ·by_cases h0:0≤i
  ·obtain ⟨m,hm⟩ : ∃x,fS[i.toNat]? = some x:=⟨_,List.getElem?_eq_getElem (by omega)⟩
   simp only [h1,h0,hm,decide_true,if_true,and_self,Option.bind_some]
   unfold p7
   by_cases hA:0≤m.dF∧m.dF≤(hp.length:Int)-1
   ·by_cases gH:0≤m.ei∧m.ei≤(hp.length:Int)-1
    ·by_cases hK:1≤m.jc∧m.jc≤3
     ·obtain ⟨x,U⟩ : ∃x,hp[m.dF.toNat]? = some x:=⟨_,List.getElem?_eq_getElem (by omega)⟩
      obtain ⟨y,aW⟩ : ∃y,hp[m.ei.toNat]? = some y:=⟨_,List.getElem?_eq_getElem (by omega)⟩
      have bx:0≤m.dF∧m.dF<hp.length:=by omega
      have ch:0≤m.ei∧m.ei<hp.length:=by omega
      have jx:0≤m.dF∧m.dF<hp.length∧0≤m.ei∧m.ei<hp.length∧1≤m.jc∧m.jc≤3:=by omega
      rw [decide_eq_true hA,decide_eq_true gH,decide_eq_true hK,decide_eq_true jx]
      simp only [if_true,Option.bind_some,Bool.true_and]
      rw [if_pos bx,U]
      simp only [Option.bind_some]
      rw [if_pos ch,aW]
      simp only [Option.bind_some]
      by_cases e1:x.iG=y.iG<;>by_cases aE:x.iH=y.iH<;>by_cases yU:x.la=true<;>by_cases Cm:y.la=true<;>simp [e1,aE,yU,Cm]
     ·have jx : ¬(0≤m.dF∧m.dF<hp.length∧0≤m.ei∧m.ei<hp.length∧1≤m.jc∧m.jc≤3):=by omega
      rw [decide_eq_true hA,decide_eq_true gH,decide_eq_false hK,decide_eq_false jx]
      simp
    ·have jx : ¬(0≤m.dF∧m.dF<hp.length∧0≤m.ei∧m.ei<hp.length∧1≤m.jc∧m.jc≤3):=by omega
     rw [decide_eq_true hA,decide_eq_false gH,decide_eq_false jx]
     simp
   ·have jx : ¬(0≤m.dF∧m.dF<hp.length∧0≤m.ei∧m.ei<hp.length∧1≤m.jc∧m.jc≤3):=by omega
    rw [decide_eq_false hA,decide_eq_false jx]
    simp
  ·simp [h1,h0]
 ·simp [h1]
theorem NE (hp:List b3)(fS:List cj)(Ez:fS.length≤8): ∃r,y4 fS hp fS (len_ cv fS) 0=some r∧ ∀k,r = .inr k→0≤k:=by
 exact jA (f:=fun w=>pV fS hp fS (len_ cv fS) w) (fun i=>0≤i∧i≤fS.length) (fun i=>(fS.length-i).toNat) (fun r=> ∀k,r = .inr k→0≤k) (fun i ah=>by
  obtain ⟨h0,h1⟩:=ah
  by_cases o:i<(fS.length:Int)
  ·have hw:R (i+1)=i+1:=cE (by omega) (by omega)
   obtain ⟨x,U⟩ : ∃x,fS[i.toNat]? = some x:=⟨_,List.getElem?_eq_getElem (by omega)⟩
   unfold pV xe
   simp only [e8,o,h0,hw,U,JU,decide_true,if_true,and_self,Option.bind_eq_bind,Option.bind_some]
   by_cases e:(!p7 hp x)=true
   ·exact .inr ⟨_,by rw [if_pos e],by intro k a6;simp at a6;omega⟩
   ·exact .inl ⟨i+1,by rw [if_neg e],by omega,by omega⟩
  ·exact .inr ⟨.inl (),by simp [pV,e8,o],by intro k a6;simp at a6⟩) 0 (by omega)
theorem NQ (s:cS)(i0:oh s): ∃r,pq s=some r∧xk s=some r:=by
 unfold pq xk
 by_cases h1:6<(s.b1.length:Int)
 ·exact ⟨false,by simp [e8,h1],by simp [e8,h1]⟩
 by_cases o:8<(s.bO.length:Int)
 ·exact ⟨false,by simp [e8,h1,o],by simp [e8,h1,o]⟩
 obtain ⟨r,ao⟩:=NN s i0
 rw [N0,ao]
 obtain ⟨q,a7,lT⟩:=NE s.b1 s.bO (by omega)
 have aej:HE (R (len_ b9 s.b1-1)) s.bO (len_ cv s.bO) s.b1 0=some (Sum.map id (fun _=>()) q) :=
  aau (f:=fun w=>pV s.bO s.b1 s.bO (len_ cv s.bO) w) (Sum.map id fun _=>()) (fun _=>True) (fun _ _ _ _=>trivial)
   (fun i _=>XK s.b1 s.bO (by omega) (by omega) i) 0 q a7 trivial
 simp only [y5,y7,a7,aej,Option.bind_eq_bind,Option.bind_some]
 have d1:decide ((6:Int)<len_ b9 s.b1)=false:=by rw [e8];exact decide_eq_false h1
 have d2:decide ((8:Int)<len_ cv s.bO)=false:=by rw [e8];exact decide_eq_false o
 rw [d1,d2]
 simp only [Bool.false_eq_true,if_false]
 cases r with
 | inr a=>exact ⟨false,rfl,rfl⟩
 | inl a =>
  cases q with
  | inl b=>exact ⟨true,rfl,by simp⟩
  | inr k =>
   have:=lT k rfl
   exact ⟨false,rfl,by simp [this]⟩
theorem XL (j:b3)(h:pr j=some true): -50≤j.iG∧j.iG≤50∧ -50≤j.iH∧j.iH≤50:=by
 unfold pr at h
 cases a3:sV j.ld with
 | none=>simp [a3] at h
 | some r =>
  simp only [a3,qI,Option.bind_eq_bind,Option.bind_some] at h
  cases r with
  | false=>simp at h
  | true =>
   by_cases a : -50≤j.iG∧j.iG≤50
   ·by_cases b : -50≤j.iH∧j.iH≤50
    ·omega
    ·simp [a,b] at h
   ·simp [a] at h
theorem ZW (s:cS)(i0:oh s)(h:tW s.b1 (len_ b9 s.b1) s.bO 0=some (.inl ())): ∀(n:Nat) j,s.b1[n]? = some j→pr j=some true:=by
 have hm:=s3
 obtain ⟨⟨gi,hn⟩,-⟩:=i0
 obtain ⟨r,h1,o⟩:=jA (f:=fun w=>rl s.b1 (len_ b9 s.b1) s.bO w) (fun i=>0≤i∧i≤s.b1.length∧ ∀(n:Nat) j,(n:Int)<i→s.b1[n]? = some j→pr j=some true) (fun i=>(s.b1.length-i).toNat)
  (fun r=>r = .inl ()→ ∀(n:Nat) j,s.b1[n]? = some j→pr j=some true) (fun i ah=>by
  obtain ⟨h0,h1,ae⟩:=ah
  by_cases o:i<(s.b1.length:Int)
  ·have hw:R (i+1)=i+1:=cE (by omega) (by omega)
   obtain ⟨x,U⟩ : ∃x,s.b1[i.toNat]? = some x:=⟨_,List.getElem?_eq_getElem (by omega)⟩
   obtain ⟨p,ai⟩:=Om x (hn x (List.mem_of_getElem? U)).1
   obtain ⟨q,a7⟩:=NZ ⟨s.b1,s.bO⟩ x.ld gi
   unfold rl
   simp only [e8,o,h0,hw,U,ai,a7,decide_true,if_true,and_self,Option.bind_eq_bind,Option.bind_some]
   by_cases e:p=true
   ·rw [if_pos e]
    by_cases aE:(q != i)=true
    ·exact .inr ⟨_,by rw [if_pos aE],by simp⟩
    ·refine .inl ⟨i+1,by rw [if_neg aE],⟨by omega,by omega,fun n j a3 aC=> ?_⟩,by omega⟩
     by_cases c:(n:Int)<i
     ·exact ae n j c aC
     ·have:n=i.toNat:=by omega
      subst this
      rw [U] at aC
      obtain rfl:=Option.some.inj aC
      rw [ai,e]
   ·exact .inr ⟨_,by rw [if_neg e],by simp⟩
  ·refine .inr ⟨.inl (),by simp [rl,e8,o],fun _ n j aC=>ae n j (by have:=fE aC;omega) aC⟩) 0 ⟨by omega,by omega,fun n j a3=>by omega⟩
 have qk:tW s.b1 (len_ b9 s.b1) s.bO 0=some r:=h1
 rw [h] at qk
 exact o (Option.some.inj qk).symm
theorem Zf (hp:List b3)(fS:List cj)(Ez:fS.length≤8)(h:y4 fS hp fS (len_ cv fS) 0=some (.inl ())): ∀(n:Nat) m,fS[n]? = some m→p7 hp m=true:=by
 obtain ⟨r,h1,o⟩:=jA (f:=fun w=>pV fS hp fS (len_ cv fS) w) (fun i=>0≤i∧i≤fS.length∧ ∀(n:Nat) m,(n:Int)<i→fS[n]? = some m→p7 hp m=true) (fun i=>(fS.length-i).toNat)
  (fun r=>r = .inl ()→ ∀(n:Nat) m,fS[n]? = some m→p7 hp m=true) (fun i ah=>by
  obtain ⟨h0,h1,ae⟩:=ah
  by_cases o:i<(fS.length:Int)
  ·have hw:R (i+1)=i+1:=cE (by omega) (by omega)
   obtain ⟨x,U⟩ : ∃x,fS[i.toNat]? = some x:=⟨_,List.getElem?_eq_getElem (by omega)⟩
   unfold pV xe
   simp only [e8,o,h0,hw,U,JU,decide_true,if_true,and_self,Option.bind_eq_bind,Option.bind_some]
   by_cases e:(!p7 hp x)=true
   ·exact .inr ⟨_,by rw [if_pos e],by simp⟩
   ·refine .inl ⟨i+1,by rw [if_neg e],⟨by omega,by omega,fun n j a3 aC=> ?_⟩,by omega⟩
    by_cases c:(n:Int)<i
    ·exact ae n j c aC
    ·have:n=i.toNat:=by omega
     subst this
     rw [U] at aC
     obtain rfl:=Option.some.inj aC
     simpa using e
  ·refine .inr ⟨.inl (),by simp [pV,e8,o],fun _ n j aC=>ae n j (by have:=fE aC;omega) aC⟩) 0 ⟨by omega,by omega,fun n j a3=>by omega⟩
 have qk:y4 fS hp fS (len_ cv fS) 0=some r:=h1
 rw [h] at qk
 exact o (Option.some.inj qk).symm
theorem IQ (s:cS)(i0:oh s)(h:pq s=some true):
 (∀(n:Nat) j,s.b1[n]? = some j→pr j=some true)∧(∀(n:Nat) m,s.bO[n]? = some m→p7 s.b1 m=true)∧s.b1.length≤6∧s.bO.length≤8:=by
 obtain ⟨p,p1,hi⟩:=NQ s i0
 rw [h] at p1
 obtain rfl:=Option.some.inj p1
 unfold xk at hi
 by_cases h1:6<(s.b1.length:Int)
 ·simp [e8,h1] at hi
 by_cases o:8<(s.bO.length:Int)
 ·simp [e8,h1,o] at hi
 obtain ⟨r,ao⟩:=NN s i0
 rw [N0,ao] at hi
 obtain ⟨q,a7,lT⟩:=NE s.b1 s.bO (by omega)
 have d1:decide ((6:Int)<len_ b9 s.b1)=false:=by rw [e8];exact decide_eq_false h1
 have d2:decide ((8:Int)<len_ cv s.bO)=false:=by rw [e8];exact decide_eq_false o
 rw [d1,d2] at hi
 simp only [y5,y7,a7,Bool.false_eq_true,if_false,Option.bind_eq_bind,Option.bind_some] at hi
 cases r with
 | inr a=>simp at hi
 | inl a =>
  cases q with
  | inr k =>
   have:=lT k rfl
   simp [this] at hi
  | inl b=>exact ⟨ZW s i0 ao,Zf s.b1 s.bO (by omega) a7,by omega,by omega⟩
def pi (s:cS):Prop:=(∀(n:Nat) j,s.b1[n]? = some j→ -50≤j.iG∧j.iG≤50∧ -50≤j.iH∧j.iH≤50)∧(∀(n:Nat) m,s.bO[n]? = some m→p7 s.b1 m=true)∧s.b1.length≤6∧s.bO.length≤8
theorem Xt (s:cS)(i0:oh s)(h:pq s=some true):pi s:=by
 obtain ⟨f1,f2,f3,f4⟩:=IQ s i0 h
 exact ⟨fun n j aC=>XL j (f1 n j aC),f2,f3,f4⟩
theorem abn (s:cS)(h:pi s)(k:Int)(h0:0≤k)(h1:k<s.bO.length):
 ∃x y,rm s k=some (x,y)∧(-100≤x∧x≤100)∧(-100≤y∧y≤100):=by
 obtain ⟨f1,f2,f3,f4⟩:=h
 obtain ⟨m,hm⟩ : ∃x,s.bO[k.toNat]? = some x:=⟨_,List.getElem?_eq_getElem (by omega)⟩
 have vw:=f2 _ m hm
 unfold p7 at vw
 simp only [Bool.and_eq_true,decide_eq_true_eq] at vw
 obtain ⟨⟨g1,g2,g3,g4,-⟩,-⟩:=vw
 obtain ⟨a,bF⟩ : ∃x,s.b1[m.dF.toNat]? = some x:=⟨_,List.getElem?_eq_getElem (by omega)⟩
 obtain ⟨b,aR⟩ : ∃x,s.b1[m.ei.toNat]? = some x:=⟨_,List.getElem?_eq_getElem (by omega)⟩
 have aeT:=f1 _ a bF
 have aeU:=f1 _ b aR
 have e1:R (b.iG-a.iG)=b.iG-a.iG:=cE (by omega) (by omega)
 have aE:R (b.iH-a.iH)=b.iH-a.iH:=cE (by omega) (by omega)
 have dM:0≤k∧k<s.bO.length:=⟨h0,h1⟩
 have bx:0≤m.dF∧m.dF<s.b1.length:=⟨g1,g2⟩
 have ch:0≤m.ei∧m.ei<s.b1.length:=⟨g3,g4⟩
 refine ⟨b.iG-a.iG,b.iH-a.iH,?_,by omega,by omega⟩
 unfold rm
 simp only [if_pos dM,hm,if_pos bx,if_pos ch,bF,aR,Option.bind_eq_bind,Option.bind_some,e1,aE]
theorem abo (s:cS)(h:pi s)(k:Int)(h0:0≤k)(h1:k<s.bO.length){v:Int×Int}(bh:rm s k=some v):zD s k=some v:=by
 obtain ⟨f1,f2,f3,f4⟩:=h
 obtain ⟨m,hm⟩ : ∃x,s.bO[k.toNat]? = some x:=⟨_,List.getElem?_eq_getElem (by omega)⟩
 have vw:=f2 _ m hm
 unfold p7 at vw
 simp only [Bool.and_eq_true,decide_eq_true_eq] at vw
 obtain ⟨⟨g1,g2,g3,g4,-⟩,-⟩:=vw
 obtain ⟨a,bF⟩ : ∃x,s.b1[m.dF.toNat]? = some x:=⟨_,List.getElem?_eq_getElem (by omega)⟩
 obtain ⟨b,aR⟩ : ∃x,s.b1[m.ei.toNat]? = some x:=⟨_,List.getElem?_eq_getElem (by omega)⟩
 have aeT:=f1 _ a bF
 have aeU:=f1 _ b aR
 have e1:R (b.iG-a.iG)=b.iG-a.iG:=cE (by omega) (by omega)
 have aE:R (b.iH-a.iH)=b.iH-a.iH:=cE (by omega) (by omega)
 have dM:0≤k∧k<s.bO.length:=⟨h0,h1⟩
 have bx:0≤m.dF∧m.dF<s.b1.length:=⟨g1,g2⟩
 have ch:0≤m.ei∧m.ei<s.b1.length:=⟨g3,g4⟩
 have sO:rm s k=some (b.iG-a.iG,b.iH-a.iH):=by
  unfold rm
  simp only [if_pos dM,hm,if_pos bx,if_pos ch,bF,aR,Option.bind_eq_bind,Option.bind_some,e1,aE]
 rw [bh] at sO
 obtain rfl:=Option.some.inj sO
 unfold zD
 simp only [if_pos dM,hm,if_pos bx,if_pos ch,bF,aR,Option.bind_eq_bind,Option.bind_some,e1,aE]
theorem ZX (l:List Int)(aT:l.length≤maxLen)(left:Int)(h0:0≤left)(h1:left≤1048576):Aa l left=some (if left<l.length then -1 else left-l.length):=by
 have hm:=s3
 have hw:R (left-((l.length:Nat):Int))=left-(l.length:Nat):=cE (by omega) (by omega)
 unfold Aa
 rw [e8,hw]
 by_cases e:left<(l.length:Nat)
 ·have:left-(l.length:Nat)<0:=by omega
  simp [e,this]
 ·have : ¬left-(l.length:Nat)<0:=by omega
  simp [e,this]
theorem XM (s:cS)(i0:oh s)(left:Int)(h0:0≤left)(h1:left≤1048576)(q:Int)(a7:uc s left=some q):q≤1048576:=by
 obtain ⟨⟨gi,hn⟩,dp,fh⟩:=i0
 obtain ⟨r,r1,b5,bk⟩:=Og s.b1 left gi (fun j aC=>(hn j aC).1) h0 h1
 unfold uc at a7
 rw [r1] at a7
 by_cases h:r<0
 ·simp [h] at a7;omega
 ·obtain ⟨t,t1,t2,t3⟩:=Oa s.bO r dp (by omega) (by omega)
  by_cases cf:t<0
  ·simp [h,t1,cf] at a7;omega
  ·simp [h,t1,cf] at a7;omega
def rQ (l:List Int)(n:Nat)(x:Int):Prop:=0≤x∧x<1000000000∧(∀z,l[n]? = some z→x=z)∧(l[n]? = none→x=0)
theorem uW {l:List Int}(h:cA l){n:Nat}(a3:n<l.length):rQ l n l[n]:=by
 have U:=List.getElem?_eq_getElem a3
 have h0:=h.get U
 exact ⟨h0.1,h0.2,fun z cC=>by rw [U] at cC;exact Option.some.inj cC,fun h=>by rw [U] at h;simp at h⟩
theorem yb {l:List Int}{n:Nat}(a3:¬n<l.length):rQ l n 0:=by
 have U:l[n]? = none:=by simp;omega
 exact ⟨by omega,by omega,fun z cC=>by rw [U] at cC;simp at cC,fun _=>rfl⟩
theorem rQ.take {l:List Int}{n:Nat}{x:Int}(h:rQ l n x):V (l.take (n+1))=V (l.take n)+B n*x:=PU h.2.2.1 h.2.2.2
theorem aaM {a b row:List Int}{carry:Int}{n:Nat}(bF:cA a)(aR:cA b)(bf:carry=0∨carry=1)(q5:a.length≤1000000)(Mh:b.length≤1000000)(ao:row.length≤1000001)(EE:n≤1000001)(a3:n<a.length∨n<b.length∨carry=1):
 ∃x y,rQ a n x∧rQ b n y∧tX a b carry n row=some (.inl ((carry+x+y) / 1000000000,((n+1:Nat):Int),row++[(carry+x+y) % 1000000000])):=by
 have mr:0≤carry∧carry≤1:=by omega
 unfold tX
 simp only [f9]
 by_cases h1:n<a.length
 ·have hA:=uW bF h1
  have U:=List.getElem?_eq_getElem h1
  rw [if_pos (by simp;omega),if_pos (by omega),Int.toNat_natCast,U]
  simp only [Option.bind_eq_bind,Option.bind_some]
  by_cases o:n<b.length
  ·have gH:=uW aR o
   have aW:=List.getElem?_eq_getElem o
   have gi:=hA.1
   have hn:=hA.2.1
   have iv:=gH.1
   have jT:=gH.2.1
   refine ⟨a[n],b[n],hA,gH,?_⟩
   rw [if_pos (by simp;omega),if_pos (by omega),aW]
   simp only [Option.bind_some]
   rw [cE (x:=carry+a[n]) (by omega) (by omega),cE (x:=carry+a[n]+b[n]) (by omega) (by omega),pQ (by omega),m4 (by omega),cE (by omega) (by omega),nw (n:=n) (by omega),if_pos (by simp;omega)]
  ·have gi:=hA.1
   have hn:=hA.2.1
   refine ⟨a[n],0,hA,yb o,?_⟩
   rw [if_neg (by simp;omega),cE (x:=carry+a[n]) (by omega) (by omega),pQ (by omega),m4 (by omega),cE (by omega) (by omega),nw (n:=n) (by omega),if_pos (by simp;omega),Int.add_zero]
 ·rw [if_neg (by simp;omega)]
  by_cases o:n<b.length
  ·have gH:=uW aR o
   have aW:=List.getElem?_eq_getElem o
   have iv:=gH.1
   have jT:=gH.2.1
   refine ⟨0,b[n],yb h1,gH,?_⟩
   rw [if_pos (by simp;omega),if_pos (by omega),Int.toNat_natCast,aW]
   simp only [Option.bind_eq_bind,Option.bind_some]
   rw [cE (x:=carry+b[n]) (by omega) (by omega),pQ (by omega),m4 (by omega),cE (by omega) (by omega),nw (n:=n) (by omega),if_pos (by simp;omega),Int.add_zero]
  ·refine ⟨0,0,yb h1,yb o,?_⟩
   rw [if_neg (by simp;omega),if_pos (by simp;omega),pQ (by omega),m4 (by omega),cE (by omega) (by omega),nw (n:=n) (by omega),if_pos (by simp;omega),Int.add_zero,Int.add_zero]
theorem aaN {a b:List Int}(bF:cA a)(aR:cA b)(q5:a.length≤900000)(Mh:b.length≤900000): ∃r,xC a b=some r∧cA r∧V r=V a+V b∧r.length≤a.length+b.length+1:=by
 obtain ⟨r,ao,h1,o,ae⟩:=jA (f:=fun w:Int×Int×List Int=>tX a b w.1 w.2.1 w.2.2) (eK:=fun w=> ∃n:Nat,w.2.1=n∧w.2.2.length=n∧(w.1=0∨w.1=1)∧cA w.2.2∧V w.2.2+w.1*B n=V (a.take n)+V (b.take n)∧(n≤a.length∨n≤b.length∨w.1=0)∧n≤a.length+b.length+1) (m:=fun w=>(a.length+b.length+2-w.2.1.toNat))
  (fun r=>cA r∧V r=V a+V b∧r.length≤a.length+b.length+1) (by
    rintro ⟨carry,ii,row⟩ ⟨n,e1,aE,bT,de,dw,d9,eX⟩
    simp only at e1 aE bT de dw d9
    subst e1
    by_cases a3:n<a.length∨n<b.length∨carry=1
    ·obtain ⟨x,y,U,aW,pe⟩:=aaM (row:=row) bF aR bT (by omega) (by omega) (by omega) (by omega) a3
     have x0:=U.1
     have x1:=U.2.1
     have S8:=aW.1
     have mC:=aW.2.1
     have Mc:n≤a.length+b.length:=by omega
     refine .inl ⟨_,pe,⟨n+1,rfl,by simp [aE],by simp only;omega,de.append (cA.cons (by omega) cA.nil),?_,?_,by omega⟩,by simp only;omega⟩
     ·simp only
      rw [uG,aE,l8,k9,A8,U.take,aW.take]
      have:=Int.mul_ediv_add_emod (carry+x+y) 1000000000
      generalize (carry+x+y) / 1000000000=u at *
      generalize (carry+x+y) % 1000000000=t at *
      have cf:t=carry+x+y-1000000000*u:=by omega
      rw [cf]
      grind
     ·simp only
      by_cases h:n+1≤a.length∨n+1≤b.length
      ·omega
      ·
       have agG : ¬n<a.length:=by omega
       have agH : ¬n<b.length:=by omega
       have hQ:x=0:=U.2.2.2 (by simp;omega)
       have i5:y=0:=aW.2.2.2 (by simp;omega)
       omega
    ·refine .inr ⟨row,?_,de,?_,by omega⟩
     ·unfold tX
      simp only [f9]
      rw [if_neg (by simp;omega),if_neg (by simp;omega),if_neg (by simp;omega)]
     ·have bf:carry=0:=by omega
      rw [bf,List.take_of_length_le (by omega),List.take_of_length_le (by omega)] at dw
      omega) (0,0,[]) ⟨0,rfl,rfl,.inl rfl,cA.nil,by simp [V],by omega,by omega⟩
 unfold xC Jn
 rw [ao]
 exact ⟨r,rfl,h1,o,ae⟩
theorem ZY {neg:Bool}{r:List Int}(ao:cA r)(aT:r.length≤5000000)(qs:V r<B 60):hS neg r=some (gZ (eh neg (V r))):=by
 have h0:=mG ao
 have:hS neg r=hS neg (L (V r)):=by
  unfold hS xB
  have hlen:=(jb h0).2 qs
  rw [rr ao aT,rr (hb _) (by omega),eo h0]
 rw [this,p6 h0 qs]
theorem ZZ {a b row:List Int}{carry:Int}{n:Nat}(bF:cA a)(aR:cA b)(bf:carry=0∨carry=1)(q5:a.length≤1000000)(a3:n<a.length)(ao:n<row.length):
 ∃x y,rQ a n x∧rQ b n y∧xi a b a.length carry n row=some (.inl ((carry+x+y) / 1000000000,((n+1:Nat):Int),row.set n ((carry+x+y) % 1000000000))):=by
 have mr:0≤carry∧carry≤1:=by omega
 have hA:=uW bF a3
 have U:=List.getElem?_eq_getElem a3
 have gi:=hA.1
 have hn:=hA.2.1
 unfold xi
 simp only [f9]
 rw [if_pos (by simp;omega),if_pos (by omega),Int.toNat_natCast,U]
 simp only [Option.bind_eq_bind,Option.bind_some]
 by_cases o:n<b.length
 ·have gH:=uW aR o
  have aW:=List.getElem?_eq_getElem o
  have iv:=gH.1
  have jT:=gH.2.1
  refine ⟨a[n],b[n],hA,gH,?_⟩
  rw [if_pos (by simp;omega),if_pos (by omega),aW]
  simp only [Option.bind_some]
  rw [if_pos (by omega),if_pos (by omega),cE (x:=a[n]+carry) (by omega) (by omega),cE (x:=a[n]+carry+b[n]) (by omega) (by omega),pQ (by omega),m4 (by omega),cE (by omega) (by omega),nw (n:=n) (by omega),Nat.zero_add,Int.add_comm a[n] carry]
 ·refine ⟨a[n],0,hA,yb o,?_⟩
  rw [if_neg (by simp;omega),if_pos (by omega),if_pos (by omega),cE (x:=a[n]+carry) (by omega) (by omega),pQ (by omega),m4 (by omega),cE (by omega) (by omega),nw (n:=n) (by omega),Nat.zero_add,Int.add_zero,Int.add_comm a[n] carry]
theorem Z0 {a b:List Int}(bF:cA a)(aR:cA b)(q5:a.length≤900000)(ty:b.length≤a.length):
 ∃r,z4 a b a.length 0 0 (List.replicate (a.length+1) 0)=some r∧(r.1=0∨r.1=1)∧cA r.2∧r.2.length=a.length+1∧V r.2+r.1*B a.length=V a+V b∧r.2[a.length]? = some 0:=by
 refine jA (eK:=fun w:Int×Int×List Int=> ∃n:Nat,w.2.1=n∧n≤a.length∧(w.1=0∨w.1=1)∧cA w.2.2∧w.2.2.length=a.length+1∧V w.2.2+w.1*B n=V (a.take n)+V (b.take n)∧ ∀j,n≤j→j<a.length+1→w.2.2[j]? = some 0) (m:=fun w=>a.length-w.2.1.toNat) _ ?_ _ ⟨0,rfl,by omega,.inl rfl,cA.LV _,by simp,by simp [V,K1],fun j _ h=>by simp [List.getElem?_replicate];omega⟩
 rintro ⟨carry,ii,row⟩ ⟨n,e1,aE,bT,de,dw,d9,eX⟩
 simp only at e1 bT de dw d9 eX ⊢
 subst e1
 by_cases a3:n=a.length
 ·subst a3
  refine .inr ⟨(carry,row),by simp [xi],bT,de,dw,?_,eX _ (Nat.le_refl _) (by omega)⟩
  rw [List.take_length,List.take_of_length_le ty] at d9
  exact d9
 ·obtain ⟨x,y,U,aW,pe⟩:=ZZ (row:=row) (n:=n) bF aR bT (by omega) (by omega) (by omega)
  have x0:=U.1
  have x1:=U.2.1
  have S8:=aW.1
  have mC:=aW.2.1
  refine .inl ⟨_,pe,⟨n+1,rfl,by omega,by simp only;omega,de.set (by omega),by simpa using dw,?_,fun j h1 o=> ?_⟩,by simp only;omega⟩
  ·simp only
   rw [rG (eX n (Nat.le_refl _) (by omega)),l8,U.take,aW.take]
   have:=Int.mul_ediv_add_emod (carry+x+y) 1000000000
   generalize (carry+x+y) / 1000000000=u at *
   generalize (carry+x+y) % 1000000000=t at *
   have cf:t=carry+x+y-1000000000*u:=by omega
   rw [cf]
   grind
  ·simp only
   rw [List.getElem?_set_ne (by omega)]
   exact eX j (by omega) o
theorem Px {a b:List Int}(bF:cA a)(aR:cA b)(q5:a.length≤900000)(ty:b.length≤a.length):
 (if 0≤(R ((len_ eI a)+(1:Int)))∧(8:Int)*(R ((len_ eI a)+(1:Int)))≤281474976710656∧(R ((len_ eI a)+(1:Int)))<9223372036854775808 then
   (z4 a b (len_ eI a) 0 0 (List.replicate (R ((len_ eI a)+(1:Int))).toNat 0:List Int)).bind fun bk =>
   if 0≤(len_ eI a)∧(len_ eI a)<(bk.2.length:Nat) then
   if (0+(len_ eI a).toNat)<bk.2.length then
   (p5 (bk.2.set (0+(len_ eI a).toNat) bk.1)).bind fun bJ=>some bJ
   else none
   else none
   else none)=some (L (V a+V b)):=by
 obtain ⟨r,ao,h1,o,ae,au,aA⟩:=Z0 bF aR q5 ty
 rw [f9,nw (by omega),if_pos (by omega),Int.toNat_natCast,ao,Option.bind_some,if_pos (by omega),Int.toNat_natCast,Nat.zero_add,if_pos (by omega)]
 have BB:cA (r.2.set a.length r.1):=o.set (by omega)
 rw [x2 BB (by simp;omega),rG aA,Option.bind_some]
 congr 2
 rw [← au]
 grind
theorem abp {a b:List Int}(bF:cA a)(aR:cA b)(q5:a.length≤900000)(Mh:b.length≤900000):xL a b=some (L (V a+V b)):=by
 unfold xL
 by_cases h:a.length<b.length
 ·rw [if_pos (by rw [f9,f9];simpa using h)]
  have:=Px aR bF Mh (by omega)
  rw [Int.add_comm (V a)]
  exact this
 ·rw [if_neg (by rw [f9,f9];simpa using h)]
  exact Px bF aR q5 (by omega)
theorem Zg {a b row:List Int}{less:Int}{n:Nat}(bF:cA a)(aR:cA b)(aT:less=0∨less=1)(q5:a.length≤1000000)(a3:n<a.length)(ao:n<row.length):
 ∃x y,rQ a n x∧rQ b n y∧xf b a a.length less n row=some (.inl (if x-less-y<0 then (1,((n+1:Nat):Int),row.set n (x-less-y+1000000000)) else (0,((n+1:Nat):Int),row.set n (x-less-y)))):=by
 have mr:0≤less∧less≤1:=by omega
 have hA:=uW bF a3
 have U:=List.getElem?_eq_getElem a3
 have gi:=hA.1
 have hn:=hA.2.1
 unfold xf
 simp only [f9]
 rw [if_pos (by simp;omega),if_pos (by omega),Int.toNat_natCast,U]
 simp only [Option.bind_eq_bind,Option.bind_some]
 by_cases o:n<b.length
 ·have gH:=uW aR o
  have aW:=List.getElem?_eq_getElem o
  have iv:=gH.1
  have jT:=gH.2.1
  refine ⟨a[n],b[n],hA,gH,?_⟩
  rw [if_pos (by simp;omega),if_pos (by omega),aW]
  simp only [Option.bind_some]
  rw [cE (x:=a[n]-less) (by omega) (by omega),cE (x:=a[n]-less-b[n]) (by omega) (by omega),nw (n:=n) (by omega),cE (x:=a[n]-less-b[n]+1000000000) (by omega) (by omega),Nat.zero_add]
  by_cases h:a[n]-less-b[n]<0
  ·rw [if_pos (by simpa using h),if_pos h,if_pos (by omega),if_pos (by omega)]
  ·rw [if_neg (by simpa using h),if_neg h,if_pos (by omega),if_pos (by omega)]
 ·refine ⟨a[n],0,hA,yb o,?_⟩
  rw [if_neg (by simp;omega),cE (x:=a[n]-less) (by omega) (by omega),nw (n:=n) (by omega),cE (x:=a[n]-less+1000000000) (by omega) (by omega),Nat.zero_add,Int.sub_zero]
  by_cases h:a[n]-less<0
  ·rw [if_pos (by simpa using h),if_pos h,if_pos (by omega),if_pos (by omega)]
  ·rw [if_neg (by simpa using h),if_neg h,if_pos (by omega),if_pos (by omega)]
theorem P0 {a b:List Int}(bF:cA a)(aR:cA b)(hlen:b.length≤a.length)(ty:V b≤V a)(q5:a.length≤900000):s0 a b=some (L (V a-V b)):=by
 have : ∃r,JI b a a.length 0 0 (List.replicate a.length 0)=some r∧cA r∧r.length=a.length∧V r=V a-V b:=by
  refine jA (eK:=fun w:Int×Int×List Int=> ∃n:Nat,w.2.1=n∧n≤a.length∧(w.1=0∨w.1=1)∧cA w.2.2∧w.2.2.length=a.length∧V w.2.2-w.1*B n=V (a.take n)-V (b.take n)∧ ∀j,n≤j→j<a.length→w.2.2[j]? = some 0) (m:=fun w=>a.length-w.2.1.toNat) _ ?_ _ ⟨0,rfl,by omega,.inl rfl,cA.LV _,by simp,by simp [V,K1],fun j _ h=>by simp [List.getElem?_replicate];omega⟩
  rintro ⟨less,ii,row⟩ ⟨n,e1,aE,bT,de,dw,d9,eX⟩
  simp only at e1 bT de dw d9 eX ⊢
  subst e1
  by_cases a3:n=a.length
  ·subst a3
   refine .inr ⟨row,by simp [xf],de,dw,?_⟩
   rw [List.take_length,List.take_of_length_le hlen] at d9
   have o:=nc de
   rw [dw] at o
   rcases bT with rfl|rfl<;>omega
  ·obtain ⟨x,y,U,aW,pe⟩:=Zg (row:=row) (n:=n) bF aR bT (by omega) (by omega) (by omega)
   have x0:=U.1
   have x1:=U.2.1
   have S8:=aW.1
   have mC:=aW.2.1
   rw [pe]
   refine .inl ⟨_,rfl,?_⟩
   by_cases h:x-less-y<0
   ·rw [if_pos h]
    refine ⟨⟨n+1,rfl,by omega,.inr rfl,de.set (by omega),by simpa using dw,?_,fun j h1 o=> ?_⟩,by simp only;omega⟩
    ·simp only
     rw [rG (eX n (Nat.le_refl _) (by omega)),l8,U.take,aW.take]
     grind
    ·simp only
     rw [List.getElem?_set_ne (by omega)]
     exact eX j (by omega) o
   ·rw [if_neg h]
    refine ⟨⟨n+1,rfl,by omega,.inl rfl,de.set (by omega),by simpa using dw,?_,fun j h1 o=> ?_⟩,by simp only;omega⟩
    ·simp only
     rw [rG (eX n (Nat.le_refl _) (by omega)),U.take,aW.take]
     grind
    ·simp only
     rw [List.getElem?_set_ne (by omega)]
     exact eX j (by omega) o
 obtain ⟨r,ao,h1,o,ae⟩:=this
 unfold s0
 simp only [f9]
 rw [if_pos (by omega),Int.toNat_natCast,ao]
 simp only [Option.bind_eq_bind,Option.bind_some]
 rw [x2 h1 (by omega),ae]
 rfl
theorem QZ {a b:Int}(h:decide (a<0)=decide (b<0)):eh (decide (a<0)) ((a.natAbs:Int)+(b.natAbs:Int))=a+b:=by
 have cI:a<0↔b<0:=by simpa using h
 unfold eh
 by_cases h1:a<0
 ·have:=cI.1 h1
  simp only [h1,decide_true,if_true]
  omega
 ·have : ¬b<0:=fun aR=>h1 (cI.2 aR)
  simp only [h1,decide_false,Bool.false_eq_true,if_false]
  omega
theorem D7 {a b:Int}(h:¬decide (a<0)=decide (b<0)):eh (decide (a<0)) ((a.natAbs:Int)-(b.natAbs:Int))=a+b∧eh (decide (b<0)) ((b.natAbs:Int)-(a.natAbs:Int))=a+b:=by
 have cI : ¬(a<0↔b<0):=by simpa using h
 unfold eh
 by_cases h1:a<0
 ·have o : ¬b<0:=fun aR=>cI ⟨fun _=>aR,fun _=>h1⟩
  simp only [h1,o,decide_true,if_true,decide_false,Bool.false_eq_true,if_false]
  omega
 ·have o:b<0:=by
   apply Classical.byContradiction
   intro aR
   exact cI ⟨fun h=>absurd h h1,fun h=>absurd h aR⟩
  simp only [h1,o,decide_true,if_true,decide_false,Bool.false_eq_true,if_false]
  omega
theorem DU {x y:Int}(U:0≤x)(LW:x≤y):(L x).length≤(L y).length:=by
 apply (jb U).2
 have:=nc (hb y)
 rw [eo (by omega)] at this
 omega
theorem Py {a b:Int}(bF:(a.natAbs:Int)<B 50)(aR:(b.natAbs:Int)<B 50):p4 (gZ a) (gZ b)=some (gZ (a+b)):=by
 have sP:=(jb (k:=50) (n:=a.natAbs) (by omega)).2 bF
 have vO:=(jb (k:=50) (n:=b.natAbs) (by omega)).2 aR
 have qs:B 50+B 50≤B 60:=by
  have h1:B 51≤B 60:=qP (by omega)
  have o:=oA 50
  rw [l8] at h1
  omega
 have bS:p4 (gZ a) (gZ b)=(if (decide (a<0) == decide (b<0))=true then (xC (L a.natAbs) (L b.natAbs)).bind fun b5=>(hS (decide (a<0)) b5).bind fun bg=>some bg else (p3 (L a.natAbs) (L b.natAbs)).bind fun b5=>if (decide ((0:Int)≤b5))=true then (r2 (L a.natAbs) (L b.natAbs)).bind fun aU=>(hS (decide (a<0)) aU).bind fun bJ=>some bJ else (r2 (L b.natAbs) (L a.natAbs)).bind fun aU=>(hS (decide (b<0)) aU).bind fun bJ=>some bJ):=rfl
 rw [bS]
 by_cases h:decide (a<0)=decide (b<0)
 ·rw [if_pos (by simpa using h)]
  obtain ⟨r,r1,b5,bk,bg⟩:=aaN (hb a.natAbs) (hb b.natAbs) (by omega) (by omega)
  rw [eo (by omega),eo (by omega)] at bk
  rw [r1,Option.bind_some,ZY b5 (by omega) (by omega),bk,QZ h]
  rfl
 ·rw [if_neg (by simpa using h),sd (jr _) (jr _) (by omega),eo (by omega),eo (by omega),Option.bind_some]
  by_cases bf:(b.natAbs:Int)≤a.natAbs
  ·have vx:0≤kZ (a.natAbs:Int) b.natAbs:=by
    apply Int.not_lt.mp
    intro h1
    have:=s8.1 h1
    omega
   rw [if_pos (by simpa using vx),sub_eq (hb _) (hb _) (DU (by omega) bf) (by rw [eo (by omega),eo (by omega)];exact bf) (by omega),eo (by omega),eo (by omega),Option.bind_some,p6 (by omega) (by omega),(D7 h).1]
   rfl
  ·have vx : ¬0≤kZ (a.natAbs:Int) b.natAbs:=by
    have:=s8.2 (show (a.natAbs:Int)<b.natAbs by omega)
    omega
   rw [if_neg (by simpa using vx),sub_eq (hb _) (hb _) (DU (by omega) (by omega)) (by rw [eo (by omega),eo (by omega)];omega) (by omega),eo (by omega),eo (by omega),Option.bind_some,p6 (by omega) (by omega),(D7 h).2]
   rfl
theorem aaO {a b:Int}(bF:(a.natAbs:Int)<B 50)(aR:(b.natAbs:Int)<B 50):xm (gZ a) (gZ b)=some (gZ (a+b)):=by
 have sP:=(jb (k:=50) (n:=a.natAbs) (by omega)).2 bF
 have vO:=(jb (k:=50) (n:=b.natAbs) (by omega)).2 aR
 have bS:xm (gZ a) (gZ b)=((qz (L a.natAbs) (L b.natAbs)).bind fun r1=>if (decide (a<0) == decide (b<0))=true then (xL (L a.natAbs) (L b.natAbs)).bind fun b5=>(m6 (decide (a<0)) b5).bind fun bg=>some bg else if (decide ((0:Int)≤r1))=true then (s0 (L a.natAbs) (L b.natAbs)).bind fun aU=>(m6 (decide (a<0)) aU).bind fun bJ=>some bJ else (s0 (L b.natAbs) (L a.natAbs)).bind fun aU=>(m6 (decide (b<0)) aU).bind fun bJ=>some bJ):=rfl
 rw [bS,O3 (jr _) (jr _) (by omega),eo (by omega),eo (by omega),Option.bind_some]
 by_cases h:decide (a<0)=decide (b<0)
 ·rw [if_pos (by simpa using h),abp (hb _) (hb _) (by omega) (by omega),eo (by omega),eo (by omega),Option.bind_some,r5 (by omega),QZ h]
  rfl
 ·rw [if_neg (by simpa using h)]
  by_cases bf:(b.natAbs:Int)≤a.natAbs
  ·have vx:0≤kZ (a.natAbs:Int) b.natAbs:=by
    apply Int.not_lt.mp
    intro h1
    have:=s8.1 h1
    omega
   rw [if_pos (by simpa using vx),P0 (hb _) (hb _) (DU (by omega) bf) (by rw [eo (by omega),eo (by omega)];exact bf) (by omega),eo (by omega),eo (by omega),Option.bind_some,r5 (by omega),(D7 h).1]
   rfl
  ·have vx : ¬0≤kZ (a.natAbs:Int) b.natAbs:=by
    have:=s8.2 (show (a.natAbs:Int)<b.natAbs by omega)
    omega
   rw [if_neg (by simpa using vx),P0 (hb _) (hb _) (DU (by omega) (by omega)) (by rw [eo (by omega),eo (by omega)];omega) (by omega),eo (by omega),eo (by omega),Option.bind_some,r5 (by omega),(D7 h).2]
   rfl
theorem KS {b:Int}:eh (!(decide (b<0))) (b.natAbs:Int) = -b:=by
 unfold eh
 by_cases h:b<0
 ·simp only [h,decide_true,Bool.not_true,Bool.false_eq_true,if_false]
  omega
 ·simp only [h,decide_false,Bool.not_false,if_true]
  omega
theorem Z1 {a b:Int}(bF:(a.natAbs:Int)<B 50)(aR:(b.natAbs:Int)<B 50):t8 (gZ a) (gZ b)=some (gZ (a-b)):=by
 have bS:t8 (gZ a) (gZ b)=(((m6 (!(decide (b<0))) (L b.natAbs)).bind fun r=>some r).bind fun r1=>(xm (gZ a) r1).bind fun bk=>some bk):=rfl
 rw [bS,r5 (by omega),KS,Option.bind_some,Option.bind_some,aaO bF (by omega),Option.bind_some,Int.sub_eq_add_neg]
theorem Fr.neg {q:Int×Int}(h:Fr q):Fr (-q.1,q.2):=⟨h.pos,by simp only;rw [Int.neg_gcd];exact h.Sz,by simp only;have:=h.num;omega,h.den⟩
theorem Z2 {q:Int×Int}(h:Fr q):uv (mk q)=some (mk (-q.1,q.2)):=by
 have h1:=h.num
 have o:=h.st
 have ae:=KQ
 have bS:uv (mk q)=((hS (!(decide (q.1<0))) (L q.1.natAbs)).bind fun r1=>if (([]:List Int)++L q.2).length*8≤140737488355328 then some (⟨r1,([]:List Int)++L q.2⟩:aM) else none):=rfl
 rw [bS,p6 (by omega) (by omega),KS,Option.bind_some,if_pos (by simp;omega)]
 rfl
theorem P1 {p q:Int×Int}(ai:Fr p)(a7:Fr q):((p.1*q.2).natAbs:Int)<B 48∧(L (p.1.natAbs*q.2:Int)).length≤48∧0≤(p.1.natAbs*q.2:Int):=by
 have a2:=a7.pos
 have bd:=s9 (x:=p.1.natAbs) (y:=q.2) (by omega) (by omega) ai.num a7.den
 have CB:0≤(p.1.natAbs:Int)*q.2:=Int.mul_nonneg (by omega) (by omega)
 rw [KR (by omega)]
 exact ⟨(jb CB).1 bd,bd,CB⟩
theorem abW:B 48+B 48≤B 50:=by
 have h1:B 49≤B 50:=qP (by omega)
 have o:=oA 48
 rw [l8] at h1
 omega
theorem Z3 {p q:Int×Int}(ai:Fr p)(a7:Fr q):rp (mk p) (mk q)=some (enc (low (p.1*q.2+q.1*p.2) (p.2*q.2))):=by
 have h1:=ai.tn
 have o:=ai.st
 have ae:=a7.tn
 have au:=a7.st
 have aA:=ai.pos
 have a2:=a7.pos
 have RL:=ai.num
 have n4:=a7.num
 have agI:=ai.den
 have agJ:=a7.den
 have gH:=abW
 have afU:B 24≤B 48:=qP (by omega)
 have afV:B 50≤B 60:=qP (by omega)
 obtain ⟨bx,ch,jx⟩:=P1 ai a7
 obtain ⟨d1,d2,Mt⟩:=P1 a7 ai
 have af4:=oA 48
 have e1:hN (L p.1.natAbs) (L q.2)=some (L ((p.1.natAbs:Int)*q.2)):=by
  rw [mul_eq (hb _) (hb _) (by omega) (by omega),eo (by omega),eo (by omega)]
 have aE:hN (L q.1.natAbs) (L p.2)=some (L ((q.1.natAbs:Int)*p.2)):=by
  rw [mul_eq (hb _) (hb _) (by omega) (by omega),eo (by omega),eo (by omega)]
 have bT:hS (decide (p.1<0)) (L ((p.1.natAbs:Int)*q.2))=some (gZ (p.1*q.2)):=by
  rw [p6 jx (by rw [← KR (by omega)];omega),AH]
 have de:hS (decide (q.1<0)) (L ((q.1.natAbs:Int)*p.2))=some (gZ (q.1*p.2)):=by
  rw [p6 Mt (by rw [← KR (by omega)];omega),AH]
 have dw:p4 (gZ (p.1*q.2)) (gZ (q.1*p.2))=some (gZ (p.1*q.2+q.1*p.2)):=Py (by omega) (by omega)
 have bn:=s9 (x:=p.2) (y:=q.2) (by omega) (by omega) ai.den a7.den
 have d9:hN (L p.2) (L q.2)=some (L (p.2*q.2)):=by
  rw [mul_eq (hb _) (hb _) (by omega) (by omega),eo (by omega),eo (by omega)]
 have RA:(L (p.1*q.2+q.1*p.2).natAbs).length≤50:=(jb (by omega)).2 (by omega)
 have eX:nP (decide (p.1*q.2+q.1*p.2<0)) (L (p.1*q.2+q.1*p.2).natAbs) (L (p.2*q.2))=some (enc (low (p.1*q.2+q.1*p.2) (p.2*q.2))):=by
  rw [Ka (by omega) (Int.mul_pos aA a2) (by omega) (by omega)]
  have:eh (decide (p.1*q.2+q.1*p.2<0)) ((p.1*q.2+q.1*p.2).natAbs:Int)=p.1*q.2+q.1*p.2:=by
   have:=AH (a:=p.1*q.2+q.1*p.2) (b:=1)
   rwa [Int.mul_one,Int.mul_one] at this
  rw [this]
 have RG:((hN (L p.1.natAbs) (L q.2)).bind fun bJ=>(hS (decide (p.1<0)) bJ).bind fun bz=>(hN (L q.1.natAbs) (L p.2)).bind fun di=>(hS (decide (q.1<0)) di).bind fun eB=>(p4 bz eB).bind fun gB=>(hN (L p.2) (L q.2)).bind fun gp=>(nP gB.cR gB.cH gp).bind fun oT=>some oT)=some (enc (low (p.1*q.2+q.1*p.2) (p.2*q.2))):=by
  rw [e1,Option.bind_some,bT,Option.bind_some,aE,Option.bind_some,de,Option.bind_some,dw,Option.bind_some,d9,Option.bind_some]
  show (nP (decide (p.1*q.2+q.1*p.2<0)) (L (p.1*q.2+q.1*p.2).natAbs) (L (p.2*q.2))).bind _=_
  rw [eX,Option.bind_some]
 have bS:rp (mk p) (mk q)=((qB (L p.2)).bind fun r1=>if r1=true then (qB (L q.2)).bind fun bg=>if bg=true then (p4 (gZ p.1) (gZ q.1)).bind fun bJ=>(nP bJ.cR bJ.cH ([1]:List Int)).bind fun bz=>some bz else ((hN (L p.1.natAbs) (L q.2)).bind fun bJ=>(hS (decide (p.1<0)) bJ).bind fun bz=>(hN (L q.1.natAbs) (L p.2)).bind fun di=>(hS (decide (q.1<0)) di).bind fun eB=>(p4 bz eB).bind fun gB=>(hN (L p.2) (L q.2)).bind fun gp=>(nP gB.cR gB.cH gp).bind fun oT=>some oT) else ((hN (L p.1.natAbs) (L q.2)).bind fun bJ=>(hS (decide (p.1<0)) bJ).bind fun bz=>(hN (L q.1.natAbs) (L p.2)).bind fun di=>(hS (decide (q.1<0)) di).bind fun eB=>(p4 bz eB).bind fun gB=>(hN (L p.2) (L q.2)).bind fun gp=>(nP gB.cR gB.cH gp).bind fun oT=>some oT)):=rfl
 rw [bS,AW (by omega),Option.bind_some]
 by_cases cb:p.2=1
 ·rw [if_pos (by simpa using cb),AW (by omega),Option.bind_some]
  by_cases aQ:q.2=1
  ·rw [if_pos (by simpa using aQ),Py (by omega) (by omega),Option.bind_some]
   have gU:p.1*q.2+q.1*p.2=p.1+q.1:=by rw [cb,aQ,Int.mul_one,Int.mul_one]
   have S9:p.2*q.2=1:=by rw [cb,aQ];rfl
   rw [gU,S9,Rl] at eX
   rw [gU,S9]
   show (nP (decide (p.1+q.1<0)) (L (p.1+q.1).natAbs) [1]).bind _=_
   rw [eX,Option.bind_some]
  ·rw [if_neg (by simpa using aQ)]
   exact RG
 ·rw [if_neg (by simpa using cb)]
  exact RG
def qb (n:Int):Bool:=decide (-100≤n∧n≤100)
def n2 (vR:Nat)(l:List Int):Bool:=decide (l.length=2*vR) && l.all qb
theorem Zh (n:Int):z3 n=some (qb n):=by
 unfold z3 qb
 by_cases h : -100≤n<;>simp [h]
theorem Pz (s:cS)(p:Bool)(ai:pq s=some p)(ri:p=true→s.b1.length≤6)(l:List Int)(aT:l.length≤maxLen):xA s l=some (p && n2 s.b1.length l):=by
 have hm:=s3
 unfold xA
 simp only [ai,Option.bind_eq_bind,Option.bind_some,e8]
 cases p with
 | false=>rfl
 | true =>
  have ri:=ri rfl
  have hw:R (2*((s.b1.length:Nat):Int))=2*((s.b1.length:Nat):Int):=cE (by omega) (by omega)
  rw [hw]
  unfold n2
  by_cases e:l.length=2*s.b1.length
  ·have h1:Jm l (l.length:Nat) 0=some (if l.all qb then .inl () else .inr ()):=by
    refine Av (f:=fun w=>w3 l (l.length:Nat) w) l qb (fun n x U=> ?_) ?_
    ·have dE:=fE U
     unfold w3
     have c:(n:Int)<(l.length:Int):=by omega
     have dL:0≤(n:Int)∧(n:Int)<(l.length:Int):=by omega
     simp only [decide_eq_true c,if_true,if_pos dL,Int.toNat_natCast,U,Option.bind_eq_bind,Option.bind_some,qI]
     rw [i1 (by omega)]
     unfold qb
     by_cases q : -100≤x∧x≤100
     ·simp [q]
     ·rw [decide_eq_false q];simp
    ·simp [w3]
   have c:((l.length:Int) != 2*(s.b1.length:Int))=false:=by simp;omega
   simp only [c,h1,Bool.false_eq_true,if_false,if_true,Option.bind_some]
   cases l.all qb<;>simp [e]
  ·have c:((l.length:Int) != 2*(s.b1.length:Int))=true:=by simp;omega
   simp only [c,if_true]
   simp [e]
theorem YJ (s:cS)(ri:s.b1.length≤6)(l:List Int)(aT:l.length≤maxLen):zU s l=some (n2 s.b1.length l):=by
 have hm:=s3
 have hw:R (2*((s.b1.length:Nat):Int))=2*((s.b1.length:Nat):Int):=cE (by omega) (by omega)
 unfold zU CG CL n2
 simp only [e8,hw,Option.bind_eq_bind]
 obtain ⟨r,h1,o⟩:=ZA (f:=fun w=>vT l (l.length:Nat) w) l (fun n=> !qb n) (fun n x U=>by
  have dE:=fE U
  unfold vT Da
  have c:(n:Int)<(l.length:Int):=by omega
  have dL:0≤(n:Int)∧(n:Int)<(l.length:Int):=by omega
  simp only [decide_eq_true c,if_true,if_pos dL,Int.toNat_natCast,U,Option.bind_eq_bind,Option.bind_some,Zh]
  rw [i1 (by omega)]
  cases qb x<;>rfl) (by simp [vT])
 have qk:FD l (l.length:Nat) 0=some r:=h1
 rw [qk]
 have ac5:(l.any fun n=> !qb n) = !l.all qb:=by
  rw [List.not_all_eq_any_not]
 rw [ac5] at o
 by_cases e:l.length=2*s.b1.length
 ·have c:((l.length:Int) == 2*(s.b1.length:Int))=true:=by simp;omega
  rw [c]
  rcases o with ⟨k,rfl,a6,bF⟩|⟨rfl,bF⟩
  ·simp only [Bool.not_eq_true'] at bF
   simp [e,bF,a6]
  ·simp only [Bool.not_eq_false'] at bF
   simp [e,bF]
 ·have c:((l.length:Int) == 2*(s.b1.length:Int))=false:=by simp;omega
  rw [c]
  simp [e]
theorem sN {i:Int}{a:Nat}(h0:0≤i)(h1:i≤100)(bF:a≤1):R (R (2*i)+(a:Int))=(((2*i+a).toNat:Nat):Int):=by
 rw [cE (x:=2*i) (by omega) (by omega),cE (by omega) (by omega)]
 omega
theorem YK (l:List Int)(h:l.length≤1048576):zK l=some l:=by
 have aR : ∀(n:Nat) x (row:List Int),l[n]? = some x→row.length=l.length→tS l n row=some (.inl (((n+1:Nat):Int),row.set n x)):=by
  intro n x row U ao
  obtain ⟨a3,rfl⟩:=List.getElem?_eq_some_iff.1 U
  have hw:R ((n:Int)+1)=((n+1:Nat):Int):=by rw [cE (by omega) (by omega)];rfl
  simp only [tS,e8,hw]
  simp [a3,ao]
 have he : ∀row:List Int,tS l l.length row=some (.inr row):=by
  intro row
  simp [tS,e8]
 have h1:IU l 0 (List.replicate (len_ eI l).toNat 0)=some l :=
  J6 l (List.replicate (len_ eI l).toNat 0) (by simp [e8]) aR he
 unfold zK
 rw [h1,if_pos (by rw [e8];omega)]
 simp [e8]
theorem XZ (l:List b3)(h:l.length≤1048576):zu l=some l:=by
 have aR : ∀(n:Nat) x (row:List b3),l[n]? = some x→row.length=l.length→tQ l n row=some (.inl (((n+1:Nat):Int),row.set n x)):=by
  intro n x row U ao
  obtain ⟨a3,rfl⟩:=List.getElem?_eq_some_iff.1 U
  have hw:R ((n:Int)+1)=((n+1:Nat):Int):=by rw [cE (by omega) (by omega)];rfl
  simp only [tQ,e8,hw,Ds]
  simp [a3,ao]
 have he : ∀row:List b3,tQ l l.length row=some (.inr row):=by
  intro row
  simp [tQ,e8]
 have h1:H9 l 0 (List.replicate (len_ b9 l).toNat (⟨ByteArray.empty,0,0,false⟩:b3))=some l :=
  J6 l _ (by simp [e8]) aR he
 unfold zu
 rw [h1,if_pos (by rw [e8];omega)]
 simp [e8]
theorem XN (l:List cj)(h:l.length≤1048576):zr l=some l:=by
 have aR : ∀(n:Nat) x (row:List cj),l[n]? = some x→row.length=l.length→tP l n row=some (.inl (((n+1:Nat):Int),row.set n x)):=by
  intro n x row U ao
  obtain ⟨a3,rfl⟩:=List.getElem?_eq_some_iff.1 U
  have hw:R ((n:Int)+1)=((n+1:Nat):Int):=by rw [cE (by omega) (by omega)];rfl
  simp only [tP,e8,hw,Dm]
  simp [a3,ao]
 have he : ∀row:List cj,tP l l.length row=some (.inr row):=by
  intro row
  simp [tP,e8]
 have h1:HC l 0 (List.replicate (len_ cv l).toNat (⟨0,0,0⟩:cj))=some l :=
  J6 l _ (by simp [e8]) aR he
 unfold zr
 rw [h1,if_pos (by rw [e8];omega)]
 simp [e8]
theorem W8 (s:cS)(h1:s.b1.length≤1048576)(o:s.bO.length≤1048576):zo s=some (s.b1,s.bO):=by
 simp [zo,XZ _ h1,XN _ o]
def yW (P:List (List Int)):bs→Prop
 | none=>True
 | some (k,c)=> ∃x,P[k]? = some x∧x.length=c∧c≤1048576
theorem yW.aek {P:List (List Int)}{h:bs}(fw:yW P h):oR P h=true:=by
 cases h with
 | none=>rfl
 | some p =>
  obtain ⟨k,c⟩:=p
  obtain ⟨x,h1,o,-⟩:=fw
  have a6:=fE h1
  have bE:P.getD k []=x:=by rw [List.getD_eq_getElem?_getD,h1];rfl
  simp only [oR,bE,Bool.and_eq_true,decide_eq_true_eq]
  omega
theorem yW.set {P:List (List Int)}{k:Nat}{x y:List Int}(U:P[k]? = some x)(aW:y.length=x.length){h:bs}(fw:yW P h):yW (P.set k y) h:=by
 cases h with
 | none=>trivial
 | some p =>
  obtain ⟨j,c⟩:=p
  obtain ⟨z,h1,o,ae⟩:=fw
  by_cases aC:k=j
  ·subst aC
   rw [U] at h1
   obtain rfl:=Option.some.inj h1
   exact ⟨y,by rw [List.getElem?_set,if_pos rfl,if_pos (fE U)],by omega,ae⟩
  ·exact ⟨z,by rw [List.getElem?_set,if_neg aC];exact h1,o,ae⟩
def kN:List b3→Nat→List Nat
 | [],_=>[]
 | x::l,n=>if x.la then kN l (n+1) else n::kN l (n+1)
theorem Kq : ∀(l:List b3) (n i:Nat),i∈kN l n→n≤i∧i<n+l.length
 | [],n,i,h=>by simp [kN] at h
 | x::l,n,i,h=>by
  rw [kN] at h
  simp only [List.length_cons]
  split at h
  ·have:=Kq l (n+1) i h;omega
  ·rcases List.mem_cons.1 h with h|h
   ·omega
   ·have:=Kq l (n+1) i h;omega
theorem P2 : ∀(l:List b3) (n:Nat),(kN l n).length≤l.length
 | [],n=>by simp [kN]
 | x::l,n=>by
  rw [kN]
  have:=P2 l (n+1)
  split<;>simp only [List.length_cons]<;>omega
theorem Zi {l:List b3}{n:Nat}{x:b3}(h:l[n]? = some x)(m:Nat):kN (l.drop n) m=if x.la then kN (l.drop (n+1)) (m+1) else m::kN (l.drop (n+1)) (m+1):=by
 rw [PP h,kN]
theorem PA {f:Int×List Int→Option ((Int×List Int)⊕List Int)}(hp:List b3)(ri:hp.length≤1000)
 (h : ∀(n:Nat) acc x,hp[n]? = some x→f ((n:Int),acc)=if x.la=true then some (.inl (R ((n:Int)+1),acc)) else if (acc++[(n:Int)]).length*8≤140737488355328 then some (.inl (R ((n:Int)+1),acc++[(n:Int)])) else none)
 (he : ∀acc,f ((hp.length:Int),acc)=some (.inr acc)):iter f ((0:Int),[])=some ((kN hp 0).map (fun n:Nat=>(n:Int))):=by
 obtain ⟨s,h1,o⟩:=iK (fun (n:Nat) (acc:List Int)=>((n:Int),acc)) hp.length (fun n acc=>acc++(kN (hp.drop n) n).map (fun n:Nat=>(n:Int))=(kN hp 0).map (fun n:Nat=>(n:Int))∧acc.length≤n) (fun acc=>acc) (f:=f) (fun n a3 acc cT=>by
  obtain ⟨cT,aT⟩:=cT
  have U:=List.getElem?_eq_getElem a3
  rw [Zi U] at cT
  rw [h n acc _ U,nw (by omega)]
  by_cases c:hp[n].la=true
  ·rw [if_pos c] at cT ⊢
   exact ⟨_,rfl,cT,by omega⟩
  ·rw [if_neg c] at cT ⊢
   rw [if_pos (by simp only [List.length_append,List.length_cons,List.length_nil];omega)]
   refine ⟨_,rfl,?_,by simp only [List.length_append,List.length_cons,List.length_nil];omega⟩
   rw [List.append_assoc]
   exact cT) (fun acc _=>he acc) [] ⟨by rw [List.drop_zero];rfl,by simp⟩
 obtain ⟨o,-⟩:=o
 rw [List.drop_length] at o
 simp only [kN,List.map_nil,List.append_nil] at o
 subst o
 exact h1
theorem J2 (s:cS)(ri:s.b1.length≤1000):uj s=some ((kN s.b1 0).map (fun n:Nat=>(n:Int))):=by
 unfold uj I9
 rw [e8,PA s.b1 ri (fun n acc x U=>by
  have a3:=fE U
  unfold zi
  exact dI (by omega) (bI (by omega) (aS (gt rfl U) rfl))) (fun acc=>by
  unfold zi
  exact dZ (by omega) rfl)]
 rfl
theorem Oh (s:cS)(ri:s.b1.length≤1000):wh s=some ((kN s.b1 0).map (fun n:Nat=>(n:Int))):=by
 unfold wh FL
 rw [e8,PA s.b1 ri (fun n acc x U=>by
  have a3:=fE U
  unfold y6
  exact dI (by omega) (bI (by omega) (aS (gt rfl U) rfl))) (fun acc=>by
  unfold y6
  exact dZ (by omega) rfl)]
 rfl
def hlen:bs→Nat
 | none=>0
 | some (_,c)=>c
def fM (x:Rat):Int×Int:=(x.num,(x.den:Int))
def gk (x:Rat):Prop:=(x.num.natAbs:Int)<B 24∧(x.den:Int)<B 24
def cU (x:Rat):aM:=mk (fM x)
instance afs (x:Rat):Decidable (gk x):=by unfold gk;infer_instance
theorem gk.dJ {x:Rat}(h:gk x):Fr (fM x):=⟨by have:=x.den_pos;simp only [fM];omega,by simp only [fM];rw [Int.gcd,Int.natAbs_natCast];exact x.reduced,h.1,h.2⟩
theorem abq {n d:Int}(bE:0<d):low n d=if gk (Rat.divInt n d) then some (fM (Rat.divInt n d)) else none:=by
 have e1:(Rat.divInt n d).num=n / (Int.gcd n d:Int):=by rw [Rat.num_divInt,Int.sign_eq_one_of_pos bE,Int.one_mul,Int.gcd_comm]
 have aE:((Rat.divInt n d).den:Int)=d / (Int.gcd n d:Int):=by
  rw [Rat.den_divInt,if_neg (by omega),Int.gcd_comm]
  rw [Int.natCast_ediv,Int.natAbs_of_nonneg (by omega)]
 have bT:gk (Rat.divInt n d)↔fits ((n / (Int.gcd n d:Int)).natAbs:Int)∧fits (d / (Int.gcd n d:Int)):=by unfold gk fits;rw [e1,aE]
 unfold low
 by_cases c:gk (Rat.divInt n d)
 ·rw [if_pos c,if_pos (bT.1 c)]
  unfold fM;rw [e1,aE]
 ·rw [if_neg c,if_neg (fun x=>c (bT.2 x))]
theorem Kr {n d:Int}{x:Rat}(bE:0<d)(e:(d:Rat)*x=n)(h:gk x):low n d=some (fM x):=by
 have qi:(d:Rat)≠0:=fun c=>by
  have:d=0:=Rat.intCast_inj.1 (by rw [c];rfl)
  omega
 have:x=Rat.divInt n d:=by rw [Rat.divInt_eq_div,← e];grind
 rw [abq bE,← this,if_pos h]
theorem x3 (x:Rat):((x.den:Int):Rat)*x=((x.num:Int):Rat):=by
 have h:x=(x.num:Rat) / ((x.den:Int):Rat):=by rw [← Rat.divInt_eq_div,Rat.num_divInt_den]
 have bE:((x.den:Int):Rat)≠0:=fun c=>by
  have:(x.den:Int)=0:=Rat.intCast_inj.1 (by rw [c];rfl)
  have:=x.den_pos
  omega
 conv=>lhs;rhs;rw [h]
 grind
theorem Q0 {x y:Rat}(U:gk x)(aW:gk y)(h:gk (x*y)):sX (cU x) (cU y)=some (cU (x*y)):=by
 unfold cU
 rw [ZS U.dJ aW.dJ,Kr (x:=x*y) (Int.mul_pos U.dJ.pos aW.dJ.pos) ?_ h];rfl
 have h1:=x3 x
 have o:=x3 y
 simp only [fM,Rat.intCast_mul]
 grind
theorem KT {x y:Rat}(U:gk x)(aW:gk y)(h:gk (x+y)):rp (cU x) (cU y)=some (cU (x+y)):=by
 unfold cU
 rw [Z3 U.dJ aW.dJ,Kr (x:=x+y) (Int.mul_pos U.dJ.pos aW.dJ.pos) ?_ h];rfl
 have h1:=x3 x
 have o:=x3 y
 simp only [fM,Rat.intCast_mul,Rat.intCast_add]
 grind
theorem gk.neg {x:Rat}(h:gk x):gk (-x):=by
 unfold gk at h ⊢
 rw [Rat.neg_num,Rat.neg_den,Int.natAbs_neg];exact h
theorem Q1 {x:Rat}(U:gk x):uv (cU x)=some (cU (-x)):=by
 unfold cU
 rw [Z2 U.dJ]
 simp only [fM,Rat.neg_num,Rat.neg_den]
theorem aaP {p:Int×Int}(h:Fr p):sZ (mk p)=some true:=by
 have E4:(L p.1.natAbs).length≤24:=(jb (by omega)).2 h.num
 have B3:(L p.2).length≤24:=(jb (by have:=h.pos;omega)).2 h.den
 have ai:=h.pos
 obtain ⟨cb,gi,hn⟩:=J1 (a:=L p.1.natAbs) (by omega)
 obtain ⟨aQ,iv,jT⟩:=J1 (a:=L p.2) (by omega)
 have h1:cb=true:=hn.2 ⟨jr _,by omega⟩
 have o:aQ=true:=jT.2 ⟨jr _,by omega⟩
 subst h1;subst o
 have bE:(L p.2)≠[]:=fun c=>by have:=tg.1 c;omega
 have agK:=List.length_pos_iff.mpr bE
 have e1:zR (mk p).fs=some true:=by
  unfold zR
  show (r3 (L p.1.natAbs)).bind _=_
  rw [gi]
  simp only [Option.bind_some,if_true,f9]
  show (if decide (p.1<0)=true then some (decide ((0:Int)<(L p.1.natAbs).length)) else some true)=_
  by_cases c:p.1<0
  ·rw [if_pos (by simpa using c)]
   have:L p.1.natAbs≠[]:=fun c=>by have:=tg.1 c;omega
   have:=List.length_pos_iff.mpr this
   rw [decide_eq_true (by omega)]
  ·rw [if_neg (by simpa using c)]
 unfold sZ
 rw [e1]
 simp only [Option.bind_eq_bind,Option.bind_some,if_true,f9]
 show (r3 (L p.2)).bind _=_
 rw [iv]
 simp only [Option.bind_some,if_true]
 rw [show (mk p).hC=L p.2 from rfl,show (mk p).fs.cH=L p.1.natAbs from rfl]
 rw [if_neg (by simp [bE]),if_neg (by simp;omega),if_neg (by simp;omega)]
 rw [QW (jr _) (jr _) (by omega) (by omega),eo (by omega),eo (by omega),Qx (by omega),h.Sz]
 simp only [Option.bind_some]
 rw [AW (by omega)]
 rfl
theorem K6 {x:Rat}(U:gk x):sZ (cU x)=some true:=aaP U.dJ
def jR (x:Rat):Int:=if x=0 then 0 else if x<0 then -1 else 1
theorem p8 {x:Rat}(U:gk x):p2 (cU x)=some (jR x):=by
 unfold p2
 rw [K6 U]
 simp only [Option.bind_eq_bind,Option.bind_some,if_true,f9]
 show (if (((L (fM x).1.natAbs).length:Int) == 0)=true then some 0 else if decide ((fM x).1<0)=true then some (-1) else some 1)=_
 have e:((L (fM x).1.natAbs).length:Int)=0↔x.num=0:=by
  rw [Ls (by omega)]
  simp only [fM];omega
 unfold jR
 by_cases h0:x=0
 ·rw [if_pos h0,if_pos]
  rw [beq_iff_eq,e,Rat.num_eq_zero];exact h0
 ·rw [if_neg h0,if_neg (by rw [beq_iff_eq,e,Rat.num_eq_zero];exact h0)]
  by_cases h1:x<0
  ·have o : ¬0≤x:=by grind
   have ae : ¬0≤x.num:=fun c=>o (Rat.num_nonneg.1 c)
   rw [if_pos h1,if_pos (decide_eq_true (show (fM x).1<0 by simp only [fM];omega))]
  ·have o:0≤x:=by grind
   have ae:0≤x.num:=Rat.num_nonneg.2 o
   rw [if_neg h1,if_neg (fun c=>by have:=of_decide_eq_true c;simp only [fM] at this;omega)]
theorem abX {x y:Rat}(U:gk x)(aW:gk y):uu (cU x) (cU y)=some (if x<y then -1 else if y<x then 1 else 0):=by
 unfold cU
 rw [ZU U.dJ aW.dJ]
 unfold kZ
 simp only [fM,← Rat.lt_iff]
theorem Q2 {x y:Rat}(U:gk x)(aW:gk y)(h0:y≠0)(h:gk (x / y)):us (cU x) (cU y)=some (cU (x / y)):=by
 have h1:=U.dJ.tn
 have o:=U.dJ.st
 have ae:=aW.dJ.tn
 have au:=aW.dJ.st
 have aA:=U.dJ.pos
 have a2:(0:Int)<(fM y).1.natAbs:=by
  have:(fM y).1≠0:=fun c=>h0 (Rat.num_eq_zero.1 c)
  omega
 have bd:=s9 (x:=(fM x).1.natAbs) (y:=(fM y).2) (by omega) (by have:=aW.dJ.pos;omega) U.dJ.num aW.dJ.den
 have bn:=s9 (x:=(fM x).2) (y:=(fM y).1.natAbs) (by omega) (by omega) U.dJ.den aW.dJ.num
 have e1:hN (L (fM x).1.natAbs) (L (fM y).2)=some (L (((fM x).1.natAbs:Int)*(fM y).2)):=by
  rw [mul_eq (hb _) (hb _) (by omega) (by omega),eo (by omega),eo (by have:=aW.dJ.pos;omega)]
 have aE:hN (L (fM x).2) (L (fM y).1.natAbs)=some (L ((fM x).2*((fM y).1.natAbs:Int))):=by
  rw [mul_eq (hb _) (hb _) (by omega) (by omega),eo (by omega),eo (by omega)]
 unfold us
 rw [K6 U,K6 aW]
 simp only [Option.bind_eq_bind,Option.bind_some,if_true]
 show (hN (L (fM x).1.natAbs) (L (fM y).2)).bind _=_
 rw [e1]
 simp only [Option.bind_some]
 show (hN (L (fM x).2) (L (fM y).1.natAbs)).bind _=_
 rw [aE]
 simp only [Option.bind_some]
 rw [Ka (Int.mul_nonneg (by omega) (by have:=aW.dJ.pos;omega)) (Int.mul_pos aA a2) (by omega) (by omega)]
 simp only [Option.bind_some]
 rw [Kr (x:=x / y) (Int.mul_pos aA a2) ?_ h];rfl
 have d1:=x3 x
 have d2:=x3 y
 have bT:eh (!((cU x).fs.cR == (cU y).fs.cR)) (((fM x).1.natAbs:Int)*(fM y).2)=(if y<0 then -1 else 1)*((fM x).1*(fM y).2):=by
  show eh (!(decide ((fM x).1<0) == decide ((fM y).1<0))) _=_
  have a3:=Rat.num_nonneg (q:=y)
  have hm:0≤((fM x).1.natAbs:Int)*(fM y).2:=Int.mul_nonneg (by omega) (by have:=aW.dJ.pos;omega)
  have Cd:y<0↔(fM y).1<0:=by
   have ae:=Rat.num_nonneg (q:=y)
   simp only [fM]
   constructor
   ·intro c;have : ¬0≤y:=by grind
    have au : ¬0≤y.num:=fun c=>this (ae.1 c)
    omega
   ·intro c;have : ¬0≤y:=fun dL=>by have:=ae.2 dL;omega
    grind
  by_cases bx:(fM x).1<0<;>by_cases ch:(fM y).1<0
  ·rw [if_pos (Cd.2 ch),decide_eq_true bx,decide_eq_true ch]
   simp only [eh,BEq.rfl,Bool.not_true,Bool.false_eq_true,if_false]
   rw [show ((fM x).1.natAbs:Int) = -(fM x).1 by omega];grind
  ·rw [if_neg (fun c=>ch (Cd.1 c)),decide_eq_true bx,decide_eq_false ch]
   simp only [eh,show (!(true == false))=true from rfl,if_true]
   rw [show ((fM x).1.natAbs:Int) = -(fM x).1 by omega];grind
  ·rw [if_pos (Cd.2 ch),decide_eq_false bx,decide_eq_true ch]
   simp only [eh,show (!(false == true))=true from rfl,if_true]
   rw [show ((fM x).1.natAbs:Int)=(fM x).1 by omega];grind
  ·rw [if_neg (fun c=>ch (Cd.1 c)),decide_eq_false bx,decide_eq_false ch]
   simp only [eh,BEq.rfl,Bool.not_true,Bool.false_eq_true,if_false]
   rw [show ((fM x).1.natAbs:Int)=(fM x).1 by omega];grind
 rw [bT]
 have de:(((fM y).1.natAbs:Int):Rat)=(if y<0 then -1 else 1)*(((fM y).1:Int):Rat):=by
  have a3:=Rat.num_nonneg (q:=y)
  by_cases c:y<0
  ·have:y.num<0:=by have : ¬0≤y.num:=fun h=>by have:=a3.1 h;grind
                    omega
   rw [if_pos c,show ((fM y).1.natAbs:Int) = -(fM y).1 by simp only [fM];omega,Rat.intCast_neg];grind
  ·have:0≤y.num:=a3.2 (by grind)
   rw [if_neg c,show ((fM y).1.natAbs:Int)=(fM y).1 by simp only [fM];omega];grind
 rw [Rat.intCast_mul,de,Rat.intCast_mul,Rat.intCast_mul]
 simp only [fM] at *
 split<;>grind
theorem se {n:Int}(h:oM n):o1 n=some (cU (n:Rat)):=by
 rw [XV h]
 unfold cU fM
 rw [Rat.num_intCast,Rat.den_intCast];rfl
theorem P3 {n d:Int}{x:Rat}(h0:d≠0)(e:(d:Rat)*x=n)(a3:(n.natAbs:Int)<B 24)(bE:(d.natAbs:Int)<B 24):gk x:=by
 have qi:(d:Rat)≠0:=fun c=>h0 (Rat.intCast_inj.1 (by rw [c];rfl))
 have U:x=Rat.divInt n d:=by rw [Rat.divInt_eq_div,← e];grind
 rw [U]
 unfold gk
 rw [Rat.num_divInt,Rat.den_divInt,if_neg h0]
 constructor
 ·have h1:(d.sign*n / (d.gcd n:Int)).natAbs≤(d.sign*n).natAbs:=Int.natAbs_ediv_le_natAbs _ _
  have o:(d.sign*n).natAbs≤n.natAbs:=by
   rw [Int.natAbs_mul]
   have:d.sign.natAbs≤1:=by rw [Int.natAbs_sign];split<;>omega
   exact Nat.le_trans (Nat.mul_le_mul_right _ this) (by omega)
  omega
 ·have:d.natAbs / d.gcd n≤d.natAbs:=Nat.div_le_self _ _
  omega
theorem rA {x:Rat}:jR x=0↔x=0:=by
 unfold jR
 split
 ·simp_all
 ·split<;>simp_all
theorem qL {x:Rat}:0<jR x↔0<x:=by
 unfold jR
 split
 ·rename_i h;rw [h];simp
 ·split
  ·rename_i h1 o;constructor
   ·intro h;omega
   ·intro h;grind
  ·rename_i h1 o;constructor
   ·intro h;grind
   ·intro h;omega
theorem aaQ (n:Nat)(a3:n≤1000)(k:Nat)(a6:k<n)(a b:Nat→Rat)(bF:∀j,j<n→gk (a j))(aR:∀j,j<n→gk (b j))(hm:∀j,j<n→gk (-(a k)*b j))(bS:∀j,j<n→gk (a j-a k*b j)):
 zx k 0 n 0 n (a8 n fun j=>cU (a j)) (a8 n fun j=>cU (b j))=some (a8 n fun j=>cU (a j-a k*b j)):=by
 unfold zx
 refine bI (by omega) (aS (x:=cU (a k)) (by rw [Int.toNat_natCast];exact ie a6) (aS (p8 (bF k a6)) ?_))
 refine od (fun h=> ?_) (fun h=> ?_)
 ·have h0:=rA.1 (by simpa using h)
  congr 1
  exact eY fun j _=>by rw [h0];congr 1;grind
 ·refine aS (Q1 (bF k a6)) ?_
  obtain ⟨s,e1,aE⟩:=iK (f:=fun w:Int×List aM=>wB 0 n 0 n ((n:Nat):Int) (a8 n fun j=>cU (b j)) (cU (-(a k))).fs.cR (cU (-(a k))).fs.cH (cU (-(a k))).hC w.1 w.2)
   (fun (i:Nat) (_:Unit)=>((i:Int),a8 n fun j=>if j<i then cU (a j-a k*b j) else cU (a j))) n (fun _ _=>True) (fun _=>a8 n fun j=>cU (a j-a k*b j))
   (fun i ah _ _=>by
     refine ⟨(),?_,trivial⟩
     unfold wB
     refine dI (by simp only;omega) (bI (by simp only;omega) (aS (x:=cU (b i)) (by simp only;rw [Int.toNat_natCast];exact ie ah) (aS (p8 (aR i ah)) ?_)))
     refine od (fun h=> ?_) (fun h=> ?_)
     ·refine bI (by simp only;omega) (aS (x:=cU (a i)) (by simp only;rw [Int.toNat_natCast,ie ah,if_neg (by omega)]) ?_)
      refine aS (Q0 (bF k a6).neg (aR i ah) (hm i ah)) (aS (KT (bF i ah) (hm i ah) (by have:=bS i ah;rw [show a i + -(a k)*b i=a i-a k*b i by grind];exact this)) ?_)
      refine bI (by simp only;rw [cV];omega) ?_
      simp only
      rw [fF (by omega),Int.toNat_natCast,Nat.zero_add,kW]
      congr 3
      exact eY fun j _=>by
       by_cases c:j=i
       ·subst c;rw [if_pos rfl,if_pos (by omega)];congr 1;grind
       ·rw [if_neg c]
        by_cases ch:j<i
        ·rw [if_pos ch,if_pos (by omega)]
        ·rw [if_neg ch,if_neg (by omega)]
     ·have h0:b i=0:=rA.1 (by simpa using h)
      simp only
      rw [fF (by omega)]
      congr 3
      exact eY fun j _=>by
       by_cases c:j=i
       ·subst c;rw [if_neg (by omega),if_pos (by omega),h0];congr 1;grind
       ·by_cases ch:j<i
        ·rw [if_pos ch,if_pos (by omega)]
        ·rw [if_neg ch,if_neg (by omega)])
   (fun _ _=>by
     unfold wB
     refine dZ (by simp) ?_
     simp only
     congr 2
     exact eY fun j aC=>if_pos aC) () trivial
  refine aS (x:=a8 n fun j=>cU (a j-a k*b j)) ?_ rfl
  unfold Io
  have bT:(a8 n fun j=>if j<0 then cU (a j-a k*b j) else cU (a j))=a8 n fun j=>cU (a j):=eY fun j _=>if_neg (by omega)
  rw [bT] at e1
  exact e1
theorem Z4 (n:Nat)(a3:n≤1000)(k:Nat)(a6:k<n)(a b:Nat→Rat)(bF:∀j,j<n→gk (a j))(aR:∀j,j<n→gk (b j))(hm:∀j,j<n→gk (-(a k)*b j))(bS:∀j,j<n→gk (a j-a k*b j)):
 zs k 0 n (a8 n fun j=>cU (a j)) (a8 n fun j=>cU (b j))=some (a8 n fun j=>cU (a j-a k*b j)):=by
 unfold zs
 rw [cV]
 refine bI (by omega) (aS (x:=cU (a k)) (by rw [Int.toNat_natCast];exact ie a6) (aS (p8 (bF k a6)) ?_))
 refine od (fun h=> ?_) (fun h=> ?_)
 ·have h0:=rA.1 (by simpa using h)
  congr 1
  exact eY fun j _=>by rw [h0];congr 1;grind
 ·refine aS (Q1 (bF k a6)) ?_
  obtain ⟨s,e1,aE⟩:=iK (f:=fun w:Int×List aM=>wo 0 n ((n:Nat):Int) (a8 n fun j=>cU (b j)) (cU (-(a k))).fs.cR (cU (-(a k))).fs.cH (cU (-(a k))).hC w.1 w.2)
   (fun (i:Nat) (_:Unit)=>((i:Int),a8 n fun j=>if j<i then cU (a j-a k*b j) else cU (a j))) n (fun _ _=>True) (fun _=>a8 n fun j=>cU (a j-a k*b j))
   (fun i ah _ _=>by
     refine ⟨(),?_,trivial⟩
     unfold wo
     refine dI (by simp only;omega) (bI (by simp only;omega) (aS (x:=cU (b i)) (by simp only;rw [Int.toNat_natCast];exact ie ah) (aS (p8 (aR i ah)) ?_)))
     refine od (fun h=> ?_) (fun h=> ?_)
     ·refine bI (by simp only;rw [cV];omega) (aS (x:=cU (a i)) (by simp only;rw [Int.toNat_natCast,ie ah,if_neg (by omega)]) ?_)
      refine aS (Q0 (bF k a6).neg (aR i ah) (hm i ah)) (aS (KT (bF i ah) (hm i ah) (by have:=bS i ah;rw [show a i + -(a k)*b i=a i-a k*b i by grind];exact this)) ?_)
      refine bI (by simp only;rw [cV];omega) ?_
      simp only
      rw [fF (by omega),Int.toNat_natCast,Nat.zero_add,kW]
      congr 3
      exact eY fun j _=>by
       by_cases c:j=i
       ·subst c;rw [if_pos rfl,if_pos (by omega)];congr 1;grind
       ·rw [if_neg c]
        by_cases ch:j<i
        ·rw [if_pos ch,if_pos (by omega)]
        ·rw [if_neg ch,if_neg (by omega)]
     ·have h0:b i=0:=rA.1 (by simpa using h)
      simp only
      rw [fF (by omega)]
      congr 3
      exact eY fun j _=>by
       by_cases c:j=i
       ·subst c;rw [if_neg (by omega),if_pos (by omega),h0];congr 1;grind
       ·by_cases ch:j<i
        ·rw [if_pos ch,if_pos (by omega)]
        ·rw [if_neg ch,if_neg (by omega)])
   (fun _ _=>by
     unfold wo
     refine dZ (by simp) ?_
     simp only
     congr 2
     exact eY fun j aC=>if_pos aC) () trivial
  refine aS (x:=a8 n fun j=>cU (a j-a k*b j)) ?_ rfl
  unfold HT
  have bT:(a8 n fun j=>if j<0 then cU (a j-a k*b j) else cU (a j))=a8 n fun j=>cU (a j):=eY fun j _=>if_neg (by omega)
  rw [bT] at e1
  exact e1
def mO (m N:Nat):List bs:=a8 m fun i=>some (i,N+1)
def dB (m:Nat)(t:cm):List Int:=a8 m fun i=>((t.B i:Nat):Int)
def hf (N:Nat)(t:cm)(i:Nat):List aM:=a8 (N+1) fun j=>cU (t.T i j)
def iV (m N:Nat)(t:cm):List (List aM):=a8 m (hf N t)
def lf (N:Nat)(c:Nat→Rat):List aM:=a8 (N+1) fun j=>cU (c j)
structure Lt (m N:Nat) (t:cm) (c:Nat→Rat) (r k:Nat):Prop where
 T : ∀i,i<m→ ∀j,j≤N→gk (t.T i j)
 iw : ∀i,i<m→ ∀j,j≤N→gk ((t.cl r k).T i j)
 M : ∀i,i<m→i≠r→ ∀j,j≤N→gk (-(t.T i k)*(t.T r j / t.T r k))
 bf : ∀j,j≤N→gk (c j)
 sw : ∀j,j≤N→gk (c j-c k*(t.T r j / t.T r k))
 hm : ∀j,j≤N→gk (-(c k)*(t.T r j / t.T r k))
theorem aaR {m N:Nat}(hm:m≤1000)(fT:N<1000){t:cm}{c:Nat→Rat}{r k:Nat}(ao:r<m)(a6:k≤N)(ai:t.T r k≠0)(h:Lt m N t c r k)(ln:Int):
 zy r k ln (mO m N) (dB m t) (lf N c) (iV m N t)=some (dB m (t.cl r k),lf N (fun j=>c j-c k*(t.T r j / t.T r k)),iV m N (t.cl r k)):=by
 have rj : ∀j,(t.cl r k).T r j=t.T r j / t.T r k:=fun j=>by simp [cm.cl]
 have sO : ∀i j,i≠r→(t.cl r k).T i j=t.T i j-t.T i k*(t.T r j / t.T r k):=fun i j ah=>by simp [cm.cl,ah]
 unfold zy
 refine bI (by unfold mO;rw [cV];omega) (aS (x:=some (r,N+1)) (by rw [Int.toNat_natCast];exact ie ao) (aS (x:=(r,N+1)) rfl (aS (x:=hf N t r) (gb ao) ?_)))
 refine bI (by simp only;omega) (aS (x:=cU (t.T r k)) (by rw [Int.toNat_natCast];exact ie (by omega)) ?_)
 obtain ⟨s1,e1,-⟩:=iK (f:=fun w:Int×List (List aM)=>wC r k (((N+1:Nat):Nat):Int) ln (mO m N) (dB m t) (lf N c) (cU (t.T r k)).fs.cR (cU (t.T r k)).fs.cH (cU (t.T r k)).hC w.1 w.2)
  (fun (i:Nat) (_:Unit)=>((i:Int),a8 m fun eD=>if eD=r then a8 (N+1) (fun j=>if j<i then cU (t.T r j / t.T r k) else cU (t.T r j)) else hf N t eD)) (N+1) (fun _ _=>True)
  (fun _=>a8 m fun eD=>if eD=r then hf N (t.cl r k) r else hf N t eD)
  (fun i ah _ _=>by
    refine ⟨(),?_,trivial⟩
    unfold wC
    refine dI (by simp only;omega) (bI (by unfold mO;rw [cV];omega) (aS (x:=some (r,N+1)) (by rw [Int.toNat_natCast];exact ie ao) (aS (x:=(r,N+1)) rfl ?_)))
    refine aS (x:=a8 (N+1) (fun j=>if j<i then cU (t.T r j / t.T r k) else cU (t.T r j))) (by simp only;rw [gb ao,if_pos rfl]) ?_
    refine bI (by simp only;omega) (aS (x:=cU (t.T r i)) (by simp only;rw [Int.toNat_natCast,ie ah,if_neg (by omega)]) ?_)
    refine aS (Q2 (h.T r ao i (by omega)) (h.T r ao k a6) ai (by have:=h.iw r ao i (by omega);rw [rj] at this;exact this)) ?_
    simp only
    rw [fF (by omega),Int.toNat_natCast,Nat.zero_add,kW,kW]
    congr 3
    refine eY fun eD _=> ?_
    by_cases bx:eD=r
    ·rw [if_pos bx,if_pos bx]
     exact eY fun j _=>by
      by_cases ch:j=i
      ·subst ch;rw [if_pos rfl,if_pos (by omega)]
      ·rw [if_neg ch]
       by_cases jx:j<i
       ·rw [if_pos jx,if_pos (by omega)]
       ·rw [if_neg jx,if_neg (by omega)]
    ·rw [if_neg bx,if_neg bx,if_neg bx])
  (fun _ _=>by
    unfold wC
    refine dZ (by simp) ?_
    simp only
    congr 2
    refine eY fun eD _=> ?_
    by_cases bx:eD=r
    ·rw [if_pos bx,if_pos bx]
     exact eY fun j aC=>by rw [if_pos aC,rj]
    ·rw [if_neg bx,if_neg bx]) () trivial
 refine aS (x:=a8 m fun eD=>if eD=r then hf N (t.cl r k) r else hf N t eD) ?_ ?_
 ·unfold Ip
  have bT:(a8 m fun eD=>if eD=r then a8 (N+1) (fun j=>if j<0 then cU (t.T r j / t.T r k) else cU (t.T r j)) else hf N t eD)=iV m N t:=eY fun eD _=>by
   by_cases bx:eD=r
   ·rw [if_pos bx,bx];exact eY fun j _=>if_neg (by omega)
   ·rw [if_neg bx]
  rw [bT] at e1
  exact e1
 obtain ⟨s2,aE,-⟩:=iK (f:=fun w:Int×List (List aM)=>wD r k ((m:Nat):Int) ln (mO m N) (dB m t) (lf N c) w.1 w.2)
  (fun (i:Nat) (_:Unit)=>((i:Int),a8 m fun eD=>if eD=r∨eD<i then hf N (t.cl r k) eD else hf N t eD)) m (fun _ _=>True)
  (fun _=>iV m N (t.cl r k))
  (fun i ah _ _=>by
    refine ⟨(),?_,trivial⟩
    unfold wD
    refine dI (by simp only;omega) (od (fun c4=> ?_) (fun yu=> ?_))
    ·have yX:i≠r:=by intro c;subst c;simp at c4
     refine bI (by unfold mO;rw [cV];simp only;omega) (aS (x:=some (i,N+1)) (by simp only;rw [Int.toNat_natCast];exact ie ah) ?_)
     refine bI (by unfold mO;rw [cV];omega) (aS (x:=some (r,N+1)) (by rw [Int.toNat_natCast];exact ie ao) ?_)
     refine aS (x:=(i,N+1)) rfl (aS (x:=(r,N+1)) rfl ?_)
     refine aS (x:=hf N t i) (by simp only;rw [gb ah,if_neg (by omega)]) (aS (x:=hf N (t.cl r k) r) (by simp only;rw [gb ao,if_pos (.inl rfl)]) ?_)
     refine bI (by simp only;omega) ?_
     refine aS (aaQ (N+1) (by omega) k (by omega) (fun j=>t.T i j) (fun j=>(t.cl r k).T r j) (fun j aC=>h.T i ah j (by omega)) (fun j aC=>h.iw r ao j (by omega)) (fun j aC=>by rw [rj];exact h.M i ah yX j (by omega)) (fun j aC=>by
      have:=h.iw i ah j (by omega);rw [sO i j yX] at this;rw [rj];exact this)) ?_
     simp only
     rw [fF (by omega),kW,kW]
     congr 3
     refine eY fun eD _=> ?_
     by_cases bx:eD=r
     ·rw [if_pos bx,if_pos (.inl bx),bx]
     ·rw [if_neg bx]
      by_cases ch:eD=i
      ·subst ch
       rw [if_pos rfl,if_pos (.inr (by omega))]
       exact eY fun j _=>by rw [sO eD j yX,rj]
      ·rw [if_neg ch]
       by_cases jx:eD<i
       ·rw [if_pos (.inr jx),if_pos (.inr (by omega))]
       ·rw [if_neg (by omega),if_neg (by omega)]
    ·have yX:i=r:=by simp at yu;omega
     simp only
     rw [fF (by omega)]
     congr 3
     refine eY fun eD _=> ?_
     by_cases bx:eD=r∨eD<i
     ·rw [if_pos bx,if_pos (by omega)]
     ·rw [if_neg bx,if_neg (by omega)])
  (fun _ _=>by
    unfold wD
    refine dZ (by simp) ?_
    simp only
    congr 2
    exact eY fun eD kE=>if_pos (.inr kE)) () trivial
 refine aS (x:=iV m N (t.cl r k)) ?_ ?_
 ·unfold Iq
  rw [show ((mO m N).length:Nat)=m from cV ..]
  have bT:(a8 m fun eD=>if eD=r∨eD<0 then hf N (t.cl r k) eD else hf N t eD)=a8 m fun eD=>if eD=r then hf N (t.cl r k) r else hf N t eD:=eY fun eD _=>by
   by_cases bx:eD=r
   ·rw [if_pos (.inl bx),if_pos bx,bx]
   ·rw [if_neg (by omega),if_neg bx]
  rw [bT] at aE
  exact aE
 refine aS (x:=hf N (t.cl r k) r) (gb ao) (bI (by simp only;omega) ?_)
 refine aS (Z4 (N+1) (by omega) k (by omega) c (fun j=>(t.cl r k).T r j) (fun j aC=>h.bf j (by omega)) (fun j aC=>h.iw r ao j (by omega)) (fun j aC=>by rw [rj];exact h.hm j (by omega)) (fun j aC=>by rw [rj];exact h.sw j (by omega))) ?_
 refine bI (by unfold lf;rw [cV,cV]) (bI (by unfold dB;rw [cV];omega) (bI (by unfold dB;rw [cV,Int.toNat_natCast];omega) ?_))
 congr 1
 rw [Int.toNat_natCast,Nat.zero_add]
 congr 1
 ·unfold dB
  rw [kW]
  exact eY fun i _=>by
   simp only [cm.cl]
   split<;>rfl
 ·congr 1
  ·exact eY fun j _=>by rw [rj]
  ·unfold iV
   rw [kW]
   exact eY fun i _=>by
    split
    ·rename_i bx;rw [bx]
    ·rfl
theorem aaS {m:Nat}(hm:m≤1000)(t:cm)(ln:Int)(rows:List (List aM))(cost:List aM)(j:Nat): ∃b,zQ ⟨ln,rows,dB m t,cost⟩ (j:Int)=some b∧(b=true↔ ∃i,i<m∧t.B i=j):=by
 unfold zQ
 obtain ⟨r,e,h⟩:=r8 (f:=fun w:Int=>zg j (dB m t) ((m:Nat):Int) w) (fun (i:Nat) (_:Unit)=>(i:Int)) m (fun i _=> ∀k,k<i→t.B k≠j) (fun r=>(r = .inr ()∧ ∃i,i<m∧t.B i=j)∨(r = .inl ()∧ ¬∃i,i<m∧t.B i=j))
  (fun i ah _ cT=>by
    unfold zg
    by_cases c:t.B i=j
    ·right
     refine ⟨_,dI (by omega) (bI (by unfold dB;rw [cV];omega) (aS (x:=((t.B i:Nat):Int)) (by rw [Int.toNat_natCast];exact gb ah) (gI (by simp [c]) rfl))),.inl ⟨rfl,i,ah,c⟩⟩
    ·left
     refine ⟨(),dI (by omega) (bI (by unfold dB;rw [cV];omega) (aS (x:=((t.B i:Nat):Int)) (by rw [Int.toNat_natCast];exact gb ah) (kb (by simp;omega) (by rw [fF (by omega)])))),fun k a6=> ?_⟩
     by_cases e:k=i
     ·rw [e];exact c
     ·exact cT k (by omega))
  (fun _ cT=>⟨_,dZ (by omega) rfl,.inr ⟨rfl,fun ⟨i,ah,e⟩=>cT i ah e⟩⟩) () (fun k a6=>by omega)
 have ep:C6 j (dB m t) (len_ eI (dB m t)) 0=some r:=by
  unfold C6;rw [f9,show (dB m t).length=m from cV ..];exact e
 rcases h with ⟨rfl,h⟩|⟨rfl,h⟩
 ·exact ⟨true,aS ep rfl,by simp [h]⟩
 ·exact ⟨false,aS ep rfl,by simp [h]⟩
theorem abr {N:Nat}(fT:N<1000)(ln:Int)(rows:List (List aM))(j1:List Int)(c:Nat→Rat){j:Nat}(aC:j≤N)(bf:gk (c j)):uk ⟨ln,rows,j1,lf N c⟩ (j:Int) false=some (jR (c j)):=by
 unfold uk
 refine bI (by unfold lf;rw [cV];omega) (aS (x:=cU (c j)) (by rw [Int.toNat_natCast];exact gb (by omega)) (aS (p8 bf) ?_))
 refine aS (x:= .inl (jR (c j))) ?_ rfl
 unfold Jd
 rw [iter]
 have:zj ln rows j1 (lf N c) (j:Int) false (jR (c j)) 0=some (.inr (.inl (jR (c j)))):=by
  unfold zj
  exact od (fun _=>rfl) (fun _=>rfl)
 simp only
 rw [this];rfl
theorem DV {x y z w:Rat}(aW:0<y)(hw:0<w):(x / y≤z / w↔x*w≤z*y)∧(x / y=z / w↔x*w=z*y):=by
 have e1:x*w=(x / y)*(y*w):=by grind
 have aE:z*y=(z / w)*(y*w):=by grind
 have ai:0<y*w:=Rat.mul_pos aW hw
 constructor
 ·rw [e1,aE]
  constructor
  ·intro h;exact Rat.mul_le_mul_of_nonneg_right h (Rat.le_of_lt ai)
  ·intro h
   apply Classical.byContradiction
   intro c
   have:z / w<x / y:=by grind
   have:=Rat.mul_lt_mul_of_pos_right this ai
   grind
 ·rw [e1,aE]
  constructor
  ·intro h;rw [h]
  ·intro h
   have c4:y*w≠0:=by grind
   grind
def D8 (m N:Nat)(t:cm)(j:Nat)(r:Int):Prop :=
 (r = -1∧ ∀i,i<m→ ¬0<t.T i j)∨ ∃b:Nat,r=b∧b<m∧0<t.T b j∧(∀i,i<m→0<t.T i j→t.T b N*t.T i j≤t.T i N*t.T b j)∧(∀i,i<m→0<t.T i j→t.T b N*t.T i j=t.T i N*t.T b j→t.B b≤t.B i)
theorem aaT {m N:Nat}(hm:m≤1000)(fT:N<1000)(t:cm)(ln:Int)(cost:List aM){j:Nat}(aC:j≤N)(ic:∀i,i<m→ ∀j,j≤N→gk (t.T i j))(a7:∀i,i<m→0<t.T i j→gk (t.T i N / t.T i j)):
 ∃r,zS ⟨ln,iV m N t,dB m t,cost⟩ (j:Int)=some r∧D8 m N t j r:=by
 unfold zS
 obtain ⟨r,e,h⟩:=r8 (f:=fun w:Int×Int×Bool×(List Int)×(List Int)=>wM ln (iV m N t) (dB m t) cost j ((m:Nat):Int) w.1 w.2.1 w.2.2.1 w.2.2.2.1 w.2.2.2.2)
  (fun (i:Nat) (s:Int×aM)=>(s.1,(i:Int),s.2.fs.cR,s.2.fs.cH,s.2.hC)) m
  (fun n s=>(s.1 = -1∧ ∀i,i<n→ ¬0<t.T i j)∨ ∃b:Nat,s.1=b∧b<n∧0<t.T b j∧s.2=cU (t.T b N / t.T b j)∧ ∀i,i<n→0<t.T i j→t.T b N / t.T b j<t.T i N / t.T i j∨(t.T b N / t.T b j=t.T i N / t.T i j∧t.B b≤t.B i))
  (fun r=>D8 m N t j r)
  (fun n a3 s cT=>by
    left
    unfold wM
    have g1:0≤((n:Nat):Int)∧((n:Nat):Int)<((iV m N t).length:Nat):=by unfold iV;rw [cV];omega
    have g2:(iV m N t)[((n:Nat):Int).toNat]? = some (hf N t n):=by rw [Int.toNat_natCast];exact gb a3
    have g3:0≤((j:Nat):Int)∧((j:Nat):Int)<((hf N t n).length:Nat):=by unfold hf;rw [cV];omega
    have g4:(hf N t n)[((j:Nat):Int).toNat]? = some (cU (t.T n j)):=by rw [Int.toNat_natCast];exact gb (by omega)
    have k7:R ((n:Int)+1)=((n+1:Nat):Int):=fF (by omega)
    have wl:R (len_ aO (hf N t n)-1)=(N:Int):=by
     rw [e8,show (hf N t n).length=N+1 from cV ..,cE (by omega) (by omega)];omega
    by_cases ai:0<t.T n j
    ·have bS : ¬jR (t.T n j)≤0:=by have:=qL.2 ai;omega
     have g5:0≤R (len_ aO (hf N t n)-1)∧R (len_ aO (hf N t n)-1)<((hf N t n).length:Nat):=by rw [wl];unfold hf;rw [cV];omega
     have g6:(hf N t n)[(R (len_ aO (hf N t n)-1)).toNat]? = some (cU (t.T n N)):=by rw [wl,Int.toNat_natCast];exact gb (by omega)
     have g7:us (cU (t.T n N)) (cU (t.T n j))=some (cU (t.T n N / t.T n j)):=Q2 (ic n a3 N (by omega)) (ic n a3 j aC) (by grind) (a7 n a3 ai)
     rcases cT with ⟨h1,o⟩|⟨b,h1,aR,jJ,o,ae⟩
     ·refine ⟨((n:Int),cU (t.T n N / t.T n j)),dI (by simp only;omega) (bI g1 (aS g2 (bI g3 (aS g4 (aS (p8 (ic n a3 j aC)) (dZ bS (bI g5 (aS g6 (aS g7 (dI (by simp only;omega) ?_)))))))))),.inr ⟨n,rfl,by omega,ai,rfl,fun i ah iq=> ?_⟩⟩
      ·simp only;rw [k7]
      ·by_cases c:i=n
       ·subst c;exact .inr ⟨rfl,Nat.le_refl _⟩
       ·exact (o i (by omega) iq).elim
     ·have g8:uu (cU (t.T n N / t.T n j)) (⟨(⟨s.2.fs.cR,s.2.fs.cH⟩:bp),s.2.hC⟩:aM)=some (if t.T n N / t.T n j<t.T b N / t.T b j then -1 else if t.T b N / t.T b j<t.T n N / t.T n j then 1 else 0):=by
       have:(⟨(⟨s.2.fs.cR,s.2.fs.cH⟩:bp),s.2.hC⟩:aM)=cU (t.T b N / t.T b j):=o
       rw [this]
       exact abX (a7 n a3 ai) (a7 b (by omega) jJ)
      by_cases bx:t.T n N / t.T n j<t.T b N / t.T b j
      ·rw [if_pos bx] at g8
       refine ⟨((n:Int),cU (t.T n N / t.T n j)),dI (by simp only;omega) (bI g1 (aS g2 (bI g3 (aS g4 (aS (p8 (ic n a3 j aC)) (dZ bS (bI g5 (aS g6 (aS g7 (dZ (by simp only;omega) (aS g8 (dI (by omega) ?_)))))))))))),.inr ⟨n,rfl,by omega,ai,rfl,fun i ah iq=> ?_⟩⟩
       ·simp only;rw [k7]
       ·by_cases c:i=n
        ·subst c;exact .inr ⟨rfl,Nat.le_refl _⟩
        ·rcases ae i (by omega) iq with h|⟨h,-⟩
         ·left;grind
         ·left;rw [← h];exact bx
      ·rw [if_neg bx] at g8
       by_cases ch:t.T b N / t.T b j<t.T n N / t.T n j
       ·rw [if_pos ch] at g8
        refine ⟨s,dI (by simp only;omega) (bI g1 (aS g2 (bI g3 (aS g4 (aS (p8 (ic n a3 j aC)) (dZ bS (bI g5 (aS g6 (aS g7 (dZ (by simp only;omega) (aS g8 (dZ (by omega) (kb (by decide) ?_))))))))))))),.inr ⟨b,h1,by omega,jJ,o,fun i ah iq=> ?_⟩⟩
        ·simp only;rw [k7]
        ·by_cases c:i=n
         ·subst c;exact .inl ch
         ·exact ae i (by omega) iq
       ·rw [if_neg ch] at g8
        have Mi:t.T b N / t.T b j=t.T n N / t.T n j:=by grind
        have E6:0≤((n:Nat):Int)∧((n:Nat):Int)<((dB m t).length:Nat):=by unfold dB;rw [cV];omega
        have E7:(dB m t)[((n:Nat):Int).toNat]? = some ((t.B n:Nat):Int):=by rw [Int.toNat_natCast];exact gb a3
        have SD:0≤s.1∧s.1<((dB m t).length:Nat):=by unfold dB;rw [cV];omega
        have SE:(dB m t)[s.1.toNat]? = some ((t.B b:Nat):Int):=by rw [h1,Int.toNat_natCast];exact gb (by omega)
        by_cases jx:t.B n<t.B b
        ·refine ⟨((n:Int),cU (t.T n N / t.T n j)),dI (by simp only;omega) (bI g1 (aS g2 (bI g3 (aS g4 (aS (p8 (ic n a3 j aC)) (dZ bS (bI g5 (aS g6 (aS g7 (dZ (by simp only;omega) (aS g8 (dZ (by omega) (gI rfl (bI E6 (aS E7 (bI SD (aS SE (dI (by omega) ?_)))))))))))))))))),.inr ⟨n,rfl,by omega,ai,rfl,fun i ah iq=> ?_⟩⟩
         ·simp only;rw [k7]
         ·by_cases c:i=n
          ·subst c;exact .inr ⟨rfl,Nat.le_refl _⟩
          ·rcases ae i (by omega) iq with h|⟨h,cI⟩
           ·left;grind
           ·right;exact ⟨by grind,by omega⟩
        ·refine ⟨s,dI (by simp only;omega) (bI g1 (aS g2 (bI g3 (aS g4 (aS (p8 (ic n a3 j aC)) (dZ bS (bI g5 (aS g6 (aS g7 (dZ (by simp only;omega) (aS g8 (dZ (by omega) (gI rfl (bI E6 (aS E7 (bI SD (aS SE (dZ (by omega) ?_)))))))))))))))))),.inr ⟨b,h1,by omega,jJ,o,fun i ah iq=> ?_⟩⟩
         ·simp only;rw [k7]
         ·by_cases c:i=n
          ·subst c;exact .inr ⟨Mi,by omega⟩
          ·exact ae i (by omega) iq
    ·have bS:jR (t.T n j)≤0:=by
      have : ¬0<jR (t.T n j):=fun c=>ai (qL.1 c)
      omega
     refine ⟨s,dI (by simp only;omega) (bI g1 (aS g2 (bI g3 (aS g4 (aS (p8 (ic n a3 j aC)) (dI bS ?_)))))),?_⟩
     ·simp only;rw [k7]
     ·rcases cT with ⟨h1,o⟩|⟨b,h1,aR,jJ,o,ae⟩
      ·exact .inl ⟨h1,fun i ah=>if c:i=n then c▸ai else o i (by omega)⟩
      ·exact .inr ⟨b,h1,by omega,jJ,o,fun i ah iq=>if c:i=n then (ai (c▸iq)).elim else ae i (by omega) iq⟩)
  (fun s cT=>by
    refine ⟨s.1,by unfold wM;exact dZ (by simp only;omega) rfl,?_⟩
    rcases cT with ⟨h1,o⟩|⟨b,h1,aR,jJ,o,ae⟩
    ·exact .inl ⟨h1,o⟩
    ·refine .inr ⟨b,h1,aR,jJ,fun i ah iq=> ?_,fun i ah iq he=> ?_⟩
     ·rw [← (DV jJ iq).1]
      rcases ae i ah iq with h|⟨h,-⟩
      ·exact Rat.le_of_lt h
      ·rw [h];exact Rat.le_refl
     ·rw [← (DV jJ iq).2] at he
      rcases ae i ah iq with h|⟨-,h⟩
      ·rw [he] at h;grind
      ·exact h) ((-1:Int),(⟨⟨false,[]⟩,[]⟩:aM)) (.inl ⟨rfl,fun i ah=>by omega⟩)
 refine ⟨r,aS ?_ rfl,h⟩
 unfold IZ
 rw [e8,show (iV m N t).length=m from cV ..]
 exact e
theorem AX {m N:Nat}(t:cm):(mO m N).all (oR (iV m N t))=true:=by
 rw [List.all_eq_true]
 intro x U
 obtain ⟨i,ah,rfl⟩:=D5.1 U
 simp only [oR]
 have h1:(iV m N t).length=m:=cV ..
 have o:(iV m N t).getD i []=hf N t i:=by
  rw [List.getD_eq_getElem?_getD,show (iV m N t)[i]? = some (hf N t i) from gb ah];rfl
 rw [h1,o,show (hf N t i).length=N+1 from cV ..]
 simp [ah]
theorem uP {m N:Nat}(t:cm):(mO m N).map (gz (iV m N t))=iV m N t:=by
 unfold mO
 rw [Kz]
 exact eY fun i ah=>by
  have o:(iV m N t).getD i []=hf N t i:=by
   rw [List.getD_eq_getElem?_getD,show (iV m N t)[i]? = some (hf N t i) from gb ah];rfl
  simp only [gz]
  rw [o]
  exact List.take_of_length_le (Nat.le_of_eq (cV ..))
theorem aaU {m N:Nat}(hm:m≤1000)(fT:N<1000)(t:cm)(c:Nat→Rat)(deep:Bool)(G:Nat→Prop)(aeV:∀j,G j→ ∀i,i<m→t.B i≠j)
 (bS : ∀j,j<N→ ∃g,uk ⟨N,iV m N t,dB m t,lf N c⟩ (j:Int) deep=some g∧((∀i,i<m→t.B i≠j)→(0<g↔G j))) :
 ∃r,C7 deep N (mO m N) (dB m t) (lf N c) (iV m N t) (-1) 0=some r∧((r = -1∧ ∀j,j<N→ ¬G j)∨ ∃s:Nat,r=s∧s<N∧G s∧ ∀j,j<s→ ¬G j):=by
 unfold C7
 refine r8 (f:=fun w:Int×Int=>tU deep N (mO m N) (dB m t) (lf N c) (iV m N t) w.1 w.2) (fun (i:Nat) (e:Int)=>(e,(i:Int))) N
  (fun n e=>(e = -1∧ ∀j,j<n→ ¬G j)∨ ∃s:Nat,e=s∧s<N∧G s∧ ∀j,j<s→ ¬G j) _ (fun n a3 e cT=> ?_) (fun e cT=> ?_) (-1) (.inl ⟨rfl,fun j aC=>by omega⟩)
 ·rcases cT with ⟨rfl,h⟩|⟨s,rfl,vt,sA,ael⟩
  ·left
   obtain ⟨b,e1,aE⟩:=aaS hm t (N:Int) (iV m N t) (lf N c) n
   obtain ⟨g,g1,g2⟩:=bS n a3
   unfold tU
   cases b with
   | true =>
    obtain ⟨i,ah,EK⟩:=aE.1 rfl
    refine ⟨-1,dI (by simp only;omega) (dI (by simp) (bI (AX t) (aS (by rw [uP];exact e1) (gI rfl ?_)))),.inl ⟨rfl,fun j aC dt=> ?_⟩⟩
    ·simp only;rw [fF (by omega)]
    ·by_cases c:j=n
     ·subst c;exact aeV j dt i ah EK
     ·exact h j (by omega) dt
   | false =>
    have SF : ∀i,i<m→t.B i≠n:=fun i ah e=>by have:=aE.2 ⟨i,ah,e⟩;simp at this
    by_cases dt:G n
    ·refine ⟨(n:Int),dI (by simp only;omega) (dI (by simp) (bI (AX t) (aS (by rw [uP];exact e1) (kb rfl (aS (by rw [uP];exact g1) (dI ((g2 SF).2 dt) ?_)))))),.inr ⟨n,rfl,a3,dt,h⟩⟩
     simp only;rw [fF (by omega)]
    ·refine ⟨-1,dI (by simp only;omega) (dI (by simp) (bI (AX t) (aS (by rw [uP];exact e1) (kb rfl (aS (by rw [uP];exact g1) (dZ (fun x=>dt ((g2 SF).1 x)) ?_)))))),.inl ⟨rfl,fun j aC=>if c:j=n then c▸dt else h j (by omega)⟩⟩
     simp only;rw [fF (by omega)]
  ·right
   exact ⟨(s:Int),by unfold tU;exact dI (by simp only;omega) (dZ (by simp only;omega) rfl),.inr ⟨s,rfl,vt,sA,ael⟩⟩
 ·exact ⟨e,by unfold tU;exact dZ (by simp only;omega) rfl,cT⟩
theorem cm.YL {gn m N K:Nat}{A obj:Nat→Nat→Rat}{t:cm}(h:ga gn m N A t){j:Nat}(g:t.re m K obj j): ∀i,i<m→t.B i≠j :=
 fun i ah e=>hB.not_zero g fun l _=>by rw [← e];exact h.xG (obj l) ah
theorem abY {gn m N K:Nat}(hm:m≤1000)(fT:N<1000){A obj:Nat→Nat→Rat}(deep:Bool)(Inv:cm→Prop)
 (inv : ∀t,Inv t→ga gn m N A t∧t.k0 m N) (gL : ∀t r s,Inv t→nW m N K obj (fun _=>True) t r s→Inv (t.cl r s))
 (bS : ∀t,Inv t→ ∀j,j<N→ ∃g,uk ⟨N,iV m N t,dB m t,lf N (t.c3 m (obj 0))⟩ (j:Int) deep=some g∧((∀i,i<m→t.B i≠j)→(0<g↔t.re m K obj j)))
 (ic : ∀t,Inv t→ ∀i,i<m→ ∀j,j≤N→gk (t.T i j)) (a7 : ∀t,Inv t→ ∀i,i<m→ ∀j,j≤N→0<t.T i j→gk (t.T i N / t.T i j))
 (ai : ∀t,Inv t→ ∀r k,r<m→k<N→t.T r k≠0→Lt m N t (t.c3 m (obj 0)) r k) (t:cm) (cf:Inv t) :
 ∃b df,xu deep N (mO m N) (dB m t) (lf N (t.c3 m (obj 0))) (iV m N t)=some (b,dB m df,lf N (df.c3 m (obj 0)),iV m N df)∧Inv df ∧
  ((b=true∧ ∀j,j<N→ ¬df.re m K obj j)∨(b=false∧ ∃s,s<N∧df.re m K obj s∧ ∀i,i<m→ ¬0<df.T i s)):=by
 obtain ⟨x,dH,df,e,⟨R3,cT⟩,-,-,er⟩:=O1 (gn:=gn) (m:=m) (N:=N) (K:=K) (A:=A) (obj:=obj) (bW:=fun _=>True)
  (f:=fun w:(List Int)×(List aM)×(List (List aM))=>zh deep N (mO m N) w.1 w.2.1 w.2.2)
  (fun a t=>a=(dB m t,lf N (t.c3 m (obj 0)),iV m N t)∧Inv t)
  (fun a x t=> ∃b,x=(b,dB m t,lf N (t.c3 m (obj 0)),iV m N t)∧((b=true∧ ∀j,j<N→ ¬t.re m K obj j)∨(b=false∧ ∃s,s<N∧t.re m K obj s∧ ∀i,i<m→ ¬0<t.T i s)))
  (fun a t cZ ok ls=>by
    obtain ⟨rfl,cT⟩:=cZ
    obtain ⟨r,e1,aE⟩:=aaU hm fT t (t.c3 m (obj 0)) deep (t.re m K obj) (fun j dt=>cm.YL ok dt) (bS t cT)
    simp only
    unfold zh
    rcases aE with ⟨rfl,h⟩|⟨s,rfl,E8,dt,aT⟩
    ·left
     exact ⟨_,aS e1 (dI (by decide) rfl),true,rfl,.inl ⟨rfl,h⟩⟩
    ·obtain ⟨q,q1,a1⟩:=aaT hm fT t (N:Int) (lf N (t.c3 m (obj 0))) (j:=s) (by omega) (ic t cT) (fun i ah iq=>a7 t cT i ah s (by omega) iq)
     rcases a1 with ⟨rfl,h⟩|⟨b,rfl,aR,jJ,h1,o⟩
     ·left
      exact ⟨_,aS e1 (dZ (by omega) (bI (AX t) (aS (by rw [uP];exact q1) (dI (by decide) rfl)))),false,rfl,.inr ⟨rfl,s,E8,dt,h⟩⟩
     ·right
      have c8:nW m N K obj (fun _=>True) t b s:=⟨E8,trivial,dt,fun j aC _=>aT j aC,aR,jJ,h1,o⟩
      refine ⟨_,b,s,aS e1 (dZ (by omega) (bI (AX t) (aS (by rw [uP];exact q1) (dZ (by omega) (aS (aaR hm fT aR (by omega) (by grind) (ai t cT b s aR E8 (by grind)) N) rfl))))),c8,?_,gL t b s cT c8⟩
      refine Prod.ext rfl (Prod.ext ?_ rfl)
      exact eY fun j _=>by rw [ok.Ko (obj 0) aR E8 (by grind)])
  (a:=(dB m t,lf N (t.c3 m (obj 0)),iV m N t)) (t:=t) ⟨rfl,cf⟩ (inv t cf).1 (inv t cf).2
 obtain ⟨b,rfl,aR⟩:=er
 refine ⟨b,df,?_,cT,aR⟩
 unfold xu
 exact aS (x:=(b,dB m df,lf N (df.c3 m (obj 0)),iV m N df)) (by unfold I0;exact e) rfl
structure mh (p:hz) (m n:Nat) (a:Nat→Nat→Int) (b:Nat→Int):Prop where
 rows:p.fq=m
 gu:p.ec=n
 gR:p.dF.length=m*n
 Lu : ∀i,i<m→ ∀j,j<n→p.dF[i*n+j]? = some (a i j)
 vP:p.ei.length=m
 yr : ∀i,i<m→p.ei[i]? = some (b i)
 hm:m≤20
 a3:n≤40
 sP : ∀i,i<m→ ∀j,j<n→ -100≤a i j∧a i j≤100
 vO : ∀i,i<m→ -100≤b i∧b i≤100
theorem sq {p:hz}{m n:Nat}{a:Nat→Nat→Int}{b:Nat→Int}(h:mh p m n a b){i:Nat}(ah:i<m)(j:Nat): -100≤kq m n a b i j∧kq m n a b i j≤100:=by
 have aR:=h.vO i ah
 unfold kq kk
 by_cases c:j<n
 ·have bF:=h.sP i ah j c
  rw [if_pos c];split<;>omega
 ·rw [if_neg c]
  split
  ·split<;>omega
  ·split<;>omega
theorem K7 {p:hz}{m n:Nat}{a:Nat→Nat→Int}{b:Nat→Int}(h:mh p m n a b){i:Nat}(ah:i<m)(j:Nat):eu 100 (dx m n a b i j) :=
 ⟨kq m n a b i j,rfl,by have:=sq h ah j;omega⟩
theorem abt:(1000000000000000000:Int)<B 24:=by decide
theorem Kb {K:Nat}{x:Rat}(h:eu K x)(a6:K≤1000000000000000000):gk x:=by
 obtain ⟨z,rfl,cC⟩:=h
 have:=abt
 exact P3 (n:=z) (d:=1) (by decide) (by rw [show ((1:Int):Rat)=1 from rfl];grind) (by omega) (by omega)
theorem KU {p:hz}{m n:Nat}{a:Nat→Nat→Int}{b:Nat→Int}(h:mh p m n a b){i:Nat}(ah:i<m):ur p i=some (a8 n (a i)):=by
 have hm:=h.hm
 have a3:=h.a3
 have h1:i*n≤20*40:=Nat.mul_le_mul (by omega) a3
 have o:(i+1)*n≤20*40:=Nat.mul_le_mul (by omega) a3
 have ae:(i+1)*n≤m*n:=Nat.mul_le_mul_right _ ah
 have e1:R ((i:Int)*p.ec)=((i*n:Nat):Int):=by
  rw [h.gu,← Int.natCast_mul,cE (by omega) (by omega)]
 have aE:R (R ((i:Int)+1)*p.ec)=(((i+1)*n:Nat):Int):=by
  rw [h.gu,fF (by omega),← Int.natCast_mul,cE (by omega) (by omega)]
 have au:(i+1)*n=i*n+n:=Nat.succ_mul i n
 unfold ur
 rw [e1,aE,Int.toNat_natCast,Int.toNat_natCast,h.gR]
 refine bI (by omega) (bI (by omega) (bI (by omega) ?_))
 congr 1
 apply List.ext_getElem?
 intro j
 rw [List.getElem?_take,List.getElem?_drop]
 by_cases c:j<n
 ·rw [if_pos (by omega),h.Lu i ah j c,gb c]
 ·rw [if_neg (by omega)]
  symm
  rw [List.getElem?_eq_none_iff,cV];omega
def g9 (m n:Nat)(a:Nat→Nat→Int)(b:Nat→Int)(i j:Nat):Rat:=if j<n∨j=n+m then cL i (fun k=>dx m n a b k j) else 0
theorem Rm {p:hz}{m n:Nat}{a:Nat→Nat→Int}{b:Nat→Int}(h:mh p m n a b){i:Nat}(ah:i≤m)(j:Nat):eu 2000 (g9 m n a b i j):=by
 have hm:=h.hm
 unfold g9
 split
 ·exact (eu.sum fun k a6=>K7 h (by omega) j).mono (by omega)
 ·exact ⟨0,rfl,by omega⟩
theorem X0 {p:hz}{m n:Nat}{a:Nat→Nat→Int}{b:Nat→Int}(h:mh p m n a b){i:Nat}(ah:i<m)(aR:b i<0)(x0:Int)(a1:List bs)(b0:List (List aM))(ct:List Int)(dh:List aM):
 (C0 (i:Int) (a8 n (a i)) (len_ eI (a8 n (a i))) p.fq p.ec p.dF p.ei p.hL x0 a1 b0 ct dh 0 ([]:List aM) >>= fun c0=>C1 (i:Int) p.fq p.ec p.dF p.ei p.hL x0 a1 b0 ct dh 0 c0)=some (a8 (n+m) fun j=>cU (dx m n a b i j)):=by
 have hm:=h.hm
 have a3:=h.a3
 have bS:kk (b i) = -1:=by unfold kk;rw [if_pos aR]
 obtain ⟨s1,e1,-⟩:=iK (f:=fun w:Int×List aM=>wy (i:Int) (a8 n (a i)) ((n:Nat):Int) p.fq p.ec p.dF p.ei p.hL x0 a1 b0 ct dh w.1 w.2)
  (fun (k:Nat) (_:Unit)=>((k:Int),a8 k fun j=>cU (dx m n a b i j))) n (fun _ _=>True) (fun _=>a8 n fun j=>cU (dx m n a b i j))
  (fun k a6 _ _=>by
    refine ⟨(),?_,trivial⟩
    have bF:=h.sP i ah k a6
    unfold wy
    have e:R ((-1:Int)*a i k)=kq m n a b i k:=by
     rw [cE (by omega) (by omega)];unfold kq;rw [if_pos a6,bS]
    refine dI (by simp only;omega) (bI (by rw [cV];simp only;omega) (aS (x:=a i k) (by simp only;rw [Int.toNat_natCast];exact gb a6) (aS (x:=cU (dx m n a b i k)) ?_ (bI (by simp only [List.length_append,cV,List.length_cons,List.length_nil];omega) ?_))))
    ·rw [e];exact se (by have:=sq h ah k;rw [mF];omega)
    ·simp only;rw [fF (by omega),k8])
  (fun _ _=>by unfold wy;exact dZ (by simp) rfl) () trivial
 refine aS (x:=a8 n fun j=>cU (dx m n a b i j)) (by unfold C0;rw [f9,cV];exact e1) ?_
 obtain ⟨s2,aE,-⟩:=iK (f:=fun w:Int×List aM=>wz (i:Int) p.fq p.ec p.dF p.ei p.hL x0 a1 b0 ct dh w.1 w.2)
  (fun (k:Nat) (_:Unit)=>((k:Int),a8 (n+k) fun j=>cU (dx m n a b i j))) m (fun _ _=>True) (fun _=>a8 (n+m) fun j=>cU (dx m n a b i j))
  (fun k a6 _ _=>by
    refine ⟨(),?_,trivial⟩
    unfold wz
    have CC:kq m n a b i (n+k)=if k=i then 1 else 0:=by
     unfold kq
     rw [if_neg (by omega),if_neg (by omega)]
     by_cases c:k=i
     ·rw [if_pos c,if_pos (by omega)]
     ·rw [if_neg c,if_neg (by omega)]
    refine dI (by simp only;rw [h.rows];omega) (od (fun c=> ?_) (fun c=> ?_))
    ·have vy:k=i:=by simp at c;omega
     refine aS (x:=cU (dx m n a b i (n+k))) (by unfold dx;rw [CC,if_pos vy];exact se (by rw [mF];omega)) (bI (by simp only [List.length_append,cV,List.length_cons,List.length_nil];omega) ?_)
     simp only;rw [fF (by omega),← Nat.add_assoc,k8]
    ·have vy:k≠i:=by simp at c;omega
     refine aS (x:=cU (dx m n a b i (n+k))) (by unfold dx;rw [CC,if_neg vy];exact se (by rw [mF];omega)) (bI (by simp only [List.length_append,cV,List.length_cons,List.length_nil];omega) ?_)
     simp only;rw [fF (by omega),← Nat.add_assoc,k8])
  (fun _ _=>by unfold wz;exact dZ (by simp only;rw [h.rows];omega) rfl) () trivial
 unfold C1
 exact aE
theorem X1 {p:hz}{m n:Nat}{a:Nat→Nat→Int}{b:Nat→Int}(h:mh p m n a b){i:Nat}(ah:i<m)(aR:¬b i<0)(x0:Int)(a1:List bs)(b0:List (List aM))(ct:List Int)(dh:List aM):
 (CV (i:Int) (a8 n (a i)) (len_ eI (a8 n (a i))) p.fq p.ec p.dF p.ei p.hL x0 a1 b0 ct dh 0 ([]:List aM) >>= fun c0=>CW (i:Int) p.fq p.ec p.dF p.ei p.hL x0 a1 b0 ct dh 0 c0)=some (a8 (n+m) fun j=>cU (dx m n a b i j)):=by
 have hm:=h.hm
 have a3:=h.a3
 have bS:kk (b i)=1:=by unfold kk;rw [if_neg aR]
 obtain ⟨s1,e1,-⟩:=iK (f:=fun w:Int×List aM=>wj (i:Int) (a8 n (a i)) ((n:Nat):Int) p.fq p.ec p.dF p.ei p.hL x0 a1 b0 ct dh w.1 w.2)
  (fun (k:Nat) (_:Unit)=>((k:Int),a8 k fun j=>cU (dx m n a b i j))) n (fun _ _=>True) (fun _=>a8 n fun j=>cU (dx m n a b i j))
  (fun k a6 _ _=>by
    refine ⟨(),?_,trivial⟩
    have bF:=h.sP i ah k a6
    unfold wj
    have e:R ((1:Int)*a i k)=kq m n a b i k:=by
     rw [cE (by omega) (by omega)];unfold kq;rw [if_pos a6,bS]
    refine dI (by simp only;omega) (bI (by rw [cV];simp only;omega) (aS (x:=a i k) (by simp only;rw [Int.toNat_natCast];exact gb a6) (aS (x:=cU (dx m n a b i k)) ?_ (bI (by simp only [List.length_append,cV,List.length_cons,List.length_nil];omega) ?_))))
    ·rw [e];exact se (by have:=sq h ah k;rw [mF];omega)
    ·simp only;rw [fF (by omega),k8])
  (fun _ _=>by unfold wj;exact dZ (by simp) rfl) () trivial
 refine aS (x:=a8 n fun j=>cU (dx m n a b i j)) (by unfold CV;rw [f9,cV];exact e1) ?_
 obtain ⟨s2,aE,-⟩:=iK (f:=fun w:Int×List aM=>wk (i:Int) p.fq p.ec p.dF p.ei p.hL x0 a1 b0 ct dh w.1 w.2)
  (fun (k:Nat) (_:Unit)=>((k:Int),a8 (n+k) fun j=>cU (dx m n a b i j))) m (fun _ _=>True) (fun _=>a8 (n+m) fun j=>cU (dx m n a b i j))
  (fun k a6 _ _=>by
    refine ⟨(),?_,trivial⟩
    unfold wk
    have CC:kq m n a b i (n+k)=if k=i then 1 else 0:=by
     unfold kq
     rw [if_neg (by omega),if_neg (by omega)]
     by_cases c:k=i
     ·rw [if_pos c,if_pos (by omega)]
     ·rw [if_neg c,if_neg (by omega)]
    refine dI (by simp only;rw [h.rows];omega) (od (fun c=> ?_) (fun c=> ?_))
    ·have vy:k=i:=by simp at c;omega
     refine aS (x:=cU (dx m n a b i (n+k))) (by unfold dx;rw [CC,if_pos vy];exact se (by rw [mF];omega)) (bI (by simp only [List.length_append,cV,List.length_cons,List.length_nil];omega) ?_)
     simp only;rw [fF (by omega),← Nat.add_assoc,k8]
    ·have vy:k≠i:=by simp at c;omega
     refine aS (x:=cU (dx m n a b i (n+k))) (by unfold dx;rw [CC,if_neg vy];exact se (by rw [mF];omega)) (bI (by simp only [List.length_append,cV,List.length_cons,List.length_nil];omega) ?_)
     simp only;rw [fF (by omega),← Nat.add_assoc,k8])
  (fun _ _=>by unfold wk;exact dZ (by simp only;rw [h.rows];omega) rfl) () trivial
 unfold CW
 exact aE
theorem O8 {p:hz}{m n:Nat}{a:Nat→Nat→Int}{b:Nat→Int}(h:mh p m n a b){i:Nat}(ah:i<m)(a1:List (List aM))(b0:List bs)(ct:List Int)(a7:a1[i]? = some (a8 (n+m+1) fun j=>cU (dx m n a b i j))):
 zp (i:Int) i (n+m+1) (((n+m+1:Nat):Nat):Int) p.fq p.ec p.dF p.ei p.hL ((n+m:Nat):Int) a1 b0 ct 0 (a8 (n+m+1) fun j=>cU (g9 m n a b i j))=some (a8 (n+m+1) fun j=>cU (g9 m n a b (i+1) j)):=by
 have hm:=h.hm
 have a3:=h.a3
 have aeW : ∀j,gk (dx m n a b i j):=fun j=>Kb (K7 h ah j) (by omega)
 have f1 : ∀j,gk (g9 m n a b i j):=fun j=>Kb (Rm h (by omega) j) (by omega)
 have f2 : ∀j,gk (g9 m n a b (i+1) j):=fun j=>Kb (Rm h (by omega) j) (by omega)
 have es : ∀j,(j<n∨j=n+m)→g9 m n a b i j+dx m n a b i j=g9 m n a b (i+1) j:=fun j aC=>by
  unfold g9;rw [if_pos aC,if_pos aC,cL]
 have aeX : ∀j,¬(j<n∨j=n+m)→g9 m n a b i j=g9 m n a b (i+1) j:=fun j aC=>by
  unfold g9;rw [if_neg aC,if_neg aC]
 obtain ⟨s,e,-⟩:=iK (f:=fun w:Int×List aM=>wA (i:Int) i (n+m+1) (((n+m+1:Nat):Nat):Int) p.fq p.ec p.dF p.ei p.hL ((n+m:Nat):Int) a1 b0 ct w.1 w.2)
  (fun (k:Nat) (_:Unit)=>((k:Int),a8 (n+m+1) fun j=>cU (if j<k then g9 m n a b (i+1) j else g9 m n a b i j))) (n+m+1) (fun _ _=>True) (fun _=>a8 (n+m+1) fun j=>cU (g9 m n a b (i+1) j))
  (fun k a6 _ _=>by
    refine ⟨(),?_,trivial⟩
    have fin : ∀r,r=g9 m n a b (i+1) k→(R ((k:Int)+1),(a8 (n+m+1) fun j=>cU (if j<k then g9 m n a b (i+1) j else g9 m n a b i j)).set (0+((k:Int)).toNat) (cU r))=(((k+1:Nat):Int),a8 (n+m+1) fun j=>cU (if j<k+1 then g9 m n a b (i+1) j else g9 m n a b i j)):=by
     intro r ao
     rw [fF (by omega),Int.toNat_natCast,Nat.zero_add,kW]
     congr 1
     refine eY fun j _=> ?_
     by_cases c:j=k
     ·subst c;rw [if_pos rfl,if_pos (by omega),ao]
     ·rw [if_neg c]
      by_cases ch:j<k
      ·rw [if_pos ch,if_pos (by omega)]
      ·rw [if_neg ch,if_neg (by omega)]
    have Ta : ∀ {x:Option ((Int×List aM)⊕List aM)},(k<n∨k=n+m)→(∀r,(R ((k:Int)+1),(a8 (n+m+1) fun j=>cU (if j<k then g9 m n a b (i+1) j else g9 m n a b i j)).set (0+((k:Int)).toNat) (cU r))=(((k+1:Nat):Int),a8 (n+m+1) fun j=>cU (if j<k+1 then g9 m n a b (i+1) j else g9 m n a b i j))→some (Sum.inl (R ((k:Int)+1),(a8 (n+m+1) fun j=>cU (if j<k then g9 m n a b (i+1) j else g9 m n a b i j)).set (0+((k:Int)).toNat) (cU r)))=x) →
     (if 0≤(k:Int)∧(k:Int)<(((a8 (n+m+1) fun j=>cU (if j<k then g9 m n a b (i+1) j else g9 m n a b i j)).length:Nat):Int) then
       (a8 (n+m+1) fun j=>cU (if j<k then g9 m n a b (i+1) j else g9 m n a b i j))[(0+((k:Int)).toNat)]? >>= fun fD =>
       a1[i]? >>= fun m3 =>
       if 0≤(k:Int)∧(k:Int)<((n+m+1:Nat):Int) then
       m3[(0+((k:Int)).toNat)]? >>= fun ej =>
       rp fD ej >>= fun di =>
       if (0+((k:Int)).toNat)<(a8 (n+m+1) fun j=>cU (if j<k then g9 m n a b (i+1) j else g9 m n a b i j)).length then
       some (.inl (R ((k:Int)+(1:Int)),(a8 (n+m+1) fun j=>cU (if j<k then g9 m n a b (i+1) j else g9 m n a b i j)).set (0+((k:Int)).toNat) di))
       else none
       else none
       else none)=x:=by
     intro x ET U
     refine bI (by rw [cV];omega) (aS (x:=cU (g9 m n a b i k)) (by rw [Int.toNat_natCast,ie a6,if_neg (by omega)]) (aS a7 (bI (by omega) (aS (x:=cU (dx m n a b i k)) (by rw [Int.toNat_natCast];exact ie a6) (aS (KT (f1 k) (aeW k) (by rw [es k ET];exact f2 k)) (bI (by rw [cV,Int.toNat_natCast];omega) ?_))))))
     exact U _ (fin _ (es k ET))
    unfold wA
    refine dI (by simp only;omega) (od (fun c=> ?_) (fun c=> ?_))
    ·have Mj:k<n:=by have:=of_decide_eq_true c;rw [h.gu] at this;simp only at this;omega
     exact Ta (.inl Mj) fun r ao=>by rw [ao]
    ·have Mj : ¬k<n:=by have:=of_decide_eq_false c;rw [h.gu] at this;simp only at this;omega
     refine od (fun ch=> ?_) (fun ch=> ?_)
     ·have SG:k=n+m:=by simp at ch;omega
      exact Ta (.inr SG) fun r ao=>by rw [ao]
     ·have SG:k≠n+m:=by simp at ch;omega
      simp only
      rw [fF (by omega)]
      congr 3
      refine eY fun j _=> ?_
      by_cases jx:j=k
      ·subst jx;rw [if_neg (by omega),if_pos (by omega),aeX j (by omega)]
      ·by_cases pN:j<k
       ·rw [if_pos pN,if_pos (by omega)]
       ·rw [if_neg pN,if_neg (by omega)])
  (fun _ _=>by
    unfold wA
    refine dZ (by simp) ?_
    simp only
    congr 2
    exact eY fun j aC=>by rw [if_pos aC]) () trivial
 unfold zp
 have bT:(a8 (n+m+1) fun j=>cU (if j<0 then g9 m n a b (i+1) j else g9 m n a b i j))=a8 (n+m+1) fun j=>cU (g9 m n a b i j):=eY fun j _=>by rw [if_neg (by omega)]
 rw [bT] at e
 exact e
theorem uX {K:Nat}{d x y:Rat}(bE:eu K d)(aW:eu K y)(h0:d≠0)(e:d*x=y)(hK:(K:Int)<B 24):gk x:=by
 obtain ⟨z,rfl,cC⟩:=bE
 obtain ⟨w,rfl,hw⟩:=aW
 exact P3 (n:=w) (d:=z) (fun c=>h0 (by rw [c];rfl)) e (by omega) (by omega)
@[irreducible] def fN:Nat:=qq 100 20
theorem Bc:qq 100 20=fN:=by unfold fN;rfl
end Go.Proofs.YtamedijmgkdlgadGreat
namespace Go.Proofs.YtamedijmgkdlgadGreat
set_option linter.unusedVariables false
set_option linter.unusedSimpArgs false
open Go Go.VL
theorem abZ:((21*100*(fN*fN):Nat):Int)<B 24:=by decide +kernel
theorem qc:0<fN:=by decide +kernel
structure kP (m N:Nat) (A:Nat→Nat→Rat) (t:cm):Prop where
 ok:ga m m N A t
 ls:t.k0 m N
 rk:t.D m A≠0
structure Small (m N:Nat) (A:Nat→Nat→Rat):Prop where
 hm:m≤20
 tM : ∀c,c<m→ ∀j,j≤N→eu 100 (A c j)
theorem kP.Cn {m N:Nat}{A:Nat→Nat→Rat}(s:Small m N A){t:cm}(h:kP m N A t):eu fN (t.D m A):=by
 refine eu.mono (ya fun i ah c bf=>s.tM c bf _ (Nat.le_of_lt (h.ok.j1 i ah))) (Bc▸xR (by omega) s.hm)
theorem kP.tD {m N:Nat}{A:Nat→Nat→Rat}(s:Small m N A){t:cm}(h:kP m N A t){i j:Nat}(ah:i<m)(aC:j≤N):eu fN (t.T i j*t.D m A):=by
 rw [← h.ok.vK ah aC]
 refine eu.mono (ya fun k a6 c bf=> ?_) (Bc▸xR (by omega) s.hm)
 simp only [gh]
 split
 ·exact s.tM c bf j aC
 ·exact s.tM c bf _ (Nat.le_of_lt (h.ok.j1 k a6))
theorem uY {k:Nat}(h:k≤21*100*(fN*fN)):((k:Nat):Int)<B 24:=by have:=abZ;omega
theorem Lv:fN≤21*100*(fN*fN):=by
 have h1:fN*1≤fN*fN:=Nat.mul_le_mul_left _ qc
 omega
theorem kP.RH {m N:Nat}{A:Nat→Nat→Rat}(s:Small m N A){t:cm}(h:kP m N A t){i j:Nat}(ah:i<m)(aC:j≤N):gk (t.T i j) :=
 uX (h.Cn s) (h.tD s ah aC) h.rk (by grind) (uY Lv)
theorem kP.ac6 {m N:Nat}{A:Nat→Nat→Rat}(s:Small m N A){t:cm}(h:kP m N A t){i j:Nat}(ah:i<m)(aC:j≤N)(ai:0<t.T i j):gk (t.T i N / t.T i j) :=
 uX (h.tD s ah aC) (h.tD s ah (Nat.le_refl _)) (fun c=>by
  have h1:=h.rk
  have:t.T i j≠0:=by grind
  grind) (by grind) (uY Lv)
theorem kP.SH {m N:Nat}{A:Nat→Nat→Rat}(s:Small m N A){t:cm}(h:kP m N A t){I:Nat→Rat}(ap:∀j,j≤N→eu 100 (I j)){j:Nat}(aC:j≤N):eu (21*100*fN) (t.c3 m I j*t.D m A):=by
 have hm:=s.hm
 unfold cm.c3
 have e:(I j-cL m (fun i=>I (t.B i)*t.T i j))*t.D m A=I j*t.D m A-cL m (fun i=>I (t.B i)*(t.T i j*t.D m A)):=by
  rw [gv (f:=fun i=>I (t.B i)*(t.T i j*t.D m A)) (g:=fun i=>(I (t.B i)*t.T i j)*t.D m A) (fun i _=>by grind),Am];grind
 rw [e]
 refine eu.mono (((ap j aC).mul (h.Cn s)).sub (eu.sum fun i ah=>(ap _ (Nat.le_of_lt (h.ok.j1 i ah))).mul (h.tD s ah aC))) ?_
 have:m*(100*fN)≤20*(100*fN):=Nat.mul_le_mul_right _ hm
 omega
theorem RI:21*100*fN≤21*100*(fN*fN):=by
 have h1:fN*1≤fN*fN:=Nat.mul_le_mul_left _ qc
 omega
theorem kP.Lw {m N:Nat}{A:Nat→Nat→Rat}(s:Small m N A){t:cm}(h:kP m N A t){I:Nat→Rat}(ap:∀j,j≤N→eu 100 (I j)){j:Nat}(aC:j≤N):gk (t.c3 m I j) :=
 uX ((h.Cn s).mono (Nat.le_trans (by omega:fN≤21*100*fN) (Nat.le_refl _))) (h.SH s ap aC) h.rk (by grind) (uY RI)
theorem kP.gL {m N K:Nat}{A obj:Nat→Nat→Rat}{bW:Nat→Prop}{t:cm}(h:kP m N A t){r k:Nat}(b:nW m N K obj bW t r k):kP m N A (t.cl r k) :=
 ⟨b.ok h.ok,b.Bx h.ls,by
  rw [h.ok.uV b.ao b.bS]
  have h1:=b.pos
  have o:=h.rk
  intro c
  have:t.T r k≠0:=by grind
  grind⟩
theorem kP.ac7 {m N:Nat}{A:Nat→Nat→Rat}(s:Small m N A){t:cm}(h:kP m N A t){I:Nat→Rat}(ap:∀j,j≤N→eu 100 (I j)){r k:Nat}(ao:r<m)(a6:k<N)(ai:t.T r k≠0)(cI:ga m m N A (t.cl r k)):Lt m N t (t.c3 m I) r k:=by
 have bE:=h.rk
 have qi:(t.cl r k).D m A≠0:=by rw [h.ok.uV ao a6];grind
 have ep:(t.cl r k).D m A=t.T r k*t.D m A:=h.ok.uV ao a6
 have pk:eu fN ((t.cl r k).D m A):=eu.mono (ya fun i ah c bf=>s.tM c bf _ (Nat.le_of_lt (cI.j1 i ah))) (Bc▸xR (by omega) s.hm)
 have vC : ∀i,i<m→ ∀j,j≤N→eu fN ((t.cl r k).T i j*(t.cl r k).D m A):=fun i ah j aC=>by
  rw [← cI.vK ah aC]
  refine eu.mono (ya fun k a6 c bf=> ?_) (Bc▸xR (by omega) s.hm)
  simp only [gh]
  split
  ·exact s.tM c bf j aC
  ·exact s.tM c bf _ (Nat.le_of_lt (cI.j1 k a6))
 have vQ:eu (21*100*(fN*fN)) (t.D m A*(t.cl r k).D m A):=((h.Cn s).mul pk).mono (by omega)
 have SI:t.D m A*(t.cl r k).D m A≠0:=by grind
 refine ⟨fun i ah j aC=>h.RH s ah aC,fun i ah j aC=>uX pk (vC i ah j aC) qi (by grind) (uY Lv),fun i ah _ j aC=> ?_,fun j aC=>h.Lw s ap aC,fun j aC=> ?_,fun j aC=> ?_⟩
 ·refine uX vQ (((h.tD s ah (Nat.le_of_lt a6)).mul (h.tD s ao aC)).neg.mono (by omega)) SI ?_ (uY (Nat.le_refl _))
  rw [ep];grind
 ·rw [← h.ok.Ko I ao a6 ai]
  have g2:eu (21*100*fN) ((t.cl r k).c3 m I j*(t.cl r k).D m A):=by
   have hm:=s.hm
   unfold cm.c3
   have e:(I j-cL m (fun i=>I ((t.cl r k).B i)*(t.cl r k).T i j))*(t.cl r k).D m A=I j*(t.cl r k).D m A-cL m (fun i=>I ((t.cl r k).B i)*((t.cl r k).T i j*(t.cl r k).D m A)):=by
    rw [gv (f:=fun i=>I ((t.cl r k).B i)*((t.cl r k).T i j*(t.cl r k).D m A)) (g:=fun i=>(I ((t.cl r k).B i)*(t.cl r k).T i j)*(t.cl r k).D m A) (fun i _=>by grind),Am];grind
   rw [e]
   refine eu.mono (((ap j aC).mul pk).sub (eu.sum fun i ah=>(ap _ (Nat.le_of_lt (cI.j1 i ah))).mul (vC i ah j aC))) ?_
   have:m*(100*fN)≤20*(100*fN):=Nat.mul_le_mul_right _ hm
   omega
  exact uX (pk.mono (by omega)) g2 qi (by grind) (uY RI)
 ·refine uX vQ (((h.SH s ap (Nat.le_of_lt a6)).mul (h.tD s ao aC)).neg.mono (by
   rw [Nat.mul_assoc];exact Nat.le_refl _)) SI ?_ (uY (Nat.le_refl _))
  rw [ep];grind
theorem aaV {p:hz}{m n:Nat}{a:Nat→Nat→Int}{b:Nat→Int}(h:mh p m n a b):
 zw p=some (((n+m:Nat):Int),mO m (n+m),dB m (il m n a b),lf (n+m) ((il m n a b).c3 m (gF m n)),iV m (n+m) (il m n a b)):=by
 have hm:=h.hm
 have a3:=h.a3
 have fT:R (p.ec+p.fq)=((n+m:Nat):Int):=by rw [h.gu,h.rows,← Int.natCast_add,cE (by omega) (by omega)]
 unfold zw
 rw [fT]
 obtain ⟨s1,e1,-⟩:=iK (f:=fun w:Int×List aM=>wx p.fq p.ec p.dF p.ei p.hL ((n+m:Nat):Int) w.1 w.2)
  (fun (k:Nat) (_:Unit)=>((k:Int),a8 k fun j=>cU (0:Rat))) (n+m+1) (fun _ _=>True) (fun _=>a8 (n+m+1) fun j=>cU (0:Rat))
  (fun k a6 _ _=>by
    refine ⟨(),?_,trivial⟩
    unfold wx
    refine dI (by simp only;omega) (aS (x:=cU (0:Rat)) (se (n:=0) (by rw [mF];omega)) (bI (by simp only [List.length_append,cV,List.length_cons,List.length_nil];omega) ?_))
    simp only;rw [fF (by omega),k8])
  (fun _ _=>by unfold wx;exact dZ (by simp only;omega) rfl) () trivial
 refine aS (x:=a8 (n+m+1) fun j=>cU (0:Rat)) (by unfold Im;exact e1) ?_
 obtain ⟨s2,aE,-⟩:=iK (f:=fun w:Int×(List bs)×(List (List aM))×(List Int)×(List aM)=>wm p.fq p.ec p.dF p.ei p.hL ((n+m:Nat):Int) w.1 w.2.1 w.2.2.1 w.2.2.2.1 w.2.2.2.2)
  (fun (i:Nat) (_:Unit)=>((i:Int),a8 i (fun k=>some (k,n+m+1)),a8 i (hf (n+m) (il m n a b)),a8 i (fun k=>((n+k:Nat):Int)),a8 (n+m+1) fun j=>cU (g9 m n a b i j))) m (fun _ _=>True)
  (fun _=>(mO m (n+m),iV m (n+m) (il m n a b),dB m (il m n a b),a8 (n+m+1) fun j=>cU (g9 m n a b m j)))
  (fun i ah _ _=>by
    refine ⟨(),?_,trivial⟩
    have aR:=h.vO i ah
    have hlen:((a8 (n+m) fun j=>cU (dx m n a b i j))++[cU (dx m n a b i (n+m))])=hf (n+m) (il m n a b) i:=(k8 ..).symm
    have SJ:(hf (n+m) (il m n a b) i).length=n+m+1:=cV ..
    have hw:R (p.ec+(i:Int))=((n+i:Nat):Int):=by rw [h.gu,← Int.natCast_add,cE (by omega) (by omega)]
    have dt:(a8 i (hf (n+m) (il m n a b))++[hf (n+m) (il m n a b) i])[i]? = some (hf (n+m) (il m n a b) i):=by rw [← k8];exact gb (by omega)
    have SK:(a8 i (hf (n+m) (il m n a b))).length=i:=cV ..
    have pM:kq m n a b i (n+m)=kk (b i)*b i:=by unfold kq;rw [if_neg (by omega),if_pos rfl]
    have fin:(some (Sum.inl (R ((i:Int)+1),(a8 i (fun k=>(some (k,n+m+1):bs)))++[some (i,n+m+1)],a8 i (hf (n+m) (il m n a b))++[hf (n+m) (il m n a b) i],(a8 i fun k=>((n+k:Nat):Int))++[((n+i:Nat):Int)],a8 (n+m+1) fun j=>cU (g9 m n a b (i+1) j))):Option ((Int×(List bs)×(List (List aM))×(List Int)×(List aM))⊕((List bs)×(List (List aM))×(List Int)×(List aM)))) =
     some (Sum.inl (((i+1:Nat):Int),a8 (i+1) (fun k=>some (k,n+m+1)),a8 (i+1) (hf (n+m) (il m n a b)),a8 (i+1) (fun k=>((n+k:Nat):Int)),a8 (n+m+1) fun j=>cU (g9 m n a b (i+1) j))):=by
     rw [fF (by omega),k8 i (fun k=>(some (k,n+m+1):bs)),k8 i (hf (n+m) (il m n a b)),k8 i (fun k=>((n+k:Nat):Int))]
    unfold wm
    refine dI (by simp only;rw [h.rows];omega) (bI (by simp only;rw [h.vP];omega) (aS (x:=b i) (by simp only;rw [Int.toNat_natCast];exact h.yr i ah) (od (fun c=> ?_) (fun c=> ?_))))
    ·have nb:b i<0:=of_decide_eq_true c
     have bS:kk (b i) = -1:=by unfold kk;rw [if_pos nb]
     refine aS (KU h ah) ?_
     have ao:=X0 h ah nb ((n+m:Nat):Int) (a8 i (fun k=>some (k,n+m+1))) (a8 i (hf (n+m) (il m n a b))) (a8 i (fun k=>((n+k:Nat):Int))) (a8 (n+m+1) fun j=>cU (g9 m n a b i j))
     rw [Option.bind_eq_bind,Option.bind_eq_some_iff] at ao
     obtain ⟨c0,h3,vv⟩:=ao
     refine aS h3 (aS vv (aS (x:=cU (dx m n a b i (n+m))) (by
      have e:R ((-1:Int)*b i)=kq m n a b i (n+m):=by rw [pM,bS,cE (by omega) (by omega)]
      rw [e];exact se (by have:=sq h ah (n+m);rw [mF];omega)) ?_))
     simp only
     rw [hlen,SK,SJ,hw]
     refine bI (by omega) (aS dt (aS (O8 h ah _ _ _ dt) (bI (by simp only [List.length_append,cV,List.length_cons,List.length_nil];omega) (bI (by simp only [List.length_append,cV,List.length_cons,List.length_nil];omega) fin))))
    ·have nb : ¬b i<0:=of_decide_eq_false c
     have bS:kk (b i)=1:=by unfold kk;rw [if_neg nb]
     refine aS (KU h ah) ?_
     have ao:=X1 h ah nb ((n+m:Nat):Int) (a8 i (fun k=>some (k,n+m+1))) (a8 i (hf (n+m) (il m n a b))) (a8 i (fun k=>((n+k:Nat):Int))) (a8 (n+m+1) fun j=>cU (g9 m n a b i j))
     rw [Option.bind_eq_bind,Option.bind_eq_some_iff] at ao
     obtain ⟨c0,h3,vv⟩:=ao
     refine aS h3 (aS vv (aS (x:=cU (dx m n a b i (n+m))) (by
      have e:R ((1:Int)*b i)=kq m n a b i (n+m):=by rw [pM,bS,cE (by omega) (by omega)]
      rw [e];exact se (by have:=sq h ah (n+m);rw [mF];omega)) ?_))
     simp only
     rw [hlen,SK,SJ,hw]
     refine bI (by omega) (aS dt (aS (O8 h ah _ _ _ dt) (bI (by simp only [List.length_append,cV,List.length_cons,List.length_nil];omega) (bI (by simp only [List.length_append,cV,List.length_cons,List.length_nil];omega) fin)))))
  (fun _ _=>by unfold wm;exact dZ (by simp only;rw [h.rows];omega) rfl) () trivial
 have e0:(a8 (n+m+1) fun j=>cU (g9 m n a b 0 j))=a8 (n+m+1) fun j=>cU (0:Rat):=eY fun j _=>by
  unfold g9;split<;>rfl
 rw [e0] at aE
 refine aS (x:=(mO m (n+m),iV m (n+m) (il m n a b),dB m (il m n a b),a8 (n+m+1) fun j=>cU (g9 m n a b m j))) (by unfold HR;exact aE) ?_
 congr 1
 refine Prod.ext rfl (Prod.ext rfl (Prod.ext rfl (Prod.ext ?_ rfl)))
 refine eY fun j aC=> ?_
 rw [ZC]
 unfold g9 gF
 by_cases c:j<n∨j=n+m
 ·rw [if_pos c,if_neg (by omega)];congr 1;grind
 ·rw [if_neg c,if_pos (by omega)]
  obtain ⟨k,rfl⟩ : ∃k,j=n+k:=⟨j-n,by omega⟩
  rw [kU (k:=k) (by omega) (fun i _ c4=>by rw [sc (by omega),if_neg (Ne.symm c4)]),sc (by omega),if_pos rfl,show (-1:Rat)+1=0 by grind]
theorem Ks (l:List Int)(aT:l.length≤1000)(h:∀x∈l,-100≤x∧x≤100):uy l=some true:=by
 unfold uy JB
 rw [f9]
 obtain ⟨s,e,-⟩:=iK (f:=fun w:Int=>xb l (l.length:Nat) w) (fun (i:Nat) (_:Unit)=>(i:Int)) l.length (fun _ _=>True) (fun _=>(Sum.inl ():Unit⊕Unit))
  (fun i ah _ _=>by
    refine ⟨(),?_,trivial⟩
    have U:=h l[i] (List.getElem_mem ah)
    unfold xb
    refine dI (by omega) (bI (by omega) (aS (x:=l[i]) (by rw [Int.toNat_natCast];exact List.getElem?_eq_getElem ah) (aS (qI _ _ _) (gI (decide_eq_true (by omega)) ?_))))
    rw [fF (by omega)])
  (fun _ _=>by unfold xb;exact dZ (by omega) rfl) () trivial
 exact aS e rfl
theorem Yi {p:hz}{m n:Nat}{a:Nat→Nat→Int}{b:Nat→Int}(h:mh p m n a b)(Fh:p.hL.length=n)(CD:∀x∈p.hL,-100≤x∧x≤100):zE p=some true:=by
 have hm:=h.hm
 have a3:=h.a3
 have E0:m*n≤20*40:=Nat.mul_le_mul hm a3
 have hA : ∀x∈p.dF,-100≤x∧x≤100:=fun x U=>by
  obtain ⟨k,a6,rfl⟩:=List.getElem_of_mem U
  rw [h.gR] at a6
  have BI:0<n:=by
   rcases Nat.eq_zero_or_pos n with c|c
   ·rw [c] at a6;omega
   ·exact c
  have h1:k / n<m:=Nat.div_lt_of_lt_mul (by rw [Nat.mul_comm];exact a6)
  have o:k % n<n:=Nat.mod_lt _ BI
  have ae:=h.Lu (k / n) h1 (k % n) o
  have au:k / n*n+k % n=k:=by rw [Nat.mul_comm];exact Nat.div_add_mod k n
  rw [au,List.getElem?_eq_getElem (by rw [h.gR];exact a6)] at ae
  rw [Option.some.inj ae]
  exact h.sP _ h1 _ o
 have gH : ∀x∈p.ei,-100≤x∧x≤100:=fun x U=>by
  obtain ⟨k,a6,rfl⟩:=List.getElem_of_mem U
  have ae:=h.yr k (by rw [← h.vP];exact a6)
  rw [List.getElem?_eq_getElem a6] at ae
  rw [Option.some.inj ae]
  exact h.vO _ (by rw [← h.vP];exact a6)
 unfold zE
 rw [h.rows,h.gu]
 refine aS (qI _ _ _) (gI (decide_eq_true (by omega)) (aS (qI _ _ _) (gI (decide_eq_true (by omega)) ?_)))
 refine gI (vg (by rw [f9,h.gR,← Int.natCast_mul,cE (by omega) (by omega)])) (gI (vg (by rw [f9,h.vP])) (gI (vg (by rw [f9,Fh])) ?_))
 exact aS (Ks _ (by rw [h.gR];omega) hA) (gI rfl (aS (Ks _ (by rw [h.vP];omega) gH) (gI rfl (aS (Ks _ (by rw [Fh];omega) CD) rfl))))
theorem KC (m n j:Nat):eu 100 (gF m n j):=by
 unfold gF;split
 ·exact ⟨-1,rfl,by omega⟩
 ·exact ⟨0,rfl,by omega⟩
theorem Ey {g:Nat→Rat}:hB 1 g↔0<g 0:=by
 constructor
 ·rintro ⟨l,h1,o,-⟩;rw [show l=0 by omega] at o;exact o
 ·intro h;exact ⟨0,by omega,h,fun gm aT=>by omega⟩
theorem Kc {p:hz}{m n:Nat}{a:Nat→Nat→Int}{b:Nat→Int}(h:mh p m n a b):Small m (n+m) (dx m n a b):=⟨h.hm,fun c bf j _=>K7 h bf j⟩
theorem Z5 {p:hz}{m n:Nat}{a:Nat→Nat→Int}{b:Nat→Int}(h:mh p m n a b):
 ∃t,xu false ((n+m:Nat):Int) (mO m (n+m)) (dB m (il m n a b)) (lf (n+m) ((il m n a b).c3 m (gF m n))) (iV m (n+m) (il m n a b))=some (true,dB m t,lf (n+m) (t.c3 m (gF m n)),iV m (n+m) t) ∧
  kP m (n+m) (dx m n a b) t∧(t.c3 m (gF m n) (n+m)=0↔tk m n a b):=by
 have hm:=h.hm
 have a3:=h.a3
 have pR:=Kc h
 obtain ⟨q,t,e,cT,er⟩:=abY (gn:=m) (m:=m) (N:=n+m) (K:=1) (by omega) (by omega) (A:=dx m n a b) (obj:=fun _=>gF m n) false (kP m (n+m) (dx m n a b)) (fun t cf=>⟨cf.ok,cf.ls⟩) (fun t r s cf b=>cf.gL b)
  (fun t cf j aC=>⟨jR (t.c3 m (gF m n) j),abr (by omega) _ _ _ _ (by omega) (cf.Lw pR (fun j _=>KC m n j) (by omega)),fun _=>by rw [qL];exact (Ey (g:=fun _=>t.c3 m (gF m n) j)).symm⟩)
  (fun t cf i ah j aC=>cf.RH pR ah aC) (fun t cf i ah j aC ai=>cf.ac6 pR ah aC ai)
  (fun t cf r k ao a6 ai=>cf.ac7 pR (fun j _=>KC m n j) ao a6 ai (cf.ok.cl ao a6 ai)) (il m n a b) ⟨Qq,Ps,PS⟩
 rcases er with ⟨rfl,er⟩|⟨-,s,bS,dt,hI⟩
 ·refine ⟨t,e,cT,fun h0=>OD cT.ok cT.ls (OE cT.ls h0 cT.ok.j1),fun aem=>O2 cT.ok cT.ls (fun j aC=> ?_) aem⟩
  have:=er j (by omega)
  have o : ¬0<t.c3 m (gF m n) j:=fun c=>this (Ey.2 c)
  grind
 ·obtain ⟨i,ah,ai⟩:=Oj cT.ok bS (Ey.1 dt)
  exact (hI i ah ai).elim
theorem XO {p:hz}{m n:Nat}{a:Nat→Nat→Int}{b:Nat→Int}(h:mh p m n a b)(Fh:p.hL.length=n)(CD:∀x∈p.hL,-100≤x∧x≤100): ∃r,ud p=some r∧(r=true↔tk m n a b):=by
 have hm:=h.hm
 have a3:=h.a3
 obtain ⟨t,e,cT,bS⟩:=Z5 h
 unfold ud
 refine ⟨_,aS (Yi h Fh CD) (gI rfl (aS (aaV h) (aS e (bI (by simp only;unfold lf;rw [cV];omega) (aS (x:=cU (t.c3 m (gF m n) (n+m))) (by simp only;rw [Int.toNat_natCast];exact ie (by omega)) (aS (p8 (cT.Lw (Kc h) (fun j _=>KC m n j) (Nat.le_refl _))) rfl)))))),?_⟩
 rw [← bS,beq_iff_eq,rA]
def b6 (x:Rat):bp:=gZ x.num
@[irreducible] def kz:Nat:=1000000000 ^ 40
theorem RJ:((kz:Nat):Int)+((kz:Nat):Int)<B 50:=by decide +kernel
theorem ab0 {K:Nat}{x:Rat}(h:eu K x):((x.num:Int):Rat)=x∧x.num.natAbs≤K:=by
 obtain ⟨z,rfl,cC⟩:=h
 rw [Rat.num_intCast];exact ⟨rfl,cC⟩
theorem oy (z:Int):b6 (z:Rat)=gZ z:=by unfold b6;rw [Rat.num_intCast]
theorem yc {x:Rat}(h:eu kz x):(L x.num.natAbs).length≤50:=by
 have:=RJ
 have h1:=(ab0 h).2
 exact (jb (by omega)).2 (by omega)
theorem xT {x y:Rat}(U:eu kz x)(aW:eu kz y):pp (b6 x) (b6 y)=some (b6 (x*y)):=by
 have h1:=yc U
 have o:=yc aW
 obtain ⟨a,rfl,-⟩:=U;obtain ⟨b,rfl,-⟩:=aW
 rw [Rat.num_intCast] at h1 o
 rw [oy,oy,← Rat.intCast_mul,oy]
 exact ZT (by omega) (by omega)
theorem P4 {x y:Rat}(U:eu kz x)(aW:eu kz y):t8 (b6 x) (b6 y)=some (b6 (x-y)):=by
 have gH:=RJ
 obtain ⟨a,rfl,bF⟩:=U;obtain ⟨b,rfl,aR⟩:=aW
 rw [oy,oy,← Rat.intCast_sub,oy]
 exact Z1 (by omega) (by omega)
theorem ta {x:Rat}(U:eu kz x):o0 (b6 x)=some (jR x):=by
 obtain ⟨a,rfl,bF⟩:=U
 rw [oy]
 unfold o0 jR
 simp only [f9]
 have e:(((L a.natAbs).length:Nat):Int)=0↔a=0:=by rw [Ls (by omega)];omega
 show (if (((L a.natAbs).length:Int) == 0)=true then some 0 else if decide (a<0)=true then some (-1) else some 1)=_
 by_cases h0:a=0
 ·rw [if_pos (by rw [beq_iff_eq,e];exact h0),if_pos (by rw [h0];rfl)]
 ·have aen:(a:Rat)≠0:=fun c=>h0 (Rat.intCast_inj.1 (by rw [c];rfl))
  rw [if_neg (by rw [beq_iff_eq,e];exact h0),if_neg aen]
  have aE:(a:Rat)<0↔a<0:=by
   rw [show (0:Rat)=((0:Int):Rat) from rfl,Rat.intCast_lt_intCast]
  by_cases h1:a<0
  ·rw [if_pos (decide_eq_true h1),if_pos (aE.2 h1)]
  ·rw [if_neg (by simpa using h1),if_neg (fun c=>h1 (aE.1 c))]
theorem Zj {x y:Rat}(U:eu kz x)(aW:eu kz y):rT (b6 x) (b6 y)=some (if x<y then -1 else if y<x then 1 else 0):=by
 have h1:=yc U
 have o:=yc aW
 obtain ⟨a,rfl,-⟩:=U;obtain ⟨b,rfl,-⟩:=aW
 rw [Rat.num_intCast] at h1 o
 rw [oy,oy,WE (by omega) (by omega)]
 unfold kZ
 simp only [Rat.intCast_lt_intCast]
theorem OH {x:Rat}(U:eu kz x):rS (b6 x)=some (b6 (-x)):=by
 obtain ⟨a,rfl,-⟩:=U
 rw [oy,← Rat.intCast_neg,oy]
 unfold rS
 show (m6 (!(decide (a<0))) (L a.natAbs)).bind _=_
 rw [r5 (by omega),KS];rfl
theorem r4 {n:Int}(h:oM n):og n=some (b6 (n:Rat)):=by rw [oy];exact Zb h
theorem Zk {x y:Rat}(U:eu kz x)(aW:eu kz y)(LW:eu kz (x*y))(h0:y≠0):sS (b6 (x*y)) (b6 y)=some (b6 x):=by
 have h1:=yc LW
 have o:=yc aW
 obtain ⟨a,rfl,-⟩:=U;obtain ⟨b,rfl,-⟩:=aW
 rw [← Rat.intCast_mul] at h1 ⊢
 rw [Rat.num_intCast] at h1 o
 have aR:b≠0:=fun c=>h0 (by rw [c];rfl)
 rw [oy,oy,oy]
 unfold sS
 show (xM (L (a*b).natAbs) (L b.natAbs)).bind _=_
 rw [abj (jr _) (jr _) (fun c=>by have:=tg.1 c;omega) (by omega) (by omega),eo (by omega),eo (by omega)]
 have e1:((a*b).natAbs:Int) / (b.natAbs:Int)=(a.natAbs:Int):=by
  rw [Int.natAbs_mul,Int.natCast_mul];exact Int.mul_ediv_cancel _ (by omega)
 simp only [Option.bind_some]
 rw [e1]
 show (m6 (!(decide (a*b<0) == decide (b<0))) (L a.natAbs)).bind _=_
 rw [r5 (by omega)]
 simp only [Option.bind_some]
 congr 2
 rcases Int.lt_or_gt_of_ne aR with c|c
 ·by_cases bF:a<0
  ·have : ¬a*b<0:=by have:=Int.mul_pos_of_neg_of_neg bF c;omega
   rw [decide_eq_false this,decide_eq_true c];simp only [eh,show (!(false == true))=true from rfl,if_true];omega
  ·by_cases cC:a=0
   ·subst cC;simp [eh]
   ·have:a*b<0:=Int.mul_neg_of_pos_of_neg (by omega) c
    rw [decide_eq_true this,decide_eq_true c];simp only [eh,BEq.rfl,Bool.not_true,Bool.false_eq_true,if_false];omega
 ·by_cases bF:a<0
  ·have:a*b<0:=Int.mul_neg_of_neg_of_pos bF c
   rw [decide_eq_true this,decide_eq_false (by omega)];simp only [eh,show (!(true == false))=true from rfl,if_true];omega
  ·have : ¬a*b<0:=by have:=Int.mul_nonneg (show 0≤a by omega) (show 0≤b by omega);omega
   rw [decide_eq_false this,decide_eq_false (by omega)];simp only [eh,BEq.rfl,Bool.not_true,Bool.false_eq_true,if_false];omega
def gT (N:Nat)(w:Rat)(t:cm)(i:Nat):List bp:=a8 (N+1) fun j=>b6 (t.T i j*w)
structure pd (m N:Nat) (w:Rat) (t:cm):Prop where
 pos:0<w
 hw:eu (21*100*fN) w
 ic : ∀i,i<m→ ∀j,j≤N→eu fN (t.T i j*w)
 gH : ∀i,i<m→t.B i<N
theorem Bd:21*100*fN*(21*100*fN)+21*100*fN*(21*100*fN)≤kz:=by decide +kernel
theorem ac8 {q i:Nat}(a7:0<q)(ah:i≤20):21*100*q*100+i*(q*100)≤21*100*q*(21*100*q):=by
 have h1:i*(q*100)≤20*(q*100):=Nat.mul_le_mul_right _ ah
 have o:21*100*q*2100≤21*100*q*(21*100*q):=Nat.mul_le_mul_left _ (by omega)
 generalize 21*100*q*(21*100*q)=z at *
 omega
theorem ac9 {i:Nat}(ah:i≤20):21*100*fN*100+i*(fN*100)≤kz :=
 Nat.le_trans (ac8 qc ah) (Nat.le_trans (Nat.le_add_right _ _) Bd)
theorem su {K:Nat}(h:K≤21*100*fN):K≤kz:=by
 have aeo:=Bd
 have h1:21*100*fN*1≤21*100*fN*(21*100*fN):=Nat.mul_le_mul_left _ (by have:=qc;generalize fN=q at *;omega)
 rw [Nat.mul_one] at h1
 exact Nat.le_trans h (Nat.le_trans h1 (Nat.le_trans (Nat.le_add_right _ _) aeo))
theorem Qy {m N:Nat}(hm:m≤20)(fT:N<1000){w:Rat}{t:cm}(h:pd m N w t)(I:Nat→Int)(ap:∀j,j<N→ -100≤I j∧I j≤100)(i3:bp)(yt:i3=b6 w)(gu:Int)(free:List Bool){k:Nat}(a6:k<N):
 xj ⟨a8 m (gT N w t),i3,dB m t,gu,free⟩ (a8 N I) (k:Int)=some (jR (t.c3 m (fun j=>(I j:Rat)) k)):=by
 subst yt
 have agL:=qc
 have small : ∀ {x:Rat} {K:Nat},eu K x→K≤21*100*fN→eu kz x:=fun h1 o=>h1.mono (su o)
 have ak : ∀j,j<N→eu 100 ((I j:Int):Rat):=fun j aC=>⟨I j,rfl,by have:=ap j aC;omega⟩
 have SL : ∀j,j<N→oM (I j):=fun j aC=>by have:=ap j aC;rw [mF];omega
 let S:Nat→Rat:=fun i=>w*(I k:Rat)-cL i (fun i=>(t.T i k*w)*(I (t.B i):Rat))
 have Tb : ∀i,i≤m→eu kz (S i):=fun i ah=>by
  have e1:eu (21*100*fN*100) (w*(I k:Rat)):=h.hw.mul (ak k a6)
  have aE:eu (i*(fN*100)) (cL i (fun i=>(t.T i k*w)*(I (t.B i):Rat))):=eu.sum fun eD kE=>(h.ic eD (by omega) k (by omega)).mul (ak _ (h.gH eD (by omega)))
  exact (e1.sub aE).mono (ac9 (by omega))
 unfold xj
 refine bI (by rw [cV];omega) (aS (x:=I k) (by rw [Int.toNat_natCast];exact gb a6) (aS (r4 (SL k a6)) (aS (xT (small h.hw (Nat.le_refl _)) (small (ak k a6) (by omega))) ?_)))
 obtain ⟨s,e,-⟩:=iK (f:=fun q:Int×Bool×List Int=>wi (a8 m (gT N w t)) (b6 w).cR (b6 w).cH (dB m t) gu free (a8 N I) (k:Int) ((m:Nat):Int) q.1 q.2.1 q.2.2)
  (fun (i:Nat) (_:Unit)=>((i:Int),(b6 (S i)).cR,(b6 (S i)).cH)) m (fun _ _=>True) (fun _=>((b6 (S m)).cR,(b6 (S m)).cH))
  (fun i ah _ _=>by
    refine ⟨(),?_,trivial⟩
    have E9:=h.gH i ah
    have Mk:S (i+1)=S i-(t.T i k*w)*(I (t.B i):Rat):=by simp only [S,cL];grind
    unfold wi
    refine dI (by simp only;omega) (bI (by unfold dB;rw [cV];simp only;omega) (aS (x:=((t.B i:Nat):Int)) (by simp only;rw [Int.toNat_natCast];exact gb ah) (bI (by rw [cV];omega) (aS (x:=I (t.B i)) (by rw [Int.toNat_natCast];exact gb E9) (od (fun c=> ?_) (fun c=> ?_))))))
    ·refine bI (by rw [cV];simp only;omega) (aS (x:=gT N w t i) (by simp only;rw [Int.toNat_natCast];exact gb ah) (bI (by unfold gT;rw [cV];omega) (aS (x:=b6 (t.T i k*w)) (by rw [Int.toNat_natCast];exact gb (by omega)) (aS (ta (small (h.ic i ah k (by omega)) (by omega))) (od (fun ch=> ?_) (fun ch=> ?_))))))
     ·refine aS (r4 (SL _ E9)) (aS (xT (small (h.ic i ah k (by omega)) (by omega)) (small (ak _ E9) (by omega))) (aS (P4 (Tb i (by omega)) (by
       exact small ((h.ic i ah k (by omega)).mul (ak _ E9)) (by omega))) ?_))
      simp only;rw [fF (by omega),Mk]
     ·have cC:t.T i k*w=0:=rA.1 (by simpa using ch)
      simp only;rw [fF (by omega),Mk,cC,show S i-0*(I (t.B i):Rat)=S i by grind]
    ·have cC:I (t.B i)=0:=by simpa using c
     simp only;rw [fF (by omega),Mk,cC,show S i-t.T i k*w*((0:Int):Rat)=S i by rw [show ((0:Int):Rat)=0 from rfl];grind])
  (fun _ _=>by unfold wi;exact dZ (by simp) rfl) () trivial
 have e0:S 0=w*(I k:Rat):=by simp only [S,cL];grind
 rw [e0] at e
 refine aS (x:=((b6 (S m)).cR,(b6 (S m)).cH)) (by unfold Hp;rw [f9,show (dB m t).length=m from cV ..];exact e) (aS (x:=jR (S m)) (ta (Tb m (Nat.le_refl _))) ?_)
 congr 1
 have aE:S m=w*t.c3 m (fun j=>(I j:Rat)) k:=by
  simp only [S]
  unfold cm.c3
  rw [gv (f:=fun i=>t.T i k*w*(I (t.B i):Rat)) (g:=fun i=>w*((I (t.B i):Rat)*t.T i k)) (fun i _=>by grind),jL];grind
 rw [aE]
 have ai:=h.pos
 unfold jR
 by_cases c:t.c3 m (fun j=>(I j:Rat)) k=0
 ·rw [if_pos c,if_pos (by rw [c];grind)]
 ·rw [if_neg c,if_neg (by grind)]
  by_cases ch:t.c3 m (fun j=>(I j:Rat)) k<0
  ·rw [if_pos ch,if_pos]
   have:=Rat.mul_pos ai (show 0 < -(t.c3 m (fun j=>(I j:Rat)) k) by grind)
   grind
  ·rw [if_neg ch,if_neg]
   have:=Rat.mul_pos ai (show 0<t.c3 m (fun j=>(I j:Rat)) k by grind)
   grind
theorem P5 {x y z v w:Rat}(hw:0<w)(aW:0<y)(bh:0<v):(x*w)*(v*w)<(z*w)*(y*w)↔x / y<z / v:=by
 have e1:(x*w)*(v*w)=(x / y)*((y*v)*(w*w)):=by grind
 have aE:(z*w)*(y*w)=(z / v)*((y*v)*(w*w)):=by grind
 have ai:0<(y*v)*(w*w):=Rat.mul_pos (Rat.mul_pos aW bh) (Rat.mul_pos hw hw)
 rw [e1,aE]
 constructor
 ·intro h
  apply Classical.byContradiction
  intro c
  have:z / v≤x / y:=by grind
  have:=Rat.mul_le_mul_of_nonneg_right this (Rat.le_of_lt ai)
  grind
 ·intro h;exact Rat.mul_lt_mul_of_pos_right h ai
theorem x4 {x w:Rat}(hw:0<w):jR (x*w)=jR x:=by
 unfold jR
 by_cases c:x=0
 ·rw [if_pos c,if_pos (by rw [c];grind)]
 ·rw [if_neg c,if_neg (by grind)]
  by_cases ch:x<0
  ·rw [if_pos ch,if_pos]
   have:=Rat.mul_pos (show 0 < -x by grind) hw
   grind
  ·rw [if_neg ch,if_neg]
   have:=Rat.mul_pos (show 0<x by grind) hw
   grind
theorem Zl {m N:Nat}(hm:m≤20)(fT:N<1000){w:Rat}{t:cm}(h:pd m N w t)(i3:bp)(free:List Bool){k:Nat}(a6:k≤N):
 ∃r,zk ⟨a8 m (gT N w t),i3,dB m t,(N:Int),free⟩ (k:Int)=some r∧D8 m N t k r:=by
 have hw:=h.pos
 have nN : ∀i,i<m→ ∀j,j≤N→eu kz (t.T i j*w):=fun i ah j aC=>(h.ic i ah j aC).mono (su (by have:=qc;generalize fN=q at *;omega))
 have CE : ∀i,i<m→ ∀j,j≤N→ ∀eD,eD<m→ ∀hP,hP≤N→eu kz (t.T i j*w*(t.T eD hP*w)):=fun i ah j aC eD kE hP tu=>((h.ic i ah j aC).mul (h.ic eD kE hP tu)).mono (by
  refine Nat.le_trans ?_ (Nat.le_trans (Nat.le_add_right _ _) Bd)
  exact Nat.mul_le_mul (by generalize fN=q;omega) (by generalize fN=q;omega))
 unfold zk
 obtain ⟨r,e,ao⟩:=r8 (f:=fun q:Int×Int=>v8 (a8 m (gT N w t)) i3.cR i3.cH (dB m t) (N:Int) free (k:Int) ((m:Nat):Int) q.1 q.2)
  (fun (i:Nat) (s:Int)=>(s,(i:Int))) m
  (fun n s=>(s = -1∧ ∀i,i<n→ ¬0<t.T i k)∨ ∃b:Nat,s=b∧b<n∧0<t.T b k∧ ∀i,i<n→0<t.T i k→t.T b N / t.T b k<t.T i N / t.T i k∨(t.T b N / t.T b k=t.T i N / t.T i k∧t.B b≤t.B i))
  (fun r=>D8 m N t k r)
  (fun n a3 s cT=>by
    left
    unfold v8
    have g1:0≤((n:Nat):Int)∧((n:Nat):Int)<((a8 m (gT N w t)).length:Nat):=by rw [cV];omega
    have g2:(a8 m (gT N w t))[((n:Nat):Int).toNat]? = some (gT N w t n):=by rw [Int.toNat_natCast];exact gb a3
    have g3 : ∀b,0≤((k:Nat):Int)∧((k:Nat):Int)<((gT N w t b).length:Nat):=fun b=>by unfold gT;rw [cV];omega
    have g4 : ∀b,(gT N w t b)[((k:Nat):Int).toNat]? = some (b6 (t.T b k*w)):=fun b=>by rw [Int.toNat_natCast];exact gb (by omega)
    have g5 : ∀b,0≤((N:Nat):Int)∧((N:Nat):Int)<((gT N w t b).length:Nat):=fun b=>by unfold gT;rw [cV];omega
    have g6 : ∀b,(gT N w t b)[((N:Nat):Int).toNat]? = some (b6 (t.T b N*w)):=fun b=>by rw [Int.toNat_natCast];exact gb (by omega)
    have k7:R ((n:Int)+1)=((n+1:Nat):Int):=fF (by omega)
    have pG:o0 (b6 (t.T n k*w))=some (jR (t.T n k)):=by rw [ta (nN n a3 k a6),x4 hw]
    by_cases ai:0<t.T n k
    ·have bS : ¬jR (t.T n k)≤0:=by have:=qL.2 ai;omega
     rcases cT with ⟨h1,o⟩|⟨b,h1,aR,jJ,ae⟩
     ·refine ⟨(n:Int),dI (by simp only;omega) (bI g1 (aS g2 (bI (g3 n) (aS (g4 n) (aS pG (dZ bS (dI (by simp only;omega) ?_))))))),.inr ⟨n,rfl,by omega,ai,fun i ah iq=> ?_⟩⟩
      ·simp only;rw [k7]
      ·by_cases c:i=n
       ·subst c;exact .inr ⟨rfl,Nat.le_refl _⟩
       ·exact (o i (by omega) iq).elim
     ·subst h1
      have E6:0≤((b:Nat):Int)∧((b:Nat):Int)<((a8 m (gT N w t)).length:Nat):=by rw [cV];omega
      have E7:(a8 m (gT N w t))[((b:Nat):Int).toNat]? = some (gT N w t b):=by rw [Int.toNat_natCast];exact gb (by omega)
      have gc:rT (b6 (t.T n N*w*(t.T b k*w))) (b6 (t.T b N*w*(t.T n k*w)))=some (if t.T n N / t.T n k<t.T b N / t.T b k then -1 else if t.T b N / t.T b k<t.T n N / t.T n k then 1 else 0):=by
       rw [Zj (CE n a3 N (by omega) b (by omega) k a6) (CE b (by omega) N (by omega) n a3 k a6)]
       have r1:=P5 (x:=t.T n N) (y:=t.T n k) (z:=t.T b N) (v:=t.T b k) hw ai jJ
       have b5:=P5 (x:=t.T b N) (y:=t.T b k) (z:=t.T n N) (v:=t.T n k) hw jJ ai
       by_cases bx:t.T n N / t.T n k<t.T b N / t.T b k
       ·rw [if_pos bx,if_pos (r1.2 bx)]
       ·rw [if_neg bx,if_neg (fun c=>bx (r1.1 c))]
        by_cases ch:t.T b N / t.T b k<t.T n N / t.T n k
        ·rw [if_pos ch,if_pos (b5.2 ch)]
        ·rw [if_neg ch,if_neg (fun c=>ch (b5.1 c))]
      have lead : ∀ {x r:Option ((Int×Int)⊕Int)} {f:Int→Option ((Int×Int)⊕Int)} {q:Int},rT (b6 (t.T n N*w*(t.T b k*w))) (b6 (t.T b N*w*(t.T n k*w)))=some q→f q=r →
       (if 0≤((N:Nat):Int)∧((N:Nat):Int)<((gT N w t n).length:Nat) then
         (gT N w t n)[((N:Nat):Int).toNat]? >>= fun q8 =>
         if 0≤((b:Nat):Int)∧((b:Nat):Int)<((a8 m (gT N w t)).length:Nat) then
         (a8 m (gT N w t))[((b:Nat):Int).toNat]? >>= fun mv =>
         if 0≤((k:Nat):Int)∧((k:Nat):Int)<(mv.length:Nat) then
         mv[((k:Nat):Int).toNat]? >>= fun q9 =>
         pp q8 q9 >>= fun nI =>
         if 0≤((N:Nat):Int)∧((N:Nat):Int)<(mv.length:Nat) then
         mv[((N:Nat):Int).toNat]? >>= fun sF =>
         pp sF (b6 (t.T n k*w)) >>= fun nJ =>
         rT nI nJ >>= f
         else none else none else none else none)=r:=fun a7 cg =>
       bI (g5 n) (aS (g6 n) (bI E6 (aS E7 (bI (g3 b) (aS (g4 b) (aS (xT (nN n a3 N (by omega)) (nN b (by omega) k a6)) (bI (g5 b) (aS (g6 b) (aS (xT (nN b (by omega) N (by omega)) (nN n a3 k a6)) (aS a7 cg))))))))))
      by_cases bx:t.T n N / t.T n k<t.T b N / t.T b k
      ·rw [if_pos bx] at gc
       refine ⟨(n:Int),dI (by simp only;omega) (bI g1 (aS g2 (bI (g3 n) (aS (g4 n) (aS pG (dZ bS (dZ (by simp only;omega) (lead (x:=none) gc (dI (by omega) ?_))))))))),.inr ⟨n,rfl,by omega,ai,fun i ah iq=> ?_⟩⟩
       ·simp only;rw [k7]
       ·by_cases c:i=n
        ·subst c;exact .inr ⟨rfl,Nat.le_refl _⟩
        ·rcases ae i (by omega) iq with h|⟨h,-⟩
         ·left;grind
         ·left;rw [← h];exact bx
      ·rw [if_neg bx] at gc
       by_cases ch:t.T b N / t.T b k<t.T n N / t.T n k
       ·rw [if_pos ch] at gc
        refine ⟨(b:Int),dI (by simp only;omega) (bI g1 (aS g2 (bI (g3 n) (aS (g4 n) (aS pG (dZ bS (dZ (by simp only;omega) (lead (x:=none) gc (dZ (by omega) (kb (by decide) ?_)))))))))),.inr ⟨b,rfl,by omega,jJ,fun i ah iq=> ?_⟩⟩
        ·simp only;rw [k7]
        ·by_cases c:i=n
         ·subst c;exact .inl ch
         ·exact ae i (by omega) iq
       ·rw [if_neg ch] at gc
        have Mi:t.T b N / t.T b k=t.T n N / t.T n k:=by grind
        have SM:0≤((n:Nat):Int)∧((n:Nat):Int)<((dB m t).length:Nat):=by unfold dB;rw [cV];omega
        have SN:(dB m t)[((n:Nat):Int).toNat]? = some ((t.B n:Nat):Int):=by rw [Int.toNat_natCast];exact gb a3
        have SO:0≤((b:Nat):Int)∧((b:Nat):Int)<((dB m t).length:Nat):=by unfold dB;rw [cV];omega
        have SP:(dB m t)[((b:Nat):Int).toNat]? = some ((t.B b:Nat):Int):=by rw [Int.toNat_natCast];exact gb (by omega)
        by_cases jx:t.B n<t.B b
        ·refine ⟨(n:Int),dI (by simp only;omega) (bI g1 (aS g2 (bI (g3 n) (aS (g4 n) (aS pG (dZ bS (dZ (by simp only;omega) (lead (x:=none) gc (dZ (by omega) (gI rfl (bI SM (aS SN (bI SO (aS SP (dI (by omega) ?_))))))))))))))),.inr ⟨n,rfl,by omega,ai,fun i ah iq=> ?_⟩⟩
         ·simp only;rw [k7]
         ·by_cases c:i=n
          ·subst c;exact .inr ⟨rfl,Nat.le_refl _⟩
          ·rcases ae i (by omega) iq with h|⟨h,cI⟩
           ·left;grind
           ·right;exact ⟨by grind,by omega⟩
        ·refine ⟨(b:Int),dI (by simp only;omega) (bI g1 (aS g2 (bI (g3 n) (aS (g4 n) (aS pG (dZ bS (dZ (by simp only;omega) (lead (x:=none) gc (dZ (by omega) (gI rfl (bI SM (aS SN (bI SO (aS SP (dZ (by omega) ?_))))))))))))))),.inr ⟨b,rfl,by omega,jJ,fun i ah iq=> ?_⟩⟩
         ·simp only;rw [k7]
         ·by_cases c:i=n
          ·subst c;exact .inr ⟨Mi,by omega⟩
          ·exact ae i (by omega) iq
    ·have bS:jR (t.T n k)≤0:=by
      have : ¬0<jR (t.T n k):=fun c=>ai (qL.1 c)
      omega
     refine ⟨s,dI (by simp only;omega) (bI g1 (aS g2 (bI (g3 n) (aS (g4 n) (aS pG (dI bS ?_)))))),?_⟩
     ·simp only;rw [k7]
     ·rcases cT with ⟨h1,o⟩|⟨b,h1,aR,jJ,ae⟩
      ·exact .inl ⟨h1,fun i ah=>if c:i=n then c▸ai else o i (by omega)⟩
      ·exact .inr ⟨b,h1,by omega,jJ,fun i ah iq=>if c:i=n then (ai (c▸iq)).elim else ae i (by omega) iq⟩)
  (fun s cT=>by
    refine ⟨s,by unfold v8;exact dZ (by simp only;omega) rfl,?_⟩
    rcases cT with ⟨h1,o⟩|⟨b,h1,aR,jJ,ae⟩
    ·exact .inl ⟨h1,o⟩
    ·refine .inr ⟨b,h1,aR,jJ,fun i ah iq=> ?_,fun i ah iq he=> ?_⟩
     ·rw [← (DV jJ iq).1]
      rcases ae i ah iq with h|⟨h,-⟩
      ·exact Rat.le_of_lt h
      ·rw [h];exact Rat.le_refl
     ·rw [← (DV jJ iq).2] at he
      rcases ae i ah iq with h|⟨-,h⟩
      ·rw [he] at h;grind
      ·exact h) (-1:Int) (.inl ⟨rfl,fun i ah=>by omega⟩)
 refine ⟨r,aS ?_ rfl,ao⟩
 unfold Gw
 rw [e8,cV]
 exact e
def hl (m N:Nat)(h:Nat→Nat):List bs:=a8 m fun i=>some (h i,N+1)
structure mP (m N M:Nat) (h:Nat→Nat) (w:Rat) (t:cm) (fc:List (List bp)):Prop where
 len:fc.length=M
 row : ∀i,i<m→fc[h i]? = some (gT N w t i)
theorem Du {α:Type}{l:List α}{i:Nat}{x y:α}(h:l[i]? = some x):(l.set i y)[i]? = some y:=by
 rw [List.getElem?_set,if_pos rfl,if_pos (List.getElem?_eq_some_iff.1 h).1]
theorem J3 {α:Type}{l:List α}{i k:Nat}{y:α}(h:i≠k):(l.set i y)[k]? = l[k]? := by
 rw [List.getElem?_set,if_neg h]
theorem set_set {α:Type}(l:List α)(i:Nat)(x y:α):(l.set i x).set i y=l.set i y:=by
 rw [List.set_set]
structure sv (m N:Nat) (w:Rat) (t:cm) (r k:Nat):Prop where
 ao:r<m
 a6:k<N
 ai:t.T r k≠0
 yY : ∀i,i<m→ ∀j,j≤N→eu fN ((t.cl r k).T i j*(t.T r k*w))
theorem aaW {m N:Nat}(fT:N<1000){h:Nat→Nat}{w:Rat}{t:cm}{r k:Nat}(f:pd m N w t)(g:sv m N w t r k){i:Nat}(ah:i<m)(yX:i≠r)(c4:h i≠h r){fc:List (List bp)}(h1:fc[h i]? = some (gT N w t i))(o:fc[h r]? = some (gT N w t r))
 (x1 d8:Int) (aD:Int) (q1:List bs) (a1:List Int) (b0:List Bool) (v1 v2:Int) :
 CQ v1 v2 (some (h r,N+1)) (some (h i,N+1)) x1 d8 (((N+1:Nat):Nat):Int) (b6 w).cR (b6 w).cH aD q1 a1 b0 (b6 (t.T r k*w)).cR (b6 (t.T r k*w)).cH (b6 (t.T i k*w)).cR (b6 (t.T i k*w)).cH 0 fc=some (fc.set (h i) (gT N (t.T r k*w) (t.cl r k) i)):=by
 have hw:=f.pos
 have nN : ∀i,i<m→ ∀j,j≤N→eu kz (t.T i j*w):=fun i ah j aC=>(f.ic i ah j aC).mono (su (by have:=qc;generalize fN=q at *;omega))
 have aeY:eu kz w:=f.hw.mono (su (Nat.le_refl _))
 have aeZ : ∀i,i<m→ ∀j,j≤N→eu kz ((t.cl r k).T i j*(t.T r k*w)):=fun i ah j aC=>(g.yY i ah j aC).mono (su (by have:=qc;generalize fN=q at *;omega))
 have CE : ∀i,i<m→ ∀j,j≤N→ ∀eD,eD<m→ ∀hP,hP≤N→eu kz (t.T i j*w*(t.T eD hP*w)):=fun i ah j aC eD kE hP tu=>((f.ic i ah j aC).mul (f.ic eD kE hP tu)).mono (by
  refine Nat.le_trans ?_ (Nat.le_trans (Nat.le_add_right _ _) Bd)
  exact Nat.mul_le_mul (by generalize fN=q;omega) (by generalize fN=q;omega))
 have aep : ∀j,j≤N→eu kz ((t.cl r k).T i j*(t.T r k*w)*w):=fun j aC=>((g.yY i ah j aC).mul f.hw).mono (by
  refine Nat.le_trans ?_ (Nat.le_trans (Nat.le_add_right _ _) Bd)
  exact Nat.mul_le_mul (by generalize fN=q;omega) (Nat.le_refl _))
 have ao:=g.ao
 have a6:=g.a6
 have ai:=g.ai
 have sO : ∀j,(t.cl r k).T i j=t.T i j-t.T i k*(t.T r j / t.T r k):=fun j=>by simp [cm.cl,yX]
 have LB:w≠0:=by grind
 unfold CQ
 obtain ⟨s,e,-⟩:=iK (f:=fun q:Int×List (List bp)=>v9 v1 v2 (some (h r,N+1)) (some (h i,N+1)) x1 d8 (((N+1:Nat):Nat):Int) (b6 w).cR (b6 w).cH aD q1 a1 b0 (b6 (t.T r k*w)).cR (b6 (t.T r k*w)).cH (b6 (t.T i k*w)).cR (b6 (t.T i k*w)).cH q.1 q.2)
  (fun (c:Nat) (_:Unit)=>((c:Int),fc.set (h i) (a8 (N+1) fun j=>if j<c then b6 ((t.cl r k).T i j*(t.T r k*w)) else b6 (t.T i j*w)))) (N+1) (fun _ _=>True)
  (fun _=>fc.set (h i) (gT N (t.T r k*w) (t.cl r k) i))
  (fun c bf _ _=>by
    refine ⟨(),?_,trivial⟩
    have fin:(some (Sum.inl (R ((c:Int)+1),(fc.set (h i) (a8 (N+1) fun j=>if j<c then b6 ((t.cl r k).T i j*(t.T r k*w)) else b6 (t.T i j*w))).set (h i) ((a8 (N+1) fun j=>if j<c then b6 ((t.cl r k).T i j*(t.T r k*w)) else b6 (t.T i j*w)).set (0+((c:Int)).toNat) (b6 ((t.cl r k).T i c*(t.T r k*w)))))):Option ((Int×List (List bp))⊕List (List bp))) =
     some (Sum.inl (((c+1:Nat):Int),fc.set (h i) (a8 (N+1) fun j=>if j<c+1 then b6 ((t.cl r k).T i j*(t.T r k*w)) else b6 (t.T i j*w)))):=by
     rw [fF (by omega),Int.toNat_natCast,Nat.zero_add,set_set,kW]
     congr 4
     refine eY fun j _=> ?_
     by_cases bx:j=c
     ·subst bx;rw [if_pos rfl,if_pos (by omega)]
     ·rw [if_neg bx]
      by_cases ch:j<c
      ·rw [if_pos ch,if_pos (by omega)]
      ·rw [if_neg ch,if_neg (by omega)]
    have hQ:sS (b6 ((t.cl r k).T i c*(t.T r k*w)*w)) (b6 w)=some (b6 ((t.cl r k).T i c*(t.T r k*w))):=Zk (aeZ i ah c (by omega)) aeY (aep c (by omega)) LB
    unfold v9
    refine dI (by simp only;omega) (aS (x:=(h i,N+1)) rfl (aS (x:=a8 (N+1) fun j=>if j<c then b6 ((t.cl r k).T i j*(t.T r k*w)) else b6 (t.T i j*w)) (by simp only;exact Du h1) (bI (by simp only;omega) (aS (x:=b6 (t.T i c*w)) (by simp only;rw [Int.toNat_natCast,ie bf,if_neg (by omega)]) ?_))))
    refine aS (xT (nN i ah c (by omega)) (nN r ao k (by omega))) (aS (ta (nN i ah k (by omega))) (od (fun d=> ?_) (fun d=> ?_)))
    ·refine aS (x:=(h r,N+1)) rfl (aS (x:=gT N w t r) (by simp only;rw [J3 c4];exact o) (bI (by simp only;omega) (aS (x:=b6 (t.T r c*w)) (by simp only;rw [Int.toNat_natCast];exact ie bf) (aS (ta (nN r ao c (by omega))) (od (fun d2=> ?_) (fun d2=> ?_))))))
     ·refine aS (xT (nN i ah k (by omega)) (nN r ao c (by omega))) (aS (P4 (CE i ah c (by omega) r ao k (by omega)) (CE i ah k (by omega) r ao c (by omega))) (aS ?_ fin))
      rw [show t.T i c*w*(t.T r k*w)-t.T i k*w*(t.T r c*w)=(t.cl r k).T i c*(t.T r k*w)*w by rw [sO];grind]
      exact hQ
     ·have cC:t.T r c=0:=by have:=rA.1 (by simpa using d2);grind
      refine aS ?_ fin
      rw [show t.T i c*w*(t.T r k*w)=(t.cl r k).T i c*(t.T r k*w)*w by rw [sO,cC];grind]
      exact hQ
    ·have cC:t.T i k=0:=by have:=rA.1 (by simpa using d);grind
     refine aS ?_ fin
     rw [show t.T i c*w*(t.T r k*w)=(t.cl r k).T i c*(t.T r k*w)*w by rw [sO,cC];grind]
     exact hQ)
  (fun _ _=>by
    unfold v9
    refine dZ (by simp) ?_
    simp only
    congr 3
    exact eY fun j aC=>by rw [if_pos aC]) () trivial
 have e0:fc.set (h i) (a8 (N+1) fun j=>if j<0 then b6 ((t.cl r k).T i j*(t.T r k*w)) else b6 (t.T i j*w))=fc:=by
  have:(a8 (N+1) fun j=>if j<0 then b6 ((t.cl r k).T i j*(t.T r k*w)) else b6 (t.T i j*w))=gT N w t i:=eY fun j _=>by rw [if_neg (by omega)]
  rw [this]
  apply List.ext_getElem?
  intro c
  rw [List.getElem?_set]
  split
  ·rename_i e;subst e
   rw [if_pos (List.getElem?_eq_some_iff.1 h1).1,h1]
  ·rfl
 rw [e0] at e
 exact e
theorem aaX {m N:Nat}(fT:N<1000){h:Nat→Nat}{w:Rat}{t:cm}(ic:∀i,i<m→ ∀j,j≤N→eu fN (t.T i j*w)){i:Nat}(ah:i<m){fc:List (List bp)}(h1:fc[h i]? = some (gT N w t i))
 (x1 d8:Int) (iv:Bool) (jT:List Int) (aD:Int) (q1:List bs) (a1:List Int) (b0:List Bool) :
 CS (some (h i,N+1)) x1 d8 (((N+1:Nat):Nat):Int) iv jT aD q1 a1 b0 0 fc=some (fc.set (h i) (gT N (-w) t i)):=by
 have nN : ∀j,j≤N→eu kz (t.T i j*w):=fun j aC=>(ic i ah j aC).mono (su (by have:=qc;generalize fN=q at *;omega))
 unfold CS
 obtain ⟨s,e,-⟩:=iK (f:=fun q:Int×List (List bp)=>wb (some (h i,N+1)) x1 d8 (((N+1:Nat):Nat):Int) iv jT aD q1 a1 b0 q.1 q.2)
  (fun (c:Nat) (_:Unit)=>((c:Int),fc.set (h i) (a8 (N+1) fun j=>if j<c then b6 (t.T i j * -w) else b6 (t.T i j*w)))) (N+1) (fun _ _=>True)
  (fun _=>fc.set (h i) (gT N (-w) t i))
  (fun c bf _ _=>by
    refine ⟨(),?_,trivial⟩
    unfold wb
    refine dI (by simp only;omega) (aS (x:=(h i,N+1)) rfl (aS (x:=a8 (N+1) fun j=>if j<c then b6 (t.T i j * -w) else b6 (t.T i j*w)) (by simp only;exact Du h1) (bI (by simp only;omega) (aS (x:=b6 (t.T i c*w)) (by simp only;rw [Int.toNat_natCast,ie bf,if_neg (by omega)]) (aS (OH (nN c (by omega))) ?_)))))
    simp only
    rw [fF (by omega),Int.toNat_natCast,Nat.zero_add,set_set,kW]
    congr 4
    refine eY fun j _=> ?_
    by_cases bx:j=c
    ·subst bx;rw [if_pos rfl,if_pos (by omega)];congr 1;grind
    ·rw [if_neg bx]
     by_cases ch:j<c
     ·rw [if_pos ch,if_pos (by omega)]
     ·rw [if_neg ch,if_neg (by omega)])
  (fun _ _=>by
    unfold wb
    refine dZ (by simp) ?_
    simp only
    congr 3
    exact eY fun j aC=>by rw [if_pos aC]) () trivial
 have e0:fc.set (h i) (a8 (N+1) fun j=>if j<0 then b6 (t.T i j * -w) else b6 (t.T i j*w))=fc:=by
  have:(a8 (N+1) fun j=>if j<0 then b6 (t.T i j * -w) else b6 (t.T i j*w))=gT N w t i:=eY fun j _=>by rw [if_neg (by omega)]
  rw [this]
  apply List.ext_getElem?
  intro c
  rw [List.getElem?_set]
  split
  ·rename_i e;subst e
   rw [if_pos (List.getElem?_eq_some_iff.1 h1).1,h1]
  ·rfl
 rw [e0] at e
 exact e
def oP (w:Rat)(t:cm)(r k:Nat):Rat:=if 0<t.T r k then t.T r k*w else -(t.T r k*w)
theorem Qz {m N M:Nat}(hm:m≤20)(fT:N<1000){h:Nat→Nat}(inj:∀i,i<m→ ∀k,k<m→h i=h k→i=k){w:Rat}{t:cm}{r k:Nat}(f:pd m N w t)(g:sv m N w t r k){fc:List (List bp)}(hj:mP m N M h w t fc)(gu:Int)(free:List Bool):
 ∃kY,wV r k (b6 w).cR (b6 w).cH gu (hl m N h) fc (dB m t) free=some ((b6 (oP w t r k)).cR,(b6 (oP w t r k)).cH,kY,dB m (t.cl r k))∧mP m N M h (oP w t r k) (t.cl r k) kY:=by
 have ao:=g.ao
 have a6:=g.a6
 have ai:=g.ai
 have hw:=f.pos
 have nN : ∀i,i<m→ ∀j,j≤N→eu kz (t.T i j*w):=fun i ah j aC=>(f.ic i ah j aC).mono (su (by have:=qc;generalize fN=q at *;omega))
 have rj:gT N (t.T r k*w) (t.cl r k) r=gT N w t r:=eY fun j _=>by
  simp only [cm.cl,if_true];congr 1;grind
 have y3:(hl m N h).length=m:=cV ..
 unfold wV
 obtain ⟨p1,e1,nK,r1⟩:=iK (f:=fun q:Int×List (List bp)=>wa (r:Int) (k:Int) (some (h r,N+1)) ((m:Nat):Int) (b6 w).cR (b6 w).cH gu (hl m N h) (dB m t) free (b6 (t.T r k*w)).cR (b6 (t.T r k*w)).cH q.1 q.2)
  (fun (i:Nat) (p:List (List bp))=>((i:Int),p)) m (fun n p=>p.length=M∧ ∀i,i<m→p[h i]? = some (if i=r∨i<n then gT N (t.T r k*w) (t.cl r k) i else gT N w t i)) (fun p=>p)
  (fun n a3 p cT=>by
    obtain ⟨aT,cT⟩:=cT
    unfold wa
    by_cases c:n=r
    ·subst c
     refine ⟨p,dI (by simp only;omega) (bI (by rw [y3];simp only;omega) (aS (x:=some (h n,N+1)) (by simp only;rw [Int.toNat_natCast];exact ie a3) (gI (by simp) ?_))),aT,fun i ah=> ?_⟩
     ·simp only;rw [fF (by omega)]
     ·rw [cT i ah]
      by_cases bx:i=n∨i<n
      ·rw [if_pos bx,if_pos (by omega)]
      ·rw [if_neg bx,if_neg (by omega)]
    ·have c4:h n≠h r:=fun e=>c (inj n a3 r ao e)
     have h1:p[h n]? = some (gT N w t n):=by rw [cT n a3,if_neg (by omega)]
     have o:p[h r]? = some (gT N w t r):=by rw [cT r ao,if_pos (.inl rfl),rj]
     refine ⟨p.set (h n) (gT N (t.T r k*w) (t.cl r k) n),dI (by simp only;omega) (bI (by rw [y3];simp only;omega) (aS (x:=some (h n,N+1)) (by simp only;rw [Int.toNat_natCast];exact ie a3) (kb (by simp;omega) (aS (x:=(h n,N+1)) rfl (aS h1 (bI (by simp only;omega) (aS (x:=b6 (t.T n k*w)) (by rw [Int.toNat_natCast];exact ie (by omega)) (aS (aaW fT f g a3 c c4 h1 o _ _ _ _ _ _ _ _) ?_)))))))),by rw [List.length_set];exact aT,fun i ah=> ?_⟩
     ·simp only;rw [fF (by omega)]
     ·by_cases bx:i=n
      ·subst bx;rw [Du h1,if_pos (.inr (by omega))]
      ·rw [J3 (fun e=>bx (inj i ah n a3 e.symm)),cT i ah]
       by_cases ch:i=r∨i<n
       ·rw [if_pos ch,if_pos (by omega)]
       ·rw [if_neg ch,if_neg (by omega)])
  (fun p _=>by unfold wa;exact dZ (by simp) rfl) fc ⟨hj.len,fun i ah=>by
    rw [hj.row i ah]
    by_cases c:i=r
    ·rw [if_pos (.inl c),c,rj]
    ·rw [if_neg (by omega)]⟩
 have yV : ∀i,i<m→p1[h i]? = some (gT N (t.T r k*w) (t.cl r k) i):=fun i ah=>by rw [r1 i ah,if_pos (.inr ah)]
 have ada:(dB m t).set (0+((r:Int)).toNat) (k:Int)=dB m (t.cl r k):=by
  rw [Int.toNat_natCast,Nat.zero_add]
  unfold dB
  rw [kW]
  exact eY fun i _=>by
   simp only [cm.cl]
   split<;>rfl
 have lead :
  (if 0≤(r:Int)∧(r:Int)<((hl m N h).length:Nat) then
    (hl m N h)[(0+((r:Int)).toNat)]? >>= fun d8 =>
    d8 >>= fun jK =>
    fc[jK.1]? >>= fun m3 =>
    if 0≤(k:Int)∧(k:Int)<(jK.2:Nat) then
    m3[(0+((k:Int)).toNat)]? >>= fun ej =>
    CR (r:Int) (k:Int) d8 (((hl m N h).length:Nat):Int) (b6 w).cR (b6 w).cH gu (hl m N h) (dB m t) free ej.cR ej.cH 0 fc >>= fun di =>
    if 0≤(r:Int)∧(r:Int)<((dB m t).length:Nat) then
    if (0+((r:Int)).toNat)<(dB m t).length then
    o0 ej >>= fun gB =>
    if (decide ((0:Int)<gB))=true then
     some (ej.cR,ej.cH,di,(dB m t).set (0+((r:Int)).toNat) (k:Int))
    else
     rS ej >>= fun fa =>
     zd (((hl m N h).length:Nat):Int) fa.cR fa.cH gu (hl m N h) ((dB m t).set (0+((r:Int)).toNat) (k:Int)) free 0 di >>= fun jw =>
     some (fa.cR,fa.cH,jw,(dB m t).set (0+((r:Int)).toNat) (k:Int))
    else none else none else none else none)=(if (decide ((0:Int)<jR (t.T r k)))=true then
     some ((b6 (t.T r k*w)).cR,(b6 (t.T r k*w)).cH,p1,dB m (t.cl r k))
    else
     rS (b6 (t.T r k*w)) >>= fun fa =>
     zd ((m:Nat):Int) fa.cR fa.cH gu (hl m N h) (dB m (t.cl r k)) free 0 p1 >>= fun jw =>
     some (fa.cR,fa.cH,jw,dB m (t.cl r k))):=by
  refine bI (by rw [y3];omega) (aS (x:=some (h r,N+1)) (by rw [Int.toNat_natCast];exact ie ao) (aS (x:=(h r,N+1)) rfl (aS (hj.row r ao) (bI (by simp only;omega) (aS (x:=b6 (t.T r k*w)) (by rw [Int.toNat_natCast];exact ie (by omega)) (aS (x:=p1) (by unfold CR;rw [y3];exact e1) (bI (by unfold dB;rw [cV];omega) (bI (by unfold dB;rw [cV,Int.toNat_natCast];omega) (aS (ta (nN r ao k (by omega))) ?_)))))))))
  rw [x4 hw,ada,y3]
 by_cases j6:0<t.T r k
 ·have tN:oP w t r k=t.T r k*w:=if_pos j6
  refine ⟨p1,lead.trans ?_,nK,fun i ah=>by rw [tN];exact yV i ah⟩
  rw [tN]
  exact dI (qL.2 j6) rfl
 ·have tN:oP w t r k = -(t.T r k*w):=if_neg j6
  obtain ⟨hi,aE,qt,b5⟩:=iK (f:=fun q:Int×List (List bp)=>wc ((m:Nat):Int) (b6 (-(t.T r k*w))).cR (b6 (-(t.T r k*w))).cH gu (hl m N h) (dB m (t.cl r k)) free q.1 q.2)
   (fun (i:Nat) (p:List (List bp))=>((i:Int),p)) m (fun n p=>p.length=M∧ ∀i,i<m→p[h i]? = some (if i<n then gT N (-(t.T r k*w)) (t.cl r k) i else gT N (t.T r k*w) (t.cl r k) i)) (fun p=>p)
   (fun n a3 p cT=>by
     obtain ⟨aT,cT⟩:=cT
     have h1:p[h n]? = some (gT N (t.T r k*w) (t.cl r k) n):=by rw [cT n a3,if_neg (by omega)]
     unfold wc
     refine ⟨p.set (h n) (gT N (-(t.T r k*w)) (t.cl r k) n),dI (by simp only;omega) (bI (by rw [y3];simp only;omega) (aS (x:=some (h n,N+1)) (by simp only;rw [Int.toNat_natCast];exact ie a3) (aS (x:=(h n,N+1)) rfl (aS h1 (aS (aaX fT g.yY a3 h1 _ _ _ _ _ _ _ _) ?_))))),by rw [List.length_set];exact aT,fun i ah=> ?_⟩
     ·simp only;rw [fF (by omega)]
     ·by_cases bx:i=n
      ·subst bx;rw [Du h1,if_pos (by omega)]
      ·rw [J3 (fun e=>bx (inj i ah n a3 e.symm)),cT i ah]
       by_cases ch:i<n
       ·rw [if_pos ch,if_pos (by omega)]
       ·rw [if_neg ch,if_neg (by omega)])
   (fun p _=>by unfold wc;exact dZ (by simp) rfl) p1 ⟨nK,fun i ah=>by rw [yV i ah,if_neg (by omega)]⟩
  refine ⟨hi,lead.trans ?_,qt,fun i ah=>by rw [tN,b5 i ah,if_pos ah]⟩
  rw [tN]
  exact dZ (fun c=>j6 (qL.1 c)) (aS (OH (nN r ao k (by omega))) (aS (x:=hi) (by unfold zd;exact aE) rfl))
theorem On {m:Nat}(hm:m≤1000)(t:cm)(j:Nat): ∃b,xI (dB m t) (j:Int)=some b∧(b=true↔ ∃i,i<m∧t.B i=j):=by
 unfold xI D6 JZ
 obtain ⟨r,e,h⟩:=r8 (f:=fun w:Int=>xn (dB m t) (j:Int) ((m:Nat):Int) w) (fun (i:Nat) (_:Unit)=>(i:Int)) m (fun i _=> ∀k,k<i→t.B k≠j)
  (fun r=>(∃i:Nat,r = .inr (i:Int)∧i<m∧t.B i=j)∨(r = .inl ()∧ ¬∃i,i<m∧t.B i=j))
  (fun i ah _ cT=>by
    unfold xn
    by_cases c:t.B i=j
    ·right
     exact ⟨_,dI (by omega) (bI (by unfold dB;rw [cV];omega) (aS (x:=((t.B i:Nat):Int)) (by rw [Int.toNat_natCast];exact gb ah) (gI (by simp [c]) rfl))),.inl ⟨i,rfl,ah,c⟩⟩
    ·left
     refine ⟨(),dI (by omega) (bI (by unfold dB;rw [cV];omega) (aS (x:=((t.B i:Nat):Int)) (by rw [Int.toNat_natCast];exact gb ah) (kb (by simp;omega) (by rw [fF (by omega)])))),fun k a6=> ?_⟩
     by_cases e:k=i
     ·rw [e];exact c
     ·exact cT k (by omega))
  (fun _ cT=>⟨_,by unfold xn;exact dZ (by omega) rfl,.inr ⟨rfl,fun ⟨i,ah,e⟩=>cT i ah e⟩⟩) () (fun k a6=>by omega)
 rw [f9,show (dB m t).length=m from cV ..]
 rcases h with ⟨i,rfl,h1,o⟩|⟨rfl,h⟩
 ·exact ⟨true,aS (x:=(i:Int)) (aS e rfl) (by simp),by simp only [true_iff];exact ⟨i,h1,o⟩⟩
 ·exact ⟨false,aS (x:=(-1:Int)) (aS e rfl) rfl,by simp [h]⟩
theorem AJ {m N M:Nat}{h:Nat→Nat}{w:Rat}{t:cm}{fc:List (List bp)}(hj:mP m N M h w t fc):(hl m N h).all (oR fc)=true:=by
 rw [List.all_eq_true]
 intro x U
 obtain ⟨i,ah,rfl⟩:=D5.1 U
 simp only [oR]
 have h1:=hj.row i ah
 have o:fc.getD (h i) []=gT N w t i:=by rw [List.getD_eq_getElem?_getD,h1];rfl
 rw [o,show (gT N w t i).length=N+1 from cV ..]
 simp [(List.getElem?_eq_some_iff.1 h1).1]
theorem uJ {m N M:Nat}{h:Nat→Nat}{w:Rat}{t:cm}{fc:List (List bp)}(hj:mP m N M h w t fc):(hl m N h).map (gz fc)=a8 m (gT N w t):=by
 unfold hl
 rw [Kz]
 exact eY fun i ah=>by
  have o:fc.getD (h i) []=gT N w t i:=by rw [List.getD_eq_getElem?_getD,hj.row i ah];rfl
  simp only [gz]
  rw [o]
  exact List.take_of_length_le (Nat.le_of_eq (cV ..))
theorem SQ {m:Nat}{I:Nat→Rat}{t:cm}{j:Nat}:t.re m 1 (fun _=>I) j↔0<t.c3 m I j:=Ey (g:=fun _=>t.c3 m I j)
theorem Zm {gn m N M:Nat}{A:Nat→Nat→Rat}(hm:m≤20)(fT:N<1000){h:Nat→Nat}(inj:∀i,i<m→ ∀k,k<m→h i=h k→i=k){w:Rat}{t:cm}(ok:ga gn m N A t)(f:pd m N w t)(I:Nat→Int)(ap:∀j,j<N→ -100≤I j∧I j≤100)(dJ:Nat→Bool)
 (ae0 : ∀r s,nW m N 1 (fun _ j=>(I j:Rat)) (fun j=>dJ j=true) t r s→sv m N w t r s) {fc:List (List bp)} (hj:mP m N M h w t fc) :
 ∃x,wg (N:Int) (b6 w).cR (b6 w).cH (hl m N h) fc (dB m t) (a8 N dJ) (a8 N I) 0=some x ∧
  ((x = .inl (false,(b6 w).cR,(b6 w).cH,fc,dB m t)∧ ∀j,j<N→dJ j=true→ ¬0<t.c3 m (fun j=>(I j:Rat)) j) ∨
   (∃r s kY,x = .inl (true,(b6 (oP w t r s)).cR,(b6 (oP w t r s)).cH,kY,dB m (t.cl r s))∧nW m N 1 (fun _ j=>(I j:Rat)) (fun j=>dJ j=true) t r s∧mP m N M h (oP w t r s) (t.cl r s) kY) ∨
   (x = .inr ()∧ ∃s,s<N∧dJ s=true∧0<t.c3 m (fun j=>(I j:Rat)) s∧ ∀i,i<m→ ¬0<t.T i s)):=by
 unfold wg
 refine r8 (f:=fun q:Int=>vZ (N:Int) (b6 w).cR (b6 w).cH (hl m N h) fc (dB m t) (a8 N dJ) (a8 N I) q) (fun (i:Nat) (_:Unit)=>(i:Int)) N
  (fun n _=> ∀j,j<n→dJ j=true→ ¬0<t.c3 m (fun j=>(I j:Rat)) j) _ (fun n a3 _ cT=> ?_) (fun _ cT=> ?_) () (fun j aC=>by omega)
 ·have next : ∀(hI:dJ n=true→ ¬0<t.c3 m (fun j=>(I j:Rat)) n),∀j,j<n+1→dJ j=true→ ¬0<t.c3 m (fun j=>(I j:Rat)) j:=fun hI j aC=>by
   by_cases c:j=n
   ·subst c;exact hI
   ·exact cT j (by omega)
  have g1:0≤((n:Nat):Int)∧((n:Nat):Int)<((a8 N dJ).length:Nat):=by rw [cV];omega
  have g2:(a8 N dJ)[(0+((n:Nat):Int).toNat)]? = some (dJ n):=by rw [Int.toNat_natCast];exact ie a3
  have k7:R ((n:Int)+1)=((n+1:Nat):Int):=fF (by omega)
  unfold vZ
  by_cases pS:dJ n=true
  ·obtain ⟨b,iv,jT⟩:=On (m:=m) (by omega) t n
   cases b with
   | true =>
    obtain ⟨i,ah,gH⟩:=jT.1 rfl
    left
    refine ⟨(),dI (by omega) (bI g1 (aS g2 (gI pS (aS iv (gI rfl (by rw [k7])))))),next fun _=> ?_⟩
    rw [← gH,ok.xG _ ah];grind
   | false =>
    have dt:=Qy hm fT f I ap ((⟨(b6 w).cR,(b6 w).cH⟩:bp)) rfl (N:Int) (a8 N dJ) a3
    by_cases rR:0<t.c3 m (fun j=>(I j:Rat)) n
    ·obtain ⟨q,q1,a1⟩:=Zl hm fT f ((⟨(b6 w).cR,(b6 w).cH⟩:bp)) (a8 N dJ) (k:=n) (by omega)
     have bS : ¬jR (t.c3 m (fun j=>(I j:Rat)) n)≤0:=by have:=qL.2 rR;omega
     right
     rcases a1 with ⟨rfl,o⟩|⟨b,rfl,aR,jJ,ae,au⟩
     ·exact ⟨_,dI (by omega) (bI g1 (aS g2 (gI pS (aS iv (kb rfl (bI (AJ hj) (aS (by rw [uJ hj];exact dt) (dZ bS (aS (by rw [uJ hj];exact q1) (dI (by decide) rfl)))))))))),.inr (.inr ⟨rfl,n,a3,pS,rR,o⟩)⟩
     ·have c8:nW m N 1 (fun _ j=>(I j:Rat)) (fun j=>dJ j=true) t b n:=⟨a3,pS,SQ.2 rR,fun j aC cg dt=>cT j aC cg (SQ.1 dt),aR,jJ,ae,au⟩
      obtain ⟨kY,e1,aE⟩:=Qz hm fT inj f (ae0 b n c8) hj (N:Int) (a8 N dJ)
      exact ⟨_,dI (by omega) (bI g1 (aS g2 (gI pS (aS iv (kb rfl (bI (AJ hj) (aS (by rw [uJ hj];exact dt) (dZ bS (aS (by rw [uJ hj];exact q1) (dZ (by omega) (aS e1 rfl))))))))))),.inr (.inl ⟨b,n,kY,rfl,c8,aE⟩)⟩
    ·left
     have bS:jR (t.c3 m (fun j=>(I j:Rat)) n)≤0:=by
      have : ¬0<jR (t.c3 m (fun j=>(I j:Rat)) n):=fun c=>rR (qL.1 c)
      omega
     exact ⟨(),dI (by omega) (bI g1 (aS g2 (gI pS (aS iv (kb rfl (bI (AJ hj) (aS (by rw [uJ hj];exact dt) (dI bS (by rw [k7]))))))))),next fun _=>rR⟩
  ·left
   have Fa:dJ n=false:=by simpa using pS
   exact ⟨(),dI (by omega) (bI g1 (aS g2 (kb Fa (by rw [k7])))),next fun c=>(pS c).elim⟩
 ·exact ⟨_,by unfold vZ;exact dZ (by omega) rfl,.inl ⟨rfl,cT⟩⟩
def tp (N:Int)(qj:List bs)(free:List Bool)(obj:List Int)(s:Bool×List Int×List (List bp)×List Int):Option ((Bool×List Int×List (List bp)×List Int)⊕((Bool×List Int×List (List bp)×List Int)⊕(Bool×List Int×List (List bp)×List Int))) :=
 match wg N s.1 s.2.1 qj s.2.2.1 s.2.2.2 free obj 0 with
 | none=>none
 | some (.inl (true,bQ))=>some (.inl bQ)
 | some (.inl (false,bQ))=>some (.inr (.inl bQ))
 | some (.inr ())=>some (.inr (.inr s))
theorem aaY {N:Int}{qj:List bs}{free:List Bool}{obj:List Int}: ∀s r,iter (tp N qj free obj) s=some r→CM N qj free obj true s.1 s.2.1 s.2.2.1 s.2.2.2=some r:=by
 unfold CM
 apply iter.partial_correctness (tp N qj free obj) (fun s r=>iter (fun w:Bool×Bool×(List Int)×(List (List bp))×(List Int)=>tO N qj free obj w.1 w.2.1 w.2.2.1 w.2.2.2.1 w.2.2.2.2) (true,s.1,s.2.1,s.2.2.1,s.2.2.2)=some r)
 intro it ih s r ao
 cases U:wg N s.1 s.2.1 qj s.2.2.1 s.2.2.2 free obj 0 with
 | none=>unfold tp at ao;rw [U] at ao;simp at ao
 | some x =>
  have hm:tO N qj free obj true s.1 s.2.1 s.2.2.1 s.2.2.2=match x with
   | .inl fh=>(some (.inl (fh.1,fh.2.1,fh.2.2.1,fh.2.2.2.1,fh.2.2.2.2)))
   | .inr fh=>(some (.inr (.inr (s.1,s.2.1,s.2.2.1,s.2.2.2)))):=by
   unfold tO
   refine gI rfl ?_
   cases x with
   | inl a=>exact aS U rfl
   | inr a=>exact aS U rfl
  unfold tp at ao
  rw [U] at ao
  rw [iter]
  simp only
  rw [hm]
  match x,ao with
  | .inl (true,bQ),ao=>exact ih _ _ ao
  | .inl (false,bQ),ao =>
   simp at ao
   subst ao
   show iter _ (false,bQ.1,bQ.2.1,bQ.2.2.1,bQ.2.2.2)=_
   rw [iter]
   simp only
   unfold tO
   rfl
  | .inr (),ao =>
   simp at ao
   subst ao
   rfl
theorem aaZ {gn m N M:Nat}{A:Nat→Nat→Rat}(hm:m≤20)(fT:N<1000){h:Nat→Nat}{w:Rat}{t:cm}(ok:ga gn m N A t)(f:pd m N w t)(I:Nat→Int)(ap:∀j,j<N→ -100≤I j∧I j≤100)(dJ:Nat→Bool){fc:List (List bp)}(hj:mP m N M h w t fc):
 CN (N:Int) (b6 w).cR (b6 w).cH (hl m N h) fc (dB m t) (a8 N I) 0 (a8 N dJ)=some (a8 N fun j=>dJ j && !decide (t.c3 m (fun j=>(I j:Rat)) j<0)):=by
 unfold CN
 obtain ⟨s,e,-⟩:=iK (f:=fun q:Int×List Bool=>v5 (N:Int) (b6 w).cR (b6 w).cH (hl m N h) fc (dB m t) (a8 N I) q.1 q.2)
  (fun (i:Nat) (_:Unit)=>((i:Int),a8 N fun j=>if j<i then dJ j && !decide (t.c3 m (fun j=>(I j:Rat)) j<0) else dJ j)) N (fun _ _=>True) (fun _=>a8 N fun j=>dJ j && !decide (t.c3 m (fun j=>(I j:Rat)) j<0))
  (fun n a3 _ _=>by
    refine ⟨(),?_,trivial⟩
    have same:dJ n=(dJ n && !decide (t.c3 m (fun j=>(I j:Rat)) n<0))→(R ((n:Int)+1),a8 N fun j=>if j<n then dJ j && !decide (t.c3 m (fun j=>(I j:Rat)) j<0) else dJ j)=(((n+1:Nat):Int),a8 N fun j=>if j<n+1 then dJ j && !decide (t.c3 m (fun j=>(I j:Rat)) j<0) else dJ j):=fun he=>by
     rw [fF (by omega)]
     congr 1
     refine eY fun j _=> ?_
     by_cases c:j=n
     ·subst c;rw [if_neg (by omega),if_pos (by omega)];exact he
     ·by_cases ch:j<n
      ·rw [if_pos ch,if_pos (by omega)]
      ·rw [if_neg ch,if_neg (by omega)]
    have g1 : ∀F:Nat→Bool,0≤((n:Nat):Int)∧((n:Nat):Int)<((a8 N F).length:Nat):=fun F=>by rw [cV];omega
    have g2:(a8 N fun j=>if j<n then dJ j && !decide (t.c3 m (fun j=>(I j:Rat)) j<0) else dJ j)[(0+((n:Nat):Int).toNat)]? = some (dJ n):=by rw [Int.toNat_natCast,ie a3,if_neg (by omega)]
    unfold v5
    by_cases pS:dJ n=true
    ·obtain ⟨b,iv,jT⟩:=On (m:=m) (by omega) t n
     cases b with
     | true =>
      obtain ⟨i,ah,gH⟩:=jT.1 rfl
      refine dI (by simp only;omega) (bI (g1 _) (aS g2 (gI pS (aS iv (gI rfl ?_)))))
      simp only
      rw [same]
      rw [← gH,ok.xG _ ah,decide_eq_false (by grind)];simp
     | false =>
      have dt:=Qy hm fT f I ap ((⟨(b6 w).cR,(b6 w).cH⟩:bp)) rfl (N:Int) (a8 N fun j=>if j<n then dJ j && !decide (t.c3 m (fun j=>(I j:Rat)) j<0) else dJ j) a3
      have bS:jR (t.c3 m (fun j=>(I j:Rat)) n)<0↔t.c3 m (fun j=>(I j:Rat)) n<0:=by
       unfold jR
       by_cases c:t.c3 m (fun j=>(I j:Rat)) n=0
       ·rw [if_pos c,c];constructor
        ·intro h;omega
        ·intro h;grind
       ·rw [if_neg c]
        by_cases ch:t.c3 m (fun j=>(I j:Rat)) n<0
        ·rw [if_pos ch];simp [ch]
        ·rw [if_neg ch];constructor
         ·intro h;omega
         ·intro h;exact (ch h).elim
      by_cases rR:t.c3 m (fun j=>(I j:Rat)) n<0
      ·refine dI (by simp only;omega) (bI (g1 _) (aS g2 (gI pS (aS iv (kb rfl (bI (AJ hj) (aS (by rw [uJ hj];exact dt) (dI (bS.2 rR) (bI (by rw [cV,Int.toNat_natCast];omega) ?_)))))))))
       simp only
       rw [fF (by omega),Int.toNat_natCast,Nat.zero_add,kW]
       congr 3
       refine eY fun j _=> ?_
       by_cases c:j=n
       ·subst c;rw [if_pos rfl,if_pos (by omega),decide_eq_true rR];simp
       ·rw [if_neg c]
        by_cases ch:j<n
        ·rw [if_pos ch,if_pos (by omega)]
        ·rw [if_neg ch,if_neg (by omega)]
      ·refine dI (by simp only;omega) (bI (g1 _) (aS g2 (gI pS (aS iv (kb rfl (bI (AJ hj) (aS (by rw [uJ hj];exact dt) (dZ (fun c=>rR (bS.1 c)) ?_))))))))
       simp only
       rw [same]
       rw [decide_eq_false rR];simp
    ·have Fa:dJ n=false:=by simpa using pS
     refine dI (by simp only;omega) (bI (g1 _) (aS g2 (kb Fa ?_)))
     simp only
     rw [same]
     rw [Fa];simp)
  (fun _ _=>by
    unfold v5
    refine dZ (by simp) ?_
    simp only
    congr 2
    exact eY fun j aC=>by rw [if_pos aC]) () trivial
 have e0:(a8 N fun j=>if j<0 then dJ j && !decide (t.c3 m (fun j=>(I j:Rat)) j<0) else dJ j)=a8 N dJ:=eY fun j _=>by rw [if_neg (by omega)]
 rw [e0] at e
 exact e
theorem YM {gn m N M:Nat}{A:Nat→Nat→Rat}(hm:m≤20)(fT:N<1000){h:Nat→Nat}(inj:∀i,i<m→ ∀k,k<m→h i=h k→i=k)(I:Nat→Int)(ap:∀j,j<N→ -100≤I j∧I j≤100)(dJ:Nat→Bool)
 (Inv:Rat→cm→Prop) (inv : ∀w t,Inv w t→ga gn m N A t∧t.k0 m N∧pd m N w t)
 (gL : ∀w t r s,Inv w t→nW m N 1 (fun _ j=>(I j:Rat)) (fun j=>dJ j=true) t r s→sv m N w t r s∧Inv (oP w t r s) (t.cl r s)) {w:Rat} {t:cm} (cT:Inv w t) {fc:List (List bp)} (hj:mP m N M h w t fc) :
 ∃b bL df kY oS,wE (b6 w).cR (b6 w).cH (N:Int) (hl m N h) fc (dB m t) (a8 N dJ) (a8 N I)=some (b,(b6 bL).cR,(b6 bL).cH,kY,dB m df,a8 N oS)∧Inv bL df∧mP m N M h bL df kY ∧
  ((b=true∧(∀j,j<N→dJ j=true→ ¬0<df.c3 m (fun j=>(I j:Rat)) j)∧oS=fun j=>dJ j && !decide (df.c3 m (fun j=>(I j:Rat)) j<0))∨(b=false∧ ∃s,s<N∧dJ s=true∧0<df.c3 m (fun j=>(I j:Rat)) s∧ ∀i,i<m→ ¬0<df.T i s)):=by
 obtain ⟨ok,ls,Cq⟩:=inv w t cT
 obtain ⟨x,dH,df,e,-,-,-,bL,kY,h1,o,ae⟩:=O1 (gn:=gn) (m:=m) (N:=N) (K:=1) (A:=A) (obj:=fun _ j=>(I j:Rat)) (bW:=fun j=>dJ j=true)
  (f:=tp (N:Int) (hl m N h) (a8 N dJ) (a8 N I))
  (fun s t=> ∃w fc,s=((b6 w).cR,(b6 w).cH,fc,dB m t)∧Inv w t∧mP m N M h w t fc)
  (fun s x t=> ∃w fc,Inv w t∧mP m N M h w t fc∧((x = .inl ((b6 w).cR,(b6 w).cH,fc,dB m t)∧ ∀j,j<N→dJ j=true→ ¬0<t.c3 m (fun j=>(I j:Rat)) j) ∨
    (x = .inr ((b6 w).cR,(b6 w).cH,fc,dB m t)∧ ∃s,s<N∧dJ s=true∧0<t.c3 m (fun j=>(I j:Rat)) s∧ ∀i,i<m→ ¬0<t.T i s)))
  (fun s t cZ ok _=>by
    obtain ⟨w,fc,rfl,cT,hj⟩:=cZ
    obtain ⟨x,e,U⟩:=Zm hm fT inj ok (inv w t cT).2.2 I ap dJ (fun r s b=>(gL w t r s cT b).1) hj
    rcases U with ⟨rfl,U⟩|⟨r,s,kY,rfl,c8,aeq⟩|⟨rfl,U⟩
    ·left
     exact ⟨_,by unfold tp;simp only;rw [e],w,fc,cT,hj,.inl ⟨rfl,U⟩⟩
    ·right
     exact ⟨_,r,s,by unfold tp;simp only;rw [e],c8,oP w t r s,kY,rfl,(gL w t r s cT c8).2,aeq⟩
    ·left
     exact ⟨_,by unfold tp;simp only;rw [e],w,fc,cT,hj,.inr ⟨rfl,U⟩⟩)
  (a:=((b6 w).cR,(b6 w).cH,fc,dB m t)) (t:=t) ⟨w,fc,rfl,cT,hj⟩ ok ls
 have aE:=aaY _ _ e
 obtain ⟨kQ,agM,aer⟩:=inv bL df h1
 rcases ae with ⟨rfl,ae⟩|⟨rfl,ae⟩
 ·refine ⟨true,bL,df,kY,_,?_,h1,o,.inl ⟨rfl,ae,rfl⟩⟩
  unfold wE
  exact aS aE (aS (aaZ hm fT kQ aer I ap dJ o) rfl)
 ·refine ⟨false,bL,df,kY,dJ,?_,h1,o,.inr ⟨rfl,ae⟩⟩
  unfold wE
  exact aS aE rfl
def hk (m:Nat)(A:Nat→Nat→Rat)(t:cm):Rat:=if 0<t.D m A then t.D m A else -(t.D m A)
theorem ab1 {m N:Nat}{A:Nat→Nat→Rat}{t:cm}(h:t.D m A≠0):0<hk m A t:=by
 unfold hk;split<;>grind
theorem Rn {m K:Nat}{A:Nat→Nat→Rat}{t:cm}{x:Rat}(h:eu K (x*t.D m A)):eu K (x*hk m A t):=by
 unfold hk;split
 ·exact h
 ·have:=h.neg
  rw [show x * -(t.D m A) = -(x*t.D m A) by grind];exact this
theorem kP.rI {m N:Nat}{A:Nat→Nat→Rat}(s:Small m N A){t:cm}(h:kP m N A t):pd m N (hk m A t) t where
 pos:=ab1 (N:=N) h.rk
 hw:=by
  have h1:eu fN (1*t.D m A):=by rw [Rat.one_mul];exact h.Cn s
  have:=Rn h1
  rw [Rat.one_mul] at this
  exact this.mono (by generalize fN=q;omega)
 ic:=fun i ah j aC=>Rn (h.tD s ah aC)
 gH:=h.ok.j1
theorem kP.u3 {m N:Nat}{A:Nat→Nat→Rat}(s:Small m N A){t:cm}(h:kP m N A t){r k:Nat}(ao:r<m)(a6:k<N)(ai:t.T r k≠0):sv m N (hk m A t) t r k where
 ao:=ao
 a6:=a6
 ai:=ai
 yY:=fun i ah j aC=>by
  have kQ:=h.ok.cl ao a6 ai
  have h1:eu fN ((t.cl r k).T i j*(t.cl r k).D m A):=by
   rw [← kQ.vK ah aC]
   refine eu.mono (ya fun dU mV c bf=> ?_) (Bc▸xR (by omega) s.hm)
   simp only [gh]
   split
   ·exact s.tM c bf j aC
   ·exact s.tM c bf _ (Nat.le_of_lt (kQ.j1 dU mV))
  rw [h.ok.uV ao a6] at h1
  unfold hk
  split
  ·exact h1
  ·have:=h1.neg
   rw [show (t.cl r k).T i j*(t.T r k * -(t.D m A)) = -((t.cl r k).T i j*(t.T r k*t.D m A)) by grind];exact this
theorem KV {m N:Nat}{A:Nat→Nat→Rat}{t:cm}(h:ga m m N A t)(bE:t.D m A≠0){r k:Nat}(ao:r<m)(a6:k<N)(ai:t.T r k≠0):oP (hk m A t) t r k=hk m A (t.cl r k):=by
 have e:=h.uV ao a6
 unfold oP hk
 rw [e]
 by_cases bx:0<t.T r k<;>by_cases ch:0<t.D m A
 ·rw [if_pos bx,if_pos ch,if_pos (Rat.mul_pos bx ch)]
 ·have:=Rat.mul_pos bx (show 0 < -(t.D m A) by grind)
  rw [if_pos bx,if_neg ch,if_neg (by grind)];grind
 ·have:=Rat.mul_pos (show 0 < -(t.T r k) by grind) ch
  rw [if_neg bx,if_pos ch,if_neg (by grind)]
 ·have:=Rat.mul_pos (show 0 < -(t.T r k) by grind) (show 0 < -(t.D m A) by grind)
  rw [if_neg bx,if_neg ch,if_pos (by grind)];grind
def iX (h:Nat→Nat)(t:cm):cm:=⟨fun i j=>t.T (h i) j,fun i=>t.B (h i)⟩
theorem Ay {h:Nat→Nat}{t:cm}{r k i:Nat}(fw:h i=h r→i=r):(∀j,((iX h t).cl r k).T i j=(iX h (t.cl (h r) k)).T i j)∧((iX h t).cl r k).B i=(iX h (t.cl (h r) k)).B i:=by
 simp only [cm.cl,iX]
 by_cases c:i=r
 ·subst c;simp
 ·have:h i≠h r:=fun e=>c (fw e)
  simp [c,this]
theorem O9 {α:Type}{m i:Nat}(ah:i<m)(f:Nat→α):(a8 m f).take (i-0)++((a8 m f).drop (0+(i+1))).take (m-(i+1))=a8 (m-1) (skip i f):=by
 apply List.ext_getElem?
 intro j
 rw [Nat.sub_zero,Nat.zero_add]
 have aT:((a8 m f).take i).length=i:=by rw [List.length_take,cV];omega
 by_cases c:j<i
 ·rw [List.getElem?_append_left (by omega),List.getElem?_take,if_pos c,gb (by omega),gb (by omega)]
  simp only [skip];rw [if_pos c]
 ·rw [List.getElem?_append_right (by omega),aT,List.getElem?_take,List.getElem?_drop]
  by_cases ch:j<m-1
  ·rw [if_pos (by omega),gb (by omega),gb ch]
   simp only [skip];rw [if_neg c];congr 2;omega
  ·rw [if_neg (by omega)]
   symm
   rw [List.getElem?_eq_none_iff,cV];omega
theorem YN {m N M n:Nat}(fT:N<1000)(a3:n≤N){h:Nat→Nat}{w:Rat}{t:cm}(f:pd m N w t){fc:List (List bp)}(hj:mP m N M h w t fc){i:Nat}(ah:i<m)(iv:Bool)(jT:List Int)(aD:Int)(a1:List Int)(b0:List Bool):
 ∃k:Nat,CT (n:Int) (i:Int) iv jT aD (hl m N h) fc a1 b0 0=some (k:Int)∧k≤n∧(k<n→t.T i k≠0)∧ ∀j,j<k→t.T i j=0:=by
 unfold CT
 obtain ⟨r,e,k,rfl,h1,o,ae⟩:=r8 (f:=fun q:Int=>we (n:Int) (i:Int) iv jT aD (hl m N h) fc a1 b0 q) (fun (c:Nat) (_:Unit)=>(c:Int)) n (fun c _=> ∀j,j<c→t.T i j=0)
  (fun r=> ∃k:Nat,r=(k:Int)∧k≤n∧(k<n→t.T i k≠0)∧ ∀j,j<k→t.T i j=0)
  (fun c bf _ cT=>by
    have hw:=f.pos
    have bS:=ta ((f.ic i ah c (by omega)).mono (su (by have:=qc;generalize fN=q at *;omega)))
    unfold we
    by_cases Fi:t.T i c=0
    ·left
     refine ⟨(),dI (by omega) (bI (by unfold hl;rw [cV];omega) (aS (x:=some (h i,N+1)) (by rw [Int.toNat_natCast];exact ie ah) (aS (x:=(h i,N+1)) rfl (aS (hj.row i ah) (bI (by simp only;omega) (aS (x:=b6 (t.T i c*w)) (by rw [Int.toNat_natCast];exact ie (by omega)) (aS bS (gI (by rw [x4 hw,rA.2 Fi];rfl) (by rw [fF (by omega)]))))))))),fun j aC=> ?_⟩
     by_cases e:j=c
     ·rw [e];exact Fi
     ·exact cT j (by omega)
    ·right
     exact ⟨_,dI (by omega) (bI (by unfold hl;rw [cV];omega) (aS (x:=some (h i,N+1)) (by rw [Int.toNat_natCast];exact ie ah) (aS (x:=(h i,N+1)) rfl (aS (hj.row i ah) (bI (by simp only;omega) (aS (x:=b6 (t.T i c*w)) (by rw [Int.toNat_natCast];exact ie (by omega)) (aS bS (kb (by rw [x4 hw];exact B2 (fun c=>Fi (rA.1 c))) rfl)))))))),c,rfl,by omega,fun _=>Fi,cT⟩)
  (fun _ cT=>⟨_,by unfold we;exact dZ (by omega) rfl,n,rfl,Nat.le_refl _,fun c=>by omega,cT⟩) () (fun j aC=>by omega)
 exact ⟨k,e,h1,o,ae⟩
structure oI (m n N:Nat) (A:Nat→Nat→Rat) (t:cm) (bA:Nat) (h:Nat→Nat):Prop where
 inv:kP m N A t
 z : ∀i,i<m→n≤t.B i→t.T i N=0
 le:bA≤m
 lt : ∀i,i<bA→h i<m
 inj : ∀i,i<bA→ ∀k,k<bA→h i=h k→i=k
 dead : ∀d,d<m→(∀i,i<bA→h i≠d)→n≤t.B d∧ ∀j,j<n→t.T d j=0
theorem oI.rI {m n N bA:Nat}{A:Nat→Nat→Rat}{t:cm}{h:Nat→Nat}(s:Small m N A)(a:oI m n N A t bA h):pd bA N (hk m A t) (iX h t) :=
 have f:=a.inv.rI s
 ⟨f.pos,f.hw,fun i ah j aC=>f.ic (h i) (a.lt i ah) j aC,fun i ah=>f.gH (h i) (a.lt i ah)⟩
theorem oI.u3 {m n N bA:Nat}{A:Nat→Nat→Rat}{t:cm}{h:Nat→Nat}(s:Small m N A)(a:oI m n N A t bA h){r k:Nat}(ao:r<bA)(a6:k<N)(ai:t.T (h r) k≠0):sv bA N (hk m A t) (iX h t) r k :=
 have f:=a.inv.u3 s (a.lt r ao) a6 ai
 ⟨ao,a6,ai,fun i ah j aC=>by
  rw [(Ay (t:=t) (k:=k) (a.inj i ah r ao)).1 j]
  exact f.yY (h i) (a.lt i ah) j aC⟩
theorem oI.cl {m n N bA:Nat}{A:Nat→Nat→Rat}{t:cm}{h:Nat→Nat}(Ml:n≤N)(a:oI m n N A t bA h){r k:Nat}(ao:r<bA)(a6:k<n)(aR:n≤t.B (h r))(ai:t.T (h r) k≠0):oI m n N A (t.cl (h r) k) bA h:=by
 have cC:=a.z (h r) (a.lt r ao) aR
 have dO : ∀i,(t.cl (h r) k).T i N=t.T i N:=fun i=>by
  simp only [cm.cl]
  split
  ·rename_i e;rw [e,cC];grind
  ·rw [cC];grind
 refine ⟨⟨a.inv.ok.cl (a.lt r ao) (by omega) ai,fun i ah=>by rw [dO];exact a.inv.ls i ah,?_⟩,fun i ah gH=> ?_,a.le,a.lt,a.inj,fun d bE hI=> ?_⟩
 ·rw [a.inv.ok.uV (a.lt r ao) (by omega)]
  have:=a.inv.rk
  grind
 ·rw [dO]
  simp only [cm.cl] at gH
  by_cases c:i=h r
  ·rw [if_pos c] at gH;omega
  ·rw [if_neg c] at gH;exact a.z i ah gH
 ·obtain ⟨h1,o⟩:=a.dead d bE hI
  have c4:d≠h r:=fun e=>hI r ao e.symm
  simp only [cm.cl,if_neg c4]
  refine ⟨h1,fun j aC=> ?_⟩
  rw [o j aC,o k a6];grind
theorem Z6 {m n N:Nat}{A:Nat→Nat→Rat}(s:Small m N A)(fT:N<1000)(Ml:n≤N)(free:List Bool){t:cm}(cf:kP m N A t)(cC:∀i,i<m→n≤t.B i→t.T i N=0){fc:List (List bp)}(hj:mP m N m (fun i=>i) (hk m A t) t fc):
 ∃df bA h kY,zl (n:Int) (b6 (hk m A t)).cR (b6 (hk m A t)).cH (N:Int) (hl m N fun i=>i) fc (dB m t) free=some ((b6 (hk m A df)).cR,(b6 (hk m A df)).cH,hl bA N h,kY,dB bA (iX h df)) ∧
  oI m n N A df bA h∧(∀i,i<bA→df.B (h i)<n)∧mP bA N m h (hk m A df) (iX h df) kY:=by
 have hm:=s.hm
 unfold zl Gx
 obtain ⟨x,e,df,bA,h,kY,rfl,h1,o,ae⟩:=jA (f:=fun w:Int×Bool×(List Int)×(List bs)×(List (List bp))×(List Int)=>y8 (n:Int) (N:Int) free w.1 w.2.1 w.2.2.1 w.2.2.2.1 w.2.2.2.2.1 w.2.2.2.2.2)
  (fun w=> ∃(i bA:Nat) (h:Nat→Nat) (t:cm) (p:List (List bp)),w=((i:Int),(b6 (hk m A t)).cR,(b6 (hk m A t)).cH,hl bA N h,p,dB bA (iX h t))∧i≤bA∧oI m n N A t bA h∧(∀q,q<i→t.B (h q)<n)∧mP bA N m h (hk m A t) (iX h t) p)
  (fun w=>w.2.2.2.1.length-w.1.toNat)
  (fun x=> ∃df bA h kY,x=((b6 (hk m A df)).cR,(b6 (hk m A df)).cH,hl bA N h,kY,dB bA (iX h df))∧oI m n N A df bA h∧(∀i,i<bA→df.B (h i)<n)∧mP bA N m h (hk m A df) (iX h df) kY)
  (fun w hw=>by
    obtain ⟨i,bA,h,t,p,rfl,ah,bF,a7,ai⟩:=hw
    have k1:=bF.le
    have sH:(hl bA N h).length=bA:=cV ..
    have Mm:(dB bA (iX h t)).length=bA:=cV ..
    simp only
    unfold y8
    by_cases c:i<bA
    ·left
     have g1:0≤(i:Int)∧(i:Int)<((dB bA (iX h t)).length:Nat):=by rw [Mm];omega
     have g2:(dB bA (iX h t))[(0+((i:Int)).toNat)]? = some ((t.B (h i):Nat):Int):=by rw [Int.toNat_natCast];exact ie c
     by_cases Fj:t.B (h i)<n
     ·refine ⟨(((i+1:Nat):Int),(b6 (hk m A t)).cR,(b6 (hk m A t)).cH,hl bA N h,p,dB bA (iX h t)),dI (by rw [sH];omega) (bI g1 (aS g2 (dI (by omega) (by rw [fF (by omega)])))),⟨i+1,bA,h,t,p,rfl,by omega,bF,fun q nh=> ?_,ai⟩,by simp only [sH];omega⟩
      by_cases e:q=i
      ·rw [e];exact Fj
      ·exact a7 q (by omega)
     ·obtain ⟨k,lZ,kI,oe,MC⟩:=YN fT Ml (bF.rI s) ai c (b6 (hk m A t)).cR (b6 (hk m A t)).cH (N:Int) (dB bA (iX h t)) free
      by_cases MD:k<n
      ·have Mn:t.T (h i) k≠0:=oe MD
       obtain ⟨kn,e1,aE⟩:=Qz (by omega) fT bF.inj (bF.rI s) (bF.u3 s c (by omega) Mn) ai (N:Int) free
       have tN:oP (hk m A t) (iX h t) i k=hk m A (t.cl (h i) k):=KV bF.inv.ok bF.inv.rk (bF.lt i c) (by omega) Mn
       have ae1:dB bA ((iX h t).cl i k)=dB bA (iX h (t.cl (h i) k)):=eY fun q nh=>by
        have:=(Ay (t:=t) (k:=k) (bF.inj q nh i c)).2
        rw [this]
       rw [tN,ae1] at e1
       rw [tN] at aE
       refine ⟨(((i+1:Nat):Int),(b6 (hk m A (t.cl (h i) k))).cR,(b6 (hk m A (t.cl (h i) k))).cH,hl bA N h,kn,dB bA (iX h (t.cl (h i) k))),dI (by rw [sH];omega) (bI g1 (aS g2 (dZ (by omega) (aS lZ (dI (by omega) (aS e1 (by rw [fF (by omega)]))))))),⟨i+1,bA,h,t.cl (h i) k,kn,rfl,by omega,bF.cl Ml c MD (by omega) Mn,fun q nh=> ?_,aE.len,fun q nh=> ?_⟩,by simp only [sH];omega⟩
       ·simp only [cm.cl]
        split
        ·exact MD
        ·rename_i c4
         have:q≠i:=fun e=>c4 (by rw [e])
         exact a7 q (by omega)
       ·rw [aE.row q nh]
        congr 1
        exact eY fun j _=>by rw [(Ay (t:=t) (k:=k) (bF.inj q nh i c)).1 j]
      ·have Mj:k=n:=by omega
       have Cl:R ((i:Int)+1)=((i+1:Nat):Int):=fF (by omega)
       have E4:(((hl bA N h).drop (0+(i+1))).take (bA-(i+1))).length=bA-(i+1):=by rw [List.length_take,List.length_drop,sH];omega
       have B3:(((dB bA (iX h t)).drop (0+(i+1))).take (bA-(i+1))).length=bA-(i+1):=by rw [List.length_take,List.length_drop,Mm];omega
       have bb:(hl bA N h).take (i-0)++((hl bA N h).drop (0+(i+1))).take (bA-(i+1))=hl (bA-1) N (skip i h):=O9 c _
       have el:(dB bA (iX h t)).take (i-0)++((dB bA (iX h t)).drop (0+(i+1))).take (bA-(i+1))=dB (bA-1) (iX (skip i h) t):=O9 c _
       refine ⟨((i:Int),(b6 (hk m A t)).cR,(b6 (hk m A t)).cH,hl (bA-1) N (skip i h),p,dB (bA-1) (iX (skip i h) t)),dI (by rw [sH];omega) (bI g1 (aS g2 (dZ (by omega) (aS lZ (dZ (by omega) ?_))))),⟨i,bA-1,skip i h,t,p,rfl,by omega,⟨bF.inv,bF.z,by omega,fun q nh=> ?_,fun q nh a1 ys e=> ?_,fun d bE hI=> ?_⟩,fun q nh=> ?_,ai.len,fun q nh=> ?_⟩,?_⟩
       ·rw [Cl,Int.toNat_natCast,Int.toNat_natCast,sH,Mm,E4,B3,bb,el]
        exact bI (by omega) (bI (by omega) (bI (by omega) (bI (by omega) (bI (by omega) (bI (by omega) (bI (by omega) (bI (by omega) (bI (by omega) (bI (by omega) (bI (by omega) (bI (by omega) rfl)))))))))))
       ·simp only [skip];split<;>exact bF.lt _ (by omega)
       ·simp only [skip] at e
        have:=bF.inj _ (by split<;>omega) _ (by split<;>omega) e
        split at this<;>split at this<;>omega
       ·by_cases Tc:d=h i
        ·rw [Tc]
         exact ⟨by omega,fun j aC=>MC j (by omega)⟩
        ·refine bF.dead d bE fun q nh=> ?_
         by_cases bx:q<i
         ·have:=hI q (by omega);simp only [skip] at this;rw [if_pos bx] at this;exact this
         ·by_cases ch:q=i
          ·rw [ch];exact fun e=>Tc e.symm
          ·have:=hI (q-1) (by omega);simp only [skip] at this;rw [if_neg (by omega),show q-1+1=q by omega] at this;exact this
       ·simp only [skip];rw [if_pos nh];exact a7 q nh
       ·simp only [skip]
        by_cases bx:q<i
        ·rw [if_pos bx,ai.row q (by omega)];congr 1
         exact eY fun j _=>by simp only [iX,skip];rw [if_pos bx]
        ·rw [if_neg bx,ai.row (q+1) (by omega)];congr 1
         exact eY fun j _=>by simp only [iX,skip];rw [if_neg bx]
       ·simp only [sH,show (hl (bA-1) N (skip i h)).length=bA-1 from cV ..];omega
    ·right
     have aes:i=bA:=by omega
     subst aes
     exact ⟨_,dZ (by rw [sH];omega) rfl,t,i,h,p,rfl,bF,a7,ai⟩)
  ((0:Int),(b6 (hk m A t)).cR,(b6 (hk m A t)).cH,hl m N (fun i=>i),fc,dB m t)
  ⟨0,m,fun i=>i,t,fc,rfl,by omega,⟨cf,cC,Nat.le_refl _,fun i ah=>ah,fun i _ k _ e=>e,fun d bE hI=>(hI d bE rfl).elim⟩,fun q a7=>by omega,hj.len,hj.row⟩
 exact ⟨df,bA,h,kY,aS e rfl,h1,o,ae⟩
theorem QA:(⟨false,([]:List Int)⟩:bp)=b6 0:=by
 show _=gZ (0:Rat).num
 rw [show (0:Rat).num=0 from rfl]
 unfold gZ
 rw [show L ((0:Int).natAbs:Int)=[] from tg.2 (by simp)];rfl
theorem KD {α:Type}(l:List α)(x:α):(l++[x])[l.length]? = some x:=by simp
theorem x5 {α:Type}(l:List α)(x y:α):(l++[x]).set l.length y=l++[y]:=by simp
theorem QB {p:hz}{m n:Nat}{a:Nat→Nat→Int}{b:Nat→Int}(h:mh p m n a b){i:Nat}(ah:i<m):xl p i=some (a8 n (a i)):=by
 have:=KU h ah
 unfold ur at this
 unfold xl
 exact this
theorem Yj {p:hz}{m n:Nat}{a:Nat→Nat→Int}{b:Nat→Int}(h:mh p m n a b){i:Nat}(ah:i<m)(aR:b i<0)(x0:Int)(mC:Bool)(gV:List Int)(a1:List bs)(ct:List Int)(dh:List Bool)(P:List (List bp)):
 Dc p.fq p.ec p.dF p.ei p.hL x0 (i:Int) P.length (n+m+1) (a8 n (a i)) (len_ eI (a8 n (a i))) mC gV a1 ct dh 0 (P++[a8 (n+m+1) fun _=>b6 0])=some (P++[a8 (n+m+1) fun j=>if j<n then b6 (dx m n a b i j) else b6 0]):=by
 have hm:=h.hm
 have a3:=h.a3
 have bS:kk (b i) = -1:=by unfold kk;rw [if_pos aR]
 unfold Dc
 rw [f9,cV]
 obtain ⟨s1,e1,-⟩:=iK (f:=fun w:Int×List (List bp)=>wW p.fq p.ec p.dF p.ei p.hL x0 (i:Int) P.length (n+m+1) (a8 n (a i)) ((n:Nat):Int) mC gV a1 ct dh w.1 w.2)
  (fun (k:Nat) (_:Unit)=>((k:Int),P++[a8 (n+m+1) fun j=>if j<k then b6 (dx m n a b i j) else b6 0])) n (fun _ _=>True) (fun _=>P++[a8 (n+m+1) fun j=>if j<n then b6 (dx m n a b i j) else b6 0])
  (fun k a6 _ _=>by
    refine ⟨(),?_,trivial⟩
    have bF:=h.sP i ah k a6
    have e:R ((-1:Int)*a i k)=kq m n a b i k:=by
     rw [cE (by omega) (by omega)];unfold kq;rw [if_pos a6,bS]
    unfold wW
    refine dI (by simp only;omega) (bI (by rw [cV];simp only;omega) (aS (x:=a i k) (by simp only;rw [Int.toNat_natCast];exact gb a6) (aS (x:=b6 (dx m n a b i k)) (by rw [e];exact r4 (by have:=sq h ah k;rw [mF];omega)) (aS (KD _ _) (bI (by simp only;omega) (aS (by simp only;rw [Int.toNat_natCast];exact ie (by omega)) ?_))))))
    simp only
    rw [fF (by omega),Int.toNat_natCast,Nat.zero_add,kW,x5]
    congr 5
    refine eY fun j _=> ?_
    by_cases bx:j=k
    ·subst bx;rw [if_pos rfl,if_pos (by omega)]
    ·rw [if_neg bx]
     by_cases ch:j<k
     ·rw [if_pos ch,if_pos (by omega)]
     ·rw [if_neg ch,if_neg (by omega)])
  (fun _ _=>by unfold wW;exact dZ (by simp) rfl) () trivial
 have e0:(a8 (n+m+1) fun j=>if j<0 then b6 (dx m n a b i j) else b6 0)=a8 (n+m+1) fun _=>b6 0:=eY fun j _=>by rw [if_neg (by omega)]
 rw [e0] at e1
 exact e1
theorem Yk {p:hz}{m n:Nat}{a:Nat→Nat→Int}{b:Nat→Int}(h:mh p m n a b){i:Nat}(ah:i<m)(aR:¬b i<0)(x0:Int)(mC:Bool)(gV:List Int)(a1:List bs)(ct:List Int)(dh:List Bool)(P:List (List bp)):
 Dd p.fq p.ec p.dF p.ei p.hL x0 (i:Int) P.length (n+m+1) (a8 n (a i)) (len_ eI (a8 n (a i))) mC gV a1 ct dh 0 (P++[a8 (n+m+1) fun _=>b6 0])=some (P++[a8 (n+m+1) fun j=>if j<n then b6 (dx m n a b i j) else b6 0]):=by
 have hm:=h.hm
 have a3:=h.a3
 have bS:kk (b i)=1:=by unfold kk;rw [if_neg aR]
 unfold Dd
 rw [f9,cV]
 obtain ⟨s1,e1,-⟩:=iK (f:=fun w:Int×List (List bp)=>wX p.fq p.ec p.dF p.ei p.hL x0 (i:Int) P.length (n+m+1) (a8 n (a i)) ((n:Nat):Int) mC gV a1 ct dh w.1 w.2)
  (fun (k:Nat) (_:Unit)=>((k:Int),P++[a8 (n+m+1) fun j=>if j<k then b6 (dx m n a b i j) else b6 0])) n (fun _ _=>True) (fun _=>P++[a8 (n+m+1) fun j=>if j<n then b6 (dx m n a b i j) else b6 0])
  (fun k a6 _ _=>by
    refine ⟨(),?_,trivial⟩
    have bF:=h.sP i ah k a6
    have e:R ((1:Int)*a i k)=kq m n a b i k:=by
     rw [cE (by omega) (by omega)];unfold kq;rw [if_pos a6,bS]
    unfold wX
    refine dI (by simp only;omega) (bI (by rw [cV];simp only;omega) (aS (x:=a i k) (by simp only;rw [Int.toNat_natCast];exact gb a6) (aS (x:=b6 (dx m n a b i k)) (by rw [e];exact r4 (by have:=sq h ah k;rw [mF];omega)) (aS (KD _ _) (bI (by simp only;omega) (aS (by simp only;rw [Int.toNat_natCast];exact ie (by omega)) ?_))))))
    simp only
    rw [fF (by omega),Int.toNat_natCast,Nat.zero_add,kW,x5]
    congr 5
    refine eY fun j _=> ?_
    by_cases bx:j=k
    ·subst bx;rw [if_pos rfl,if_pos (by omega)]
    ·rw [if_neg bx]
     by_cases ch:j<k
     ·rw [if_pos ch,if_pos (by omega)]
     ·rw [if_neg ch,if_neg (by omega)])
  (fun _ _=>by unfold wX;exact dZ (by simp) rfl) () trivial
 have e0:(a8 (n+m+1) fun j=>if j<0 then b6 (dx m n a b i j) else b6 0)=a8 (n+m+1) fun _=>b6 0:=eY fun j _=>by rw [if_neg (by omega)]
 rw [e0] at e1
 exact e1
theorem qM {α:Type}(n:Nat)(x:α):List.replicate n x=a8 n fun _=>x:=by
 apply List.ext_getElem?
 intro i
 by_cases c:i<n
 ·rw [gb c];simp [c]
 ·rw [List.getElem?_eq_none_iff.2 (by simp;omega),List.getElem?_eq_none_iff.2 (by rw [cV];omega)]
theorem Oo {p:hz}{m n:Nat}{a:Nat→Nat→Int}{b:Nat→Int}(h:mh p m n a b)(mC:Bool)(gV:List Int)(dh:List Bool):
 De p.fq p.ec p.dF p.ei p.hL ((n+m:Nat):Int) mC gV dh 0 ([]:List bs) ([]:List (List bp)) ([]:List Int)=some (hl m (n+m) (fun i=>i),a8 m (fun i=>a8 (n+m+1) fun j=>b6 (dx m n a b i j)),dB m (il m n a b)):=by
 have hm:=h.hm
 have a3:=h.a3
 unfold De
 obtain ⟨s,e,-⟩:=iK (f:=fun w:Int×(List bs)×(List (List bp))×(List Int)=>wY p.fq p.ec p.dF p.ei p.hL ((n+m:Nat):Int) mC gV dh w.1 w.2.1 w.2.2.1 w.2.2.2)
  (fun (i:Nat) (_:Unit)=>((i:Int),a8 i (fun k=>(some (k,n+m+1):bs)),a8 i (fun i=>a8 (n+m+1) fun j=>b6 (dx m n a b i j)),a8 i (fun k=>((n+k:Nat):Int)))) m (fun _ _=>True)
  (fun _=>(hl m (n+m) (fun i=>i),a8 m (fun i=>a8 (n+m+1) fun j=>b6 (dx m n a b i j)),dB m (il m n a b)))
  (fun i ah _ _=>by
    refine ⟨(),?_,trivial⟩
    have aR:=h.vO i ah
    have k7:R (((n+m:Nat):Int)+1)=((n+m+1:Nat):Int):=fF (by omega)
    have hw:R (p.ec+(i:Int))=((n+i:Nat):Int):=by rw [h.gu,← Int.natCast_add,cE (by omega) (by omega)]
    have SR:(a8 i (fun i=>a8 (n+m+1) fun j=>b6 (dx m n a b i j))).length=i:=cV ..
    have pM:kq m n a b i (n+m)=kk (b i)*b i:=by unfold kq;rw [if_neg (by omega),if_pos rfl]
    have dC:((a8 (n+m+1) fun j=>if j<n then b6 (dx m n a b i j) else b6 0).set (n+i) (b6 ((1:Int):Rat))).set (n+m) (b6 (dx m n a b i (n+m)))=a8 (n+m+1) fun j=>b6 (dx m n a b i j):=by
     rw [kW,kW]
     refine eY fun j aC=> ?_
     by_cases bx:j=n+m
     ·rw [if_pos bx,bx]
     ·rw [if_neg bx]
      by_cases ch:j=n+i
      ·rw [if_pos ch,ch,sc ah,if_pos rfl];rfl
      ·rw [if_neg ch]
       by_cases jx:j<n
       ·rw [if_pos jx]
       ·rw [if_neg jx]
        obtain ⟨k,rfl⟩ : ∃k,j=n+k:=⟨j-n,by omega⟩
        rw [sc (by omega),if_neg (by omega)]
    unfold wY
    rw [k7,hw,Int.toNat_natCast]
    refine dI (by simp only;rw [h.rows];omega) (bI (by omega) (bI (by simp only;rw [h.vP];omega) (aS (x:=b i) (by first|exact h.yr i ah|(rw [Int.toNat_natCast];exact h.yr i ah)|(simp only;rw [Int.toNat_natCast];exact h.yr i ah)) ?_)))
    have fin:(some (Sum.inl (R ((i:Int)+1),(a8 i (fun k=>(some (k,n+m+1):bs)))++[some (i,n+m+1)],(a8 i (fun i=>a8 (n+m+1) fun j=>b6 (dx m n a b i j)))++[a8 (n+m+1) fun j=>b6 (dx m n a b i j)],(a8 i fun k=>((n+k:Nat):Int))++[((n+i:Nat):Int)])):Option ((Int×(List bs)×(List (List bp))×(List Int))⊕((List bs)×(List (List bp))×(List Int)))) =
     some (Sum.inl (((i+1:Nat):Int),a8 (i+1) (fun k=>(some (k,n+m+1):bs)),a8 (i+1) (fun i=>a8 (n+m+1) fun j=>b6 (dx m n a b i j)),a8 (i+1) (fun k=>((n+k:Nat):Int)))):=by
     rw [fF (by omega),k8 i (fun k=>(some (k,n+m+1):bs)),k8 i (fun i=>a8 (n+m+1) fun j=>b6 (dx m n a b i j)),k8 i (fun k=>((n+k:Nat):Int))]
    have U : ∀(P:List (List bp)) (F:List bp→Option ((Int×(List bs)×(List (List bp))×(List Int))⊕((List bs)×(List (List bp))×(List Int)))) (x:List bp) r,F x=r→(P++[x])[P.length]? >>= F=r:=fun P F x r tI=>aS (KD P x) tI
    refine od (fun c=> ?_) (fun c=> ?_)
    ·have nb:b i<0:=of_decide_eq_true c
     have bS:kk (b i) = -1:=by unfold kk;rw [if_pos nb]
     refine aS (QB h ah) (aS (by rw [QA,qM];exact Yj h ah nb _ _ _ _ _ _ _) (aS (r4 (n:=1) (by rw [mF];omega)) (U _ _ _ _ ?_)))
     refine bI (by omega) (aS (x:=b6 0) (by rw [Int.toNat_natCast,ie (by omega),if_neg (by omega)]) (aS (x:=b6 (dx m n a b i (n+m))) (by
      have e:R ((-1:Int)*b i)=kq m n a b i (n+m):=by rw [pM,bS,cE (by omega) (by omega)]
      rw [e];exact r4 (by have:=sq h ah (n+m);rw [mF];omega)) ?_))
     rw [x5,Int.toNat_natCast,Nat.zero_add,Int.toNat_natCast,Nat.zero_add]
     refine U _ _ _ _ (bI (by omega) ?_)
     obtain ⟨v,bh⟩ : ∃v,((a8 (n+m+1) fun j=>if j<n then b6 (dx m n a b i j) else b6 0).set (n+i) (b6 ((1:Int):Rat)))[n+m]? = some v:=by
      rw [kW,gb (by omega)];exact ⟨_,rfl⟩
     refine aS bh (bI (by simp only [List.length_append,cV,List.length_cons,List.length_nil];omega) (bI (by simp only [List.length_append,cV,List.length_cons,List.length_nil];omega) ?_))
     rw [x5]
     simp only [Int.toNat_natCast,Nat.zero_add]
     rw [dC,SR]
     exact fin
    ·have nb : ¬b i<0:=of_decide_eq_false c
     have bS:kk (b i)=1:=by unfold kk;rw [if_neg nb]
     refine aS (QB h ah) (aS (by rw [QA,qM];exact Yk h ah nb _ _ _ _ _ _ _) (aS (r4 (n:=1) (by rw [mF];omega)) (U _ _ _ _ ?_)))
     refine bI (by omega) (aS (x:=b6 0) (by rw [Int.toNat_natCast,ie (by omega),if_neg (by omega)]) (aS (x:=b6 (dx m n a b i (n+m))) (by
      have e:R ((1:Int)*b i)=kq m n a b i (n+m):=by rw [pM,bS,cE (by omega) (by omega)]
      rw [e];exact r4 (by have:=sq h ah (n+m);rw [mF];omega)) ?_))
     rw [x5,Int.toNat_natCast,Nat.zero_add,Int.toNat_natCast,Nat.zero_add]
     refine U _ _ _ _ (bI (by omega) ?_)
     obtain ⟨v,bh⟩ : ∃v,((a8 (n+m+1) fun j=>if j<n then b6 (dx m n a b i j) else b6 0).set (n+i) (b6 ((1:Int):Rat)))[n+m]? = some v:=by
      rw [kW,gb (by omega)];exact ⟨_,rfl⟩
     refine aS bh (bI (by simp only [List.length_append,cV,List.length_cons,List.length_nil];omega) (bI (by simp only [List.length_append,cV,List.length_cons,List.length_nil];omega) ?_))
     rw [x5]
     simp only [Int.toNat_natCast,Nat.zero_add]
     rw [dC,SR]
     exact fin)
  (fun _ _=>by unfold wY;exact dZ (by simp only;rw [h.rows];omega) rfl) () trivial
 exact e
def pT (n j:Nat):Int:=if n≤j then -1 else 0
theorem Q3 {m n j:Nat}(aC:j<n+m):((pT n j:Int):Rat)=gF m n j:=by
 unfold pT gF
 by_cases c:n≤j
 ·rw [if_pos c,if_pos ⟨c,aC⟩];rfl
 ·rw [if_neg c,if_neg (by omega)];rfl
theorem QC {m n:Nat}{t:cm}(gH:∀i,i<m→t.B i<n+m){j:Nat}(aC:j<n+m):t.c3 m (fun j=>((pT n j:Int):Rat)) j=t.c3 m (gF m n) j:=by
 unfold cm.c3
 simp only
 rw [Q3 aC,gv (g:=fun i=>gF m n (t.B i)*t.T i j) fun i ah=>by rw [Q3 (gH i ah)]]
theorem OI {p:hz}{m n:Nat}{a:Nat→Nat→Int}{b:Nat→Int}(h:mh p m n a b)(x0:Int)(mC:Bool)(gV:List Int)(a1:List bs)(b0:List (List bp))(ct:List Int):
 Df p.fq p.ec p.dF p.ei p.hL x0 ((n+m:Nat):Int) mC gV a1 b0 ct 0 (a8 (n+m) fun _=>(0:Int)) (a8 (n+m) fun _=>false)=some (a8 (n+m) (pT n),a8 (n+m) fun j=>decide (j<n)):=by
 have hm:=h.hm
 have a3:=h.a3
 unfold Df
 obtain ⟨s,e,-⟩:=iK (f:=fun w:Int×List Int×List Bool=>wZ p.fq p.ec p.dF p.ei p.hL x0 ((n+m:Nat):Int) mC gV a1 b0 ct w.1 w.2.1 w.2.2)
  (fun (k:Nat) (_:Unit)=>((k:Int),(a8 (n+m) fun j=>if j<k then pT n j else 0),a8 (n+m) fun j=>if j<k then decide (j<n) else false)) (n+m) (fun _ _=>True) (fun _=>(a8 (n+m) (pT n),a8 (n+m) fun j=>decide (j<n)))
  (fun k a6 _ _=>by
    refine ⟨(),?_,trivial⟩
    have aE:(a8 (n+m) fun j=>if j<k then decide (j<n) else false).set (0+((k:Int)).toNat) (decide (k<n))=a8 (n+m) fun j=>if j<k+1 then decide (j<n) else false:=by
     rw [Int.toNat_natCast,Nat.zero_add,kW]
     refine eY fun j _=> ?_
     by_cases c:j=k
     ·subst c;rw [if_pos rfl,if_pos (by omega)]
     ·rw [if_neg c]
      by_cases ch:j<k
      ·rw [if_pos ch,if_pos (by omega)]
      ·rw [if_neg ch,if_neg (by omega)]
    have ME:decide ((k:Int)<p.ec)=decide (k<n):=by rw [h.gu];simp
    unfold wZ
    simp only
    rw [ME,aE,fF (by omega)]
    refine dI (by omega) (bI (by rw [cV];omega) (bI (by rw [cV,Int.toNat_natCast];omega) ?_))
    by_cases c:n≤k
    ·refine dI (by rw [h.gu];omega) (bI (by rw [cV];omega) (bI (by rw [cV,Int.toNat_natCast];omega) ?_))
     rw [Int.toNat_natCast,Nat.zero_add,kW]
     congr 4
     refine eY fun j _=> ?_
     by_cases bx:j=k
     ·subst bx;rw [if_pos rfl,if_pos (by omega)];unfold pT;rw [if_pos c]
     ·rw [if_neg bx]
      by_cases ch:j<k
      ·rw [if_pos ch,if_pos (by omega)]
      ·rw [if_neg ch,if_neg (by omega)]
    ·refine dZ (by rw [h.gu];omega) ?_
     congr 4
     refine eY fun j _=> ?_
     by_cases bx:j=k
     ·subst bx;rw [if_neg (by omega),if_pos (by omega)];unfold pT;rw [if_neg c]
     ·by_cases ch:j<k
      ·rw [if_pos ch,if_pos (by omega)]
      ·rw [if_neg ch,if_neg (by omega)])
  (fun _ _=>by
    unfold wZ
    refine dZ (by simp) ?_
    simp only
    congr 3
    ·exact eY fun j aC=>by rw [if_pos aC]
    ·exact eY fun j aC=>by rw [if_pos aC]) () trivial
 have Cz:(a8 (n+m) fun j=>if j<0 then pT n j else 0)=a8 (n+m) fun _=>(0:Int):=eY fun j _=>by rw [if_neg (by omega)]
 have ae2:(a8 (n+m) fun j=>if j<0 then decide (j<n) else false)=a8 (n+m) fun _=>false:=eY fun j _=>by rw [if_neg (by omega)]
 rw [Cz,ae2] at e
 exact e
theorem Yl {p:hz}{m n:Nat}{a:Nat→Nat→Int}{b:Nat→Int}(h:mh p m n a b){w:Rat}{t:cm}(f:pd m (n+m) w t){fc:List (List bp)}(hj:mP m (n+m) m (fun i=>i) w t fc)(mC:Bool)(gV:List Int)(x0:Int)(q:List Bool):
 ∃r,Dg p.fq p.ec p.dF p.ei p.hL ((n+m:Nat):Int) ((m:Nat):Int) mC gV x0 (dB m t) (hl m (n+m) fun i=>i) fc q 0=some r∧((r = .inr ()∧ ∃i,i<m∧n≤t.B i∧0<t.T i (n+m))∨(r = .inl ()∧ ∀i,i<m→n≤t.B i→ ¬0<t.T i (n+m))):=by
 have hm:=h.hm
 have a3:=h.a3
 have hw:=f.pos
 unfold Dg
 exact r8 (f:=fun w:Int=>w0 p.fq p.ec p.dF p.ei p.hL ((n+m:Nat):Int) ((m:Nat):Int) mC gV x0 (dB m t) (hl m (n+m) fun i=>i) fc q w) (fun (i:Nat) (_:Unit)=>(i:Int)) m (fun k _=> ∀i,i<k→n≤t.B i→ ¬0<t.T i (n+m)) _
  (fun i ah _ cT=>by
    have bS:=ta ((f.ic i ah (n+m) (Nat.le_refl _)).mono (su (by have:=qc;generalize fN=q at *;omega)))
    have g1:0≤(i:Int)∧(i:Int)<((dB m t).length:Nat):=by unfold dB;rw [cV];omega
    have g2:(dB m t)[(0+((i:Int)).toNat)]? = some ((t.B i:Nat):Int):=by rw [Int.toNat_natCast];exact ie ah
    have g3:0≤(i:Int)∧(i:Int)<((hl m (n+m) fun i=>i).length:Nat):=by unfold hl;rw [cV];omega
    have g4:(hl m (n+m) fun i=>i)[(0+((i:Int)).toNat)]? = some (some (i,n+m+1)):=by rw [Int.toNat_natCast];exact ie ah
    unfold w0
    by_cases Fj:n≤t.B i
    ·by_cases kx:0<t.T i (n+m)
     ·right
      exact ⟨_,dI (by omega) (bI g1 (aS g2 (dI (by rw [h.gu];omega) (bI g3 (aS g4 (aS (x:=(i,n+m+1)) rfl (aS (hj.row i ah) (bI (by simp only;omega) (aS (x:=b6 (t.T i (n+m)*w)) (by rw [Int.toNat_natCast];exact ie (by omega)) (aS bS (dI (by rw [x4 hw];exact qL.2 kx) rfl))))))))))),.inl ⟨rfl,i,ah,Fj,kx⟩⟩
     ·left
      refine ⟨(),dI (by omega) (bI g1 (aS g2 (dI (by rw [h.gu];omega) (bI g3 (aS g4 (aS (x:=(i,n+m+1)) rfl (aS (hj.row i ah) (bI (by simp only;omega) (aS (x:=b6 (t.T i (n+m)*w)) (by rw [Int.toNat_natCast];exact ie (by omega)) (aS bS (dZ (by rw [x4 hw];exact fun c=>kx (qL.1 c)) (by rw [fF (by omega)])))))))))))),fun k a6=> ?_⟩
      by_cases e:k=i
      ·rw [e];exact fun _=>kx
      ·exact cT k (by omega)
    ·left
     refine ⟨(),dI (by omega) (bI g1 (aS g2 (dZ (by rw [h.gu];omega) (by rw [fF (by omega)])))),fun k a6=> ?_⟩
     by_cases e:k=i
     ·rw [e];exact fun c=>(Fj c).elim
     ·exact cT k (by omega))
  (fun _ cT=>⟨_,by unfold w0;exact dZ (by omega) rfl,.inr ⟨rfl,cT⟩⟩) () (fun k a6=>by omega)
theorem Ym {p:hz}{m n:Nat}{a:Nat→Nat→Int}{b:Nat→Int}(h:mh p m n a b)(F:Nat→Bool)(mC:Bool)(gV:List Int)(x0:Int)(a1:List bs)(b0:List (List bp))(ct:List Int):
 Dh p.fq p.ec p.dF p.ei p.hL ((n+m:Nat):Int) mC gV x0 a1 b0 ct 0 (a8 (n+m) F)=some (a8 (n+m) fun j=>decide (j<n)):=by
 have hm:=h.hm
 have a3:=h.a3
 unfold Dh
 obtain ⟨s,e,-⟩:=iK (f:=fun w:Int×List Bool=>w1 p.fq p.ec p.dF p.ei p.hL ((n+m:Nat):Int) mC gV x0 a1 b0 ct w.1 w.2)
  (fun (k:Nat) (_:Unit)=>((k:Int),a8 (n+m) fun j=>if j<k then decide (j<n) else F j)) (n+m) (fun _ _=>True) (fun _=>a8 (n+m) fun j=>decide (j<n))
  (fun k a6 _ _=>by
    refine ⟨(),?_,trivial⟩
    have ME:decide ((k:Int)<p.ec)=decide (k<n):=by rw [h.gu];simp
    unfold w1
    simp only
    rw [ME,fF (by omega)]
    refine dI (by omega) (bI (by rw [cV];omega) (bI (by rw [cV,Int.toNat_natCast];omega) ?_))
    rw [Int.toNat_natCast,Nat.zero_add,kW]
    congr 3
    refine eY fun j _=> ?_
    by_cases c:j=k
    ·subst c;rw [if_pos rfl,if_pos (by omega)]
    ·rw [if_neg c]
     by_cases ch:j<k
     ·rw [if_pos ch,if_pos (by omega)]
     ·rw [if_neg ch,if_neg (by omega)])
  (fun _ _=>by
    unfold w1
    refine dZ (by simp) ?_
    simp only
    congr 2
    exact eY fun j aC=>by rw [if_pos aC]) () trivial
 have Cz:(a8 (n+m) fun j=>if j<0 then decide (j<n) else F j)=a8 (n+m) F:=eY fun j _=>by rw [if_neg (by omega)]
 rw [Cz] at e
 exact e
theorem SS {m n:Nat}{a:Nat→Nat→Int}{b:Nat→Int}:hk m (dx m n a b) (il m n a b)=1:=by
 unfold hk;rw [QV,if_pos (by grind)]
theorem aa0 {p:hz}{m n:Nat}{a:Nat→Nat→Int}{b:Nat→Int}(h:mh p m n a b):
 ∃r,z5 p=some r∧((tk m n a b∧ ∃t bA g fc,r = .inl ((b6 (hk m (dx m n a b) t)).cR,(b6 (hk m (dx m n a b) t)).cH,((n+m:Nat):Int),hl bA (n+m) g,dB bA (iX g t),a8 (n+m) (fun j=>decide (j<n)),fc) ∧
  oI m n (n+m) (dx m n a b) t bA g∧(∀i,i<bA→t.B (g i)<n)∧mP bA (n+m) m g (hk m (dx m n a b) t) (iX g t) fc)∨(¬tk m n a b∧r = .inr ())):=by
 have hm:=h.hm
 have a3:=h.a3
 have pR:=Kc h
 have fT:R (p.ec+p.fq)=((n+m:Nat):Int):=by rw [h.gu,h.rows,← Int.natCast_add,cE (by omega) (by omega)]
 have aet:mP m (n+m) m (fun i=>i) (hk m (dx m n a b) (il m n a b)) (il m n a b) (a8 m (fun i=>a8 (n+m+1) fun j=>b6 (dx m n a b i j))):=⟨cV ..,fun i ah=>by
  rw [gb ah,SS]
  congr 1
  exact eY fun j _=>by
   show b6 (dx m n a b i j)=b6 (dx m n a b i j*1)
   congr 1;grind⟩
 obtain ⟨q,bL,t,fc,oS,e,⟨cT,rfl⟩,hj,er⟩:=YM (gn:=m) (m:=m) (N:=n+m) (M:=m) (A:=dx m n a b) hm (by omega) (h:=fun i=>i) (fun i _ k _ e=>e) (pT n) (fun j _=>by unfold pT;split<;>omega) (fun j=>decide (j<n))
  (fun w t=>kP m (n+m) (dx m n a b) t∧w=hk m (dx m n a b) t) (fun w t cT=>⟨cT.1.ok,cT.1.ls,cT.2▸cT.1.rI pR⟩)
  (fun w t r s cT b=>by
    obtain ⟨h1,rfl⟩:=cT
    have ai:t.T r s≠0:=by have:=b.pos;grind
    exact ⟨h1.u3 pR b.ao b.bS ai,h1.gL b,KV h1.ok h1.rk b.ao b.bS ai⟩)
  (w:=hk m (dx m n a b) (il m n a b)) (t:=il m n a b) ⟨⟨Qq,Ps,PS⟩,rfl⟩ aet
 rw [SS] at e
 have adb : ∀j,j<n→t.c3 m (gF m n) j≤0:=by
  rcases er with ⟨-,er,-⟩|⟨-,s,bS,-,dt,hI⟩
  ·intro j aC
   have:=er j (by omega) (by simpa using aC)
   rw [QC cT.ok.j1 (by omega)] at this
   grind
  ·rw [QC cT.ok.j1 bS] at dt
   obtain ⟨i,ah,ai⟩:=Oj cT.ok bS dt
   exact (hI i ah ai).elim
 have e1:og 1=some (b6 1):=by
  have:=r4 (n:=1) (by rw [mF];omega)
  rw [show ((1:Int):Rat)=1 from rfl] at this
  exact this
 obtain ⟨r,r1,b5⟩:=Yl h (cT.rI pR) hj (b6 (hk m (dx m n a b) t)).cR (b6 (hk m (dx m n a b) t)).cH ((n+m:Nat):Int) (a8 (n+m) oS)
 unfold z5
 rw [fT]
 rcases b5 with ⟨rfl,i,ah,gH,ic⟩|⟨rfl,hI⟩
 ·have BF : ¬tk m n a b:=fun bS=>by
   have:=OE cT.ls (O2 cT.ok cT.ls adb bS) cT.ok.j1 i ah gH
   grind
  refine ⟨_,aS e1 (bI (by omega) (aS (Oo h _ _ _) (bI (by omega) (aS (x:=(a8 (n+m) (pT n),a8 (n+m) fun j=>decide (j<n))) (by rw [Int.toNat_natCast,qM,qM];exact OI h _ _ _ _ _ _) (aS e ?_))))),.inr ⟨BF,rfl⟩⟩
  refine aS (x:= .inr ()) ?_ rfl
  simp only
  rw [show ((dB m t).length:Nat)=m from cV ..]
  exact r1
 ·have cC : ∀i,i<m→n≤t.B i→t.T i (n+m)=0:=fun i ah gH=>by
   have h1:=hI i ah gH
   have o:=cT.ls i ah
   grind
  have bS:tk m n a b:=OD cT.ok cT.ls cC
  obtain ⟨df,bA,g,kY,nK,qt,My,j3⟩:=Z6 (n:=n) pR (by omega) (by omega) (a8 (n+m) fun j=>decide (j<n)) cT cC hj
  refine ⟨_,aS e1 (bI (by omega) (aS (Oo h _ _ _) (bI (by omega) (aS (x:=(a8 (n+m) (pT n),a8 (n+m) fun j=>decide (j<n))) (by rw [Int.toNat_natCast,qM,qM];exact OI h _ _ _ _ _ _) (aS e ?_))))),.inl ⟨bS,df,bA,g,kY,rfl,qt,My,j3⟩⟩
  refine aS (x:= .inl ()) ?_ ?_
  ·simp only
   rw [show ((dB m t).length:Nat)=m from cV ..]
   exact r1
  ·simp only
   rw [show ((a8 (n+m) oS).length:Nat)=n+m from cV ..]
   refine aS (Ym h oS _ _ _ _ _ _) ?_
   rw [h.gu]
   exact aS nK rfl
structure oY (m:Nat) (u v:cm):Prop where
 T : ∀i,i<m→ ∀j,u.T i j=v.T i j
 B : ∀i,i<m→u.B i=v.B i
theorem oY.rI {m N:Nat}{w:Rat}{u v:cm}(s:oY m u v)(h:pd m N w v):pd m N w u :=
 ⟨h.pos,h.hw,fun i ah j aC=>by rw [s.T i ah];exact h.ic i ah j aC,fun i ah=>by rw [s.B i ah];exact h.gH i ah⟩
theorem oY.cl {m:Nat}{u v:cm}(s:oY m u v){r:Nat}(ao:r<m)(k:Nat):oY m (u.cl r k) (v.cl r k) where
 T:=fun i ah j=>by simp only [cm.cl,s.T i ah,s.T r ao]
 B:=fun i ah=>by simp only [cm.cl,s.B i ah]
theorem oY.u3 {m N:Nat}{w:Rat}{u v:cm}(s:oY m u v){r k:Nat}(h:sv m N w v r k):sv m N w u r k :=
 ⟨h.ao,h.a6,by rw [s.T r h.ao];exact h.ai,fun i ah j aC=>by rw [(s.cl h.ao k).T i ah,s.T r h.ao];exact h.yY i ah j aC⟩
theorem oY.trans {m:Nat}{u v t:cm}(a:oY m u v)(b:oY m v t):oY m u t:=⟨fun i ah j=>(a.T i ah j).trans (b.T i ah j),fun i ah=>(a.B i ah).trans (b.B i ah)⟩
theorem abu {bA:Nat}{g:Nat→Nat}(inj:∀i,i<bA→ ∀k,k<bA→g i=g k→i=k)(t:cm){r:Nat}(ao:r<bA)(k:Nat):oY bA ((iX g t).cl r k) (iX g (t.cl (g r) k)) :=
 ⟨fun i ah j=>(Ay (t:=t) (k:=k) (inj i ah r ao)).1 j,fun i ah=>(Ay (t:=t) (k:=k) (inj i ah r ao)).2⟩
theorem oI.step {m n:Nat}{a:Nat→Nat→Int}{b:Nat→Int}{t:cm}{bA:Nat}{g:Nat→Nat}{K:Nat}{obj:Nat→Nat→Rat}{bW:Nat→Prop}(h:oI m n (n+m) (dx m n a b) t bA g)(gH:∀i,i<bA→t.B (g i)<n){u:cm}(bS:oY bA u (iX g t)){r s:Nat}(c8:nW bA (n+m) K obj bW u r s)(ve:s<n):
 oI m n (n+m) (dx m n a b) (t.cl (g r) s) bA g∧(∀i,i<bA→(t.cl (g r) s).B (g i)<n)∧oY bA (u.cl r s) (iX g (t.cl (g r) s)):=by
 have ao:=c8.ao
 have ai:0<t.T (g r) s:=by have:=c8.pos;rw [bS.T r ao] at this;exact this
 have Cg:t.T (g r) s≠0:=by grind
 have RK:=(bS.cl ao s).trans (abu h.inj t ao s)
 have vQ : ∀d,d<m→(∀i,i<bA→g i≠d)→ ∀j,(t.cl (g r) s).T d j=t.T d j∧(t.cl (g r) s).B d=t.B d:=fun d bE hI j=>by
  obtain ⟨d1,d2⟩:=h.dead d bE hI
  simp only [cm.cl]
  rw [if_neg fun e=>hI r ao e.symm,if_neg fun e=>hI r ao e.symm,d2 s ve]
  exact ⟨by grind,rfl⟩
 have pe : ∀i,i<bA→(t.cl (g r) s).B (g i)<n:=fun i ah=>by
  simp only [cm.cl]
  split
  ·exact ve
  ·exact gH i ah
 have aeu:(u.cl r s).k0 bA (n+m):=c8.Bx fun i ah=>by rw [bS.T i ah];exact h.inv.ls _ (h.lt i ah)
 refine ⟨⟨⟨h.inv.ok.cl (h.lt r ao) (by omega) Cg,fun i ah=> ?_,?_⟩,fun i ah a3=> ?_,h.le,h.lt,h.inj,fun d bE hI=> ?_⟩,pe,RK⟩
 ·by_cases bW : ∃q,q<bA∧g q=i
  ·obtain ⟨q,a7,rfl⟩:=bW
   have:=aeu q a7
   rw [RK.T q a7] at this;exact this
  ·rw [(vQ i ah (fun q a7 e=>bW ⟨q,a7,e⟩) _).1];exact h.inv.ls i ah
 ·rw [h.inv.ok.uV (h.lt r ao) (by omega)]
  have:=h.inv.rk
  grind
 ·by_cases bW : ∃q,q<bA∧g q=i
  ·obtain ⟨q,a7,rfl⟩:=bW
   have:=pe q a7;omega
  ·have hI : ∀q,q<bA→g q≠i:=fun q a7 e=>bW ⟨q,a7,e⟩
   obtain ⟨e1,aE⟩:=vQ i ah hI (n+m)
   rw [e1]
   rw [aE] at a3
   exact h.z i ah a3
 ·obtain ⟨d1,d2⟩:=h.dead d bE hI
  refine ⟨by rw [(vQ d bE hI 0).2];exact d1,fun j aC=>by rw [(vQ d bE hI j).1];exact d2 j aC⟩
structure Co (m n:Nat) (a:Nat→Nat→Int) (b:Nat→Int) (bA:Nat) (g:Nat→Nat) (lH:Nat→Nat→Rat) (dJ:Nat→Bool) (w:Rat) (u:cm):Prop where
 bW : ∃t,oI m n (n+m) (dx m n a b) t bA g∧(∀i,i<bA→t.B (g i)<n)∧oY bA u (iX g t)∧w=hk m (dx m n a b) t
 lt:LT m n a b bA (n+m) u
 ok:ga bA bA (n+m) lH u
 ae3 : ∀i,i<bA→dJ (u.B i)=true
theorem Co.rI {m n:Nat}{a:Nat→Nat→Int}{b:Nat→Int}{bA:Nat}{g:Nat→Nat}{lH:Nat→Nat→Rat}{dJ:Nat→Bool}{w:Rat}{u:cm}(pR:Small m (n+m) (dx m n a b))(h:Co m n a b bA g lH dJ w u):pd bA (n+m) w u:=by
 obtain ⟨t,h1,o,ae,rfl⟩:=h.bW
 exact ae.rI (h1.rI pR)
theorem Co.gL {m n:Nat}{a:Nat→Nat→Int}{b:Nat→Int}{bA:Nat}{g:Nat→Nat}{lH:Nat→Nat→Rat}{dJ oS:Nat→Bool}{w:Rat}{u:cm}{obj:Nat→Nat→Rat}{K:Nat}(pR:Small m (n+m) (dx m n a b))(h:Co m n a b bA g lH oS w u)(B4:∀j,j<n+m→dJ j=true→j<n)(aev:∀j,dJ j=true→oS j=true){r s:Nat}(c8:nW bA (n+m) K obj (fun j=>dJ j=true) u r s):
 sv bA (n+m) w u r s∧Co m n a b bA g lH oS (oP w u r s) (u.cl r s):=by
 obtain ⟨t,h1,o,ae,au⟩:=h.bW
 have ve:=B4 s c8.bS c8.ES
 obtain ⟨g1,g2,g3⟩:=h1.step o ae c8 ve
 have ai:=c8.pos
 have SU:t.T (g r) s≠0:=by rw [ae.T r c8.ao] at ai;show t.T (g r) s≠0;have:0<t.T (g r) s:=ai;grind
 refine ⟨au▸ae.u3 (h1.u3 pR c8.ao (by omega) SU),⟨t.cl (g r) s,g1,g2,g3,?_⟩,h.lt.cl c8.ao ve (by grind) (c8.Bx h.lt.ls),c8.ok h.ok,fun i ah=> ?_⟩
 ·rw [← KV h1.inv.ok h1.inv.rk (h1.lt r c8.ao) (show s<n+m by omega) SU,au]
  unfold oP
  rw [ae.T r c8.ao];rfl
 ·simp only [cm.cl]
  split
  ·exact aev s c8.ES
  ·exact h.ae3 i ah
end Go.Proofs.YtamedijmgkdlgadGreat
