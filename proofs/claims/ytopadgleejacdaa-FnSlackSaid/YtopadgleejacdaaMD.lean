/- Lemmas, plain functions of the program, and what they answer. No condition. -/
import Derived.Test.YtopadgleejacdaaMC
namespace Go.Proofs.Ytopadgleejacdaa
set_option linter.unusedVariables false
set_option linter.unusedSimpArgs false
open Go Go.VL
def zS (bU bI:ar)(bi:Int):Option ((Int)⊕((Unit)⊕(Int))) :=
 if (decide ((0:Int)<=bi))=true then
  if 0<=bi/\bi<bU.length then
  bU[bi.toNat]? >>= fun aY =>
  if 0<=bi/\bi<bI.length then
  bI[bi.toNat]? >>= fun cN =>
  if (decide (aY<cN))=true then
   some (.inr (.inr (-1)))
  else
   if (decide (cN<aY))=true then
    some (.inr (.inr 1))
   else
    some (.inl (aa (bi-(1:Int))))
  else none
  else none
 else
  some (.inr (.inl ()))
def HN (bU bI:ar)(bi:Int):Option ((Unit)⊕(Int)):=iter (fun w:Int=>zS bU bI w) bi
def C7 (bU bI:ar):Zr :=
 if ((len_ R bU) != (len_ R bI))=true then
  if (decide ((len_ R bU)<(len_ R bI)))=true then
   some (-1)
  else
   some 1
 else
  HN bU bI (aa ((len_ R bU)-(1:Int))) >>= fun bW =>
  match bW with
  | .inl g7=>(some 0)
  | .inr g7=>(some g7)
def zR (bU:ar)(zj iW bi:Int)(aC:ar):Option ((Int×Int×ar)⊕(Int×ar)) :=
 if (decide ((0:Int)<=bi))=true then
  if 0<=bi/\bi<bU.length then
  bU[bi.toNat]? >>= fun aY =>
  if zj≠0 then
  if 0<=bi/\bi<(aC.length:Nat) then
  if (0+bi.toNat)<aC.length then
  some (.inl ((aa ((aa (iW*(1000000000:Int)))+aY)).tmod zj,aa (bi-(1:Int)),aC.set (0+bi.toNat) (aa ((aa ((aa (iW*(1000000000:Int)))+aY)).tdiv zj))))
  else none
  else none
  else none
  else none
 else
  some (.inr (iW,aC))
def Hv (bU:ar)(zj iW bi:Int)(aC:ar):Option (Int×ar):=iter (fun w:Int×Int×ar=>zR bU zj w.1 w.2.1 w.2.2) (iW,bi,aC)
def zT (bI:ar)(bi f9:Int)(f5:ar)(gw eW eB c8:Int)(aC:ar):Option ((Int×Int×ar)⊕(Int×ar)) :=
 if (decide (c8<eW))=true then
  if 0<=c8/\c8<bI.length then
  bI[c8.toNat]? >>= fun aY =>
  if 0<=(aa (bi+c8))/\(aa (bi+c8))<(aC.length:Nat) then
  aC[(0+(aa (bi+c8)).toNat)]? >>= fun cN =>
  if (0+(aa (bi+c8)).toNat)<aC.length then
  some (.inl (aa ((aa ((aa (cN+(aa (f9*aY))))+eB)).tdiv (1000000000:Int)),aa (c8+(1:Int)),aC.set (0+(aa (bi+c8)).toNat) ((aa ((aa (cN+(aa (f9*aY))))+eB)).tmod (1000000000:Int))))
  else none
  else none
  else none
 else
  some (.inr (eB,aC))
def HO (bI:ar)(bi f9:Int)(f5:ar)(gw eW eB c8:Int)(aC:ar):Option (Int×ar):=iter (fun w:Int×Int×ar=>zT bI bi f9 f5 gw eW w.1 w.2.1 w.2.2) (eB,c8,aC)
def CA (bI f5:ar)(gw fH:Int)(aC:ar):Option ((Int×ar)⊕(ar)) :=
 if (decide (fH<gw))=true then
  if 0<=fH/\fH<f5.length then
  f5[fH.toNat]? >>= fun aY =>
  HO bI fH aY f5 gw (len_ R bI) 0 0 aC >>= fun bn =>
  if 0<=(aa (fH+(len_ R bI)))/\(aa (fH+(len_ R bI)))<(bn.2.length:Nat) then
  if (0+(aa (fH+(len_ R bI))).toNat)<bn.2.length then
  some (.inl (aa (fH+(1:Int)),bn.2.set (0+(aa (fH+(len_ R bI))).toNat) bn.1))
  else none
  else none
  else none
 else
  some (.inr aC)
def CU (bI f5:ar)(gw fH:Int)(aC:ar):Option (ar):=iter (fun w:Int×ar=>CA bI f5 gw w.1 w.2) (fH,aC)
theorem pK {n:Nat}(h:n<=10000000):aa ((n:Int)+1)=((n+1:Nat):Int):=by rw[cQ (by omega) (by omega)];rfl
theorem wh {n:Nat}(h:n<=10000000):aa ((n:Int)-1)=(n:Int)-1:=cQ (by omega) (by omega)
theorem K5 {n:Nat}(h:n<=10000000):aa (((n+1:Nat):Int)-1)=n:=by rw[cQ (by omega) (by omega)];omega
theorem jb (l:ar):len_ R l=l.length:=h2 _ l
theorem vW {l:ar}(aw:ct l)(aZ:l.length<=5000000):oS l=some (L (V l)):=by
 have : ∃r,iter (fun w:ar=>vk w) l=some r/\r=L (V l):=by
  refine mc (ef:=fun w=> ∃k:Nat,w=l.take k/\k<=l.length/\V (l.take k)=V l) (m:=fun w:ar=>w.length) _ ?_ _ ⟨l.length,by simp,by omega,by simp⟩;rintro _ ⟨k,rfl,aL,aT⟩;have hlen:(l.take k).length=k:=by simp;omega
  cases k with
  | zero =>
   refine .inr ⟨[],by simp[vk,jb],?_⟩;rw[<- aT];simp[V,r6]
  | succ k =>
   have U:=dw (show k<l.length by omega);have cL:(l.take (k+1))[k]? = some l[k]:=(by rw[dR];simp[U]);unfold vk;simp only[jb,hlen];rw[K5 (by omega),dy (by simp),dy (by omega),dA,cL];by_cases h:l[k]=0
   ·refine .inl ⟨l.take k,by simp[h,List.take_take,Nat.min_eq_left],⟨k,rfl,by omega,?_⟩,by simp;omega⟩;have:=th U;rw[h] at this;simp at this;omega
   refine .inr ⟨l.take (k+1),by simp[h],?_⟩;rcases gn.J0 aw k (fun x o=>by rw[U] at o;simp at o;omega) with o|o
   ·exact Bh o aT
   omega
 obtain⟨r,ah,rfl⟩:=this;unfold oS HV;rw[ah];rfl
theorem QG {l:ar}(aw:ct l)(aZ:l.length<=5000000): ∃k,xx l=some k/\k<=l.length/\l.take k=L (V l):=by
 have : ∃r,iter (fun w:Nat=>ve l w) l.length=some r/\r<=l.length/\l.take r=L (V l):=by
  refine mc (ef:=fun k=>k<=l.length/\V (l.take k)=V l) (m:=fun w:Nat=>w) _ ?_ _ ⟨by omega,by simp⟩;rintro k ⟨aL,aT⟩
  cases k with
  | zero =>
   refine .inr ⟨0,by simp[ve],by omega,?_⟩;rw[<- aT];simp[V,r6]
  | succ k =>
   have U:=dw (show k<l.length by omega);unfold ve;rw[K5 (by omega),dy (by simp),dy (by omega),dA,dG,U];by_cases h:l[k]=0
   ·refine .inl ⟨k,by simp[h],⟨by omega,?_⟩,by omega⟩;have:=th U;rw[h] at this;simp at this;omega
   refine .inr ⟨k+1,by simp[h],aL,?_⟩;rcases gn.J0 aw k (fun x o=>by rw[U] at o;simp at o;omega) with o|o
   ·exact Bh o aT
   omega
 obtain⟨r,ah,o,J⟩:=this;unfold xx HH;rw[ah];exact⟨r,rfl,o,J⟩
theorem D4 {a b:ar}(bs:gn a)(aE:gn b)(aZ:a.length<=5000000):C7 a b=some (nR (V a) (V b)):=by
 unfold C7 nR;simp only[jb];by_cases o:a.length=b.length;rotate_left
 ·rw[dy (by simp;omega)]
  by_cases J:a.length<b.length
  ·have:=DL bs aE J;simp[J,this]
  have:=DL aE bs (by omega);rw[dz (by simp;omega),dz (by omega),dy this]
 rw[dz (by simp[o])]
 have : ∃r,iter (fun w:Int=>zS a b w) ((a.length:Int)-1)=some r/\(r.elim (fun _=>V a=V b) (fun c=>(c = -1/\V a<V b)\/(c=1/\V b<V a))):=by
  refine mc (ef:=fun w:Int=> ∃k:Nat,w=(k:Int)-1/\k<=a.length/\V (a.drop k)=V (b.drop k)) (m:=fun w:Int=>(w+1).toNat) _ ?_ _ ⟨a.length,rfl,by omega,by rw[List.drop_length,o,List.drop_length]⟩;rintro _ ⟨k,rfl,aL,aT⟩
  cases k with
  | zero=>exact .inr ⟨.inl (),by simp[zS],by simpa using aT⟩
  | succ k =>
   have U:=dw (show k<a.length by omega);have aK:=dw (show k<b.length by omega);have e:((k+1:Nat):Int)-1=k:=(by omega);unfold zS;rw[e,wh (by omega),dy (by simp),dy (by omega),dA,U];simp only[dK,dB];rw[dy (by omega),aK];by_cases J:a[k]<b[k]
   ·exact .inr ⟨.inr (-1),by simp[J],.inl ⟨rfl,J1 bs.1 aE.1 U aK aT J⟩⟩
   by_cases an:b[k]<a[k]
   ·exact .inr ⟨.inr 1,by simp[J,an],.inr ⟨rfl,J1 aE.1 bs.1 aK U aT.symm an⟩⟩
   refine .inl ⟨(k:Int)-1,by simp[J,an],⟨k,rfl,by omega,?_⟩,by omega⟩;rw[oV U,oV aK,aT,show a[k]=b[k] by omega]
 obtain⟨r,ah,J⟩:=this;unfold HN;rw[wh (by omega),ah]
 cases r with
 | inl u =>
  simp at J;simp[J]
 | inr c =>
  rcases J with ⟨rfl,J⟩|⟨rfl,J⟩
  ·simp[J]
  simp[J];omega
theorem Pl:px=C7:=rfl
theorem ID {a b:ar}(bs:gn a)(aE:gn b)(aZ:a.length<=5000000):px a b=some (nR (V a) (V b)):=D4 bs aE aZ
theorem x8 {x y:Int}(U:0<=x/\x<1000000000)(aK:0<=y/\y<1000000000):0<=x*y/\x*y<=999999998000000001:=by have o:=Int.mul_nonneg U.1 aK.1;have J:x*y<=999999999*999999999:=Int.mul_le_mul (by omega) (by omega) aK.1 (by omega);omega
theorem ux {a b:Int}(h:0<=a):a.tmod b=a % b:=Int.tmod_eq_emod_of_nonneg h
theorem rN {a b:Int}(h:0<=a):a.tdiv b=a / b:=Int.tdiv_eq_ediv_of_nonneg h
theorem J4 (k:Nat)(x:Int)(q:ar):(List.replicate (k+1) 0++q).set k x=List.replicate k 0++x::q:=by
 induction k with
 | zero=>rfl
 | succ k ih =>
  show (0::(List.replicate (k+1) 0++q)).set (k+1) x=_;rw[List.set_cons_succ,ih];rfl
theorem P6 {a:ar}{d rest:Int}{row:ar}{k:Nat}{x:Int}(U:a[k]? = some x)(my:0<=x/\x<1000000000)(bk:0<d/\d<1000000000)(ah:0<=rest/\rest<d)(cu:row.length=a.length)(aZ:a.length<=1000000):
 zR a d rest (k:Int) row=some (.inl ((rest*1000000000+x) % d,(k:Int)-1,row.set k ((rest*1000000000+x) / d))):=by
 have aL:=eV U;unfold zR;rw[dy (by simp),dy (by omega),dA,U];simp only[dK,dB];rw[dy (by omega),dy (by omega),dy (by omega),wh (by omega)];have o:aa (aa (rest*1000000000)+x)=rest*1000000000+x:=by rw[cQ (x:=rest*1000000000) (by omega) (by omega)];exact cQ (by omega) (by omega)
 have J:0<=rest*1000000000+x:=by omega
 have an:(rest*1000000000+x) / d<=rest*1000000000+x:=Int.ediv_le_self _ J;have aG:0<=(rest*1000000000+x) / d:=Int.ediv_nonneg J (by omega);rw[o,ux J,rN J,cQ (by omega) (by omega),dG]
theorem P7 {a:ar}{d:Int}(bs:ct a)(bk:0<d/\d<1000000000)(aZ:a.length<=1000000):
 ∃r,Hv a d 0 ((a.length:Int)-1) (List.replicate a.length 0)=some r/\r.1=V a % d/\ct r.2/\r.2.length=a.length/\V r.2=V a / d:=by
 refine mc (ef:=fun w:Int×Int×ar=> ∃(k:Nat) (q:ar),w.2.1=(k:Int)-1/\k<=a.length/\w.2.2=List.replicate k 0++q/\q.length+k=a.length/\ct q/\0<=w.1/\w.1<d/\V (a.drop k)=V q*d+w.1) (m:=fun w:Int×Int×ar=>(w.2.1+1).toNat) _ ?_ _ ⟨a.length,[],rfl,by omega,by simp,by simp,ct.nil,by omega,by omega,by simp[V]⟩;rintro⟨rest,i,row⟩ ⟨k,q,o,aL,J,aU,zk,l1,iB,aT⟩;simp only at o J l1 iB aT ⊢;subst o J
 cases k with
 | zero =>
  refine .inr ⟨(rest,q),by simp[zR],?_,zk,by simpa using aU,?_⟩
  ·simp at aT;rw[aT,Int.add_comm,Int.add_mul_emod_self_right];exact(Int.emod_eq_of_lt l1 iB).symm
  simp at aT;rw[aT,Int.add_comm,Int.add_mul_ediv_right _ _ (by omega),Int.ediv_eq_zero_of_lt l1 iB];simp
 | succ k =>
  have U:=dw (show k<a.length by omega);have my:=bs.get U;rw[show ((k+1:Nat):Int)-1=k by omega,P6 U my bk ⟨l1,iB⟩ (by simp;omega) aZ];refine .inl ⟨_,rfl,⟨k,(rest*1000000000+a[k]) / d::q,rfl,by omega,J4 _ _ _,by simp;omega,ct.cons ⟨Int.ediv_nonneg (by omega) (by omega),?_⟩ zk,Int.emod_nonneg _ (by omega),Int.emod_lt_of_pos _ bk.1,?_⟩,by simp⟩
  ·refine Int.ediv_lt_of_lt_mul bk.1 ?_;omega
  rw[oV U,aT,lR];have:=Int.mul_ediv_add_emod (rest*1000000000+a[k]) d;generalize (rest*1000000000+a[k]) / d=u at *;generalize (rest*1000000000+a[k]) % d=t at *;grind
theorem OQ:Hj=Hv:=rfl
theorem HY {a:ar}{d:Int}(bs:ct a)(bk:0<d/\d<1000000000)(aZ:a.length<=1000000):vu a d=some (L (V a / d),V a % d):=by obtain⟨r,ah,o,J,an,aG⟩:=P7 bs bk aZ;unfold vu;simp only[jb];rw[dy (by omega),wh (by omega),dA,OQ,ah];simp only[dK,dB];rw[vW J (by omega),o,aG];rfl
theorem QH {b:ar}{i j:Nat}{x y z carry:Int}{row t26:ar}{t27:Int}(aK:b[j]? = some y)(bY:row[i+j]? = some z)(U:0<=x/\x<1000000000)(rA:0<=y/\y<1000000000)(pQ:0<=z/\z<1000000000)(aJ:0<=carry/\carry<1000000000)(aZ:row.length<=2000000):
 zT b i x t26 t27 b.length carry j row=some (.inl ((z+x*y+carry) / 1000000000,((j+1:Nat):Int),row.set (i+j) ((z+x*y+carry) % 1000000000))):=by
 have ao:=eV aK;have oz:=eV bY;obtain⟨gW,fJ⟩:=x8 U rA;unfold zT;have e:aa ((i:Int)+(j:Int))=((i+j:Nat):Int):=by rw[cQ (by omega) (by omega)];rfl
 rw[dy (by simp;omega),dy (by omega),dA,aK];simp only[dK,dB,e,dA,dG];rw[dy (by omega),bY];simp only[dB];rw[dy (by omega),pK (by omega),cQ (x:=x*y) (by omega) (by omega),cQ (x:=z+x*y) (by omega) (by omega),cQ (x:=z+x*y+carry) (by omega) (by omega),ux (by omega),rN (by omega),cQ (by omega) (by omega)]
theorem QI {b:ar}{i:Nat}{x:Int}{row t26:ar}{t27:Int}(aE:ct b)(cu:ct row)(U:0<=x/\x<1000000000)(aw:i+b.length<row.length)(aZ:row.length<=2000000):
 ∃r,HO b i x t26 t27 b.length 0 0 row=some r/\0<=r.1/\r.1<1000000000/\ct r.2/\r.2.length=row.length/\V r.2+r.1*B (i+b.length)=V row+x*B i*V b/\ ∀j,i+b.length<=j->r.2[j]? = row[j]? := by
 refine mc (ef:=fun w:Int×Int×ar=> ∃(j:Nat),w.2.1=(j:Int)/\j<=b.length/\0<=w.1/\w.1<1000000000/\ct w.2.2/\w.2.2.length=row.length/\V w.2.2+w.1*B (i+j)=V row+x*B i*V (b.take j)/\ ∀j,i+b.length<=j->w.2.2[j]? = row[j]?) (m:=fun w:Int×Int×ar=>b.length-w.2.1.toNat) _ ?_ _ ⟨0,rfl,by omega,by simp,by simp,cu,rfl,by simp[V],fun _ _=>rfl⟩;rintro⟨carry,Wm,gE⟩ ⟨j,o,ao,lq,lr,ke,hlen,aT,jO⟩;simp only at o lq lr ke hlen aT jO ⊢;subst o;by_cases Ve:j=b.length
 ·subst Ve;refine .inr ⟨(carry,gE),by simp[zT],lq,lr,ke,hlen,by simpa using aT,jO⟩
 have aK:=dw (show j<b.length by omega);have bY:=dw (show i+j<gE.length by omega);have rA:=aE.get aK;have pQ:=ke.get bY;obtain⟨gW,fJ⟩:=x8 U rA;rw[QH aK bY U rA pQ ⟨lq,lr⟩ (by omega)];refine .inl ⟨_,rfl,⟨j+1,rfl,by omega,by simp only;omega,by simp only;omega,ke.set (by omega),by simpa using hlen,?_,fun gF so=> ?_⟩,by simp;omega⟩
 ·simp only;rw[qv bY,th aK,<- Nat.add_assoc,nJ];rw[A3] at aT ⊢;have:=Int.mul_ediv_add_emod (gE[i+j]+x*b[j]+carry) 1000000000;generalize (gE[i+j]+x*b[j]+carry) / 1000000000=u at *;generalize (gE[i+j]+x*b[j]+carry) % 1000000000=t at *;grind
 rw[<- jO gF so];exact List.getElem?_set_ne (by omega)
theorem I4 {a b:ar}(bs:ct a)(aE:ct b)(aZ:a.length<=1000000)(hm:b.length<=1000000):
 ∃r,CU b a a.length 0 (List.replicate (a.length+b.length) 0)=some r/\ct r/\r.length=a.length+b.length/\V r=V a*V b:=by
 refine mc (ef:=fun w:Int×ar=> ∃(i:Nat),w.1=(i:Int)/\i<=a.length/\ct w.2/\w.2.length=a.length+b.length/\V w.2=V (a.take i)*V b/\ ∀j,i+b.length<=j->j<a.length+b.length->w.2[j]? = some 0) (m:=fun w:Int×ar=>a.length-w.1.toNat) _ ?_ _ ⟨0,rfl,by omega,ct.Fa _,by simp,by simp[V,Ec],fun j _ h=>by simp[List.getElem?_replicate,h]⟩;rintro⟨ii,row⟩ ⟨i,o,ad,ke,hlen,aT,h0⟩;simp only at o ke hlen aT h0 ⊢;subst o;by_cases Vf:i=a.length
 ·subst Vf;refine .inr ⟨row,by simp[CA],ke,hlen,by simpa using aT⟩
 have U:=dw (show i<a.length by omega);have my:=bs.get U;obtain⟨r,ah,lq,lr,TX,KQ,yM,jO⟩:=QI (i:=i) (t26:=a) (t27:=a.length) aE ke my (by omega) (by omega);have e:aa ((i:Int)+(b.length:Int))=((i+b.length:Nat):Int):=by rw[cQ (by omega) (by omega)];rfl
 have bY:r.2[i+b.length]? = some 0:=by rw[jO _ (dF _)];exact h0 _ (dF _) (by omega)
 refine .inl ⟨(((i+1:Nat):Int),r.2.set (i+b.length) r.1),?_,⟨i+1,rfl,by omega,TX.set ⟨lq,lr⟩,by simp;omega,?_,fun j Yi Vg=> ?_⟩,by simp;omega⟩
 ·unfold CA;rw[dy (by simp;omega),dy (by omega),dA,U];simp only[dK,dB,jb];rw[ah];simp only[dB,e,dA,dG];rw[dy (by omega),dy (by omega),pK (n:=i) (by omega)]
 ·simp only;rw[qv bY,th U];grind
 simp only;rw[List.getElem?_set_ne (by omega),jO _ (by omega)];exact h0 _ (by omega) Vg
theorem PH:HQ=CU:=rfl
theorem O6:HC=CU:=rfl
theorem RB {a b:ar}(bs:ct a)(aE:ct b)(aZ:a.length<=1000000)(hm:b.length<=1000000):xF a b=some (L (V a*V b)):=by
 unfold xF;simp only[jb];by_cases o:a=[]
 ·subst o;simp[V,r6]
 by_cases J:b=[]
 ·subst J;simp[o,V,r6]
 obtain⟨r,ah,an,aG,aN⟩:=I4 bs aE aZ hm;have e:aa ((a.length:Int)+(b.length:Int))=((a.length+b.length:Nat):Int):=by rw[cQ (by omega) (by omega)];rfl
 rw[dz (by simp[o]),dz (by simp[J]),e,dy (by omega),dA,PH,ah];simp only[dK,dB];rw[vW an (by omega),aN];rfl
theorem IE {a b:ar}(bs:ct a)(aE:ct b)(o:a≠[])(J:b≠[])(aZ:a.length<=1000000)(hm:b.length<=1000000):
 ∃k r,vz a b=some (k,r)/\k<=r.length/\r.length=a.length+b.length/\r.take k=L (V a*V b)/\ct r:=by
 obtain⟨r,ah,an,aG,aN⟩:=I4 bs aE aZ hm;obtain⟨k,aL,bJ,b6⟩:=QG an (by omega);refine⟨k,r,?_,bJ,aG,by rw[b6,aN],an⟩;unfold vz;simp only[jb];have e:aa ((a.length:Int)+(b.length:Int))=((a.length+b.length:Nat):Int):=by rw[cQ (by omega) (by omega)];rfl
 rw[dz (by simp[o]),dz (by simp[J]),e,dy (by omega),dA,O6,ah];simp only[dK,dB];rw[aL];rfl
theorem yl {x:Int}(o:0<=x)(J:x<18446744073709551616):IntKind.wrap .u64 x=x:=by
 simp only[IntKind.wrap,IntKind.signed,IntKind.bits];have:((2:Int) ^ 64)=18446744073709551616:=by decide
 simp;omega
theorem Tv {x:Int}(o:-9223372036854775808<=x)(J:x<9223372036854775808):IntKind.wrap .i64 x=x:=cQ o J
theorem gn.snoc {l:ar}{x:Int}(h:ct l)(U:0<x/\x<1000000000):gn (l++[x]):=⟨h.append (ct.cons (by omega) ct.nil),fun y aK=>by rw[List.getLast?_append] at aK;simp at aK;omega⟩
theorem QJ {N:Int}(fc:N<18446744073709551616){n:Int}{row:ar}(h:0<=n/\ct row/\V row+B row.length*n=N/\(n=0->gn row)/\((row.length=0/\n<18446744073709551616)\/(row.length=1/\n<20000000000)\/(row.length=2/\n<20)\/(row.length=3/\n=0)))(aZ:0<n):
 (fun (n:Int) (row:ar)=>0<=n/\ct row/\V row+B row.length*n=N/\(n=0->gn row)/\((row.length=0/\n<18446744073709551616)\/(row.length=1/\n<20000000000)\/(row.length=2/\n<20)\/(row.length=3/\n=0))) (n / 1000000000) (row++[n % 1000000000]):=by
 obtain⟨h0,o,J,an,aG⟩:=h;refine⟨by omega,o.append (ct.cons (by omega) ct.nil),?_,fun aN=>gn.snoc o (by omega),?_⟩
 ·rw[Az,dE,List.length_singleton,nJ,lR,Ts];have:=Int.mul_ediv_add_emod n 1000000000;generalize n / 1000000000=u at *;generalize n % 1000000000=t at *;grind
 rw[dE,List.length_singleton];omega
theorem Df {n:Int}(h:0<=n)(aZ:n<18446744073709551616):sZ n=some (L n):=by
 have : ∃r,iter (fun w:Int×ar=>u2 w.1 w.2) (n,[])=some r/\r=L n:=by
  refine mc (ef:=fun w:Int×ar=>w.1<=n/\0<=w.1/\ct w.2/\V w.2+B w.2.length*w.1=n/\(w.1=0->gn w.2)/\((w.2.length=0/\w.1<18446744073709551616)\/(w.2.length=1/\w.1<20000000000)\/(w.2.length=2/\w.1<20)\/(w.2.length=3/\w.1=0))) (m:=fun w:Int×ar=>w.1.toNat) _ ?_ _ ⟨Int.le_refl _,h,ct.nil,by simp[V,B],fun _=>gn.nil,.inl ⟨rfl,by simp only;omega⟩⟩;rintro⟨m,row⟩ ⟨hm,cE⟩;simp only at hm cE;obtain⟨h0,o,J,an,aG⟩:=id cE;by_cases iz:0<m
  ·have:=QJ (by omega) cE iz;refine .inl ⟨(m / 1000000000,row++[m % 1000000000]),?_,⟨by simp only;omega,this⟩,by simp only;omega⟩;unfold u2;rw[dy (by simp;omega),ux (by omega),rN (by omega),Tv (x:=m % 1000000000) (by omega) (by omega),dy (by simp;omega),yl (by omega) (by omega)]
  refine .inr ⟨row,by simp[u2,iz],?_⟩;have rp:m=0:=(by omega);refine Bh (an rp) ?_;rw[rp] at J;simpa using J
 obtain⟨r,ah,rfl⟩:=this;unfold sZ Hy;rw[ah];rfl
def XS (x:Int):Bool:=decide (0<=x) && decide (x<1000000000)
theorem P8 {a:ar}(h:a≠[]): ∃x,a[a.length-1]? = some x/\(gn a↔ct a/\x≠0):=by
 have af:=Zf.mpr h;refine⟨a[a.length-1],dw (by omega),?_⟩;have e:a.getLast? = some a[a.length-1]:=by rw[List.getLast?_eq_getElem?];exact dw (by omega)
 constructor
 ·exact fun h=>⟨h.1,h.2 _ e⟩
 refine fun h=>⟨h.1,fun x U=> ?_⟩;rw[e] at U;rw[<- dH U];exact h.2
theorem RC {b:ar}{i:Nat}{y:Int}(o:∀z,b[i]? = some z->y=z)(J:b[i]? = none->y=0):V (b.take (i+1))=V (b.take i)+B i*y:=by
 cases h:b[i]? with
 | some z=>rw[o z h,th h]
 | none =>
  rw[J h];have:b.length<=i:=(by simpa using h);rw[Y0 (by omega),Y0 (by omega)];simp
theorem rZ {l:ar}(h:ct l){k:Nat}(aL:k<=l.length):B k*V (l.drop k)<=V l/\V l<B k*(V (l.drop k)+1):=by have o:=vU aL;have J:=ql (h.take k);have an:=qx (h.take k);rw[List.length_take,Nat.min_eq_left aL] at an;rw[Int.mul_add,Int.mul_one];omega
theorem DA {l:ar}{k:Nat}{x:Int}(U:l[k]? = some x)(aw:l.length=k+1):V (l.drop k)=x:=by rw[oV U,List.drop_of_length_le (by omega)];simp[V]
theorem Pm {au W t d P:Int}(fX:1<=P)(BK:P*t<=au)(Fy:au<P*(t+1))(sy:P*d<=W)(BL:W<P*(d+1))(bk:0<d)(b3:0<=t)(Fz:au<1000000000*W):t / (d+1)<=au / W/\au / W<=t / d/\au / W<=999999999:=by
 have hW:0<W:=by have:=Int.mul_pos (a:=P) (b:=d) (by omega) bk;omega
 have cb:0<=au:=by have:=Int.mul_nonneg (a:=P) (b:=t) (by omega) b3;omega
 refine⟨?_,?_,?_⟩
 ·apply (Int.le_ediv_iff_mul_le hW).2;have o:t / (d+1)*(d+1)<=t:=Int.ediv_mul_le _ (by omega);have J:0<=t / (d+1):=Int.ediv_nonneg b3 (by omega);have an:t / (d+1)*W<=t / (d+1)*(P*(d+1)):=dQ (by omega) J;have aG:P*(t / (d+1)*(d+1))<=P*t:=dQ o (by omega);have aN:t / (d+1)*(P*(d+1))=P*(t / (d+1)*(d+1)):=(by grind);omega
 ·apply (Int.le_ediv_iff_mul_le bk).2;have o:au / W*W<=au:=Int.ediv_mul_le _ (by omega);have J:0<=au / W:=Int.ediv_nonneg cb (by omega);have an:au / W*(P*d)<=au / W*W:=dQ sy J;have aG:au / W*(P*d)=P*(au / W*d):=(by grind);have aN:P*(au / W*d)<P*(t+1):=(by omega);have:=Int.lt_of_mul_lt_mul_left aN (by omega);omega
 have:=Int.ediv_lt_of_lt_mul hW Fz;omega
theorem AK {a b:Int}:nR a b<0↔a<b:=by
 unfold nR;by_cases h:a<b
 ·simp[h]
 by_cases J:b<a
 ·simp[h,J]
 simp[h,J]
theorem KD {b:ar}(aE:gn b)(pY:b≠[]): ∃k d,b.length=k+1/\b[k]? = some d/\0<d/\d<1000000000/\V (b.drop k)=d:=by have af:=Zf.mpr pY;obtain⟨x,U,h⟩:=P8 pY;have o:=h.1 aE;have J:=o.1.get U;exact⟨b.length-1,x,by omega,U,by omega,J.2,DA U (by omega)⟩
def nm (p:Nat)(l:ar):Prop:= ∀i z,i≠p->l[i]? = some z->0<=z/\z<1000000000
theorem nm.set {p:Nat}{l:ar}(h:nm p l){k:Nat}{x:Int}(U:0<=x/\x<1000000000):nm p (l.set k x):=fun i z ad bY=>by
 by_cases aL:k=i
 ·subst aL
  rw[YZ] at bY;simp only[if_true] at bY;split at bY
  ·rw[<- dH bY];exact U
  simp at bY
 rw[List.getElem?_set_ne aL] at bY;exact h i z ad bY
theorem nm.Lq {p:Nat}{l:ar}(h:nm p l){x:Int}:nm p (l.set p x):=fun i z ad bY=>by rw[List.getElem?_set_ne (fun h=>ad h.symm)] at bY;exact h i z ad bY
theorem ct.toE {l:ar}(h:ct l)(p:Nat):nm p l:=fun _ _ _ bY=>h.get bY
theorem QK {v row:ar}{bb ln i:Nat}{hr carry x y:Int}(U:v[i]? = some x)(aK:row[bb+i]? = some y)(my:0<=x/\x<1000000000)(rA:0<=y/\y<1000000000)(aE:0<=hr/\hr<1000000000)(aJ:0<=carry/\carry<1000000000)(hu:i<ln)(aZ:row.length<=5000000):
 ∃c z,sU bb ln v hr v.length carry i row=some (.inl (c,((i+1:Nat):Int),row.set (bb+i) z))/\0<=c/\c<1000000000/\0<=z/\z<1000000000/\z-1000000000*c=y-hr*x-carry:=by
 have ad:=eV U;have ao:=eV aK;obtain⟨gW,fJ⟩:=x8 aE my;have e:aa (aa (y-aa (hr*x))-carry)=y-hr*x-carry:=by rw[cQ (x:=hr*x) (by omega) (by omega),cQ (x:=y-hr*x) (by omega) (by omega),cQ (by omega) (by omega)]
 by_cases b3:y-hr*x-carry<0
 ·refine⟨(999999999-(y-hr*x-carry)) / 1000000000,y-hr*x-carry+(999999999-(y-hr*x-carry)) / 1000000000*1000000000,?_,by omega,by omega,by omega,by omega,by omega⟩;unfold sU;rw[dy (by simp;omega),dy (by omega),dA,U];simp only[dK,dB];rw[dy (by omega),aK];simp only[dB,e];rw[dy (by simpa using b3),dy (by omega),pK (n:=i) (by omega),cQ (x:=999999999-(y-hr*x-carry)) (by omega) (by omega),rN (by omega),cQ (x:=(999999999-(y-hr*x-carry)) / 1000000000) (by omega) (by omega),cQ (x:=(999999999-(y-hr*x-carry)) / 1000000000*1000000000) (by omega) (by omega),cQ (by omega) (by omega)]
 refine⟨0,y-hr*x-carry,?_,by omega,by omega,by omega,by omega,by omega⟩;unfold sU;rw[dy (by simp;omega),dy (by omega),dA,U];simp only[dK,dB];rw[dy (by omega),aK];simp only[dB,e];rw[dz (by simpa using b3),dy (by omega),pK (n:=i) (by omega)]
theorem QL {v row:ar}{bb ln:Nat}{hr:Int}(aT:ct v)(ah:ct row)(aE:0<=hr/\hr<1000000000)(hu:v.length<ln)(aw:bb+v.length<row.length)(aZ:row.length<=5000000):
 ∃r,HI bb ln v hr v.length 0 0 row=some r/\0<=r.1/\r.1<1000000000/\ct r.2/\r.2.length=row.length/\V r.2=V row-hr*B bb*V v+r.1*B (bb+v.length)/\ ∀i,i<bb\/bb+v.length<=i->r.2[i]? = row[i]? := by
 refine mc (ef:=fun w:Int×Int×ar=> ∃(i:Nat),w.2.1=(i:Int)/\i<=v.length/\0<=w.1/\w.1<1000000000/\ct w.2.2/\w.2.2.length=row.length/\V w.2.2=V row-hr*B bb*V (v.take i)+w.1*B (bb+i)/\ ∀i,i<bb\/bb+v.length<=i->w.2.2[i]? = row[i]?) (m:=fun w:Int×Int×ar=>v.length-w.2.1.toNat) _ ?_ _ ⟨0,rfl,by omega,by simp,by simp,ah,rfl,by simp[V],fun _ _=>rfl⟩;rintro⟨carry,ii,gE⟩ ⟨i,o,ad,lq,lr,ke,hlen,hV,jO⟩;simp only at o lq lr ke hlen hV jO ⊢;subst o;by_cases wx:i=v.length
 ·subst wx;exact .inr ⟨(carry,gE),by simp[sU],lq,lr,ke,hlen,by simpa using hV,jO⟩
 have U:=dw (show i<v.length by omega);have aK:=dw (show bb+i<gE.length by omega);obtain⟨c,z,he,cV,bG,iU,pv,bY⟩:=QK (ln:=ln) U aK (aT.get U) (ke.get aK) aE ⟨lq,lr⟩ (by omega) (by omega);rw[he];refine .inl ⟨_,rfl,⟨i+1,rfl,by omega,cV,bG,ke.set ⟨iU,pv⟩,by simpa using hlen,?_,fun k aL=> ?_⟩,by simp;omega⟩
 ·simp only;rw[qv aK,th U,hV,<- Nat.add_assoc,nJ,A3];have tX:z=gE[bb+i]-hr*v[i]-carry+1000000000*c:=(by omega);rw[tX];grind
 simp only;rw[List.getElem?_set_ne (by omega)];exact jO k aL
theorem SO {v row:ar}{bb ln:Nat}{hr:Int}(aT:ct v)(ah:ct row)(aE:0<=hr/\hr<1000000000)(hu:v.length<ln)(aw:bb+v.length<row.length)(aZ:row.length<=5000000):
 ∃y cU,xy v hr bb ln row=some (decide (y<0),cU)/\cU.length=row.length/\nm (bb+v.length) cU/\cU[bb+v.length]? = some y/\ -1000000000<y/\y<1000000000/\V cU=V row-hr*B bb*V v/\ ∀i,i<bb\/bb+v.length<i->cU[i]? = row[i]? := by
 obtain⟨r,iB,cV,bG,ke,hlen,hV,jO⟩:=QL aT ah aE hu aw aZ;have U:=dw (show bb+v.length<r.2.length by omega);have my:=ke.get U;refine⟨r.2[bb+v.length]-r.1,r.2.set (bb+v.length) (r.2[bb+v.length]-r.1),?_,by simpa using hlen,(ct.toE ke _).Lq,?_,by omega,by omega,?_,fun i ad=> ?_⟩
 ·unfold xy;simp only[jb];rw[iB];simp only[dK,dB,dA];rw[dy (by omega),U];simp only[dB];rw[dy (by omega),cQ (by omega) (by omega),YZ,dy rfl,dy (by omega)];rfl
 ·rw[YZ,dy rfl,dy (by omega)]
 ·rw[qv U,hV];grind
 rw[List.getElem?_set_ne (by omega)];exact jO i (by omega)
theorem QM {v row:ar}{bb ln:Nat}(aT:ct v)(ah:nm (bb+v.length) row)(hu:v.length<ln)(aw:bb+v.length<row.length)(aZ:row.length<=5000000):
 ∃r,HJ bb ln v v.length 0 0 row=some r/\0<=r.1/\r.1<=1/\nm (bb+v.length) r.2/\r.2.length=row.length/\V r.2=V row+B bb*V v-r.1*B (bb+v.length)/\ ∀i,i<bb\/bb+v.length<=i->r.2[i]? = row[i]? := by
 refine mc (ef:=fun w:Int×Int×ar=> ∃(i:Nat),w.2.1=(i:Int)/\i<=v.length/\0<=w.1/\w.1<=1/\nm (bb+v.length) w.2.2/\w.2.2.length=row.length/\V w.2.2=V row+B bb*V (v.take i)-w.1*B (bb+i)/\ ∀i,i<bb\/bb+v.length<=i->w.2.2[i]? = row[i]?) (m:=fun w:Int×Int×ar=>v.length-w.2.1.toNat) _ ?_ _ ⟨0,rfl,by omega,by simp,by simp,ah,rfl,by simp[V],fun _ _=>rfl⟩;rintro⟨carry,ii,gE⟩ ⟨i,o,ad,lq,lr,ke,hlen,hV,jO⟩;simp only at o lq lr ke hlen hV jO ⊢;subst o;by_cases wx:i=v.length
 ·subst wx;exact .inr ⟨(carry,gE),by simp[vf],lq,lr,ke,hlen,by simpa using hV,jO⟩
 have U:=dw (show i<v.length by omega);have aK:=dw (show bb+i<gE.length by omega);have my:=aT.get U;have rA:=ke _ _ (by omega) aK;have he:vf bb ln v v.length carry i gE=some (.inl ((gE[bb+i]+v[i]+carry) / 1000000000,((i+1:Nat):Int),gE.set (bb+i) ((gE[bb+i]+v[i]+carry) % 1000000000))):=by unfold vf;rw[dy (by simp;omega),dy (by omega),dA,U];simp only[dK,dB];rw[dy (by omega),aK];simp only[dB];rw[dy (by omega),cQ (x:=gE[bb+i]+v[i]) (by omega) (by omega),cQ (x:=gE[bb+i]+v[i]+carry) (by omega) (by omega),ux (by omega),rN (by omega),cQ (by omega) (by omega),pK (n:=i) (by omega)]
 rw[he];refine .inl ⟨_,rfl,⟨i+1,rfl,by omega,by simp only;omega,by simp only;omega,ke.set (by omega),by simpa using hlen,?_,fun k aL=> ?_⟩,by simp;omega⟩
 ·simp only;rw[qv aK,th U,hV,<- Nat.add_assoc,nJ,A3];have:=Int.mul_ediv_add_emod (gE[bb+i]+v[i]+carry) 1000000000;generalize (gE[bb+i]+v[i]+carry) / 1000000000=q at *;generalize (gE[bb+i]+v[i]+carry) % 1000000000=t at *;have tX:t=gE[bb+i]+v[i]+carry-1000000000*q:=(by omega);rw[tX];grind
 simp only;rw[List.getElem?_set_ne (by omega)];exact jO k aL
theorem SP {v row:ar}{bb ln:Nat}{y:Int}(aT:ct v)(ah:nm (bb+v.length) row)(hu:v.length<ln)(aw:bb+v.length<row.length)(aZ:row.length<=5000000)(aK:row[bb+v.length]? = some y)(rA:-1000000000<y)(L9:y<1000000000):
 ∃kD cU,vA v bb ln row=some cU/\cU.length=row.length/\nm (bb+v.length) cU/\cU[bb+v.length]? = some kD/\V cU=V row+B bb*V v/\ ∀i,i<bb\/bb+v.length<i->cU[i]? = row[i]? := by
 obtain⟨r,iB,cV,bG,ke,hlen,hV,jO⟩:=QM aT ah hu aw aZ;have U:r.2[bb+v.length]? = some y:=by rw[jO _ (by omega)];exact aK
 refine⟨y+r.1,r.2.set (bb+v.length) (y+r.1),?_,by simpa using hlen,ke.Lq,?_,?_,fun i ad=> ?_⟩
 ·unfold vA;simp only[jb];rw[iB];simp only[dK,dB,dA];rw[dy (by omega),U];simp only[dB];rw[dy (by omega),cQ (by omega) (by omega)]
 ·rw[YZ,dy rfl,dy (by omega)]
 ·rw[qv U,hV];grind
 rw[List.getElem?_set_ne (by omega)];exact jO i (by omega)
theorem RD {g q v1 v2 top fK rest au W P:Int}(fX:1<=P)(cZ:0<=g)(b3:g*v1+rest=top)(sy:P*(v1*1000000000+v2)<=W)(Fy:au<P*(top*1000000000+fK+1))(Ma:q*W<=au)(hW:0<=W)(h:rest*1000000000+fK<g*v2):q<g:=by
 apply Int.not_le.mp;intro sA;have o:g*W<=q*W:=Int.mul_le_mul_of_nonneg_right sA hW;have J:g*(P*(v1*1000000000+v2))<=g*W:=dQ sy cZ;have an:g*(P*(v1*1000000000+v2))=P*(g*(v1*1000000000+v2)):=by grind
 have aG:P*(g*(v1*1000000000+v2))<P*(top*1000000000+fK+1):=by omega
 have aN:=Int.lt_of_mul_lt_mul_left aG (by omega);have bJ:g*(v1*1000000000+v2)=1000000000*(g*v1)+g*v2:=by grind
 omega
theorem I5 {g v1 v2 top fK rest au W P:Int}(fX:1<=P)(cZ:0<=g)(sB:g<=999999999)(rB:1<=v1)(zl:0<=v2)(b3:g*v1+rest=top)(sy:P*(v1*1000000000+v2)<=W)(BL:W<P*(v1*1000000000+v2+1))(BK:P*(top*1000000000+fK)<=au)(h:g*v2<=rest*1000000000+fK):g<=au / W+1:=by
 have zm:P*1000000000<=W:=by have o:P*1000000000<=P*(v1*1000000000+v2):=dQ (by omega) (by omega);omega
 have o:g*W<=g*(P*(v1*1000000000+v2+1)):=dQ (by omega) cZ;have J:g*(P*(v1*1000000000+v2+1))=P*(1000000000*(g*v1)+g*v2+g):=by grind
 have an:P*(1000000000*(g*v1)+g*v2+g)<=P*(top*1000000000+fK+999999999):=dQ (by omega) (by omega);have aG:P*(top*1000000000+fK+999999999)=P*(top*1000000000+fK)+P*999999999:=by grind
 have aN:(g-1)*W=g*W-W:=by grind
 have:g-1<=au / W:=(Int.le_ediv_iff_mul_le (by omega)).2 (by omega);omega
theorem P9 {aC u g8 ay:ar}{N n j:Nat}{v1 v2 fK top au W P:Int}(aZ:2<=n)(EO:n<=5000000)(zn:j+n<N)(fc:N<=5000000)(o:g8[n-1]? = some v1)(J:g8[n-2]? = some v2)(an:u[j+n-2]? = some fK)
 (rB:1<=v1/\v1<1000000000) (zl:0<=v2/\v2<1000000000) (Yj:0<=fK/\fK<1000000000) (fX:1<=P) (sy:P*(v1*1000000000+v2)<=W) (BL:W<P*(v1*1000000000+v2+1)) (BK:P*(top*1000000000+fK)<=au) (Fy:au<P*(top*1000000000+fK+1)) (cb:0<=au) (Fz:au<1000000000*W) (BM:0<=top) (Yk:top<=v1*1000000000+999999999) (aU:au / W<=top / v1) :
 ∃g,HW N n n j aC u g8 ay (top / v1) (top % v1)=some g/\(au / W=g\/au / W+1=g)/\0<=g/\g<=999999999:=by
 have zm:0<W:=by have o:P*1000000000<=P*(v1*1000000000+v2):=dQ (by omega) (by omega);omega
 have tN:0<=au / W:=Int.ediv_nonneg cb (by omega);have tO:au / W<1000000000:=Int.ediv_lt_of_lt_mul zm Fz;have Ma:au / W*W<=au:=Int.ediv_mul_le _ (by omega);have Vi:=Int.mul_ediv_add_emod top v1;have rp:=Int.emod_nonneg top (b:=v1) (by omega);have wU:=Int.emod_lt_of_pos top (b:=v1) (by omega);have Ew:aa ((n:Int)-1)=((n-1:Nat):Int):=by rw[cQ (by omega) (by omega)];omega
 have TY:aa ((n:Int)-2)=((n-2:Nat):Int):=by rw[cQ (by omega) (by omega)];omega
 have TZ:aa (aa ((j:Int)+(n:Int))-2)=((j+n-2:Nat):Int):=by rw[cQ (x:=(j:Int)+n) (by omega) (by omega),cQ (by omega) (by omega)];omega
 have Bi:top / v1<=top:=Int.ediv_le_self _ BM;refine mc (ef:=fun w:Int×Int=>w.1*v1+w.2=top/\0<=w.2/\w.2<1000000000/\au / W<=w.1/\w.1<=top) (m:=fun w:Int×Int=>w.1.toNat) _ ?_ _ ⟨by rw[Int.mul_comm];exact Vi,rp,by simp only;omega,aU,Bi⟩;rintro⟨g,rest⟩ ⟨nA,l6,zE,rI,zF⟩;simp only at nA l6 zE rI zF ⊢;have FA:aa (rest+v1)=rest+v1:=cQ (by omega) (by omega);have FB:aa (g-1)=g-1:=cQ (by omega) (by omega);have sB:(g-1)*v1+(rest+v1)=top:=by grind
 have KE:au / W<=g-1->1000000000<=rest+v1->(au / W=g-1\/au / W+1=g-1)/\0<=g-1/\g-1<=999999999:=by intro jK hU;have kf:(g-1)*v1<1000000000*v1:=(by omega);have Gd:g-1<1000000000:=Int.lt_of_mul_lt_mul_right kf (by omega);have MN:0<=g-1:=(by omega);have YS:=(x8 ⟨MN,Gd⟩ zl).2;have:=I5 fX MN (by omega) rB.1 zl.1 sB sy BL BK (by omega);omega
 by_cases Ex:1000000000<=g
 ·by_cases aE:1000000000<=rest+v1
  ·refine .inr ⟨g-1,?_,KE (by omega) aE⟩;unfold sW;rw[dy (by simpa using Ex),Ew,dy (by omega),dG,dA,o];simp only[dK,dB,FA,FB];rw[dy (by simpa using aE)]
  refine .inl ⟨(g-1,rest+v1),?_,⟨sB,by simp only;omega,by simp only;omega,by simp only;omega,by simp only;omega⟩,by simp only;omega⟩;unfold sW;rw[dy (by simpa using Ex),Ew,dy (by omega),dG,dA,o];simp only[dK,dB,FA,FB];rw[dz (by simpa using aE)]
 have hK:0<=g:=by omega
 obtain⟨gW,fJ⟩:=x8 ⟨hK,by omega⟩ zl;have ap:aa (aa (rest*1000000000)+fK)=rest*1000000000+fK:=by rw[cQ (x:=rest*1000000000) (by omega) (by omega),cQ (by omega) (by omega)]
 have av:aa (g*v2)=g*v2:=cQ (by omega) (by omega)
 have Tw:sW N n n j aC u g8 ay g rest=some (if rest*1000000000+fK<g*v2 then (if 1000000000<=rest+v1 then .inr (g-1) else .inl (g-1,rest+v1)) else .inr g):=by
  unfold sW;rw[dz (by simpa using Ex),TY,dy (by omega),dG,dA,J];simp only[dK,dB];rw[TZ,dy (by omega),dG,dA,an];simp only[dB,ap,av];by_cases aJ:rest*1000000000+fK<g*v2
  ·rw[dy (by simpa using aJ),dy aJ,Ew,dy (by omega),dG,dA,o]
   simp only[dB,FA,FB];by_cases aE:1000000000<=rest+v1
   ·rw[dy (by simpa using aE),dy aE]
   rw[dz (by simpa using aE),dz aE]
  rw[dz (by simpa using aJ),dz aJ]
 rw[Tw];by_cases aJ:rest*1000000000+fK<g*v2
 ·have Yl:=RD fX hK nA sy Fy Ma (by omega) aJ
  rw[dy aJ];by_cases aE:1000000000<=rest+v1
  ·rw[dy aE];exact .inr ⟨g-1,rfl,KE (by omega) aE⟩
  rw[dz aE];exact .inl ⟨(g-1,rest+v1),rfl,⟨sB,by simp only;omega,by simp only;omega,by simp only;omega,by simp only;omega⟩,by simp only;omega⟩
 rw[dz aJ];have:=I5 fX hK (by omega) rB.1 zl.1 nA sy BL BK (by omega);exact .inr ⟨g,rfl,by omega,by omega,by omega⟩
theorem QN {a b:ar}{k:Nat}(h:∀i,k<=i->a[i]? = b[i]?):a.drop k=b.drop k:=by apply Zb;intro i;rw[Y7,Y7];exact h _ (by omega)
theorem QO {a b:ar}{k:Nat}(h:∀i,i<k->a[i]? = b[i]?):a.take k=b.take k:=by
 apply Zb;intro i;rw[dR,dR];by_cases ad:i<k
 ·rw[dy ad,dy ad];exact h i ad
 rw[dz ad,dz ad]
theorem Mb {u w:ar}{j n:Nat}{y c:Int}(hlen:w.length=u.length)(zn:j+n<u.length)(c7:nm (j+n) w)(aK:w[j+n]? = some y)(jO:∀i,i<j\/j+n<i->w[i]? = u[i]?)(h0:V (u.drop (j+n+1))=0)(hV:V w=V u-c*B j):
 V (w.drop j)=V (u.drop j)-c/\ ∃low,0<=low/\low<B n/\V (w.drop j)=low+B n*y:=by
 have o:=vU (l:=u) (n:=j) (by omega);have J:=vU (l:=w) (n:=j) (by omega);rw[QO (a:=w) (b:=u) (fun i ad=>jO i (.inl ad))] at J;have an:B j*V (w.drop j)=B j*(V (u.drop j)-c):=by grind
 have gN:=sd j;have aG:V (w.drop j)=V (u.drop j)-c:=Int.eq_of_mul_eq_mul_left (by omega) an;refine⟨aG,V ((w.drop j).take n),?_,?_,?_⟩
 ·refine ql (fun x U=> ?_);obtain⟨i,ad⟩:=List.mem_iff_getElem?.mp U;have jS:=eV ad;simp at jS;rw[dR,dy (by omega),Y7] at ad;exact c7 _ _ (by omega) ad
 ·have aw:ct ((w.drop j).take n):=fun x U=>by
   obtain⟨i,ad⟩:=List.mem_iff_getElem?.mp U;have jS:=eV ad;simp at jS;rw[dR,dy (by omega),Y7] at ad;exact c7 _ _ (by omega) ad
  have:=qx aw
  rwa [List.length_take,Nat.min_eq_left (by simp;omega)] at this
 have aN:=vU (l:=w.drop j) (n:=n) (by simp;omega);rw[List.drop_drop,oV aK,QN (a:=w) (b:=u) (k:=j+n+1) (fun i ad=>jO i (.inr (by omega))),h0] at aN;rw[aN];grind
theorem I6 {w:ar}{p:Nat}(c7:nm p w)(aK:w[p]? = some 0):ct w:=fun x U=>by
 obtain⟨i,ad⟩:=List.mem_iff_getElem?.mp U;by_cases h:i=p
 ·subst h;rw[aK] at ad;have:=dH ad;omega
 exact c7 i x h ad
theorem Jy {low y X uy W:Int}(h0:0<=low)(o:low<uy)(B7:X=low+uy*y)(J:0<=X)(an:X<W)(aG:W<=uy):y=0:=by
 have c0:uy*y<uy*1:=by omega
 have aN:=Int.lt_of_mul_lt_mul_left c0 (by omega);have Bz:uy*(-1)<uy*y:=by omega
 have bJ:=Int.lt_of_mul_lt_mul_left Bz (by omega);omega
theorem QP {aC u g8 ay:ar}{n j:Nat}{v1 W:Int}(aZ:2<=n)(Mc:n<=g8.length)(aT:ct (g8.take n))(hW:V (g8.take n)=W)(rB:g8[n-1]? = some v1)(Ey:1<=v1)(hu:ct u)(uk:u.length<=5000000)(zn:j+n<u.length)(c0:V (u.drop (j+1))<W)(Ym:j<ay.length):
 ∃oK,sX u.length n n aC g8 j u ay=some (.inl ((j:Int)-1,oK,ay.set j (V (u.drop j) / W)))/\ct oK/\oK.length=u.length/\V oK=V u-(V (u.drop j) / W)*B j*W/\V (oK.drop j)<W/\0<=V (u.drop j) / W/\V (u.drop j) / W<1000000000:=by
 obtain⟨n,rfl⟩ : ∃m,n=m+2:=⟨n-2,by omega⟩;have ot:(g8.take (n+2)).length=n+2:=by simp;omega
 have sB:(g8.take (n+2))[n+1]? = some v1:=by rw[dR,dy (by omega)];exact rB
 have Md:=dw (show n<g8.length by omega);have Lr:(g8.take (n+2))[n]? = some g8[n]:=by rw[dR,dy (by omega)];exact Md
 have T0:=aT.get sB;have T1:=aT.get Lr;have my:=dw (show j+(n+2)<u.length by omega);have FC:=dw (show j+(n+1)<u.length by omega);have yY:=dw (show j+n<u.length by omega);have Me:=dw (show j<u.length by omega);have pY:=hu.get my;have wC:=hu.get FC;have yU:=hu.get yY;have Yn:=hu.get Me;have zo:=rZ aT (k:=n+1) (by omega);rw[DA sB (by omega),hW] at zo;have FD:=rZ aT (k:=n) (by omega);rw[oV Lr,DA sB (by omega),hW] at FD;have Ez:=qx aT;rw[ot,hW] at Ez;have Yo:0<=W:=by rw[<- hW];exact ql aT
 have bY:=rZ (hu.drop (j+1)) (k:=n+2) (by simp;omega);rw[List.drop_drop] at bY;have Vj:=ql (hu.drop (j+1+(n+2)));have Yp:=sd (n+2);have h0:V (u.drop (j+(n+2)+1))=0:=by rw[show j+(n+2)+1=j+1+(n+2) by omega];apply Int.le_antisymm _ Vj;apply Int.not_lt.mp;intro h;have:B (n+2)*1<=B (n+2)*V (u.drop (j+1+(n+2))):=dQ (by omega) (by omega);omega
 have BM:V (u.drop (j+(n+2)))=u[j+(n+2)]:=by rw[oV my,h0];omega
 have Bi:V (u.drop (j+(n+1)))=u[j+(n+1)]+1000000000*u[j+(n+2)]:=by rw[oV FC,show j+(n+1)+1=j+(n+2) by omega,BM]
 have hv:V (u.drop (j+n))=u[j+n]+1000000000*(u[j+(n+1)]+1000000000*u[j+(n+2)]):=by rw[oV yY,show j+n+1=j+(n+1) by omega,Bi]
 have iB:=rZ (hu.drop j) (k:=n+1) (by simp;omega);rw[List.drop_drop,Bi] at iB;have FE:=rZ (hu.drop j) (k:=n) (by simp;omega);rw[List.drop_drop,hv] at FE;have Mf:=ql (hu.drop j);have cb:V (u.drop j)<1000000000*W:=by rw[oV Me];omega
 have Vk:=sd n;have T2:=sd (n+1);have tV:u[j+(n+2)]<=v1:=by have o:=rZ (hu.drop (j+1)) (k:=n+1) (by simp;omega);rw[List.drop_drop,show j+1+(n+1)=j+(n+2) by omega,BM] at o;have J:B (n+1)*u[j+(n+2)]<B (n+1)*(v1+1):=(by omega);have:=Int.lt_of_mul_lt_mul_left J (by omega);omega
 have T3:=Pm T2 iB.1 iB.2 zo.1 zo.2 (by omega) (by omega) cb
 obtain⟨g,cZ,sA,Vl,Yq⟩:=P9 (aC:=aC) (ay:=ay) (N:=u.length) (n:=n+2) (j:=j) (v1:=v1) (v2:=g8[n]) (fK:=u[j+n]) (top:=u[j+(n+1)]+1000000000*u[j+(n+2)]) (au:=V (u.drop j)) (W:=W) (P:=B n) (u:=u) (g8:=g8) (by omega) (by omega) zn uk rB Md yY ⟨Ey,T0.2⟩ T1 yU Vk
  (by rw[Int.mul_comm v1,Int.add_comm];exact FD.1) (by rw[Int.mul_comm v1,Int.add_comm (1000000000*v1)];exact FD.2)
  (by rw[Int.mul_comm (u[j+(n+1)]+_),Int.add_comm];exact FE.1) (by rw[Int.mul_comm (u[j+(n+1)]+_),Int.add_comm (1000000000*_) u[j+n]];exact FE.2) Mf cb (by omega) (by omega) T3.2.1
 have zm:0<W:=by have:B (n+1)*1<=B (n+1)*v1:=dQ (by omega) (by omega);omega
 have tN:0<=V (u.drop j) / W:=Int.ediv_nonneg Mf (by omega);have tO:V (u.drop j) / W<1000000000:=Int.ediv_lt_of_lt_mul zm cb;have hm:=Int.mul_ediv_add_emod (V (u.drop j)) W;have rp:=Int.emod_nonneg (V (u.drop j)) (b:=W) (by omega);have wU:=Int.emod_lt_of_pos (V (u.drop j)) zm;obtain⟨y,w,b3,Mg,BN,BO,rA,L9,BP,D5⟩:=SO (v:=g8.take (n+2)) (row:=u) (bb:=j) (ln:=u.length-j) (hr:=g) aT hu ⟨Vl,by omega⟩ (by omega) (by omega) uk;rw[ot] at BN BO D5;rw[hW] at BP;obtain⟨BQ,low,lZ,FF,tW⟩:=Mb (c:=g*W) Mg zn BN BO D5 h0 (by rw[BP];grind);have Vm:aa ((j:Int)-1)=(j:Int)-1:=wh (by omega);have ap:aa ((j:Int)+((n+2:Nat):Int))=((j+(n+2):Nat):Int):=by rw[cQ (by omega) (by omega)];omega
 have av:aa (((j+(n+2):Nat):Int)-1)=((j+(n+1):Nat):Int):=by rw[cQ (by omega) (by omega)];omega
 have bS:aa (((n+2:Nat):Int)-1)=((n+1:Nat):Int):=by rw[cQ (by omega) (by omega)];omega
 have dj:aa (aa (u[j+(n+2)]*1000000000)+u[j+(n+1)])=u[j+(n+1)]+1000000000*u[j+(n+2)]:=by rw[cQ (x:=u[j+(n+2)]*1000000000) (by omega) (by omega),cQ (by omega) (by omega)];omega
 have eh:0<=u[j+(n+1)]+1000000000*u[j+(n+2)]:=by omega
 have e6:(u[j+(n+1)]+1000000000*u[j+(n+2)]) / v1<=u[j+(n+1)]+1000000000*u[j+(n+2)]:=Int.ediv_le_self _ eh;have fg:0<=(u[j+(n+1)]+1000000000*u[j+(n+2)]) / v1:=Int.ediv_nonneg eh (by omega);have T4:g8[n+1]? = some v1:=rB
 have pre:sX u.length (n+2) ((n+2:Nat):Int) aC g8 j u ay =
  (if (decide (y<0))=true then
    vA (g8.take (n+2)) j (u.length-j) w >>= fun jg=>some (.inl ((j:Int)-1,jg,ay.set j (aa (g-1))))
  else some (.inl ((j:Int)-1,w,ay.set j g))):=by
  unfold sX;rw[dy (by simp)];simp only[ap,av,bS,dA,dG,Vm];rw[dy (by omega),my];simp only[dK,dB];rw[dy (by omega),FC];simp only[dB];rw[dy (by omega),T4];simp only[dB];rw[dy (by omega),dj,rN eh,ux eh,cQ (by omega) (by omega),cZ];simp only[dB];rw[dy (by omega),dy (by omega),dy (by omega),List.drop_zero,b3];simp only[dB];by_cases aK:y<0
  ·have bk:(decide (y<0))=true:=(by simpa using aK);simp only[dy bk];congr 1;funext r;rw[dy (by omega),dy (by omega)]
  have bk : ¬(decide (y<0))=true:=(by simpa using aK);simp only[dz bk];rw[dy (by omega),dy (by omega)]
 rcases sA with sA|sA
 ·subst sA;have B7:V (w.drop j)=V (u.drop j) % W:=(by rw[BQ];grind);have aK:y=0:=Jy (W:=W) lZ FF tW (by rw[B7];exact rp) (by rw[B7];exact wU) (Int.le_of_lt Ez);subst aK;refine⟨w,?_,I6 BN BO,Mg,BP,by omega,tN,tO⟩;rw[pre];rfl
 have B7:V (w.drop j)=V (u.drop j) % W-W:=by rw[BQ,<- sA];grind
 have aK:y<0:=by apply Int.not_le.mp;intro h;have:0<=B (n+2)*y:=Int.mul_nonneg (by omega) h;omega
 obtain⟨kD,bc,mw,XT,EA,EB,Ls,J5⟩:=SP (v:=g8.take (n+2)) (row:=w) (bb:=j) (ln:=u.length-j) (y:=y) aT (by rw[ot];exact BN) (by omega) (by omega) (by omega) (by rw[ot];exact BO) rA L9;rw[ot] at EA EB J5;rw[hW] at Ls;have Mh:V bc=V u-V (u.drop j) / W*B j*W:=by rw[Ls,BP,<- sA];grind
 obtain⟨T5,XU,T6,T7,T8⟩:=Mb (c:=V (u.drop j) / W*W) (by omega) zn EA EB (fun i ad=>by rw[J5 i ad,D5 i ad]) h0 (by rw[Mh];grind);have Mi:V (bc.drop j)=V (u.drop j) % W:=by rw[T5];grind
 have nq:kD=0:=Jy (W:=W) T6 T7 T8 (by rw[Mi];exact rp) (by rw[Mi];exact wU) (Int.le_of_lt Ez);subst nq;refine⟨bc,?_,I6 EA EB,by omega,Mh,by omega,tN,tO⟩;rw[pre,dy (by simpa using aK),mw];simp only[dK,dB];rw[cQ (by omega) (by omega),show g-1=V (u.drop j) / W by omega]
theorem QQ {aC g8 u:ar}{n m:Nat}{v1 W:Int}(aZ:2<=n)(Mc:n<=g8.length)(aT:ct (g8.take n))(hW:V (g8.take n)=W)(rB:g8[n-1]? = some v1)(Ey:1<=v1)(hu:ct u)(uk:u.length<=5000000)(hm:m+n=u.length)(c0:V (u.drop m)<W):
 ∃r,HX u.length n n aC g8 ((m:Int)-1) u (List.replicate m 0)=some r/\ct r.1/\r.1.length=u.length/\V r.1<W/\ct r.2/\r.2.length=m/\V u=V r.2*W+V r.1:=by
 refine mc (ef:=fun w:Int×ar×ar=> ∃(k:Nat) (q:ar),w.1=(k:Int)-1/\k<=m/\ct w.2.1/\w.2.1.length=u.length/\w.2.2=List.replicate k 0++q/\q.length+k=m/\ct q/\V (w.2.1.drop k)<W/\V u=V w.2.1+B k*V q*W) (m:=fun w:Int×ar×ar=>(w.1+1).toNat) _ ?_ _ ⟨m,[],rfl,by omega,hu,rfl,by simp,by simp,ct.nil,c0,by simp[V]⟩;rintro⟨Wm,oK,ay⟩ ⟨k,q,o,aL,mU,hlen,an,aU,zk,EC,hV⟩;simp only at o mU hlen an EC hV ⊢;subst o an
 cases k with
 | zero =>
  refine .inr ⟨(oK,q),by simp[sX],mU,hlen,by simpa using EC,zk,by simpa using aU,?_⟩;rw[hV];simp[B];omega
 | succ k =>
  obtain⟨Yr,he,s1,s2,uq,Wn,Wo,Wp⟩:=QP (aC:=aC) (g8:=g8) (u:=oK) (ay:=List.replicate (k+1) 0++q) (j:=k) aZ Mc aT hW rB Ey mU (by omega) (by omega) EC (by simp;omega);rw[hlen] at he;rw[show ((k+1:Nat):Int)-1=k by omega,he];refine .inl ⟨_,rfl,⟨k,V (oK.drop k) / W::q,rfl,by omega,s1,s2.trans hlen,J4 _ _ _,by simp;omega,ct.cons ⟨Wo,Wp⟩ zk,Wn,?_⟩,by simp only;omega⟩;simp only;rw[hV,uq,lR,nJ];grind
theorem RE {a:ar}(h:a.length<=900000):xU a=some a:=by unfold xU;rw[dy (by omega)]
theorem Qa {a b q s:Int}(h:a=q*b+s)(h0:0<=s)(o:s<b):a / b=q/\a % b=s:=by
 subst h;constructor
 ·rw[Int.add_comm,Int.add_mul_ediv_right _ _ (by omega),Int.ediv_eq_zero_of_lt h0 o];omega
 rw[Int.add_comm,Int.add_mul_emod_self_right];exact Int.emod_eq_of_lt h0 o
theorem Sd {a b:ar}(bs:gn a)(aE:gn b)(pY:b≠[])(aZ:a.length<=900000)(hm:b.length<=900000):vH a b=some (L (V a / V b),L (V a % V b)):=by
 have oF:=A4 aE pY;have Bq:=ql bs.1;unfold vH;simp only[jb];rw[ID bs aE (by omega)];simp only[dK,dB];by_cases aJ:V a<V b
 ·rw[dy (by simpa using AK.2 aJ),RE aZ,Int.ediv_eq_zero_of_lt Bq aJ,Int.emod_eq_of_lt Bq aJ,r6,Fb bs];rfl
 rw[dz (fun h=>aJ (AK.1 (by simpa using h)))];obtain⟨k,d,aL,bk,Bx,Vn,Mj⟩:=KD aE pY;by_cases o:b.length=1
 ·have tY:k=0:=(by omega);subst tY;have Vo:V b=d:=(by simpa using Mj);rw[dy (by simp[o]),dy (by omega),bk];simp only[dB];have wU:=Int.emod_nonneg (V a) (b:=d) (by omega);have Ys:=Int.emod_lt_of_pos (V a) Bx;rw[HY bs.1 ⟨Bx,Vn⟩ (by omega)];simp only[dB];rw[yl wU (by omega),Df wU (by omega),Vo];rfl
 have hw:aa ((b.length:Int)-1)=(k:Int):=by rw[cQ (by omega) (by omega)];omega
 have ap:aa (d+1)=d+1:=cQ (by omega) (by omega);have BR:1<=1000000000 / (d+1):=by apply (Int.le_ediv_iff_mul_le (by omega)).2;omega
 have FG:1000000000 / (d+1)<1000000000:=by apply Int.ediv_lt_of_lt_mul (by omega);omega
 have Vp:1000000000 / (d+1)*(d+1)<=1000000000:=Int.ediv_mul_le _ (by omega);have av:aa ((1000000000:Int).tdiv (d+1))=1000000000 / (d+1):=by rw[rN (by omega),cQ (by omega) (by omega)]
 rw[dz (by simp;omega),hw,dy (by omega),dA,bk];simp only[dB,ap,av];generalize 1000000000 / (d+1)=f at *;rw[dy (by omega)];have h5:ct [f]:=ct.cons (by omega) ct.nil;have Vq:V [f]=f:=by simp[V]
 have Vr:a≠[]:=by intro h;subst h;simp[V] at aJ;omega
 obtain⟨kI,uz,Vs,Yt,Vt,BS,Yu⟩:=IE bs.1 h5 Vr (by simp) (by omega) (by simp);obtain⟨zG,g8,Vu,Yv,Vv,FH,Yw⟩:=IE aE.1 h5 pY (by simp) (by omega) (by simp);rw[Vq] at BS FH;rw[Vs];simp only[dB];simp only[List.length_singleton] at Vt Vv;have Yx:=sd k;have Vw:V b*f<B b.length:=by have J:=(rZ aE.1 (k:=k) (by omega)).2;rw[Mj] at J;have an:V b*f<=(B k*(d+1)-1)*f:=Int.mul_le_mul_of_nonneg_right (by omega) (by omega);have aG:(B k*(d+1)-1)*f=B k*(f*(d+1))-f:=(by grind);have aN:B k*(f*(d+1))<=B k*1000000000:=dQ Vp (by omega);rw[aL,nJ];omega
 have Yy:V b<=V b*f:=by have:V b*1<=V b*f:=dQ BR (by omega);omega
 have Yz:V a<=V a*f:=by have:V a*1<=V a*f:=dQ BR (by omega);omega
 have FI:0<=V b*f:=by omega
 have Mk:0<=V a*f:=by omega
 have Ml:zG=b.length:=by have J:(g8.take zG).length=zG:=(by simp;omega);rw[FH] at J;have an:=(se FI (k:=b.length)).2 Vw;have aG:=Bg aE pY;have aN : ¬(L (V b*f)).length<=b.length-1:=fun h=>(by have:=(se FI).1 h;omega);omega
 have Vx:(L (V a*f)).length=kI:=by rw[<- BS];simp;omega
 have Lt:=qx (nM (V a*f));rw[iO Mk,Vx] at Lt;have XV:a.length<=kI:=bs.len.2 (by omega);have YA:b.length<=a.length:=Nat.le_of_not_lt fun h=>by have:=DL bs aE h;omega
 rw[dy (by omega),dy (by simp;omega),Vu];simp only[dB];have uk:(uz.take kI++[0]).length=kI+1:=by simp;omega
 have FJ:CZ a zG [f] g8 (uz.take kI++[0])=some (uz.take kI++[0]):=by unfold CZ;rw[iter];unfold zY;simp only[jb,uk];rw[dz (by simp;omega)];rfl
 rw[FJ];simp only[dB,uk];have kv:aa (((kI+1:Nat):Int)-((zG:Nat):Int))=((kI+1-b.length:Nat):Int):=by rw[cQ (by omega) (by omega)];omega
 rw[kv,dy (by omega),wh (by omega),dA];have K6:ct (uz.take kI++[0]):=by rw[BS];exact(nM _).append (ct.cons (by omega) ct.nil)
 have Mm:V (uz.take kI++[0])=V a*f:=by rw[Az,BS,iO Mk];simp[V]
 have D6:g8.take b.length=L (V b*f):=by rw[<- Ml];exact FH
 have Vy:V (g8.take b.length)=V b*f:=by rw[D6,iO FI]
 obtain⟨cA,uA,ls,sm,XW,XX,XY⟩:=KD (o4 (V b*f)) (fun h=>by have:=yh.1 h;omega);rw[<- D6] at ls sm;have ot:(g8.take b.length).length=b.length:=by simp;omega
 have y3:g8[b.length-1]? = some uA:=by
  rw[dR] at sm;rw[show b.length-1=cA by omega];split at sm
  ·exact sm
  simp at sm
 have T9:V ((uz.take kI++[0]).drop (kI+1-b.length))<V b*f:=by have J:=(rZ K6 (k:=kI+1-b.length) (by omega)).1;rw[Mm] at J;have an:=Bg aE pY;have aG:B kI=B (kI+1-b.length)*B (b.length-1):=(by rw[<- A3];congr 1;omega);rw[aG] at Lt;have aN:B (kI+1-b.length)*V ((uz.take kI++[0]).drop (kI+1-b.length))<B (kI+1-b.length)*B (b.length-1):=(by omega);have:=Int.lt_of_mul_lt_mul_left aN (by have:=sd (kI+1-b.length);omega);omega
 obtain⟨r,ah,ak,bW,bp,bA,bn,cC⟩:=QQ (aC:=[f]) (m:=kI+1-b.length) (by omega) (by omega) (by rw[D6];exact nM _) Vy y3 (by omega) K6 (by omega) (by omega) T9;rw[uk] at ah bW;rw[Ml,ah];simp only[dB];rw[dy (by omega),List.drop_zero,Y0 (by omega),vW ak (by omega)];simp only[dB];have Mn:=ql ak;rw[Mm] at cC;have bN:V r.1=(V a-V r.2*V b)*f:=by grind
 have Vz:0<=V a-V r.2*V b:=by apply Int.not_lt.mp;intro h;have:(V a-V r.2*V b)*f<=(-1)*f:=Int.mul_le_mul_of_nonneg_right (by omega) (by omega);omega
 have BQ:V a-V r.2*V b<V b:=by apply Int.lt_of_mul_lt_mul_right (a:=f) _ (by omega);omega
 obtain⟨aS,a9⟩:=Qa (a:=V a) (b:=V b) (q:=V r.2) (s:=V a-V r.2*V b) (by omega) Vz BQ;rw[dy (by simp)];simp only[List.getElem?_cons_zero,dB];have BH:(L (V r.1)).length<=kI+1:=(se Mn).2 (by have:=qx ak;rwa [bW] at this);rw[HY (nM _) ⟨by omega,FG⟩ (by omega),iO Mn];simp only[dB];rw[vW bA (by omega)];simp only[dB];rw[aS,a9,bN,Int.mul_ediv_cancel _ (by omega)]
def iX (n:Int):br:=⟨decide (n<0),L n.natAbs⟩
def ex (neg:Bool)(a:Int):Int:=if neg then -a else a
structure Fr (p:Int×Int):Prop where
 pos:0<p.2
 VA:Int.gcd p.1 p.2=1
 num:(p.1.natAbs:Int)<B 24
 den:p.2<B 24
theorem RF {n:Int}:(iX n).c2=L n.natAbs:=rfl
theorem RG {n:Int}:(iX n).c5=decide (n<0):=rfl
theorem QR {n:Int}(h:0<=n):decide ((0:Int)<((L n).length:Nat))=decide (0<n):=by
 apply decide_eq_decide.2;by_cases o:0<n
 ·have:(L n)≠[]:=fun J=>(by have:=yh.1 J;omega);have:=Zf.mpr this;omega
 have:n=0:=by omega
 subst this;simp[r6]
theorem Ua {n:Int}(h:0<=n):(((L n).length:Nat):Int)=0↔n=0:=by
 constructor
 ·intro o;have:L n=[]:=List.eq_nil_of_length_eq_zero (by omega);have:=yh.1 this;omega
 rintro rfl;simp[r6]
theorem SQ {neg:Bool}{a:Int}(h:0<=a):((ex neg a).natAbs:Int)=a:=by unfold ex;cases neg<;>simp<;>omega
theorem Se {neg:Bool}{a:Int}(h:0<=a):(⟨neg && decide (0<a),L a⟩:br)=iX (ex neg a):=by
 unfold iX;rw[SQ h];congr 1;unfold ex;cases neg
 ·simp;omega
 simp
theorem qX {neg:Bool}{a:Int}(h:0<=a):lN neg (L a)=some (iX (ex neg a)):=by unfold lN;rw[<- Se h,jb,QR h];cases neg<;>simp
theorem SR {a b:Int}:ex (!(decide (a<0) == decide (b<0))) ((a.natAbs:Int)*(b.natAbs:Int))=a*b:=by
 unfold ex;by_cases bs:a<0
 ·have ap:(a.natAbs:Int) = -a:=by omega
  by_cases aE:b<0
  ·have av:(b.natAbs:Int) = -b:=(by omega);rw[ap,av];simp[bs,aE,Int.neg_mul,Int.mul_neg]
  have av:(b.natAbs:Int)=b:=(by omega);rw[ap,av];simp[bs,aE,Int.neg_mul,Int.mul_neg]
 have ap:(a.natAbs:Int)=a:=by omega
 by_cases aE:b<0
 ·have av:(b.natAbs:Int) = -b:=(by omega);rw[ap,av];simp[bs,aE,Int.neg_mul,Int.mul_neg]
 have av:(b.natAbs:Int)=b:=by omega
 rw[ap,av];simp[bs,aE,Int.neg_mul,Int.mul_neg]
theorem RH {a c:Int}:nR (-c) (-a)=nR a c:=by
 unfold nR;by_cases h:a<c
 ·have : -c < -a:=(by omega);simp[h,this]
 by_cases J:c<a
 ·have an : ¬ -c < -a:=(by omega);have aG : -a < -c:=(by omega);simp[h,J,an,aG]
 have an : ¬ -c < -a:=by omega
 have aG : ¬ -a < -c:=by omega
 simp[h,J,an,aG]
theorem Oq {a c:Int}(bs:(L a.natAbs).length<=5000000)(aJ:(L c.natAbs).length<=5000000):qM (iX a) (iX c)=some (nR a c):=by
 have bN:qM (iX a) (iX c)=if (decide (a<0) == decide (c<0))=true then (if decide (a<0)=true then (px (L c.natAbs) (L a.natAbs)).bind (fun r=>some r) else (px (L a.natAbs) (L c.natAbs)).bind (fun r=>some r)) else if decide (a<0)=true then some (-1) else some 1:=rfl;rw[bN,Pl];by_cases o:a<0
 ·by_cases J:c<0
  ·rw[dy (by simp[o,J]),dy (by simpa using o),D4 (o4 _) (o4 _) aJ,iO (by omega),iO (by omega),show (c.natAbs:Int) = -c by omega,show (a.natAbs:Int) = -a by omega,RH];rfl
  rw[dz (by simp[o,J]),dy (by simpa using o)];unfold nR;rw[dy (by omega)]
 by_cases J:c<0
 ·rw[dz (by simp[o,J]),dz (by simpa using o)];unfold nR;rw[dz (by omega),dy (by omega)]
 rw[dy (by simp[o,J]),dz (by simpa using o),D4 (o4 _) (o4 _) bs,iO (by omega),iO (by omega),show (c.natAbs:Int)=c by omega,show (a.natAbs:Int)=a by omega];rfl
def fits (x:Int):Prop:=x<B 24
noncomputable instance (x:Int):Decidable (fits x):=Classical.propDecidable _
noncomputable def low (n d:Int):Option (Int×Int) :=
 if fits ((n / (Int.gcd n d:Int)).natAbs:Int)/\fits (d / (Int.gcd n d:Int)) then some (n / (Int.gcd n d:Int),d / (Int.gcd n d:Int)) else none
theorem QS {a b:Int}(bs:(L a.natAbs).length<=900000)(aE:(L b.natAbs).length<=900000):n5 (iX a) (iX b)=some (iX (a*b)):=by unfold n5;simp only[RF,RG];rw[RB (nM _) (nM _) (by omega) (by omega),iO (by omega),iO (by omega)];simp only[dK,dB];rw[qX (Int.mul_nonneg (by omega) (by omega)),SR];rfl
theorem Qb {n:Int}(h:wu n):m6 n=some (iX n):=by
 obtain⟨o,J⟩:=qZ.1 h;unfold m6;by_cases aZ:n<0
 ·rw[dy (by simpa using aZ),cQ (x:=n+1) (by omega) (by omega),cQ (x:=0-(n+1)) (by omega) (by omega),yl (x:=0-(n+1)) (by omega) (by omega),yl (by omega) (by omega),Df (by omega) (by omega)];simp only[dK,dB];rw[qX (by omega)];simp only[dB];congr 2;unfold ex;simp;omega
 rw[dz (by simpa using aZ),yl (by omega) (by omega),Df (by omega) (by omega)];simp only[dK,dB];rw[qX (by omega)];simp only[dB];congr 2
theorem Dm:maxLen=9223372036854775807:=by decide
def oX (dk:Zj)(m:bu):Bool :=
 decide (0<=m.gp/\m.gp<dk.length/\0<=m.gq/\m.gq<dk.length/\1<=m.hM/\m.hM<=3) &&
 match dk[m.gp.toNat]?,dk[m.gq.toNat]? with
 | some a,some b=> !(a.kG == b.kG && a.kH == b.kH) && !(a.mP && b.mP)
 | _,_=>false
theorem PI (s:cj)(m:bu):xf s m=some (oX s.b5 m):=by
 unfold xf oX;simp only[h2];by_cases o:m.gp<0
 ·simp[o];omega
 by_cases J:(s.b5.length:Int)<=m.gp
 ·simp[o,J];omega
 by_cases an:m.gq<0
 ·simp[o,J,an];omega
 by_cases aG:(s.b5.length:Int)<=m.gq
 ·simp[o,J,an,aG];omega
 by_cases aN:m.hM<1
 ·simp[o,J,an,aG,aN];omega
 by_cases bJ:3<m.hM
 ·simp[o,J,an,aG,aN,bJ];omega
 obtain⟨x,U⟩ : ∃x,s.b5[m.gp.toNat]? = some x:=⟨_,dw (by omega)⟩;obtain⟨y,aK⟩ : ∃y,s.b5[m.gq.toNat]? = some y:=⟨_,dw (by omega)⟩;have bG:0<=m.gp/\m.gp<s.b5.length:=by omega
 have cq:0<=m.gq/\m.gq<s.b5.length:=by omega
 have l8:0<=m.gp/\m.gp<s.b5.length/\0<=m.gq/\m.gq<s.b5.length/\1<=m.hM/\m.hM<=3:=by omega
 rw[decide_eq_false o,decide_eq_false J,decide_eq_false an,decide_eq_false aG,decide_eq_false aN,decide_eq_false bJ,decide_eq_true l8,dy bG,U];simp only[Zd,if_false,dK,dB,Bool.true_and];rw[dy cq,aK];simp only[dB];by_cases ap:x.kG=y.kG<;>by_cases av:x.kH=y.kH<;>by_cases BR:x.mP=true<;>by_cases FG:y.mP=true<;>simp[ap,av,BR,FG]
def mD (s:cj):Prop:=(∀(n:Nat) j,s.b5[n]? = some j-> -50<=j.kG/\j.kG<=50/\ -50<=j.kH/\j.kH<=50)/\(∀(n:Nat) m,s.bm[n]? = some m->oX s.b5 m=true)/\s.b5.length<=6/\s.bm.length<=8
theorem Sf (s:cj)(h:mD s)(k:Int)(h0:0<=k)(o:k<s.bm.length):
 ∃x y,qe s k=some (x,y)/\(-100<=x/\x<=100)/\(-100<=y/\y<=100):=by
 obtain⟨f1,f2,f3,f4⟩:=h;obtain⟨m,hm⟩ : ∃x,s.bm[k.toNat]? = some x:=⟨_,dw (by omega)⟩;have FK:=f2 _ m hm;unfold oX at FK;simp only[YX,decide_eq_true_eq] at FK;obtain⟨⟨g1,g2,g3,g4,-⟩,-⟩:=FK;obtain⟨a,bs⟩ : ∃x,s.b5[m.gp.toNat]? = some x:=⟨_,dw (by omega)⟩;obtain⟨b,aE⟩ : ∃x,s.b5[m.gq.toNat]? = some x:=⟨_,dw (by omega)⟩;have YT:=f1 _ a bs;have YU:=f1 _ b aE;have ap:aa (b.kG-a.kG)=b.kG-a.kG:=cQ (by omega) (by omega);have av:aa (b.kH-a.kH)=b.kH-a.kH:=cQ (by omega) (by omega);have cV:0<=k/\k<s.bm.length:=⟨h0,o⟩;have bG:0<=m.gp/\m.gp<s.b5.length:=⟨g1,g2⟩;have cq:0<=m.gq/\m.gq<s.b5.length:=⟨g3,g4⟩;refine⟨b.kG-a.kG,b.kH-a.kH,?_,by omega,by omega⟩;unfold qe;simp only[dy cV,hm,dy bG,dy cq,bs,aE,dK,dB,ap,av]
def sK (l:ar)(n:Nat)(x:Int):Prop:=0<=x/\x<1000000000/\(∀z,l[n]? = some z->x=z)/\(l[n]? = none->x=0)
theorem A6 {l:ar}(h:ct l){n:Nat}(aZ:n<l.length):sK l n l[n]:=by have U:=dw aZ;have h0:=h.get U;exact⟨h0.1,h0.2,fun z bY=>by rw[U] at bY;exact dH bY,fun h=>by rw[U] at h;simp at h⟩
theorem KF {l:ar}{n:Nat}(aZ:¬n<l.length):sK l n 0:=by
 have U:l[n]? = none:=by simp;omega
 exact⟨by omega,by omega,fun z bY=>by rw[U] at bY;simp at bY,fun _=>rfl⟩
theorem sK.take {l:ar}{n:Nat}{x:Int}(h:sK l n x):V (l.take (n+1))=V (l.take n)+B n*x:=RC h.2.2.1 h.2.2.2
theorem QT {a b row:ar}{carry:Int}{n:Nat}(bs:ct a)(aE:ct b)(aJ:carry=0\/carry=1)(rq:a.length<=1000000)(aZ:n<a.length)(ah:n<row.length):
 ∃x y,sK a n x/\sK b n y/\vl a b a.length carry n row=some (.inl ((carry+x+y) / 1000000000,((n+1:Nat):Int),row.set n ((carry+x+y) % 1000000000))):=by
 have lq:0<=carry/\carry<=1:=by omega
 have hA:=A6 bs aZ;have U:=dw aZ;have gX:=hA.1;have i4:=hA.2.1;unfold vl;simp only[jb];rw[dy (by simp;omega),dy (by omega),dA,U];simp only[dK,dB];by_cases J:n<b.length
 ·have gN:=A6 aE J;have aK:=dw J;have gg:=gN.1;have hx:=gN.2.1;refine⟨a[n],b[n],hA,gN,?_⟩;rw[dy (by simp;omega),dy (by omega),aK];simp only[dB];rw[dy (by omega),dy (by omega),cQ (x:=a[n]+carry) (by omega) (by omega),cQ (x:=a[n]+carry+b[n]) (by omega) (by omega),ux (by omega),rN (by omega),cQ (by omega) (by omega),pK (n:=n) (by omega),dG,Int.add_comm a[n] carry]
 refine⟨a[n],0,hA,KF J,?_⟩;rw[dz (by simp;omega),dy (by omega),dy (by omega),cQ (x:=a[n]+carry) (by omega) (by omega),ux (by omega),rN (by omega),cQ (by omega) (by omega),pK (n:=n) (by omega),dG,Int.add_zero,Int.add_comm a[n] carry]
theorem QU {a b:ar}(bs:ct a)(aE:ct b)(rq:a.length<=900000)(qE:b.length<=a.length):
 ∃r,Aa a b a.length 0 0 (List.replicate (a.length+1) 0)=some r/\(r.1=0\/r.1=1)/\ct r.2/\r.2.length=a.length+1/\V r.2+r.1*B a.length=V a+V b/\r.2[a.length]? = some 0:=by
 refine mc (ef:=fun w:Int×Int×ar=> ∃n:Nat,w.2.1=n/\n<=a.length/\(w.1=0\/w.1=1)/\ct w.2.2/\w.2.2.length=a.length+1/\V w.2.2+w.1*B n=V (a.take n)+V (b.take n)/\ ∀j,n<=j->j<a.length+1->w.2.2[j]? = some 0) (m:=fun w=>a.length-w.2.1.toNat) _ ?_ _ ⟨0,rfl,by omega,.inl rfl,ct.Fa _,by simp,by simp[V,Ec],fun j _ h=>by simp[List.getElem?_replicate];omega⟩;rintro⟨carry,ii,row⟩ ⟨n,ap,av,bS,dj,eh,e6,fg⟩;simp only at ap bS dj eh e6 fg ⊢;subst ap;by_cases aZ:n=a.length
 ·subst aZ;refine .inr ⟨(carry,row),by simp[vl],bS,dj,eh,?_,fg _ (dF _) (by omega)⟩;rw[List.take_length,Y0 qE] at e6;exact e6
 obtain⟨x,y,U,aK,o9⟩:=QT (row:=row) (n:=n) bs aE bS (by omega) (by omega) (by omega);have x0:=U.1;have fr:=U.2.1;have Wq:=aK.1;have kj:=aK.2.1;refine .inl ⟨_,o9,⟨n+1,rfl,by omega,by simp only;omega,dj.set (by omega),by simpa using eh,?_,fun j o J=> ?_⟩,by simp only;omega⟩
 ·simp only;rw[qv (fg n (dF _) (by omega)),nJ,U.take,aK.take];have:=Int.mul_ediv_add_emod (carry+x+y) 1000000000;generalize (carry+x+y) / 1000000000=u at *;generalize (carry+x+y) % 1000000000=t at *;have b3:t=carry+x+y-1000000000*u:=(by omega);rw[b3];grind
 simp only;rw[List.getElem?_set_ne (by omega)];exact fg j (by omega) J
theorem I7 {a b:ar}(bs:ct a)(aE:ct b)(rq:a.length<=900000)(qE:b.length<=a.length):
 (if 0<=(aa ((len_ R a)+(1:Int)))/\(8:Int)*(aa ((len_ R a)+(1:Int)))<=281474976710656/\(aa ((len_ R a)+(1:Int)))<9223372036854775808 then
   (Aa a b (len_ R a) 0 0 (List.replicate (aa ((len_ R a)+(1:Int))).toNat 0:ar)).bind fun bp =>
   if 0<=(len_ R a)/\(len_ R a)<(bp.2.length:Nat) then
   if (0+(len_ R a).toNat)<bp.2.length then
   (oS (bp.2.set (0+(len_ R a).toNat) bp.1)).bind fun cd=>some cd
   else none
   else none
   else none)=some (L (V a+V b)):=by
 obtain⟨r,ah,o,J,an,aG,aN⟩:=QU bs aE rq qE;rw[jb,pK (by omega),dy (by omega),dA,ah,dB,dy (by omega),dA,dG,dy (by omega)];have Ub:ct (r.2.set a.length r.1):=J.set (by omega);rw[vW Ub (by simp;omega),qv aN,dB];congr 2;rw[<- aG];grind
theorem Sg {a b:ar}(bs:ct a)(aE:ct b)(rq:a.length<=900000)(VB:b.length<=900000):vG a b=some (L (V a+V b)):=by
 unfold vG;by_cases h:a.length<b.length
 ·rw[dy (by rw[jb,jb];simpa using h)];have:=I7 aE bs VB (by omega);rw[Int.add_comm (V a)];exact this
 rw[dz (by rw[jb,jb];simpa using h)];exact I7 bs aE rq (by omega)
theorem Qc {a b row:ar}{less:Int}{n:Nat}(bs:ct a)(aE:ct b)(aw:less=0\/less=1)(rq:a.length<=1000000)(aZ:n<a.length)(ah:n<row.length):
 ∃x y,sK a n x/\sK b n y/\vi b a a.length less n row=some (.inl (if x-less-y<0 then (1,((n+1:Nat):Int),row.set n (x-less-y+1000000000)) else (0,((n+1:Nat):Int),row.set n (x-less-y)))):=by
 have lq:0<=less/\less<=1:=by omega
 have hA:=A6 bs aZ;have U:=dw aZ;have gX:=hA.1;have i4:=hA.2.1;unfold vi;simp only[jb];rw[dy (by simp;omega),dy (by omega),dA,U];simp only[dK,dB];by_cases J:n<b.length
 ·have gN:=A6 aE J
  have aK:=dw J;have gg:=gN.1;have hx:=gN.2.1;refine⟨a[n],b[n],hA,gN,?_⟩;rw[dy (by simp;omega),dy (by omega),aK];simp only[dB];rw[cQ (x:=a[n]-less) (by omega) (by omega),cQ (x:=a[n]-less-b[n]) (by omega) (by omega),pK (n:=n) (by omega),cQ (x:=a[n]-less-b[n]+1000000000) (by omega) (by omega),dG];by_cases h:a[n]-less-b[n]<0
  ·rw[dy (by simpa using h),dy h,dy (by omega),dy (by omega)]
  rw[dz (by simpa using h),dz h,dy (by omega),dy (by omega)]
 refine⟨a[n],0,hA,KF J,?_⟩;rw[dz (by simp;omega),cQ (x:=a[n]-less) (by omega) (by omega),pK (n:=n) (by omega),cQ (x:=a[n]-less+1000000000) (by omega) (by omega),dG,Int.sub_zero];by_cases h:a[n]-less<0
 ·rw[dy (by simpa using h),dy h,dy (by omega),dy (by omega)]
 rw[dz (by simpa using h),dz h,dy (by omega),dy (by omega)]
theorem Jz {a b:ar}(bs:ct a)(aE:ct b)(hlen:b.length<=a.length)(qE:V b<=V a)(rq:a.length<=900000):rY a b=some (L (V a-V b)):=by
 have : ∃r,HR b a a.length 0 0 (List.replicate a.length 0)=some r/\ct r/\r.length=a.length/\V r=V a-V b:=by
  refine mc (ef:=fun w:Int×Int×ar=> ∃n:Nat,w.2.1=n/\n<=a.length/\(w.1=0\/w.1=1)/\ct w.2.2/\w.2.2.length=a.length/\V w.2.2-w.1*B n=V (a.take n)-V (b.take n)/\ ∀j,n<=j->j<a.length->w.2.2[j]? = some 0) (m:=fun w=>a.length-w.2.1.toNat) _ ?_ _ ⟨0,rfl,by omega,.inl rfl,ct.Fa _,by simp,by simp[V,Ec],fun j _ h=>by simp[List.getElem?_replicate];omega⟩;rintro⟨less,ii,row⟩ ⟨n,ap,av,bS,dj,eh,e6,fg⟩;simp only at ap bS dj eh e6 fg ⊢;subst ap;by_cases aZ:n=a.length
  ·subst aZ;refine .inr ⟨row,by simp[vi],dj,eh,?_⟩;rw[List.take_length,Y0 hlen] at e6;have J:=qx dj;rw[eh] at J;rcases bS with rfl|rfl<;>omega
  obtain⟨x,y,U,aK,o9⟩:=Qc (row:=row) (n:=n) bs aE bS (by omega) (by omega) (by omega);have x0:=U.1;have fr:=U.2.1;have Wq:=aK.1;have kj:=aK.2.1;rw[o9];refine .inl ⟨_,rfl,?_⟩;by_cases h:x-less-y<0
  ·rw[dy h]
   refine⟨⟨n+1,rfl,by omega,.inr rfl,dj.set (by omega),by simpa using eh,?_,fun j o J=> ?_⟩,by simp only;omega⟩
   ·simp only;rw[qv (fg n (dF _) (by omega)),nJ,U.take,aK.take];grind
   simp only;rw[List.getElem?_set_ne (by omega)];exact fg j (by omega) J
  rw[dz h];refine⟨⟨n+1,rfl,by omega,.inl rfl,dj.set (by omega),by simpa using eh,?_,fun j o J=> ?_⟩,by simp only;omega⟩
  ·simp only;rw[qv (fg n (dF _) (by omega)),U.take,aK.take];grind
  simp only;rw[List.getElem?_set_ne (by omega)];exact fg j (by omega) J
 obtain⟨r,ah,o,J,an⟩:=this;unfold rY;simp only[jb];rw[dy (by omega),dA,ah];simp only[dK,dB];rw[vW o (by omega),an];rfl
theorem SS {a b:Int}(h:decide (a<0)=decide (b<0)):ex (decide (a<0)) ((a.natAbs:Int)+(b.natAbs:Int))=a+b:=by
 have bR:a<0↔b<0:=by simpa using h
 unfold ex;by_cases o:a<0
 ·have:=bR.1 o;simp only[o,decide_true,if_true];omega
 have : ¬b<0:=fun aE=>o (bR.2 aE);simp only[o,decide_false,Zd,if_false];omega
theorem J6 {a b:Int}(h:¬decide (a<0)=decide (b<0)):ex (decide (a<0)) ((a.natAbs:Int)-(b.natAbs:Int))=a+b/\ex (decide (b<0)) ((b.natAbs:Int)-(a.natAbs:Int))=a+b:=by
 have bR : ¬(a<0↔b<0):=by simpa using h
 unfold ex;by_cases o:a<0
 ·have J : ¬b<0:=fun aE=>bR ⟨fun _=>aE,fun _=>o⟩;simp only[o,J,decide_true,if_true,decide_false,Zd,if_false];omega
 have J:b<0:=by apply Classical.byContradiction;intro aE;exact bR ⟨fun h=>absurd h o,fun h=>absurd h aE⟩
 simp only[o,J,decide_true,if_true,decide_false,Zd,if_false];omega
theorem JA {x y:Int}(U:0<=x)(Fc:x<=y):(L x).length<=(L y).length:=by apply (se U).2;have:=qx (nM y);rw[iO (by omega)] at this;omega
theorem RI {a b:Int}(bs:(a.natAbs:Int)<B 50)(aE:(b.natAbs:Int)<B 50):vn (iX a) (iX b)=some (iX (a+b)):=by
 have zH:=(se (k:=50) (n:=a.natAbs) (by omega)).2 bs;have B8:=(se (k:=50) (n:=b.natAbs) (by omega)).2 aE;have bN:vn (iX a) (iX b)=((px (L a.natAbs) (L b.natAbs)).bind fun ak=>if (decide (a<0) == decide (b<0))=true then (vG (L a.natAbs) (L b.natAbs)).bind fun bW=>(lN (decide (a<0)) bW).bind fun bA=>some bA else if (decide ((0:Int)<=ak))=true then (rY (L a.natAbs) (L b.natAbs)).bind fun bn=>(lN (decide (a<0)) bn).bind fun cd=>some cd else (rY (L b.natAbs) (L a.natAbs)).bind fun bn=>(lN (decide (b<0)) bn).bind fun cd=>some cd):=rfl;rw[bN,ID (o4 _) (o4 _) (by omega),iO (by omega),iO (by omega),dB];by_cases h:decide (a<0)=decide (b<0)
 ·rw[dy (by simpa using h),Sg (nM _) (nM _) (by omega) (by omega),iO (by omega),iO (by omega),dB,qX (by omega),SS h];rfl
 rw[dz (by simpa using h)];by_cases aJ:(b.natAbs:Int)<=a.natAbs
 ·have FL:0<=nR (a.natAbs:Int) b.natAbs:=by
   apply Int.not_lt.mp;intro o;have:=AK.1 o;omega
  rw[dy (by simpa using FL),Jz (nM _) (nM _) (JA (by omega) aJ) (by rw[iO (by omega),iO (by omega)];exact aJ) (by omega),iO (by omega),iO (by omega),dB,qX (by omega),(J6 h).1];rfl
 have FL : ¬0<=nR (a.natAbs:Int) b.natAbs:=by have:=AK.2 (show (a.natAbs:Int)<b.natAbs by omega);omega
 rw[dz (by simpa using FL),Jz (nM _) (nM _) (JA (by omega) (by omega)) (by rw[iO (by omega),iO (by omega)];omega) (by omega),iO (by omega),iO (by omega),dB,qX (by omega),(J6 h).2];rfl
theorem KG {b:Int}:ex (!(decide (b<0))) (b.natAbs:Int) = -b:=by
 unfold ex;by_cases h:b<0
 ·simp only[h,decide_true,Bool.not_true,Zd,if_false];omega
 simp only[h,decide_false,Bool.not_false,if_true];omega
theorem QV {a b:Int}(bs:(a.natAbs:Int)<B 50)(aE:(b.natAbs:Int)<B 50):sV (iX a) (iX b)=some (iX (a-b)):=by have bN:sV (iX a) (iX b)=(((lN (!(decide (b<0))) (L b.natAbs)).bind fun r=>some r).bind fun ak=>(vn (iX a) ak).bind fun bp=>some bp):=rfl;rw[bN,qX (by omega),KG,dB,dB,RI bs (by omega),dB,Int.sub_eq_add_neg]
theorem Fr.neg {q:Int×Int}(h:Fr q):Fr (-q.1,q.2):=⟨h.pos,by simp only;rw[Int.neg_gcd];exact h.VA,by simp only;have:=h.num;omega,h.den⟩
def q5 (n:Int):Bool:=decide (-100<=n/\n<=100)
def wi (Ce:Nat)(l:ar):Bool:=decide (l.length=2*Ce) && l.all q5
theorem Qd (n:Int):xt n=some (q5 n):=by unfold xt q5;by_cases h : -100<=n<;>simp[h]
theorem Ie (s:cj)(Ge:s.b5.length<=6)(l:ar)(aw:l.length<=maxLen):vv s l=some (wi s.b5.length l):=by
 have hm:=Dm;have hw:aa (2*((s.b5.length:Nat):Int))=2*((s.b5.length:Nat):Int):=cQ (by omega) (by omega);unfold vv zL zO wi;simp only[h2,hw,dK];obtain⟨r,o,J⟩:=Qz (f:=fun w=>uI l (l.length:Nat) w) l (fun n=> !q5 n) (fun n x U=>by have c0:=eV U;unfold uI z0;have c:(n:Int)<(l.length:Int):=(by omega);have cX:0<=(n:Int)/\(n:Int)<(l.length:Int):=(by omega);simp only[decide_eq_true c,if_true,dy cX,dA,U,dK,dB,Qd];rw[nA (by omega)];cases q5 x<;>rfl) (by simp[uI]);have wE:GH l (l.length:Nat) 0=some r:=o;rw[wE];have Uc:(l.any fun n=> !q5 n) = !l.all q5:=by rw[List.not_all_eq_any_not]
 rw[Uc] at J;by_cases e:l.length=2*s.b5.length
 ·have c:((l.length:Int) == 2*(s.b5.length:Int))=true:=by simp;omega
  rw[c];rcases J with ⟨k,rfl,aL,bs⟩|⟨rfl,bs⟩
  ·simp only[Bool.not_eq_true'] at bs;simp[e,bs,aL]
  simp only[Bool.not_eq_false'] at bs;simp[e,bs]
 have c:((l.length:Int) == 2*(s.b5.length:Int))=false:=by simp;omega
 rw[c];simp[e]
theorem pw {i:Int}{a:Nat}(h0:0<=i)(o:i<=100)(bs:a<=1):aa (aa (2*i)+(a:Int))=(((2*i+a).toNat:Nat):Int):=by rw[cQ (x:=2*i) (by omega) (by omega),cQ (by omega) (by omega)];omega
def FM (P:Zq):cr->Prop
 | none=>True
 | some (k,c)=> ∃x,P[k]? = some x/\x.length=c/\c<=1048576
theorem FM.set {P:Zq}{k:Nat}{x y:ar}(U:P[k]? = some x)(aK:y.length=x.length){h:cr}(eP:FM P h):FM (P.set k y) h:=by
 cases h with
 | none=>trivial
 | some p =>
  obtain⟨j,c⟩:=p;obtain⟨z,o,J,an⟩:=eP;by_cases ao:k=j
  ·subst ao;rw[U] at o;obtain rfl:=dH o;exact⟨y,by rw[YZ,dy rfl,dy (eV U)],by omega,an⟩
  exact⟨z,by rw[YZ,dz ao];exact o,J,an⟩
def jB:Zj->Nat->List Nat
 | [],_=>[]
 | x::l,n=>if x.mP then jB l (n+1) else n::jB l (n+1)
theorem DB : ∀(l:Zj) (n i:Nat),i∈jB l n->n<=i/\i<n+l.length
 | [],n,i,h=>by simp[jB] at h
 | x::l,n,i,h=>by
  rw[jB] at h;simp only[dM];split at h
  ·have:=DB l (n+1) i h;omega
  rcases YW.1 h with h|h
  ·omega
  have:=DB l (n+1) i h;omega
theorem JB : ∀(l:Zj) (n:Nat),(jB l n).length<=l.length
 | [],n=>by simp[jB]
 | x::l,n=>by rw[jB];have:=JB l (n+1);split<;>simp only[dM]<;>omega
theorem Qe {l:Zj}{n:Nat}{x:a6}(h:l[n]? = some x)(m:Nat):jB (l.drop n) m=if x.mP then jB (l.drop (n+1)) (m+1) else m::jB (l.drop (n+1)) (m+1):=by rw[Ju h,jB]
theorem QW {f:Int×ar->Option ((Int×ar)⊕ar)}(dk:Zj)(Ge:dk.length<=1000)
 (h : ∀(n:Nat) acc x,dk[n]? = some x->f ((n:Int),acc)=if x.mP=true then some (.inl (aa ((n:Int)+1),acc)) else if (acc++[(n:Int)]).length*8<=140737488355328 then some (.inl (aa ((n:Int)+1),acc++[(n:Int)])) else none)
 (he : ∀acc,f ((dk.length:Int),acc)=some (.inr acc)):iter f ((0:Int),[])=some ((jB dk 0).map (fun n:Nat=>(n:Int))):=by
 obtain⟨s,o,J⟩:=jq (fun (n:Nat) (acc:ar)=>((n:Int),acc)) dk.length (fun n acc=>acc++(jB (dk.drop n) n).map (fun n:Nat=>(n:Int))=(jB dk 0).map (fun n:Nat=>(n:Int))/\acc.length<=n) (fun acc=>acc) (f:=f) (fun n aZ acc cE=>by
  obtain⟨cE,aw⟩:=cE;have U:=dw aZ;rw[Qe U] at cE;rw[h n acc _ U,pK (by omega)];by_cases c:dk[n].mP=true
  ·rw[dy c] at cE ⊢;exact⟨_,rfl,cE,by omega⟩
  rw[dz c] at cE ⊢;rw[dy (by simp only[dE,dM,Za];omega)];refine⟨_,rfl,?_,by simp only[dE,dM,Za];omega⟩;rw[List.append_assoc];exact cE) (fun acc _=>he acc) [] ⟨by rw[List.drop_zero];rfl,by simp⟩
 obtain⟨J,-⟩:=J;rw[List.drop_length] at J;simp only[jB,List.map_nil,List.append_nil] at J;subst J;exact o
theorem HT (s:cj)(Ge:s.b5.length<=1000):uW s=some ((jB s.b5 0).map (fun n:Nat=>(n:Int))):=by
 unfold uW GJ
 rw[h2,QW s.b5 Ge (fun n acc x U=>by
  have aZ:=eV U;unfold xa;exact eS (dh (aM (gt rfl U) rfl))) (fun acc=>by
  unfold xa;exact f8 rfl)]
 rfl
def hlen:cr->Nat
 | none=>0
 | some (_,c)=>c
def Gf (x:Rat):Int×Int:=(x.num,(x.den:Int))
def mu (x:Rat):Prop:=(x.num.natAbs:Int)<B 24/\(x.den:Int)<B 24
instance Xk (x:Rat):Decidable (mu x):=by unfold mu;infer_instance
theorem mu.dW {x:Rat}(h:mu x):Fr (Gf x):=⟨by have:=x.den_pos;simp only[Gf];omega,by simp only[Gf];rw[Int.gcd,Int.natAbs_natCast];exact x.reduced,h.1,h.2⟩
theorem mu.neg {x:Rat}(h:mu x):mu (-x):=by unfold mu at h ⊢;rw[Rat.neg_num,Rat.neg_den,Int.natAbs_neg];exact h
def kB (x:Rat):Int:=if x=0 then 0 else if x<0 then -1 else 1
theorem RJ {n d:Int}{x:Rat}(h0:d≠0)(e:(d:Rat)*x=n)(aZ:(n.natAbs:Int)<B 24)(bk:(d.natAbs:Int)<B 24):mu x:=by
 have sm:(d:Rat)≠0:=fun c=>h0 (Rat.intCast_inj.1 (by rw[c];rfl));have U:x=Rat.divInt n d:=by rw[Rat.divInt_eq_div,<- e];grind
 rw[U];unfold mu;rw[Rat.num_divInt,Rat.den_divInt,dz h0];constructor
 ·have o:(d.sign*n / (d.gcd n:Int)).natAbs<=(d.sign*n).natAbs:=Int.natAbs_ediv_le_natAbs _ _;have J:(d.sign*n).natAbs<=n.natAbs:=(by rw[Int.natAbs_mul];have:d.sign.natAbs<=1:=(by rw[Int.natAbs_sign];split<;>omega);exact Nat.le_trans (Y5 _ this) (by omega));omega
 have:d.natAbs / d.gcd n<=d.natAbs:=Nat.div_le_self _ _;omega
theorem xN {x:Rat}:kB x=0↔x=0:=by
 unfold kB;split
 ·simp_all
 split<;>simp_all
theorem r4 {x:Rat}:0<kB x↔0<x:=by
 unfold kB;split
 ·rename_i h;rw[h];simp
 split
 ·rename_i o J;constructor
  ·intro h;omega
  intro h;grind
 rename_i o J;constructor
 ·intro h;grind
 intro h;omega
def ed (m:Nat)(t:b1):ar:=bl m fun i=>((t.B i:Nat):Int)
theorem JC {x y z w:Rat}(aK:0<y)(hw:0<w):(x / y<=z / w↔x*w<=z*y)/\(x / y=z / w↔x*w=z*y):=by
 have ap:x*w=(x / y)*(y*w):=by grind
 have av:z*y=(z / w)*(y*w):=by grind
 have af:0<y*w:=Rat.mul_pos aK hw;constructor
 ·rw[ap,av]
  constructor
  ·intro h;exact Rat.mul_le_mul_of_nonneg_right h (Rat.le_of_lt af)
  intro h;apply Classical.byContradiction;intro c;have:z / w<x / y:=(by grind);have:=Rat.mul_lt_mul_of_pos_right this af;grind
 rw[ap,av];constructor
 ·intro h;rw[h]
 intro h;have cc:y*w≠0:=by grind
 grind
def J7 (m N:Nat)(t:b1)(j:Nat)(r:Int):Prop :=
 (r = -1/\ ∀i,i<m-> ¬0<t.T i j)\/ ∃b:Nat,r=b/\b<m/\0<t.T b j/\(∀i,i<m->0<t.T i j->t.T b N*t.T i j<=t.T i N*t.T b j)/\(∀i,i<m->0<t.T i j->t.T b N*t.T i j=t.T i N*t.T b j->t.B b<=t.B i)
structure pk (p:nG) (m n:Nat) (a:Nat->Nat->Int) (b:Nat->Int):Prop where
 rows:p.lT=m
 hd:p.j6=n
 lI:p.gp.length=m*n
 ED : ∀i,i<m-> ∀j,j<n->p.gp[i*n+j]? = some (a i j)
 MO:p.gq.length=m
 Lu : ∀i,i<m->p.gq[i]? = some (b i)
 hm:m<=20
 aZ:n<=40
 zH : ∀i,i<m-> ∀j,j<n-> -100<=a i j/\a i j<=100
 B8 : ∀i,i<m-> -100<=b i/\b i<=100
theorem ym {p:nG}{m n:Nat}{a:Nat->Nat->Int}{b:Nat->Int}(h:pk p m n a b){i:Nat}(ad:i<m)(j:Nat): -100<=mG m n a b i j/\mG m n a b i j<=100:=by
 have aE:=h.B8 i ad;unfold mG kz;by_cases c:j<n
 ·have bs:=h.zH i ad j c;rw[dy c];split<;>omega
 rw[dz c];split
 ·split<;>omega
 split<;>omega
theorem Tx {p:nG}{m n:Nat}{a:Nat->Nat->Int}{b:Nat->Int}(h:pk p m n a b){i:Nat}(ad:i<m)(j:Nat):d2 100 (dg m n a b i j) :=
 ⟨mG m n a b i j,rfl,by have:=ym h ad j;omega⟩
theorem Eg {K:Nat}{d x y:Rat}(bk:d2 K d)(aK:d2 K y)(h0:d≠0)(e:d*x=y)(gG:(K:Int)<B 24):mu x:=by obtain⟨z,rfl,bY⟩:=bk;obtain⟨w,rfl,hw⟩:=aK;exact RJ (n:=w) (d:=z) (fun c=>h0 (by rw[c];rfl)) e (by omega) (by omega)
@[irreducible] def fB:Nat:=ph 100 20
theorem Eh:ph 100 20=fB:=by unfold fB;rfl
theorem SU:((21*100*(fB*fB):Nat):Int)<B 24:=by decide +kernel
theorem pE:0<fB:=by decide +kernel
structure lV (m N:Nat) (A:Nat->Nat->Rat) (t:b1):Prop where
 ok:e4 m m N A t
 kF:t.jP m N
 rO:t.D m A≠0
structure Small (m N:Nat) (A:Nat->Nat->Rat):Prop where
 hm:m<=20
 sL : ∀c,c<m-> ∀j,j<=N->d2 100 (A c j)
theorem lV.Mo {m N:Nat}{A:Nat->Nat->Rat}(s:Small m N A){t:b1}(h:lV m N A t):d2 fB (t.D m A):=by refine d2.mono (AS fun i ad c aJ=>s.sL c aJ _ (Nat.le_of_lt (h.ok.jU i ad))) (Eh▸AA (by omega) s.hm)
theorem lV.BT {m N:Nat}{A:Nat->Nat->Rat}(s:Small m N A){t:b1}(h:lV m N A t){i j:Nat}(ad:i<m)(ao:j<=N):d2 fB (t.T i j*t.D m A):=by
 rw[<- h.ok.w2 ad ao];refine d2.mono (AS fun k aL c aJ=> ?_) (Eh▸AA (by omega) s.hm);simp only[fe];split
 ·exact s.sL c aJ j ao
 exact s.sL c aJ _ (Nat.le_of_lt (h.ok.jU k aL))
theorem Ei {k:Nat}(h:k<=21*100*(fB*fB)):((k:Nat):Int)<B 24:=by have:=SU;omega
theorem Lv:fB<=21*100*(fB*fB):=by have o:fB*1<=fB*fB:=Nat.mul_le_mul_left _ pE;omega
theorem lV.Ud {m N:Nat}{A:Nat->Nat->Rat}(s:Small m N A){t:b1}(h:lV m N A t){i j:Nat}(ad:i<m)(ao:j<=N):mu (t.T i j) :=
 Eg (h.Mo s) (h.BT s ad ao) h.rO (by grind) (Ei Lv)
theorem lV.Ue {m N:Nat}{A:Nat->Nat->Rat}(s:Small m N A){t:b1}(h:lV m N A t){i j:Nat}(ad:i<m)(ao:j<=N)(af:0<t.T i j):mu (t.T i N / t.T i j) :=
 Eg (h.BT s ad ao) (h.BT s ad (dF _)) (fun c=>by have o:=h.rO;have:t.T i j≠0:=(by grind);grind) (by grind) (Ei Lv)
theorem lV.fU {m N K:Nat}{A obj:Nat->Nat->Rat}{bw:Nat->Prop}{t:b1}(h:lV m N A t){r k:Nat}(b:nN m N K obj bw t r k):lV m N A (t.ch r k) :=
 ⟨b.ok h.ok,b.yH h.kF,by rw[h.ok.yj b.ah b.bN];have o:=b.pos;have J:=h.rO;intro c;have:t.T r k≠0:=(by grind);grind⟩
theorem Uf {g:Nat->Rat}:gr 1 g↔0<g 0:=by
 constructor
 ·rintro⟨l,o,J,-⟩;rw[show l=0 by omega] at J;exact J
 intro h;exact⟨0,by omega,h,fun ff aw=>by omega⟩
theorem QX {p:nG}{m n:Nat}{a:Nat->Nat->Int}{b:Nat->Int}(h:pk p m n a b):Small m (n+m) (dg m n a b):=⟨h.hm,fun c aJ j _=>Tx h aJ j⟩
def bB (x:Rat):br:=iX x.num
@[irreducible] def i6:Nat:=1000000000 ^ 40
theorem Lw:((i6:Nat):Int)+((i6:Nat):Int)<B 50:=by decide +kernel
theorem SV {K:Nat}{x:Rat}(h:d2 K x):((x.num:Int):Rat)=x/\x.num.natAbs<=K:=by obtain⟨z,rfl,bY⟩:=h;rw[Rat.num_intCast];exact⟨rfl,bY⟩
theorem nh (z:Int):bB (z:Rat)=iX z:=by unfold bB;rw[Rat.num_intCast]
theorem v8 {x:Rat}(h:d2 i6 x):(L x.num.natAbs).length<=50:=by have:=Lw;have o:=(SV h).2;exact(se (by omega)).2 (by omega)
theorem vO {x y:Rat}(U:d2 i6 x)(aK:d2 i6 y):n5 (bB x) (bB y)=some (bB (x*y)):=by have o:=v8 U;have J:=v8 aK;obtain⟨a,rfl,-⟩:=U;obtain⟨b,rfl,-⟩:=aK;rw[Rat.num_intCast] at o J;rw[nh,nh,<- Zg,nh];exact QS (by omega) (by omega)
theorem JD {x y:Rat}(U:d2 i6 x)(aK:d2 i6 y):sV (bB x) (bB y)=some (bB (x-y)):=by have gN:=Lw;obtain⟨a,rfl,bs⟩:=U;obtain⟨b,rfl,aE⟩:=aK;rw[nh,nh,<- Rat.intCast_sub,nh];exact QV (by omega) (by omega)
theorem r5 {x:Rat}(U:d2 i6 x):nC (bB x)=some (kB x):=by
 obtain⟨a,rfl,bs⟩:=U;rw[nh];unfold nC kB;simp only[jb];have e:(((L a.natAbs).length:Nat):Int)=0↔a=0:=by rw[Ua (by omega)];omega
 show (if (((L a.natAbs).length:Int) == 0)=true then some 0 else if decide (a<0)=true then some (-1) else some 1)=_;by_cases h0:a=0
 ·rw[dy (by rw[beq_iff_eq,e];exact h0),dy (by rw[h0];rfl)]
 have VC:(a:Rat)≠0:=fun c=>h0 (Rat.intCast_inj.1 (by rw[c];rfl));rw[dz (by rw[beq_iff_eq,e];exact h0),dz VC];have av:(a:Rat)<0↔a<0:=by rw[show (0:Rat)=((0:Int):Rat) from rfl,Rat.intCast_lt_intCast]
 by_cases o:a<0
 ·rw[dy (decide_eq_true o),dy (av.2 o)]
 rw[dz (by simpa using o),dz (fun c=>o (av.1 c))]
theorem Qf {x y:Rat}(U:d2 i6 x)(aK:d2 i6 y):qM (bB x) (bB y)=some (if x<y then -1 else if y<x then 1 else 0):=by have o:=v8 U;have J:=v8 aK;obtain⟨a,rfl,-⟩:=U;obtain⟨b,rfl,-⟩:=aK;rw[Rat.num_intCast] at o J;rw[nh,nh,Oq (by omega) (by omega)];unfold nR;simp only[Rat.intCast_lt_intCast]
theorem Ig {x:Rat}(U:d2 i6 x):qL (bB x)=some (bB (-x)):=by obtain⟨a,rfl,-⟩:=U;rw[nh,<- Rat.intCast_neg,nh];unfold qL;show (lN (!(decide (a<0))) (L a.natAbs)).bind _=_;rw[qX (by omega),KG];rfl
theorem qV {n:Int}(h:wu n):m6 n=some (bB (n:Rat)):=by rw[nh];exact Qb h
theorem Qg {x y:Rat}(U:d2 i6 x)(aK:d2 i6 y)(Fc:d2 i6 (x*y))(h0:y≠0):rR (bB (x*y)) (bB y)=some (bB x):=by
 have o:=v8 Fc;have J:=v8 aK;obtain⟨a,rfl,-⟩:=U;obtain⟨b,rfl,-⟩:=aK;rw[<- Zg] at o ⊢;rw[Rat.num_intCast] at o J;have aE:b≠0:=fun c=>h0 (by rw[c];rfl);rw[nh,nh,nh];unfold rR;show (vH (L (a*b).natAbs) (L b.natAbs)).bind _=_;rw[Sd (o4 _) (o4 _) (fun c=>by have:=yh.1 c;omega) (by omega) (by omega),iO (by omega),iO (by omega)];have ap:((a*b).natAbs:Int) / (b.natAbs:Int)=(a.natAbs:Int):=by rw[Int.natAbs_mul,Int.natCast_mul];exact Int.mul_ediv_cancel _ (by omega)
 simp only[dB];rw[ap];show (lN (!(decide (a*b<0) == decide (b<0))) (L a.natAbs)).bind _=_;rw[qX (by omega)];simp only[dB];congr 2;rcases Int.lt_or_gt_of_ne aE with c|c
 ·by_cases bs:a<0
  ·have : ¬a*b<0:=(by have:=Int.mul_pos_of_neg_of_neg bs c;omega);rw[decide_eq_false this,decide_eq_true c];simp only[ex,show (!(false == true))=true from rfl,if_true];omega
  by_cases bY:a=0
  ·subst bY;simp[ex]
  have:a*b<0:=Int.mul_neg_of_pos_of_neg (by omega) c;rw[decide_eq_true this,decide_eq_true c];simp only[ex,BEq.rfl,Bool.not_true,Zd,if_false];omega
 by_cases bs:a<0
 ·have:a*b<0:=Int.mul_neg_of_neg_of_pos bs c;rw[decide_eq_true this,decide_eq_false (by omega)];simp only[ex,show (!(true == false))=true from rfl,if_true];omega
 have : ¬a*b<0:=by have:=Int.mul_nonneg (show 0<=a by omega) (show 0<=b by omega);omega
 rw[decide_eq_false this,decide_eq_false (by omega)];simp only[ex,BEq.rfl,Bool.not_true,Zd,if_false];omega
def fL (N:Nat)(w:Rat)(t:b1)(i:Nat):Zh:=bl (N+1) fun j=>bB (t.T i j*w)
structure nU (m N:Nat) (w:Rat) (t:b1):Prop where
 pos:0<w
 hw:d2 (21*100*fB) w
 hv : ∀i,i<m-> ∀j,j<=N->d2 fB (t.T i j*w)
 gN : ∀i,i<m->t.B i<N
theorem yn:21*100*fB*(21*100*fB)+21*100*fB*(21*100*fB)<=i6:=by decide +kernel
theorem Ug {q i:Nat}(aU:0<q)(ad:i<=20):21*100*q*100+i*(q*100)<=21*100*q*(21*100*q):=by have o:i*(q*100)<=20*(q*100):=Y5 _ ad;have J:21*100*q*2100<=21*100*q*(21*100*q):=Nat.mul_le_mul_left _ (by omega);generalize 21*100*q*(21*100*q)=z at *;omega
theorem Uh {i:Nat}(ad:i<=20):21*100*fB*100+i*(fB*100)<=i6 :=
 Nat.le_trans (Ug pE ad) (Nat.le_trans (Nat.le_add_right _ _) yn)
theorem rl {K:Nat}(h:K<=21*100*fB):K<=i6:=by have VD:=yn;have o:21*100*fB*1<=21*100*fB*(21*100*fB):=Nat.mul_le_mul_left _ (by have:=pE;generalize fB=q at *;omega);rw[Nat.mul_one] at o;exact Nat.le_trans h (Nat.le_trans o (Nat.le_trans (Nat.le_add_right _ _) VD))
theorem J8 {m N:Nat}(hm:m<=20)(fc:N<1000){w:Rat}{t:b1}(h:nU m N w t)(I:Nat->Int)(ae:∀j,j<N-> -100<=I j/\I j<=100)(hr:br)(wv:hr=bB w)(hd:Int)(free:Zk){k:Nat}(aL:k<N):
 vm ⟨bl m (fL N w t),hr,ed m t,hd,free⟩ (bl N I) (k:Int)=some (kB (t.cK m (fun j=>(I j:Rat)) k)):=by
 subst wv;have YB:=pE;have small : ∀ {x:Rat} {K:Nat},d2 K x->K<=21*100*fB->d2 i6 x:=fun o J=>o.mono (rl J);have ab : ∀j,j<N->d2 100 ((I j:Int):Rat):=fun j ao=>⟨I j,rfl,by have:=ae j ao;omega⟩;have Mp : ∀j,j<N->wu (I j):=fun j ao=>by have:=ae j ao;rw[qZ];omega
 let S:Nat->Rat:=fun i=>w*(I k:Rat)-bQ i (fun i=>(t.T i k*w)*(I (t.B i):Rat))
 have MP : ∀i,i<=m->d2 i6 (S i):=fun i ad=>by have ap:d2 (21*100*fB*100) (w*(I k:Rat)):=h.hw.mul (ab k aL);have av:d2 (i*(fB*100)) (bQ i (fun i=>(t.T i k*w)*(I (t.B i):Rat))):=d2.sum fun d7 hE=>(h.hv d7 (by omega) k (by omega)).mul (ab _ (h.gN d7 (by omega)));exact(ap.sub av).mono (Uh (by omega))
 unfold vm;refine dh (aM (x:=I k) (by rw[dA];exact iH aL) (aM (qV (Mp k aL)) (aM (vO (small h.hw (dF _)) (small (ab k aL) (by omega))) ?_)))
 obtain⟨s,e,-⟩:=jq (f:=fun q:Int×Bool×ar=>uX (bl m (fL N w t)) (bB w).c5 (bB w).c2 (ed m t) hd free (bl N I) (k:Int) ((m:Nat):Int) q.1 q.2.1 q.2.2)
  (fun (i:Nat) (_:Unit)=>((i:Int),(bB (S i)).c5,(bB (S i)).c2)) m (fun _ _=>True) (fun _=>((bB (S m)).c5,(bB (S m)).c2))
  (fun i ad _ _=>by
    refine⟨(),?_,trivial⟩;have BU:=h.gN i ad;have FN:S (i+1)=S i-(t.T i k*w)*(I (t.B i):Rat):=(by simp only[S,bQ];grind);unfold uX;refine eS (df (by unfold ed;rw[fm];simp only;omega) (aM (x:=((t.B i:Nat):Int)) (by simp only;rw[dA];exact iH ad) (dh (aM (x:=I (t.B i)) (by rw[dA];exact iH BU) (zA (fun c=> ?_) (fun c=> ?_))))))
    ·refine dh (aM (x:=fL N w t i) (by simp only;rw[dA];exact iH ad) (df (by unfold fL;rw[fm];omega) (aM (x:=bB (t.T i k*w)) (by rw[dA];exact iH (by omega)) (aM (r5 (small (h.hv i ad k (by omega)) (by omega))) (zA (fun cq=> ?_) (fun cq=> ?_))))))
     ·refine aM (qV (Mp _ BU)) (aM (vO (small (h.hv i ad k (by omega)) (by omega)) (small (ab _ BU) (by omega))) (aM (JD (MP i (by omega)) (by
       exact small ((h.hv i ad k (by omega)).mul (ab _ BU)) (by omega))) ?_))
      simp only;rw[f6 (by omega),FN]
     have bY:t.T i k*w=0:=xN.1 (by simpa using cq);simp only;rw[f6 (by omega),FN,bY,show S i-0*(I (t.B i):Rat)=S i by grind]
    have bY:I (t.B i)=0:=(by simpa using c);simp only;rw[f6 (by omega),FN,bY,show S i-t.T i k*w*((0:Int):Rat)=S i by rw[show ((0:Int):Rat)=0 from rfl];grind])
  (fun _ _=>by unfold uX;exact f8 rfl) () trivial
 have e0:S 0=w*(I k:Rat):=by simp only[S,bQ];grind
 rw[e0] at e;refine aM (x:=((bB (S m)).c5,(bB (S m)).c2)) (by unfold G9;rw[jb,show (ed m t).length=m from fm ..];exact e) (aM (x:=kB (S m)) (r5 (MP m (dF _))) ?_);congr 1;have av:S m=w*t.cK m (fun j=>(I j:Rat)) k:=by simp only[S];unfold b1.cK;rw[en (f:=fun i=>t.T i k*w*(I (t.B i):Rat)) (g:=fun i=>w*((I (t.B i):Rat)*t.T i k)) (fun i _=>by grind),hj];grind
 rw[av];have af:=h.pos;unfold kB;by_cases c:t.cK m (fun j=>(I j:Rat)) k=0
 ·rw[dy c,dy (by rw[c];grind)]
 rw[dz c,dz (by grind)];by_cases cq:t.cK m (fun j=>(I j:Rat)) k<0
 ·rw[dy cq,dy];have:=Rat.mul_pos af (show 0 < -(t.cK m (fun j=>(I j:Rat)) k) by grind);grind
 rw[dz cq,dz];have:=Rat.mul_pos af (show 0<t.cK m (fun j=>(I j:Rat)) k by grind);grind
theorem JE {x y z v w:Rat}(hw:0<w)(aK:0<y)(aT:0<v):(x*w)*(v*w)<(z*w)*(y*w)↔x / y<z / v:=by
 have ap:(x*w)*(v*w)=(x / y)*((y*v)*(w*w)):=by grind
 have av:(z*w)*(y*w)=(z / v)*((y*v)*(w*w)):=by grind
 have af:0<(y*v)*(w*w):=Rat.mul_pos (Rat.mul_pos aK aT) (Rat.mul_pos hw hw);rw[ap,av];constructor
 ·intro h;apply Classical.byContradiction;intro c;have:z / v<=x / y:=(by grind);have:=Rat.mul_le_mul_of_nonneg_right this (Rat.le_of_lt af);grind
 intro h;exact Rat.mul_lt_mul_of_pos_right h af
theorem vX {x w:Rat}(hw:0<w):kB (x*w)=kB x:=by
 unfold kB;by_cases c:x=0
 ·rw[dy c,dy (by rw[c];grind)]
 rw[dz c,dz (by grind)];by_cases cq:x<0
 ·rw[dy cq,dy];have:=Rat.mul_pos (show 0 < -x by grind) hw;grind
 rw[dz cq,dz];have:=Rat.mul_pos (show 0<x by grind) hw;grind
theorem Qh {m N:Nat}(hm:m<=20)(fc:N<1000){w:Rat}{t:b1}(h:nU m N w t)(hr:br)(free:Zk){k:Nat}(aL:k<=N):
 ∃r,xh ⟨bl m (fL N w t),hr,ed m t,(N:Int),free⟩ (k:Int)=some r/\J7 m N t k r:=by
 have hw:=h.pos;have mH : ∀i,i<m-> ∀j,j<=N->d2 i6 (t.T i j*w):=fun i ad j ao=>(h.hv i ad j ao).mono (rl (by have:=pE;generalize fB=q at *;omega));have zI : ∀i,i<m-> ∀j,j<=N-> ∀d7,d7<m-> ∀gF,gF<=N->d2 i6 (t.T i j*w*(t.T d7 gF*w)):=fun i ad j ao d7 hE gF so=>((h.hv i ad j ao).mul (h.hv d7 hE gF so)).mono (by refine Nat.le_trans ?_ (Nat.le_trans (Nat.le_add_right _ _) yn);exact Nat.mul_le_mul (by generalize fB=q;omega) (by generalize fB=q;omega));unfold xh
 obtain⟨r,e,ah⟩:=pB (f:=fun q:Int×Int=>uP (bl m (fL N w t)) hr.c5 hr.c2 (ed m t) (N:Int) free (k:Int) ((m:Nat):Int) q.1 q.2)
  (fun (i:Nat) (s:Int)=>(s,(i:Int))) m
  (fun n s=>(s = -1/\ ∀i,i<n-> ¬0<t.T i k)\/ ∃b:Nat,s=b/\b<n/\0<t.T b k/\ ∀i,i<n->0<t.T i k->t.T b N / t.T b k<t.T i N / t.T i k\/(t.T b N / t.T b k=t.T i N / t.T i k/\t.B b<=t.B i))
  (fun r=>J7 m N t k r)
  (fun n aZ s cE=>by
    left;unfold uP;have g1:0<=((n:Nat):Int)/\((n:Nat):Int)<((bl m (fL N w t)).length:Nat):=(by rw[fm];omega);have g2:(bl m (fL N w t))[((n:Nat):Int).toNat]? = some (fL N w t n):=(by rw[dA];exact iH aZ);have g3 : ∀b,0<=((k:Nat):Int)/\((k:Nat):Int)<((fL N w t b).length:Nat):=fun b=>(by unfold fL;rw[fm];omega);have g4 : ∀b,(fL N w t b)[((k:Nat):Int).toNat]? = some (bB (t.T b k*w)):=fun b=>(by rw[dA];exact iH (by omega));have g5 : ∀b,0<=((N:Nat):Int)/\((N:Nat):Int)<((fL N w t b).length:Nat):=fun b=>(by unfold fL;rw[fm];omega);have g6 : ∀b,(fL N w t b)[((N:Nat):Int).toNat]? = some (bB (t.T b N*w)):=fun b=>(by rw[dA];exact iH (by omega));have lK:aa ((n:Int)+1)=((n+1:Nat):Int):=f6 (by omega);have pV:nC (bB (t.T n k*w))=some (kB (t.T n k)):=(by rw[r5 (mH n aZ k aL),vX hw]);by_cases af:0<t.T n k
    ·have bN : ¬kB (t.T n k)<=0:=by have:=r4.2 af;omega
     rcases cE with ⟨o,J⟩|⟨b,o,aE,oF,an⟩
     ·refine⟨(n:Int),eS (df g1 (aM g2 (df (g3 n) (aM (g4 n) (aM pV (jL bN (eS ?_))))))),.inr ⟨n,rfl,by omega,af,fun i ad l4=> ?_⟩⟩
      ·simp only;rw[lK]
      by_cases c:i=n
      ·subst c;exact .inr ⟨rfl,dF _⟩
      exact(J i (by omega) l4).elim
     subst o;have VE:0<=((b:Nat):Int)/\((b:Nat):Int)<((bl m (fL N w t)).length:Nat):=(by rw[fm];omega);have VF:(bl m (fL N w t))[((b:Nat):Int).toNat]? = some (fL N w t b):=by rw[dA];exact iH (by omega)
     have gc:qM (bB (t.T n N*w*(t.T b k*w))) (bB (t.T b N*w*(t.T n k*w)))=some (if t.T n N / t.T n k<t.T b N / t.T b k then -1 else if t.T b N / t.T b k<t.T n N / t.T n k then 1 else 0):=by
      rw[Qf (zI n aZ N (by omega) b (by omega) k aL) (zI b (by omega) N (by omega) n aZ k aL)];have ak:=JE (x:=t.T n N) (y:=t.T n k) (z:=t.T b N) (v:=t.T b k) hw af oF;have bW:=JE (x:=t.T b N) (y:=t.T b k) (z:=t.T n N) (v:=t.T n k) hw oF af;by_cases bG:t.T n N / t.T n k<t.T b N / t.T b k
      ·rw[dy bG,dy (ak.2 bG)]
      rw[dz bG,dz (fun c=>bG (ak.1 c))];by_cases cq:t.T b N / t.T b k<t.T n N / t.T n k
      ·rw[dy cq,dy (bW.2 cq)]
      rw[dz cq,dz (fun c=>cq (bW.1 c))]
     have lead : ∀ {x r:Option ((Int×Int)⊕Int)} {f:Int->Option ((Int×Int)⊕Int)} {q:Int},qM (bB (t.T n N*w*(t.T b k*w))) (bB (t.T b N*w*(t.T n k*w)))=some q->f q=r ->
      (if 0<=((N:Nat):Int)/\((N:Nat):Int)<((fL N w t n).length:Nat) then
        (fL N w t n)[((N:Nat):Int).toNat]? >>= fun p2 =>
        if 0<=((b:Nat):Int)/\((b:Nat):Int)<((bl m (fL N w t)).length:Nat) then
        (bl m (fL N w t))[((b:Nat):Int).toNat]? >>= fun k9 =>
        if 0<=((k:Nat):Int)/\((k:Nat):Int)<(k9.length:Nat) then
        k9[((k:Nat):Int).toNat]? >>= fun p3 =>
        n5 p2 p3 >>= fun iD =>
        if 0<=((N:Nat):Int)/\((N:Nat):Int)<(k9.length:Nat) then
        k9[((N:Nat):Int).toNat]? >>= fun rz =>
        n5 rz (bB (t.T n k*w)) >>= fun mB =>
        qM iD mB >>= f
        else none else none else none else none)=r:=fun aU bL =>
      df (g5 n) (aM (g6 n) (df VE (aM VF (df (g3 b) (aM (g4 b) (aM (vO (mH n aZ N (by omega)) (mH b (by omega) k aL)) (df (g5 b) (aM (g6 b) (aM (vO (mH b (by omega) N (by omega)) (mH n aZ k aL)) (aM aU bL))))))))))
     by_cases bG:t.T n N / t.T n k<t.T b N / t.T b k
     ·rw[dy bG] at gc
      refine⟨(n:Int),eS (df g1 (aM g2 (df (g3 n) (aM (g4 n) (aM pV (jL bN (f8 (lead (x:=none) gc (eS ?_))))))))),.inr ⟨n,rfl,by omega,af,fun i ad l4=> ?_⟩⟩
      ·simp only;rw[lK]
      by_cases c:i=n
      ·subst c;exact .inr ⟨rfl,dF _⟩
      rcases an i (by omega) l4 with h|⟨h,-⟩
      ·left;grind
      left;rw[<- h];exact bG
     rw[dz bG] at gc;by_cases cq:t.T b N / t.T b k<t.T n N / t.T n k
     ·rw[dy cq] at gc
      refine⟨(b:Int),eS (df g1 (aM g2 (df (g3 n) (aM (g4 n) (aM pV (jL bN (f8 (lead (x:=none) gc (f8 (gJ (by decide) ?_)))))))))),.inr ⟨b,rfl,by omega,oF,fun i ad l4=> ?_⟩⟩
      ·simp only;rw[lK]
      by_cases c:i=n
      ·subst c;exact .inl cq
      exact an i (by omega) l4
     rw[dz cq] at gc;have VG:t.T b N / t.T b k=t.T n N / t.T n k:=(by grind);have Mq:0<=((n:Nat):Int)/\((n:Nat):Int)<((ed m t).length:Nat):=(by unfold ed;rw[fm];omega);have Mr:(ed m t)[((n:Nat):Int).toNat]? = some ((t.B n:Nat):Int):=(by rw[dA];exact iH aZ);have Ms:0<=((b:Nat):Int)/\((b:Nat):Int)<((ed m t).length:Nat):=(by unfold ed;rw[fm];omega);have Mt:(ed m t)[((b:Nat):Int).toNat]? = some ((t.B b:Nat):Int):=(by rw[dA];exact iH (by omega));by_cases l8:t.B n<t.B b
     ·refine⟨(n:Int),eS (df g1 (aM g2 (df (g3 n) (aM (g4 n) (aM pV (jL bN (f8 (lead (x:=none) gc (f8 (e7 rfl (df Mq (aM Mr (df Ms (aM Mt (eS ?_))))))))))))))),.inr ⟨n,rfl,by omega,af,fun i ad l4=> ?_⟩⟩
      ·simp only;rw[lK]
      by_cases c:i=n
      ·subst c;exact .inr ⟨rfl,dF _⟩
      rcases an i (by omega) l4 with h|⟨h,bR⟩
      ·left;grind
      right;exact⟨by grind,by omega⟩
     refine⟨(b:Int),eS (df g1 (aM g2 (df (g3 n) (aM (g4 n) (aM pV (jL bN (f8 (lead (x:=none) gc (f8 (e7 rfl (df Mq (aM Mr (df Ms (aM Mt (f8 ?_))))))))))))))),.inr ⟨b,rfl,by omega,oF,fun i ad l4=> ?_⟩⟩
     ·simp only;rw[lK]
     by_cases c:i=n
     ·subst c;exact .inr ⟨VG,by omega⟩
     exact an i (by omega) l4
    have bN:kB (t.T n k)<=0:=(by have : ¬0<kB (t.T n k):=fun c=>af (r4.1 c);omega);refine⟨s,eS (df g1 (aM g2 (df (g3 n) (aM (g4 n) (aM pV (jY bN ?_)))))),?_⟩
    ·simp only;rw[lK]
    rcases cE with ⟨o,J⟩|⟨b,o,aE,oF,an⟩
    ·exact .inl ⟨o,fun i ad=>if c:i=n then c▸af else J i (by omega)⟩
    exact .inr ⟨b,o,by omega,oF,fun i ad l4=>if c:i=n then (af (c▸l4)).elim else an i (by omega) l4⟩)
  (fun s cE=>by
    refine⟨s,by unfold uP;exact f8 rfl,?_⟩;rcases cE with ⟨o,J⟩|⟨b,o,aE,oF,an⟩
    ·exact .inl ⟨o,J⟩
    refine .inr ⟨b,o,aE,oF,fun i ad l4=> ?_,fun i ad l4 he=> ?_⟩
    ·rw[<- (JC oF l4).1]
     rcases an i ad l4 with h|⟨h,-⟩
     ·exact Rat.le_of_lt h
     rw[h];exact Rat.le_refl
    rw[<- (JC oF l4).2] at he;rcases an i ad l4 with h|⟨-,h⟩
    ·rw[he] at h;grind
    exact h) (-1:Int) (.inl ⟨rfl,fun i ad=>by omega⟩)
 refine⟨r,aM ?_ rfl,ah⟩;unfold GZ;rw[h2,fm];exact e
def f7 (m N:Nat)(h:Nat->Nat):Zn:=bl m fun i=>some (h i,N+1)
structure lo (m N M:Nat) (h:Nat->Nat) (w:Rat) (t:b1) (d9:Zi):Prop where
 len:d9.length=M
 row : ∀i,i<m->d9[h i]? = some (fL N w t i)
theorem Ac {α:Type}{l:List α}{i:Nat}{x y:α}(h:l[i]? = some x):(l.set i y)[i]? = some y:=by rw[YZ,dy rfl,dy (Y4.1 h).1]
theorem Dg {α:Type}{l:List α}{i k:Nat}{y:α}(h:i≠k):(l.set i y)[k]? = l[k]? := by rw[YZ,dz h]
theorem set_set {α:Type}(l:List α)(i:Nat)(x y:α):(l.set i x).set i y=l.set i y:=by rw[List.set_set]
structure rm (m N:Nat) (w:Rat) (t:b1) (r k:Nat):Prop where
 ah:r<m
 aL:k<N
 af:t.T r k≠0
 wV : ∀i,i<m-> ∀j,j<=N->d2 fB ((t.ch r k).T i j*(t.T r k*w))
theorem RK {m N:Nat}(fc:N<1000){h:Nat->Nat}{w:Rat}{t:b1}{r k:Nat}(f:nU m N w t)(g:rm m N w t r k){i:Nat}(ad:i<m)(VH:i≠r)(cc:h i≠h r){d9:Zi}(o:d9[h i]? = some (fL N w t i))(J:d9[h r]? = some (fL N w t r))
 (fr eu:Int) (aY:Int) (aS:Zn) (a9:ar) (b8:Zk) (v1 v2:Int) :
 Cn v1 v2 (some (h r,N+1)) (some (h i,N+1)) fr eu (((N+1:Nat):Nat):Int) (bB w).c5 (bB w).c2 aY aS a9 b8 (bB (t.T r k*w)).c5 (bB (t.T r k*w)).c2 (bB (t.T i k*w)).c5 (bB (t.T i k*w)).c2 0 d9=some (d9.set (h i) (fL N (t.T r k*w) (t.ch r k) i)):=by
 have hw:=f.pos;have mH : ∀i,i<m-> ∀j,j<=N->d2 i6 (t.T i j*w):=fun i ad j ao=>(f.hv i ad j ao).mono (rl (by have:=pE;generalize fB=q at *;omega));have Wr:d2 i6 w:=f.hw.mono (rl (dF _));have Ws : ∀i,i<m-> ∀j,j<=N->d2 i6 ((t.ch r k).T i j*(t.T r k*w)):=fun i ad j ao=>(g.wV i ad j ao).mono (rl (by have:=pE;generalize fB=q at *;omega));have zI : ∀i,i<m-> ∀j,j<=N-> ∀d7,d7<m-> ∀gF,gF<=N->d2 i6 (t.T i j*w*(t.T d7 gF*w)):=fun i ad j ao d7 hE gF so=>((f.hv i ad j ao).mul (f.hv d7 hE gF so)).mono (by refine Nat.le_trans ?_ (Nat.le_trans (Nat.le_add_right _ _) yn);exact Nat.mul_le_mul (by generalize fB=q;omega) (by generalize fB=q;omega));have VI : ∀j,j<=N->d2 i6 ((t.ch r k).T i j*(t.T r k*w)*w):=fun j ao=>((g.wV i ad j ao).mul f.hw).mono (by refine Nat.le_trans ?_ (Nat.le_trans (Nat.le_add_right _ _) yn);exact Nat.mul_le_mul (by generalize fB=q;omega) (dF _));have ah:=g.ah;have aL:=g.aL;have af:=g.af;have Gg : ∀j,(t.ch r k).T i j=t.T i j-t.T i k*(t.T r j / t.T r k):=fun j=>by simp[b1.ch,VH]
 have EN:w≠0:=by grind
 unfold Cn
 obtain⟨s,e,-⟩:=jq (f:=fun q:Int×Zi=>uQ v1 v2 (some (h r,N+1)) (some (h i,N+1)) fr eu (((N+1:Nat):Nat):Int) (bB w).c5 (bB w).c2 aY aS a9 b8 (bB (t.T r k*w)).c5 (bB (t.T r k*w)).c2 (bB (t.T i k*w)).c5 (bB (t.T i k*w)).c2 q.1 q.2)
  (fun (c:Nat) (_:Unit)=>((c:Int),d9.set (h i) (bl (N+1) fun j=>if j<c then bB ((t.ch r k).T i j*(t.T r k*w)) else bB (t.T i j*w)))) (N+1) (fun _ _=>True)
  (fun _=>d9.set (h i) (fL N (t.T r k*w) (t.ch r k) i))
  (fun c aJ _ _=>by
    refine⟨(),?_,trivial⟩
    have fin:(some (Sum.inl (aa ((c:Int)+1),(d9.set (h i) (bl (N+1) fun j=>if j<c then bB ((t.ch r k).T i j*(t.T r k*w)) else bB (t.T i j*w))).set (h i) ((bl (N+1) fun j=>if j<c then bB ((t.ch r k).T i j*(t.T r k*w)) else bB (t.T i j*w)).set (0+((c:Int)).toNat) (bB ((t.ch r k).T i c*(t.T r k*w)))))):Option ((Int×Zi)⊕Zi)) =
     some (Sum.inl (((c+1:Nat):Int),d9.set (h i) (bl (N+1) fun j=>if j<c+1 then bB ((t.ch r k).T i j*(t.T r k*w)) else bB (t.T i j*w)))):=by
     rw[f6 (by omega),dA,dG,set_set,mO];congr 4;refine fF fun j _=> ?_;by_cases bG:j=c
     ·subst bG;rw[dy rfl,dy (by omega)]
     rw[dz bG];by_cases cq:j<c
     ·rw[dy cq,dy (by omega)]
     rw[dz cq,dz (by omega)]
    have fW:rR (bB ((t.ch r k).T i c*(t.T r k*w)*w)) (bB w)=some (bB ((t.ch r k).T i c*(t.T r k*w))):=Qg (Ws i ad c (by omega)) Wr (VI c (by omega)) EN;unfold uQ;refine eS (aM (x:=(h i,N+1)) rfl (aM (x:=bl (N+1) fun j=>if j<c then bB ((t.ch r k).T i j*(t.T r k*w)) else bB (t.T i j*w)) (by simp only;exact Ac o) (dh (aM (x:=bB (t.T i c*w)) (by simp only;rw[dA,jM aJ,dz (by omega)]) ?_))));refine aM (vO (mH i ad c (by omega)) (mH r ah k (by omega))) (aM (r5 (mH i ad k (by omega))) (zA (fun d=> ?_) (fun d=> ?_)))
    ·refine aM (x:=(h r,N+1)) rfl (aM (x:=fL N w t r) (by simp only;rw[Dg cc];exact J) (dh (aM (x:=bB (t.T r c*w)) (by simp only;rw[dA];exact jM aJ) (aM (r5 (mH r ah c (by omega))) (zA (fun pr=> ?_) (fun pr=> ?_))))))
     ·refine aM (vO (mH i ad k (by omega)) (mH r ah c (by omega))) (aM (JD (zI i ad c (by omega) r ah k (by omega)) (zI i ad k (by omega) r ah c (by omega))) (aM ?_ fin));rw[show t.T i c*w*(t.T r k*w)-t.T i k*w*(t.T r c*w)=(t.ch r k).T i c*(t.T r k*w)*w by rw[Gg];grind];exact fW
     have bY:t.T r c=0:=(by have:=xN.1 (by simpa using pr);grind);refine aM ?_ fin;rw[show t.T i c*w*(t.T r k*w)=(t.ch r k).T i c*(t.T r k*w)*w by rw[Gg,bY];grind];exact fW
    have bY:t.T i k=0:=(by have:=xN.1 (by simpa using d);grind);refine aM ?_ fin;rw[show t.T i c*w*(t.T r k*w)=(t.ch r k).T i c*(t.T r k*w)*w by rw[Gg,bY];grind];exact fW)
  (fun _ _=>by unfold uQ;refine f8 ?_;simp only;congr 3;exact fF fun j ao=>by rw[dy ao]) () trivial
 have e0:d9.set (h i) (bl (N+1) fun j=>if j<0 then bB ((t.ch r k).T i j*(t.T r k*w)) else bB (t.T i j*w))=d9:=by
  have:(bl (N+1) fun j=>if j<0 then bB ((t.ch r k).T i j*(t.T r k*w)) else bB (t.T i j*w))=fL N w t i:=fF fun j _=>(by rw[dz (by omega)]);rw[this];apply Zb;intro c;rw[YZ];split
  ·rename_i e;subst e;rw[dy (Y4.1 o).1,o]
  rfl
 rw[e0] at e;exact e
theorem RL {m N:Nat}(fc:N<1000){h:Nat->Nat}{w:Rat}{t:b1}(hv:∀i,i<m-> ∀j,j<=N->d2 fB (t.T i j*w)){i:Nat}(ad:i<m){d9:Zi}(o:d9[h i]? = some (fL N w t i))
 (fr eu:Int) (gg:Bool) (hx:ar) (aY:Int) (aS:Zn) (a9:ar) (b8:Zk) :
 Cp (some (h i,N+1)) fr eu (((N+1:Nat):Nat):Int) gg hx aY aS a9 b8 0 d9=some (d9.set (h i) (fL N (-w) t i)):=by
 have mH : ∀j,j<=N->d2 i6 (t.T i j*w):=fun j ao=>(hv i ad j ao).mono (rl (by have:=pE;generalize fB=q at *;omega));unfold Cp
 obtain⟨s,e,-⟩:=jq (f:=fun q:Int×Zi=>uS (some (h i,N+1)) fr eu (((N+1:Nat):Nat):Int) gg hx aY aS a9 b8 q.1 q.2)
  (fun (c:Nat) (_:Unit)=>((c:Int),d9.set (h i) (bl (N+1) fun j=>if j<c then bB (t.T i j * -w) else bB (t.T i j*w)))) (N+1) (fun _ _=>True)
  (fun _=>d9.set (h i) (fL N (-w) t i))
  (fun c aJ _ _=>by
    refine⟨(),?_,trivial⟩;unfold uS;refine eS (aM (x:=(h i,N+1)) rfl (aM (x:=bl (N+1) fun j=>if j<c then bB (t.T i j * -w) else bB (t.T i j*w)) (by simp only;exact Ac o) (dh (aM (x:=bB (t.T i c*w)) (by simp only;rw[dA,jM aJ,dz (by omega)]) (aM (Ig (mH c (by omega))) ?_)))));simp only;rw[f6 (by omega),dA,dG,set_set,mO];congr 4;refine fF fun j _=> ?_;by_cases bG:j=c
    ·subst bG;rw[dy rfl,dy (by omega)];congr 1;grind
    rw[dz bG];by_cases cq:j<c
    ·rw[dy cq,dy (by omega)]
    rw[dz cq,dz (by omega)])
  (fun _ _=>by unfold uS;refine f8 ?_;simp only;congr 3;exact fF fun j ao=>by rw[dy ao]) () trivial
 have e0:d9.set (h i) (bl (N+1) fun j=>if j<0 then bB (t.T i j * -w) else bB (t.T i j*w))=d9:=by
  have:(bl (N+1) fun j=>if j<0 then bB (t.T i j * -w) else bB (t.T i j*w))=fL N w t i:=fF fun j _=>(by rw[dz (by omega)]);rw[this];apply Zb;intro c;rw[YZ];split
  ·rename_i e;subst e;rw[dy (Y4.1 o).1,o]
  rfl
 rw[e0] at e;exact e
def nn (w:Rat)(t:b1)(r k:Nat):Rat:=if 0<t.T r k then t.T r k*w else -(t.T r k*w)
theorem J9 {m N M:Nat}(hm:m<=20)(fc:N<1000){h:Nat->Nat}(inj:∀i,i<m-> ∀k,k<m->h i=h k->i=k){w:Rat}{t:b1}{r k:Nat}(f:nU m N w t)(g:rm m N w t r k){d9:Zi}(fX:lo m N M h w t d9)(hd:Int)(free:Zk):
 ∃jC,u4 r k (bB w).c5 (bB w).c2 hd (f7 m N h) d9 (ed m t) free=some ((bB (nn w t r k)).c5,(bB (nn w t r k)).c2,jC,ed m (t.ch r k))/\lo m N M h (nn w t r k) (t.ch r k) jC:=by
 have ah:=g.ah;have aL:=g.aL;have af:=g.af;have hw:=f.pos;have mH : ∀i,i<m-> ∀j,j<=N->d2 i6 (t.T i j*w):=fun i ad j ao=>(f.hv i ad j ao).mono (rl (by have:=pE;generalize fB=q at *;omega));have MQ:fL N (t.T r k*w) (t.ch r k) r=fL N w t r:=fF fun j _=>by simp only[b1.ch,if_true];congr 1;grind
 have w4:(f7 m N h).length=m:=fm ..;unfold u4
 obtain⟨gk,ap,mE,ak⟩:=jq (f:=fun q:Int×Zi=>uR (r:Int) (k:Int) (some (h r,N+1)) ((m:Nat):Int) (bB w).c5 (bB w).c2 hd (f7 m N h) (ed m t) free (bB (t.T r k*w)).c5 (bB (t.T r k*w)).c2 q.1 q.2)
  (fun (i:Nat) (p:Zi)=>((i:Int),p)) m (fun n p=>p.length=M/\ ∀i,i<m->p[h i]? = some (if i=r\/i<n then fL N (t.T r k*w) (t.ch r k) i else fL N w t i)) (fun p=>p)
  (fun n aZ p cE=>by
    obtain⟨aw,cE⟩:=cE;unfold uR;by_cases c:n=r
    ·subst c
     refine⟨p,eS (df (by rw[w4];simp only;omega) (aM (x:=some (h n,N+1)) (by simp only;rw[dA];exact jM aZ) (e7 (by simp) ?_))),aw,fun i ad=> ?_⟩
     ·simp only;rw[f6 (by omega)]
     rw[cE i ad];by_cases bG:i=n\/i<n
     ·rw[dy bG,dy (by omega)]
     rw[dz bG,dz (by omega)]
    have cc:h n≠h r:=fun e=>c (inj n aZ r ah e);have o:p[h n]? = some (fL N w t n):=(by rw[cE n aZ,dz (by omega)]);have J:p[h r]? = some (fL N w t r):=(by rw[cE r ah,dy (.inl rfl),MQ]);refine⟨p.set (h n) (fL N (t.T r k*w) (t.ch r k) n),eS (df (by rw[w4];simp only;omega) (aM (x:=some (h n,N+1)) (by simp only;rw[dA];exact jM aZ) (gJ (by simp;omega) (aM (x:=(h n,N+1)) rfl (aM o (dh (aM (x:=bB (t.T n k*w)) (by rw[dA];exact jM (by omega)) (aM (RK fc f g aZ c cc o J _ _ _ _ _ _ _ _) ?_)))))))),by rw[List.length_set];exact aw,fun i ad=> ?_⟩
    ·simp only;rw[f6 (by omega)]
    by_cases bG:i=n
    ·subst bG;rw[Ac o,dy (.inr (by omega))]
    rw[Dg (fun e=>bG (inj i ad n aZ e.symm)),cE i ad];by_cases cq:i=r\/i<n
    ·rw[dy cq,dy (by omega)]
    rw[dz cq,dz (by omega)])
  (fun p _=>by unfold uR;exact f8 rfl) d9 ⟨fX.len,fun i ad=>by
    rw[fX.row i ad];by_cases c:i=r
    ·rw[dy (.inl c),c,MQ]
    rw[dz (by omega)]⟩
 have Mu : ∀i,i<m->gk[h i]? = some (fL N (t.T r k*w) (t.ch r k) i):=fun i ad=>by rw[ak i ad,dy (.inr ad)]
 have Ui:(ed m t).set (0+((r:Int)).toNat) (k:Int)=ed m (t.ch r k):=by rw[dA,dG];unfold ed;rw[mO];exact fF fun i _=>by simp only[b1.ch];split<;>rfl
 have lead :
  (if 0<=(r:Int)/\(r:Int)<((f7 m N h).length:Nat) then
    (f7 m N h)[(0+((r:Int)).toNat)]? >>= fun eu =>
    eu >>= fun sJ =>
    d9[sJ.1]? >>= fun w3 =>
    if 0<=(k:Int)/\(k:Int)<(sJ.2:Nat) then
    w3[(0+((k:Int)).toNat)]? >>= fun hi =>
    Co (r:Int) (k:Int) eu (((f7 m N h).length:Nat):Int) (bB w).c5 (bB w).c2 hd (f7 m N h) (ed m t) free hi.c5 hi.c2 0 d9 >>= fun cO =>
    if 0<=(r:Int)/\(r:Int)<((ed m t).length:Nat) then
    if (0+((r:Int)).toNat)<(ed m t).length then
    nC hi >>= fun fy =>
    if (decide ((0:Int)<fy))=true then
     some (hi.c5,hi.c2,cO,(ed m t).set (0+((r:Int)).toNat) (k:Int))
    else
     qL hi >>= fun ep =>
     zQ (((f7 m N h).length:Nat):Int) ep.c5 ep.c2 hd (f7 m N h) ((ed m t).set (0+((r:Int)).toNat) (k:Int)) free 0 cO >>= fun jg =>
     some (ep.c5,ep.c2,jg,(ed m t).set (0+((r:Int)).toNat) (k:Int))
    else none else none else none else none)=(if (decide ((0:Int)<kB (t.T r k)))=true then
     some ((bB (t.T r k*w)).c5,(bB (t.T r k*w)).c2,gk,ed m (t.ch r k))
    else
     qL (bB (t.T r k*w)) >>= fun ep =>
     zQ ((m:Nat):Int) ep.c5 ep.c2 hd (f7 m N h) (ed m (t.ch r k)) free 0 gk >>= fun jg =>
     some (ep.c5,ep.c2,jg,ed m (t.ch r k))):=by
  refine df (by rw[w4];omega) (aM (x:=some (h r,N+1)) (by rw[dA];exact jM ah) (aM (x:=(h r,N+1)) rfl (aM (fX.row r ah) (dh (aM (x:=bB (t.T r k*w)) (by rw[dA];exact jM (by omega)) (aM (x:=gk) (by unfold Co;rw[w4];exact ap) (df (by unfold ed;rw[fm];omega) (df (by unfold ed;rw[fm,dA];omega) (aM (r5 (mH r ah k (by omega))) ?_)))))))));rw[vX hw,Ui,w4]
 by_cases iz:0<t.T r k
 ·have sM:nn w t r k=t.T r k*w:=dy iz;refine⟨gk,lead.trans ?_,mE,fun i ad=>by rw[sM];exact Mu i ad⟩;rw[sM];exact jY (r4.2 iz) rfl
 have sM:nn w t r k = -(t.T r k*w):=dz iz
 obtain⟨ht,av,po,bW⟩:=jq (f:=fun q:Int×Zi=>uT ((m:Nat):Int) (bB (-(t.T r k*w))).c5 (bB (-(t.T r k*w))).c2 hd (f7 m N h) (ed m (t.ch r k)) free q.1 q.2)
  (fun (i:Nat) (p:Zi)=>((i:Int),p)) m (fun n p=>p.length=M/\ ∀i,i<m->p[h i]? = some (if i<n then fL N (-(t.T r k*w)) (t.ch r k) i else fL N (t.T r k*w) (t.ch r k) i)) (fun p=>p)
  (fun n aZ p cE=>by
    obtain⟨aw,cE⟩:=cE;have o:p[h n]? = some (fL N (t.T r k*w) (t.ch r k) n):=(by rw[cE n aZ,dz (by omega)]);unfold uT;refine⟨p.set (h n) (fL N (-(t.T r k*w)) (t.ch r k) n),eS (df (by rw[w4];simp only;omega) (aM (x:=some (h n,N+1)) (by simp only;rw[dA];exact jM aZ) (aM (x:=(h n,N+1)) rfl (aM o (aM (RL fc g.wV aZ o _ _ _ _ _ _ _ _) ?_))))),by rw[List.length_set];exact aw,fun i ad=> ?_⟩
    ·simp only;rw[f6 (by omega)]
    by_cases bG:i=n
    ·subst bG;rw[Ac o,dy (by omega)]
    rw[Dg (fun e=>bG (inj i ad n aZ e.symm)),cE i ad];by_cases cq:i<n
    ·rw[dy cq,dy (by omega)]
    rw[dz cq,dz (by omega)])
  (fun p _=>by unfold uT;exact f8 rfl) gk ⟨mE,fun i ad=>by rw[Mu i ad,dz (by omega)]⟩
 refine⟨ht,lead.trans ?_,po,fun i ad=>by rw[sM,bW i ad,dy ad]⟩;rw[sM];exact jL (fun c=>iz (r4.1 c)) (aM (Ig (mH r ah k (by omega))) (aM (x:=ht) (by unfold zQ;exact av) rfl))
theorem HZ {m:Nat}(hm:m<=1000)(t:b1)(j:Nat): ∃b,qU (ed m t) (j:Int)=some b/\(b=true↔ ∃i,i<m/\t.B i=j):=by
 unfold qU xT De
 obtain⟨r,e,h⟩:=pB (f:=fun w:Int=>qP (ed m t) (j:Int) ((m:Nat):Int) w) (fun (i:Nat) (_:Unit)=>(i:Int)) m (fun i _=> ∀k,k<i->t.B k≠j)
  (fun r=>(∃i:Nat,r = .inr (i:Int)/\i<m/\t.B i=j)\/(r = .inl ()/\ ¬∃i,i<m/\t.B i=j))
  (fun i ad _ cE=>by
    unfold qP;by_cases c:t.B i=j
    ·right;exact⟨_,eS (df (by unfold ed;rw[fm];omega) (aM (x:=((t.B i:Nat):Int)) (by rw[dA];exact iH ad) (e7 (by simp[c]) rfl))),.inl ⟨i,rfl,ad,c⟩⟩
    left;refine⟨(),eS (df (by unfold ed;rw[fm];omega) (aM (x:=((t.B i:Nat):Int)) (by rw[dA];exact iH ad) (gJ (by simp;omega) (by rw[f6 (by omega)])))),fun k aL=> ?_⟩;by_cases e:k=i
    ·rw[e];exact c
    exact cE k (by omega))
  (fun _ cE=>⟨_,by unfold qP;exact f8 rfl,.inr ⟨rfl,fun ⟨i,ad,e⟩=>cE i ad e⟩⟩) () (fun k aL=>by omega)
 rw[jb,show (ed m t).length=m from fm ..];rcases h with ⟨i,rfl,o,J⟩|⟨rfl,h⟩
 ·exact⟨true,aM (x:=(i:Int)) (aM e rfl) (by simp),by simp only[true_iff];exact⟨i,o,J⟩⟩
 exact⟨false,aM (x:=(-1:Int)) (aM e rfl) rfl,by simp[h]⟩
theorem xV {m N M:Nat}{h:Nat->Nat}{w:Rat}{t:b1}{d9:Zi}(fX:lo m N M h w t d9):(f7 m N h).all (ub d9)=true:=by
 rw[List.all_eq_true];intro x U;obtain⟨i,ad,rfl⟩:=R9.1 U;simp only[ub];have o:=fX.row i ad;have J:d9.getD (h i) []=fL N w t i:=by rw[dT,o];rfl
 rw[J,show (fL N w t i).length=N+1 from fm ..];simp[(Y4.1 o).1]
theorem tk {m N M:Nat}{h:Nat->Nat}{w:Rat}{t:b1}{d9:Zi}(fX:lo m N M h w t d9):(f7 m N h).map (k6 d9)=bl m (fL N w t):=by unfold f7;rw[Sa];exact fF fun i ad=>by have J:d9.getD (h i) []=fL N w t i:=(by rw[dT,fX.row i ad];rfl);simp only[k6];rw[J];exact Y0 (Nat.le_of_eq (fm ..))
theorem Mv {m:Nat}{I:Nat->Rat}{t:b1}{j:Nat}:t.B5 m 1 (fun _=>I) j↔0<t.cK m I j:=Uf (g:=fun _=>t.cK m I j)
theorem Qi {da m N M:Nat}{A:Nat->Nat->Rat}(hm:m<=20)(fc:N<1000){h:Nat->Nat}(inj:∀i,i<m-> ∀k,k<m->h i=h k->i=k){w:Rat}{t:b1}(ok:e4 da m N A t)(f:nU m N w t)(I:Nat->Int)(ae:∀j,j<N-> -100<=I j/\I j<=100)(dW:Nat->Bool)
 (Wt : ∀r s,nN m N 1 (fun _ j=>(I j:Rat)) (fun j=>dW j=true) t r s->rm m N w t r s) {d9:Zi} (fX:lo m N M h w t d9) :
 ∃x,xe (N:Int) (bB w).c5 (bB w).c2 (f7 m N h) d9 (ed m t) (bl N dW) (bl N I) 0=some x /\
  ((x = .inl (false,(bB w).c5,(bB w).c2,d9,ed m t)/\ ∀j,j<N->dW j=true-> ¬0<t.cK m (fun j=>(I j:Rat)) j) \/
   (∃r s jC,x = .inl (true,(bB (nn w t r s)).c5,(bB (nn w t r s)).c2,jC,ed m (t.ch r s))/\nN m N 1 (fun _ j=>(I j:Rat)) (fun j=>dW j=true) t r s/\lo m N M h (nn w t r s) (t.ch r s) jC) \/
   (x = .inr ()/\ ∃s,s<N/\dW s=true/\0<t.cK m (fun j=>(I j:Rat)) s/\ ∀i,i<m-> ¬0<t.T i s)):=by
 unfold xe
 refine pB (f:=fun q:Int=>uL (N:Int) (bB w).c5 (bB w).c2 (f7 m N h) d9 (ed m t) (bl N dW) (bl N I) q) (fun (i:Nat) (_:Unit)=>(i:Int)) N
  (fun n _=> ∀j,j<n->dW j=true-> ¬0<t.cK m (fun j=>(I j:Rat)) j) _ (fun n aZ _ cE=> ?_) (fun _ cE=> ?_) () (fun j ao=>by omega)
 ·have next : ∀(gH:dW n=true-> ¬0<t.cK m (fun j=>(I j:Rat)) n),∀j,j<n+1->dW j=true-> ¬0<t.cK m (fun j=>(I j:Rat)) j:=fun gH j ao=>by
   by_cases c:j=n
   ·subst c;exact gH
   ·exact cE j (by omega)
  have g1:0<=((n:Nat):Int)/\((n:Nat):Int)<((bl N dW).length:Nat):=(by rw[fm];omega);have g2:(bl N dW)[(0+((n:Nat):Int).toNat)]? = some (dW n):=(by rw[dA];exact jM aZ);have lK:aa ((n:Int)+1)=((n+1:Nat):Int):=f6 (by omega);unfold uL;by_cases oM:dW n=true;rotate_left
  ·left;have BV:dW n=false:=(by simpa using oM);exact⟨(),eS (df g1 (aM g2 (gJ BV (by rw[lK])))),next fun c=>(oM c).elim⟩
  obtain⟨b,gg,hx⟩:=HZ (m:=m) (by omega) t n
  cases b with
  | true =>
   obtain⟨i,ad,gN⟩:=hx.1 rfl;left;refine⟨(),eS (df g1 (aM g2 (e7 oM (aM gg (e7 rfl (by rw[lK])))))),next fun _=> ?_⟩
   rw[<- gN,ok.xE _ ad];grind
  | false =>
   have cZ:=J8 hm fc f I ae ((⟨(bB w).c5,(bB w).c2⟩:br)) rfl (N:Int) (bl N dW) aZ;by_cases qJ:0<t.cK m (fun j=>(I j:Rat)) n
   ·obtain⟨q,aS,a9⟩:=Qh hm fc f ((⟨(bB w).c5,(bB w).c2⟩:br)) (bl N dW) (k:=n) (by omega)
    have bN : ¬kB (t.cK m (fun j=>(I j:Rat)) n)<=0:=(by have:=r4.2 qJ;omega);right;rcases a9 with ⟨rfl,J⟩|⟨b,rfl,aE,oF,an,aG⟩
    ·exact⟨_,eS (df g1 (aM g2 (e7 oM (aM gg (gJ rfl (df (xV fX) (aM (by rw[tk fX];exact cZ) (jL bN (aM (by rw[tk fX];exact aS) (jY (by decide) rfl)))))))))),.inr (.inr ⟨rfl,n,aZ,oM,qJ,J⟩)⟩
    have cp:nN m N 1 (fun _ j=>(I j:Rat)) (fun j=>dW j=true) t b n:=⟨aZ,oM,Mv.2 qJ,fun j ao bL cZ=>cE j ao bL (Mv.1 cZ),aE,oF,an,aG⟩;obtain⟨jC,ap,av⟩:=J9 hm fc inj f (Wt b n cp) fX (N:Int) (bl N dW);exact⟨_,eS (df g1 (aM g2 (e7 oM (aM gg (gJ rfl (df (xV fX) (aM (by rw[tk fX];exact cZ) (jL bN (aM (by rw[tk fX];exact aS) (f8 (aM ap rfl))))))))))),.inr (.inl ⟨b,n,jC,rfl,cp,av⟩)⟩
   left;have bN:kB (t.cK m (fun j=>(I j:Rat)) n)<=0:=(by have : ¬0<kB (t.cK m (fun j=>(I j:Rat)) n):=fun c=>qJ (r4.1 c);omega);exact⟨(),eS (df g1 (aM g2 (e7 oM (aM gg (gJ rfl (df (xV fX) (aM (by rw[tk fX];exact cZ) (jY bN (by rw[lK]))))))))),next fun _=>qJ⟩
 exact⟨_,by unfold uL;exact f8 rfl,.inl ⟨rfl,cE⟩⟩
def sl (N:Int)(o8:Zn)(free:Zk)(obj:ar)(s:Bool×ar×Zi×ar):Option ((Bool×ar×Zi×ar)⊕((Bool×ar×Zi×ar)⊕(Bool×ar×Zi×ar))) :=
 match xe N s.1 s.2.1 o8 s.2.2.1 s.2.2.2 free obj 0 with
 | none=>none
 | some (.inl (true,bj))=>some (.inl bj)
 | some (.inl (false,bj))=>some (.inr (.inl bj))
 | some (.inr ())=>some (.inr (.inr s))
theorem RM {N:Int}{o8:Zn}{free:Zk}{obj:ar}: ∀s r,iter (sl N o8 free obj) s=some r->Cj N o8 free obj true s.1 s.2.1 s.2.2.1 s.2.2.2=some r:=by
 unfold Cj;apply iter.partial_correctness (sl N o8 free obj) (fun s r=>iter (fun w:Bool×Bool×ar×Zi×ar=>sQ N o8 free obj w.1 w.2.1 w.2.2.1 w.2.2.2.1 w.2.2.2.2) (true,s.1,s.2.1,s.2.2.1,s.2.2.2)=some r);intro it ih s r ah
 cases U:xe N s.1 s.2.1 o8 s.2.2.1 s.2.2.2 free obj 0 with
 | none=>unfold sl at ah;rw[U] at ah;simp at ah
 | some x =>
  have hm:sQ N o8 free obj true s.1 s.2.1 s.2.2.1 s.2.2.2=match x with
   | .inl g7=>(some (.inl (g7.1,g7.2.1,g7.2.2.1,g7.2.2.2.1,g7.2.2.2.2)))
   | .inr g7=>(some (.inr (.inr (s.1,s.2.1,s.2.2.1,s.2.2.2)))):=by
   unfold sQ;refine e7 rfl ?_
   cases x with
   | inl a=>exact aM U rfl
   | inr a=>exact aM U rfl
  unfold sl at ah;rw[U] at ah;rw[iter];simp only;rw[hm]
  match x,ah with
  | .inl (true,bj),ah=>exact ih _ _ ah
  | .inl (false,bj),ah =>
   simp at ah;subst ah;show iter _ (false,bj.1,bj.2.1,bj.2.2.1,bj.2.2.2)=_;rw[iter];simp only;unfold sQ;rfl
  | .inr (),ah =>
   simp at ah;subst ah;rfl
theorem RN {da m N M:Nat}{A:Nat->Nat->Rat}(hm:m<=20)(fc:N<1000){h:Nat->Nat}{w:Rat}{t:b1}(ok:e4 da m N A t)(f:nU m N w t)(I:Nat->Int)(ae:∀j,j<N-> -100<=I j/\I j<=100)(dW:Nat->Bool){d9:Zi}(fX:lo m N M h w t d9):
 Ck (N:Int) (bB w).c5 (bB w).c2 (f7 m N h) d9 (ed m t) (bl N I) 0 (bl N dW)=some (bl N fun j=>dW j && !decide (t.cK m (fun j=>(I j:Rat)) j<0)):=by
 unfold Ck
 obtain⟨s,e,-⟩:=jq (f:=fun q:Int×Zk=>uM (N:Int) (bB w).c5 (bB w).c2 (f7 m N h) d9 (ed m t) (bl N I) q.1 q.2)
  (fun (i:Nat) (_:Unit)=>((i:Int),bl N fun j=>if j<i then dW j && !decide (t.cK m (fun j=>(I j:Rat)) j<0) else dW j)) N (fun _ _=>True) (fun _=>bl N fun j=>dW j && !decide (t.cK m (fun j=>(I j:Rat)) j<0))
  (fun n aZ _ _=>by
    refine⟨(),?_,trivial⟩
    have same:dW n=(dW n && !decide (t.cK m (fun j=>(I j:Rat)) n<0))->(aa ((n:Int)+1),bl N fun j=>if j<n then dW j && !decide (t.cK m (fun j=>(I j:Rat)) j<0) else dW j)=(((n+1:Nat):Int),bl N fun j=>if j<n+1 then dW j && !decide (t.cK m (fun j=>(I j:Rat)) j<0) else dW j):=fun he=>by
     rw[f6 (by omega)];congr 1;refine fF fun j _=> ?_;by_cases c:j=n
     ·subst c;rw[dz (by omega),dy (by omega)];exact he
     by_cases cq:j<n
     ·rw[dy cq,dy (by omega)]
     rw[dz cq,dz (by omega)]
    have g1 : ∀F:Nat->Bool,0<=((n:Nat):Int)/\((n:Nat):Int)<((bl N F).length:Nat):=fun F=>(by rw[fm];omega);have g2:(bl N fun j=>if j<n then dW j && !decide (t.cK m (fun j=>(I j:Rat)) j<0) else dW j)[(0+((n:Nat):Int).toNat)]? = some (dW n):=(by rw[dA,jM aZ,dz (by omega)]);unfold uM;by_cases oM:dW n=true
    ·obtain⟨b,gg,hx⟩:=HZ (m:=m) (by omega) t n
     cases b with
     | true =>
      obtain⟨i,ad,gN⟩:=hx.1 rfl;refine eS (df (g1 _) (aM g2 (e7 oM (aM gg (e7 rfl ?_)))));simp only;rw[same];rw[<- gN,ok.xE _ ad,decide_eq_false (by grind)];simp
     | false =>
      have cZ:=J8 hm fc f I ae ((⟨(bB w).c5,(bB w).c2⟩:br)) rfl (N:Int) (bl N fun j=>if j<n then dW j && !decide (t.cK m (fun j=>(I j:Rat)) j<0) else dW j) aZ
      have bN:kB (t.cK m (fun j=>(I j:Rat)) n)<0↔t.cK m (fun j=>(I j:Rat)) n<0:=by
       unfold kB;by_cases c:t.cK m (fun j=>(I j:Rat)) n=0
       ·rw[dy c,c];constructor
        ·intro h;omega
        intro h;grind
       rw[dz c];by_cases cq:t.cK m (fun j=>(I j:Rat)) n<0
       ·rw[dy cq];simp[cq]
       rw[dz cq];constructor
       ·intro h;omega
       intro h;exact(cq h).elim
      by_cases qJ:t.cK m (fun j=>(I j:Rat)) n<0
      ·refine eS (df (g1 _) (aM g2 (e7 oM (aM gg (gJ rfl (df (xV fX) (aM (by rw[tk fX];exact cZ) (jY (bN.2 qJ) (dh ?_)))))))))
       simp only;rw[f6 (by omega),dA,dG,mO];congr 3;refine fF fun j _=> ?_;by_cases c:j=n
       ·subst c;rw[dy rfl,dy (by omega),decide_eq_true qJ];simp
       rw[dz c];by_cases cq:j<n
       ·rw[dy cq,dy (by omega)]
       rw[dz cq,dz (by omega)]
      refine eS (df (g1 _) (aM g2 (e7 oM (aM gg (gJ rfl (df (xV fX) (aM (by rw[tk fX];exact cZ) (jL (fun c=>qJ (bN.1 c)) ?_))))))));simp only;rw[same];rw[decide_eq_false qJ];simp
    have BV:dW n=false:=(by simpa using oM);refine eS (df (g1 _) (aM g2 (gJ BV ?_)));simp only;rw[same];rw[BV];simp)
  (fun _ _=>by unfold uM;refine f8 ?_;simp only;congr 2;exact fF fun j ao=>by rw[dy ao]) () trivial
 have e0:(bl N fun j=>if j<0 then dW j && !decide (t.cK m (fun j=>(I j:Rat)) j<0) else dW j)=bl N dW:=fF fun j _=>by rw[dz (by omega)]
 rw[e0] at e;exact e
theorem PJ {da m N M:Nat}{A:Nat->Nat->Rat}(hm:m<=20)(fc:N<1000){h:Nat->Nat}(inj:∀i,i<m-> ∀k,k<m->h i=h k->i=k)(I:Nat->Int)(ae:∀j,j<N-> -100<=I j/\I j<=100)(dW:Nat->Bool)
 (Inv:Rat->b1->Prop) (inv : ∀w t,Inv w t->e4 da m N A t/\t.jP m N/\nU m N w t)
 (fU : ∀w t r s,Inv w t->nN m N 1 (fun _ j=>(I j:Rat)) (fun j=>dW j=true) t r s->rm m N w t r s/\Inv (nn w t r s) (t.ch r s)) {w:Rat} {t:b1} (cE:Inv w t) {d9:Zi} (fX:lo m N M h w t d9) :
 ∃b bc cx jC ns,uZ (bB w).c5 (bB w).c2 (N:Int) (f7 m N h) d9 (ed m t) (bl N dW) (bl N I)=some (b,(bB bc).c5,(bB bc).c2,jC,ed m cx,bl N ns)/\Inv bc cx/\lo m N M h bc cx jC /\
  ((b=true/\(∀j,j<N->dW j=true-> ¬0<cx.cK m (fun j=>(I j:Rat)) j)/\ns=fun j=>dW j && !decide (cx.cK m (fun j=>(I j:Rat)) j<0))\/(b=false/\ ∃s,s<N/\dW s=true/\0<cx.cK m (fun j=>(I j:Rat)) s/\ ∀i,i<m-> ¬0<cx.T i s)):=by
 obtain⟨ok,kF,zv⟩:=inv w t cE
 obtain⟨x,cP,cx,e,-,-,-,bc,jC,o,J,an⟩:=P2 (da:=da) (m:=m) (N:=N) (K:=1) (A:=A) (obj:=fun _ j=>(I j:Rat)) (bw:=fun j=>dW j=true)
  (f:=sl (N:Int) (f7 m N h) (bl N dW) (bl N I))
  (fun s t=> ∃w d9,s=((bB w).c5,(bB w).c2,d9,ed m t)/\Inv w t/\lo m N M h w t d9)
  (fun s x t=> ∃w d9,Inv w t/\lo m N M h w t d9/\((x = .inl ((bB w).c5,(bB w).c2,d9,ed m t)/\ ∀j,j<N->dW j=true-> ¬0<t.cK m (fun j=>(I j:Rat)) j) \/
    (x = .inr ((bB w).c5,(bB w).c2,d9,ed m t)/\ ∃s,s<N/\dW s=true/\0<t.cK m (fun j=>(I j:Rat)) s/\ ∀i,i<m-> ¬0<t.T i s)))
  (fun s t cb ok _=>by
    obtain⟨w,d9,rfl,cE,fX⟩:=cb;obtain⟨x,e,U⟩:=Qi hm fc inj ok (inv w t cE).2.2 I ae dW (fun r s b=>(fU w t r s cE b).1) fX;rcases U with ⟨rfl,U⟩|⟨r,s,jC,rfl,cp,VJ⟩|⟨rfl,U⟩
    ·left;exact⟨_,by unfold sl;simp only;rw[e],w,d9,cE,fX,.inl ⟨rfl,U⟩⟩
    ·right;exact⟨_,r,s,by unfold sl;simp only;rw[e],cp,nn w t r s,jC,rfl,(fU w t r s cE cp).2,VJ⟩
    left;exact⟨_,by unfold sl;simp only;rw[e],w,d9,cE,fX,.inr ⟨rfl,U⟩⟩)
  (a:=((bB w).c5,(bB w).c2,d9,ed m t)) (t:=t) ⟨w,d9,rfl,cE,fX⟩ ok kF
 have av:=RM _ _ e;obtain⟨jv,YC,VK⟩:=inv bc cx o;rcases an with ⟨rfl,an⟩|⟨rfl,an⟩
 ·refine⟨true,bc,cx,jC,_,?_,o,J,.inl ⟨rfl,an,rfl⟩⟩;unfold uZ;exact aM av (aM (RN hm fc jv VK I ae dW J) rfl)
 refine⟨false,bc,cx,jC,dW,?_,o,J,.inr ⟨rfl,an⟩⟩;unfold uZ;exact aM av rfl
def fY (m:Nat)(A:Nat->Nat->Rat)(t:b1):Rat:=if 0<t.D m A then t.D m A else -(t.D m A)
theorem SW {m N:Nat}{A:Nat->Nat->Rat}{t:b1}(h:t.D m A≠0):0<fY m A t:=by unfold fY;split<;>grind
theorem K7 {m K:Nat}{A:Nat->Nat->Rat}{t:b1}{x:Rat}(h:d2 K (x*t.D m A)):d2 K (x*fY m A t):=by
 unfold fY;split
 ·exact h
 have:=h.neg;rw[show x * -(t.D m A) = -(x*t.D m A) by grind];exact this
theorem lV.qy {m N:Nat}{A:Nat->Nat->Rat}(s:Small m N A){t:b1}(h:lV m N A t):nU m N (fY m A t) t where
 pos:=SW (N:=N) h.rO
 hw:=by have o:d2 fB (1*t.D m A):=(by rw[Rat.one_mul];exact h.Mo s);have:=K7 o;rw[Rat.one_mul] at this;exact this.mono (by generalize fB=q;omega)
 hv:=fun i ad j ao=>K7 (h.BT s ad ao)
 gN:=h.ok.jU
theorem lV.tM {m N:Nat}{A:Nat->Nat->Rat}(s:Small m N A){t:b1}(h:lV m N A t){r k:Nat}(ah:r<m)(aL:k<N)(af:t.T r k≠0):rm m N (fY m A t) t r k where
 ah:=ah
 aL:=aL
 af:=af
 wV:=fun i ad j ao=>by
  have jv:=h.ok.ch ah aL af
  have o:d2 fB ((t.ch r k).T i j*(t.ch r k).D m A):=by
   rw[<- jv.w2 ad ao];refine d2.mono (AS fun cA ls c aJ=> ?_) (Eh▸AA (by omega) s.hm);simp only[fe];split
   ·exact s.sL c aJ j ao
   exact s.sL c aJ _ (Nat.le_of_lt (jv.jU cA ls))
  rw[h.ok.yj ah aL] at o;unfold fY;split
  ·exact o
  have:=o.neg;rw[show (t.ch r k).T i j*(t.T r k * -(t.D m A)) = -((t.ch r k).T i j*(t.T r k*t.D m A)) by grind];exact this
theorem D7 {m N:Nat}{A:Nat->Nat->Rat}{t:b1}(h:e4 m m N A t)(bk:t.D m A≠0){r k:Nat}(ah:r<m)(aL:k<N)(af:t.T r k≠0):nn (fY m A t) t r k=fY m A (t.ch r k):=by
 have e:=h.yj ah aL;unfold nn fY;rw[e];by_cases bG:0<t.T r k<;>by_cases cq:0<t.D m A
 ·rw[dy bG,dy cq,dy (Rat.mul_pos bG cq)]
 ·have:=Rat.mul_pos bG (show 0 < -(t.D m A) by grind);rw[dy bG,dz cq,dz (by grind)];grind
 ·have:=Rat.mul_pos (show 0 < -(t.T r k) by grind) cq;rw[dz bG,dy cq,dz (by grind)]
 have:=Rat.mul_pos (show 0 < -(t.T r k) by grind) (show 0 < -(t.D m A) by grind);rw[dz bG,dz cq,dy (by grind)];grind
def gS (h:Nat->Nat)(t:b1):b1:=⟨fun i j=>t.T (h i) j,fun i=>t.B (h i)⟩
theorem xO {h:Nat->Nat}{t:b1}{r k i:Nat}(eP:h i=h r->i=r):(∀j,((gS h t).ch r k).T i j=(gS h (t.ch (h r) k)).T i j)/\((gS h t).ch r k).B i=(gS h (t.ch (h r) k)).B i:=by
 simp only[b1.ch,gS];by_cases c:i=r
 ·subst c;simp
 have:h i≠h r:=fun e=>c (eP e);simp[c,this]
theorem IF {α:Type}{m i:Nat}(ad:i<m)(f:Nat->α):(bl m f).take (i-0)++((bl m f).drop (0+(i+1))).take (m-(i+1))=bl (m-1) (skip i f):=by
 apply Zb;intro j;rw[Nat.sub_zero,dG];have aw:((bl m f).take i).length=i:=by rw[List.length_take,fm];omega
 by_cases c:j<i
 ·rw[Y1 (by omega),dR,dy c,iH (by omega),iH (by omega)];simp only[skip];rw[dy c]
 rw[Y6 (by omega),aw,dR,Y7];by_cases cq:j<m-1
 ·rw[dy (by omega),iH (by omega),iH cq];simp only[skip];rw[dz c];congr 2;omega
 rw[dz (by omega)]
 symm
 rw[List.getElem?_eq_none_iff,fm];omega
theorem PK {m N M n:Nat}(fc:N<1000)(aZ:n<=N){h:Nat->Nat}{w:Rat}{t:b1}(f:nU m N w t){d9:Zi}(fX:lo m N M h w t d9){i:Nat}(ad:i<m)(gg:Bool)(hx:ar)(aY:Int)(a9:ar)(b8:Zk):
 ∃k:Nat,Cq (n:Int) (i:Int) gg hx aY (f7 m N h) d9 a9 b8 0=some (k:Int)/\k<=n/\(k<n->t.T i k≠0)/\ ∀j,j<k->t.T i j=0:=by
 unfold Cq
 obtain⟨r,e,k,rfl,o,J,an⟩:=pB (f:=fun q:Int=>uU (n:Int) (i:Int) gg hx aY (f7 m N h) d9 a9 b8 q) (fun (c:Nat) (_:Unit)=>(c:Int)) n (fun c _=> ∀j,j<c->t.T i j=0)
  (fun r=> ∃k:Nat,r=(k:Int)/\k<=n/\(k<n->t.T i k≠0)/\ ∀j,j<k->t.T i j=0)
  (fun c aJ _ cE=>by
    have hw:=f.pos;have bN:=r5 ((f.hv i ad c (by omega)).mono (rl (by have:=pE;generalize fB=q at *;omega)));unfold uU;by_cases B9:t.T i c=0
    ·left
     refine⟨(),eS (df (by unfold f7;rw[fm];omega) (aM (x:=some (h i,N+1)) (by rw[dA];exact jM ad) (aM (x:=(h i,N+1)) rfl (aM (fX.row i ad) (dh (aM (x:=bB (t.T i c*w)) (by rw[dA];exact jM (by omega)) (aM bN (e7 (by rw[vX hw,xN.2 B9];rfl) (by rw[f6 (by omega)]))))))))),fun j ao=> ?_⟩;by_cases e:j=c
     ·rw[e];exact B9
     exact cE j (by omega)
    right;exact⟨_,eS (df (by unfold f7;rw[fm];omega) (aM (x:=some (h i,N+1)) (by rw[dA];exact jM ad) (aM (x:=(h i,N+1)) rfl (aM (fX.row i ad) (dh (aM (x:=bB (t.T i c*w)) (by rw[dA];exact jM (by omega)) (aM bN (gJ (by rw[vX hw];exact y9 (fun c=>B9 (xN.1 c))) rfl)))))))),c,rfl,by omega,fun _=>B9,cE⟩)
  (fun _ cE=>⟨_,by unfold uU;exact f8 rfl,n,rfl,dF _,fun c=>by omega,cE⟩) () (fun j ao=>by omega)
 exact⟨k,e,o,J,an⟩
structure k2 (m n N:Nat) (A:Nat->Nat->Rat) (t:b1) (aX:Nat) (h:Nat->Nat):Prop where
 inv:lV m N A t
 z : ∀i,i<m->n<=t.B i->t.T i N=0
 le:aX<=m
 lt : ∀i,i<aX->h i<m
 inj : ∀i,i<aX-> ∀k,k<aX->h i=h k->i=k
 dead : ∀d,d<m->(∀i,i<aX->h i≠d)->n<=t.B d/\ ∀j,j<n->t.T d j=0
theorem k2.qy {m n N aX:Nat}{A:Nat->Nat->Rat}{t:b1}{h:Nat->Nat}(s:Small m N A)(a:k2 m n N A t aX h):nU aX N (fY m A t) (gS h t) :=
 have f:=a.inv.qy s
 ⟨f.pos,f.hw,fun i ad j ao=>f.hv (h i) (a.lt i ad) j ao,fun i ad=>f.gN (h i) (a.lt i ad)⟩
theorem k2.tM {m n N aX:Nat}{A:Nat->Nat->Rat}{t:b1}{h:Nat->Nat}(s:Small m N A)(a:k2 m n N A t aX h){r k:Nat}(ah:r<aX)(aL:k<N)(af:t.T (h r) k≠0):rm aX N (fY m A t) (gS h t) r k :=
 have f:=a.inv.tM s (a.lt r ah) aL af
 ⟨ah,aL,af,fun i ad j ao=>by rw[(xO (t:=t) (k:=k) (a.inj i ad r ah)).1 j];exact f.wV (h i) (a.lt i ad) j ao⟩
theorem k2.ch {m n N aX:Nat}{A:Nat->Nat->Rat}{t:b1}{h:Nat->Nat}(FO:n<=N)(a:k2 m n N A t aX h){r k:Nat}(ah:r<aX)(aL:k<n)(aE:n<=t.B (h r))(af:t.T (h r) k≠0):k2 m n N A (t.ch (h r) k) aX h:=by
 have bY:=a.z (h r) (a.lt r ah) aE
 have fR : ∀i,(t.ch (h r) k).T i N=t.T i N:=fun i=>by
  simp only[b1.ch];split
  ·rename_i e;rw[e,bY];grind
  rw[bY];grind
 refine⟨⟨a.inv.ok.ch (a.lt r ah) (by omega) af,fun i ad=>by rw[fR];exact a.inv.kF i ad,?_⟩,fun i ad gN=> ?_,a.le,a.lt,a.inj,fun d bk gH=> ?_⟩
 ·rw[a.inv.ok.yj (a.lt r ah) (by omega)];have:=a.inv.rO;grind
 ·rw[fR]
  simp only[b1.ch] at gN;by_cases c:i=h r
  ·rw[dy c] at gN;omega
  rw[dz c] at gN;exact a.z i ad gN
 obtain⟨o,J⟩:=a.dead d bk gH;have cc:d≠h r:=fun e=>gH r ah e.symm;simp only[b1.ch,dz cc];refine⟨o,fun j ao=> ?_⟩;rw[J j ao,J k aL];grind
theorem QY {m n N:Nat}{A:Nat->Nat->Rat}(s:Small m N A)(fc:N<1000)(FO:n<=N)(free:Zk){t:b1}(b3:lV m N A t)(bY:∀i,i<m->n<=t.B i->t.T i N=0){d9:Zi}(fX:lo m N m (fun i=>i) (fY m A t) t d9):
 ∃cx aX h jC,xi (n:Int) (bB (fY m A t)).c5 (bB (fY m A t)).c2 (N:Int) (f7 m N fun i=>i) d9 (ed m t) free=some ((bB (fY m A cx)).c5,(bB (fY m A cx)).c2,f7 aX N h,jC,ed aX (gS h cx)) /\
  k2 m n N A cx aX h/\(∀i,i<aX->cx.B (h i)<n)/\lo aX N m h (fY m A cx) (gS h cx) jC:=by
 have hm:=s.hm;unfold xi G1
 obtain⟨x,e,cx,aX,h,jC,rfl,o,J,an⟩:=mc (f:=fun w:Int×Bool×ar×Zn×Zi×ar=>xc (n:Int) (N:Int) free w.1 w.2.1 w.2.2.1 w.2.2.2.1 w.2.2.2.2.1 w.2.2.2.2.2)
  (fun w=> ∃(i aX:Nat) (h:Nat->Nat) (t:b1) (p:Zi),w=((i:Int),(bB (fY m A t)).c5,(bB (fY m A t)).c2,f7 aX N h,p,ed aX (gS h t))/\i<=aX/\k2 m n N A t aX h/\(∀q,q<i->t.B (h q)<n)/\lo aX N m h (fY m A t) (gS h t) p)
  (fun w=>w.2.2.2.1.length-w.1.toNat)
  (fun x=> ∃cx aX h jC,x=((bB (fY m A cx)).c5,(bB (fY m A cx)).c2,f7 aX N h,jC,ed aX (gS h cx))/\k2 m n N A cx aX h/\(∀i,i<aX->cx.B (h i)<n)/\lo aX N m h (fY m A cx) (gS h cx) jC)
  (fun w hw=>by
    obtain⟨i,aX,h,t,p,rfl,ad,bs,aU,af⟩:=hw;have jd:=bs.le;have rC:(f7 aX N h).length=aX:=fm ..;have FP:(ed aX (gS h t)).length=aX:=fm ..;simp only;unfold xc;by_cases c:i<aX
    ·left
     have g1:0<=(i:Int)/\(i:Int)<((ed aX (gS h t)).length:Nat):=(by rw[FP];omega);have g2:(ed aX (gS h t))[(0+((i:Int)).toNat)]? = some ((t.B (h i):Nat):Int):=(by rw[dA];exact jM c);by_cases zJ:t.B (h i)<n
     ·refine⟨(((i+1:Nat):Int),(bB (fY m A t)).c5,(bB (fY m A t)).c2,f7 aX N h,p,ed aX (gS h t)),jY (by rw[rC];omega) (df g1 (aM g2 (eS (by rw[f6 (by omega)])))),⟨i+1,aX,h,t,p,rfl,by omega,bs,fun q lY=> ?_,af⟩,by simp only[rC];omega⟩
      by_cases e:q=i
      ·rw[e];exact zJ
      exact aU q (by omega)
     obtain⟨k,jK,hU,kf,Gd⟩:=PK fc FO (bs.qy s) af c (bB (fY m A t)).c5 (bB (fY m A t)).c2 (N:Int) (ed aX (gS h t)) free;by_cases Gh:k<n
     ·have FQ:t.T (h i) k≠0:=kf Gh
      obtain⟨iQ,ap,av⟩:=J9 (by omega) fc bs.inj (bs.qy s) (bs.tM s c (by omega) FQ) af (N:Int) free;have sM:nn (fY m A t) (gS h t) i k=fY m A (t.ch (h i) k):=D7 bs.inv.ok bs.inv.rO (bs.lt i c) (by omega) FQ;have Wu:ed aX ((gS h t).ch i k)=ed aX (gS h (t.ch (h i) k)):=fF fun q lY=>(by have:=(xO (t:=t) (k:=k) (bs.inj q lY i c)).2;rw[this]);rw[sM,Wu] at ap;rw[sM] at av;refine⟨(((i+1:Nat):Int),(bB (fY m A (t.ch (h i) k))).c5,(bB (fY m A (t.ch (h i) k))).c2,f7 aX N h,iQ,ed aX (gS h (t.ch (h i) k))),jY (by rw[rC];omega) (df g1 (aM g2 (f8 (aM jK (eS (aM ap (by rw[f6 (by omega)]))))))),⟨i+1,aX,h,t.ch (h i) k,iQ,rfl,by omega,bs.ch FO c Gh (by omega) FQ,fun q lY=> ?_,av.len,fun q lY=> ?_⟩,by simp only[rC];omega⟩
      ·simp only[b1.ch]
       split
       ·exact Gh
       rename_i cc;have:q≠i:=fun e=>cc (by rw[e]);exact aU q (by omega)
      rw[av.row q lY];congr 1;exact fF fun j _=>by rw[(xO (t:=t) (k:=k) (bs.inj q lY i c)).1 j]
     have YD:k=n:=(by omega);have zo:aa ((i:Int)+1)=((i+1:Nat):Int):=f6 (by omega);have FF:(((f7 aX N h).drop (0+(i+1))).take (aX-(i+1))).length=aX-(i+1):=(by rw[List.length_take,List.length_drop,rC];omega);have BH:(((ed aX (gS h t)).drop (0+(i+1))).take (aX-(i+1))).length=aX-(i+1):=(by rw[List.length_take,List.length_drop,FP];omega);have cl:(f7 aX N h).take (i-0)++((f7 aX N h).drop (0+(i+1))).take (aX-(i+1))=f7 (aX-1) N (skip i h):=IF c _;have eI:(ed aX (gS h t)).take (i-0)++((ed aX (gS h t)).drop (0+(i+1))).take (aX-(i+1))=ed (aX-1) (gS (skip i h) t):=IF c _;refine⟨((i:Int),(bB (fY m A t)).c5,(bB (fY m A t)).c2,f7 (aX-1) N (skip i h),p,ed (aX-1) (gS (skip i h) t)),jY (by rw[rC];omega) (df g1 (aM g2 (f8 (aM jK (f8 ?_))))),⟨i,aX-1,skip i h,t,p,rfl,by omega,⟨bs.inv,bs.z,by omega,fun q lY=> ?_,fun q lY a9 Bl e=> ?_,fun d bk gH=> ?_⟩,fun q lY=> ?_,af.len,fun q lY=> ?_⟩,?_⟩
     ·rw[zo,dA,dA,rC,FP,FF,BH,cl,eI];exact dh (dh (dh (dh (dh (dh (dh (dh (dh (dh (dh (dh rfl)))))))))))
     ·simp only[skip];split<;>exact bs.lt _ (by omega)
     ·simp only[skip] at e;have:=bs.inj _ (by split<;>omega) _ (by split<;>omega) e;split at this<;>split at this<;>omega
     ·by_cases MR:d=h i
      ·rw[MR];exact⟨by omega,fun j ao=>Gd j (by omega)⟩
      refine bs.dead d bk fun q lY=> ?_;by_cases bG:q<i
      ·have:=gH q (by omega);simp only[skip] at this;rw[dy bG] at this;exact this
      by_cases cq:q=i
      ·rw[cq];exact fun e=>MR e.symm
      have:=gH (q-1) (by omega);simp only[skip] at this;rw[dz (by omega),show q-1+1=q by omega] at this;exact this
     ·simp only[skip];rw[dy lY];exact aU q lY
     ·simp only[skip]
      by_cases bG:q<i
      ·rw[dy bG,af.row q (by omega)];congr 1;exact fF fun j _=>by simp only[gS,skip];rw[dy bG]
      rw[dz bG,af.row (q+1) (by omega)];congr 1;exact fF fun j _=>by simp only[gS,skip];rw[dz bG]
     simp only[rC,show (f7 (aX-1) N (skip i h)).length=aX-1 from fm ..];omega
    right;have VM:i=aX:=(by omega);subst VM;exact⟨_,jL (by rw[rC];omega) rfl,t,i,h,p,rfl,bs,aU,af⟩)
  ((0:Int),(bB (fY m A t)).c5,(bB (fY m A t)).c2,f7 m N (fun i=>i),d9,ed m t)
  ⟨0,m,fun i=>i,t,d9,rfl,by omega,⟨b3,bY,dF _,fun i ad=>ad,fun i _ k _ e=>e,fun d bk gH=>(gH d bk rfl).elim⟩,fun q aU=>by omega,fX.len,fX.row⟩
 exact⟨cx,aX,h,jC,aM e rfl,o,J,an⟩
theorem Ka:(⟨false,([]:ar)⟩:br)=bB 0:=by show _=iX (0:Rat).num;rw[show (0:Rat).num=0 from rfl];unfold iX;rw[show L ((0:Int).natAbs:Int)=[] from yh.2 (by simp)];rfl
theorem DN {α:Type}(l:List α)(x:α):(l++[x])[l.length]? = some x:=by simp
theorem vY {α:Type}(l:List α)(x y:α):(l++[x]).set l.length y=l++[y]:=by simp
theorem Kb {p:nG}{m n:Nat}{a:Nat->Nat->Int}{b:Nat->Int}(h:pk p m n a b){i:Nat}(ad:i<m):vh i p.lT p.j6 p.gp p.gq p.m4=some (i*n,n):=by
 have hm:=h.hm;have aZ:=h.aZ;have o:i*n<=20*40:=Nat.mul_le_mul (by omega) aZ;have J:(i+1)*n<=20*40:=Nat.mul_le_mul (by omega) aZ;have an:(i+1)*n<=m*n:=Y5 _ ad;have ap:aa ((i:Int)*p.j6)=((i*n:Nat):Int):=by rw[h.hd,<- Int.natCast_mul,cQ (by omega) (by omega)]
 have av:aa (aa ((i:Int)+1)*p.j6)=(((i+1)*n:Nat):Int):=by rw[h.hd,f6 (by omega),<- Int.natCast_mul,cQ (by omega) (by omega)]
 have aG:(i+1)*n=i*n+n:=Nat.succ_mul i n;unfold vh;rw[ap,av,dA,dA,h.lI];refine dh (dh (df ⟨by omega,an⟩ ?_));rw[show 0+i*n=i*n by omega,show (i+1)*n-i*n=n by omega]
theorem Pn {p:nG}{m n:Nat}{a:Nat->Nat->Int}{b:Nat->Int}(h:pk p m n a b){i:Nat}(ad:i<m)(aE:b i<0)(x0:Int)(kj:Bool)(fw:ar)(a9:Zn)(cD:ar)(eE:Zk)(P:Zi):
 CJ x0 (i:Int) P.length (n+m+1) p.lT (i*n) n ((n:Nat):Int) p.j6 p.gp p.gq p.m4 kj fw a9 cD eE 0 (P++[bl (n+m+1) fun _=>bB 0])=some (P++[bl (n+m+1) fun j=>if j<n then bB (dg m n a b i j) else bB 0]):=by
 have hm:=h.hm;have aZ:=h.aZ;have bN:kz (b i) = -1:=by unfold kz;rw[dy aE]
 unfold CJ
 obtain⟨s1,ap,-⟩:=jq (f:=fun w:Int×Zi=>u5 x0 (i:Int) P.length (n+m+1) p.lT (i*n) n ((n:Nat):Int) p.j6 p.gp p.gq p.m4 kj fw a9 cD eE w.1 w.2)
  (fun (k:Nat) (_:Unit)=>((k:Int),P++[bl (n+m+1) fun j=>if j<k then bB (dg m n a b i j) else bB 0])) n (fun _ _=>True) (fun _=>P++[bl (n+m+1) fun j=>if j<n then bB (dg m n a b i j) else bB 0])
  (fun k aL _ _=>by
    refine⟨(),?_,trivial⟩;have bs:=h.zH i ad k aL;have e:aa ((-1:Int)*a i k)=mG m n a b i k:=(by rw[cQ (by omega) (by omega)];unfold mG;rw[dy aL,bN]);unfold u5;refine eS (dh (aM (x:=a i k) (by simp only;rw[dA];exact h.ED i ad k aL) (aM (x:=bB (dg m n a b i k)) (by rw[e];exact qV (by have:=ym h ad k;rw[qZ];omega)) (aM (DN _ _) (dh (aM (by simp only;rw[dA];exact jM (by omega)) ?_))))));simp only;rw[f6 (by omega),dA,dG,mO,vY];congr 5;refine fF fun j _=> ?_;by_cases bG:j=k
    ·subst bG;rw[dy rfl,dy (by omega)]
    rw[dz bG];by_cases cq:j<k
    ·rw[dy cq,dy (by omega)]
    rw[dz cq,dz (by omega)])
  (fun _ _=>by unfold u5;exact f8 rfl) () trivial
 have e0:(bl (n+m+1) fun j=>if j<0 then bB (dg m n a b i j) else bB 0)=bl (n+m+1) fun _=>bB 0:=fF fun j _=>by rw[dz (by omega)]
 rw[e0] at ap;exact ap
theorem Po {p:nG}{m n:Nat}{a:Nat->Nat->Int}{b:Nat->Int}(h:pk p m n a b){i:Nat}(ad:i<m)(aE:¬b i<0)(x0:Int)(kj:Bool)(fw:ar)(a9:Zn)(cD:ar)(eE:Zk)(P:Zi):
 CK x0 (i:Int) P.length (n+m+1) p.lT (i*n) n ((n:Nat):Int) p.j6 p.gp p.gq p.m4 kj fw a9 cD eE 0 (P++[bl (n+m+1) fun _=>bB 0])=some (P++[bl (n+m+1) fun j=>if j<n then bB (dg m n a b i j) else bB 0]):=by
 have hm:=h.hm;have aZ:=h.aZ;have bN:kz (b i)=1:=by unfold kz;rw[dz aE]
 unfold CK
 obtain⟨s1,ap,-⟩:=jq (f:=fun w:Int×Zi=>u6 x0 (i:Int) P.length (n+m+1) p.lT (i*n) n ((n:Nat):Int) p.j6 p.gp p.gq p.m4 kj fw a9 cD eE w.1 w.2)
  (fun (k:Nat) (_:Unit)=>((k:Int),P++[bl (n+m+1) fun j=>if j<k then bB (dg m n a b i j) else bB 0])) n (fun _ _=>True) (fun _=>P++[bl (n+m+1) fun j=>if j<n then bB (dg m n a b i j) else bB 0])
  (fun k aL _ _=>by
    refine⟨(),?_,trivial⟩;have bs:=h.zH i ad k aL;have e:aa ((1:Int)*a i k)=mG m n a b i k:=(by rw[cQ (by omega) (by omega)];unfold mG;rw[dy aL,bN]);unfold u6;refine eS (dh (aM (x:=a i k) (by simp only;rw[dA];exact h.ED i ad k aL) (aM (x:=bB (dg m n a b i k)) (by rw[e];exact qV (by have:=ym h ad k;rw[qZ];omega)) (aM (DN _ _) (dh (aM (by simp only;rw[dA];exact jM (by omega)) ?_))))));simp only;rw[f6 (by omega),dA,dG,mO,vY];congr 5;refine fF fun j _=> ?_;by_cases bG:j=k
    ·subst bG;rw[dy rfl,dy (by omega)]
    rw[dz bG];by_cases cq:j<k
    ·rw[dy cq,dy (by omega)]
    rw[dz cq,dz (by omega)])
  (fun _ _=>by unfold u6;exact f8 rfl) () trivial
 have e0:(bl (n+m+1) fun j=>if j<0 then bB (dg m n a b i j) else bB 0)=bl (n+m+1) fun _=>bB 0:=fF fun j _=>by rw[dz (by omega)]
 rw[e0] at ap;exact ap
theorem qp {α:Type}(n:Nat)(x:α):List.replicate n x=bl n fun _=>x:=by
 apply Zb;intro i;by_cases c:i<n
 ·rw[iH c];simp[c]
 rw[List.getElem?_eq_none_iff.2 (by simp;omega),List.getElem?_eq_none_iff.2 (by rw[fm];omega)]
theorem H0 {p:nG}{m n:Nat}{a:Nat->Nat->Int}{b:Nat->Int}(h:pk p m n a b)(kj:Bool)(fw:ar)(eE:Zk):
 CL ((n+m:Nat):Int) p.lT p.j6 p.gp p.gq p.m4 kj fw eE 0 ([]:Zn) ([]:Zi) ([]:ar)=some (f7 m (n+m) (fun i=>i),bl m (fun i=>bl (n+m+1) fun j=>bB (dg m n a b i j)),ed m (nl m n a b)):=by
 have hm:=h.hm;have aZ:=h.aZ;unfold CL
 obtain⟨s,e,-⟩:=jq (f:=fun w:Int×Zn×Zi×ar=>u7 ((n+m:Nat):Int) p.lT p.j6 p.gp p.gq p.m4 kj fw eE w.1 w.2.1 w.2.2.1 w.2.2.2)
  (fun (i:Nat) (_:Unit)=>((i:Int),bl i (fun k=>(some (k,n+m+1):cr)),bl i (fun i=>bl (n+m+1) fun j=>bB (dg m n a b i j)),bl i (fun k=>((n+k:Nat):Int)))) m (fun _ _=>True)
  (fun _=>(f7 m (n+m) (fun i=>i),bl m (fun i=>bl (n+m+1) fun j=>bB (dg m n a b i j)),ed m (nl m n a b)))
  (fun i ad _ _=>by
    refine⟨(),?_,trivial⟩;have aE:=h.B8 i ad;have lK:aa (((n+m:Nat):Int)+1)=((n+m+1:Nat):Int):=f6 (by omega);have hw:aa (p.j6+(i:Int))=((n+i:Nat):Int):=(by rw[h.hd,<- Int.natCast_add,cQ (by omega) (by omega)]);have Mw:(bl i (fun i=>bl (n+m+1) fun j=>bB (dg m n a b i j))).length=i:=fm ..;have pn:mG m n a b i (n+m)=kz (b i)*b i:=by unfold mG;rw[dz (by omega),dy rfl]
    have cu:((bl (n+m+1) fun j=>if j<n then bB (dg m n a b i j) else bB 0).set (n+i) (bB ((1:Int):Rat))).set (n+m) (bB (dg m n a b i (n+m)))=bl (n+m+1) fun j=>bB (dg m n a b i j):=by
     rw[mO,mO];refine fF fun j ao=> ?_;by_cases bG:j=n+m
     ·rw[dy bG,bG]
     rw[dz bG];by_cases cq:j=n+i
     ·rw[dy cq,cq,tp ad,dy rfl];rfl
     rw[dz cq];by_cases l8:j<n
     ·rw[dy l8]
     rw[dz l8];obtain⟨k,rfl⟩ : ∃k,j=n+k:=⟨j-n,by omega⟩;rw[tp (by omega),dz (by omega)]
    unfold u7;rw[lK,hw,dA];refine jY (by simp only;rw[h.rows];omega) (dh (df (by simp only;rw[h.MO];omega) (aM (x:=b i) (by simp only[dA,dG];exact h.Lu i ad) ?_)))
    have fin:(some (Sum.inl (aa ((i:Int)+1),(bl i (fun k=>(some (k,n+m+1):cr)))++[some (i,n+m+1)],(bl i (fun i=>bl (n+m+1) fun j=>bB (dg m n a b i j)))++[bl (n+m+1) fun j=>bB (dg m n a b i j)],(bl i fun k=>((n+k:Nat):Int))++[((n+i:Nat):Int)])):Option ((Int×Zn×Zi×ar)⊕(Zn×Zi×ar))) =
     some (Sum.inl (((i+1:Nat):Int),bl (i+1) (fun k=>(some (k,n+m+1):cr)),bl (i+1) (fun i=>bl (n+m+1) fun j=>bB (dg m n a b i j)),bl (i+1) (fun k=>((n+k:Nat):Int)))):=by
     rw[f6 (by omega),xM i (fun k=>(some (k,n+m+1):cr)),xM i (fun i=>bl (n+m+1) fun j=>bB (dg m n a b i j)),xM i (fun k=>((n+k:Nat):Int))]
    have U : ∀(P:Zi) (F:Zh->Option ((Int×Zn×Zi×ar)⊕(Zn×Zi×ar))) (x:Zh) r,F x=r->(P++[x])[P.length]? >>= F=r:=fun P F x r zz=>aM (DN P x) zz;refine zA (fun c=> ?_) (fun c=> ?_)
    ·have o7:b i<0:=of_decide_eq_true c;have bN:kz (b i) = -1:=(by unfold kz;rw[dy o7]);refine aM (Kb h ad) (aM (by rw[Ka,qp];exact Pn h ad o7 _ _ _ _ _ _ _) (aM (qV (n:=1) (by rw[qZ];omega)) (U _ _ _ _ ?_)));refine dh (aM (x:=bB 0) (by rw[dA,jM (by omega),dz (by omega)]) (aM (x:=bB (dg m n a b i (n+m))) (by have e:aa ((-1:Int)*b i)=mG m n a b i (n+m):=(by rw[pn,bN,cQ (by omega) (by omega)]);rw[e];exact qV (by have:=ym h ad (n+m);rw[qZ];omega)) ?_));rw[vY,dA,dG,dA,dG];refine U _ _ _ _ (dh ?_);obtain⟨v,aT⟩ : ∃v,((bl (n+m+1) fun j=>if j<n then bB (dg m n a b i j) else bB 0).set (n+i) (bB ((1:Int):Rat)))[n+m]? = some v:=(by rw[mO,iH (by omega)];exact⟨_,rfl⟩);refine aM aT (df (by simp only[dE,fm,dM,Za];omega) (df (by simp only[dE,fm,dM,Za];omega) ?_));rw[vY];simp only[dA,dG];rw[cu,Mw];exact fin
    have o7 : ¬b i<0:=of_decide_eq_false c;have bN:kz (b i)=1:=(by unfold kz;rw[dz o7]);refine aM (Kb h ad) (aM (by rw[Ka,qp];exact Po h ad o7 _ _ _ _ _ _ _) (aM (qV (n:=1) (by rw[qZ];omega)) (U _ _ _ _ ?_)));refine dh (aM (x:=bB 0) (by rw[dA,jM (by omega),dz (by omega)]) (aM (x:=bB (dg m n a b i (n+m))) (by have e:aa ((1:Int)*b i)=mG m n a b i (n+m):=(by rw[pn,bN,cQ (by omega) (by omega)]);rw[e];exact qV (by have:=ym h ad (n+m);rw[qZ];omega)) ?_));rw[vY,dA,dG,dA,dG];refine U _ _ _ _ (dh ?_);obtain⟨v,aT⟩ : ∃v,((bl (n+m+1) fun j=>if j<n then bB (dg m n a b i j) else bB 0).set (n+i) (bB ((1:Int):Rat)))[n+m]? = some v:=(by rw[mO,iH (by omega)];exact⟨_,rfl⟩);refine aM aT (df (by simp only[dE,fm,dM,Za];omega) (df (by simp only[dE,fm,dM,Za];omega) ?_));rw[vY];simp only[dA,dG];rw[cu,Mw];exact fin)
  (fun _ _=>by unfold u7;exact jL (by simp only;rw[h.rows];omega) rfl) () trivial
 exact e
def oN (n j:Nat):Int:=if n<=j then -1 else 0
theorem KH {m n j:Nat}(ao:j<n+m):((oN n j:Int):Rat)=gR m n j:=by
 unfold oN gR;by_cases c:n<=j
 ·rw[dy c,dy ⟨c,ao⟩];rfl
 rw[dz c,dz (by omega)];rfl
theorem Kc {m n:Nat}{t:b1}(gN:∀i,i<m->t.B i<n+m){j:Nat}(ao:j<n+m):t.cK m (fun j=>((oN n j:Int):Rat)) j=t.cK m (gR m n) j:=by unfold b1.cK;simp only;rw[KH ao,en (g:=fun i=>gR m n (t.B i)*t.T i j) fun i ad=>by rw[KH (gN i ad)]]
theorem Ih {p:nG}{m n:Nat}{a:Nat->Nat->Int}{b:Nat->Int}(h:pk p m n a b)(x0:Int)(kj:Bool)(fw:ar)(a9:Zn)(b8:Zi)(cD:ar):
 CM x0 ((n+m:Nat):Int) p.lT p.j6 p.gp p.gq p.m4 kj fw a9 b8 cD 0 (bl (n+m) fun _=>(0:Int)) (bl (n+m) fun _=>false)=some (bl (n+m) (oN n),bl (n+m) fun j=>decide (j<n)):=by
 have hm:=h.hm;have aZ:=h.aZ;unfold CM
 obtain⟨s,e,-⟩:=jq (f:=fun w:Int×ar×Zk=>u9 x0 ((n+m:Nat):Int) p.lT p.j6 p.gp p.gq p.m4 kj fw a9 b8 cD w.1 w.2.1 w.2.2)
  (fun (k:Nat) (_:Unit)=>((k:Int),(bl (n+m) fun j=>if j<k then oN n j else 0),bl (n+m) fun j=>if j<k then decide (j<n) else false)) (n+m) (fun _ _=>True) (fun _=>(bl (n+m) (oN n),bl (n+m) fun j=>decide (j<n)))
  (fun k aL _ _=>by
    refine⟨(),?_,trivial⟩
    have av:(bl (n+m) fun j=>if j<k then decide (j<n) else false).set (0+((k:Int)).toNat) (decide (k<n))=bl (n+m) fun j=>if j<k+1 then decide (j<n) else false:=by
     rw[dA,dG,mO];refine fF fun j _=> ?_;by_cases c:j=k
     ·subst c;rw[dy rfl,dy (by omega)]
     rw[dz c];by_cases cq:j<k
     ·rw[dy cq,dy (by omega)]
     rw[dz cq,dz (by omega)]
    have Gi:decide ((k:Int)<p.j6)=decide (k<n):=(by rw[h.hd];simp);unfold u9;simp only;rw[Gi,av,f6 (by omega)];refine eS (dh (dh ?_));by_cases c:n<=k
    ·refine jY (by rw[h.hd];omega) (dh (dh ?_))
     rw[dA,dG,mO];congr 4;refine fF fun j _=> ?_;by_cases bG:j=k
     ·subst bG;rw[dy rfl,dy (by omega)];unfold oN;rw[dy c]
     rw[dz bG];by_cases cq:j<k
     ·rw[dy cq,dy (by omega)]
     rw[dz cq,dz (by omega)]
    refine jL (by rw[h.hd];omega) ?_;congr 4;refine fF fun j _=> ?_;by_cases bG:j=k
    ·subst bG;rw[dz (by omega),dy (by omega)];unfold oN;rw[dz c]
    by_cases cq:j<k
    ·rw[dy cq,dy (by omega)]
    rw[dz cq,dz (by omega)])
  (fun _ _=>by
    unfold u9;refine f8 ?_;simp only;congr 3
    ·exact fF fun j ao=>by rw[dy ao]
    exact fF fun j ao=>by rw[dy ao]) () trivial
 have pv:(bl (n+m) fun j=>if j<0 then oN n j else 0)=bl (n+m) fun _=>(0:Int):=fF fun j _=>by rw[dz (by omega)]
 have sN:(bl (n+m) fun j=>if j<0 then decide (j<n) else false)=bl (n+m) fun _=>false:=fF fun j _=>by rw[dz (by omega)]
 rw[pv,sN] at e;exact e
theorem Pp {p:nG}{m n:Nat}{a:Nat->Nat->Int}{b:Nat->Int}(h:pk p m n a b){w:Rat}{t:b1}(f:nU m (n+m) w t){d9:Zi}(fX:lo m (n+m) m (fun i=>i) w t d9)(kj:Bool)(fw:ar)(x0:Int)(q:Zk):
 ∃r,CN ((n+m:Nat):Int) ((m:Nat):Int) p.lT p.j6 p.gp p.gq p.m4 kj fw x0 (ed m t) (f7 m (n+m) fun i=>i) d9 q 0=some r/\((r = .inr ()/\ ∃i,i<m/\n<=t.B i/\0<t.T i (n+m))\/(r = .inl ()/\ ∀i,i<m->n<=t.B i-> ¬0<t.T i (n+m))):=by
 have hm:=h.hm;have aZ:=h.aZ;have hw:=f.pos;unfold CN
 exact pB (f:=fun w:Int=>va ((n+m:Nat):Int) ((m:Nat):Int) p.lT p.j6 p.gp p.gq p.m4 kj fw x0 (ed m t) (f7 m (n+m) fun i=>i) d9 q w) (fun (i:Nat) (_:Unit)=>(i:Int)) m (fun k _=> ∀i,i<k->n<=t.B i-> ¬0<t.T i (n+m)) _
  (fun i ad _ cE=>by
    have bN:=r5 ((f.hv i ad (n+m) (dF _)).mono (rl (by have:=pE;generalize fB=q at *;omega)));have g1:0<=(i:Int)/\(i:Int)<((ed m t).length:Nat):=(by unfold ed;rw[fm];omega);have g2:(ed m t)[(0+((i:Int)).toNat)]? = some ((t.B i:Nat):Int):=(by rw[dA];exact jM ad);have g3:0<=(i:Int)/\(i:Int)<((f7 m (n+m) fun i=>i).length:Nat):=(by unfold f7;rw[fm];omega);have g4:(f7 m (n+m) fun i=>i)[(0+((i:Int)).toNat)]? = some (some (i,n+m+1)):=(by rw[dA];exact jM ad);unfold va;by_cases zJ:n<=t.B i
    ·by_cases iE:0<t.T i (n+m)
     ·right;exact⟨_,eS (df g1 (aM g2 (jY (by rw[h.hd];omega) (df g3 (aM g4 (aM (x:=(i,n+m+1)) rfl (aM (fX.row i ad) (dh (aM (x:=bB (t.T i (n+m)*w)) (by rw[dA];exact jM (by omega)) (aM bN (jY (by rw[vX hw];exact r4.2 iE) rfl))))))))))),.inl ⟨rfl,i,ad,zJ,iE⟩⟩
     left;refine⟨(),eS (df g1 (aM g2 (jY (by rw[h.hd];omega) (df g3 (aM g4 (aM (x:=(i,n+m+1)) rfl (aM (fX.row i ad) (dh (aM (x:=bB (t.T i (n+m)*w)) (by rw[dA];exact jM (by omega)) (aM bN (jL (by rw[vX hw];exact fun c=>iE (r4.1 c)) (by rw[f6 (by omega)])))))))))))),fun k aL=> ?_⟩;by_cases e:k=i
     ·rw[e];exact fun _=>iE
     exact cE k (by omega)
    left;refine⟨(),eS (df g1 (aM g2 (jL (by rw[h.hd];omega) (by rw[f6 (by omega)])))),fun k aL=> ?_⟩;by_cases e:k=i
    ·rw[e];exact fun c=>(zJ c).elim
    exact cE k (by omega))
  (fun _ cE=>⟨_,by unfold va;exact f8 rfl,.inr ⟨rfl,cE⟩⟩) () (fun k aL=>by omega)
theorem Pq {p:nG}{m n:Nat}{a:Nat->Nat->Int}{b:Nat->Int}(h:pk p m n a b)(F:Nat->Bool)(kj:Bool)(fw:ar)(x0:Int)(a9:Zn)(b8:Zi)(cD:ar):
 CO ((n+m:Nat):Int) p.lT p.j6 p.gp p.gq p.m4 kj fw x0 a9 b8 cD 0 (bl (n+m) F)=some (bl (n+m) fun j=>decide (j<n)):=by
 have hm:=h.hm;have aZ:=h.aZ;unfold CO
 obtain⟨s,e,-⟩:=jq (f:=fun w:Int×Zk=>vb ((n+m:Nat):Int) p.lT p.j6 p.gp p.gq p.m4 kj fw x0 a9 b8 cD w.1 w.2)
  (fun (k:Nat) (_:Unit)=>((k:Int),bl (n+m) fun j=>if j<k then decide (j<n) else F j)) (n+m) (fun _ _=>True) (fun _=>bl (n+m) fun j=>decide (j<n))
  (fun k aL _ _=>by
    refine⟨(),?_,trivial⟩;have Gi:decide ((k:Int)<p.j6)=decide (k<n):=(by rw[h.hd];simp);unfold vb;simp only;rw[Gi,f6 (by omega)];refine eS (dh (dh ?_));rw[dA,dG,mO];congr 3;refine fF fun j _=> ?_;by_cases c:j=k
    ·subst c;rw[dy rfl,dy (by omega)]
    rw[dz c];by_cases cq:j<k
    ·rw[dy cq,dy (by omega)]
    rw[dz cq,dz (by omega)])
  (fun _ _=>by unfold vb;refine f8 ?_;simp only;congr 2;exact fF fun j ao=>by rw[dy ao]) () trivial
 have pv:(bl (n+m) fun j=>if j<0 then decide (j<n) else F j)=bl (n+m) F:=fF fun j _=>by rw[dz (by omega)]
 rw[pv] at e;exact e
theorem Mx {m n:Nat}{a:Nat->Nat->Int}{b:Nat->Int}:fY m (dg m n a b) (nl m n a b)=1:=by unfold fY;rw[KC,dy (by grind)]
theorem RO {p:nG}{m n:Nat}{a:Nat->Nat->Int}{b:Nat->Int}(h:pk p m n a b):
 ∃r,xu p.lT p.j6 p.gp p.gq p.m4=some r/\((pN m n a b/\ ∃t aX g d9,r = .inl ((bB (fY m (dg m n a b) t)).c5,(bB (fY m (dg m n a b) t)).c2,((n+m:Nat):Int),f7 aX (n+m) g,ed aX (gS g t),bl (n+m) (fun j=>decide (j<n)),d9) /\
  k2 m n (n+m) (dg m n a b) t aX g/\(∀i,i<aX->t.B (g i)<n)/\lo aX (n+m) m g (fY m (dg m n a b) t) (gS g t) d9)\/(¬pN m n a b/\r = .inr ())):=by
 have hm:=h.hm;have aZ:=h.aZ;have qa:=QX h;have fc:aa (p.j6+p.lT)=((n+m:Nat):Int):=by rw[h.hd,h.rows,<- Int.natCast_add,cQ (by omega) (by omega)]
 have VN:lo m (n+m) m (fun i=>i) (fY m (dg m n a b) (nl m n a b)) (nl m n a b) (bl m (fun i=>bl (n+m+1) fun j=>bB (dg m n a b i j))):=⟨fm ..,fun i ad=>by rw[iH ad,Mx];congr 1;exact fF fun j _=>by show bB (dg m n a b i j)=bB (dg m n a b i j*1);congr 1;grind⟩
 obtain⟨q,bc,t,d9,ns,e,⟨cE,rfl⟩,fX,c7⟩:=PJ (da:=m) (m:=m) (N:=n+m) (M:=m) (A:=dg m n a b) hm (by omega) (h:=fun i=>i) (fun i _ k _ e=>e) (oN n) (fun j _=>by unfold oN;split<;>omega) (fun j=>decide (j<n))
  (fun w t=>lV m (n+m) (dg m n a b) t/\w=fY m (dg m n a b) t) (fun w t cE=>⟨cE.1.ok,cE.1.kF,cE.2▸cE.1.qy qa⟩)
  (fun w t r s cE b=>by obtain⟨o,rfl⟩:=cE;have af:t.T r s≠0:=(by have:=b.pos;grind);exact⟨o.tM qa b.ah b.bN af,o.fU b,D7 o.ok o.rO b.ah b.bN af⟩)
  (w:=fY m (dg m n a b) (nl m n a b)) (t:=nl m n a b) ⟨⟨Sc,QB,Ry⟩,rfl⟩ VN
 rw[Mx] at e
 have Uj : ∀j,j<n->t.cK m (gR m n) j<=0:=by
  rcases c7 with ⟨-,c7,-⟩|⟨-,s,bN,-,cZ,gH⟩
  ·intro j ao;have:=c7 j (by omega) (by simpa using ao);rw[Kc cE.ok.jU (by omega)] at this;grind
  rw[Kc cE.ok.jU bN] at cZ;obtain⟨i,ad,af⟩:=Pf cE.ok bN cZ;exact(gH i ad af).elim
 have ap:m6 1=some (bB 1):=by have:=qV (n:=1) (by rw[qZ];omega);rw[show ((1:Int):Rat)=1 from rfl] at this;exact this
 obtain⟨r,ak,bW⟩:=Pp h (cE.qy qa) fX (bB (fY m (dg m n a b) t)).c5 (bB (fY m (dg m n a b) t)).c2 ((n+m:Nat):Int) (bl (n+m) ns);unfold xu;rw[fc];rcases bW with ⟨rfl,i,ad,gN,hv⟩|⟨rfl,gH⟩
 ·have yN : ¬pN m n a b:=fun bN=>by
   have:=PF cE.kF (P3 cE.ok cE.kF Uj bN) cE.ok.jU i ad gN;grind
  refine⟨_,aM ap (dh (aM (H0 h _ _ _) (dh (aM (x:=(bl (n+m) (oN n),bl (n+m) fun j=>decide (j<n))) (by rw[dA,qp,qp];exact Ih h _ _ _ _ _ _) (aM e ?_))))),.inr ⟨yN,rfl⟩⟩;refine aM (x:= .inr ()) ?_ rfl;simp only;rw[show ((ed m t).length:Nat)=m from fm ..];exact ak
 have bY : ∀i,i<m->n<=t.B i->t.T i (n+m)=0:=fun i ad gN=>by have o:=gH i ad gN;have J:=cE.kF i ad;grind
 have bN:pN m n a b:=PE cE.ok cE.kF bY;obtain⟨cx,aX,g,jC,mE,po,F8,iu⟩:=QY (n:=n) qa (by omega) (by omega) (bl (n+m) fun j=>decide (j<n)) cE bY fX;refine⟨_,aM ap (dh (aM (H0 h _ _ _) (dh (aM (x:=(bl (n+m) (oN n),bl (n+m) fun j=>decide (j<n))) (by rw[dA,qp,qp];exact Ih h _ _ _ _ _ _) (aM e ?_))))),.inl ⟨bN,cx,aX,g,jC,rfl,po,F8,iu⟩⟩;refine aM (x:= .inl ()) ?_ ?_
 ·simp only;rw[show ((ed m t).length:Nat)=m from fm ..];exact ak
 simp only;rw[show ((bl (n+m) ns).length:Nat)=n+m from fm ..];refine aM (Pq h ns _ _ _ _ _ _) ?_;rw[h.hd];exact aM mE rfl
structure nw (m:Nat) (u v:b1):Prop where
 T : ∀i,i<m-> ∀j,u.T i j=v.T i j
 B : ∀i,i<m->u.B i=v.B i
theorem nw.qy {m N:Nat}{w:Rat}{u v:b1}(s:nw m u v)(h:nU m N w v):nU m N w u :=
 ⟨h.pos,h.hw,fun i ad j ao=>by rw[s.T i ad];exact h.hv i ad j ao,fun i ad=>by rw[s.B i ad];exact h.gN i ad⟩
theorem nw.ch {m:Nat}{u v:b1}(s:nw m u v){r:Nat}(ah:r<m)(k:Nat):nw m (u.ch r k) (v.ch r k) where
 T:=fun i ad j=>by simp only[b1.ch,s.T i ad,s.T r ah]
 B:=fun i ad=>by simp only[b1.ch,s.B i ad]
theorem nw.tM {m N:Nat}{w:Rat}{u v:b1}(s:nw m u v){r k:Nat}(h:rm m N w v r k):rm m N w u r k :=
 ⟨h.ah,h.aL,by rw[s.T r h.ah];exact h.af,fun i ad j ao=>by rw[(s.ch h.ah k).T i ad,s.T r h.ah];exact h.wV i ad j ao⟩
theorem nw.trans {m:Nat}{u v t:b1}(a:nw m u v)(b:nw m v t):nw m u t:=⟨fun i ad j=>(a.T i ad j).trans (b.T i ad j),fun i ad=>(a.B i ad).trans (b.B i ad)⟩
theorem Sh {aX:Nat}{g:Nat->Nat}(inj:∀i,i<aX-> ∀k,k<aX->g i=g k->i=k)(t:b1){r:Nat}(ah:r<aX)(k:Nat):nw aX ((gS g t).ch r k) (gS g (t.ch (g r) k)) :=
 ⟨fun i ad j=>(xO (t:=t) (k:=k) (inj i ad r ah)).1 j,fun i ad=>(xO (t:=t) (k:=k) (inj i ad r ah)).2⟩
theorem KI {m n:Nat}{a:Nat->Nat->Int}{b:Nat->Int}{x:Nat->Rat}{c:Nat}:bQ n (fun j=>dg m n a b c j*x j)=((kz (b c):Int):Rat)*bQ n (fun j=>(a c j:Rat)*x j):=by rw[<- hj];exact en fun j ao=>by rw[D3 ao];grind
theorem k2.SX {m n:Nat}{a:Nat->Nat->Int}{b:Nat->Int}{t:b1}{aX:Nat}{g:Nat->Nat}(h:k2 m n (n+m) (dg m n a b) t aX g)(gN:∀i,i<aX->t.B (g i)<n):LT m n a b aX (n+m) (gS g t) where
 eqv:=fun x=>by
  have key:(∀i,i<m->bQ n (fun j=>(a i j:Rat)*x j)=(b i:Rat))↔ ∀i,i<m->bQ n (fun j=>dg m n a b i j*x j)=dg m n a b i (n+m):=by
   constructor
   ·intro U i ad;rw[KI,AU,U i ad]
   intro U i ad;have:=U i ad;rw[KI,AU] at this;have h0:=KB (b i);have e:((kz (b i):Int):Rat)*(bQ n (fun j=>(a i j:Rat)*x j)-(b i:Rat))=0:=(by grind);rcases Rat.mul_eq_zero.1 e with e|e
   ·exact(h0 e).elim
   grind
  rw[key];constructor
  ·intro U i ad;obtain⟨W,hW⟩:=h.inv.ok.row;show bQ n (fun j=>t.T (g i) j*x j)=t.T (g i) (n+m);rw[hW (g i) (h.lt i ad) (n+m) (dF _),en (g:=fun j=>bQ m (fun c=>W (g i) c*(dg m n a b c j*x j))) (fun j ao=>by rw[hW (g i) (h.lt i ad) j (by omega),<- rX];exact en fun c _=>by grind),m7];exact en fun c aJ=>by rw[hj,U c aJ]
  intro U c aJ
  have row : ∀i,i<m->bQ n (fun j=>t.T i j*x j)=t.T i (n+m):=fun i ad=>by
   by_cases bw : ∃q,q<aX/\g q=i
   ·obtain⟨q,aU,rfl⟩:=bw;exact U q aU
   obtain⟨sD,pr⟩:=h.dead i ad fun q aU e=>bw ⟨q,aU,e⟩;rw[h.z i ad sD];exact mI fun j ao=>by rw[pr j ao];grind
  rw[h.inv.ok.pZ c aJ (n+m) (dF _),en (g:=fun j=>bQ m (fun i=>dg m n a b c (t.B i)*(t.T i j*x j))) (fun j ao=>by rw[h.inv.ok.pZ c aJ j (by omega),<- rX];exact en fun i _=>by grind),m7];exact en fun i ad=>by rw[hj,row i ad]
 unit:=fun i ad k aL=>by
  show t.T (g i) (t.B (g k))=_;rw[h.inv.ok.unit _ (h.lt i ad) _ (h.lt k aL)];by_cases c:i=k
  ·rw[dy c,dy (by rw[c])]
  rw[dz c,dz fun e=>c (h.inj i ad k aL e)]
 jU:=gN
 kF:=fun i ad=>h.inv.kF _ (h.lt i ad)
 F7:=by omega
theorem k2.step {m n:Nat}{a:Nat->Nat->Int}{b:Nat->Int}{t:b1}{aX:Nat}{g:Nat->Nat}{K:Nat}{obj:Nat->Nat->Rat}{bw:Nat->Prop}(h:k2 m n (n+m) (dg m n a b) t aX g)(gN:∀i,i<aX->t.B (g i)<n){u:b1}(bN:nw aX u (gS g t)){r s:Nat}(cp:nN aX (n+m) K obj bw u r s)(ua:s<n):
 k2 m n (n+m) (dg m n a b) (t.ch (g r) s) aX g/\(∀i,i<aX->(t.ch (g r) s).B (g i)<n)/\nw aX (u.ch r s) (gS g (t.ch (g r) s)):=by
 have ah:=cp.ah;have af:0<t.T (g r) s:=by have:=cp.pos;rw[bN.T r ah] at this;exact this
 have VO:t.T (g r) s≠0:=by grind
 have Lx:=(bN.ch ah s).trans (Sh h.inj t ah s);have Ca : ∀d,d<m->(∀i,i<aX->g i≠d)-> ∀j,(t.ch (g r) s).T d j=t.T d j/\(t.ch (g r) s).B d=t.B d:=fun d bk gH j=>by obtain⟨sD,pr⟩:=h.dead d bk gH;simp only[b1.ch];rw[dz fun e=>gH r ah e.symm,dz fun e=>gH r ah e.symm,pr s ua];exact⟨by grind,rfl⟩
 have o9 : ∀i,i<aX->(t.ch (g r) s).B (g i)<n:=fun i ad=>by
  simp only[b1.ch];split
  ·exact ua
  exact gN i ad
 have VP:(u.ch r s).jP aX (n+m):=cp.yH fun i ad=>by rw[bN.T i ad];exact h.inv.kF _ (h.lt i ad)
 refine⟨⟨⟨h.inv.ok.ch (h.lt r ah) (by omega) VO,fun i ad=> ?_,?_⟩,fun i ad aZ=> ?_,h.le,h.lt,h.inj,fun d bk gH=> ?_⟩,o9,Lx⟩
 ·by_cases bw : ∃q,q<aX/\g q=i
  ·obtain⟨q,aU,rfl⟩:=bw;have:=VP q aU;rw[Lx.T q aU] at this;exact this
  rw[(Ca i ad (fun q aU e=>bw ⟨q,aU,e⟩) _).1];exact h.inv.kF i ad
 ·rw[h.inv.ok.yj (h.lt r ah) (by omega)];have:=h.inv.rO;grind
 ·by_cases bw : ∃q,q<aX/\g q=i
  ·obtain⟨q,aU,rfl⟩:=bw;have:=o9 q aU;omega
  have gH : ∀q,q<aX->g q≠i:=fun q aU e=>bw ⟨q,aU,e⟩;obtain⟨ap,av⟩:=Ca i ad gH (n+m);rw[ap];rw[av] at aZ;exact h.z i ad aZ
 obtain⟨sD,pr⟩:=h.dead d bk gH;refine⟨by rw[(Ca d bk gH 0).2];exact sD,fun j ao=>by rw[(Ca d bk gH j).1];exact pr j ao⟩
structure zp (m n:Nat) (a:Nat->Nat->Int) (b:Nat->Int) (aX:Nat) (g:Nat->Nat) (h7:Nat->Nat->Rat) (dW:Nat->Bool) (w:Rat) (u:b1):Prop where
 bw : ∃t,k2 m n (n+m) (dg m n a b) t aX g/\(∀i,i<aX->t.B (g i)<n)/\nw aX u (gS g t)/\w=fY m (dg m n a b) t
 lt:LT m n a b aX (n+m) u
 ok:e4 aX aX (n+m) h7 u
 Wv : ∀i,i<aX->dW (u.B i)=true
theorem zp.qy {m n:Nat}{a:Nat->Nat->Int}{b:Nat->Int}{aX:Nat}{g:Nat->Nat}{h7:Nat->Nat->Rat}{dW:Nat->Bool}{w:Rat}{u:b1}(qa:Small m (n+m) (dg m n a b))(h:zp m n a b aX g h7 dW w u):nU aX (n+m) w u:=by obtain⟨t,o,J,an,rfl⟩:=h.bw;exact an.qy (o.qy qa)
theorem zp.fU {m n:Nat}{a:Nat->Nat->Int}{b:Nat->Int}{aX:Nat}{g:Nat->Nat}{h7:Nat->Nat->Rat}{dW ns:Nat->Bool}{w:Rat}{u:b1}{obj:Nat->Nat->Rat}{K:Nat}(qa:Small m (n+m) (dg m n a b))(h:zp m n a b aX g h7 ns w u)(za:∀j,j<n+m->dW j=true->j<n)(VQ:∀j,dW j=true->ns j=true){r s:Nat}(cp:nN aX (n+m) K obj (fun j=>dW j=true) u r s):
 rm aX (n+m) w u r s/\zp m n a b aX g h7 ns (nn w u r s) (u.ch r s):=by
 obtain⟨t,o,J,an,aG⟩:=h.bw;have ua:=za s cp.bN cp.BG;obtain⟨g1,g2,g3⟩:=o.step J an cp ua;have af:=cp.pos;have My:t.T (g r) s≠0:=by rw[an.T r cp.ah] at af;show t.T (g r) s≠0;have:0<t.T (g r) s:=af;grind
 refine⟨aG▸an.tM (o.tM qa cp.ah (by omega) My),⟨t.ch (g r) s,g1,g2,g3,?_⟩,h.lt.ch cp.ah ua (by grind) (cp.yH h.lt.kF),cp.ok h.ok,fun i ad=> ?_⟩
 ·rw[<- D7 o.inv.ok o.inv.rO (o.lt r cp.ah) (show s<n+m by omega) My,aG];unfold nn;rw[an.T r cp.ah];rfl
 simp only[b1.ch];split
 ·exact VQ s cp.BG
 exact h.Wv i ad
def sC (n N j:Nat):Nat:=if j=n then N else j
theorem D8 {n N j:Nat}(h:j<n):sC n N j=j:=by unfold sC;rw[dz (by omega)]
theorem A7 {n N:Nat}:sC n N n=N:=by unfold sC;rw[dy rfl]
theorem KJ {n N j:Nat}(aZ:n<=N)(h:j<=n):sC n N j<=N:=by unfold sC;split<;>omega
structure Bj (m n:Nat) (a:Nat->Nat->Int) (b:Nat->Int) (aX:Nat) (g:Nat->Nat) (h7:Nat->Nat->Rat) (u:b1):Prop where
 ok:e4 aX aX n h7 u
 bw : ∃t,k2 m n (n+m) (dg m n a b) t aX g/\(∀i,i<aX->t.B (g i)<n)/\ ∀i,i<aX->(∀j,j<=n->u.T i j=t.T (g i) (sC n (n+m) j))/\u.B i=t.B (g i)
theorem Si {m n:Nat}{a:Nat->Nat->Int}{b:Nat->Int}{aX:Nat}{g:Nat->Nat}{u t:b1}(o:k2 m n (n+m) (dg m n a b) t aX g)(J:∀i,i<aX->t.B (g i)<n)(an:∀i,i<aX->(∀j,j<=n->u.T i j=t.T (g i) (sC n (n+m) j))/\u.B i=t.B (g i)):LT m n a b aX n u:=by
 have L:=o.SX J;refine⟨fun x=> ?_,fun i ad k aL=> ?_,fun i ad=>by rw[(an i ad).2];exact J i ad,fun i ad=> ?_,dF _⟩
 ·rw[L.eqv x]
  constructor<;>intro U i ad
  ·have:=U i ad;rw[(an i ad).1 n (dF _),A7,en (g:=fun j=>(gS g t).T i j*x j) fun j ao=>by rw[(an i ad).1 j (by omega),D8 ao];rfl];exact this
  have:=U i ad;rw[(an i ad).1 n (dF _),A7,en (g:=fun j=>(gS g t).T i j*x j) fun j ao=>by rw[(an i ad).1 j (by omega),D8 ao];rfl] at this;exact this
 ·have aE:t.B (g k)<n:=J k aL;rw[(an k aL).2,(an i ad).1 _ (by omega),D8 aE];exact L.unit i ad k aL
 show 0<=u.T i n;rw[(an i ad).1 n (dF _),A7];exact L.kF i ad
theorem Bj.lt {m n:Nat}{a:Nat->Nat->Int}{b:Nat->Int}{aX:Nat}{g:Nat->Nat}{h7:Nat->Nat->Rat}{u:b1}(h:Bj m n a b aX g h7 u):LT m n a b aX n u:=by obtain⟨t,o,J,an⟩:=h.bw;exact Si o J an
theorem Bj.fits {m n:Nat}{a:Nat->Nat->Int}{b:Nat->Int}{aX:Nat}{g:Nat->Nat}{h7:Nat->Nat->Rat}{u:b1}(qa:Small m (n+m) (dg m n a b))(h:Bj m n a b aX g h7 u):
 (∀i,i<aX-> ∀j,j<=n->mu (u.T i j))/\(∀i,i<aX-> ∀j,j<=n->0<u.T i j->mu (u.T i n / u.T i j)):=by
 obtain⟨t,o,J,an⟩:=h.bw;refine⟨fun i ad j ao=> ?_,fun i ad j ao af=> ?_⟩
 ·rw[(an i ad).1 j ao];exact o.inv.Ud qa (o.lt i ad) (KJ (by omega) ao)
 rw[(an i ad).1 j ao] at af ⊢;rw[(an i ad).1 n (dF _),A7];exact o.inv.Ue qa (o.lt i ad) (KJ (by omega) ao) af
structure EE (m n:Nat) (a:Nat->Nat->Int) (b:Nat->Int) (i:Nat) (t:b1):Prop where
 bw:k2 m n (n+m) (dg m n a b) t m fun q=>q
 MS : ∀q,q<i->t.B q<n\/ ∀j,j<n->t.T q j=0
theorem EE.ch {m n:Nat}{a:Nat->Nat->Int}{b:Nat->Int}{i:Nat}{t:b1}(h:EE m n a b i t){k:Nat}(ad:i<m)(aL:k<n)(aE:n<=t.B i)(af:t.T i k≠0):EE m n a b i (t.ch i k) where
 bw:=h.bw.ch (by omega) ad aL aE af
 MS:=fun q aU=>by
  simp only[b1.ch];rw[dz (by omega)];rcases h.MS q aU with d|d
  ·exact .inl d
  exact .inr fun j ao=>by rw[dz (by omega),d j ao,d k aL];grind
def pO (k:Nat)(x:bu):Zp:=(if x.hM=2 then [] else [⟨(k:Int),1⟩])++(if x.hM=1 then [] else [⟨(k:Int),-1⟩])
def jD (cG:Zl):Nat->Zp
 | 0=>[]
 | n+1=>jD cG n++(match cG[n]? with
  | some x=>pO n x
  | none=>[])
theorem DC (cG:Zl): ∀n,(jD cG n).length<=2*n
 | 0=>by simp[jD]
 | n+1=>by
  have:=DC cG n;rw[jD,dE]
  have J:(match cG[n]? with
   | some x=>pO n x
   | none=>[]).length<=2:=by
   split
   ·rename_i x _;unfold pO;rw[dE];split<;>split<;>simp
   simp
  omega
theorem JF {cG:Zl}: ∀ {n:Nat} {c:eA},n<=cG.length->c∈jD cG n-> ∃k:Nat,c.oW=k/\k<n/\(c.oh=1\/c.oh = -1)
 | 0,c,_,h=>by simp[jD] at h
 | n+1,c,aZ,h=>by
  rw[jD,List.mem_append] at h;rcases h with h|h
  ·obtain⟨k,o,J,an⟩:=JF (by omega) h;exact⟨k,o,by omega,an⟩
  rw[dw (by omega)] at h;simp only[pO,List.mem_append] at h;rcases h with h|h
  ·split at h
   ·simp at h
   simp at h;subst h;exact⟨n,rfl,by omega,.inl rfl⟩
  split at h
  ·simp at h
  simp at h;subst h;exact⟨n,rfl,by omega,.inr rfl⟩
theorem Qj (s:cj)(c3:s.bm.length<=1000):xg s=some (jD s.bm s.bm.length):=by
 unfold xg GO;rw[h2]
 obtain⟨x,e,-⟩:=jq (f:=fun w:Int×Zp=>uN s.bm (s.bm.length:Nat) w.1 w.2) (fun (n:Nat) (_:Unit)=>((n:Int),jD s.bm n)) s.bm.length (fun _ _=>True) (fun _=>jD s.bm s.bm.length)
  (fun n aZ _ _=>by
    refine⟨(),?_,trivial⟩;have U:=dw aZ;have aw:=DC s.bm n;have ap:jD s.bm (n+1)=jD s.bm n++pO n s.bm[n]:=(by rw[jD,U]);unfold uN;refine eS (dh (aM (x:=s.bm[n]) (by simp only;rw[dA];exact U) ?_));simp only;rw[f6 (by omega),ap];unfold pO;by_cases bG:s.bm[n].hM=2
    ·rw[dy bG];refine gJ (BF bG) (e7 (BE (by omega)) (df (by simp only[dE,dM,Za];omega) ?_));rw[dz (by omega)];simp
    rw[dz bG];refine e7 (BE bG) (df (by simp only[dE,dM,Za];omega) ?_);by_cases cq:s.bm[n].hM=1
    ·refine gJ (BF cq) ?_;rw[dy cq];simp
    refine e7 (BE cq) (df (by simp only[dE,dM,Za];omega) ?_);rw[dz cq];simp)
  (fun _ _=>by unfold uN;exact f8 rfl) () trivial
 exact aM e rfl
def mn (s:cj)(k:Nat):Int×Int:=(qe s k).getD (0,0)
theorem JG (s:cj)(h:mD s)(k:Nat)(aL:k<s.bm.length):qe s k=some (mn s k)/\(-100<=(mn s k).1/\(mn s k).1<=100)/\(-100<=(mn s k).2/\(mn s k).2<=100):=by
 obtain⟨x,y,o,an,aG⟩:=Sf s h k (by omega) (by omega);have e:mn s k=(x,y):=by unfold mn;rw[o];rfl
 rw[e];exact⟨o,an,aG⟩
def jh (s:cj)(j:Int)(jo k:Nat):Int :=
 match s.bm[k]? with
 | none=>0
 | some x=>if j=x.gp then (if jo=0 then (mn s k).1 else (mn s k).2) else if j=x.gq then -(if jo=0 then (mn s k).1 else (mn s k).2) else 0
theorem SY (s:cj)(h:mD s)(j:Int)(jo k:Nat): -100<=jh s j jo k/\jh s j jo k<=100:=by
 unfold jh;split
 ·omega
 rename_i x U;obtain⟨-,an,aG⟩:=JG s h k (eV U);split
 ·split<;>omega
 split
 ·split<;>omega
 omega
theorem Sj (s:cj)(h:mD s)(j:Int)(aS:ar)(a9 b8:Int)(cD:Zq):
 Cg s.b5 s.bm j aS a9 b8 (len_ cR s.bm) cD 0 (bl s.bm.length fun _=>(0:Int)) (bl s.bm.length fun _=>(0:Int))=some (bl s.bm.length (jh s j 0),bl s.bm.length (jh s j 1)):=by
 obtain⟨-,-,f3,f4⟩:=id h;unfold Cg;rw[h2]
 obtain⟨x,e,-⟩:=jq (f:=fun w:Int×ar×ar=>uJ s.b5 s.bm j aS a9 b8 (s.bm.length:Nat) cD w.1 w.2.1 w.2.2) (fun (n:Nat) (_:Unit)=>((n:Int),(bl s.bm.length fun k=>if k<n then jh s j 0 k else 0),bl s.bm.length fun k=>if k<n then jh s j 1 k else 0)) s.bm.length (fun _ _=>True) (fun _=>(bl s.bm.length (jh s j 0),bl s.bm.length (jh s j 1)))
  (fun n aZ _ _=>by
    refine⟨(),?_,trivial⟩;have U:=dw aZ;obtain⟨v1,v3,v4⟩:=JG s h n aZ
    have cp : ∀jo v,v=jh s j jo n->(bl s.bm.length fun k=>if k<n then jh s j jo k else 0).set n v=bl s.bm.length fun k=>if k<n+1 then jh s j jo k else 0:=fun jo v aT=>by
     rw[mO];refine fF fun k _=> ?_;by_cases c:k=n
     ·subst c;rw[dy rfl,dy (by omega)];exact aT
     rw[dz c];by_cases cq:k<n
     ·rw[dy cq,dy (by omega)]
     rw[dz cq,dz (by omega)]
    have g1 : ∀F:Nat->Int,0<=((n:Nat):Int)/\((n:Nat):Int)<((bl s.bm.length F).length:Nat):=fun F=>(by rw[fm];omega);have g2 : ∀F:Nat->Int,0+((n:Nat):Int).toNat<(bl s.bm.length F).length:=fun F=>(by rw[fm,dA];omega);unfold uJ;refine eS (dh (aM (x:=s.bm[n]) (by simp only;rw[dA];exact U) (aM (x:=mn s n) v1 ?_)));simp only;by_cases bG:j=s.bm[n].gp
    ·have e0 : ∀jo,jh s j jo n=if jo=0 then (mn s n).1 else (mn s n).2:=fun jo=>(by unfold jh;rw[U];simp only[dy bG]);refine e7 (BD bG) (df (g1 _) (df (g2 _) (df (g1 _) (df (g2 _) ?_))));rw[f6 (by omega),dA,dG,cp 0 _ (by rw[e0];rfl),cp 1 _ (by rw[e0];rfl)]
    refine gJ (y9 bG) ?_;by_cases cq:j=s.bm[n].gq
    ·have e0 : ∀jo,jh s j jo n = -(if jo=0 then (mn s n).1 else (mn s n).2):=fun jo=>(by unfold jh;rw[U];simp only[dz bG,dy cq]);refine e7 (BD cq) (df (g1 _) (df (g2 _) (df (g1 _) (df (g2 _) ?_))));rw[f6 (by omega),dA,dG,cQ (by omega) (by omega),cQ (by omega) (by omega),cp 0 _ (by rw[e0];simp),cp 1 _ (by rw[e0];simp)]
    have e0 : ∀jo,jh s j jo n=0:=fun jo=>(by unfold jh;rw[U];simp only[dz bG,dz cq]);refine gJ (y9 cq) ?_;rw[f6 (by omega)];congr 4
    ·refine fF fun k _=> ?_
     by_cases c:k=n
     ·subst c;rw[dz (by omega),dy (by omega),e0]
     by_cases cq:k<n
     ·rw[dy cq,dy (by omega)]
     rw[dz cq,dz (by omega)]
    refine fF fun k _=> ?_;by_cases c:k=n
    ·subst c;rw[dz (by omega),dy (by omega),e0]
    by_cases cq:k<n
    ·rw[dy cq,dy (by omega)]
    rw[dz cq,dz (by omega)])
  (fun _ _=>by
    unfold uJ;refine f8 ?_;simp only;congr 3
    ·exact fF fun k aL=>by rw[dy aL]
    exact fF fun k aL=>by rw[dy aL]) () trivial
 have z : ∀jo,(bl s.bm.length fun k=>if k<0 then jh s j jo k else 0)=bl s.bm.length fun _=>(0:Int):=fun jo=>fF fun k _=>by rw[dz (by omega)]
 rw[z,z] at e;exact e
def ji (s:cj)(q:Nat):Nat:=(jB s.b5 0).getD q 0
def eG (s:cj):Nat:=(jB s.b5 0).length
def kC (s:cj)(r k:Nat):Int:=jh s (ji s (r / 2)) (r % 2) k
theorem JH (s:cj):(jB s.b5 0).map (fun n:Nat=>(n:Int))=bl (eG s) fun q=>((ji s q:Nat):Int):=by
 apply Zb;intro q;rw[dI];by_cases c:q<eG s
 ·rw[iH c];have h:(jB s.b5 0)[q]? = some (jB s.b5 0)[q]:=dw c;unfold ji;rw[dT,h];rfl
 rw[List.getElem?_eq_none_iff.2 (by unfold eG at c;omega),List.getElem?_eq_none_iff.2 (by rw[fm];omega)];rfl
theorem SZ (s:cj){q:Nat}(h:q<eG s):ji s q<s.b5.length:=by
 have o:(jB s.b5 0)[q]? = some (jB s.b5 0)[q]:=dw h;have J:ji s q=(jB s.b5 0)[q]:=by unfold ji;rw[dT,o];rfl
 have:=DB s.b5 0 _ (dD o);omega
theorem Ej (s:cj):eG s<=s.b5.length:=JB s.b5 0
theorem OY (s:cj)(h:mD s):xd s=some (bl (2*eG s) fun r=>bl s.bm.length (kC s r)):=by
 obtain⟨-,-,f3,f4⟩:=id h;have zz:=Ej s;unfold xd;refine aM (HT s (by omega)) ?_;rw[JH,jb,fm];unfold GI
 obtain⟨x,e,-⟩:=jq (f:=fun w:Int×Zq=>uK s.b5 s.bm (bl (eG s) fun q=>((ji s q:Nat):Int)) ((eG s:Nat):Int) w.1 w.2) (fun (n:Nat) (_:Unit)=>((n:Int),bl (2*n) fun r=>bl s.bm.length (kC s r))) (eG s) (fun _ _=>True) (fun _=>bl (2*eG s) fun r=>bl s.bm.length (kC s r))
  (fun n aZ _ _=>by refine⟨(),?_,trivial⟩;unfold uK;refine eS (dh (aM (x:=((ji s n:Nat):Int)) (by simp only;rw[dA];exact iH aZ) (df (by rw[h2];omega) ?_)));refine aM (x:=(bl s.bm.length (jh s (ji s n) 0),bl s.bm.length (jh s (ji s n) 1))) (by rw[show (len_ cR s.bm).toNat=s.bm.length by rw[h2,dA],qp];exact Sj s h _ _ _ _ _) (df (by simp only[dE,fm,dM,Za];omega) ?_);simp only;rw[f6 (by omega),show 2*(n+1)=2*n+1+1 by omega,xM (2*n+1),xM (2*n)];have ak:bl s.bm.length (jh s (ji s n) 0)=bl s.bm.length (kC s (2*n)):=fF fun k _=>(by unfold kC;rw[show 2*n / 2=n by omega,show 2*n % 2=0 by omega]);have bW:bl s.bm.length (jh s (ji s n) 1)=bl s.bm.length (kC s (2*n+1)):=fF fun k _=>(by unfold kC;rw[show (2*n+1) / 2=n by omega,show (2*n+1) % 2=1 by omega]);rw[ak,bW];simp)
  (fun _ _=>by unfold uK;exact f8 rfl) () trivial
 exact aM e rfl
def hd (s:cj):Zp:=jD s.bm s.bm.length
def cT (s:cj):Nat:=(hd s).length
def lh (s:cj)(c:Nat):Nat:=((hd s).getD c ⟨0,0⟩).oW.toNat
def nB (s:cj)(c:Nat):Int:=((hd s).getD c ⟨0,0⟩).oh
def lL (s:cj)(i c:Nat):Int:=nB s c*kC s i (lh s c)
def m5 (s:cj)(l:ar)(i:Nat):Int:= -(l.getD (2*ji s (i / 2)+i % 2) 0)
theorem x9 (s:cj){c:Nat}(aJ:c<cT s):(hd s)[c]? = some ⟨(lh s c:Int),nB s c⟩/\lh s c<s.bm.length/\(nB s c=1\/nB s c = -1):=by
 have o:(hd s)[c]? = some (hd s)[c]:=dw aJ;have J:(hd s).getD c ⟨0,0⟩=(hd s)[c]:=by rw[dT,o];rfl
 obtain⟨k,ap,av,bS⟩:=JF (dF _) (dD o);have dj:lh s c=k:=by unfold lh;rw[J,ap];rfl
 have eh:nB s c=((hd s)[c]).oh:=by unfold nB;rw[J]
 refine⟨?_,by omega,by rw[eh];exact bS⟩;rw[o,dj,eh,<- ap]
theorem K8 (s:cj):cT s<=2*s.bm.length:=DC _ _
theorem K9 (s:cj)(h:mD s)(i:Nat){c:Nat}(aJ:c<cT s): -100<=lL s i c/\lL s i c<=100:=by have o:=SY s h (ji s (i / 2)) (i % 2) (lh s c);unfold lL kC;rcases(x9 s aJ).2.2 with e|e<;>rw[e]<;>omega
def uB (s:cj)(l:ar):nG:=⟨((2*eG s:Nat):Int),(cT s:Int),bl (2*eG s*cT s) (fun x=>lL s (x / cT s) (x % cT s)),bl (2*eG s) (m5 s l),bl (cT s) fun _=>0⟩
theorem S0 (s:cj)(h:mD s)(l:ar)(aE:∀x∈l,-100<=x/\x<=100):pk (uB s l) (2*eG s) (cT s) (lL s) (m5 s l) where
 rows:=rfl
 hd:=rfl
 lI:=fm ..
 ED:=fun i ad j ao=>by have o:i*cT s+j<2*eG s*cT s:=(by have:(i+1)*cT s<=2*eG s*cT s:=Y5 _ ad;rw[Nat.succ_mul] at this;omega);show (bl _ _)[_]? = _;rw[iH o];have J:(i*cT s+j) / cT s=i:=(by rw[Nat.mul_comm,Nat.mul_add_div (by omega),Nat.div_eq_of_lt ao];rfl);have an:(i*cT s+j) % cT s=j:=(by rw[Nat.mul_comm,Nat.mul_add_mod,Nat.mod_eq_of_lt ao]);rw[J,an]
 MO:=fm ..
 Lu:=fun i ad=>iH ad
 hm:=by obtain⟨-,-,f3,f4⟩:=id h;have:=Ej s;omega
 aZ:=by obtain⟨-,-,f3,f4⟩:=id h;have:=K8 s;omega
 zH:=fun i _ j ao=>K9 s h i ao
 B8:=fun i _=>by
  unfold m5;rw[dT]
  cases c:l[2*ji s (i / 2)+i % 2]? with
  | none=>simp
  | some x =>
   have:=aE x (dD c);simp only[Option.getD_some];omega
def sO (s:cj)(r c:Nat):Int:=if r<2*eG s/\c<cT s then lL s r c else 0
def lJ (s:cj)(l:ar)(r:Nat):Int:=if r<2*eG s then m5 s l r else 0
def n3 (s:cj)(N i c x:Nat):Int:=if (x / N<i\/(x / N=i/\x % N<c))/\x % N<cT s then lL s (x / N) (x % N) else 0
theorem S1 (s:cj){T N i c:Nat}(aJ:c<cT s)(fc:cT s<=N)(hv:i*N+c<T){v:Int}(aT:v=lL s i c):(bl T (n3 s N i c)).set (i*N+c) v=bl T (n3 s N i (c+1)):=by
 have J:(i*N+c) / N=i:=by rw[Nat.mul_comm,Nat.mul_add_div (by omega),Nat.div_eq_of_lt (by omega)];rfl
 have an:(i*N+c) % N=c:=by rw[Nat.mul_comm,Nat.mul_add_mod,Nat.mod_eq_of_lt (by omega)]
 rw[mO];refine fF fun x _=> ?_;unfold n3;by_cases e:x=i*N+c
 ·rw[dy e,e,J,an,dy ⟨.inr ⟨rfl,by omega⟩,aJ⟩,aT]
 rw[dz e];have cc : ¬(x / N=i/\x % N=c):=fun ⟨a,b⟩=>e (by rw[<- Nat.div_add_mod x N,a,b,Nat.mul_comm]);by_cases d:(x / N<i\/(x / N=i/\x % N<c))/\x % N<cT s
 ·rw[dy d,dy ⟨by omega,d.2⟩]
 rw[dz d,dz (fun uA=>d ⟨by omega,uA.2⟩)]
theorem S2 (s:cj)(T N i:Nat):bl T (n3 s N i (cT s))=bl T (n3 s N (i+1) 0):=by
 refine fF fun x _=> ?_;unfold n3;by_cases d:(x / N<i\/(x / N=i/\x % N<cT s))/\x % N<cT s
 ·rw[dy d,dy ⟨by omega,d.2⟩]
 rw[dz d,dz (fun uA=>d ⟨by omega,uA.2⟩)]
theorem Sk (s:cj)(T N:Nat):bl T (n3 s N 0 0)=bl T fun _=>0:=fF fun x _=>by unfold n3;rw[dz (fun h=>by rcases h.1 with h|h;exact Nat.not_lt_zero _ h;exact Nat.not_lt_zero _ h.2)]
theorem S3 (s:cj)(T N:Nat):bl T (n3 s N (2*eG s) 0)=bl T fun x=>sO s (x / N) (x % N):=fF fun x _=>by
 unfold n3 sO;by_cases d:x / N<2*eG s/\x % N<cT s
 ·rw[dy d,dy ⟨.inl d.1,d.2⟩]
 rw[dz d,dz (fun uA=>d ⟨by omega,uA.2⟩)]
theorem Sl (s:cj)(l:ar)(M:Nat):(bl M fun x=>if x<0 then lJ s l x else 0)=bl M fun _=>0:=fF fun j _=>by rw[dz (by omega)]
theorem S4 (s:cj)(l:ar)(M:Nat):(bl M fun x=>if x<2*eG s then lJ s l x else 0)=bl M (lJ s l):=fF fun j _=>by
 by_cases c:j<2*eG s
 ·rw[dy c]
 rw[dz c];unfold lJ;rw[dz c]
theorem QZ (s:cj)(h:mD s)(l:ar)(aw:l.length=2*s.b5.length)(aE:∀x∈l,-100<=x/\x<=100)(da i7:Nat)(YE:da<=100)(YF:i7<=100):
 uO s l (da:Int) (i7:Int)=some (((2*eG s+i7:Nat):Int),((cT s+da:Nat):Int),bl ((2*eG s+i7)*(cT s+da)) (fun x=>sO s (x / (cT s+da)) (x % (cT s+da))),bl (2*eG s+i7) (lJ s l),bl (cT s+da) fun _=>0):=by
 obtain⟨-,-,f3,f4⟩:=id h;have zz:=Ej s;have MT:=K8 s;have YG:(2*eG s+i7)*(cT s+da)<=112*116:=Nat.mul_le_mul (by omega) (by omega);unfold uO;refine aM (OY s h) (aM (x:=hd s) (Qj s (by omega)) ?_);have lK:aa ((len_ (ej 1 R) (bl (2*eG s) fun r=>bl s.bm.length (kC s r)))+(i7:Int))=((2*eG s+i7:Nat):Int):=by rw[h2,fm,cQ (by omega) (by omega)];omega
 have pw:aa ((len_ fl (hd s))+(da:Int))=((cT s+da:Nat):Int):=by rw[h2];show aa (((cT s:Nat):Int)+(da:Int))=_;rw[cQ (by omega) (by omega)];omega
 have w5:aa (((2*eG s+i7:Nat):Int)*((cT s+da:Nat):Int))=(((2*eG s+i7)*(cT s+da):Nat):Int):=by rw[<- Int.natCast_mul,cQ (by omega) (by omega)]
 rw[lK,pw,w5,dA,dA,dA,qp,qp,qp,h2,fm];refine dh (dh (dh ?_));refine aM (x:=bl ((2*eG s+i7)*(cT s+da)) (fun x=>sO s (x / (cT s+da)) (x % (cT s+da)))) ?_ ?_
 ·unfold GC
  obtain⟨x,e,-⟩:=jq (f:=fun w:Int×ar=>uF s.b5 s.bm l (hd s) (bl (2*eG s) fun r=>bl s.bm.length (kC s r)) ((2*eG s:Nat):Int) ((2*eG s+i7:Nat):Int) ((cT s+da:Nat):Int) (bl (2*eG s+i7) fun _=>0) (bl (cT s+da) fun _=>0) w.1 w.2) (fun (i:Nat) (_:Unit)=>((i:Int),bl ((2*eG s+i7)*(cT s+da)) (n3 s (cT s+da) i 0))) (2*eG s) (fun _ _=>True) (fun _=>bl ((2*eG s+i7)*(cT s+da)) (fun x=>sO s (x / (cT s+da)) (x % (cT s+da))))
   (fun i ad _ _=>by
     refine⟨(),?_,trivial⟩;have pd:(i+1)*(cT s+da)<=(2*eG s+i7)*(cT s+da):=Y5 _ (by omega);rw[Nat.succ_mul] at pd
     obtain⟨y,av,-⟩:=jq (f:=fun w:Int×ar=>uE s.b5 s.bm l (hd s) (i:Int) (bl s.bm.length (kC s i)) (bl (2*eG s) fun r=>bl s.bm.length (kC s r)) ((2*eG s:Nat):Int) ((cT s:Nat):Int) ((2*eG s+i7:Nat):Int) ((cT s+da:Nat):Int) (bl (2*eG s+i7) fun _=>0) (bl (cT s+da) fun _=>0) w.1 w.2) (fun (c:Nat) (_:Unit)=>((c:Int),bl ((2*eG s+i7)*(cT s+da)) (n3 s (cT s+da) i c))) (cT s) (fun _ _=>True) (fun _=>bl ((2*eG s+i7)*(cT s+da)) (n3 s (cT s+da) i (cT s)))
      (fun c aJ _ _=>by refine⟨(),?_,trivial⟩;obtain⟨jK,hU,kf⟩:=x9 s aJ;have YH:=K9 s h i aJ;have Ww:aa (aa ((i:Int)*((cT s+da:Nat):Int))+((c:Nat):Int))=((i*(cT s+da)+c:Nat):Int):=(by rw[<- Int.natCast_mul,cQ (x:=((i*(cT s+da):Nat):Int)) (by omega) (by omega),cQ (by omega) (by omega)];omega);unfold uE;refine eS (df (by show _/\((c:Nat):Int)<((cT s:Nat):Int);simp only;omega) (aM (x:=⟨(lh s c:Int),nB s c⟩) (by simp only;rw[dA];exact jK) (dh (aM (x:=kC s i (lh s c)) (by simp only;rw[dA];exact iH hU) ?_))));simp only;rw[Ww];refine dh (dh ?_);rw[f6 (by omega),dA,dG,show nB s c*kC s i (lh s c)=lL s i c from rfl,cQ (by omega) (by omega),S1 s aJ (by omega) (by omega) rfl])
      (fun _ _=>by unfold uE;exact f8 rfl) () trivial
     unfold uF;refine eS (dh (aM (x:=bl s.bm.length (kC s i)) (by simp only;rw[dA];exact iH ad) (aM (x:=bl ((2*eG s+i7)*(cT s+da)) (n3 s (cT s+da) i (cT s))) (by unfold GB;rw[h2];exact av) ?_)));simp only;rw[f6 (by omega),S2])
   (fun _ _=>by unfold uF;refine f8 ?_;simp only;rw[S3]) () trivial
  rw[Sk] at e;exact e
 refine aM (HT s (by omega)) ?_;rw[JH,jb,fm];refine aM (x:=bl (2*eG s+i7) (lJ s l)) ?_ rfl;unfold GD
 obtain⟨x,e,-⟩:=jq (f:=fun w:Int×ar=>uG l (bl (eG s) fun q=>((ji s q:Nat):Int)) ((eG s:Nat):Int) ((2*eG s+i7:Nat):Int) ((cT s+da:Nat):Int) (bl ((2*eG s+i7)*(cT s+da)) (fun x=>sO s (x / (cT s+da)) (x % (cT s+da)))) (bl (cT s+da) fun _=>0) w.1 w.2) (fun (n:Nat) (_:Unit)=>((n:Int),bl (2*eG s+i7) fun x=>if x<2*n then lJ s l x else 0)) (eG s) (fun _ _=>True) (fun _=>bl (2*eG s+i7) (lJ s l))
  (fun n aZ _ _=>by
    refine⟨(),?_,trivial⟩;have bL:=SZ s aZ;have pw : ∀a:Nat,a<=1000->aa ((2:Int)*((a:Nat):Int))=((2*a:Nat):Int):=fun a bs=>(by rw[cQ (by omega) (by omega)];omega);have fr:=aE l[2*ji s n] (List.getElem_mem (by omega));have eu:=aE l[2*ji s n+1] (List.getElem_mem (by omega));have gk:lJ s l (2*n) = -l[2*ji s n]:=(by unfold lJ m5;rw[dy (by omega),show 2*n / 2=n by omega,show 2*n % 2=0 by omega,Nat.add_zero,dT,dw (by omega)];rfl);have ht:lJ s l (2*n+1) = -l[2*ji s n+1]:=by unfold lJ m5;rw[dy (by omega),show (2*n+1) / 2=n by omega,show (2*n+1) % 2=1 by omega,dT,dw (by omega)];rfl
    have cp : ∀k v,v=lJ s l k->(bl (2*eG s+i7) fun x=>if x<k then lJ s l x else 0).set k v=bl (2*eG s+i7) fun x=>if x<k+1 then lJ s l x else 0:=fun k v aT=>by
     rw[mO];refine fF fun j _=> ?_;by_cases c:j=k
     ·subst c;rw[dy rfl,dy (by omega)];exact aT
     rw[dz c];by_cases cq:j<k
     ·rw[dy cq,dy (by omega)]
     rw[dz cq,dz (by omega)]
    unfold uG;refine eS (dh (aM (x:=((ji s n:Nat):Int)) (by simp only;rw[dA];exact iH aZ) ?_));simp only;rw[pw (ji s n) (by omega),pw n (by omega),f6 (n:=2*ji s n) (by omega),f6 (n:=2*n) (by omega)];refine dh (aM (x:=l[2*ji s n]) (by rw[dA];exact dw (by omega)) (dh (aM (x:=l[2*ji s n+1]) (by rw[dA];exact dw (by omega)) ?_)));refine dh (dh (dh (df (by rw[List.length_set,fm,dA];omega) ?_)));rw[f6 (by omega),cQ (x:=0-l[2*ji s n]) (by omega) (by omega),cQ (x:=0-l[2*ji s n+1]) (by omega) (by omega),dA,dA,dG,dG,cp _ _ (by rw[gk];omega),cp _ _ (by rw[ht];omega),show 2*(n+1)=2*n+1+1 by omega])
  (fun _ _=>by unfold uG;refine f8 ?_;simp only;rw[S4]) () trivial
 rw[Nat.mul_zero,Sl] at e;exact e
theorem I8 (s:cj)(h:mD s)(l:ar)(aw:l.length=2*s.b5.length)(aE:∀x∈l,-100<=x/\x<=100):
 uO s l 0 0=some ((uB s l).lT,(uB s l).j6,(uB s l).gp,(uB s l).gq,(uB s l).m4):=by
 have e:=QZ s h l aw aE 0 0 (by omega) (by omega);rw[show ((0:Nat):Int)=0 from rfl] at e
 have hA:bl (2*eG s*cT s) (fun x=>sO s (x / cT s) (x % cT s))=bl (2*eG s*cT s) (fun x=>lL s (x / cT s) (x % cT s)):=fF fun x U=>by
  have MT:0<cT s:=by
   rcases Nat.eq_zero_or_pos (cT s) with c|c
   ·rw[c,Nat.mul_zero] at U;omega
   exact c
  unfold sO;rw[dy ⟨Nat.div_lt_of_lt_mul (by rw[Nat.mul_comm];exact U),Nat.mod_lt _ MT⟩]
 have gN:bl (2*eG s) (lJ s l)=bl (2*eG s) (m5 s l):=fF fun x U=>by unfold lJ;rw[dy U]
 rw[e];simp only[Nat.add_zero,uB];rw[hA,gN]
def oO (s:cj)(x:Nat->Rat)(c k:Nat):Rat:=bQ c fun j=>if lh s j=k then (nB s j:Rat)*x j else 0
def lB (cG:Zl)(list:ar):Nat->Zl
 | 0=>[]
 | n+1=>lB cG list n++(match cG[n]? with
  | some x=>if (n:Int)∈list then [] else [x]
  | none=>[])
theorem DO (cG:Zl)(list:ar): ∀n,(lB cG list n).length<=n
 | 0=>by simp[lB]
 | n+1=>by
  have:=DO cG list n;rw[lB,dE];split
  ·split
   ·simp only[Za];omega
   simp only[dM,Za];omega
  simp only[Za];omega
theorem DP {cG:Zl}{list:ar}: ∀ {n:Nat} {m:bu},m∈lB cG list n->m∈cG
 | 0,m,h=>by simp[lB] at h
 | n+1,m,h=>by
  rw[lB,List.mem_append] at h;rcases h with h|h
  ·exact DP h
  split at h
  ·rename_i x U
   split at h
   ·simp at h
   simp at h;subst h;exact dD U
  simp at h
def oG (s:cj)(list:ar):cj:=⟨s.b5,lB s.bm list s.bm.length⟩
theorem EF {n:Nat}(h:n<1000000000000):aa ((n:Int)+1)=((n+1:Nat):Int):=by rw[cQ (by omega) (by omega)];omega
theorem PL (list:ar)(aw:list.length<=1048576)(k:Int):qU list k=some (decide (k∈list)):=by
 unfold qU xT De;rw[jb]
 obtain⟨r,e,h⟩:=pB (f:=fun w:Int=>qP list k (list.length:Nat) w) (fun (i:Nat) (_:Unit)=>(i:Int)) list.length (fun i _=> ∀j,j<i->list[j]? ≠ some k) (fun r=>(∃i:Nat,r = .inr (i:Int)/\k∈list)\/(r = .inl ()/\k ∉ list))
  (fun i ad _ cE=>by
    have U:=dw ad;unfold qP;by_cases c:list[i]=k
    ·right;exact⟨_,eS (dh (aM (x:=list[i]) (by rw[dA];exact U) (e7 (BD c.symm) rfl))),.inl ⟨i,rfl,c▸List.getElem_mem ad⟩⟩
    left;refine⟨(),eS (dh (aM (x:=list[i]) (by rw[dA];exact U) (gJ (y9 (Ne.symm c)) (by rw[EF (by omega)])))),fun j ao=> ?_⟩;by_cases e:j=i
    ·rw[e,U];exact fun h=>c (dH h)
    exact cE j (by omega))
  (fun _ cE=>⟨_,by unfold qP;exact f8 rfl,.inr ⟨rfl,fun aL=>by obtain⟨j,ao,e⟩:=List.getElem_of_mem aL;exact cE j ao (by rw[dw ao,e])⟩⟩) () (fun j ao=>by omega)
 rcases h with ⟨i,rfl,h⟩|⟨rfl,h⟩
 ·exact aM (x:=(i:Int)) (aM e rfl) (by rw[decide_eq_true h];simp)
 exact aM (x:=(-1:Int)) (aM e rfl) (by rw[decide_eq_false h];rfl)
theorem Ii (s:cj)(ao:s.b5.length<=1000)(hm:s.bm.length<=1000)(list:ar)(aw:list.length<=1048576):vg s list=some (oG s list):=by
 unfold vg G4 z6;rw[h2];refine aM (x:=s.b5) (dh rfl) ?_
 obtain⟨x,e,-⟩:=jq (f:=fun w:Int×Zl=>uV list s.bm (s.bm.length:Nat) s.b5 w.1 w.2) (fun (i:Nat) (_:Unit)=>((i:Int),lB s.bm list i)) s.bm.length (fun _ _=>True) (fun _=>lB s.bm list s.bm.length)
  (fun i ad _ _=>by
    refine⟨(),?_,trivial⟩;have U:=dw ad;have hw:=DO s.bm list i;have ap:lB s.bm list (i+1)=lB s.bm list i++(if (i:Int)∈list then [] else [s.bm[i]]):=(by rw[lB,U]);unfold uV;refine eS (dh (aM (x:=s.bm[i]) (by simp only;rw[dA];exact U) (aM (PL list aw _) ?_)));simp only;rw[f6 (by omega),ap];by_cases c:(i:Int)∈list
    ·rw[dy c];exact e7 (decide_eq_true c) (by rw[List.append_nil])
    rw[dz c];exact gJ (decide_eq_false c) (df (by simp only[dE,dM,Za];omega) rfl))
  (fun _ _=>by unfold uV;exact f8 rfl) () trivial
 exact aM e rfl
def ix (cG:Zl)(k:Int):Bool:=decide (0<=k) && (match cG[k.toNat]? with|some m=>m.hM == 1|none=>false)
theorem xI (s:cj)(k:Int):rP s k=some (ix s.bm k):=by
 unfold rP ix;by_cases h0:0<=k
 ·refine jY h0 ?_
  by_cases o:k<s.bm.length
  ·have U:=dw (show k.toNat<s.bm.length by omega);refine jY (by rw[h2];exact o) (df ⟨h0,o⟩ (aM U ?_));rw[decide_eq_true h0,U];simp
  refine jL (by rw[h2];exact o) ?_;rw[dP (by omega)];simp
 refine jL h0 ?_;rw[decide_eq_false h0];simp
theorem I9 (s:cj)(hm:s.bm.length<=8)(list:ar)(aw:list.length<=1048576):xb list s=some (!(list.all (ix s.bm))):=by
 have no : ∀ {i:Nat} {x:Int},list[i]? = some x->ix s.bm x=false->list.all (ix s.bm)=false:=fun U h=>by rw[List.all_eq_false];exact⟨_,dD U,by rw[h];simp⟩
 have yes:(∀i,i<list.length-> ∀x,list[i]? = some x->ix s.bm x=true)->list.all (ix s.bm)=true:=fun h=>by rw[List.all_eq_true];intro x U;obtain⟨i,ad⟩:=Y2 U;exact h i (eV ad) x ad
 obtain⟨r,e,h⟩:=pB (f:=fun w:Int=>uH list s.b5 s.bm (list.length:Nat) w) (fun (i:Nat) (_:Unit)=>(i:Int)) list.length (fun i _=> ∀j,j<i-> ∀x,list[j]? = some x->ix s.bm x=true) (fun r=>(∃i:Nat,r = .inr (i:Int)/\list.all (ix s.bm)=false)\/(r = .inl ()/\list.all (ix s.bm)=true))
  (fun i ad _ cE=>by
    have U:=dw ad;unfold uH zZ;by_cases c:ix s.bm list[i]=true
    ·left
     refine⟨(),eS (dh (aM (x:=list[i]) (by rw[dA];exact U) (aM (x:=false) (aM (xI _ _) (by rw[c];rfl)) (gJ rfl (by rw[EF (by omega)]))))),fun j ao x yT=> ?_⟩;by_cases e:j=i
     ·rw[e,U] at yT;obtain rfl:=dH yT;exact c
     exact cE j (by omega) x yT
    right;rw[Bool.not_eq_true] at c;exact⟨_,eS (dh (aM (x:=list[i]) (by rw[dA];exact U) (aM (x:=true) (aM (xI _ _) (by rw[c];rfl)) (e7 rfl rfl)))),.inl ⟨i,rfl,no U c⟩⟩)
  (fun _ cE=>⟨_,by unfold uH;exact f8 rfl,.inr ⟨rfl,yes fun i ad=>cE i ad⟩⟩) () (fun j ao=>by omega)
 unfold xb zN GF;rw[jb];rcases h with ⟨i,rfl,h⟩|⟨rfl,h⟩
 ·exact aM (x:=(i:Int)) (aM e rfl) (by rw[h];simp)
 exact aM (x:=(-1:Int)) (aM e rfl) (by rw[h];rfl)
def lW (p:Nat->Bool):Nat->ar
 | 0=>[]
 | n+1=>if p n then lW p n++[(n:Int)] else lW p n
theorem DD (p:Nat->Bool): ∀n,(lW p n).length<=n
 | 0=>dF _
 | n+1=>by
  have:=DD p n;rw[lW];split
  ·rw[dE,List.length_singleton];omega
  omega
theorem RP {f:Int×ar->Option ((Int×ar)⊕ar)}(p:Nat->Bool)(N:Nat)
 (h : ∀n,n<N->f ((n:Int),lW p n)=some (.inl (((n+1:Nat):Int),if p n then lW p n++[(n:Int)] else lW p n)))
 (he:f ((N:Int),lW p N)=some (.inr (lW p N))):iter f (0,[])=some (lW p N):=by
 obtain⟨x,e,-⟩:=jq (f:=f) (fun (i:Nat) (_:Unit)=>((i:Int),lW p i)) N (fun _ _=>True) (fun _=>lW p N) (fun n aZ _ _=>⟨(),h n aZ,trivial⟩) (fun _ _=>he) () trivial;exact e
theorem RQ {cG:Zl}{n:Nat}{x:bu}(h:cG[n]? = some x):ix cG (n:Int)=(x.hM == 1):=by unfold ix;rw[dA,h,decide_eq_true (by omega)];simp
theorem KK (x:Int):0<=aa (((BitVec.ofInt (IntKind.bits .i64) x &&& BitVec.ofInt (IntKind.bits .i64) (255:Int)).toNat:Int))/\aa (((BitVec.ofInt (IntKind.bits .i64) x &&& BitVec.ofInt (IntKind.bits .i64) (255:Int)).toNat:Int))<=255:=by
 have h:(BitVec.ofInt (IntKind.bits .i64) x &&& BitVec.ofInt (IntKind.bits .i64) (255:Int)).toNat<=255:=by rw[BitVec.toNat_and];exact Nat.le_trans Nat.and_le_right (Nat.le_of_eq (by decide))
 rw[cQ (by omega) (by omega)];omega
theorem Sm (c:ar)(aJ:c.length<=1048576)(i h:Int)(ad:0<=i): ∃b d7 bR,qR c i h=some (b,d7,bR)/\(0<=b/\b<=255)/\0<=d7:=by
 unfold qR;by_cases e:i<c.length
 ·have U:=dw (show i.toNat<c.length by omega);exact⟨_,_,_,jY (by show i<((c.map eU8).length:Nat);rw[Zc];exact e) (df ⟨ad,e⟩ (aM U rfl)),KK _,by rw[cQ (by omega) (by omega)];omega⟩
 exact⟨_,_,_,jL (by show ¬i<((c.map eU8).length:Nat);rw[Zc];exact e) rfl,KK _,ad⟩
theorem kM (n:Int)(o:1<=n)(J:n<=256)(c:ar)(aJ:c.length<=1048576)(i h:Int)(ad:0<=i): ∃b d7 bR,jz n c i h=some (b,d7,bR)/\(0<=b/\b<n)/\0<=d7:=by obtain⟨b,d7,bR,e,aE,hE⟩:=Sm c aJ i h ad;unfold jz;refine⟨b.tmod n,d7,bR,f8 (jY J (aM e (dh rfl))),?_,hE⟩;rw[Int.tmod_eq_emod_of_nonneg aE.1];exact⟨Int.emod_nonneg _ (by omega),Int.emod_lt_of_pos _ (by omega)⟩
theorem DQ (n:Int)(o:1<=n)(J:n<=256)(c:ar)(aJ:c.length<=1048576)(i h:Int)(ad:0<=i): ∃b d7 bR,vr n c i h=some (b,d7,bR)/\0<=d7:=by obtain⟨b,d7,bR,e,-,hE⟩:=kM n o J c aJ i h ad;exact⟨b == 0,d7,bR,aM e rfl,hE⟩
theorem DR (l:ar)(o:1<=l.length)(J:l.length<=256)(c:ar)(aJ:c.length<=1048576)(i h:Int)(ad:0<=i): ∃b d7 bR,vt l c i h=some (b,d7,bR)/\b∈l/\0<=d7:=by obtain⟨b,d7,bR,e,aE,hE⟩:=kM (len_ R l) (by rw[h2];omega) (by rw[h2];omega) c aJ i h ad;rw[h2] at aE;have U:=dw (show b.toNat<l.length by omega);exact⟨_,d7,bR,aM e (dh (aM U rfl)),List.getElem_mem _,hE⟩
theorem S5 (c:ar)(aJ:c.length<=1048576): ∃h,z3 c=some h:=by
 obtain⟨r,e,-⟩:=pB (f:=fun w:Int×Int=>u0 c w.1 w.2) (fun (n:Nat) (s:Int)=>(s,(n:Int))) c.length (fun _ _=>True) (fun _=>True)
  (fun n aZ s _=>by
    have U:=dw aZ;simp only;unfold u0;have aw:(n:Int)<len_ eU8 c:=(by rw[h2];omega);by_cases d:(n:Int)<4000
    ·exact .inl ⟨_,jY aw (jY d (dh (aM (gt rfl U) (by rw[nA (by omega)])))),trivial⟩
    exact .inr ⟨_,jY aw (jL d rfl),trivial⟩)
  (fun s _=>⟨_,by simp only;unfold u0;exact jL (by rw[h2];omega) rfl,trivial⟩) (aa ((1975:Int)+len_ eU8 c)) trivial
 exact⟨r,aM e rfl⟩
theorem KL (s:cj)(v:mD s)(aZ:∀(n:Nat) j,s.b5[n]? = some j->s3 j.mj=some true)(bk:∀(i k:Nat) x y,s.b5[i]? = some x->s.b5[k]? = some y->i≠k->(x.mj.toList == y.mj.toList)=false):qf s=some true:=by
 obtain⟨f1,f2,f3,f4⟩:=v
 have FJ:Cy s.b5 (len_ cz s.b5) s.bm 0=some (.inl ()):=by
  unfold Cy;rw[h2]
  obtain⟨_,e,-⟩:=jq (f:=fun w:Int=>uY s.b5 (s.b5.length:Nat) s.bm w) (fun (i:Nat) (_:Unit)=>(i:Int)) s.b5.length (fun _ _=>True) (fun _=>(Sum.inl ():Unit⊕Unit))
   (fun i ad _ _=>by
     refine⟨(),?_,trivial⟩;have U:=dw ad;obtain⟨gg,hx,lD,qb⟩:=f1 i _ U;have ao:xr s.b5[i]=some true:=by unfold xr;have p : ∀n:Int,-50<=n->n<=50->vy n=some true:=fun n o J=>(by unfold vy;exact jY o (by rw[decide_eq_true J]));exact aM (aZ i _ U) (e7 rfl (aM (p _ gg hx) (e7 rfl (aM (p _ lD qb) rfl))))
     have aL:xl ⟨s.b5,s.bm⟩ s.b5[i].mj=some (i:Int):=by
      unfold xl zM GA
      obtain⟨r,e,rfl⟩:=pB (f:=fun w:Int=>w8 s.b5 s.b5[i].mj (s.b5.length:Nat) w) (fun (k:Nat) (_:Unit)=>(k:Int)) s.b5.length (fun k _=>k<=i) (fun r=>r=(Sum.inr (i:Int):Unit⊕Int))
       (fun k aL _ YI=>by
         have aK:=dw aL;unfold w8 zX;by_cases c:k=i
         ·subst c;exact .inr ⟨_,eS (dh (aM (gt rfl aK) (aM rfl (e7 (by simp) rfl)))),rfl⟩
         exact .inl ⟨(),eS (dh (aM (gt rfl aK) (aM rfl (gJ (bk k i _ _ aK U c) (by rw[f6 (by omega)]))))),by omega⟩)
       (fun _ h=>by omega) () (Nat.zero_le _)
      rw[h2];exact aM (x:=(i:Int)) (aM e rfl) rfl
     unfold uY;exact eS (dh (aM (gt rfl U) (aM ao (e7 rfl (aM aL (gJ (BF rfl) (by rw[f6 (by omega)]))))))))
   (fun _ _=>by unfold uY;exact f8 rfl) () trivial
  exact e
 have o6 : ∀m∈s.bm,oX s.b5 m=true:=fun m hm=>by obtain⟨n,aZ⟩:=Y2 hm;exact f2 n m aZ
 have aU:w9 s.bm s=some false:=by
  unfold w9 zK Gz;rw[h2]
  obtain⟨x,e,-⟩:=jq (f:=fun w:Int=>uD s.bm s.b5 s.bm (s.bm.length:Nat) w) (fun (i:Nat) (_:Unit)=>(i:Int)) s.bm.length (fun _ _=>True) (fun _=>(Sum.inl ():Unit⊕Int))
   (fun i ad _ _=>by refine⟨(),?_,trivial⟩;have U:=dw ad;have aE:=o6 s.bm[i] (List.getElem_mem ad);unfold uD zU;refine eS (dh (aM (gt rfl U) (aM (x:=false) (aM (PI _ _) (by simp[aE])) (gJ rfl (by rw[f6 (by omega)]))))))
   (fun _ _=>by unfold uD;exact f8 rfl) () trivial
  exact aM (x:=(-1:Int)) (aM e rfl) rfl
 unfold qf;exact jL (by rw[h2];omega) (jL (by rw[h2];omega) (aM FJ (aM aU rfl)))
def nx:List ByteArray:=[⟨#[97]⟩,⟨#[98]⟩,⟨#[99]⟩,⟨#[100]⟩]
theorem Ja {k:Nat}{x:ByteArray}(h:nx[k]? = some x):s3 x=some true:=by
 have key : ∀u:UInt8,97<=u.toNat->u.toNat<=122->s3 ⟨#[u]⟩=some true:=fun u o J=>by
  unfold s3 HF
  obtain⟨_,e,-⟩:=jq (f:=fun w:Int=>vd ⟨#[u]⟩ (((⟨#[u]⟩:ByteArray).size:Nat):Int) w) (fun (i:Nat) (_:Unit)=>(i:Int)) 1 (fun _ _=>True) (fun _=>(Sum.inl ():Unit⊕Unit))
   (fun i ad _ _=>by obtain rfl:i=0:=(by omega);refine⟨(),?_,trivial⟩;unfold vd;have bN:(((⟨#[u]⟩:ByteArray).size:Nat):Int)=1:=rfl;rw[bN];refine eS (dh (aM (x:=true) ?_ (e7 rfl rfl)));unfold z5;have cZ:((⟨#[u]⟩:ByteArray).data.toList.getD (((0:Nat):Int)).toNat 0)=u:=rfl;rw[cZ];exact eS (by rw[decide_eq_true (by omega)]))
   (fun _ _=>by unfold vd;exact jL (by show ¬(1:Int)<1;omega) rfl) () trivial
  refine aM e ?_;simp only;have cc:((⟨#[u]⟩:ByteArray).toList == (⟨#[]⟩:ByteArray).toList)=false:=(by simp[ByteArray.toList,ByteArray.toList.loop,ByteArray.size]);rw[cc];rfl
 match k,h with
 | 0,h=>obtain rfl:=dH h;exact key 97 (by decide) (by decide)
 | 1,h=>obtain rfl:=dH h;exact key 98 (by decide) (by decide)
 | 2,h=>obtain rfl:=dH h;exact key 99 (by decide) (by decide)
 | 3,h=>obtain rfl:=dH h;exact key 100 (by decide) (by decide)
 | k+4,h=>simp[nx] at h
theorem La {i k:Nat}{x y:ByteArray}(h:nx[i]? = some x)(bR:nx[k]? = some y)(cc:i≠k):(x.toList == y.toList)=false:=by
 have ad:=eV h;have aL:=eV bR;have key : ∀i k:Fin 4,i≠k->((nx[i.1]!).toList == (nx[k.1]!).toList)=false:=by decide +kernel
 have ap:nx[i]! = x:=by simp[h]
 have av:nx[k]! = y:=by simp[bR]
 have:=key ⟨i,by simpa [nx] using ad⟩ ⟨k,by simpa [nx] using aL⟩ (fun e=>cc (by simpa using congrArg Fin.val e));rw[ap,av] at this;exact this
structure lb (s:cj):Prop where
 v:mD s
 ok:qf s=some true
 Gj:3<=s.b5.length
 fJ:2<=s.bm.length
 MU:s.b5.map (·.mj)=nx.take s.b5.length
 zJ : ∀j∈s.b5,-4<=j.kG/\j.kG<=8/\ -9<=j.kH/\j.kH<=3
theorem D9 (s:cj)(ao:∀j∈s.b5,-4<=j.kG/\j.kG<=8/\ -9<=j.kH/\j.kH<=3)(hm:∀m∈s.bm,oX s.b5 m=true)(bJ:s.b5.length<=4)(bH:s.bm.length<=8)(aZ:s.b5.map (·.mj)=nx.take s.b5.length)(Gj:3<=s.b5.length)(fJ:2<=s.bm.length):lb s:=by
 have v:mD s:=⟨fun n j h=>by have:=ao j (dD h);omega,fun n m h=>hm m (dD h),by omega,bH⟩;have name : ∀(n:Nat) j,s.b5[n]? = some j->nx[n]? = some j.mj:=fun n j h=>by have aw:=eV h;have e:(s.b5.map (·.mj))[n]? = some j.mj:=(by rw[dI,h];rfl);rw[aZ,dR,dy aw] at e;exact e
 exact⟨v,KL s v (fun n j h=>Ja (name n j h)) (fun i k x y U aK cc=>La (name i x U) (name k y aK) cc),Gj,fJ,aZ,ao⟩
theorem S6 (c:ar)(aJ:c.length<=1048576)(i h:Int)(ad:0<=i): ∃dk cG d7 bR,xp c i h=some (dk,cG,d7,bR)/\lb ⟨dk,cG⟩/\0<=d7:=by
 unfold xp;obtain⟨gg,nA,o,ap,wC,pd⟩:=kM 3 (by omega) (by omega) c aJ i h ad;obtain⟨hx,l6,J,av,yU,oy⟩:=kM 3 (by omega) (by omega) c aJ nA o pd;obtain⟨lD,zE,an,bS,VR,wJ⟩:=kM 2 (by omega) (by omega) c aJ l6 J oy;obtain⟨qb,rI,aG,dj,VS,FR⟩:=kM 3 (by omega) (by omega) c aJ zE an wJ;obtain⟨qc,zF,aN,eh,VT,FT⟩:=kM 2 (by omega) (by omega) c aJ rI aG FR;obtain⟨qd,Gk,bJ,e6,VU,FU⟩:=kM 3 (by omega) (by omega) c aJ zF aN FT;obtain⟨sP,Gl,b6,fg,FV,FW⟩:=DR [1,2,3] (by simp) (by simp) c aJ Gk bJ FU;obtain⟨Gm,i8,bH,h1,VV,BW⟩:=kM 3 (by omega) (by omega) c aJ Gl b6 FW;have lK:aa ((-1:Int)-qb) = -1-qb:=cQ (by omega) (by omega);have pw:aa ((3:Int)+qc)=3+qc:=cQ (by omega) (by omega);have w5:aa ((-1:Int)-qd) = -1-qd:=cQ (by omega) (by omega);have VW:1<=sP/\sP<=3:=by simp at FV;omega
 obtain⟨dk,jF⟩ : ∃dk:Zj,dk=([(⟨(⟨#[97]⟩:ByteArray),(-2),gg,true⟩:a6),(⟨(⟨#[98]⟩:ByteArray),6,hx,true⟩:a6),(⟨(⟨#[99]⟩:ByteArray),lD,-1-qb,false⟩:a6),(⟨(⟨#[100]⟩:ByteArray),3+qc,-1-qd,false⟩:a6)]:Zj):=⟨_,rfl⟩;have g0:dk[0]? = some ⟨⟨#[97]⟩,-2,gg,true⟩:=by rw[jF];rfl
 have g1:dk[1]? = some ⟨⟨#[98]⟩,6,hx,true⟩:=by rw[jF];rfl
 have g2:dk[2]? = some ⟨⟨#[99]⟩,lD,-1-qb,false⟩:=by rw[jF];rfl
 have g3:dk[3]? = some ⟨⟨#[100]⟩,3+qc,-1-qd,false⟩:=by rw[jF];rfl
 have aw:dk.length=4:=by rw[jF];rfl
 have Cb : ∀a b k:Int,(a=0\/a=1\/a=2\/a=3)->(b=2\/b=3\/b=1)->(b=1->a=3)->(a=2->b=3)->(a=3->b=1)->1<=k->k<=3->oX dk ⟨a,b,k⟩=true:=fun a b k bs aE qE mA hG YJ uc=>by
  unfold oX;simp only;rw[aw,decide_eq_true (by omega),Bool.true_and];rcases bs with rfl|rfl|rfl|rfl
  ·rcases aE with rfl|rfl|rfl
   ·rw[show (0:Int).toNat=0 from rfl,show (2:Int).toNat=2 from rfl,g0,g2];simp;omega
   ·rw[show (0:Int).toNat=0 from rfl,show (3:Int).toNat=3 from rfl,g0,g3];simp;omega
   exact absurd (qE rfl) (by omega)
  ·rcases aE with rfl|rfl|rfl
   ·rw[show (1:Int).toNat=1 from rfl,show (2:Int).toNat=2 from rfl,g1,g2];simp;omega
   ·rw[show (1:Int).toNat=1 from rfl,show (3:Int).toNat=3 from rfl,g1,g3];simp;omega
   exact absurd (qE rfl) (by omega)
  ·obtain rfl:=mA rfl;rw[show (2:Int).toNat=2 from rfl,show (3:Int).toNat=3 from rfl,g2,g3];simp;omega
  obtain rfl:=hG rfl;rw[show (3:Int).toNat=3 from rfl,show (1:Int).toNat=1 from rfl,g3,g1];simp;omega
 obtain⟨⟨n,j,cG⟩,e,U⟩:=mc (f:=fun w:Int×Int×Int×Zl=>u1 c dk w.1 w.2.1 w.2.2.1 w.2.2.2) (fun w=>0<=w.1/\0<=w.2.1/\w.2.2.2.length+w.1.toNat<=8/\2<=w.2.2.2.length/\ ∀m∈w.2.2.2,oX dk m=true) (fun w=>w.1.toNat) (fun r=>0<=r.1/\r.2.2.length<=8/\2<=r.2.2.length/\ ∀m∈r.2.2,oX dk m=true)
  (fun w hw=>by
    obtain⟨n,j,g,cG⟩:=w;obtain⟨gX,i4,cW,g7,fv⟩:=hw;simp only at gX i4 cW g7 fv;by_cases d:0<n
    ·obtain⟨fr,kj,pv,gk,aS,ak⟩:=kM 2 (by omega) (by omega) c aJ j g i4
     obtain⟨eu,fw,sN,ht,a9,bW⟩:=kM 2 (by omega) (by omega) c aJ kj pv ak;obtain⟨aY,Wx,Wy,pp,b8,bp⟩:=kM 3 (by omega) (by omega) c aJ fw sN bW;have v1:aa ((2:Int)+eu)=2+eu:=cQ (by omega) (by omega);have v2:aa ((1:Int)+aY)=1+aY:=cQ (by omega) (by omega);refine .inl ⟨(n-1,Wx,Wy,cG++[⟨fr,2+eu,1+aY⟩]),?_,⟨by simp only;omega,bp,by simp only[dE,List.length_singleton];omega,by simp only[dE,List.length_singleton];omega,fun m hm=> ?_⟩,by simp only;omega⟩
     ·simp only;unfold u1;refine jY d (aM gk (aM ht (aM pp ?_)));simp only;rw[v1,v2,cQ (x:=n-1) (by omega) (by omega)];exact df (by simp only[dE,List.length_singleton];omega) rfl
     simp only[List.mem_append,List.mem_singleton] at hm;rcases hm with hm|rfl
     ·exact fv m hm
     exact Cb _ _ _ (by omega) (by omega) (by omega) (by omega) (by omega) (by omega) (by omega)
    refine .inr ⟨(j,g,cG),by simp only;unfold u1;exact jL d rfl,i4,by simp only;omega,g7,fv⟩)
  (Gm,i8,bH,[⟨0,2,1⟩,⟨2,3,sP⟩,⟨3,1,1⟩]) ⟨VV.1,BW,by simp;omega,by simp,fun m hm=>by
    simp at hm;rcases hm with rfl|rfl|rfl
    ·exact Cb _ _ _ (by omega) (by omega) (by omega) (by omega) (by omega) (by omega) (by omega)
    ·exact Cb _ _ _ (by omega) (by omega) (by omega) (by omega) (by omega) (by omega) (by omega)
    exact Cb _ _ _ (by omega) (by omega) (by omega) (by omega) (by omega) (by omega) (by omega)⟩
 obtain⟨aS,a9,b8,cD⟩:=U;refine⟨dk,cG,n,j,aM ap (aM av (aM bS (aM dj (aM eh (aM e6 (aM fg (aM h1 ?_))))))),D9 _ (fun j ao=> ?_) cD (by simp only;omega) a9 ?_ (by simp only;omega) b8,aS⟩
 ·simp only;rw[lK,pw,w5,<- jF];exact aM (x:=(n,j,cG)) e rfl
 ·rw[jF] at ao;simp at ao;rcases ao with rfl|rfl|rfl|rfl<;>simp<;>omega
 simp only;rw[aw,jF];rfl
theorem Sn (c:ar)(aJ:c.length<=1048576)(i h:Int)(ad:0<=i): ∃dk cG d7 bR,xm c i h=some (dk,cG,d7,bR)/\lb ⟨dk,cG⟩/\0<=d7:=by
 unfold xm;obtain⟨gg,nA,o,ap,wC,pd⟩:=kM 4 (by omega) (by omega) c aJ i h ad;obtain⟨hx,l6,J,av,yU,oy⟩:=kM 3 (by omega) (by omega) c aJ nA o pd;obtain⟨lD,zE,an,bS,VR,wJ⟩:=kM 4 (by omega) (by omega) c aJ l6 J oy;obtain⟨qb,rI,aG,dj,VS,FR⟩:=kM 3 (by omega) (by omega) c aJ zE an wJ;obtain⟨qc,zF,aN,eh,VT,FT⟩:=kM 4 (by omega) (by omega) c aJ rI aG FR;obtain⟨qd,Gk,bJ,e6,VU,FU⟩:=kM 4 (by omega) (by omega) c aJ zF aN FT;obtain⟨sP,Gl,b6,fg,FV,FW⟩:=DR [1,1,1,3] (by simp) (by simp) c aJ Gk bJ FU;obtain⟨Gm,i8,bH,h1,BW⟩:=DQ 2 (by omega) (by omega) c aJ Gl b6 FW;have lK:aa ((-1:Int)-gg) = -1-gg:=cQ (by omega) (by omega);have pw:aa ((3:Int)+lD)=3+lD:=cQ (by omega) (by omega);have w5:aa (qc-(1:Int))=qc-1:=cQ (by omega) (by omega);have MV:aa ((-1:Int)-qd) = -1-qd:=cQ (by omega) (by omega);have VW:1<=sP/\sP<=3:=by simp at FV;omega
 cases Gm with
 | false =>
  obtain⟨dk,jF⟩ : ∃dk:Zj,dk=([(⟨(⟨#[97]⟩:ByteArray),-1-gg,hx,true⟩:a6),(⟨(⟨#[98]⟩:ByteArray),3+lD,qb,true⟩:a6),(⟨(⟨#[99]⟩:ByteArray),qc-1,-1-qd,false⟩:a6)]:Zj):=⟨_,rfl⟩;have g0:dk[0]? = some ⟨⟨#[97]⟩,-1-gg,hx,true⟩:=(by rw[jF];rfl);have g1:dk[1]? = some ⟨⟨#[98]⟩,3+lD,qb,true⟩:=(by rw[jF];rfl);have g2:dk[2]? = some ⟨⟨#[99]⟩,qc-1,-1-qd,false⟩:=(by rw[jF];rfl);have aw:dk.length=3:=(by rw[jF];rfl);refine⟨dk,[⟨0,2,1⟩,⟨1,2,sP⟩],i8,bH,aM ap (aM av (aM bS (aM dj (aM eh (aM e6 (aM fg (aM h1 (gJ rfl ?_)))))))),D9 _ (fun j ao=> ?_) (fun m hm=> ?_) (by simp only;omega) (by simp) ?_ (by simp only;omega) (by simp),BW⟩
  ·simp only;rw[lK,pw,w5,MV,<- jF]
  ·rw[jF] at ao;simp at ao;rcases ao with rfl|rfl|rfl<;>simp<;>omega
  ·simp at hm
   unfold oX;rcases hm with rfl|rfl
   ·simp only;rw[aw,decide_eq_true (by omega),Bool.true_and,show (0:Int).toNat=0 from rfl,show (2:Int).toNat=2 from rfl,g0,g2];simp;omega
   simp only;rw[aw,decide_eq_true (by omega),Bool.true_and,show (1:Int).toNat=1 from rfl,show (2:Int).toNat=2 from rfl,g1,g2];simp;omega
  simp only;rw[aw,jF];rfl
 | true =>
  obtain⟨Cc,Wz,dX,WA,YK,VX⟩:=kM 5 (by omega) (by omega) c aJ i8 bH BW;obtain⟨FX,VY,di,VZ,Uk,Ul⟩:=DR [1,2,3] (by simp) (by simp) c aJ Wz dX VX;have WB:aa (Cc-(1:Int))=Cc-1:=cQ (by omega) (by omega);have XZ:1<=FX/\FX<=3:=(by simp at Uk;omega);obtain⟨dk,jF⟩ : ∃dk:Zj,dk=([(⟨(⟨#[97]⟩:ByteArray),-1-gg,hx,true⟩:a6),(⟨(⟨#[98]⟩:ByteArray),3+lD,qb,true⟩:a6),(⟨(⟨#[99]⟩:ByteArray),qc-1,-1-qd,false⟩:a6)]:Zj)++([(⟨(⟨#[100]⟩:ByteArray),Cc-1,(-7),true⟩:a6)]:Zj):=⟨_,rfl⟩;have g0:dk[0]? = some ⟨⟨#[97]⟩,-1-gg,hx,true⟩:=(by rw[jF];rfl);have g1:dk[1]? = some ⟨⟨#[98]⟩,3+lD,qb,true⟩:=(by rw[jF];rfl);have g2:dk[2]? = some ⟨⟨#[99]⟩,qc-1,-1-qd,false⟩:=(by rw[jF];rfl);have g3:dk[3]? = some ⟨⟨#[100]⟩,Cc-1,-7,true⟩:=(by rw[jF];rfl);have aw:dk.length=4:=(by rw[jF];rfl);refine⟨dk,([⟨0,2,1⟩,⟨1,2,sP⟩]:Zl)++[⟨3,2,FX⟩],VY,di,aM ap (aM av (aM bS (aM dj (aM eh (aM e6 (aM fg (aM h1 (e7 rfl (aM WA ?_))))))))),D9 _ (fun j ao=> ?_) (fun m hm=> ?_) (by simp only;omega) (by simp) ?_ (by simp only;omega) (by simp),Ul⟩
  ·simp only;rw[lK,pw,w5,MV,WB,<- jF];exact df (by rw[aw];omega) (aM VZ (df (by simp) rfl))
  ·rw[jF] at ao;simp at ao;rcases ao with rfl|rfl|rfl|rfl<;>simp<;>omega
  ·simp at hm
   unfold oX;rcases hm with rfl|rfl|rfl
   ·simp only;rw[aw,decide_eq_true (by omega),Bool.true_and,show (0:Int).toNat=0 from rfl,show (2:Int).toNat=2 from rfl,g0,g2];simp;omega
   ·simp only;rw[aw,decide_eq_true (by omega),Bool.true_and,show (1:Int).toNat=1 from rfl,show (2:Int).toNat=2 from rfl,g1,g2];simp;omega
   simp only;rw[aw,decide_eq_true (by omega),Bool.true_and,show (3:Int).toNat=3 from rfl,show (2:Int).toNat=2 from rfl,g3,g2];simp;omega
  simp only;rw[aw,jF];rfl
theorem So (c:ar)(aJ:c.length<=1048576)(i h:Int)(ad:0<=i): ∃dk cG d7 bR,xn c i h=some (dk,cG,d7,bR)/\lb ⟨dk,cG⟩/\0<=d7:=by
 obtain⟨b,nA,o,ap,pd⟩:=DQ 3 (by omega) (by omega) c aJ i h ad;unfold xn
 cases b with
 | true =>
  obtain⟨dk,cG,l6,J,e,d,oy⟩:=S6 c aJ nA o pd;exact⟨dk,cG,l6,J,aM ap (e7 rfl (aM e rfl)),d,oy⟩
 | false =>
  obtain⟨dk,cG,l6,J,e,d,oy⟩:=Sn c aJ nA o pd;exact⟨dk,cG,l6,J,aM ap (gJ rfl (aM e rfl)),d,oy⟩
def BX (s:cj)(l:ar):Prop:=l.length=2*s.b5.length/\ ∀x∈l,-8<=x/\x<=4
theorem RR (s:cj)(d:lb s)(c:ar)(aJ:c.length<=1048576)(i h:Int)(ad:0<=i): ∃l d7 bR,xo s c i h=some (l,d7,bR)/\BX s l/\0<=d7:=by
 have bJ:=d.v.2.2.1;have an:=d.Gj;have WC:aa ((2:Int)*(len_ cz s.b5))=((2*s.b5.length:Nat):Int):=by rw[h2,cQ (by omega) (by omega)];omega
 unfold xo;rw[WC,dA]
 obtain⟨⟨j,g,row⟩,e,aS,a9,b8⟩:=jq (f:=fun w:Int×Int×Int×ar=>sT s.b5 (s.b5.length:Nat) c w.1 w.2.1 w.2.2.1 w.2.2.2) (fun (k:Nat) (q:Int×Int×ar)=>((k:Int),q.1,q.2.1,q.2.2)) s.b5.length (fun _ q=>0<=q.1/\q.2.2.length=2*s.b5.length/\ ∀x∈q.2.2,-8<=x/\x<=4) (fun q=>q)
  (fun k aL q aU=>by
    obtain⟨j,g,row⟩:=q;obtain⟨gX,i4,cW⟩:=aU;simp only at gX i4 cW;have U:=dw aL;have pw:aa ((2:Int)*((k:Nat):Int))=((2*k:Nat):Int):=(by rw[cQ (by omega) (by omega)];omega);by_cases f:s.b5[k].mP=true
    ·refine⟨(j,g,row),?_,gX,i4,cW⟩;simp only;unfold sT;exact eS (dh (aM (gt rfl U) (e7 f (by rw[f6 (by omega)]))))
    obtain⟨fr,kj,pv,gk,ak,s1⟩:=kM 7 (by omega) (by omega) c aJ j g gX;obtain⟨eu,fw,sN,ht,bW,s2⟩:=kM 9 (by omega) (by omega) c aJ kj pv s1;have v1:aa (fr-(3:Int))=fr-3:=cQ (by omega) (by omega);have v2:aa (0-eu)=0-eu:=cQ (by omega) (by omega);refine⟨(fw,sN,(row.set (2*k) (fr-3)).set (2*k+1) (0-eu)),?_,s2,by simp only[List.length_set];omega,fun x hm=> ?_⟩
    ·simp only;unfold sT;rw[pw,f6 (n:=2*k) (by omega),dA,dA,dG,dG];refine eS (dh (aM (gt rfl U) (gJ (by simpa using f) (aM gk (dh (dh (aM ht (dh (df (by rw[List.length_set];omega) ?_)))))))));simp only;rw[v1,v2,f6 (by omega),dA]
    simp only at hm;rcases List.mem_or_eq_of_mem_set hm with hm|rfl
    ·rcases List.mem_or_eq_of_mem_set hm with hm|rfl
     ·exact cW x hm
     omega
    omega)
  (fun q _=>by simp only;unfold sT;exact f8 rfl) (i,h,List.replicate (2*s.b5.length) 0) ⟨ad,by simp,fun x U=>by simp only[List.mem_replicate] at U;omega⟩
 simp only at aS a9 b8;obtain⟨b,l6,J,av,oy⟩:=DQ 8 (by omega) (by omega) c aJ j g aS;have ej:CE s.b5 (len_ cz s.b5) c 0 i h (List.replicate (2*s.b5.length) 0)=some (j,g,row):=by unfold CE;rw[h2];exact e
 cases b with
 | false=>exact⟨row,l6,J,dh (aM ej (aM av (gJ rfl rfl))),⟨a9,b8⟩,oy⟩
 | true =>
  have wl:aa (((row.length:Nat):Int)-(1:Int))=((row.length-1:Nat):Int):=(by rw[cQ (by omega) (by omega)];omega);refine⟨row.set (row.length-1) 4,l6,J,dh (aM ej (aM av (e7 rfl ?_))),⟨by rw[List.length_set];exact a9,fun x hm=> ?_⟩,oy⟩
  ·simp only;rw[wl,dA,dG];exact dh (dh rfl)
  rcases List.mem_or_eq_of_mem_set hm with hm|rfl
  ·exact b8 x hm
  omega
theorem PM (c:ar)(aJ:c.length<=1048576): ∃s l,z4 c=some (s,l)/\lb s/\BX s l:=by obtain⟨h0,e0⟩:=S5 c aJ;obtain⟨dk,cG,nA,o,ap,d,pd⟩:=So c aJ 0 h0 (by omega);obtain⟨l,l6,J,av,Cd,-⟩:=RR ⟨dk,cG⟩ d c aJ nA o pd;exact⟨⟨dk,cG⟩,l,aM e0 (aM (x:=(dk,cG,l,l6,J)) (aM ap (aM av rfl)) rfl),d,Cd⟩
theorem C8 (s:cj)(v:mD s)(l:ar)(aw:l.length=2*s.b5.length)(aE:∀x∈l,-100<=x/\x<=100): ∃r,qK s l=some r/\(r=true↔pN (2*eG s) (cT s) (lL s) (m5 s l)):=by
 obtain⟨q,aS,a9⟩:=RO (S0 s v l aE);unfold qK;rcases a9 with ⟨bN,t,aX,g,d9,rfl,-⟩|⟨bN,rfl⟩
 ·exact⟨true,aM (I8 s v l aw aE) (aM aS rfl),by simp[bN]⟩
 exact⟨false,aM (I8 s v l aw aE) (aM aS rfl),by simp[bN]⟩
theorem Lb (s:cj)(d:lb s)(l:ar)(aw:l.length=2*s.b5.length)(aE:∀x∈l,-100<=x/\x<=100):vv s l=some true/\s4 s l=some true:=by
 have e:wi s.b5.length l=true:=by unfold wi;rw[decide_eq_true aw,Bool.true_and,List.all_eq_true];intro x U;unfold q5;exact decide_eq_true (aE x U)
 have f:=Ie s d.v.2.2.1 l (by rw[aw,Dm];have:=d.v.2.2.1;omega);rw[e] at f;exact⟨f,aM d.ok (e7 rfl (aM f rfl))⟩
theorem Um (s:cj)(d:lb s)(l:ar)(aw:l.length=2*s.b5.length)(aE:∀x∈l,-100<=x/\x<=100): ∃r,rT s l=some r/\qK s l=some r/\(r=true↔pN (2*eG s) (cT s) (lL s) (m5 s l)):=by obtain⟨r,ak,bW⟩:=C8 s d.v l aw aE;exact⟨r,aM (Lb s d l aw aE).2 (e7 rfl (aM ak rfl)),ak,bW⟩
theorem BX.fj {s:cj}{l:ar}(h:BX s l): ∀x∈l,-100<=x/\x<=100:=fun x U=>by have:=h.2 x U;omega
theorem Kd {cG:Zl}{k:Nat}{x:bu}(aL:cG[k]? = some x)(o:x.hM=1): ∀ {n:Nat} {c:eA},n<=cG.length->c∈jD cG n->c.oW=(k:Int)->c.oh=1
 | 0,c,_,h,_=>by simp[jD] at h
 | n+1,c,aZ,h,e=>by
  rw[jD,List.mem_append] at h;rcases h with h|h
  ·exact Kd aL o (by omega) h e
  rw[dw (by omega)] at h;simp only[pO,List.mem_append] at h;rcases h with h|h
  ·split at h
   ·simp at h
   simp at h;subst h;rfl
  split at h
  ·simp at h
  rename_i cc;simp at h;subst h;simp only at e;have:n=k:=(by omega);subst this;rw[dw (by omega)] at aL;exact absurd (by rw[dH aL];exact o) cc
theorem Sp (s:cj){k:Nat}{m:bu}(aL:s.bm[k]? = some m)(o:m.hM=1){c:Nat}(aJ:c<cT s)(e:lh s c=k):nB s c=1:=by obtain⟨ap,-,-⟩:=x9 s aJ;have:=Kd aL o (dF _) (dD (show (jD s.bm s.bm.length)[c]? = _ from ap)) (by simp only;rw[e]);exact this
theorem Sq (s:cj){k:Nat}{m:bu}(aL:s.bm[k]? = some m)(o:m.hM=1)(x:Nat->Rat):oO s x (cT s) k=bQ (cT s) fun j=>if lh s j=k then x j else 0:=by
 unfold oO;refine en fun j ao=> ?_;by_cases e:lh s j=k
 ·rw[dy e,dy e,Sp s aL o ao e];grind
 rw[dz e,dz e]
theorem Qk (s:cj){k:Nat}{m:bu}(aL:s.bm[k]? = some m)(o:m.hM=1){x:Nat->Rat}(U:∀j,j<cT s->0<=x j):0<=oO s x (cT s) k:=by
 rw[Sq s aL o];refine oR fun j ao=> ?_;by_cases e:lh s j=k
 ·rw[dy e];exact U j ao
 rw[dz e];exact Rat.le_refl
structure Bk (K:Nat) (z:Nat->Rat) (w:Rat):Prop where
 pos:0<w
 sL:d2 K w
 WD : ∀k,d2 K (z k*w)
 V0:1000*K<=21*100*(fB*fB)
theorem Bk.fit {K:Nat}{z:Nat->Rat}{w x:Rat}(h:Bk K z w){a:Nat}(bs:a<=1000)(U:d2 (a*K) (x*w)):mu x:=by have af:=h.pos;have o:=h.V0;have J:a*K<=1000*K:=Y5 _ bs;exact Eg (K:=21*100*(fB*fB)) (h.sL.mono (by omega)) (U.mono (by omega)) (by grind) (by grind) (Ei (dF _))
theorem d2.int {z:Int}{K:Nat}(h:z.natAbs<=K):d2 K (z:Rat):=⟨z,rfl,h⟩
theorem Bk.fits {K:Nat}{z:Nat->Rat}{w:Rat}(h:Bk K z w){n:Nat}(aZ:n<=8){e:Nat->Int}(he:∀k,-100<=e k/\e k<=100){f:Int}(bL:-100<=f/\f<=100):mu (bQ n (fun k=>z k*(e k:Rat))+(f:Rat)):=h.fit (a:=n*100+100) (by omega) (by
 have ap:(bQ n (fun k=>z k*(e k:Rat))+(f:Rat))*w=bQ n (fun k=>(e k:Rat)*(z k*w))+(f:Rat)*w:=by rw[Rat.add_mul,<- rX];congr 1;exact en fun k _=>by grind
 rw[ap,Nat.add_mul];refine d2.add ?_ ((d2.int (by omega)).mul h.sL);rw[Nat.mul_assoc];exact d2.sum fun k _=>(d2.int (by have:=he k;omega)).mul (h.WD k))
theorem KM (s:cj)(x:Nat->Rat)(i:Nat):bQ (cT s) (fun c=>(lL s i c:Rat)*x c)=bQ s.bm.length (fun k=>oO s x (cT s) k*(kC s i k:Rat)):=by
 have e : ∀k,oO s x (cT s) k*(kC s i k:Rat)=bQ (cT s) fun c=>if lh s c=k then (nB s c:Rat)*x c*(kC s i k:Rat) else 0:=fun k=>by unfold oO;rw[<- rX];exact en fun c _=>by split<;>grind
 rw[en (n:=s.bm.length) fun k _=>e k,m7];refine en fun c aJ=> ?_;obtain⟨-,J,-⟩:=x9 s aJ;rw[i9 J fun k _ cc=>dz (fun e=>cc e.symm),dy rfl];unfold lL;rw[Zg];grind
def BZ (s:cj)(l:ar)(z:Nat->Rat):Prop:= ∀i,i<2*eG s->bQ s.bm.length (fun k=>z k*(kC s i k:Rat))=(m5 s l i:Rat)
theorem Sr {s:cj}{l:ar}{x:Nat->Rat}(h:pi (2*eG s) (cT s) (lL s) (m5 s l) x):BZ s l (oO s x (cT s)):=fun i ad=>by rw[<- KM];exact h.2 i ad
def zq (s:cj)(z:Nat->Rat):Prop:= ∀k m,s.bm[k]? = some m->(m.hM=1->0<=z k)/\(m.hM=2->z k<=0)
theorem JI {cG:Zl}{k:Nat}{x:bu}(aL:cG[k]? = some x)(o:x.hM=2): ∀ {n:Nat} {c:eA},n<=cG.length->c∈jD cG n->c.oW=(k:Int)->c.oh = -1
 | 0,c,_,h,_=>by simp[jD] at h
 | n+1,c,aZ,h,e=>by
  rw[jD,List.mem_append] at h;rcases h with h|h
  ·exact JI aL o (by omega) h e
  rw[dw (by omega)] at h;simp only[pO,List.mem_append] at h;rcases h with h|h
  ·split at h
   ·simp at h
   rename_i cc;simp at h;subst h;simp only at e;have:n=k:=(by omega);subst this;rw[dw (by omega)] at aL;exact absurd (by rw[dH aL];exact o) cc
  split at h
  ·simp at h
  simp at h;subst h;rfl
theorem Ss (s:cj){x:Nat->Rat}(U:∀j,j<cT s->0<=x j):zq s (oO s x (cT s)):=fun k m hm=>by
 refine⟨fun h=>Qk s hm h U,fun h=> ?_⟩
 have:0<= -oO s x (cT s) k:=by
  unfold oO;rw[show -bQ (cT s) (fun j=>if lh s j=k then (nB s j:Rat)*x j else 0)=bQ (cT s) (fun j=>(-1:Rat)*(if lh s j=k then (nB s j:Rat)*x j else 0)) by rw[hj];grind];refine oR fun j ao=> ?_;have p:=U j ao;by_cases e:lh s j=k
  ·obtain⟨ap,-,-⟩:=x9 s ao;have:=JI hm h (dF _) (dD (show (jD s.bm s.bm.length)[j]? = _ from ap)) (by simp only;rw[e]);simp only at this;rw[dy e,this,Rat.intCast_neg];grind
  rw[dz e];grind
 grind
theorem lb.wZ {s:cj}(d:lb s):s.b5.length<=4:=by have:=congrArg List.length d.MU;rw[Zc,List.length_take] at this;have e:nx.length=4:=rfl;omega
structure V1 (s:cj):Prop where
 v:mD s
 ok:qf s=some true
 wZ:s.b5.length<=4
theorem lb.V {s:cj}(d:lb s):V1 s:=⟨d.v,d.ok,d.wZ⟩
theorem Jb {α:Type}(f:α->Rat)(d:α)(a b:List α):bQ (a++b).length (fun c=>f ((a++b).getD c d))=bQ a.length (fun c=>f (a.getD c d))+bQ b.length (fun c=>f (b.getD c d)):=by
 rw[dE,Ae];congr 1
 ·exact en fun i ad=>by rw[dT,dT,Y1 ad]
 exact en fun i ad=>by rw[dT,dT,Y6 (by omega),Nat.add_sub_cancel_left]
def yJ (g:Int->Int->Rat)(cG:Zl)(j:Nat):Rat:=match cG[j]? with
 | some x=>(if x.hM=2 then 0 else g (j:Int) 1)+(if x.hM=1 then 0 else g (j:Int) (-1))
 | none=>0
theorem RS (g:Int->Int->Rat)(k:Nat)(x:bu):bQ (pO k x).length (fun c=>(fun q:eA=>g q.oW q.oh) ((pO k x).getD c ⟨0,0⟩))=(if x.hM=2 then 0 else g (k:Int) 1)+(if x.hM=1 then 0 else g (k:Int) (-1)):=by
 unfold pO;rw[Jb (fun q:eA=>g q.oW q.oh)];congr 1
 ·split
  ·rfl
  show (0:Rat)+_=_;grind
 split
 ·rfl
 show (0:Rat)+_=_;grind
theorem Ke (g:Int->Int->Rat)(cG:Zl): ∀n,bQ (jD cG n).length (fun c=>(fun q:eA=>g q.oW q.oh) ((jD cG n).getD c ⟨0,0⟩))=bQ n (yJ g cG)
 | 0=>rfl
 | n+1=>by
  rw[jD,Jb (fun q:eA=>g q.oW q.oh),Ke g cG n,bQ];congr 1;unfold yJ
  cases cG[n]? with
  | none=>rfl
  | some x=>exact RS g n x
def zr (s:cj)(z:Nat->Rat)(c:Nat):Rat:=if 0<(nB s c:Rat)*z (lh s c) then (nB s c:Rat)*z (lh s c) else 0
theorem S7 (s:cj)(z:Nat->Rat)(c:Nat):0<=zr s z c:=by unfold zr;split<;>grind
theorem S8 {s:cj}{z:Nat->Rat}(h:zq s z){k:Nat}(aL:k<s.bm.length):oO s (zr s z) (cT s) k=z k:=by
 have e:=Ke (fun a b=>if a.toNat=k then (b:Rat)*(if 0<(b:Rat)*z a.toNat then (b:Rat)*z a.toNat else 0) else 0) s.bm s.bm.length;have av:oO s (zr s z) (cT s) k=bQ s.bm.length (yJ (fun a b=>if a.toNat=k then (b:Rat)*(if 0<(b:Rat)*z a.toNat then (b:Rat)*z a.toNat else 0) else 0) s.bm):=by rw[<- e];rfl
 rw[av,i9 aL fun i _ cc=>by
  unfold yJ;split
  ·simp only[dA,dz cc,ite_self];grind
  rfl]
 have hm:=dw aL;obtain⟨g1,g2⟩:=h k _ hm;unfold yJ;rw[hm];simp only[dA,if_true,show ((1:Int):Rat)=1 from rfl,show ((-1:Int):Rat) = -1 from rfl];by_cases a:s.bm[k].hM=1
 ·have:=g1 a;rw[dz (by omega),dy a];split<;>grind
 by_cases b:s.bm[k].hM=2
 ·have:=g2 b;rw[dy b,dz a];split<;>grind
 rw[dz b,dz a];split<;>split<;>grind
theorem Kf {s:cj}{l:ar}{z:Nat->Rat}(h:zq s z)(bY:BZ s l z):pi (2*eG s) (cT s) (lL s) (m5 s l) (zr s z) :=
 ⟨fun j _=>S7 s z j,fun i ad=>by rw[KM,<- bY i ad];exact en fun k aL=>by rw[S8 h aL]⟩
theorem KN {s:cj}(d:lb s)(list:ar):mD (oG s list)/\qf (oG s list)=some true:=by
 obtain⟨f1,f2,f3,f4⟩:=d.v;have v:mD (oG s list):=⟨f1,fun n m h=>by obtain⟨k,aL⟩:=Y2 (DP (dD h));exact f2 k m aL,f3,Nat.le_trans (DO ..) f4⟩;have name : ∀(n:Nat) j,s.b5[n]? = some j->nx[n]? = some j.mj:=fun n j h=>by have aw:=eV h;have e:(s.b5.map (·.mj))[n]? = some j.mj:=(by rw[dI,h];rfl);rw[d.MU,dR,dy aw] at e;exact e
 exact⟨v,KL _ v (fun n j h=>Ja (name n j h)) (fun i k x y U aK cc=>La (name i x U) (name k y aK) cc)⟩
theorem A8 (s:cj)(v:mD s)(ok:qf s=some true)(l:ar)(aw:l.length=2*s.b5.length)(aE:∀x∈l,-100<=x/\x<=100):s4 s l=some true:=by
 have e:wi s.b5.length l=true:=by unfold wi;rw[decide_eq_true aw,Bool.true_and,List.all_eq_true];intro x U;unfold q5;exact decide_eq_true (aE x U)
 have f:=Ie s v.2.2.1 l (by rw[aw,Dm];have:=v.2.2.1;omega);rw[e] at f;exact aM ok (e7 rfl (aM f rfl))
noncomputable def n4 (s:cj)(l:ar)(k:Nat):Bool:=(qK (oG s [(k:Int)]) l).getD false
theorem JJ {p:Nat->Bool}{k:Nat}: ∀ {n:Nat},(k:Int)∈lW p n↔k<n/\p k=true
 | 0=>by simp[lW]
 | n+1=>by
  have ih:=JJ (p:=p) (k:=k) (n:=n);rw[lW];by_cases c:p n=true
  ·rw[dy c,List.mem_append,ih,List.mem_singleton]
   constructor
   ·rintro(⟨o,J⟩|h)
    ·exact⟨by omega,J⟩
    have:k=n:=(by omega);subst this;exact⟨by omega,c⟩
   rintro⟨o,J⟩;by_cases e:k=n
   ·exact .inr (by rw[e])
   exact .inl ⟨by omega,J⟩
  rw[dz c,ih];constructor
  ·rintro⟨o,J⟩;exact⟨by omega,J⟩
  rintro⟨o,J⟩;by_cases e:k=n
  ·subst e;exact(c J).elim
  exact⟨by omega,J⟩
theorem Ty {s:cj}{l:ar}(d:lb s)(aw:l.length=2*s.b5.length)(aE:∀x∈l,-100<=x/\x<=100)(k:Nat):qK (oG s [(k:Int)]) l=some (n4 s l k)/\rT (oG s [(k:Int)]) l=some (n4 s l k):=by
 obtain⟨v,ok⟩:=KN d [(k:Int)];obtain⟨r,ak,-⟩:=C8 _ v l aw aE;have:n4 s l k=r:=by unfold n4;rw[ak];rfl
 rw[this];exact⟨ak,aM (A8 _ v ok l aw aE) (e7 rfl (aM ak rfl))⟩
theorem Tz {s:cj}(d:lb s)(k:Nat):vg s [(k:Int)]=some (oG s [(k:Int)]):=by have o:=d.v.2.2.1;have J:=d.v.2.2.2;exact Ii s (by omega) (by omega) _ (by simp)
theorem Jc {s:cj}{l:ar}(d:lb s)(aw:l.length=2*s.b5.length)(aE:∀x∈l,-100<=x/\x<=100){k:Nat}(ah:ix s.bm (k:Int)=true):oP s l [(k:Int)]=some (n4 s l k):=by have q:=I9 s d.v.2.2.2 [(k:Int)] (by simp);rw[show [(k:Int)].all (ix s.bm)=true by simp[ah]] at q;exact aM (A8 s d.v d.ok l aw aE) (e7 rfl (aM q (gJ rfl (aM (Tz d k) (aM (Ty d aw aE k).1 rfl)))))
theorem St {s:cj}{l:ar}(d:lb s)(aw:l.length=2*s.b5.length)(aE:∀x∈l,-100<=x/\x<=100)(aJ:rT s l=some true):xk s l=some (lW (fun k=>ix s.bm (k:Int) && !n4 s l k) s.bm.length):=by
 have bH:=d.v.2.2.2;refine aM aJ (e7 rfl (aM (aM ?_ rfl) rfl));unfold Gp;rw[h2];refine RP (fun k=>ix s.bm (k:Int) && !n4 s l k) s.bm.length (fun n aZ=> ?_) ?_
 ·have bL:=DD (fun k=>ix s.bm (k:Int) && !n4 s l k) n
  simp only;unfold w7;refine eS (aM (xI s n) ?_);rw[f6 (by omega)]
  cases ah:ix s.bm (n:Int) with
  | true =>
   have av:zV n (⟨s.b5,s.bm⟩:cj) l=some (!n4 s l n):=aM (Jc d aw aE ah) rfl;refine e7 rfl (aM av ?_)
   cases n4 s l n with
   | true=>exact gJ rfl rfl
   | false=>exact e7 rfl (df (by rw[dE,List.length_singleton];omega) rfl)
  | false=>exact gJ rfl rfl
 simp only;unfold w7;exact f8 rfl
theorem Kg (list:ar)(aw:list.length<=1048576)(k:Int):vN list k=some (decide (k∈list)):=by
 obtain⟨r,e,h⟩:=pB (f:=fun w:Int=>vp k list (list.length:Nat) w) (fun (i:Nat) (_:Unit)=>(i:Int)) list.length (fun i _=> ∀j,j<i->list[j]? ≠ some k) (fun r=>(r = .inr ()/\k∈list)\/(r = .inl ()/\k ∉ list))
  (fun i ad _ cE=>by
    have U:=dw ad;unfold vp;by_cases c:list[i]=k
    ·exact .inr ⟨_,eS (dh (aM (gt rfl U) (e7 (by simp[c]) rfl))),.inl ⟨rfl,c▸List.getElem_mem ad⟩⟩
    refine .inl ⟨(),eS (dh (aM (gt rfl U) (gJ (y9 c) (by rw[EF (by omega)])))),fun j ao=> ?_⟩;by_cases e:j=i
    ·rw[e,U];exact fun q=>c (dH q)
    exact cE j (by omega))
  (fun _ cE=>⟨_,by unfold vp;exact f8 rfl,.inr ⟨rfl,fun aL=>by obtain⟨j,ao⟩:=Y2 aL;exact cE j (eV ao) ao⟩⟩) () (fun j ao=>by omega)
 unfold vN Ic;rw[h2];rcases h with ⟨rfl,h⟩|⟨rfl,h⟩
 ·rw[decide_eq_true h];exact aM e rfl
 rw[decide_eq_false h];exact aM e rfl
theorem Un {dk:Zj}{cG kZ:Zl}{k cA:Nat}{m:bu}(h:cG[k]? = some m)(bR:kZ[cA]? = some m):qe ⟨dk,cG⟩ (k:Int)=qe ⟨dk,kZ⟩ (cA:Int):=by have a:=eV h;have b:=eV bR;unfold qe;simp only;rw[dy (show 0<=(k:Int)/\(k:Int)<(cG.length:Nat) by omega),dy (show 0<=(cA:Int)/\(cA:Int)<(kZ.length:Nat) by omega),dA,dA,h,bR]
theorem Uo {dk:Zj}{cG kZ:Zl}{k cA:Nat}{m:bu}(h:cG[k]? = some m)(bR:kZ[cA]? = some m)(j:Int)(jo:Nat):jh ⟨dk,cG⟩ j jo k=jh ⟨dk,kZ⟩ j jo cA:=by unfold jh mn;simp only[h,bR,Un (dk:=dk) h bR]
theorem DE {dk:Zj}{cG kZ:Zl}(bN:∀m∈cG,m∈kZ){l:ar}(h:pN (2*eG ⟨dk,cG⟩) (cT ⟨dk,cG⟩) (lL ⟨dk,cG⟩) (m5 ⟨dk,cG⟩ l)):pN (2*eG ⟨dk,kZ⟩) (cT ⟨dk,kZ⟩) (lL ⟨dk,kZ⟩) (m5 ⟨dk,kZ⟩ l):=by
 obtain⟨x,fr,eu⟩:=h;have aE:BZ ⟨dk,cG⟩ l _:=Sr ⟨fr,eu⟩;have cZ:zq ⟨dk,cG⟩ _:=Ss _ fr;generalize oO ⟨dk,cG⟩ x (cT ⟨dk,cG⟩)=z at aE cZ
 have fW : ∀k:Nat,∃j:Nat,∀m,cG[k]? = some m->kZ[j]? = some m:=fun k=>by
  cases e:cG[k]? with
  | none=>exact⟨0,fun m h=>by cases h⟩
  | some m =>
   obtain⟨j,ao⟩:=Y2 (bN m (dD e));exact⟨j,fun aX h=>by cases h;exact ao⟩
 obtain⟨fC,MW⟩:=Classical.axiomOfChoice fW
 have ex:zq ⟨dk,kZ⟩ (fun j=>bQ cG.length fun k=>if fC k=j then z k else 0):=fun j aX jd=>by
  have one : ∀k,k<cG.length->fC k=j->cG[k]? = some aX:=fun k aL e=>(by have U:=dw aL;have J:=MW k _ U;rw[e] at J;have an:kZ[j]? = some aX:=jd;rw[an] at J;rw[U,dH J]);refine⟨fun o=>oR fun k aL=> ?_,fun o=> ?_⟩
  ·by_cases c:fC k=j
   ·rw[dy c];exact(cZ k aX (one k aL c)).1 o
   rw[dz c];exact Rat.le_refl
  have:=Jw (f:=fun k=>if fC k=j then z k else 0) (g:=fun _=>0) (n:=cG.length) fun k aL=>by
   by_cases c:fC k=j
   ·rw[dy c];exact(cZ k aX (one k aL c)).2 o
   rw[dz c];exact Rat.le_refl
  rw[mI (f:=fun _=>0) fun _ _=>rfl] at this;exact this
 have MX:BZ ⟨dk,kZ⟩ l (fun j=>bQ cG.length fun k=>if fC k=j then z k else 0):=fun i ad=>by have ap : ∀j,(bQ cG.length fun k=>if fC k=j then z k else 0)*(kC ⟨dk,kZ⟩ i j:Rat)=bQ cG.length fun k=>if fC k=j then z k*(kC ⟨dk,kZ⟩ i j:Rat) else 0:=fun j=>(by rw[<- rX];exact en fun k _=>by split<;>grind);show bQ kZ.length _=(m5 ⟨dk,cG⟩ l i:Rat);rw[<- aE i ad,en (n:=kZ.length) fun j _=>ap j,m7];refine en fun k aL=> ?_;have U:=dw aL;have J:=MW k _ U;rw[i9 (eV J) fun j _ cc=>dz fun e=>cc e.symm,dy rfl];exact congrArg (fun q:Int=>z k*(q:Rat)) (Uo (dk:=dk) J U _ _)
 exact⟨_,(Kf ex MX).1,(Kf ex MX).2⟩
theorem Kh {cG:Zl}{A B:ar}(h:∀x∈A,x∈B): ∀n,∀m∈lB cG B n,m∈lB cG A n
 | 0,m,hm=>by simp[lB] at hm
 | n+1,m,hm=>by
  rw[lB,List.mem_append] at hm ⊢;rcases hm with hm|hm
  ·exact .inl (Kh h n m hm)
  right
  cases e:cG[n]? with
  | none=>rw[e] at hm;simp at hm
  | some x =>
   rw[e] at hm;simp only at hm ⊢;by_cases c:(n:Int)∈B
   ·rw[dy c] at hm;simp at hm
   rw[dz c] at hm;rw[dz fun q=>c (h _ q)];exact hm
theorem KO {cG:Zl}{A:ar}{m:bu}{n:Nat}(h:cG[n]? = some m)(hA:(n:Int) ∉ A): ∀N,n<N->m∈lB cG A N
 | 0,fc=>by omega
 | N+1,fc=>by
  rw[lB,List.mem_append];by_cases c:n=N
  ·subst c;right;rw[h];simp only;rw[dz hA];simp
  left;exact KO h hA N (by omega)
abbrev w6 (s:cj)(l:ar):Prop:=pN (2*eG s) (cT s) (lL s) (m5 s l)
theorem Lc {s:cj}{l A B:ar}(h:∀x∈A,x∈B)(q:w6 (oG s B) l):w6 (oG s A) l:=DE (Kh h s.bm.length) q
theorem KP {s:cj}{l:ar}:w6 (oG s []) l↔w6 s l :=
 ⟨fun q=>DE (kZ:=s.bm) (fun m hm=>DP hm) q,fun q=>DE (cG:=s.bm) (fun m hm=>by obtain⟨n,aZ⟩:=Y2 hm;exact KO aZ (by simp) _ (eV aZ)) q⟩
theorem Q0 {s:cj}{l:ar}(d:lb s)(aw:l.length=2*s.b5.length)(aE:∀x∈l,-100<=x/\x<=100)(list:ar)(B0:list.length<=1048576):
 ∃r,oP s l list=some r/\(r=true↔(list.all (ix s.bm)=true/\w6 (oG s list) l)):=by
 have o:=d.v.2.2.1;have J:=d.v.2.2.2;have q:=I9 s d.v.2.2.2 list B0;obtain⟨v,ok⟩:=KN d list;obtain⟨r,ak,bW⟩:=C8 _ v l aw aE;by_cases c:list.all (ix s.bm)=true
 ·rw[c] at q;exact⟨r,aM (A8 s d.v d.ok l aw aE) (e7 rfl (aM q (gJ rfl (aM (Ii s (by omega) (by omega) list B0) (aM ak rfl))))),by rw[c];simpa using bW⟩
 rw[Bool.not_eq_true] at c;rw[c] at q;exact⟨false,aM (A8 s d.v d.ok l aw aE) (e7 rfl (aM q (e7 rfl rfl))),by simp[c]⟩
noncomputable def ny (s:cj)(l list:ar):Bool:=(oP s l list).getD false
noncomputable def hH (s:cj)(l:ar):Nat->ar
 | 0=>[]
 | n+1=>if ix s.bm (n:Int) && ny s l (hH s l n++[(n:Int)]) then hH s l n++[(n:Int)] else hH s l n
theorem AL (s:cj)(l:ar): ∀n,(hH s l n).length<=n
 | 0=>by simp[hH]
 | n+1=>by
  have:=AL s l n;unfold hH;split
  ·rw[dE,List.length_singleton];omega
  omega
theorem DF (s:cj)(l:ar){x:Int}{n:Nat}: ∀m,x∈hH s l n->x∈hH s l (n+m)
 | 0,h=>h
 | m+1,h=>by
  have:=DF s l m h;rw[<- Nat.add_assoc];unfold hH;split
  ·exact List.mem_append_left _ this
  exact this
theorem r8 {s:cj}{l:ar}(d:lb s)(aw:l.length=2*s.b5.length)(aE:∀x∈l,-100<=x/\x<=100)(list:ar)(B0:list.length<=1048576):
 oP s l list=some (ny s l list)/\(ny s l list=true↔(list.all (ix s.bm)=true/\w6 (oG s list) l)):=by
 obtain⟨r,ak,bW⟩:=Q0 d aw aE list B0;have:ny s l list=r:=by unfold ny;rw[ak];rfl
 rw[this];exact⟨ak,bW⟩
def V2 (n:Nat)(I:ar):Int⊕(Int×ar):=match I with
 | []=> .inl (n:Int)
 | x::t=> .inr ((n:Int),x::t)
def Mz (I:ar):Unit⊕ar:=match I with
 | []=> .inl ()
 | x::t=> .inr (x::t)
theorem Ql (s:cj)(d:lb s)(l:ar)(aw:l.length=2*s.b5.length)(aE:∀x∈l,-100<=x/\x<=100):Cz l ((s.bm.length:Nat):Int) s.b5 s.bm 0=some (Mz (hH s l s.bm.length)):=by
 have bH:=d.v.2.2.2;unfold Cz
 obtain⟨_,e,-⟩:=jq (f:=Cl l ((s.bm.length:Nat):Int) s.b5 s.bm) (fun (n:Nat) (_:Unit)=>V2 n (hH s l n)) s.bm.length (fun _ _=>True) (fun _=>Mz (hH s l s.bm.length))
  (fun n aZ _ _=>by
    refine⟨(),?_,trivial⟩;have cZ:=AL s l n;have hw:aa ((n:Int)+(1:Int))=((n+1:Nat):Int):=f6 (by omega);obtain⟨ap,-⟩:=r8 d aw aE (hH s l n++[(n:Int)]) (by simp only[dE,List.length_singleton];omega);have step:hH s l (n+1)=if ix s.bm (n:Int) && ny s l (hH s l n++[(n:Int)]) then hH s l n++[(n:Int)] else hH s l n:=rfl;rw[step]
    cases ae:hH s l n with
    | nil =>
     rw[ae] at ap;show sS l _ s.b5 s.bm (n:Int)=_;unfold sS;rw[hw];refine eS (aM (xI s n) ?_)
     cases ix s.bm (n:Int) with
     | false=>exact gJ rfl rfl
     | true =>
      rw[Bool.true_and];refine e7 rfl (df (by rw[List.length_singleton];omega) (aM ap ?_));rw[List.nil_append]
      cases ny s l [(n:Int)] with
      | true=>exact e7 rfl rfl
      | false=>exact gJ rfl rfl
    | cons x t =>
     rw[ae] at ap cZ;show sR l _ s.b5 s.bm (n:Int) (x::t)=_;unfold sR;rw[hw];refine eS (aM (xI s n) ?_)
     cases ix s.bm (n:Int) with
     | false=>exact gJ rfl rfl
     | true =>
      rw[Bool.true_and];refine e7 rfl (aM (x:=x::t) (df ⟨by simp,by omega⟩ rfl) (df (by rw[dE,List.length_singleton];omega) (aM ap ?_)))
      cases ny s l (x::t++[(n:Int)]) with
      | true=>exact e7 rfl (df (by rw[dE,List.length_singleton];omega) rfl)
      | false=>exact gJ rfl rfl)
  (fun _ _=>by
    cases ae:hH s l s.bm.length with
    | nil=>show sS l _ s.b5 s.bm _=_;unfold sS;exact f8 rfl
    | cons x t=>show sR l _ s.b5 s.bm _ (x::t)=_;unfold sR;exact f8 rfl) () trivial
 exact e
theorem Ot (x0:ar)(i0:(fun l=>l.length<=maxLen/\ ∀x∈l,(fun _=>True) x) x0):Ab x0=some true:=by
 unfold Ab;by_cases h0:(1048576:Int)<len_ eU8 x0
 ·exact jY h0 rfl
 have aJ:x0.length<=1048576:=by rw[h2] at h0;omega
 obtain⟨s,l,ap,d,Cd⟩:=PM x0 aJ;have aw:=Cd.1;have aE:=Cd.fj;have bH:=d.v.2.2.2;obtain⟨p,bG,cq,l8⟩:=Um s d l aw aE;obtain⟨pv,sN⟩:=r8 d aw aE [] (by simp);refine jL h0 (aM ap (aM (Lb s d l aw aE).2 (e7 rfl (aM d.ok (e7 rfl ?_)))))
 cases p with
 | false =>
  have g:vo s l=some []:=aM bG (gJ rfl rfl);have Gn:xk s l=some []:=aM bG (gJ rfl rfl)
  have bY:ny s l []=false:=by
   cases q:ny s l [] with
   | false=>rfl
   | true=>exact absurd (l8.2 (KP.1 (sN.1 q).2)) (by simp)
  rw[bY] at pv;exact aM g (aM Gn (aM bG (gJ rfl (e7 rfl (e7 rfl (aM pv rfl))))))
 | true =>
  have YV:=AL s l s.bm.length
  have e5 : ∀n,ny s l (hH s l n)=true:=fun n=>by
   induction n with
   | zero=>exact sN.2 ⟨rfl,KP.2 (l8.1 rfl)⟩
   | succ n ih =>
    unfold hH;split
    ·rename_i h;rw[YX] at h;exact h.2
    exact ih
  have g:vo s l=some (hH s l s.bm.length):=by
   have f2:=Ql s d l aw aE;unfold vo;rw[h2]
   cases ae:hH s l s.bm.length with
   | nil=>rw[ae] at f2;exact aM bG (e7 rfl (aM f2 rfl))
   | cons x t=>rw[ae] at f2;exact aM bG (e7 rfl (aM f2 rfl))
  obtain⟨s1,s2⟩:=r8 d aw aE (hH s l s.bm.length) (by omega);rw[e5] at s1;have MY:=s2.1 (e5 _);have Gn:=St d aw aE bG;have aZ:=DD (fun k=>ix s.bm (k:Int) && !n4 s l k) s.bm.length
  have main:CP l (hH s l s.bm.length) (lW (fun k=>ix s.bm (k:Int) && !n4 s l k) s.bm.length) s.bm (len_ cR s.bm) s.b5 0=some (.inl ()):=by
   unfold CP;rw[h2]
   obtain⟨_,e,-⟩:=jq (f:=fun w:Int=>vc l (hH s l s.bm.length) (lW (fun k=>ix s.bm (k:Int) && !n4 s l k) s.bm.length) s.bm (s.bm.length:Nat) s.b5 w) (fun (k:Nat) (_:Unit)=>(k:Int)) s.bm.length (fun _ _=>True) (fun _=>(.inl ():Unit⊕Unit))
    (fun k aL _ _=>by
      refine⟨(),?_,trivial⟩;have U:=dw aL;unfold vc;rw[f6 (by omega)];refine eS (dh (aM (gt rfl U) ?_));by_cases c:s.bm[k].hM=1
      ·have ah:ix s.bm (k:Int)=true:=by rw[RQ U];exact BD c
       refine gJ (BF c) (df (by rw[List.nil_append];omega) (df (by rw[List.nil_append,dE,List.length_singleton];omega) (aM (Kg _ (by omega) k) ?_)));rw[List.nil_append];by_cases uc:(k:Int)∈hH s l s.bm.length
       ·rw[decide_eq_true uc];have WE:ny s l [(k:Int)]=true:=(r8 d aw aE [(k:Int)] (by simp)).2.2 ⟨by simp[ah],Lc (fun x U=>by rw[List.mem_singleton] at U;rw[U];exact uc) MY.2⟩;have V3:n4 s l k=true:=(by have gX:=(r8 d aw aE [(k:Int)] (by simp)).1;rw[Jc d aw aE ah,WE] at gX;exact dH gX);exact e7 rfl (aM (Kg _ (by omega) k) (gJ (decide_eq_false fun h=>by have:=(JJ.1 h).2;rw[V3,ah] at this;cases this) rfl))
       rw[decide_eq_false uc]
       have no:ny s l (hH s l s.bm.length++[(k:Int)])=false:=by
        cases q:ny s l (hH s l s.bm.length++[(k:Int)]) with
        | false=>rfl
        | true =>
         exfalso;have YL:=AL s l k;have jS : ∀x∈hH s l k,x∈hH s l s.bm.length:=fun x U=>(by have:=DF s l (s.bm.length-k) U;rw[show k+(s.bm.length-k)=s.bm.length by omega] at this;exact this);have a9:=(r8 d aw aE _ (by rw[dE,List.length_singleton];omega)).2.1 q
         have b8:ny s l (hH s l k++[(k:Int)])=true:=(r8 d aw aE _ (by rw[dE,List.length_singleton];omega)).2.2
          ⟨by
           rw[List.all_eq_true];intro x U;rw[List.mem_append,List.mem_singleton] at U;rcases U with U|rfl
           ·exact List.all_eq_true.1 MY.1 x (jS x U)
           exact ah,
          Lc (fun x U=>by
           rw[List.mem_append] at U ⊢;rcases U with U|U
           ·exact .inl (jS x U)
           exact .inr U) a9.2⟩
         have:(k:Int)∈hH s l (k+1):=(by unfold hH;rw[ah,b8];simp);have:=DF s l (s.bm.length-(k+1)) this;rw[show k+1+(s.bm.length-(k+1))=s.bm.length by omega] at this;exact uc this
       have gX:=(r8 d aw aE (hH s l s.bm.length++[(k:Int)]) (by rw[dE,List.length_singleton];omega)).1;rw[no] at gX;exact gJ rfl (aM gX (gJ rfl rfl))
      exact e7 (BE c) rfl)
    (fun _ _=>by unfold vc;exact f8 rfl) () trivial
   exact e
  exact aM g (aM Gn (aM bG (e7 rfl (aM s1 (e7 rfl (aM main rfl))))))
end Go.Proofs.Ytopadgleejacdaa
