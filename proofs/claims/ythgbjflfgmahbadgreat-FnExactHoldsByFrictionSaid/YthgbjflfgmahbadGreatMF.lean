/- Lemmas, plain functions of the program, and what they answer. No condition. -/
import Derived.Test.YthgbjflfgmahbadGreatME
namespace Go.Proofs.YthgbjflfgmahbadGreat
set_option linter.unusedVariables false
set_option linter.unusedSimpArgs false
open Go Go.VL
theorem FL {m N:Nat}(t:bZ):(iH m N).all (uy (gD m N t))=true:=by
 rw[List.all_eq_true];intro x aa;obtain⟨i,ad,rfl⟩:=Vk.1 aa;simp only[uy];have h1:(gD m N t).length=m:=b2 ..;have h2:(gD m N t).getD i []=hr N t i:=by rw[List.getD_eq_getElem?_getD,show (gD m N t)[i]? = some (hr N t i) from fK ad];rfl
 rw[h1,h2,show (hr N t i).length=N+1 from b2 ..];simp[ad]
theorem zf {m N:Nat}(t:bZ):(iH m N).map (j4 (gD m N t))=gD m N t:=by unfold iH;rw[Vl];exact ek fun i ad=>by have h2:(gD m N t).getD i []=hr N t i:=(by rw[List.getD_eq_getElem?_getD,show (gD m N t)[i]? = some (hr N t i) from fK ad];rfl);simp only[j4];rw[h2];exact List.take_of_length_le (Nat.le_of_eq (b2 ..))
theorem agn {m N:Nat}(hm:m<=1000)(fw:N<1000)(t:bZ)(c:Nat->Rat)(deep:Bool)(G:Nat->Prop)(ak7:∀j,G j-> ∀i,i<m->t.B i≠j)
 (bL : ∀j,j<N-> ∃g,vG ⟨N,gD m N t,cX m t,hB N c⟩ (j:Int) deep=some g/\((∀i,i<m->t.B i≠j)->(0<g↔G j))) :
 ∃r,Ln deep N (iH m N) (cX m t) (hB N c) (gD m N t) (-1) 0=some r/\((r = -1/\ ∀j,j<N-> ¬G j)\/ ∃s:Nat,r=s/\s<N/\G s/\ ∀j,j<s-> ¬G j):=by
 unfold Ln
 refine tb (f:=fun w:Int×Int=>yg deep N (iH m N) (cX m t) (hB N c) (gD m N t) w.1 w.2) (fun (i:Nat) (e:Int)=>(e,(i:Int))) N
  (fun n e=>(e = -1/\ ∀j,j<n-> ¬G j)\/ ∃s:Nat,e=s/\s<N/\G s/\ ∀j,j<s-> ¬G j) _ (fun n aY e c7=> ?_) (fun e c7=> ?_) (-1) (.inl ⟨rfl,fun j av=>by omega⟩)
 ·rcases c7 with ⟨rfl,h⟩|⟨s,rfl,wG,wx,akr⟩
  ·left
   obtain⟨b,e1,e2⟩:=agl hm t (N:Int) (gD m N t) (hB N c) n;obtain⟨g,g1,g2⟩:=bL n aY;unfold yg
   cases b with
   | true =>
    obtain⟨i,ad,JZ⟩:=e2.1 rfl;refine⟨-1,dv (by simp only;omega) (dv (by simp) (bm (FL t) (aG (by rw[zf];exact e1) (fY rfl ?_)))),.inl ⟨rfl,fun j av dn=> ?_⟩⟩
    ·simp only;rw[fa (by omega)]
    ·by_cases c:j=n
     ·subst c;exact ak7 j dn i ad JZ
     ·exact h j (by omega) dn
   | false =>
    have XQ : ∀i,i<m->t.B i≠n:=fun i ad e=>(by have:=e2.2 ⟨i,ad,e⟩;simp at this);by_cases dn:G n
    ·refine⟨(n:Int),dv (by simp only;omega) (dv (by simp) (bm (FL t) (aG (by rw[zf];exact e1) (h4 rfl (aG (by rw[zf];exact g1) (dv ((g2 XQ).2 dn) ?_)))))),.inr ⟨n,rfl,aY,dn,h⟩⟩;simp only;rw[fa (by omega)]
    ·refine⟨-1,dv (by simp only;omega) (dv (by simp) (bm (FL t) (aG (by rw[zf];exact e1) (h4 rfl (aG (by rw[zf];exact g1) (d8 (fun x=>dn ((g2 XQ).1 x)) ?_)))))),.inl ⟨rfl,fun j av=>if c:j=n then c▸dn else h j (by omega)⟩⟩;simp only;rw[fa (by omega)]
  ·right;exact⟨(s:Int),by unfold yg;exact dv (by simp only;omega) (d8 (by simp only;omega) rfl),.inr ⟨s,rfl,wG,wx,akr⟩⟩
 ·exact⟨e,by unfold yg;exact d8 (by simp only;omega) rfl,c7⟩
theorem bZ.adO {eZ m N K:Nat}{A obj:Nat->Nat->Rat}{t:bZ}(h:hi eZ m N A t){j:Nat}(g:t.rp m K obj j): ∀i,i<m->t.B i≠j :=
 fun i ad e=>iP.not_zero g fun l _=>by rw[<- e];exact h.yK (obj l) ad
theorem V8 {eZ m N K:Nat}(hm:m<=1000)(fw:N<1000){A obj:Nat->Nat->Rat}(deep:Bool)(Inv:bZ->Prop)
 (inv : ∀t,Inv t->hi eZ m N A t/\t.mQ m N) (ik : ∀t r s,Inv t->ph m N K obj (fun _=>True) t r s->Inv (t.cv r s))
 (bL : ∀t,Inv t-> ∀j,j<N-> ∃g,vG ⟨N,gD m N t,cX m t,hB N (t.cy m (obj 0))⟩ (j:Int) deep=some g/\((∀i,i<m->t.B i≠j)->(0<g↔t.rp m K obj j)))
 (hM : ∀t,Inv t-> ∀i,i<m-> ∀j,j<=N->eH (t.T i j)) (a0 : ∀t,Inv t-> ∀i,i<m-> ∀j,j<=N->0<t.T i j->eH (t.T i N / t.T i j))
 (ah : ∀t,Inv t-> ∀r k,r<m->k<N->t.T r k≠0->JJ m N t (t.cy m (obj 0)) r k) (t:bZ) (cq:Inv t) :
 ∃b cN,vE deep N (iH m N) (cX m t) (hB N (t.cy m (obj 0))) (gD m N t)=some (b,cX m cN,hB N (cN.cy m (obj 0)),gD m N cN)/\Inv cN /\
  ((b=true/\ ∀j,j<N-> ¬cN.rp m K obj j)\/(b=false/\ ∃s,s<N/\cN.rp m K obj s/\ ∀i,i<m-> ¬0<cN.T i s)):=by
 obtain⟨x,eh,cN,e,⟨Xj,c7⟩,-,-,eQ⟩:=TF (eZ:=eZ) (m:=m) (N:=N) (K:=K) (A:=A) (obj:=obj) (bO:=fun _=>True)
  (f:=fun w:ar×dP×ant=>D1 deep N (iH m N) w.1 w.2.1 w.2.2)
  (fun a t=>a=(cX m t,hB N (t.cy m (obj 0)),gD m N t)/\Inv t)
  (fun a x t=> ∃b,x=(b,cX m t,hB N (t.cy m (obj 0)),gD m N t)/\((b=true/\ ∀j,j<N-> ¬t.rp m K obj j)\/(b=false/\ ∃s,s<N/\t.rp m K obj s/\ ∀i,i<m-> ¬0<t.T i s)))
  (fun a t du ok lx=>by
    obtain⟨rfl,c7⟩:=du;obtain⟨r,e1,e2⟩:=agn hm fw t (t.cy m (obj 0)) deep (t.rp m K obj) (fun j dn=>bZ.adO ok dn) (bL t c7);simp only;unfold D1;rcases e2 with ⟨rfl,h⟩|⟨s,rfl,Kl,dn,aZ⟩
    ·left;exact⟨_,aG e1 (dv (by decide) rfl),true,rfl,.inl ⟨rfl,h⟩⟩
    ·obtain⟨q,q1,q2⟩:=agm hm fw t (N:Int) (hB N (t.cy m (obj 0))) (j:=s) (by omega) (hM t c7) (fun i ad jG=>a0 t c7 i ad s (by omega) jG)
     rcases q2 with ⟨rfl,h⟩|⟨b,rfl,aP,kY,h1,h2⟩
     ·left;exact⟨_,aG e1 (d8 (by omega) (bm (FL t) (aG (by rw[zf];exact q1) (dv (by decide) rfl)))),false,rfl,.inr ⟨rfl,s,Kl,dn,h⟩⟩
     ·right;have da:ph m N K obj (fun _=>True) t b s:=⟨Kl,trivial,dn,fun j av _=>aZ j av,aP,kY,h1,h2⟩;refine⟨_,b,s,aG e1 (d8 (by omega) (bm (FL t) (aG (by rw[zf];exact q1) (d8 (by omega) (aG (UR hm fw aP (by omega) (by grind) (ah t c7 b s aP Kl (by grind)) N) rfl))))),da,?_,ik t b s c7 da⟩;refine Prod.ext rfl (Prod.ext ?_ rfl);exact ek fun j _=>by rw[ok.ID (obj 0) aP Kl (by grind)])
  (a:=(cX m t,hB N (t.cy m (obj 0)),gD m N t)) (t:=t) ⟨rfl,cq⟩ (inv t cq).1 (inv t cq).2
 obtain⟨b,rfl,aP⟩:=eQ;refine⟨b,cN,?_,c7,aP⟩;unfold vE;exact aG (x:=(b,cX m cN,hB N (cN.cy m (obj 0)),gD m N cN)) (by unfold RU;exact e) rfl
structure ms (p:jz) (m n:Nat) (a:Nat->Nat->Int) (b:Nat->Int):Prop where
 rows:p.f7=m
 gl:p.eM=n
 hE:p.bR.length=m*n
 Gp : ∀i,i<m-> ∀j,j<n->p.bR[i*n+j]? = some (a i j)
 Am:p.bS.length=m
 JK : ∀i,i<m->p.bS[i]? = some (b i)
 hm:m<=20
 aY:n<=40
 ll : ∀i,i<m-> ∀j,j<n-> -100<=a i j/\a i j<=100
 lR : ∀i,i<m-> -100<=b i/\b i<=100
theorem wh {p:jz}{m n:Nat}{a:Nat->Nat->Int}{b:Nat->Int}(h:ms p m n a b){i:Nat}(ad:i<m)(j:Nat): -100<=lP m n a b i j/\lP m n a b i j<=100:=by
 have aP:=h.lR i ad;unfold lP lf;by_cases c:j<n
 ·have bF:=h.ll i ad j c;rw[dw c];split<;>omega
 ·rw[dy c]
  split
  ·split<;>omega
  ·split<;>omega
theorem Ny {p:jz}{m n:Nat}{a:Nat->Nat->Int}{b:Nat->Int}(h:ms p m n a b){i:Nat}(ad:i<m)(j:Nat):dW 100 (dj m n a b i j) :=
 ⟨lP m n a b i j,rfl,by have:=wh h ad j;omega⟩
theorem ag2:(1000000000000000000:Int)<B 24:=by decide
theorem Mt {K:Nat}{x:Rat}(h:dW K x)(a1:K<=1000000000000000000):eH x:=by obtain⟨z,rfl,cH⟩:=h;have:=ag2;exact UQ (n:=z) (d:=1) (by decide) (by rw[show ((1:Int):Rat)=1 from rfl];grind) (by omega) (by omega)
theorem V9 {p:jz}{m n:Nat}{a:Nat->Nat->Int}{b:Nat->Int}(h:ms p m n a b){i:Nat}(ad:i<m):Ck p i=some (aE n (a i)):=by
 have hm:=h.hm;have aY:=h.aY;have h1:i*n<=20*40:=Nat.mul_le_mul (by omega) aY;have h2:(i+1)*n<=20*40:=Nat.mul_le_mul (by omega) aY;have U:(i+1)*n<=m*n:=dL _ ad;have e1:J ((i:Int)*p.eM)=((i*n:Nat):Int):=by rw[h.gl,<- Int.natCast_mul,cu (by omega) (by omega)]
 have e2:J (J ((i:Int)+1)*p.eM)=(((i+1)*n:Nat):Int):=by rw[h.gl,fa (by omega),<- Int.natCast_mul,cu (by omega) (by omega)]
 have ai:(i+1)*n=i*n+n:=Nat.succ_mul i n;unfold Ck;rw[e1,e2,dx,dx,h.hE];refine bm (by omega) (bm (by omega) (bm (by omega) ?_));congr 1;apply List.ext_getElem?;intro j;rw[List.getElem?_take,List.getElem?_drop];by_cases c:j<n
 ·rw[dw (by omega),h.Gp i ad j c,fK c]
 ·rw[dy (by omega)]
  symm
  rw[List.getElem?_eq_none_iff,b2];omega
def iI (m n:Nat)(a:Nat->Nat->Int)(b:Nat->Int)(i j:Nat):Rat:=if j<n\/j=n+m then cA i (fun k=>dj m n a b k j) else 0
theorem Wx {p:jz}{m n:Nat}{a:Nat->Nat->Int}{b:Nat->Int}(h:ms p m n a b){i:Nat}(ad:i<=m)(j:Nat):dW 2000 (iI m n a b i j):=by
 have hm:=h.hm;unfold iI;split
 ·exact(dW.sum fun k a1=>Ny h (by omega) j).mono (by omega)
 ·exact⟨0,rfl,by omega⟩
theorem ac0 {p:jz}{m n:Nat}{a:Nat->Nat->Int}{b:Nat->Int}(h:ms p m n a b){i:Nat}(ad:i<m)(aP:b i<0)(x0:Int)(q2:dS)(bD:ant)(ct:ar)(dU:dP):
 (Lb (i:Int) (aE n (a i)) (len_ eI (aE n (a i))) p.f7 p.eM p.bR p.bS p.hl x0 q2 bD ct dU 0 ([]:dP) >>= fun bB=>Lc (i:Int) p.f7 p.eM p.bR p.bS p.hl x0 q2 bD ct dU 0 bB)=some (aE (n+m) fun j=>ca (dj m n a b i j)):=by
 have hm:=h.hm;have aY:=h.aY;have bL:lf (b i) = -1:=by unfold lf;rw[dw aP]
 obtain⟨s1,e1,-⟩:=hF (f:=fun w:Int×dP=>Ba (i:Int) (aE n (a i)) ((n:Nat):Int) p.f7 p.eM p.bR p.bS p.hl x0 q2 bD ct dU w.1 w.2)
  (fun (k:Nat) (_:Unit)=>((k:Int),aE k fun j=>ca (dj m n a b i j))) n (fun _ _=>True) (fun _=>aE n fun j=>ca (dj m n a b i j))
  (fun k a1 _ _=>by
    refine⟨(),?_,trivial⟩;have bF:=h.ll i ad k a1;unfold Ba;have e:J ((-1:Int)*a i k)=lP m n a b i k:=(by rw[cu (by omega) (by omega)];unfold lP;rw[dw a1,bL]);refine dv (by simp only;omega) (bm (by rw[b2];simp only;omega) (aG (x:=a i k) (by simp only;rw[dx];exact fK a1) (aG (x:=ca (dj m n a b i k)) ?_ (bm (by simp only[dE,b2,List.length_cons,List.length_nil];omega) ?_))))
    ·rw[e];exact si (by have:=wh h ad k;rw[ln];omega)
    ·simp only;rw[fa (by omega),k1])
  (fun _ _=>by unfold Ba;exact d8 (by simp) rfl) () trivial
 refine aG (x:=aE n fun j=>ca (dj m n a b i j)) (by unfold Lb;rw[gZ,b2];exact e1) ?_
 obtain⟨s2,e2,-⟩:=hF (f:=fun w:Int×dP=>Bb (i:Int) p.f7 p.eM p.bR p.bS p.hl x0 q2 bD ct dU w.1 w.2)
  (fun (k:Nat) (_:Unit)=>((k:Int),aE (n+k) fun j=>ca (dj m n a b i j))) m (fun _ _=>True) (fun _=>aE (n+m) fun j=>ca (dj m n a b i j))
  (fun k a1 _ _=>by
    refine⟨(),?_,trivial⟩;unfold Bb
    have Hr:lP m n a b i (n+k)=if k=i then 1 else 0:=by
     unfold lP;rw[dy (by omega),dy (by omega)];by_cases c:k=i
     ·rw[dw c,dw (by omega)]
     ·rw[dy c,dy (by omega)]
    refine dv (by simp only;rw[h.rows];omega) (qH (fun c=> ?_) (fun c=> ?_))
    ·have z7:k=i:=(by simp at c;omega);refine aG (x:=ca (dj m n a b i (n+k))) (by unfold dj;rw[Hr,dw z7];exact si (by rw[ln];omega)) (bm (by simp only[dE,b2,List.length_cons,List.length_nil];omega) ?_);simp only;rw[fa (by omega),<- Nat.add_assoc,k1]
    ·have z7:k≠i:=(by simp at c;omega);refine aG (x:=ca (dj m n a b i (n+k))) (by unfold dj;rw[Hr,dy z7];exact si (by rw[ln];omega)) (bm (by simp only[dE,b2,List.length_cons,List.length_nil];omega) ?_);simp only;rw[fa (by omega),<- Nat.add_assoc,k1])
  (fun _ _=>by unfold Bb;exact d8 (by simp only;rw[h.rows];omega) rfl) () trivial
 unfold Lc;exact e2
theorem ac1 {p:jz}{m n:Nat}{a:Nat->Nat->Int}{b:Nat->Int}(h:ms p m n a b){i:Nat}(ad:i<m)(aP:¬b i<0)(x0:Int)(q2:dS)(bD:ant)(ct:ar)(dU:dP):
 (KW (i:Int) (aE n (a i)) (len_ eI (aE n (a i))) p.f7 p.eM p.bR p.bS p.hl x0 q2 bD ct dU 0 ([]:dP) >>= fun bB=>KX (i:Int) p.f7 p.eM p.bR p.bS p.hl x0 q2 bD ct dU 0 bB)=some (aE (n+m) fun j=>ca (dj m n a b i j)):=by
 have hm:=h.hm;have aY:=h.aY;have bL:lf (b i)=1:=by unfold lf;rw[dy aP]
 obtain⟨s1,e1,-⟩:=hF (f:=fun w:Int×dP=>AV (i:Int) (aE n (a i)) ((n:Nat):Int) p.f7 p.eM p.bR p.bS p.hl x0 q2 bD ct dU w.1 w.2)
  (fun (k:Nat) (_:Unit)=>((k:Int),aE k fun j=>ca (dj m n a b i j))) n (fun _ _=>True) (fun _=>aE n fun j=>ca (dj m n a b i j))
  (fun k a1 _ _=>by
    refine⟨(),?_,trivial⟩;have bF:=h.ll i ad k a1;unfold AV;have e:J ((1:Int)*a i k)=lP m n a b i k:=(by rw[cu (by omega) (by omega)];unfold lP;rw[dw a1,bL]);refine dv (by simp only;omega) (bm (by rw[b2];simp only;omega) (aG (x:=a i k) (by simp only;rw[dx];exact fK a1) (aG (x:=ca (dj m n a b i k)) ?_ (bm (by simp only[dE,b2,List.length_cons,List.length_nil];omega) ?_))))
    ·rw[e];exact si (by have:=wh h ad k;rw[ln];omega)
    ·simp only;rw[fa (by omega),k1])
  (fun _ _=>by unfold AV;exact d8 (by simp) rfl) () trivial
 refine aG (x:=aE n fun j=>ca (dj m n a b i j)) (by unfold KW;rw[gZ,b2];exact e1) ?_
 obtain⟨s2,e2,-⟩:=hF (f:=fun w:Int×dP=>AW (i:Int) p.f7 p.eM p.bR p.bS p.hl x0 q2 bD ct dU w.1 w.2)
  (fun (k:Nat) (_:Unit)=>((k:Int),aE (n+k) fun j=>ca (dj m n a b i j))) m (fun _ _=>True) (fun _=>aE (n+m) fun j=>ca (dj m n a b i j))
  (fun k a1 _ _=>by
    refine⟨(),?_,trivial⟩;unfold AW
    have Hr:lP m n a b i (n+k)=if k=i then 1 else 0:=by
     unfold lP;rw[dy (by omega),dy (by omega)];by_cases c:k=i
     ·rw[dw c,dw (by omega)]
     ·rw[dy c,dy (by omega)]
    refine dv (by simp only;rw[h.rows];omega) (qH (fun c=> ?_) (fun c=> ?_))
    ·have z7:k=i:=(by simp at c;omega);refine aG (x:=ca (dj m n a b i (n+k))) (by unfold dj;rw[Hr,dw z7];exact si (by rw[ln];omega)) (bm (by simp only[dE,b2,List.length_cons,List.length_nil];omega) ?_);simp only;rw[fa (by omega),<- Nat.add_assoc,k1]
    ·have z7:k≠i:=(by simp at c;omega);refine aG (x:=ca (dj m n a b i (n+k))) (by unfold dj;rw[Hr,dy z7];exact si (by rw[ln];omega)) (bm (by simp only[dE,b2,List.length_cons,List.length_nil];omega) ?_);simp only;rw[fa (by omega),<- Nat.add_assoc,k1])
  (fun _ _=>by unfold AW;exact d8 (by simp only;rw[h.rows];omega) rfl) () trivial
 unfold KX;exact e2
theorem TN {p:jz}{m n:Nat}{a:Nat->Nat->Int}{b:Nat->Int}(h:ms p m n a b){i:Nat}(ad:i<m)(q2:ant)(bD:dS)(ct:ar)(a0:q2[i]? = some (aE (n+m+1) fun j=>ca (dj m n a b i j))):
 HK (i:Int) i (n+m+1) (((n+m+1:Nat):Nat):Int) p.f7 p.eM p.bR p.bS p.hl ((n+m:Nat):Int) q2 bD ct 0 (aE (n+m+1) fun j=>ca (iI m n a b i j))=some (aE (n+m+1) fun j=>ca (iI m n a b (i+1) j)):=by
 have hm:=h.hm;have aY:=h.aY;have ak8 : ∀j,eH (dj m n a b i j):=fun j=>Mt (Ny h ad j) (by omega);have f1 : ∀j,eH (iI m n a b i j):=fun j=>Mt (Wx h (by omega) j) (by omega);have f2 : ∀j,eH (iI m n a b (i+1) j):=fun j=>Mt (Wx h (by omega) j) (by omega);have es : ∀j,(j<n\/j=n+m)->iI m n a b i j+dj m n a b i j=iI m n a b (i+1) j:=fun j av=>by unfold iI;rw[dw av,dw av,cA]
 have An : ∀j,¬(j<n\/j=n+m)->iI m n a b i j=iI m n a b (i+1) j:=fun j av=>by unfold iI;rw[dy av,dy av]
 obtain⟨s,e,-⟩:=hF (f:=fun w:Int×dP=>Bc (i:Int) i (n+m+1) (((n+m+1:Nat):Nat):Int) p.f7 p.eM p.bR p.bS p.hl ((n+m:Nat):Int) q2 bD ct w.1 w.2)
  (fun (k:Nat) (_:Unit)=>((k:Int),aE (n+m+1) fun j=>ca (if j<k then iI m n a b (i+1) j else iI m n a b i j))) (n+m+1) (fun _ _=>True) (fun _=>aE (n+m+1) fun j=>ca (iI m n a b (i+1) j))
  (fun k a1 _ _=>by
    refine⟨(),?_,trivial⟩
    have fin : ∀r,r=iI m n a b (i+1) k->(J ((k:Int)+1),(aE (n+m+1) fun j=>ca (if j<k then iI m n a b (i+1) j else iI m n a b i j)).set (0+((k:Int)).toNat) (ca r))=(((k+1:Nat):Int),aE (n+m+1) fun j=>ca (if j<k+1 then iI m n a b (i+1) j else iI m n a b i j)):=by
     intro r aj;rw[fa (by omega),dx,dG,kc];congr 1;refine ek fun j _=> ?_;by_cases c:j=k
     ·subst c;rw[dw rfl,dw (by omega),aj]
     ·rw[dy c]
      by_cases cj:j<k
      ·rw[dw cj,dw (by omega)]
      ·rw[dy cj,dy (by omega)]
    have Yv : ∀ {x:Option ((Int×dP)⊕dP)},(k<n\/k=n+m)->(∀r,(J ((k:Int)+1),(aE (n+m+1) fun j=>ca (if j<k then iI m n a b (i+1) j else iI m n a b i j)).set (0+((k:Int)).toNat) (ca r))=(((k+1:Nat):Int),aE (n+m+1) fun j=>ca (if j<k+1 then iI m n a b (i+1) j else iI m n a b i j))->some (Sum.inl (J ((k:Int)+1),(aE (n+m+1) fun j=>ca (if j<k then iI m n a b (i+1) j else iI m n a b i j)).set (0+((k:Int)).toNat) (ca r)))=x) ->
     (if 0<=(k:Int)/\(k:Int)<(((aE (n+m+1) fun j=>ca (if j<k then iI m n a b (i+1) j else iI m n a b i j)).length:Nat):Int) then
       (aE (n+m+1) fun j=>ca (if j<k then iI m n a b (i+1) j else iI m n a b i j))[(0+((k:Int)).toNat)]? >>= fun gw =>
       q2[i]? >>= fun o6 =>
       if 0<=(k:Int)/\(k:Int)<((n+m+1:Nat):Int) then
       o6[(0+((k:Int)).toNat)]? >>= fun fm =>
       r5 gw fm >>= fun b1 =>
       if (0+((k:Int)).toNat)<(aE (n+m+1) fun j=>ca (if j<k then iI m n a b (i+1) j else iI m n a b i j)).length then
       some (.inl (J ((k:Int)+(1:Int)),(aE (n+m+1) fun j=>ca (if j<k then iI m n a b (i+1) j else iI m n a b i j)).set (0+((k:Int)).toNat) b1))
       else none
       else none
       else none)=x:=by
     intro x J5 aa;refine bm (by rw[b2];omega) (aG (x:=ca (iI m n a b i k)) (by rw[dx,hx a1,dy (by omega)]) (aG a0 (bm (by omega) (aG (x:=ca (dj m n a b i k)) (by rw[dx];exact hx a1) (aG (FK (f1 k) (ak8 k) (by rw[es k J5];exact f2 k)) (bm (by rw[b2,dx];omega) ?_))))));exact aa _ (fin _ (es k J5))
    unfold Bc;refine dv (by simp only;omega) (qH (fun c=> ?_) (fun c=> ?_))
    ·have OP:k<n:=(by have:=of_decide_eq_true c;rw[h.gl] at this;simp only at this;omega);exact Yv (.inl OP) fun r aj=>by rw[aj]
    ·have OP : ¬k<n:=by have:=of_decide_eq_false c;rw[h.gl] at this;simp only at this;omega
     refine qH (fun cj=> ?_) (fun cj=> ?_)
     ·have XR:k=n+m:=(by simp at cj;omega);exact Yv (.inr XR) fun r aj=>by rw[aj]
     ·have XR:k≠n+m:=by simp at cj;omega
      simp only;rw[fa (by omega)];congr 3;refine ek fun j _=> ?_;by_cases jm:j=k
      ·subst jm;rw[dy (by omega),dw (by omega),An j (by omega)]
      ·by_cases sO:j<k
       ·rw[dw sO,dw (by omega)]
       ·rw[dy sO,dy (by omega)])
  (fun _ _=>by unfold Bc;refine d8 (by simp) ?_;simp only;congr 2;exact ek fun j av=>by rw[dw av]) () trivial
 unfold HK;have bI:(aE (n+m+1) fun j=>ca (if j<0 then iI m n a b (i+1) j else iI m n a b i j))=aE (n+m+1) fun j=>ca (iI m n a b i j):=ek fun j _=>by rw[dy (by omega)]
 rw[bI] at e;exact e
theorem rJ {K:Nat}{d x y:Rat}(bH:dW K d)(aW:dW K y)(h0:d≠0)(e:d*x=y)(iV:(K:Int)<B 24):eH x:=by obtain⟨z,rfl,cH⟩:=bH;obtain⟨w,rfl,hw⟩:=aW;exact UQ (n:=w) (d:=z) (fun c=>h0 (by rw[c];rfl)) e (by omega) (by omega)
@[irreducible] def eL:Nat:=m9 100 20
theorem C2:m9 100 20=eL:=by unfold eL;rfl
theorem ahJ:((21*100*(eL*eL):Nat):Int)<B 24:=by decide +kernel
theorem tk:0<eL:=by decide +kernel
structure mh (m N:Nat) (A:Nat->Nat->Rat) (t:bZ):Prop where
 ok:hi m m N A t
 lx:t.mQ m N
 sU:t.D m A≠0
structure Small (m N:Nat) (A:Nat->Nat->Rat):Prop where
 hm:m<=20
 qI : ∀c,c<m-> ∀j,j<=N->dW 100 (A c j)
theorem mh.z8 {m N:Nat}{A:Nat->Nat->Rat}(s:Small m N A){t:bZ}(h:mh m N A t):dW eL (t.D m A):=by refine dW.mono (xg fun i ad c aX=>s.qI c aX _ (Nat.le_of_lt (h.ok.jO i ad))) (C2▸yT (by omega) s.hm)
theorem mh.vq {m N:Nat}{A:Nat->Nat->Rat}(s:Small m N A){t:bZ}(h:mh m N A t){i j:Nat}(ad:i<m)(av:j<=N):dW eL (t.T i j*t.D m A):=by
 rw[<- h.ok.x3 ad av];refine dW.mono (xg fun k a1 c aX=> ?_) (C2▸yT (by omega) s.hm);simp only[hG];split
 ·exact s.qI c aX j av
 ·exact s.qI c aX _ (Nat.le_of_lt (h.ok.jO k a1))
theorem qj {k:Nat}(h:k<=21*100*(eL*eL)):((k:Nat):Int)<B 24:=by have:=ahJ;omega
theorem Da:eL<=21*100*(eL*eL):=by have h1:eL*1<=eL*eL:=Nat.mul_le_mul_left _ tk;omega
theorem mh.JL {m N:Nat}{A:Nat->Nat->Rat}(s:Small m N A){t:bZ}(h:mh m N A t){i j:Nat}(ad:i<m)(av:j<=N):eH (t.T i j) :=
 rJ (h.z8 s) (h.vq s ad av) h.sU (by grind) (qj Da)
theorem mh.WX {m N:Nat}{A:Nat->Nat->Rat}(s:Small m N A){t:bZ}(h:mh m N A t){i j:Nat}(ad:i<m)(av:j<=N)(ah:0<t.T i j):eH (t.T i N / t.T i j) :=
 rJ (h.vq s ad av) (h.vq s ad (dF _)) (fun c=>by have h1:=h.sU;have:t.T i j≠0:=(by grind);grind) (by grind) (qj Da)
theorem mh.XS {m N:Nat}{A:Nat->Nat->Rat}(s:Small m N A){t:bZ}(h:mh m N A t){o:Nat->Rat}(an:∀j,j<=N->dW 100 (o j)){j:Nat}(av:j<=N):dW (21*100*eL) (t.cy m o j*t.D m A):=by
 have hm:=s.hm;unfold bZ.cy;have e:(o j-cA m (fun i=>o (t.B i)*t.T i j))*t.D m A=o j*t.D m A-cA m (fun i=>o (t.B i)*(t.T i j*t.D m A)):=by rw[gm (f:=fun i=>o (t.B i)*(t.T i j*t.D m A)) (g:=fun i=>(o (t.B i)*t.T i j)*t.D m A) (fun i _=>by grind),vL];grind
 rw[e];refine dW.mono (((an j av).mul (h.z8 s)).sub (dW.sum fun i ad=>(an _ (Nat.le_of_lt (h.ok.jO i ad))).mul (h.vq s ad av))) ?_;have:m*(100*eL)<=20*(100*eL):=dL _ hm;omega
theorem xC:21*100*eL<=21*100*(eL*eL):=by have h1:eL*1<=eL*eL:=Nat.mul_le_mul_left _ tk;omega
theorem mh.zD {m N:Nat}{A:Nat->Nat->Rat}(s:Small m N A){t:bZ}(h:mh m N A t){o:Nat->Rat}(an:∀j,j<=N->dW 100 (o j)){j:Nat}(av:j<=N):eH (t.cy m o j) :=
 rJ ((h.z8 s).mono (Nat.le_trans (by omega:eL<=21*100*eL) (dF _))) (h.XS s an av) h.sU (by grind) (qj xC)
theorem mh.ik {m N K:Nat}{A obj:Nat->Nat->Rat}{bO:Nat->Prop}{t:bZ}(h:mh m N A t){r k:Nat}(b:ph m N K obj bO t r k):mh m N A (t.cv r k) :=
 ⟨b.ok h.ok,b.Gl h.lx,by rw[h.ok.zm b.aj b.bL];have h1:=b.pos;have h2:=h.sU;intro c;have:t.T r k≠0:=(by grind);grind⟩
theorem mh.Gq {m N:Nat}{A:Nat->Nat->Rat}(s:Small m N A){t:bZ}(h:mh m N A t){o:Nat->Rat}(an:∀j,j<=N->dW 100 (o j)){r k:Nat}(aj:r<m)(a1:k<N)(ah:t.T r k≠0)(c3:hi m m N A (t.cv r k)):JJ m N t (t.cy m o) r k:=by
 have bH:=h.sU;have sv:(t.cv r k).D m A≠0:=by rw[h.ok.zm aj a1];grind
 have fe:(t.cv r k).D m A=t.T r k*t.D m A:=h.ok.zm aj a1;have i2:dW eL ((t.cv r k).D m A):=dW.mono (xg fun i ad c aX=>s.qI c aX _ (Nat.le_of_lt (c3.jO i ad))) (C2▸yT (by omega) s.hm)
 have p3 : ∀i,i<m-> ∀j,j<=N->dW eL ((t.cv r k).T i j*(t.cv r k).D m A):=fun i ad j av=>by
  rw[<- c3.x3 ad av];refine dW.mono (xg fun k a1 c aX=> ?_) (C2▸yT (by omega) s.hm);simp only[hG];split
  ·exact s.qI c aX j av
  ·exact s.qI c aX _ (Nat.le_of_lt (c3.jO k a1))
 have Ao:dW (21*100*(eL*eL)) (t.D m A*(t.cv r k).D m A):=((h.z8 s).mul i2).mono (by omega);have XT:t.D m A*(t.cv r k).D m A≠0:=by grind
 refine⟨fun i ad j av=>h.JL s ad av,fun i ad j av=>rJ i2 (p3 i ad j av) sv (by grind) (qj Da),fun i ad _ j av=> ?_,fun j av=>h.zD s an av,fun j av=> ?_,fun j av=> ?_⟩
 ·refine rJ Ao (((h.vq s ad (Nat.le_of_lt a1)).mul (h.vq s aj av)).neg.mono (by omega)) XT ?_ (qj (dF _));rw[fe];grind
 ·rw[<- h.ok.ID o aj a1 ah];have g2:dW (21*100*eL) ((t.cv r k).cy m o j*(t.cv r k).D m A):=(by have hm:=s.hm;unfold bZ.cy;have e:(o j-cA m (fun i=>o ((t.cv r k).B i)*(t.cv r k).T i j))*(t.cv r k).D m A=o j*(t.cv r k).D m A-cA m (fun i=>o ((t.cv r k).B i)*((t.cv r k).T i j*(t.cv r k).D m A)):=(by rw[gm (f:=fun i=>o ((t.cv r k).B i)*((t.cv r k).T i j*(t.cv r k).D m A)) (g:=fun i=>(o ((t.cv r k).B i)*(t.cv r k).T i j)*(t.cv r k).D m A) (fun i _=>by grind),vL];grind);rw[e];refine dW.mono (((an j av).mul i2).sub (dW.sum fun i ad=>(an _ (Nat.le_of_lt (c3.jO i ad))).mul (p3 i ad j av))) ?_;have:m*(100*eL)<=20*(100*eL):=dL _ hm;omega);exact rJ (i2.mono (by omega)) g2 sv (by grind) (qj xC)
 ·refine rJ Ao (((h.XS s an (Nat.le_of_lt a1)).mul (h.vq s aj av)).neg.mono (by
   rw[Nat.mul_assoc];exact dF _)) XT ?_ (qj (dF _))
  rw[fe];grind
theorem ago {p:jz}{m n:Nat}{a:Nat->Nat->Int}{b:Nat->Int}(h:ms p m n a b):
 Ep p=some (((n+m:Nat):Int),iH m (n+m),cX m (jX m n a b),hB (n+m) ((jX m n a b).cy m (gE m n)),gD m (n+m) (jX m n a b)):=by
 have hm:=h.hm;have aY:=h.aY;have fw:J (p.eM+p.f7)=((n+m:Nat):Int):=by rw[h.gl,h.rows,<- Int.natCast_add,cu (by omega) (by omega)]
 unfold Ep;rw[fw]
 obtain⟨s1,e1,-⟩:=hF (f:=fun w:Int×dP=>A9 p.f7 p.eM p.bR p.bS p.hl ((n+m:Nat):Int) w.1 w.2)
  (fun (k:Nat) (_:Unit)=>((k:Int),aE k fun j=>ca (0:Rat))) (n+m+1) (fun _ _=>True) (fun _=>aE (n+m+1) fun j=>ca (0:Rat))
  (fun k a1 _ _=>by refine⟨(),?_,trivial⟩;unfold A9;refine dv (by simp only;omega) (aG (x:=ca (0:Rat)) (si (n:=0) (by rw[ln];omega)) (bm (by simp only[dE,b2,List.length_cons,List.length_nil];omega) ?_));simp only;rw[fa (by omega),k1])
  (fun _ _=>by unfold A9;exact d8 (by simp only;omega) rfl) () trivial
 refine aG (x:=aE (n+m+1) fun j=>ca (0:Rat)) (by unfold Q7;exact e1) ?_
 obtain⟨s2,e2,-⟩:=hF (f:=fun w:Int×dS×ant×ar×dP=>AX p.f7 p.eM p.bR p.bS p.hl ((n+m:Nat):Int) w.1 w.2.1 w.2.2.1 w.2.2.2.1 w.2.2.2.2)
  (fun (i:Nat) (_:Unit)=>((i:Int),aE i (fun k=>some (k,n+m+1)),aE i (hr (n+m) (jX m n a b)),aE i (fun k=>((n+k:Nat):Int)),aE (n+m+1) fun j=>ca (iI m n a b i j))) m (fun _ _=>True)
  (fun _=>(iH m (n+m),gD m (n+m) (jX m n a b),cX m (jX m n a b),aE (n+m+1) fun j=>ca (iI m n a b m j)))
  (fun i ad _ _=>by
    refine⟨(),?_,trivial⟩;have aP:=h.lR i ad;have hlen:((aE (n+m) fun j=>ca (dj m n a b i j))++[ca (dj m n a b i (n+m))])=hr (n+m) (jX m n a b) i:=(k1 ..).symm;have XU:(hr (n+m) (jX m n a b) i).length=n+m+1:=b2 ..;have hw:J (p.eM+(i:Int))=((n+i:Nat):Int):=(by rw[h.gl,<- Int.natCast_add,cu (by omega) (by omega)]);have dn:(aE i (hr (n+m) (jX m n a b))++[hr (n+m) (jX m n a b) i])[i]? = some (hr (n+m) (jX m n a b) i):=(by rw[<- k1];exact fK (by omega));have XV:(aE i (hr (n+m) (jX m n a b))).length=i:=b2 ..;have sN:lP m n a b i (n+m)=lf (b i)*b i:=by unfold lP;rw[dy (by omega),dw rfl]
    have fin:(some (Sum.inl (J ((i:Int)+1),(aE i (fun k=>(some (k,n+m+1):bU)))++[some (i,n+m+1)],aE i (hr (n+m) (jX m n a b))++[hr (n+m) (jX m n a b) i],(aE i fun k=>((n+k:Nat):Int))++[((n+i:Nat):Int)],aE (n+m+1) fun j=>ca (iI m n a b (i+1) j))):Option ((Int×dS×ant×ar×dP)⊕(dS×ant×ar×dP))) =
     some (Sum.inl (((i+1:Nat):Int),aE (i+1) (fun k=>some (k,n+m+1)),aE (i+1) (hr (n+m) (jX m n a b)),aE (i+1) (fun k=>((n+k:Nat):Int)),aE (n+m+1) fun j=>ca (iI m n a b (i+1) j))):=by
     rw[fa (by omega),k1 i (fun k=>(some (k,n+m+1):bU)),k1 i (hr (n+m) (jX m n a b)),k1 i (fun k=>((n+k:Nat):Int))]
    unfold AX;refine dv (by simp only;rw[h.rows];omega) (bm (by simp only;rw[h.Am];omega) (aG (x:=b i) (by simp only;rw[dx];exact h.JK i ad) (qH (fun c=> ?_) (fun c=> ?_))))
    ·have pk:b i<0:=of_decide_eq_true c;have bL:lf (b i) = -1:=(by unfold lf;rw[dw pk]);refine aG (V9 h ad) ?_;have aj:=ac0 h ad pk ((n+m:Nat):Int) (aE i (fun k=>some (k,n+m+1))) (aE i (hr (n+m) (jX m n a b))) (aE i (fun k=>((n+k:Nat):Int))) (aE (n+m+1) fun j=>ca (iI m n a b i j));rw[dC,Option.bind_eq_some_iff] at aj;obtain⟨bB,jF,z3⟩:=aj;refine aG jF (aG z3 (aG (x:=ca (dj m n a b i (n+m))) (by have e:J ((-1:Int)*b i)=lP m n a b i (n+m):=(by rw[sN,bL,cu (by omega) (by omega)]);rw[e];exact si (by have:=wh h ad (n+m);rw[ln];omega)) ?_));simp only;rw[hlen,XV,XU,hw];refine bm (by omega) (aG dn (aG (TN h ad _ _ _ dn) (bm (by simp only[dE,b2,List.length_cons,List.length_nil];omega) (bm (by simp only[dE,b2,List.length_cons,List.length_nil];omega) fin))))
    ·have pk : ¬b i<0:=of_decide_eq_false c;have bL:lf (b i)=1:=(by unfold lf;rw[dy pk]);refine aG (V9 h ad) ?_;have aj:=ac1 h ad pk ((n+m:Nat):Int) (aE i (fun k=>some (k,n+m+1))) (aE i (hr (n+m) (jX m n a b))) (aE i (fun k=>((n+k:Nat):Int))) (aE (n+m+1) fun j=>ca (iI m n a b i j));rw[dC,Option.bind_eq_some_iff] at aj;obtain⟨bB,jF,z3⟩:=aj;refine aG jF (aG z3 (aG (x:=ca (dj m n a b i (n+m))) (by have e:J ((1:Int)*b i)=lP m n a b i (n+m):=(by rw[sN,bL,cu (by omega) (by omega)]);rw[e];exact si (by have:=wh h ad (n+m);rw[ln];omega)) ?_));simp only;rw[hlen,XV,XU,hw];refine bm (by omega) (aG dn (aG (TN h ad _ _ _ dn) (bm (by simp only[dE,b2,List.length_cons,List.length_nil];omega) (bm (by simp only[dE,b2,List.length_cons,List.length_nil];omega) fin)))))
  (fun _ _=>by unfold AX;exact d8 (by simp only;rw[h.rows];omega) rfl) () trivial
 have e0:(aE (n+m+1) fun j=>ca (iI m n a b 0 j))=aE (n+m+1) fun j=>ca (0:Rat):=ek fun j _=>by unfold iI;split<;>rfl
 rw[e0] at e2;refine aG (x:=(iH m (n+m),gD m (n+m) (jX m n a b),cX m (jX m n a b),aE (n+m+1) fun j=>ca (iI m n a b m j))) (by unfold QU;exact e2) ?_;congr 1;refine Prod.ext rfl (Prod.ext rfl (Prod.ext rfl (Prod.ext ?_ rfl)));refine ek fun j av=> ?_;rw[aeP];unfold iI gE;by_cases c:j<n\/j=n+m
 ·rw[dw c,dy (by omega)];congr 1;grind
 ·rw[dy c,dw (by omega)];obtain⟨k,rfl⟩ : ∃k,j=n+k:=⟨j-n,by omega⟩;rw[lm (k:=k) (by omega) (fun i _ dd=>by rw[vU (by omega),dy (Ne.symm dd)]),vU (by omega),dw rfl,show (-1:Rat)+1=0 by grind]
theorem I8 (m n j:Nat):dW 100 (gE m n j):=by
 unfold gE;split
 ·exact⟨-1,rfl,by omega⟩
 ·exact⟨0,rfl,by omega⟩
theorem JM {g:Nat->Rat}:iP 1 g↔0<g 0:=by
 constructor
 ·rintro⟨l,h1,h2,-⟩;rw[show l=0 by omega] at h2;exact h2
 ·intro h;exact⟨0,by omega,h,fun hR aZ=>by omega⟩
theorem Fh {p:jz}{m n:Nat}{a:Nat->Nat->Int}{b:Nat->Int}(h:ms p m n a b):Small m (n+m) (dj m n a b):=⟨h.hm,fun c aX j _=>Ny h aX j⟩
theorem afk {p:jz}{m n:Nat}{a:Nat->Nat->Int}{b:Nat->Int}(h:ms p m n a b):
 ∃t,vE false ((n+m:Nat):Int) (iH m (n+m)) (cX m (jX m n a b)) (hB (n+m) ((jX m n a b).cy m (gE m n))) (gD m (n+m) (jX m n a b))=some (true,cX m t,hB (n+m) (t.cy m (gE m n)),gD m (n+m) t) /\
  mh m (n+m) (dj m n a b) t/\(t.cy m (gE m n) (n+m)=0↔q5 m n a b):=by
 have hm:=h.hm;have aY:=h.aY;have gQ:=Fh h
 obtain⟨q,t,e,c7,eQ⟩:=V8 (eZ:=m) (m:=m) (N:=n+m) (K:=1) (by omega) (by omega) (A:=dj m n a b) (obj:=fun _=>gE m n) false (mh m (n+m) (dj m n a b)) (fun t cq=>⟨cq.ok,cq.lx⟩) (fun t r s cq b=>cq.ik b)
  (fun t cq j av=>⟨jQ (t.cy m (gE m n) j),ag1 (by omega) _ _ _ _ (by omega) (cq.zD gQ (fun j _=>I8 m n j) (by omega)),fun _=>by rw[td];exact(JM (g:=fun _=>t.cy m (gE m n) j)).symm⟩)
  (fun t cq i ad j av=>cq.JL gQ ad av) (fun t cq i ad j av ah=>cq.WX gQ ad av ah)
  (fun t cq r k aj a1 ah=>cq.Gq gQ (fun j _=>I8 m n j) aj a1 ah (cq.ok.cv aj a1 ah)) (jX m n a b) ⟨Vm,T9,UH⟩
 rcases eQ with ⟨rfl,eQ⟩|⟨-,s,bL,dn,hO⟩
 ·refine⟨t,e,c7,fun h0=>Tg c7.ok c7.lx (L6 c7.lx h0 c7.ok.jO),fun aks=>TG c7.ok c7.lx (fun j av=> ?_) aks⟩;have:=eQ j (by omega);have h2 : ¬0<t.cy m (gE m n) j:=fun c=>this (JM.2 c);grind
 ·obtain⟨i,ad,ah⟩:=SW c7.ok bL (JM.1 dn);exact(hO i ad ah).elim
def cb (x:Rat):bE:=ho x.num
@[irreducible] def l0:Nat:=1000000000 ^ 40
theorem WY:((l0:Nat):Int)+((l0:Nat):Int)<B 50:=by decide +kernel
theorem Nl {K:Nat}{x:Rat}(h:dW K x):((x.num:Int):Rat)=x/\x.num.natAbs<=K:=by obtain⟨z,rfl,cH⟩:=h;rw[Rat.num_intCast];exact⟨rfl,cH⟩
theorem qU (z:Int):cb (z:Rat)=ho z:=by unfold cb;rw[Rat.num_intCast]
theorem CT {x:Rat}(h:dW l0 x):(L x.num.natAbs).length<=50:=by have:=WY;have h1:=(Nl h).2;exact(jc (by omega)).2 (by omega)
theorem CC {x y:Rat}(aa:dW l0 x)(aW:dW l0 y):qK (cb x) (cb y)=some (cb (x*y)):=by have h1:=CT aa;have h2:=CT aW;obtain⟨a,rfl,-⟩:=aa;obtain⟨b,rfl,-⟩:=aW;rw[Rat.num_intCast] at h1 h2;rw[qU,qU,<- dN,qU];exact Ug (by omega) (by omega)
theorem US {x y:Rat}(aa:dW l0 x)(aW:dW l0 y):yq (cb x) (cb y)=some (cb (x-y)):=by have fX:=WY;obtain⟨a,rfl,bF⟩:=aa;obtain⟨b,rfl,aP⟩:=aW;rw[qU,qU,<- Rat.intCast_sub,qU];exact afe (by omega) (by omega)
theorem xf {x:Rat}(aa:dW l0 x):rr (cb x)=some (jQ x):=by
 obtain⟨a,rfl,bF⟩:=aa;rw[qU];unfold rr jQ;simp only[gZ];have e:(((L a.natAbs).length:Nat):Int)=0↔a=0:=by rw[JI (by omega)];omega
 show (if (((L a.natAbs).length:Int) == 0)=true then some 0 else if decide (a<0)=true then some (-1) else some 1)=_;by_cases h0:a=0
 ·rw[dw (by rw[beq_iff_eq,e];exact h0),dw (by rw[h0];rfl)]
 ·have akt:(a:Rat)≠0:=fun c=>h0 (Rat.intCast_inj.1 (by rw[c];rfl))
  rw[dy (by rw[beq_iff_eq,e];exact h0),dy akt];have e2:(a:Rat)<0↔a<0:=(by rw[show (0:Rat)=((0:Int):Rat) from rfl,Rat.intCast_lt_intCast]);by_cases h1:a<0
  ·rw[dw (decide_eq_true h1),dw (e2.2 h1)]
  ·rw[dy (by simpa using h1),dy (fun c=>h1 (e2.1 c))]
theorem aep {x y:Rat}(aa:dW l0 x)(aW:dW l0 y):vA (cb x) (cb y)=some (if x<y then -1 else if y<x then 1 else 0):=by have h1:=CT aa;have h2:=CT aW;obtain⟨a,rfl,-⟩:=aa;obtain⟨b,rfl,-⟩:=aW;rw[Rat.num_intCast] at h1 h2;rw[qU,qU,abq (by omega) (by omega)];unfold mg;simp only[Rat.intCast_lt_intCast]
theorem Tk {x:Rat}(aa:dW l0 x):rX (cb x)=some (cb (-x)):=by obtain⟨a,rfl,-⟩:=aa;rw[qU,<- Rat.intCast_neg,qU];unfold rX;show (nj (!(decide (a<0))) (L a.natAbs)).bind _=_;rw[ta (by omega),Nj];rfl
theorem vN {n:Int}(h:mP n):qb n=some (cb (n:Rat)):=by rw[qU];exact TM h
theorem aeq {x y:Rat}(aa:dW l0 x)(aW:dW l0 y)(Ol:dW l0 (x*y))(h0:y≠0):wU (cb (x*y)) (cb y)=some (cb x):=by
 have h1:=CT Ol;have h2:=CT aW;obtain⟨a,rfl,-⟩:=aa;obtain⟨b,rfl,-⟩:=aW;rw[<- dN] at h1 ⊢;rw[Rat.num_intCast] at h1 h2;have aP:b≠0:=fun c=>h0 (by rw[c];rfl);rw[qU,qU,qU];unfold wU;show (vP (L (a*b).natAbs) (L b.natAbs)).bind _=_;rw[I4 (jr _) (jr _) (fun c=>by have:=wb.1 c;omega) (by omega) (by omega),eF (by omega),eF (by omega)];have e1:((a*b).natAbs:Int) / (b.natAbs:Int)=(a.natAbs:Int):=by rw[Int.natAbs_mul,Int.natCast_mul];exact Int.mul_ediv_cancel _ (by omega)
 simp only[dA];rw[e1];show (nj (!(decide (a*b<0) == decide (b<0))) (L a.natAbs)).bind _=_;rw[ta (by omega)];simp only[dA];congr 2;rcases Int.lt_or_gt_of_ne aP with c|c
 ·by_cases bF:a<0
  ·have : ¬a*b<0:=(by have:=Int.mul_pos_of_neg_of_neg bF c;omega);rw[decide_eq_false this,decide_eq_true c];simp only[eY,show (!(false == true))=true from rfl,if_true];omega
  ·by_cases cH:a=0
   ·subst cH;simp[eY]
   ·have:a*b<0:=Int.mul_neg_of_pos_of_neg (by omega) c;rw[decide_eq_true this,decide_eq_true c];simp only[eY,BEq.rfl,Bool.not_true,Bool.false_eq_true,if_false];omega
 ·by_cases bF:a<0
  ·have:a*b<0:=Int.mul_neg_of_neg_of_pos bF c;rw[decide_eq_true this,decide_eq_false (by omega)];simp only[eY,show (!(true == false))=true from rfl,if_true];omega
  ·have : ¬a*b<0:=(by have:=Int.mul_nonneg (show 0<=a by omega) (show 0<=b by omega);omega);rw[decide_eq_false this,decide_eq_false (by omega)];simp only[eY,BEq.rfl,Bool.not_true,Bool.false_eq_true,if_false];omega
def iA (N:Nat)(w:Rat)(t:bZ)(i:Nat):dQ:=aE (N+1) fun j=>cb (t.T i j*w)
structure qp (m N:Nat) (w:Rat) (t:bZ):Prop where
 pos:0<w
 hw:dW (21*100*eL) w
 hM : ∀i,i<m-> ∀j,j<=N->dW eL (t.T i j*w)
 fX : ∀i,i<m->t.B i<N
theorem F1:21*100*eL*(21*100*eL)+21*100*eL*(21*100*eL)<=l0:=by decide +kernel
theorem ai9 {q i:Nat}(a0:0<q)(ad:i<=20):21*100*q*100+i*(q*100)<=21*100*q*(21*100*q):=by have h1:i*(q*100)<=20*(q*100):=dL _ ad;have h2:21*100*q*2100<=21*100*q*(21*100*q):=Nat.mul_le_mul_left _ (by omega);generalize 21*100*q*(21*100*q)=z at *;omega
theorem aja {i:Nat}(ad:i<=20):21*100*eL*100+i*(eL*100)<=l0 :=
 Nat.le_trans (ai9 tk ad) (Nat.le_trans (Nat.le_add_right _ _) F1)
theorem wq {K:Nat}(h:K<=21*100*eL):K<=l0:=by have aku:=F1;have h1:21*100*eL*1<=21*100*eL*(21*100*eL):=Nat.mul_le_mul_left _ (by have:=tk;generalize eL=q at *;omega);rw[Nat.mul_one] at h1;exact Nat.le_trans h (Nat.le_trans h1 (Nat.le_trans (Nat.le_add_right _ _) aku))
theorem Vv {m N:Nat}(hm:m<=20)(fw:N<1000){w:Rat}{t:bZ}(h:qp m N w t)(o:Nat->Int)(an:∀j,j<N-> -100<=o j/\o j<=100)(kq:bE)(Dc:kq=cb w)(gl:Int)(free:ans){k:Nat}(a1:k<N):
 B2 ⟨aE m (iA N w t),kq,cX m t,gl,free⟩ (aE N o) (k:Int)=some (jQ (t.cy m (fun j=>(o j:Rat)) k)):=by
 subst Dc;have am3:=tk;have small : ∀ {x:Rat} {K:Nat},dW K x->K<=21*100*eL->dW l0 x:=fun h1 h2=>h1.mono (wq h2);have al : ∀j,j<N->dW 100 ((o j:Int):Rat):=fun j av=>⟨o j,rfl,by have:=an j av;omega⟩;have XW : ∀j,j<N->mP (o j):=fun j av=>by have:=an j av;rw[ln];omega
 let S:Nat->Rat:=fun i=>w*(o k:Rat)-cA i (fun i=>(t.T i k*w)*(o (t.B i):Rat))
 have x6 : ∀i,i<=m->dW l0 (S i):=fun i ad=>by have e1:dW (21*100*eL*100) (w*(o k:Rat)):=h.hw.mul (al k a1);have e2:dW (i*(eL*100)) (cA i (fun i=>(t.T i k*w)*(o (t.B i):Rat))):=dW.sum fun ft ml=>(h.hM ft (by omega) k (by omega)).mul (al _ (h.fX ft (by omega)));exact(e1.sub e2).mono (aja (by omega))
 unfold B2;refine bm (by rw[b2];omega) (aG (x:=o k) (by rw[dx];exact fK a1) (aG (vN (XW k a1)) (aG (CC (small h.hw (dF _)) (small (al k a1) (by omega))) ?_)))
 obtain⟨s,e,-⟩:=hF (f:=fun q:Int×Bool×ar=>AU (aE m (iA N w t)) (cb w).cR (cb w).cC (cX m t) gl free (aE N o) (k:Int) ((m:Nat):Int) q.1 q.2.1 q.2.2)
  (fun (i:Nat) (_:Unit)=>((i:Int),(cb (S i)).cR,(cb (S i)).cC)) m (fun _ _=>True) (fun _=>((cb (S m)).cR,(cb (S m)).cC))
  (fun i ad _ _=>by
    refine⟨(),?_,trivial⟩;have Km:=h.fX i ad;have Hc:S (i+1)=S i-(t.T i k*w)*(o (t.B i):Rat):=(by simp only[S,cA];grind);unfold AU;refine dv (by simp only;omega) (bm (by unfold cX;rw[b2];simp only;omega) (aG (x:=((t.B i:Nat):Int)) (by simp only;rw[dx];exact fK ad) (bm (by rw[b2];omega) (aG (x:=o (t.B i)) (by rw[dx];exact fK Km) (qH (fun c=> ?_) (fun c=> ?_))))))
    ·refine bm (by rw[b2];simp only;omega) (aG (x:=iA N w t i) (by simp only;rw[dx];exact fK ad) (bm (by unfold iA;rw[b2];omega) (aG (x:=cb (t.T i k*w)) (by rw[dx];exact fK (by omega)) (aG (xf (small (h.hM i ad k (by omega)) (by omega))) (qH (fun cj=> ?_) (fun cj=> ?_))))))
     ·refine aG (vN (XW _ Km)) (aG (CC (small (h.hM i ad k (by omega)) (by omega)) (small (al _ Km) (by omega))) (aG (US (x6 i (by omega)) (by
       exact small ((h.hM i ad k (by omega)).mul (al _ Km)) (by omega))) ?_))
      simp only;rw[fa (by omega),Hc]
     ·have cH:t.T i k*w=0:=pz.1 (by simpa using cj);simp only;rw[fa (by omega),Hc,cH,show S i-0*(o (t.B i):Rat)=S i by grind]
    ·have cH:o (t.B i)=0:=(by simpa using c);simp only;rw[fa (by omega),Hc,cH,show S i-t.T i k*w*((0:Int):Rat)=S i by rw[show ((0:Int):Rat)=0 from rfl];grind])
  (fun _ _=>by unfold AU;exact d8 (by simp) rfl) () trivial
 have e0:S 0=w*(o k:Rat):=by simp only[S,cA];grind
 rw[e0] at e;refine aG (x:=((cb (S m)).cR,(cb (S m)).cC)) (by unfold QP;rw[gZ,show (cX m t).length=m from b2 ..];exact e) (aG (x:=jQ (S m)) (xf (x6 m (dF _))) ?_);congr 1;have e2:S m=w*t.cy m (fun j=>(o j:Rat)) k:=by simp only[S];unfold bZ.cy;rw[gm (f:=fun i=>t.T i k*w*(o (t.B i):Rat)) (g:=fun i=>w*((o (t.B i):Rat)*t.T i k)) (fun i _=>by grind),j1];grind
 rw[e2];have ah:=h.pos;unfold jQ;by_cases c:t.cy m (fun j=>(o j:Rat)) k=0
 ·rw[dw c,dw (by rw[c];grind)]
 ·rw[dy c,dy (by grind)]
  by_cases cj:t.cy m (fun j=>(o j:Rat)) k<0
  ·rw[dw cj,dw];have:=Rat.mul_pos ah (show 0 < -(t.cy m (fun j=>(o j:Rat)) k) by grind);grind
  ·rw[dy cj,dy];have:=Rat.mul_pos ah (show 0<t.cy m (fun j=>(o j:Rat)) k by grind);grind
theorem UT {x y z v w:Rat}(hw:0<w)(aW:0<y)(bf:0<v):(x*w)*(v*w)<(z*w)*(y*w)↔x / y<z / v:=by
 have e1:(x*w)*(v*w)=(x / y)*((y*v)*(w*w)):=by grind
 have e2:(z*w)*(y*w)=(z / v)*((y*v)*(w*w)):=by grind
 have ah:0<(y*v)*(w*w):=Rat.mul_pos (Rat.mul_pos aW bf) (Rat.mul_pos hw hw);rw[e1,e2];constructor
 ·intro h;apply Classical.byContradiction;intro c;have:z / v<=x / y:=(by grind);have:=Rat.mul_le_mul_of_nonneg_right this (Rat.le_of_lt ah);grind
 ·intro h;exact Rat.mul_lt_mul_of_pos_right h ah
theorem CL {x w:Rat}(hw:0<w):jQ (x*w)=jQ x:=by
 unfold jQ;by_cases c:x=0
 ·rw[dw c,dw (by rw[c];grind)]
 ·rw[dy c,dy (by grind)]
  by_cases cj:x<0
  ·rw[dw cj,dw];have:=Rat.mul_pos (show 0 < -x by grind) hw;grind
  ·rw[dy cj,dy];have:=Rat.mul_pos (show 0<x by grind) hw;grind
theorem aer {m N:Nat}(hm:m<=20)(fw:N<1000){w:Rat}{t:bZ}(h:qp m N w t)(kq:bE)(free:ans){k:Nat}(a1:k<=N):
 ∃r,D5 ⟨aE m (iA N w t),kq,cX m t,(N:Int),free⟩ (k:Int)=some r/\I7 m N t k r:=by
 have hw:=h.pos;have p6 : ∀i,i<m-> ∀j,j<=N->dW l0 (t.T i j*w):=fun i ad j av=>(h.hM i ad j av).mono (wq (by have:=tk;generalize eL=q at *;omega));have Ap : ∀i,i<m-> ∀j,j<=N-> ∀ft,ft<m-> ∀jv,jv<=N->dW l0 (t.T i j*w*(t.T ft jv*w)):=fun i ad j av ft ml jv vg=>((h.hM i ad j av).mul (h.hM ft ml jv vg)).mono (by refine Nat.le_trans ?_ (Nat.le_trans (Nat.le_add_right _ _) F1);exact Nat.mul_le_mul (by generalize eL=q;omega) (by generalize eL=q;omega));unfold D5
 obtain⟨r,e,aj⟩:=tb (f:=fun q:Int×Int=>AJ (aE m (iA N w t)) kq.cR kq.cC (cX m t) (N:Int) free (k:Int) ((m:Nat):Int) q.1 q.2)
  (fun (i:Nat) (s:Int)=>(s,(i:Int))) m
  (fun n s=>(s = -1/\ ∀i,i<n-> ¬0<t.T i k)\/ ∃b:Nat,s=b/\b<n/\0<t.T b k/\ ∀i,i<n->0<t.T i k->t.T b N / t.T b k<t.T i N / t.T i k\/(t.T b N / t.T b k=t.T i N / t.T i k/\t.B b<=t.B i))
  (fun r=>I7 m N t k r)
  (fun n aY s c7=>by
    left;unfold AJ;have g1:0<=((n:Nat):Int)/\((n:Nat):Int)<((aE m (iA N w t)).length:Nat):=(by rw[b2];omega);have g2:(aE m (iA N w t))[((n:Nat):Int).toNat]? = some (iA N w t n):=(by rw[dx];exact fK aY);have g3 : ∀b,0<=((k:Nat):Int)/\((k:Nat):Int)<((iA N w t b).length:Nat):=fun b=>(by unfold iA;rw[b2];omega);have g4 : ∀b,(iA N w t b)[((k:Nat):Int).toNat]? = some (cb (t.T b k*w)):=fun b=>(by rw[dx];exact fK (by omega));have g5 : ∀b,0<=((N:Nat):Int)/\((N:Nat):Int)<((iA N w t b).length:Nat):=fun b=>(by unfold iA;rw[b2];omega);have g6 : ∀b,(iA N w t b)[((N:Nat):Int).toNat]? = some (cb (t.T b N*w)):=fun b=>(by rw[dx];exact fK (by omega));have iC:J ((n:Int)+1)=((n+1:Nat):Int):=fa (by omega);have sC:rr (cb (t.T n k*w))=some (jQ (t.T n k)):=(by rw[xf (p6 n aY k a1),CL hw]);by_cases ah:0<t.T n k
    ·have bL : ¬jQ (t.T n k)<=0:=by have:=td.2 ah;omega
     rcases c7 with ⟨h1,h2⟩|⟨b,h1,aP,kY,U⟩
     ·refine⟨(n:Int),dv (by simp only;omega) (bm g1 (aG g2 (bm (g3 n) (aG (g4 n) (aG sC (d8 bL (dv (by simp only;omega) ?_))))))),.inr ⟨n,rfl,by omega,ah,fun i ad jG=> ?_⟩⟩
      ·simp only;rw[iC]
      ·by_cases c:i=n
       ·subst c;exact .inr ⟨rfl,dF _⟩
       ·exact(h2 i (by omega) jG).elim
     ·subst h1
      have Kj:0<=((b:Nat):Int)/\((b:Nat):Int)<((aE m (iA N w t)).length:Nat):=(by rw[b2];omega);have Kk:(aE m (iA N w t))[((b:Nat):Int).toNat]? = some (iA N w t b):=by rw[dx];exact fK (by omega)
      have gc:vA (cb (t.T n N*w*(t.T b k*w))) (cb (t.T b N*w*(t.T n k*w)))=some (if t.T n N / t.T n k<t.T b N / t.T b k then -1 else if t.T b N / t.T b k<t.T n N / t.T n k then 1 else 0):=by
       rw[aep (Ap n aY N (by omega) b (by omega) k a1) (Ap b (by omega) N (by omega) n aY k a1)];have r1:=UT (x:=t.T n N) (y:=t.T n k) (z:=t.T b N) (v:=t.T b k) hw ah kY;have r2:=UT (x:=t.T b N) (y:=t.T b k) (z:=t.T n N) (v:=t.T n k) hw kY ah;by_cases bc:t.T n N / t.T n k<t.T b N / t.T b k
       ·rw[dw bc,dw (r1.2 bc)]
       ·rw[dy bc,dy (fun c=>bc (r1.1 c))]
        by_cases cj:t.T b N / t.T b k<t.T n N / t.T n k
        ·rw[dw cj,dw (r2.2 cj)]
        ·rw[dy cj,dy (fun c=>cj (r2.1 c))]
      have lead : ∀ {x r:Option ((Int×Int)⊕Int)} {f:Int->Option ((Int×Int)⊕Int)} {q:Int},vA (cb (t.T n N*w*(t.T b k*w))) (cb (t.T b N*w*(t.T n k*w)))=some q->f q=r ->
       (if 0<=((N:Nat):Int)/\((N:Nat):Int)<((iA N w t n).length:Nat) then
         (iA N w t n)[((N:Nat):Int).toNat]? >>= fun mo =>
         if 0<=((b:Nat):Int)/\((b:Nat):Int)<((aE m (iA N w t)).length:Nat) then
         (aE m (iA N w t))[((b:Nat):Int).toNat]? >>= fun oE =>
         if 0<=((k:Nat):Int)/\((k:Nat):Int)<(oE.length:Nat) then
         oE[((k:Nat):Int).toNat]? >>= fun uD =>
         qK mo uD >>= fun nb =>
         if 0<=((N:Nat):Int)/\((N:Nat):Int)<(oE.length:Nat) then
         oE[((N:Nat):Int).toNat]? >>= fun wE =>
         qK wE (cb (t.T n k*w)) >>= fun nc =>
         vA nb nc >>= f
         else none else none else none else none)=r:=fun a0 cg =>
       bm (g5 n) (aG (g6 n) (bm Kj (aG Kk (bm (g3 b) (aG (g4 b) (aG (CC (p6 n aY N (by omega)) (p6 b (by omega) k a1)) (bm (g5 b) (aG (g6 b) (aG (CC (p6 b (by omega) N (by omega)) (p6 n aY k a1)) (aG a0 cg))))))))))
      by_cases bc:t.T n N / t.T n k<t.T b N / t.T b k
      ·rw[dw bc] at gc
       refine⟨(n:Int),dv (by simp only;omega) (bm g1 (aG g2 (bm (g3 n) (aG (g4 n) (aG sC (d8 bL (d8 (by simp only;omega) (lead (x:=none) gc (dv (by omega) ?_))))))))),.inr ⟨n,rfl,by omega,ah,fun i ad jG=> ?_⟩⟩
       ·simp only;rw[iC]
       ·by_cases c:i=n
        ·subst c;exact .inr ⟨rfl,dF _⟩
        ·rcases U i (by omega) jG with h|⟨h,-⟩
         ·left;grind
         ·left;rw[<- h];exact bc
      ·rw[dy bc] at gc
       by_cases cj:t.T b N / t.T b k<t.T n N / t.T n k
       ·rw[dw cj] at gc
        refine⟨(b:Int),dv (by simp only;omega) (bm g1 (aG g2 (bm (g3 n) (aG (g4 n) (aG sC (d8 bL (d8 (by simp only;omega) (lead (x:=none) gc (d8 (by omega) (h4 (by decide) ?_)))))))))),.inr ⟨b,rfl,by omega,kY,fun i ad jG=> ?_⟩⟩
        ·simp only;rw[iC]
        ·by_cases c:i=n
         ·subst c;exact .inl cj
         ·exact U i (by omega) jG
       ·rw[dy cj] at gc
        have OO:t.T b N / t.T b k=t.T n N / t.T n k:=(by grind);have XX:0<=((n:Nat):Int)/\((n:Nat):Int)<((cX m t).length:Nat):=(by unfold cX;rw[b2];omega);have XY:(cX m t)[((n:Nat):Int).toNat]? = some ((t.B n:Nat):Int):=(by rw[dx];exact fK aY);have XZ:0<=((b:Nat):Int)/\((b:Nat):Int)<((cX m t).length:Nat):=(by unfold cX;rw[b2];omega);have X0:(cX m t)[((b:Nat):Int).toNat]? = some ((t.B b:Nat):Int):=(by rw[dx];exact fK (by omega));by_cases jm:t.B n<t.B b
        ·refine⟨(n:Int),dv (by simp only;omega) (bm g1 (aG g2 (bm (g3 n) (aG (g4 n) (aG sC (d8 bL (d8 (by simp only;omega) (lead (x:=none) gc (d8 (by omega) (fY rfl (bm XX (aG XY (bm XZ (aG X0 (dv (by omega) ?_))))))))))))))),.inr ⟨n,rfl,by omega,ah,fun i ad jG=> ?_⟩⟩
         ·simp only;rw[iC]
         ·by_cases c:i=n
          ·subst c;exact .inr ⟨rfl,dF _⟩
          ·rcases U i (by omega) jG with h|⟨h,c3⟩
           ·left;grind
           ·right;exact⟨by grind,by omega⟩
        ·refine⟨(b:Int),dv (by simp only;omega) (bm g1 (aG g2 (bm (g3 n) (aG (g4 n) (aG sC (d8 bL (d8 (by simp only;omega) (lead (x:=none) gc (d8 (by omega) (fY rfl (bm XX (aG XY (bm XZ (aG X0 (d8 (by omega) ?_))))))))))))))),.inr ⟨b,rfl,by omega,kY,fun i ad jG=> ?_⟩⟩
         ·simp only;rw[iC]
         ·by_cases c:i=n
          ·subst c;exact .inr ⟨OO,by omega⟩
          ·exact U i (by omega) jG
    ·have bL:jQ (t.T n k)<=0:=by
      have : ¬0<jQ (t.T n k):=fun c=>ah (td.1 c);omega
     refine⟨s,dv (by simp only;omega) (bm g1 (aG g2 (bm (g3 n) (aG (g4 n) (aG sC (dv bL ?_)))))),?_⟩
     ·simp only;rw[iC]
     ·rcases c7 with ⟨h1,h2⟩|⟨b,h1,aP,kY,U⟩
      ·exact .inl ⟨h1,fun i ad=>if c:i=n then c▸ah else h2 i (by omega)⟩
      ·exact .inr ⟨b,h1,by omega,kY,fun i ad jG=>if c:i=n then (ah (c▸jG)).elim else U i (by omega) jG⟩)
  (fun s c7=>by
    refine⟨s,by unfold AJ;exact d8 (by simp only;omega) rfl,?_⟩;rcases c7 with ⟨h1,h2⟩|⟨b,h1,aP,kY,U⟩
    ·exact .inl ⟨h1,h2⟩
    ·refine .inr ⟨b,h1,aP,kY,fun i ad jG=> ?_,fun i ad jG he=> ?_⟩
     ·rw[<- (II kY jG).1]
      rcases U i ad jG with h|⟨h,-⟩
      ·exact Rat.le_of_lt h
      ·rw[h];exact Rat.le_refl
     ·rw[<- (II kY jG).2] at he
      rcases U i ad jG with h|⟨-,h⟩
      ·rw[he] at h;grind
      ·exact h) (-1:Int) (.inl ⟨rfl,fun i ad=>by omega⟩)
 refine⟨r,aG ?_ rfl,aj⟩;unfold P9;rw[fc,b2];exact e
def h7 (m N:Nat)(h:Nat->Nat):dS:=aE m fun i=>some (h i,N+1)
structure mD (m N M:Nat) (h:Nat->Nat) (w:Rat) (t:bZ) (eX:dT):Prop where
 len:eX.length=M
 row : ∀i,i<m->eX[h i]? = some (iA N w t i)
theorem H7 {α:Type}{l:List α}{i:Nat}{x y:α}(h:l[i]? = some x):(l.set i y)[i]? = some y:=by rw[List.getElem?_set,dw rfl,dw (List.getElem?_eq_some_iff.1 h).1]
theorem Mj {α:Type}{l:List α}{i k:Nat}{y:α}(h:i≠k):(l.set i y)[k]? = l[k]? := by rw[List.getElem?_set,dy h]
theorem set_set {α:Type}(l:List α)(i:Nat)(x y:α):(l.set i x).set i y=l.set i y:=by rw[List.set_set]
structure wt (m N:Nat) (w:Rat) (t:bZ) (r k:Nat):Prop where
 aj:r<m
 a1:k<N
 ah:t.T r k≠0
 DF : ∀i,i<m-> ∀j,j<=N->dW eL ((t.cv r k).T i j*(t.T r k*w))
theorem agp {m N:Nat}(fw:N<1000){h:Nat->Nat}{w:Rat}{t:bZ}{r k:Nat}(f:qp m N w t)(g:wt m N w t r k){i:Nat}(ad:i<m)(DE:i≠r)(dd:h i≠h r){eX:dT}(h1:eX[h i]? = some (iA N w t i))(h2:eX[h r]? = some (iA N w t r))
 (x1 x2:Int) (ao:Int) (q1:dS) (q2:ar) (bD:ans) (v1 v2:Int) :
 KI v1 v2 (some (h r,N+1)) (some (h i,N+1)) x1 x2 (((N+1:Nat):Nat):Int) (cb w).cR (cb w).cC ao q1 q2 bD (cb (t.T r k*w)).cR (cb (t.T r k*w)).cC (cb (t.T i k*w)).cR (cb (t.T i k*w)).cC 0 eX=some (eX.set (h i) (iA N (t.T r k*w) (t.cv r k) i)):=by
 have hw:=f.pos;have p6 : ∀i,i<m-> ∀j,j<=N->dW l0 (t.T i j*w):=fun i ad j av=>(f.hM i ad j av).mono (wq (by have:=tk;generalize eL=q at *;omega));have ak9:dW l0 w:=f.hw.mono (wq (dF _));have ala : ∀i,i<m-> ∀j,j<=N->dW l0 ((t.cv r k).T i j*(t.T r k*w)):=fun i ad j av=>(g.DF i ad j av).mono (wq (by have:=tk;generalize eL=q at *;omega));have Ap : ∀i,i<m-> ∀j,j<=N-> ∀ft,ft<m-> ∀jv,jv<=N->dW l0 (t.T i j*w*(t.T ft jv*w)):=fun i ad j av ft ml jv vg=>((f.hM i ad j av).mul (f.hM ft ml jv vg)).mono (by refine Nat.le_trans ?_ (Nat.le_trans (Nat.le_add_right _ _) F1);exact Nat.mul_le_mul (by generalize eL=q;omega) (by generalize eL=q;omega));have akv : ∀j,j<=N->dW l0 ((t.cv r k).T i j*(t.T r k*w)*w):=fun j av=>((g.DF i ad j av).mul f.hw).mono (by refine Nat.le_trans ?_ (Nat.le_trans (Nat.le_add_right _ _) F1);exact Nat.mul_le_mul (by generalize eL=q;omega) (dF _));have aj:=g.aj;have a1:=g.a1;have ah:=g.ah;have wO : ∀j,(t.cv r k).T i j=t.T i j-t.T i k*(t.T r j / t.T r k):=fun j=>by simp[bZ.cv,DE]
 have N0:w≠0:=by grind
 unfold KI
 obtain⟨s,e,-⟩:=hF (f:=fun q:Int×dT=>AK v1 v2 (some (h r,N+1)) (some (h i,N+1)) x1 x2 (((N+1:Nat):Nat):Int) (cb w).cR (cb w).cC ao q1 q2 bD (cb (t.T r k*w)).cR (cb (t.T r k*w)).cC (cb (t.T i k*w)).cR (cb (t.T i k*w)).cC q.1 q.2)
  (fun (c:Nat) (_:Unit)=>((c:Int),eX.set (h i) (aE (N+1) fun j=>if j<c then cb ((t.cv r k).T i j*(t.T r k*w)) else cb (t.T i j*w)))) (N+1) (fun _ _=>True)
  (fun _=>eX.set (h i) (iA N (t.T r k*w) (t.cv r k) i))
  (fun c aX _ _=>by
    refine⟨(),?_,trivial⟩
    have fin:(some (Sum.inl (J ((c:Int)+1),(eX.set (h i) (aE (N+1) fun j=>if j<c then cb ((t.cv r k).T i j*(t.T r k*w)) else cb (t.T i j*w))).set (h i) ((aE (N+1) fun j=>if j<c then cb ((t.cv r k).T i j*(t.T r k*w)) else cb (t.T i j*w)).set (0+((c:Int)).toNat) (cb ((t.cv r k).T i c*(t.T r k*w)))))):Option ((Int×dT)⊕dT)) =
     some (Sum.inl (((c+1:Nat):Int),eX.set (h i) (aE (N+1) fun j=>if j<c+1 then cb ((t.cv r k).T i j*(t.T r k*w)) else cb (t.T i j*w)))):=by
     rw[fa (by omega),dx,dG,set_set,kc];congr 4;refine ek fun j _=> ?_;by_cases bc:j=c
     ·subst bc;rw[dw rfl,dw (by omega)]
     ·rw[dy bc]
      by_cases cj:j<c
      ·rw[dw cj,dw (by omega)]
      ·rw[dy cj,dy (by omega)]
    have jg:wU (cb ((t.cv r k).T i c*(t.T r k*w)*w)) (cb w)=some (cb ((t.cv r k).T i c*(t.T r k*w))):=aeq (ala i ad c (by omega)) ak9 (akv c (by omega)) N0;unfold AK;refine dv (by simp only;omega) (aG (x:=(h i,N+1)) rfl (aG (x:=aE (N+1) fun j=>if j<c then cb ((t.cv r k).T i j*(t.T r k*w)) else cb (t.T i j*w)) (by simp only;exact H7 h1) (bm (by simp only;omega) (aG (x:=cb (t.T i c*w)) (by simp only;rw[dx,hx aX,dy (by omega)]) ?_))));refine aG (CC (p6 i ad c (by omega)) (p6 r aj k (by omega))) (aG (xf (p6 i ad k (by omega))) (qH (fun d=> ?_) (fun d=> ?_)))
    ·refine aG (x:=(h r,N+1)) rfl (aG (x:=iA N w t r) (by simp only;rw[Mj dd];exact h2) (bm (by simp only;omega) (aG (x:=cb (t.T r c*w)) (by simp only;rw[dx];exact hx aX) (aG (xf (p6 r aj c (by omega))) (qH (fun d2=> ?_) (fun d2=> ?_))))))
     ·refine aG (CC (p6 i ad k (by omega)) (p6 r aj c (by omega))) (aG (US (Ap i ad c (by omega) r aj k (by omega)) (Ap i ad k (by omega) r aj c (by omega))) (aG ?_ fin));rw[show t.T i c*w*(t.T r k*w)-t.T i k*w*(t.T r c*w)=(t.cv r k).T i c*(t.T r k*w)*w by rw[wO];grind];exact jg
     ·have cH:t.T r c=0:=(by have:=pz.1 (by simpa using d2);grind);refine aG ?_ fin;rw[show t.T i c*w*(t.T r k*w)=(t.cv r k).T i c*(t.T r k*w)*w by rw[wO,cH];grind];exact jg
    ·have cH:t.T i k=0:=(by have:=pz.1 (by simpa using d);grind);refine aG ?_ fin;rw[show t.T i c*w*(t.T r k*w)=(t.cv r k).T i c*(t.T r k*w)*w by rw[wO,cH];grind];exact jg)
  (fun _ _=>by unfold AK;refine d8 (by simp) ?_;simp only;congr 3;exact ek fun j av=>by rw[dw av]) () trivial
 have e0:eX.set (h i) (aE (N+1) fun j=>if j<0 then cb ((t.cv r k).T i j*(t.T r k*w)) else cb (t.T i j*w))=eX:=by
  have:(aE (N+1) fun j=>if j<0 then cb ((t.cv r k).T i j*(t.T r k*w)) else cb (t.T i j*w))=iA N w t i:=ek fun j _=>(by rw[dy (by omega)]);rw[this];apply List.ext_getElem?;intro c;rw[List.getElem?_set];split
  ·rename_i e;subst e;rw[dw (List.getElem?_eq_some_iff.1 h1).1,h1]
  ·rfl
 rw[e0] at e;exact e
theorem agq {m N:Nat}(fw:N<1000){h:Nat->Nat}{w:Rat}{t:bZ}(hM:∀i,i<m-> ∀j,j<=N->dW eL (t.T i j*w)){i:Nat}(ad:i<m){eX:dT}(h1:eX[h i]? = some (iA N w t i))
 (x1 x2:Int) (jw:Bool) (kO:ar) (ao:Int) (q1:dS) (q2:ar) (bD:ans) :
 KK (some (h i,N+1)) x1 x2 (((N+1:Nat):Nat):Int) jw kO ao q1 q2 bD 0 eX=some (eX.set (h i) (iA N (-w) t i)):=by
 have p6 : ∀j,j<=N->dW l0 (t.T i j*w):=fun j av=>(hM i ad j av).mono (wq (by have:=tk;generalize eL=q at *;omega));unfold KK
 obtain⟨s,e,-⟩:=hF (f:=fun q:Int×dT=>AM (some (h i,N+1)) x1 x2 (((N+1:Nat):Nat):Int) jw kO ao q1 q2 bD q.1 q.2)
  (fun (c:Nat) (_:Unit)=>((c:Int),eX.set (h i) (aE (N+1) fun j=>if j<c then cb (t.T i j * -w) else cb (t.T i j*w)))) (N+1) (fun _ _=>True)
  (fun _=>eX.set (h i) (iA N (-w) t i))
  (fun c aX _ _=>by
    refine⟨(),?_,trivial⟩;unfold AM;refine dv (by simp only;omega) (aG (x:=(h i,N+1)) rfl (aG (x:=aE (N+1) fun j=>if j<c then cb (t.T i j * -w) else cb (t.T i j*w)) (by simp only;exact H7 h1) (bm (by simp only;omega) (aG (x:=cb (t.T i c*w)) (by simp only;rw[dx,hx aX,dy (by omega)]) (aG (Tk (p6 c (by omega))) ?_)))));simp only;rw[fa (by omega),dx,dG,set_set,kc];congr 4;refine ek fun j _=> ?_;by_cases bc:j=c
    ·subst bc;rw[dw rfl,dw (by omega)];congr 1;grind
    ·rw[dy bc]
     by_cases cj:j<c
     ·rw[dw cj,dw (by omega)]
     ·rw[dy cj,dy (by omega)])
  (fun _ _=>by unfold AM;refine d8 (by simp) ?_;simp only;congr 3;exact ek fun j av=>by rw[dw av]) () trivial
 have e0:eX.set (h i) (aE (N+1) fun j=>if j<0 then cb (t.T i j * -w) else cb (t.T i j*w))=eX:=by
  have:(aE (N+1) fun j=>if j<0 then cb (t.T i j * -w) else cb (t.T i j*w))=iA N w t i:=ek fun j _=>(by rw[dy (by omega)]);rw[this];apply List.ext_getElem?;intro c;rw[List.getElem?_set];split
  ·rename_i e;subst e;rw[dw (List.getElem?_eq_some_iff.1 h1).1,h1]
  ·rfl
 rw[e0] at e;exact e
def q9 (w:Rat)(t:bZ)(r k:Nat):Rat:=if 0<t.T r k then t.T r k*w else -(t.T r k*w)
theorem Vw {m N M:Nat}(hm:m<=20)(fw:N<1000){h:Nat->Nat}(inj:∀i,i<m-> ∀k,k<m->h i=h k->i=k){w:Rat}{t:bZ}{r k:Nat}(f:qp m N w t)(g:wt m N w t r k){eX:dT}(gu:mD m N M h w t eX)(gl:Int)(free:ans):
 ∃kV,Bz r k (cb w).cR (cb w).cC gl (h7 m N h) eX (cX m t) free=some ((cb (q9 w t r k)).cR,(cb (q9 w t r k)).cC,kV,cX m (t.cv r k))/\mD m N M h (q9 w t r k) (t.cv r k) kV:=by
 have aj:=g.aj;have a1:=g.a1;have ah:=g.ah;have hw:=f.pos;have p6 : ∀i,i<m-> ∀j,j<=N->dW l0 (t.T i j*w):=fun i ad j av=>(f.hM i ad j av).mono (wq (by have:=tk;generalize eL=q at *;omega));have uM:iA N (t.T r k*w) (t.cv r k) r=iA N w t r:=ek fun j _=>by simp only[bZ.cv,if_true];congr 1;grind
 have DN:(h7 m N h).length=m:=b2 ..;unfold Bz
 obtain⟨p1,e1,lv,r1⟩:=hF (f:=fun q:Int×dT=>AL (r:Int) (k:Int) (some (h r,N+1)) ((m:Nat):Int) (cb w).cR (cb w).cC gl (h7 m N h) (cX m t) free (cb (t.T r k*w)).cR (cb (t.T r k*w)).cC q.1 q.2)
  (fun (i:Nat) (p:dT)=>((i:Int),p)) m (fun n p=>p.length=M/\ ∀i,i<m->p[h i]? = some (if i=r\/i<n then iA N (t.T r k*w) (t.cv r k) i else iA N w t i)) (fun p=>p)
  (fun n aY p c7=>by
    obtain⟨aZ,c7⟩:=c7;unfold AL;by_cases c:n=r
    ·subst c
     refine⟨p,dv (by simp only;omega) (bm (by rw[DN];simp only;omega) (aG (x:=some (h n,N+1)) (by simp only;rw[dx];exact hx aY) (fY (by simp) ?_))),aZ,fun i ad=> ?_⟩
     ·simp only;rw[fa (by omega)]
     ·rw[c7 i ad]
      by_cases bc:i=n\/i<n
      ·rw[dw bc,dw (by omega)]
      ·rw[dy bc,dy (by omega)]
    ·have dd:h n≠h r:=fun e=>c (inj n aY r aj e)
     have h1:p[h n]? = some (iA N w t n):=(by rw[c7 n aY,dy (by omega)]);have h2:p[h r]? = some (iA N w t r):=(by rw[c7 r aj,dw (.inl rfl),uM]);refine⟨p.set (h n) (iA N (t.T r k*w) (t.cv r k) n),dv (by simp only;omega) (bm (by rw[DN];simp only;omega) (aG (x:=some (h n,N+1)) (by simp only;rw[dx];exact hx aY) (h4 (by simp;omega) (aG (x:=(h n,N+1)) rfl (aG h1 (bm (by simp only;omega) (aG (x:=cb (t.T n k*w)) (by rw[dx];exact hx (by omega)) (aG (agp fw f g aY c dd h1 h2 _ _ _ _ _ _ _ _) ?_)))))))),by rw[List.length_set];exact aZ,fun i ad=> ?_⟩
     ·simp only;rw[fa (by omega)]
     ·by_cases bc:i=n
      ·subst bc;rw[H7 h1,dw (.inr (by omega))]
      ·rw[Mj (fun e=>bc (inj i ad n aY e.symm)),c7 i ad]
       by_cases cj:i=r\/i<n
       ·rw[dw cj,dw (by omega)]
       ·rw[dy cj,dy (by omega)])
  (fun p _=>by unfold AL;exact d8 (by simp) rfl) eX ⟨gu.len,fun i ad=>by
    rw[gu.row i ad];by_cases c:i=r
    ·rw[dw (.inl c),c,uM]
    ·rw[dy (by omega)]⟩
 have Ki : ∀i,i<m->p1[h i]? = some (iA N (t.T r k*w) (t.cv r k) i):=fun i ad=>by rw[r1 i ad,dw (.inr ad)]
 have ajb:(cX m t).set (0+((r:Int)).toNat) (k:Int)=cX m (t.cv r k):=by rw[dx,dG];unfold cX;rw[kc];exact ek fun i _=>by simp only[bZ.cv];split<;>rfl
 have lead :
  (if 0<=(r:Int)/\(r:Int)<((h7 m N h).length:Nat) then
    (h7 m N h)[(0+((r:Int)).toNat)]? >>= fun x2 =>
    x2 >>= fun iJ =>
    eX[iJ.1]? >>= fun o6 =>
    if 0<=(k:Int)/\(k:Int)<(iJ.2:Nat) then
    o6[(0+((k:Int)).toNat)]? >>= fun fm =>
    KJ (r:Int) (k:Int) x2 (((h7 m N h).length:Nat):Int) (cb w).cR (cb w).cC gl (h7 m N h) (cX m t) free fm.cR fm.cC 0 eX >>= fun b1 =>
    if 0<=(r:Int)/\(r:Int)<((cX m t).length:Nat) then
    if (0+((r:Int)).toNat)<(cX m t).length then
    rr fm >>= fun eu =>
    if (decide ((0:Int)<eu))=true then
     some (fm.cR,fm.cC,b1,(cX m t).set (0+((r:Int)).toNat) (k:Int))
    else
     rX fm >>= fun fO =>
     HI (((h7 m N h).length:Nat):Int) fO.cR fO.cC gl (h7 m N h) ((cX m t).set (0+((r:Int)).toNat) (k:Int)) free 0 b1 >>= fun ky =>
     some (fO.cR,fO.cC,ky,(cX m t).set (0+((r:Int)).toNat) (k:Int))
    else none else none else none else none)=(if (decide ((0:Int)<jQ (t.T r k)))=true then
     some ((cb (t.T r k*w)).cR,(cb (t.T r k*w)).cC,p1,cX m (t.cv r k))
    else
     rX (cb (t.T r k*w)) >>= fun fO =>
     HI ((m:Nat):Int) fO.cR fO.cC gl (h7 m N h) (cX m (t.cv r k)) free 0 p1 >>= fun ky =>
     some (fO.cR,fO.cC,ky,cX m (t.cv r k))):=by
  refine bm (by rw[DN];omega) (aG (x:=some (h r,N+1)) (by rw[dx];exact hx aj) (aG (x:=(h r,N+1)) rfl (aG (gu.row r aj) (bm (by simp only;omega) (aG (x:=cb (t.T r k*w)) (by rw[dx];exact hx (by omega)) (aG (x:=p1) (by unfold KJ;rw[DN];exact e1) (bm (by unfold cX;rw[b2];omega) (bm (by unfold cX;rw[b2,dx];omega) (aG (xf (p6 r aj k (by omega))) ?_)))))))));rw[CL hw,ajb,DN]
 by_cases lq:0<t.T r k
 ·have x7:q9 w t r k=t.T r k*w:=dw lq;refine⟨p1,lead.trans ?_,lv,fun i ad=>by rw[x7];exact Ki i ad⟩;rw[x7];exact dv (td.2 lq) rfl
 ·have x7:q9 w t r k = -(t.T r k*w):=dy lq
  obtain⟨p2,e2,lh,r2⟩:=hF (f:=fun q:Int×dT=>AN ((m:Nat):Int) (cb (-(t.T r k*w))).cR (cb (-(t.T r k*w))).cC gl (h7 m N h) (cX m (t.cv r k)) free q.1 q.2)
   (fun (i:Nat) (p:dT)=>((i:Int),p)) m (fun n p=>p.length=M/\ ∀i,i<m->p[h i]? = some (if i<n then iA N (-(t.T r k*w)) (t.cv r k) i else iA N (t.T r k*w) (t.cv r k) i)) (fun p=>p)
   (fun n aY p c7=>by
     obtain⟨aZ,c7⟩:=c7;have h1:p[h n]? = some (iA N (t.T r k*w) (t.cv r k) n):=(by rw[c7 n aY,dy (by omega)]);unfold AN;refine⟨p.set (h n) (iA N (-(t.T r k*w)) (t.cv r k) n),dv (by simp only;omega) (bm (by rw[DN];simp only;omega) (aG (x:=some (h n,N+1)) (by simp only;rw[dx];exact hx aY) (aG (x:=(h n,N+1)) rfl (aG h1 (aG (agq fw g.DF aY h1 _ _ _ _ _ _ _ _) ?_))))),by rw[List.length_set];exact aZ,fun i ad=> ?_⟩
     ·simp only;rw[fa (by omega)]
     ·by_cases bc:i=n
      ·subst bc;rw[H7 h1,dw (by omega)]
      ·rw[Mj (fun e=>bc (inj i ad n aY e.symm)),c7 i ad]
       by_cases cj:i<n
       ·rw[dw cj,dw (by omega)]
       ·rw[dy cj,dy (by omega)])
   (fun p _=>by unfold AN;exact d8 (by simp) rfl) p1 ⟨lv,fun i ad=>by rw[Ki i ad,dy (by omega)]⟩
  refine⟨p2,lead.trans ?_,lh,fun i ad=>by rw[x7,r2 i ad,dw ad]⟩;rw[x7];exact d8 (fun c=>lq (td.1 c)) (aG (Tk (p6 r aj k (by omega))) (aG (x:=p2) (by unfold HI;exact e2) rfl))
theorem S3 {m:Nat}(hm:m<=1000)(t:bZ)(j:Nat): ∃b,Cq (cX m t) (j:Int)=some b/\(b=true↔ ∃i,i<m/\t.B i=j):=by
 unfold Cq I1 TH
 obtain⟨r,e,h⟩:=tb (f:=fun w:Int=>B6 (cX m t) (j:Int) ((m:Nat):Int) w) (fun (i:Nat) (_:Unit)=>(i:Int)) m (fun i _=> ∀k,k<i->t.B k≠j)
  (fun r=>(∃i:Nat,r = .inr (i:Int)/\i<m/\t.B i=j)\/(r = .inl ()/\ ¬∃i,i<m/\t.B i=j))
  (fun i ad _ c7=>by
    unfold B6;by_cases c:t.B i=j
    ·right;exact⟨_,dv (by omega) (bm (by unfold cX;rw[b2];omega) (aG (x:=((t.B i:Nat):Int)) (by rw[dx];exact fK ad) (fY (by simp[c]) rfl))),.inl ⟨i,rfl,ad,c⟩⟩
    ·left
     refine⟨(),dv (by omega) (bm (by unfold cX;rw[b2];omega) (aG (x:=((t.B i:Nat):Int)) (by rw[dx];exact fK ad) (h4 (by simp;omega) (by rw[fa (by omega)])))),fun k a1=> ?_⟩;by_cases e:k=i
     ·rw[e];exact c
     ·exact c7 k (by omega))
  (fun _ c7=>⟨_,by unfold B6;exact d8 (by omega) rfl,.inr ⟨rfl,fun ⟨i,ad,e⟩=>c7 i ad e⟩⟩) () (fun k a1=>by omega)
 rw[gZ,show (cX m t).length=m from b2 ..];rcases h with ⟨i,rfl,h1,h2⟩|⟨rfl,h⟩
 ·exact⟨true,aG (x:=(i:Int)) (aG e rfl) (by simp),by simp only[true_iff];exact⟨i,h1,h2⟩⟩
 ·exact⟨false,aG (x:=(-1:Int)) (aG e rfl) rfl,by simp[h]⟩
theorem Fx {m N M:Nat}{h:Nat->Nat}{w:Rat}{t:bZ}{eX:dT}(gu:mD m N M h w t eX):(h7 m N h).all (uy eX)=true:=by
 rw[List.all_eq_true];intro x aa;obtain⟨i,ad,rfl⟩:=Vk.1 aa;simp only[uy];have h1:=gu.row i ad;have h2:eX.getD (h i) []=iA N w t i:=by rw[List.getD_eq_getElem?_getD,h1];rfl
 rw[h2,show (iA N w t i).length=N+1 from b2 ..];simp[(List.getElem?_eq_some_iff.1 h1).1]
theorem y2 {m N M:Nat}{h:Nat->Nat}{w:Rat}{t:bZ}{eX:dT}(gu:mD m N M h w t eX):(h7 m N h).map (j4 eX)=aE m (iA N w t):=by unfold h7;rw[Vl];exact ek fun i ad=>by have h2:eX.getD (h i) []=iA N w t i:=(by rw[List.getD_eq_getElem?_getD,gu.row i ad];rfl);simp only[j4];rw[h2];exact List.take_of_length_le (Nat.le_of_eq (b2 ..))
theorem X1 {m:Nat}{o:Nat->Rat}{t:bZ}{j:Nat}:t.rp m 1 (fun _=>o) j↔0<t.cy m o j:=JM (g:=fun _=>t.cy m o j)
theorem aes {eZ m N M:Nat}{A:Nat->Nat->Rat}(hm:m<=20)(fw:N<1000){h:Nat->Nat}(inj:∀i,i<m-> ∀k,k<m->h i=h k->i=k){w:Rat}{t:bZ}(ok:hi eZ m N A t)(f:qp m N w t)(o:Nat->Int)(an:∀j,j<N-> -100<=o j/\o j<=100)(dq:Nat->Bool)
 (alb : ∀r s,ph m N 1 (fun _ j=>(o j:Rat)) (fun j=>dq j=true) t r s->wt m N w t r s) {eX:dT} (gu:mD m N M h w t eX) :
 ∃x,DV (N:Int) (cb w).cR (cb w).cC (h7 m N h) eX (cX m t) (aE N dq) (aE N o) 0=some x /\
  ((x = .inl (false,(cb w).cR,(cb w).cC,eX,cX m t)/\ ∀j,j<N->dq j=true-> ¬0<t.cy m (fun j=>(o j:Rat)) j) \/
   (∃r s kV,x = .inl (true,(cb (q9 w t r s)).cR,(cb (q9 w t r s)).cC,kV,cX m (t.cv r s))/\ph m N 1 (fun _ j=>(o j:Rat)) (fun j=>dq j=true) t r s/\mD m N M h (q9 w t r s) (t.cv r s) kV) \/
   (x = .inr ()/\ ∃s,s<N/\dq s=true/\0<t.cy m (fun j=>(o j:Rat)) s/\ ∀i,i<m-> ¬0<t.T i s)):=by
 unfold DV
 refine tb (f:=fun q:Int=>AD (N:Int) (cb w).cR (cb w).cC (h7 m N h) eX (cX m t) (aE N dq) (aE N o) q) (fun (i:Nat) (_:Unit)=>(i:Int)) N
  (fun n _=> ∀j,j<n->dq j=true-> ¬0<t.cy m (fun j=>(o j:Rat)) j) _ (fun n aY _ c7=> ?_) (fun _ c7=> ?_) () (fun j av=>by omega)
 ·have next : ∀(hO:dq n=true-> ¬0<t.cy m (fun j=>(o j:Rat)) n),∀j,j<n+1->dq j=true-> ¬0<t.cy m (fun j=>(o j:Rat)) j:=fun hO j av=>by
   by_cases c:j=n
   ·subst c;exact hO
   ·exact c7 j (by omega)
  have g1:0<=((n:Nat):Int)/\((n:Nat):Int)<((aE N dq).length:Nat):=(by rw[b2];omega);have g2:(aE N dq)[(0+((n:Nat):Int).toNat)]? = some (dq n):=(by rw[dx];exact hx aY);have iC:J ((n:Int)+1)=((n+1:Nat):Int):=fa (by omega);unfold AD;by_cases sV:dq n=true
  ·obtain⟨b,jw,kO⟩:=S3 (m:=m) (by omega) t n
   cases b with
   | true =>
    obtain⟨i,ad,fX⟩:=kO.1 rfl;left;refine⟨(),dv (by omega) (bm g1 (aG g2 (fY sV (aG jw (fY rfl (by rw[iC])))))),next fun _=> ?_⟩
    rw[<- fX,ok.yK _ ad];grind
   | false =>
    have dn:=Vv hm fw f o an ((⟨(cb w).cR,(cb w).cC⟩:bE)) rfl (N:Int) (aE N dq) aY;by_cases vx:0<t.cy m (fun j=>(o j:Rat)) n
    ·obtain⟨q,q1,q2⟩:=aer hm fw f ((⟨(cb w).cR,(cb w).cC⟩:bE)) (aE N dq) (k:=n) (by omega)
     have bL : ¬jQ (t.cy m (fun j=>(o j:Rat)) n)<=0:=(by have:=td.2 vx;omega);right;rcases q2 with ⟨rfl,h2⟩|⟨b,rfl,aP,kY,U,ai⟩
     ·exact⟨_,dv (by omega) (bm g1 (aG g2 (fY sV (aG jw (h4 rfl (bm (Fx gu) (aG (by rw[y2 gu];exact dn) (d8 bL (aG (by rw[y2 gu];exact q1) (dv (by decide) rfl)))))))))),.inr (.inr ⟨rfl,n,aY,sV,vx,h2⟩)⟩
     ·have da:ph m N 1 (fun _ j=>(o j:Rat)) (fun j=>dq j=true) t b n:=⟨aY,sV,X1.2 vx,fun j av cg dn=>c7 j av cg (X1.1 dn),aP,kY,U,ai⟩;obtain⟨kV,e1,e2⟩:=Vw hm fw inj f (alb b n da) gu (N:Int) (aE N dq);exact⟨_,dv (by omega) (bm g1 (aG g2 (fY sV (aG jw (h4 rfl (bm (Fx gu) (aG (by rw[y2 gu];exact dn) (d8 bL (aG (by rw[y2 gu];exact q1) (d8 (by omega) (aG e1 rfl))))))))))),.inr (.inl ⟨b,n,kV,rfl,da,e2⟩)⟩
    ·left;have bL:jQ (t.cy m (fun j=>(o j:Rat)) n)<=0:=(by have : ¬0<jQ (t.cy m (fun j=>(o j:Rat)) n):=fun c=>vx (td.1 c);omega);exact⟨(),dv (by omega) (bm g1 (aG g2 (fY sV (aG jw (h4 rfl (bm (Fx gu) (aG (by rw[y2 gu];exact dn) (dv bL (by rw[iC]))))))))),next fun _=>vx⟩
  ·left;have Kn:dq n=false:=(by simpa using sV);exact⟨(),dv (by omega) (bm g1 (aG g2 (h4 Kn (by rw[iC])))),next fun c=>(sV c).elim⟩
 ·exact⟨_,by unfold AD;exact d8 (by omega) rfl,.inl ⟨rfl,c7⟩⟩
def xD (N:Int)(tw:dS)(free:ans)(obj:ar)(s:Bool×ar×dT×ar):Option ((Bool×ar×dT×ar)⊕((Bool×ar×dT×ar)⊕(Bool×ar×dT×ar))) :=
 match DV N s.1 s.2.1 tw s.2.2.1 s.2.2.2 free obj 0 with
 | none=>none
 | some (.inl (true,b5))=>some (.inl b5)
 | some (.inl (false,b5))=>some (.inr (.inl b5))
 | some (.inr ())=>some (.inr (.inr s))
theorem agr {N:Int}{tw:dS}{free:ans}{obj:ar}: ∀s r,iter (xD N tw free obj) s=some r->KE N tw free obj true s.1 s.2.1 s.2.2.1 s.2.2.2=some r:=by
 unfold KE;apply iter.partial_correctness (xD N tw free obj) (fun s r=>iter (fun w:Bool×Bool×ar×dT×ar=>x8 N tw free obj w.1 w.2.1 w.2.2.1 w.2.2.2.1 w.2.2.2.2) (true,s.1,s.2.1,s.2.2.1,s.2.2.2)=some r);intro it ih s r aj
 cases aa:DV N s.1 s.2.1 tw s.2.2.1 s.2.2.2 free obj 0 with
 | none=>unfold xD at aj;rw[aa] at aj;simp at aj
 | some x =>
  have hm:x8 N tw free obj true s.1 s.2.1 s.2.2.1 s.2.2.2=match x with
   | .inl fx=>(some (.inl (fx.1,fx.2.1,fx.2.2.1,fx.2.2.2.1,fx.2.2.2.2)))
   | .inr fx=>(some (.inr (.inr (s.1,s.2.1,s.2.2.1,s.2.2.2)))):=by
   unfold x8;refine fY rfl ?_
   cases x with
   | inl a=>exact aG aa rfl
   | inr a=>exact aG aa rfl
  unfold xD at aj;rw[aa] at aj;rw[iter];simp only;rw[hm]
  match x,aj with
  | .inl (true,b5),aj=>exact ih _ _ aj
  | .inl (false,b5),aj =>
   simp at aj;subst aj;show iter _ (false,b5.1,b5.2.1,b5.2.2.1,b5.2.2.2)=_;rw[iter];simp only;unfold x8;rfl
  | .inr (),aj =>
   simp at aj;subst aj;rfl
theorem ags {eZ m N M:Nat}{A:Nat->Nat->Rat}(hm:m<=20)(fw:N<1000){h:Nat->Nat}{w:Rat}{t:bZ}(ok:hi eZ m N A t)(f:qp m N w t)(o:Nat->Int)(an:∀j,j<N-> -100<=o j/\o j<=100)(dq:Nat->Bool){eX:dT}(gu:mD m N M h w t eX):
 KF (N:Int) (cb w).cR (cb w).cC (h7 m N h) eX (cX m t) (aE N o) 0 (aE N dq)=some (aE N fun j=>dq j && !decide (t.cy m (fun j=>(o j:Rat)) j<0)):=by
 unfold KF
 obtain⟨s,e,-⟩:=hF (f:=fun q:Int×ans=>AE (N:Int) (cb w).cR (cb w).cC (h7 m N h) eX (cX m t) (aE N o) q.1 q.2)
  (fun (i:Nat) (_:Unit)=>((i:Int),aE N fun j=>if j<i then dq j && !decide (t.cy m (fun j=>(o j:Rat)) j<0) else dq j)) N (fun _ _=>True) (fun _=>aE N fun j=>dq j && !decide (t.cy m (fun j=>(o j:Rat)) j<0))
  (fun n aY _ _=>by
    refine⟨(),?_,trivial⟩
    have same:dq n=(dq n && !decide (t.cy m (fun j=>(o j:Rat)) n<0))->(J ((n:Int)+1),aE N fun j=>if j<n then dq j && !decide (t.cy m (fun j=>(o j:Rat)) j<0) else dq j)=(((n+1:Nat):Int),aE N fun j=>if j<n+1 then dq j && !decide (t.cy m (fun j=>(o j:Rat)) j<0) else dq j):=fun he=>by
     rw[fa (by omega)];congr 1;refine ek fun j _=> ?_;by_cases c:j=n
     ·subst c;rw[dy (by omega),dw (by omega)];exact he
     ·by_cases cj:j<n
      ·rw[dw cj,dw (by omega)]
      ·rw[dy cj,dy (by omega)]
    have g1 : ∀F:Nat->Bool,0<=((n:Nat):Int)/\((n:Nat):Int)<((aE N F).length:Nat):=fun F=>(by rw[b2];omega);have g2:(aE N fun j=>if j<n then dq j && !decide (t.cy m (fun j=>(o j:Rat)) j<0) else dq j)[(0+((n:Nat):Int).toNat)]? = some (dq n):=(by rw[dx,hx aY,dy (by omega)]);unfold AE;by_cases sV:dq n=true
    ·obtain⟨b,jw,kO⟩:=S3 (m:=m) (by omega) t n
     cases b with
     | true =>
      obtain⟨i,ad,fX⟩:=kO.1 rfl;refine dv (by simp only;omega) (bm (g1 _) (aG g2 (fY sV (aG jw (fY rfl ?_)))));simp only;rw[same];rw[<- fX,ok.yK _ ad,decide_eq_false (by grind)];simp
     | false =>
      have dn:=Vv hm fw f o an ((⟨(cb w).cR,(cb w).cC⟩:bE)) rfl (N:Int) (aE N fun j=>if j<n then dq j && !decide (t.cy m (fun j=>(o j:Rat)) j<0) else dq j) aY
      have bL:jQ (t.cy m (fun j=>(o j:Rat)) n)<0↔t.cy m (fun j=>(o j:Rat)) n<0:=by
       unfold jQ;by_cases c:t.cy m (fun j=>(o j:Rat)) n=0
       ·rw[dw c,c];constructor
        ·intro h;omega
        ·intro h;grind
       ·rw[dy c]
        by_cases cj:t.cy m (fun j=>(o j:Rat)) n<0
        ·rw[dw cj];simp[cj]
        ·rw[dy cj];constructor
         ·intro h;omega
         ·intro h;exact(cj h).elim
      by_cases vx:t.cy m (fun j=>(o j:Rat)) n<0
      ·refine dv (by simp only;omega) (bm (g1 _) (aG g2 (fY sV (aG jw (h4 rfl (bm (Fx gu) (aG (by rw[y2 gu];exact dn) (dv (bL.2 vx) (bm (by rw[b2,dx];omega) ?_)))))))))
       simp only;rw[fa (by omega),dx,dG,kc];congr 3;refine ek fun j _=> ?_;by_cases c:j=n
       ·subst c;rw[dw rfl,dw (by omega),decide_eq_true vx];simp
       ·rw[dy c]
        by_cases cj:j<n
        ·rw[dw cj,dw (by omega)]
        ·rw[dy cj,dy (by omega)]
      ·refine dv (by simp only;omega) (bm (g1 _) (aG g2 (fY sV (aG jw (h4 rfl (bm (Fx gu) (aG (by rw[y2 gu];exact dn) (d8 (fun c=>vx (bL.1 c)) ?_))))))));simp only;rw[same];rw[decide_eq_false vx];simp
    ·have Kn:dq n=false:=(by simpa using sV);refine dv (by simp only;omega) (bm (g1 _) (aG g2 (h4 Kn ?_)));simp only;rw[same];rw[Kn];simp)
  (fun _ _=>by unfold AE;refine d8 (by simp) ?_;simp only;congr 2;exact ek fun j av=>by rw[dw av]) () trivial
 have e0:(aE N fun j=>if j<0 then dq j && !decide (t.cy m (fun j=>(o j:Rat)) j<0) else dq j)=aE N dq:=ek fun j _=>by rw[dy (by omega)]
 rw[e0] at e;exact e
theorem Tl {eZ m N M:Nat}{A:Nat->Nat->Rat}(hm:m<=20)(fw:N<1000){h:Nat->Nat}(inj:∀i,i<m-> ∀k,k<m->h i=h k->i=k)(o:Nat->Int)(an:∀j,j<N-> -100<=o j/\o j<=100)(dq:Nat->Bool)
 (Inv:Rat->bZ->Prop) (inv : ∀w t,Inv w t->hi eZ m N A t/\t.mQ m N/\qp m N w t)
 (ik : ∀w t r s,Inv w t->ph m N 1 (fun _ j=>(o j:Rat)) (fun j=>dq j=true) t r s->wt m N w t r s/\Inv (q9 w t r s) (t.cv r s)) {w:Rat} {t:bZ} (c7:Inv w t) {eX:dT} (gu:mD m N M h w t eX) :
 ∃b bY cN kV mF,vy (cb w).cR (cb w).cC (N:Int) (h7 m N h) eX (cX m t) (aE N dq) (aE N o)=some (b,(cb bY).cR,(cb bY).cC,kV,cX m cN,aE N mF)/\Inv bY cN/\mD m N M h bY cN kV /\
  ((b=true/\(∀j,j<N->dq j=true-> ¬0<cN.cy m (fun j=>(o j:Rat)) j)/\mF=fun j=>dq j && !decide (cN.cy m (fun j=>(o j:Rat)) j<0))\/(b=false/\ ∃s,s<N/\dq s=true/\0<cN.cy m (fun j=>(o j:Rat)) s/\ ∀i,i<m-> ¬0<cN.T i s)):=by
 obtain⟨ok,lx,Hf⟩:=inv w t c7
 obtain⟨x,eh,cN,e,-,-,-,bY,kV,h1,h2,U⟩:=TF (eZ:=eZ) (m:=m) (N:=N) (K:=1) (A:=A) (obj:=fun _ j=>(o j:Rat)) (bO:=fun j=>dq j=true)
  (f:=xD (N:Int) (h7 m N h) (aE N dq) (aE N o))
  (fun s t=> ∃w eX,s=((cb w).cR,(cb w).cC,eX,cX m t)/\Inv w t/\mD m N M h w t eX)
  (fun s x t=> ∃w eX,Inv w t/\mD m N M h w t eX/\((x = .inl ((cb w).cR,(cb w).cC,eX,cX m t)/\ ∀j,j<N->dq j=true-> ¬0<t.cy m (fun j=>(o j:Rat)) j) \/
    (x = .inr ((cb w).cR,(cb w).cC,eX,cX m t)/\ ∃s,s<N/\dq s=true/\0<t.cy m (fun j=>(o j:Rat)) s/\ ∀i,i<m-> ¬0<t.T i s)))
  (fun s t du ok _=>by
    obtain⟨w,eX,rfl,c7,gu⟩:=du;obtain⟨x,e,aa⟩:=aes hm fw inj ok (inv w t c7).2.2 o an dq (fun r s b=>(ik w t r s c7 b).1) gu;rcases aa with ⟨rfl,aa⟩|⟨r,s,kV,rfl,da,Hd⟩|⟨rfl,aa⟩
    ·left;exact⟨_,by unfold xD;simp only;rw[e],w,eX,c7,gu,.inl ⟨rfl,aa⟩⟩
    ·right;exact⟨_,r,s,by unfold xD;simp only;rw[e],da,q9 w t r s,kV,rfl,(ik w t r s c7 da).2,Hd⟩
    ·left;exact⟨_,by unfold xD;simp only;rw[e],w,eX,c7,gu,.inr ⟨rfl,aa⟩⟩)
  (a:=((cb w).cR,(cb w).cC,eX,cX m t)) (t:=t) ⟨w,eX,rfl,c7,gu⟩ ok lx
 have e2:=agr _ _ e;obtain⟨mi,am4,akw⟩:=inv bY cN h1;rcases U with ⟨rfl,U⟩|⟨rfl,U⟩
 ·refine⟨true,bY,cN,kV,_,?_,h1,h2,.inl ⟨rfl,U,rfl⟩⟩;unfold vy;exact aG e2 (aG (ags hm fw mi akw o an dq h2) rfl)
 ·refine⟨false,bY,cN,kV,dq,?_,h1,h2,.inr ⟨rfl,U⟩⟩;unfold vy;exact aG e2 rfl
def iK (m:Nat)(A:Nat->Nat->Rat)(t:bZ):Rat:=if 0<t.D m A then t.D m A else -(t.D m A)
theorem ahK {m N:Nat}{A:Nat->Nat->Rat}{t:bZ}(h:t.D m A≠0):0<iK m A t:=by unfold iK;split<;>grind
theorem Ju {m K:Nat}{A:Nat->Nat->Rat}{t:bZ}{x:Rat}(h:dW K (x*t.D m A)):dW K (x*iK m A t):=by
 unfold iK;split
 ·exact h
 ·have:=h.neg;rw[show x * -(t.D m A) = -(x*t.D m A) by grind];exact this
theorem mh.tt {m N:Nat}{A:Nat->Nat->Rat}(s:Small m N A){t:bZ}(h:mh m N A t):qp m N (iK m A t) t where
 pos:=ahK (N:=N) h.sU
 hw:=by have h1:dW eL (1*t.D m A):=(by rw[Rat.one_mul];exact h.z8 s);have:=Ju h1;rw[Rat.one_mul] at this;exact this.mono (by generalize eL=q;omega)
 hM:=fun i ad j av=>Ju (h.vq s ad av)
 fX:=h.ok.jO
theorem mh.zE {m N:Nat}{A:Nat->Nat->Rat}(s:Small m N A){t:bZ}(h:mh m N A t){r k:Nat}(aj:r<m)(a1:k<N)(ah:t.T r k≠0):wt m N (iK m A t) t r k where
 aj:=aj
 a1:=a1
 ah:=ah
 DF:=fun i ad j av=>by
  have mi:=h.ok.cv aj a1 ah
  have h1:dW eL ((t.cv r k).T i j*(t.cv r k).D m A):=by
   rw[<- mi.x3 ad av];refine dW.mono (xg fun eG oU c aX=> ?_) (C2▸yT (by omega) s.hm);simp only[hG];split
   ·exact s.qI c aX j av
   ·exact s.qI c aX _ (Nat.le_of_lt (mi.jO eG oU))
  rw[h.ok.zm aj a1] at h1;unfold iK;split
  ·exact h1
  ·have:=h1.neg;rw[show (t.cv r k).T i j*(t.T r k * -(t.D m A)) = -((t.cv r k).T i j*(t.T r k*t.D m A)) by grind];exact this
theorem Nm {m N:Nat}{A:Nat->Nat->Rat}{t:bZ}(h:hi m m N A t)(bH:t.D m A≠0){r k:Nat}(aj:r<m)(a1:k<N)(ah:t.T r k≠0):q9 (iK m A t) t r k=iK m A (t.cv r k):=by
 have e:=h.zm aj a1;unfold q9 iK;rw[e];by_cases bc:0<t.T r k<;>by_cases cj:0<t.D m A
 ·rw[dw bc,dw cj,dw (Rat.mul_pos bc cj)]
 ·have:=Rat.mul_pos bc (show 0 < -(t.D m A) by grind);rw[dw bc,dy cj,dy (by grind)];grind
 ·have:=Rat.mul_pos (show 0 < -(t.T r k) by grind) cj;rw[dy bc,dw cj,dy (by grind)]
 ·have:=Rat.mul_pos (show 0 < -(t.T r k) by grind) (show 0 < -(t.D m A) by grind);rw[dy bc,dy cj,dw (by grind)];grind
def iu (h:Nat->Nat)(t:bZ):bZ:=⟨fun i j=>t.T (h i) j,fun i=>t.B (h i)⟩
theorem Fp {h:Nat->Nat}{t:bZ}{r k i:Nat}(hc:h i=h r->i=r):(∀j,((iu h t).cv r k).T i j=(iu h (t.cv (h r) k)).T i j)/\((iu h t).cv r k).B i=(iu h (t.cv (h r) k)).B i:=by
 simp only[bZ.cv,iu];by_cases c:i=r
 ·subst c;simp
 ·have:h i≠h r:=fun e=>c (hc e);simp[c,this]
theorem TO {α:Type}{m i:Nat}(ad:i<m)(f:Nat->α):(aE m f).take (i-0)++((aE m f).drop (0+(i+1))).take (m-(i+1))=aE (m-1) (skip i f):=by
 apply List.ext_getElem?;intro j;rw[Nat.sub_zero,dG];have aZ:((aE m f).take i).length=i:=by rw[List.length_take,b2];omega
 by_cases c:j<i
 ·rw[List.getElem?_append_left (by omega),List.getElem?_take,dw c,fK (by omega),fK (by omega)];simp only[skip];rw[dw c]
 ·rw[List.getElem?_append_right (by omega),aZ,List.getElem?_take,List.getElem?_drop]
  by_cases cj:j<m-1
  ·rw[dw (by omega),fK (by omega),fK cj];simp only[skip];rw[dy c];congr 2;omega
  ·rw[dy (by omega)]
   symm
   rw[List.getElem?_eq_none_iff,b2];omega
theorem adP {m N M n:Nat}(fw:N<1000)(aY:n<=N){h:Nat->Nat}{w:Rat}{t:bZ}(f:qp m N w t){eX:dT}(gu:mD m N M h w t eX){i:Nat}(ad:i<m)(jw:Bool)(kO:ar)(ao:Int)(q2:ar)(bD:ans):
 ∃k:Nat,KL (n:Int) (i:Int) jw kO ao (h7 m N h) eX q2 bD 0=some (k:Int)/\k<=n/\(k<n->t.T i k≠0)/\ ∀j,j<k->t.T i j=0:=by
 unfold KL
 obtain⟨r,e,k,rfl,h1,h2,U⟩:=tb (f:=fun q:Int=>AO (n:Int) (i:Int) jw kO ao (h7 m N h) eX q2 bD q) (fun (c:Nat) (_:Unit)=>(c:Int)) n (fun c _=> ∀j,j<c->t.T i j=0)
  (fun r=> ∃k:Nat,r=(k:Int)/\k<=n/\(k<n->t.T i k≠0)/\ ∀j,j<k->t.T i j=0)
  (fun c aX _ c7=>by
    have hw:=f.pos;have bL:=xf ((f.hM i ad c (by omega)).mono (wq (by have:=tk;generalize eL=q at *;omega)));unfold AO;by_cases Kt:t.T i c=0
    ·left
     refine⟨(),dv (by omega) (bm (by unfold h7;rw[b2];omega) (aG (x:=some (h i,N+1)) (by rw[dx];exact hx ad) (aG (x:=(h i,N+1)) rfl (aG (gu.row i ad) (bm (by simp only;omega) (aG (x:=cb (t.T i c*w)) (by rw[dx];exact hx (by omega)) (aG bL (fY (by rw[CL hw,pz.2 Kt];rfl) (by rw[fa (by omega)]))))))))),fun j av=> ?_⟩;by_cases e:j=c
     ·rw[e];exact Kt
     ·exact c7 j (by omega)
    ·right;exact⟨_,dv (by omega) (bm (by unfold h7;rw[b2];omega) (aG (x:=some (h i,N+1)) (by rw[dx];exact hx ad) (aG (x:=(h i,N+1)) rfl (aG (gu.row i ad) (bm (by simp only;omega) (aG (x:=cb (t.T i c*w)) (by rw[dx];exact hx (by omega)) (aG bL (h4 (by rw[CL hw];exact xL (fun c=>Kt (pz.1 c))) rfl)))))))),c,rfl,by omega,fun _=>Kt,c7⟩)
  (fun _ c7=>⟨_,by unfold AO;exact d8 (by omega) rfl,n,rfl,dF _,fun c=>by omega,c7⟩) () (fun j av=>by omega)
 exact⟨k,e,h1,h2,U⟩
structure nI (m n N:Nat) (A:Nat->Nat->Rat) (t:bZ) (aJ:Nat) (h:Nat->Nat):Prop where
 inv:mh m N A t
 z : ∀i,i<m->n<=t.B i->t.T i N=0
 le:aJ<=m
 lt : ∀i,i<aJ->h i<m
 inj : ∀i,i<aJ-> ∀k,k<aJ->h i=h k->i=k
 dead : ∀d,d<m->(∀i,i<aJ->h i≠d)->n<=t.B d/\ ∀j,j<n->t.T d j=0
theorem nI.tt {m n N aJ:Nat}{A:Nat->Nat->Rat}{t:bZ}{h:Nat->Nat}(s:Small m N A)(a:nI m n N A t aJ h):qp aJ N (iK m A t) (iu h t) :=
 have f:=a.inv.tt s
 ⟨f.pos,f.hw,fun i ad j av=>f.hM (h i) (a.lt i ad) j av,fun i ad=>f.fX (h i) (a.lt i ad)⟩
theorem nI.zE {m n N aJ:Nat}{A:Nat->Nat->Rat}{t:bZ}{h:Nat->Nat}(s:Small m N A)(a:nI m n N A t aJ h){r k:Nat}(aj:r<aJ)(a1:k<N)(ah:t.T (h r) k≠0):wt aJ N (iK m A t) (iu h t) r k :=
 have f:=a.inv.zE s (a.lt r aj) a1 ah
 ⟨aj,a1,ah,fun i ad j av=>by rw[(Fp (t:=t) (k:=k) (a.inj i ad r aj)).1 j];exact f.DF (h i) (a.lt i ad) j av⟩
theorem nI.cv {m n N aJ:Nat}{A:Nat->Nat->Rat}{t:bZ}{h:Nat->Nat}(OQ:n<=N)(a:nI m n N A t aJ h){r k:Nat}(aj:r<aJ)(a1:k<n)(aP:n<=t.B (h r))(ah:t.T (h r) k≠0):nI m n N A (t.cv (h r) k) aJ h:=by
 have cH:=a.z (h r) (a.lt r aj) aP
 have dt : ∀i,(t.cv (h r) k).T i N=t.T i N:=fun i=>by
  simp only[bZ.cv];split
  ·rename_i e;rw[e,cH];grind
  ·rw[cH];grind
 refine⟨⟨a.inv.ok.cv (a.lt r aj) (by omega) ah,fun i ad=>by rw[dt];exact a.inv.lx i ad,?_⟩,fun i ad fX=> ?_,a.le,a.lt,a.inj,fun d bH hO=> ?_⟩
 ·rw[a.inv.ok.zm (a.lt r aj) (by omega)];have:=a.inv.sU;grind
 ·rw[dt]
  simp only[bZ.cv] at fX;by_cases c:i=h r
  ·rw[dw c] at fX;omega
  ·rw[dy c] at fX;exact a.z i ad fX
 ·obtain⟨h1,h2⟩:=a.dead d bH hO;have dd:d≠h r:=fun e=>hO r aj e.symm;simp only[bZ.cv,dy dd];refine⟨h1,fun j av=> ?_⟩;rw[h2 j av,h2 k a1];grind
theorem afl {m n N:Nat}{A:Nat->Nat->Rat}(s:Small m N A)(fw:N<1000)(OQ:n<=N)(free:ans){t:bZ}(cq:mh m N A t)(cH:∀i,i<m->n<=t.B i->t.T i N=0){eX:dT}(gu:mD m N m (fun i=>i) (iK m A t) t eX):
 ∃cN aJ h kV,D6 (n:Int) (cb (iK m A t)).cR (cb (iK m A t)).cC (N:Int) (h7 m N fun i=>i) eX (cX m t) free=some ((cb (iK m A cN)).cR,(cb (iK m A cN)).cC,h7 aJ N h,kV,cX aJ (iu h cN)) /\
  nI m n N A cN aJ h/\(∀i,i<aJ->cN.B (h i)<n)/\mD aJ N m h (iK m A cN) (iu h cN) kV:=by
 have hm:=s.hm;unfold D6 Qb
 obtain⟨x,e,cN,aJ,h,kV,rfl,h1,h2,U⟩:=ks (f:=fun w:Int×Bool×ar×dS×dT×ar=>DT (n:Int) (N:Int) free w.1 w.2.1 w.2.2.1 w.2.2.2.1 w.2.2.2.2.1 w.2.2.2.2.2)
  (fun w=> ∃(i aJ:Nat) (h:Nat->Nat) (t:bZ) (p:dT),w=((i:Int),(cb (iK m A t)).cR,(cb (iK m A t)).cC,h7 aJ N h,p,cX aJ (iu h t))/\i<=aJ/\nI m n N A t aJ h/\(∀q,q<i->t.B (h q)<n)/\mD aJ N m h (iK m A t) (iu h t) p)
  (fun w=>w.2.2.2.1.length-w.1.toNat)
  (fun x=> ∃cN aJ h kV,x=((cb (iK m A cN)).cR,(cb (iK m A cN)).cC,h7 aJ N h,kV,cX aJ (iu h cN))/\nI m n N A cN aJ h/\(∀i,i<aJ->cN.B (h i)<n)/\mD aJ N m h (iK m A cN) (iu h cN) kV)
  (fun w hw=>by
    obtain⟨i,aJ,h,t,p,rfl,ad,bF,a0,ah⟩:=hw;have ls:=bF.le;have wJ:(h7 aJ N h).length=aJ:=b2 ..;have OR:(cX aJ (iu h t)).length=aJ:=b2 ..;simp only;unfold DT;by_cases c:i<aJ
    ·left
     have g1:0<=(i:Int)/\(i:Int)<((cX aJ (iu h t)).length:Nat):=(by rw[OR];omega);have g2:(cX aJ (iu h t))[(0+((i:Int)).toNat)]? = some ((t.B (h i):Nat):Int):=(by rw[dx];exact hx c);by_cases Hs:t.B (h i)<n
     ·refine⟨(((i+1:Nat):Int),(cb (iK m A t)).cR,(cb (iK m A t)).cC,h7 aJ N h,p,cX aJ (iu h t)),dv (by rw[wJ];omega) (bm g1 (aG g2 (dv (by omega) (by rw[fa (by omega)])))),⟨i+1,aJ,h,t,p,rfl,by omega,bF,fun q pp=> ?_,ah⟩,by simp only[wJ];omega⟩
      by_cases e:q=i
      ·rw[e];exact Hs
      ·exact a0 q (by omega)
     ·obtain⟨k,lO,kA,o5,O7⟩:=adP fw OQ (bF.tt s) ah c (cb (iK m A t)).cR (cb (iK m A t)).cC (N:Int) (cX aJ (iu h t)) free
      by_cases O9:k<n
      ·have OS:t.T (h i) k≠0:=o5 O9
       obtain⟨lL,e1,e2⟩:=Vw (by omega) fw bF.inj (bF.tt s) (bF.zE s c (by omega) OS) ah (N:Int) free;have x7:q9 (iK m A t) (iu h t) i k=iK m A (t.cv (h i) k):=Nm bF.inv.ok bF.inv.sU (bF.lt i c) (by omega) OS;have alc:cX aJ ((iu h t).cv i k)=cX aJ (iu h (t.cv (h i) k)):=ek fun q pp=>(by have:=(Fp (t:=t) (k:=k) (bF.inj q pp i c)).2;rw[this]);rw[x7,alc] at e1;rw[x7] at e2;refine⟨(((i+1:Nat):Int),(cb (iK m A (t.cv (h i) k))).cR,(cb (iK m A (t.cv (h i) k))).cC,h7 aJ N h,lL,cX aJ (iu h (t.cv (h i) k))),dv (by rw[wJ];omega) (bm g1 (aG g2 (d8 (by omega) (aG lO (dv (by omega) (aG e1 (by rw[fa (by omega)]))))))),⟨i+1,aJ,h,t.cv (h i) k,lL,rfl,by omega,bF.cv OQ c O9 (by omega) OS,fun q pp=> ?_,e2.len,fun q pp=> ?_⟩,by simp only[wJ];omega⟩
       ·simp only[bZ.cv]
        split
        ·exact O9
        ·rename_i dd;have:q≠i:=fun e=>dd (by rw[e]);exact a0 q (by omega)
       ·rw[e2.row q pp];congr 1;exact ek fun j _=>by rw[(Fp (t:=t) (k:=k) (bF.inj q pp i c)).1 j]
      ·have OP:k=n:=by omega
       have wI:J ((i:Int)+1)=((i+1:Nat):Int):=fa (by omega);have Kg:(((h7 aJ N h).drop (0+(i+1))).take (aJ-(i+1))).length=aJ-(i+1):=(by rw[List.length_take,List.length_drop,wJ];omega);have GS:(((cX aJ (iu h t)).drop (0+(i+1))).take (aJ-(i+1))).length=aJ-(i+1):=(by rw[List.length_take,List.length_drop,OR];omega);have bJ:(h7 aJ N h).take (i-0)++((h7 aJ N h).drop (0+(i+1))).take (aJ-(i+1))=h7 (aJ-1) N (skip i h):=TO c _;have gr:(cX aJ (iu h t)).take (i-0)++((cX aJ (iu h t)).drop (0+(i+1))).take (aJ-(i+1))=cX (aJ-1) (iu (skip i h) t):=TO c _;refine⟨((i:Int),(cb (iK m A t)).cR,(cb (iK m A t)).cC,h7 (aJ-1) N (skip i h),p,cX (aJ-1) (iu (skip i h) t)),dv (by rw[wJ];omega) (bm g1 (aG g2 (d8 (by omega) (aG lO (d8 (by omega) ?_))))),⟨i,aJ-1,skip i h,t,p,rfl,by omega,⟨bF.inv,bF.z,by omega,fun q pp=> ?_,fun q pp q2 Db e=> ?_,fun d bH hO=> ?_⟩,fun q pp=> ?_,ah.len,fun q pp=> ?_⟩,?_⟩
       ·rw[wI,dx,dx,wJ,OR,Kg,GS,bJ,gr];exact bm (by omega) (bm (by omega) (bm (by omega) (bm (by omega) (bm (by omega) (bm (by omega) (bm (by omega) (bm (by omega) (bm (by omega) (bm (by omega) (bm (by omega) (bm (by omega) rfl)))))))))))
       ·simp only[skip];split<;>exact bF.lt _ (by omega)
       ·simp only[skip] at e;have:=bF.inj _ (by split<;>omega) _ (by split<;>omega) e;split at this<;>split at this<;>omega
       ·by_cases Yw:d=h i
        ·rw[Yw];exact⟨by omega,fun j av=>O7 j (by omega)⟩
        ·refine bF.dead d bH fun q pp=> ?_
         by_cases bc:q<i
         ·have:=hO q (by omega);simp only[skip] at this;rw[dw bc] at this;exact this
         ·by_cases cj:q=i
          ·rw[cj];exact fun e=>Yw e.symm
          ·have:=hO (q-1) (by omega);simp only[skip] at this;rw[dy (by omega),show q-1+1=q by omega] at this;exact this
       ·simp only[skip];rw[dw pp];exact a0 q pp
       ·simp only[skip]
        by_cases bc:q<i
        ·rw[dw bc,ah.row q (by omega)];congr 1;exact ek fun j _=>by simp only[iu,skip];rw[dw bc]
        ·rw[dy bc,ah.row (q+1) (by omega)];congr 1;exact ek fun j _=>by simp only[iu,skip];rw[dy bc]
       ·simp only[wJ,show (h7 (aJ-1) N (skip i h)).length=aJ-1 from b2 ..];omega
    ·right;have akx:i=aJ:=(by omega);subst akx;exact⟨_,d8 (by rw[wJ];omega) rfl,t,i,h,p,rfl,bF,a0,ah⟩)
  ((0:Int),(cb (iK m A t)).cR,(cb (iK m A t)).cC,h7 m N (fun i=>i),eX,cX m t)
  ⟨0,m,fun i=>i,t,eX,rfl,by omega,⟨cq,cH,dF _,fun i ad=>ad,fun i _ k _ e=>e,fun d bH hO=>(hO d bH rfl).elim⟩,fun q a0=>by omega,gu.len,gu.row⟩
 exact⟨cN,aJ,h,kV,aG e rfl,h1,h2,U⟩
theorem Vx:(⟨false,([]:ar)⟩:bE)=cb 0:=by show _=ho (0:Rat).num;rw[show (0:Rat).num=0 from rfl];unfold ho;rw[show L ((0:Int).natAbs:Int)=[] from wb.2 (by simp)];rfl
theorem MY {α:Type}(l:List α)(x:α):(l++[x])[l.length]? = some x:=by simp
theorem CM {α:Type}(l:List α)(x y:α):(l++[x]).set l.length y=l++[y]:=by simp
theorem Vy {p:jz}{m n:Nat}{a:Nat->Nat->Int}{b:Nat->Int}(h:ms p m n a b){i:Nat}(ad:i<m):yp i p.f7 p.eM p.bR p.bS p.hl=some (i*n,n):=by
 have hm:=h.hm;have aY:=h.aY;have h1:i*n<=20*40:=Nat.mul_le_mul (by omega) aY;have h2:(i+1)*n<=20*40:=Nat.mul_le_mul (by omega) aY;have U:(i+1)*n<=m*n:=dL _ ad;have e1:J ((i:Int)*p.eM)=((i*n:Nat):Int):=by rw[h.gl,<- Int.natCast_mul,cu (by omega) (by omega)]
 have e2:J (J ((i:Int)+1)*p.eM)=(((i+1)*n:Nat):Int):=by rw[h.gl,fa (by omega),<- Int.natCast_mul,cu (by omega) (by omega)]
 have ai:(i+1)*n=i*n+n:=Nat.succ_mul i n;unfold yp;rw[e1,e2,dx,dx,h.hE];refine bm (by omega) (bm (by omega) (bm ⟨by omega,U⟩ ?_));rw[show 0+i*n=i*n by omega,show (i+1)*n-i*n=n by omega]
theorem ado {p:jz}{m n:Nat}{a:Nat->Nat->Int}{b:Nat->Int}(h:ms p m n a b){i:Nat}(ad:i<m)(aP:b i<0)(x0:Int)(e3:Bool)(ec:ar)(q2:dS)(ct:ar)(dU:ans)(P:dT):
 Lw x0 (i:Int) P.length (n+m+1) p.f7 (i*n) n ((n:Nat):Int) p.eM p.bR p.bS p.hl e3 ec q2 ct dU 0 (P++[aE (n+m+1) fun _=>cb 0])=some (P++[aE (n+m+1) fun j=>if j<n then cb (dj m n a b i j) else cb 0]):=by
 have hm:=h.hm;have aY:=h.aY;have bL:lf (b i) = -1:=by unfold lf;rw[dw aP]
 unfold Lw
 obtain⟨s1,e1,-⟩:=hF (f:=fun w:Int×dT=>BA x0 (i:Int) P.length (n+m+1) p.f7 (i*n) n ((n:Nat):Int) p.eM p.bR p.bS p.hl e3 ec q2 ct dU w.1 w.2)
  (fun (k:Nat) (_:Unit)=>((k:Int),P++[aE (n+m+1) fun j=>if j<k then cb (dj m n a b i j) else cb 0])) n (fun _ _=>True) (fun _=>P++[aE (n+m+1) fun j=>if j<n then cb (dj m n a b i j) else cb 0])
  (fun k a1 _ _=>by
    refine⟨(),?_,trivial⟩;have bF:=h.ll i ad k a1;have e:J ((-1:Int)*a i k)=lP m n a b i k:=(by rw[cu (by omega) (by omega)];unfold lP;rw[dw a1,bL]);unfold BA;refine dv (by simp only;omega) (bm (by simp only;omega) (aG (x:=a i k) (by simp only;rw[dx];exact h.Gp i ad k a1) (aG (x:=cb (dj m n a b i k)) (by rw[e];exact vN (by have:=wh h ad k;rw[ln];omega)) (aG (MY _ _) (bm (by simp only;omega) (aG (by simp only;rw[dx];exact hx (by omega)) ?_))))));simp only;rw[fa (by omega),dx,dG,kc,CM];congr 5;refine ek fun j _=> ?_;by_cases bc:j=k
    ·subst bc;rw[dw rfl,dw (by omega)]
    ·rw[dy bc]
     by_cases cj:j<k
     ·rw[dw cj,dw (by omega)]
     ·rw[dy cj,dy (by omega)])
  (fun _ _=>by unfold BA;exact d8 (by simp) rfl) () trivial
 have e0:(aE (n+m+1) fun j=>if j<0 then cb (dj m n a b i j) else cb 0)=aE (n+m+1) fun _=>cb 0:=ek fun j _=>by rw[dy (by omega)]
 rw[e0] at e1;exact e1
theorem adp {p:jz}{m n:Nat}{a:Nat->Nat->Int}{b:Nat->Int}(h:ms p m n a b){i:Nat}(ad:i<m)(aP:¬b i<0)(x0:Int)(e3:Bool)(ec:ar)(q2:dS)(ct:ar)(dU:ans)(P:dT):
 Lx x0 (i:Int) P.length (n+m+1) p.f7 (i*n) n ((n:Nat):Int) p.eM p.bR p.bS p.hl e3 ec q2 ct dU 0 (P++[aE (n+m+1) fun _=>cb 0])=some (P++[aE (n+m+1) fun j=>if j<n then cb (dj m n a b i j) else cb 0]):=by
 have hm:=h.hm;have aY:=h.aY;have bL:lf (b i)=1:=by unfold lf;rw[dy aP]
 unfold Lx
 obtain⟨s1,e1,-⟩:=hF (f:=fun w:Int×dT=>BB x0 (i:Int) P.length (n+m+1) p.f7 (i*n) n ((n:Nat):Int) p.eM p.bR p.bS p.hl e3 ec q2 ct dU w.1 w.2)
  (fun (k:Nat) (_:Unit)=>((k:Int),P++[aE (n+m+1) fun j=>if j<k then cb (dj m n a b i j) else cb 0])) n (fun _ _=>True) (fun _=>P++[aE (n+m+1) fun j=>if j<n then cb (dj m n a b i j) else cb 0])
  (fun k a1 _ _=>by
    refine⟨(),?_,trivial⟩;have bF:=h.ll i ad k a1;have e:J ((1:Int)*a i k)=lP m n a b i k:=(by rw[cu (by omega) (by omega)];unfold lP;rw[dw a1,bL]);unfold BB;refine dv (by simp only;omega) (bm (by simp only;omega) (aG (x:=a i k) (by simp only;rw[dx];exact h.Gp i ad k a1) (aG (x:=cb (dj m n a b i k)) (by rw[e];exact vN (by have:=wh h ad k;rw[ln];omega)) (aG (MY _ _) (bm (by simp only;omega) (aG (by simp only;rw[dx];exact hx (by omega)) ?_))))));simp only;rw[fa (by omega),dx,dG,kc,CM];congr 5;refine ek fun j _=> ?_;by_cases bc:j=k
    ·subst bc;rw[dw rfl,dw (by omega)]
    ·rw[dy bc]
     by_cases cj:j<k
     ·rw[dw cj,dw (by omega)]
     ·rw[dy cj,dy (by omega)])
  (fun _ _=>by unfold BB;exact d8 (by simp) rfl) () trivial
 have e0:(aE (n+m+1) fun j=>if j<0 then cb (dj m n a b i j) else cb 0)=aE (n+m+1) fun _=>cb 0:=ek fun j _=>by rw[dy (by omega)]
 rw[e0] at e1;exact e1
theorem pe {α:Type}(n:Nat)(x:α):List.replicate n x=aE n fun _=>x:=by
 apply List.ext_getElem?;intro i;by_cases c:i<n
 ·rw[fK c];simp[c]
 ·rw[List.getElem?_eq_none_iff.2 (by simp;omega),List.getElem?_eq_none_iff.2 (by rw[b2];omega)]
theorem S4 {p:jz}{m n:Nat}{a:Nat->Nat->Int}{b:Nat->Int}(h:ms p m n a b)(e3:Bool)(ec:ar)(dU:ans):
 Ly ((n+m:Nat):Int) p.f7 p.eM p.bR p.bS p.hl e3 ec dU 0 ([]:dS) ([]:dT) ([]:ar)=some (h7 m (n+m) (fun i=>i),aE m (fun i=>aE (n+m+1) fun j=>cb (dj m n a b i j)),cX m (jX m n a b)):=by
 have hm:=h.hm;have aY:=h.aY;unfold Ly
 obtain⟨s,e,-⟩:=hF (f:=fun w:Int×dS×dT×ar=>BC ((n+m:Nat):Int) p.f7 p.eM p.bR p.bS p.hl e3 ec dU w.1 w.2.1 w.2.2.1 w.2.2.2)
  (fun (i:Nat) (_:Unit)=>((i:Int),aE i (fun k=>(some (k,n+m+1):bU)),aE i (fun i=>aE (n+m+1) fun j=>cb (dj m n a b i j)),aE i (fun k=>((n+k:Nat):Int)))) m (fun _ _=>True)
  (fun _=>(h7 m (n+m) (fun i=>i),aE m (fun i=>aE (n+m+1) fun j=>cb (dj m n a b i j)),cX m (jX m n a b)))
  (fun i ad _ _=>by
    refine⟨(),?_,trivial⟩;have aP:=h.lR i ad;have iC:J (((n+m:Nat):Int)+1)=((n+m+1:Nat):Int):=fa (by omega);have hw:J (p.eM+(i:Int))=((n+i:Nat):Int):=(by rw[h.gl,<- Int.natCast_add,cu (by omega) (by omega)]);have X2:(aE i (fun i=>aE (n+m+1) fun j=>cb (dj m n a b i j))).length=i:=b2 ..;have sN:lP m n a b i (n+m)=lf (b i)*b i:=by unfold lP;rw[dy (by omega),dw rfl]
    have ep:((aE (n+m+1) fun j=>if j<n then cb (dj m n a b i j) else cb 0).set (n+i) (cb ((1:Int):Rat))).set (n+m) (cb (dj m n a b i (n+m)))=aE (n+m+1) fun j=>cb (dj m n a b i j):=by
     rw[kc,kc];refine ek fun j av=> ?_;by_cases bc:j=n+m
     ·rw[dw bc,bc]
     ·rw[dy bc]
      by_cases cj:j=n+i
      ·rw[dw cj,cj,vU ad,dw rfl];rfl
      ·rw[dy cj]
       by_cases jm:j<n
       ·rw[dw jm]
       ·rw[dy jm];obtain⟨k,rfl⟩ : ∃k,j=n+k:=⟨j-n,by omega⟩;rw[vU (by omega),dy (by omega)]
    unfold BC;rw[iC,hw,dx];refine dv (by simp only;rw[h.rows];omega) (bm (by omega) (bm (by simp only;rw[h.Am];omega) (aG (x:=b i) (by simp only[dx,dG];exact h.JK i ad) ?_)))
    have fin:(some (Sum.inl (J ((i:Int)+1),(aE i (fun k=>(some (k,n+m+1):bU)))++[some (i,n+m+1)],(aE i (fun i=>aE (n+m+1) fun j=>cb (dj m n a b i j)))++[aE (n+m+1) fun j=>cb (dj m n a b i j)],(aE i fun k=>((n+k:Nat):Int))++[((n+i:Nat):Int)])):Option ((Int×dS×dT×ar)⊕(dS×dT×ar))) =
     some (Sum.inl (((i+1:Nat):Int),aE (i+1) (fun k=>(some (k,n+m+1):bU)),aE (i+1) (fun i=>aE (n+m+1) fun j=>cb (dj m n a b i j)),aE (i+1) (fun k=>((n+k:Nat):Int)))):=by
     rw[fa (by omega),k1 i (fun k=>(some (k,n+m+1):bU)),k1 i (fun i=>aE (n+m+1) fun j=>cb (dj m n a b i j)),k1 i (fun k=>((n+k:Nat):Int))]
    have aa : ∀(P:dT) (F:dQ->Option ((Int×dS×dT×ar)⊕(dS×dT×ar))) (x:dQ) r,F x=r->(P++[x])[P.length]? >>= F=r:=fun P F x r sQ=>aG (MY P x) sQ;refine qH (fun c=> ?_) (fun c=> ?_)
    ·have pk:b i<0:=of_decide_eq_true c;have bL:lf (b i) = -1:=(by unfold lf;rw[dw pk]);refine aG (Vy h ad) (aG (by rw[Vx,pe];exact ado h ad pk _ _ _ _ _ _ _) (aG (vN (n:=1) (by rw[ln];omega)) (aa _ _ _ _ ?_)));refine bm (by omega) (aG (x:=cb 0) (by rw[dx,hx (by omega),dy (by omega)]) (aG (x:=cb (dj m n a b i (n+m))) (by have e:J ((-1:Int)*b i)=lP m n a b i (n+m):=(by rw[sN,bL,cu (by omega) (by omega)]);rw[e];exact vN (by have:=wh h ad (n+m);rw[ln];omega)) ?_));rw[CM,dx,dG,dx,dG];refine aa _ _ _ _ (bm (by omega) ?_);obtain⟨v,bf⟩ : ∃v,((aE (n+m+1) fun j=>if j<n then cb (dj m n a b i j) else cb 0).set (n+i) (cb ((1:Int):Rat)))[n+m]? = some v:=(by rw[kc,fK (by omega)];exact⟨_,rfl⟩);refine aG bf (bm (by simp only[dE,b2,List.length_cons,List.length_nil];omega) (bm (by simp only[dE,b2,List.length_cons,List.length_nil];omega) ?_));rw[CM];simp only[dx,dG];rw[ep,X2];exact fin
    ·have pk : ¬b i<0:=of_decide_eq_false c;have bL:lf (b i)=1:=(by unfold lf;rw[dy pk]);refine aG (Vy h ad) (aG (by rw[Vx,pe];exact adp h ad pk _ _ _ _ _ _ _) (aG (vN (n:=1) (by rw[ln];omega)) (aa _ _ _ _ ?_)));refine bm (by omega) (aG (x:=cb 0) (by rw[dx,hx (by omega),dy (by omega)]) (aG (x:=cb (dj m n a b i (n+m))) (by have e:J ((1:Int)*b i)=lP m n a b i (n+m):=(by rw[sN,bL,cu (by omega) (by omega)]);rw[e];exact vN (by have:=wh h ad (n+m);rw[ln];omega)) ?_));rw[CM,dx,dG,dx,dG];refine aa _ _ _ _ (bm (by omega) ?_);obtain⟨v,bf⟩ : ∃v,((aE (n+m+1) fun j=>if j<n then cb (dj m n a b i j) else cb 0).set (n+i) (cb ((1:Int):Rat)))[n+m]? = some v:=(by rw[kc,fK (by omega)];exact⟨_,rfl⟩);refine aG bf (bm (by simp only[dE,b2,List.length_cons,List.length_nil];omega) (bm (by simp only[dE,b2,List.length_cons,List.length_nil];omega) ?_));rw[CM];simp only[dx,dG];rw[ep,X2];exact fin)
  (fun _ _=>by unfold BC;exact d8 (by simp only;rw[h.rows];omega) rfl) () trivial
 exact e
def sW (n j:Nat):Int:=if n<=j then -1 else 0
theorem Wa {m n j:Nat}(av:j<n+m):((sW n j:Int):Rat)=gE m n j:=by
 unfold sW gE;by_cases c:n<=j
 ·rw[dw c,dw ⟨c,av⟩];rfl
 ·rw[dy c,dy (by omega)];rfl
theorem Vz {m n:Nat}{t:bZ}(fX:∀i,i<m->t.B i<n+m){j:Nat}(av:j<n+m):t.cy m (fun j=>((sW n j:Int):Rat)) j=t.cy m (gE m n) j:=by unfold bZ.cy;simp only;rw[Wa av,gm (g:=fun i=>gE m n (t.B i)*t.T i j) fun i ad=>by rw[Wa (fX i ad)]]
theorem Tm {p:jz}{m n:Nat}{a:Nat->Nat->Int}{b:Nat->Int}(h:ms p m n a b)(x0:Int)(e3:Bool)(ec:ar)(q2:dS)(bD:dT)(ct:ar):
 Lz x0 ((n+m:Nat):Int) p.f7 p.eM p.bR p.bS p.hl e3 ec q2 bD ct 0 (aE (n+m) fun _=>(0:Int)) (aE (n+m) fun _=>false)=some (aE (n+m) (sW n),aE (n+m) fun j=>decide (j<n)):=by
 have hm:=h.hm;have aY:=h.aY;unfold Lz
 obtain⟨s,e,-⟩:=hF (f:=fun w:Int×ar×ans=>BD x0 ((n+m:Nat):Int) p.f7 p.eM p.bR p.bS p.hl e3 ec q2 bD ct w.1 w.2.1 w.2.2)
  (fun (k:Nat) (_:Unit)=>((k:Int),(aE (n+m) fun j=>if j<k then sW n j else 0),aE (n+m) fun j=>if j<k then decide (j<n) else false)) (n+m) (fun _ _=>True) (fun _=>(aE (n+m) (sW n),aE (n+m) fun j=>decide (j<n)))
  (fun k a1 _ _=>by
    refine⟨(),?_,trivial⟩
    have e2:(aE (n+m) fun j=>if j<k then decide (j<n) else false).set (0+((k:Int)).toNat) (decide (k<n))=aE (n+m) fun j=>if j<k+1 then decide (j<n) else false:=by
     rw[dx,dG,kc];refine ek fun j _=> ?_;by_cases c:j=k
     ·subst c;rw[dw rfl,dw (by omega)]
     ·rw[dy c]
      by_cases cj:j<k
      ·rw[dw cj,dw (by omega)]
      ·rw[dy cj,dy (by omega)]
    have Ht:decide ((k:Int)<p.eM)=decide (k<n):=(by rw[h.gl];simp);unfold BD;simp only;rw[Ht,e2,fa (by omega)];refine dv (by omega) (bm (by rw[b2];omega) (bm (by rw[b2,dx];omega) ?_));by_cases c:n<=k
    ·refine dv (by rw[h.gl];omega) (bm (by rw[b2];omega) (bm (by rw[b2,dx];omega) ?_))
     rw[dx,dG,kc];congr 4;refine ek fun j _=> ?_;by_cases bc:j=k
     ·subst bc;rw[dw rfl,dw (by omega)];unfold sW;rw[dw c]
     ·rw[dy bc]
      by_cases cj:j<k
      ·rw[dw cj,dw (by omega)]
      ·rw[dy cj,dy (by omega)]
    ·refine d8 (by rw[h.gl];omega) ?_
     congr 4;refine ek fun j _=> ?_;by_cases bc:j=k
     ·subst bc;rw[dy (by omega),dw (by omega)];unfold sW;rw[dy c]
     ·by_cases cj:j<k
      ·rw[dw cj,dw (by omega)]
      ·rw[dy cj,dy (by omega)])
  (fun _ _=>by
    unfold BD;refine d8 (by simp) ?_;simp only;congr 3
    ·exact ek fun j av=>by rw[dw av]
    ·exact ek fun j av=>by rw[dw av]) () trivial
 have lz:(aE (n+m) fun j=>if j<0 then sW n j else 0)=aE (n+m) fun _=>(0:Int):=ek fun j _=>by rw[dy (by omega)]
 have uK:(aE (n+m) fun j=>if j<0 then decide (j<n) else false)=aE (n+m) fun _=>false:=ek fun j _=>by rw[dy (by omega)]
 rw[lz,uK] at e;exact e
theorem adq {p:jz}{m n:Nat}{a:Nat->Nat->Int}{b:Nat->Int}(h:ms p m n a b){w:Rat}{t:bZ}(f:qp m (n+m) w t){eX:dT}(gu:mD m (n+m) m (fun i=>i) w t eX)(e3:Bool)(ec:ar)(x0:Int)(q:ans):
 ∃r,LA ((n+m:Nat):Int) ((m:Nat):Int) p.f7 p.eM p.bR p.bS p.hl e3 ec x0 (cX m t) (h7 m (n+m) fun i=>i) eX q 0=some r/\((r = .inr ()/\ ∃i,i<m/\n<=t.B i/\0<t.T i (n+m))\/(r = .inl ()/\ ∀i,i<m->n<=t.B i-> ¬0<t.T i (n+m))):=by
 have hm:=h.hm;have aY:=h.aY;have hw:=f.pos;unfold LA
 exact tb (f:=fun w:Int=>BE ((n+m:Nat):Int) ((m:Nat):Int) p.f7 p.eM p.bR p.bS p.hl e3 ec x0 (cX m t) (h7 m (n+m) fun i=>i) eX q w) (fun (i:Nat) (_:Unit)=>(i:Int)) m (fun k _=> ∀i,i<k->n<=t.B i-> ¬0<t.T i (n+m)) _
  (fun i ad _ c7=>by
    have bL:=xf ((f.hM i ad (n+m) (dF _)).mono (wq (by have:=tk;generalize eL=q at *;omega)));have g1:0<=(i:Int)/\(i:Int)<((cX m t).length:Nat):=(by unfold cX;rw[b2];omega);have g2:(cX m t)[(0+((i:Int)).toNat)]? = some ((t.B i:Nat):Int):=(by rw[dx];exact hx ad);have g3:0<=(i:Int)/\(i:Int)<((h7 m (n+m) fun i=>i).length:Nat):=(by unfold h7;rw[b2];omega);have g4:(h7 m (n+m) fun i=>i)[(0+((i:Int)).toNat)]? = some (some (i,n+m+1)):=(by rw[dx];exact hx ad);unfold BE;by_cases Hs:n<=t.B i
    ·by_cases lZ:0<t.T i (n+m)
     ·right;exact⟨_,dv (by omega) (bm g1 (aG g2 (dv (by rw[h.gl];omega) (bm g3 (aG g4 (aG (x:=(i,n+m+1)) rfl (aG (gu.row i ad) (bm (by simp only;omega) (aG (x:=cb (t.T i (n+m)*w)) (by rw[dx];exact hx (by omega)) (aG bL (dv (by rw[CL hw];exact td.2 lZ) rfl))))))))))),.inl ⟨rfl,i,ad,Hs,lZ⟩⟩
     ·left
      refine⟨(),dv (by omega) (bm g1 (aG g2 (dv (by rw[h.gl];omega) (bm g3 (aG g4 (aG (x:=(i,n+m+1)) rfl (aG (gu.row i ad) (bm (by simp only;omega) (aG (x:=cb (t.T i (n+m)*w)) (by rw[dx];exact hx (by omega)) (aG bL (d8 (by rw[CL hw];exact fun c=>lZ (td.1 c)) (by rw[fa (by omega)])))))))))))),fun k a1=> ?_⟩;by_cases e:k=i
      ·rw[e];exact fun _=>lZ
      ·exact c7 k (by omega)
    ·left
     refine⟨(),dv (by omega) (bm g1 (aG g2 (d8 (by rw[h.gl];omega) (by rw[fa (by omega)])))),fun k a1=> ?_⟩;by_cases e:k=i
     ·rw[e];exact fun c=>(Hs c).elim
     ·exact c7 k (by omega))
  (fun _ c7=>⟨_,by unfold BE;exact d8 (by omega) rfl,.inr ⟨rfl,c7⟩⟩) () (fun k a1=>by omega)
theorem adr {p:jz}{m n:Nat}{a:Nat->Nat->Int}{b:Nat->Int}(h:ms p m n a b)(F:Nat->Bool)(e3:Bool)(ec:ar)(x0:Int)(q2:dS)(bD:dT)(ct:ar):
 LB ((n+m:Nat):Int) p.f7 p.eM p.bR p.bS p.hl e3 ec x0 q2 bD ct 0 (aE (n+m) F)=some (aE (n+m) fun j=>decide (j<n)):=by
 have hm:=h.hm;have aY:=h.aY;unfold LB
 obtain⟨s,e,-⟩:=hF (f:=fun w:Int×ans=>BF ((n+m:Nat):Int) p.f7 p.eM p.bR p.bS p.hl e3 ec x0 q2 bD ct w.1 w.2)
  (fun (k:Nat) (_:Unit)=>((k:Int),aE (n+m) fun j=>if j<k then decide (j<n) else F j)) (n+m) (fun _ _=>True) (fun _=>aE (n+m) fun j=>decide (j<n))
  (fun k a1 _ _=>by
    refine⟨(),?_,trivial⟩;have Ht:decide ((k:Int)<p.eM)=decide (k<n):=(by rw[h.gl];simp);unfold BF;simp only;rw[Ht,fa (by omega)];refine dv (by omega) (bm (by rw[b2];omega) (bm (by rw[b2,dx];omega) ?_));rw[dx,dG,kc];congr 3;refine ek fun j _=> ?_;by_cases c:j=k
    ·subst c;rw[dw rfl,dw (by omega)]
    ·rw[dy c]
     by_cases cj:j<k
     ·rw[dw cj,dw (by omega)]
     ·rw[dy cj,dy (by omega)])
  (fun _ _=>by unfold BF;refine d8 (by simp) ?_;simp only;congr 2;exact ek fun j av=>by rw[dw av]) () trivial
 have lz:(aE (n+m) fun j=>if j<0 then decide (j<n) else F j)=aE (n+m) F:=ek fun j _=>by rw[dy (by omega)]
 rw[lz] at e;exact e
theorem X3 {m n:Nat}{a:Nat->Nat->Int}{b:Nat->Int}:iK m (dj m n a b) (jX m n a b)=1:=by unfold iK;rw[V0,dw (by grind)]
theorem agt {p:jz}{m n:Nat}{a:Nat->Nat->Int}{b:Nat->Int}(h:ms p m n a b):
 ∃r,EW p.f7 p.eM p.bR p.bS p.hl=some r/\((q5 m n a b/\ ∃t aJ g eX,r = .inl ((cb (iK m (dj m n a b) t)).cR,(cb (iK m (dj m n a b) t)).cC,((n+m:Nat):Int),h7 aJ (n+m) g,cX aJ (iu g t),aE (n+m) (fun j=>decide (j<n)),eX) /\
  nI m n (n+m) (dj m n a b) t aJ g/\(∀i,i<aJ->t.B (g i)<n)/\mD aJ (n+m) m g (iK m (dj m n a b) t) (iu g t) eX)\/(¬q5 m n a b/\r = .inr ())):=by
 have hm:=h.hm;have aY:=h.aY;have gQ:=Fh h;have fw:J (p.eM+p.f7)=((n+m:Nat):Int):=by rw[h.gl,h.rows,<- Int.natCast_add,cu (by omega) (by omega)]
 have aky:mD m (n+m) m (fun i=>i) (iK m (dj m n a b) (jX m n a b)) (jX m n a b) (aE m (fun i=>aE (n+m+1) fun j=>cb (dj m n a b i j))):=⟨b2 ..,fun i ad=>by rw[fK ad,X3];congr 1;exact ek fun j _=>by show cb (dj m n a b i j)=cb (dj m n a b i j*1);congr 1;grind⟩
 obtain⟨q,bY,t,eX,mF,e,⟨c7,rfl⟩,gu,eQ⟩:=Tl (eZ:=m) (m:=m) (N:=n+m) (M:=m) (A:=dj m n a b) hm (by omega) (h:=fun i=>i) (fun i _ k _ e=>e) (sW n) (fun j _=>by unfold sW;split<;>omega) (fun j=>decide (j<n))
  (fun w t=>mh m (n+m) (dj m n a b) t/\w=iK m (dj m n a b) t) (fun w t c7=>⟨c7.1.ok,c7.1.lx,c7.2▸c7.1.tt gQ⟩)
  (fun w t r s c7 b=>by obtain⟨h1,rfl⟩:=c7;have ah:t.T r s≠0:=(by have:=b.pos;grind);exact⟨h1.zE gQ b.aj b.bL ah,h1.ik b,Nm h1.ok h1.sU b.aj b.bL ah⟩)
  (w:=iK m (dj m n a b) (jX m n a b)) (t:=jX m n a b) ⟨⟨Vm,T9,UH⟩,rfl⟩ aky
 rw[X3] at e
 have NR : ∀j,j<n->t.cy m (gE m n) j<=0:=by
  rcases eQ with ⟨-,eQ,-⟩|⟨-,s,bL,-,dn,hO⟩
  ·intro j av;have:=eQ j (by omega) (by simpa using av);rw[Vz c7.ok.jO (by omega)] at this;grind
  ·rw[Vz c7.ok.jO bL] at dn;obtain⟨i,ad,ah⟩:=SW c7.ok bL dn;exact(hO i ad ah).elim
 have e1:qb 1=some (cb 1):=by have:=vN (n:=1) (by rw[ln];omega);rw[show ((1:Int):Rat)=1 from rfl] at this;exact this
 obtain⟨r,r1,r2⟩:=adq h (c7.tt gQ) gu (cb (iK m (dj m n a b) t)).cR (cb (iK m (dj m n a b) t)).cC ((n+m:Nat):Int) (aE (n+m) mF);unfold EW;rw[fw];rcases r2 with ⟨rfl,i,ad,fX,hM⟩|⟨rfl,hO⟩
 ·have Gu : ¬q5 m n a b:=fun bL=>by
   have:=L6 c7.lx (TG c7.ok c7.lx NR bL) c7.ok.jO i ad fX;grind
  refine⟨_,aG e1 (bm (by omega) (aG (S4 h _ _ _) (bm (by omega) (aG (x:=(aE (n+m) (sW n),aE (n+m) fun j=>decide (j<n))) (by rw[dx,pe,pe];exact Tm h _ _ _ _ _ _) (aG e ?_))))),.inr ⟨Gu,rfl⟩⟩;refine aG (x:= .inr ()) ?_ rfl;simp only;rw[show ((cX m t).length:Nat)=m from b2 ..];exact r1
 ·have cH : ∀i,i<m->n<=t.B i->t.T i (n+m)=0:=fun i ad fX=>by
   have h1:=hO i ad fX;have h2:=c7.lx i ad;grind
  have bL:q5 m n a b:=Tg c7.ok c7.lx cH;obtain⟨cN,aJ,g,kV,lv,lh,x4,lk⟩:=afl (n:=n) gQ (by omega) (by omega) (aE (n+m) fun j=>decide (j<n)) c7 cH gu;refine⟨_,aG e1 (bm (by omega) (aG (S4 h _ _ _) (bm (by omega) (aG (x:=(aE (n+m) (sW n),aE (n+m) fun j=>decide (j<n))) (by rw[dx,pe,pe];exact Tm h _ _ _ _ _ _) (aG e ?_))))),.inl ⟨bL,cN,aJ,g,kV,rfl,lh,x4,lk⟩⟩;refine aG (x:= .inl ()) ?_ ?_
  ·simp only;rw[show ((cX m t).length:Nat)=m from b2 ..];exact r1
  ·simp only;rw[show ((aE (n+m) mF).length:Nat)=n+m from b2 ..];refine aG (adr h mF _ _ _ _ _ _) ?_;rw[h.gl];exact aG lv rfl
structure rl (m:Nat) (u v:bZ):Prop where
 T : ∀i,i<m-> ∀j,u.T i j=v.T i j
 B : ∀i,i<m->u.B i=v.B i
theorem rl.tt {m N:Nat}{w:Rat}{u v:bZ}(s:rl m u v)(h:qp m N w v):qp m N w u :=
 ⟨h.pos,h.hw,fun i ad j av=>by rw[s.T i ad];exact h.hM i ad j av,fun i ad=>by rw[s.B i ad];exact h.fX i ad⟩
theorem rl.cv {m:Nat}{u v:bZ}(s:rl m u v){r:Nat}(aj:r<m)(k:Nat):rl m (u.cv r k) (v.cv r k) where
 T:=fun i ad j=>by simp only[bZ.cv,s.T i ad,s.T r aj]
 B:=fun i ad=>by simp only[bZ.cv,s.B i ad]
theorem rl.zE {m N:Nat}{w:Rat}{u v:bZ}(s:rl m u v){r k:Nat}(h:wt m N w v r k):wt m N w u r k :=
 ⟨h.aj,h.a1,by rw[s.T r h.aj];exact h.ah,fun i ad j av=>by rw[(s.cv h.aj k).T i ad,s.T r h.aj];exact h.DF i ad j av⟩
theorem rl.trans {m:Nat}{u v t:bZ}(a:rl m u v)(b:rl m v t):rl m u t:=⟨fun i ad j=>(a.T i ad j).trans (b.T i ad j),fun i ad=>(a.B i ad).trans (b.B i ad)⟩
theorem ag3 {aJ:Nat}{g:Nat->Nat}(inj:∀i,i<aJ-> ∀k,k<aJ->g i=g k->i=k)(t:bZ){r:Nat}(aj:r<aJ)(k:Nat):rl aJ ((iu g t).cv r k) (iu g (t.cv (g r) k)) :=
 ⟨fun i ad j=>(Fp (t:=t) (k:=k) (inj i ad r aj)).1 j,fun i ad=>(Fp (t:=t) (k:=k) (inj i ad r aj)).2⟩
theorem Wb {m n:Nat}{a:Nat->Nat->Int}{b:Nat->Int}{x:Nat->Rat}{c:Nat}:cA n (fun j=>dj m n a b c j*x j)=((lf (b c):Int):Rat)*cA n (fun j=>(a c j:Rat)*x j):=by rw[<- j1];exact gm fun j av=>by rw[Nb av];grind
theorem nI.Wc {m n:Nat}{a:Nat->Nat->Int}{b:Nat->Int}{t:bZ}{aJ:Nat}{g:Nat->Nat}(h:nI m n (n+m) (dj m n a b) t aJ g)(fX:∀i,i<aJ->t.B (g i)<n):LT m n a b aJ (n+m) (iu g t) where
 eqv:=fun x=>by
  have key:(∀i,i<m->cA n (fun j=>(a i j:Rat)*x j)=(b i:Rat))↔ ∀i,i<m->cA n (fun j=>dj m n a b i j*x j)=dj m n a b i (n+m):=by
   constructor
   ·intro aa i ad;rw[Wb,Ji,aa i ad]
   ·intro aa i ad
    have:=aa i ad;rw[Wb,Ji] at this;have h0:=VZ (b i);have e:((lf (b i):Int):Rat)*(cA n (fun j=>(a i j:Rat)*x j)-(b i:Rat))=0:=(by grind);rcases Rat.mul_eq_zero.1 e with e|e
    ·exact(h0 e).elim
    ·grind
  rw[key];constructor
  ·intro aa i ad;obtain⟨W,hW⟩:=h.inv.ok.row;show cA n (fun j=>t.T (g i) j*x j)=t.T (g i) (n+m);rw[hW (g i) (h.lt i ad) (n+m) (dF _),gm (g:=fun j=>cA m (fun c=>W (g i) c*(dj m n a b c j*x j))) (fun j av=>by rw[hW (g i) (h.lt i ad) j (by omega),<- vL];exact gm fun c _=>by grind),ry];exact gm fun c aX=>by rw[j1,aa c aX]
  ·intro aa c aX
   have row : ∀i,i<m->cA n (fun j=>t.T i j*x j)=t.T i (n+m):=fun i ad=>by
    by_cases bO : ∃q,q<aJ/\g q=i
    ·obtain⟨q,a0,rfl⟩:=bO;exact aa q a0
    ·obtain⟨d1,d2⟩:=h.dead i ad fun q a0 e=>bO ⟨q,a0,e⟩;rw[h.z i ad d1];exact ot fun j av=>by rw[d2 j av];grind
   rw[h.inv.ok.tC c aX (n+m) (dF _),gm (g:=fun j=>cA m (fun i=>dj m n a b c (t.B i)*(t.T i j*x j))) (fun j av=>by rw[h.inv.ok.tC c aX j (by omega),<- vL];exact gm fun i _=>by grind),ry];exact gm fun i ad=>by rw[j1,row i ad]
 unit:=fun i ad k a1=>by
  show t.T (g i) (t.B (g k))=_;rw[h.inv.ok.unit _ (h.lt i ad) _ (h.lt k a1)];by_cases c:i=k
  ·rw[dw c,dw (by rw[c])]
  ·rw[dy c,dy fun e=>c (h.inj i ad k a1 e)]
 jO:=fX
 lx:=fun i ad=>h.inv.lx _ (h.lt i ad)
 O5:=by omega
theorem nI.step {m n:Nat}{a:Nat->Nat->Int}{b:Nat->Int}{t:bZ}{aJ:Nat}{g:Nat->Nat}{K:Nat}{obj:Nat->Nat->Rat}{bO:Nat->Prop}(h:nI m n (n+m) (dj m n a b) t aJ g)(fX:∀i,i<aJ->t.B (g i)<n){u:bZ}(bL:rl aJ u (iu g t)){r s:Nat}(da:ph aJ (n+m) K obj bO u r s)(zQ:s<n):
 nI m n (n+m) (dj m n a b) (t.cv (g r) s) aJ g/\(∀i,i<aJ->(t.cv (g r) s).B (g i)<n)/\rl aJ (u.cv r s) (iu g (t.cv (g r) s)):=by
 have aj:=da.aj;have ah:0<t.T (g r) s:=by have:=da.pos;rw[bL.T r aj] at this;exact this
 have z0:t.T (g r) s≠0:=by grind
 have WZ:=(bL.cv aj s).trans (ag3 h.inj t aj s);have Ao : ∀d,d<m->(∀i,i<aJ->g i≠d)-> ∀j,(t.cv (g r) s).T d j=t.T d j/\(t.cv (g r) s).B d=t.B d:=fun d bH hO j=>by obtain⟨d1,d2⟩:=h.dead d bH hO;simp only[bZ.cv];rw[dy fun e=>hO r aj e.symm,dy fun e=>hO r aj e.symm,d2 s zQ];exact⟨by grind,rfl⟩
 have oR : ∀i,i<aJ->(t.cv (g r) s).B (g i)<n:=fun i ad=>by
  simp only[bZ.cv];split
  ·exact zQ
  ·exact fX i ad
 have akz:(u.cv r s).mQ aJ (n+m):=da.Gl fun i ad=>by rw[bL.T i ad];exact h.inv.lx _ (h.lt i ad)
 refine⟨⟨⟨h.inv.ok.cv (h.lt r aj) (by omega) z0,fun i ad=> ?_,?_⟩,fun i ad aY=> ?_,h.le,h.lt,h.inj,fun d bH hO=> ?_⟩,oR,WZ⟩
 ·by_cases bO : ∃q,q<aJ/\g q=i
  ·obtain⟨q,a0,rfl⟩:=bO;have:=akz q a0;rw[WZ.T q a0] at this;exact this
  ·rw[(Ao i ad (fun q a0 e=>bO ⟨q,a0,e⟩) _).1];exact h.inv.lx i ad
 ·rw[h.inv.ok.zm (h.lt r aj) (by omega)];have:=h.inv.sU;grind
 ·by_cases bO : ∃q,q<aJ/\g q=i
  ·obtain⟨q,a0,rfl⟩:=bO;have:=oR q a0;omega
  ·have hO : ∀q,q<aJ->g q≠i:=fun q a0 e=>bO ⟨q,a0,e⟩;obtain⟨e1,e2⟩:=Ao i ad hO (n+m);rw[e1];rw[e2] at aY;exact h.z i ad aY
 ·obtain⟨d1,d2⟩:=h.dead d bH hO;refine⟨by rw[(Ao d bH hO 0).2];exact d1,fun j av=>by rw[(Ao d bH hO j).1];exact d2 j av⟩
structure rm (m n:Nat) (a:Nat->Nat->Int) (b:Nat->Int) (aJ:Nat) (g:Nat->Nat) (hN:Nat->Nat->Rat) (dq:Nat->Bool) (w:Rat) (u:bZ):Prop where
 bO : ∃t,nI m n (n+m) (dj m n a b) t aJ g/\(∀i,i<aJ->t.B (g i)<n)/\rl aJ u (iu g t)/\w=iK m (dj m n a b) t
 lt:LT m n a b aJ (n+m) u
 ok:hi aJ aJ (n+m) hN u
 Pa : ∀i,i<aJ->dq (u.B i)=true
theorem rm.tt {m n:Nat}{a:Nat->Nat->Int}{b:Nat->Int}{aJ:Nat}{g:Nat->Nat}{hN:Nat->Nat->Rat}{dq:Nat->Bool}{w:Rat}{u:bZ}(gQ:Small m (n+m) (dj m n a b))(h:rm m n a b aJ g hN dq w u):qp aJ (n+m) w u:=by obtain⟨t,h1,h2,U,rfl⟩:=h.bO;exact U.tt (h1.tt gQ)
theorem rm.ik {m n:Nat}{a:Nat->Nat->Int}{b:Nat->Int}{aJ:Nat}{g:Nat->Nat}{hN:Nat->Nat->Rat}{dq mF:Nat->Bool}{w:Rat}{u:bZ}{obj:Nat->Nat->Rat}{K:Nat}(gQ:Small m (n+m) (dj m n a b))(h:rm m n a b aJ g hN mF w u)(rR:∀j,j<n+m->dq j=true->j<n)(akA:∀j,dq j=true->mF j=true){r s:Nat}(da:ph aJ (n+m) K obj (fun j=>dq j=true) u r s):
 wt aJ (n+m) w u r s/\rm m n a b aJ g hN mF (q9 w u r s) (u.cv r s):=by
 obtain⟨t,h1,h2,U,ai⟩:=h.bO;have zQ:=rR s da.bL da.GR;obtain⟨g1,g2,g3⟩:=h1.step h2 U da zQ;have ah:=da.pos;have X4:t.T (g r) s≠0:=by rw[U.T r da.aj] at ah;show t.T (g r) s≠0;have:0<t.T (g r) s:=ah;grind
 refine⟨ai▸U.zE (h1.zE gQ da.aj (by omega) X4),⟨t.cv (g r) s,g1,g2,g3,?_⟩,h.lt.cv da.aj zQ (by grind) (da.Gl h.lt.lx),da.ok h.ok,fun i ad=> ?_⟩
 ·rw[<- Nm h1.inv.ok h1.inv.sU (h1.lt r da.aj) (show s<n+m by omega) X4,ai];unfold q9;rw[U.T r da.aj];rfl
 ·simp only[bZ.cv]
  split
  ·exact akA s da.GR
  ·exact h.Pa i ad
theorem UU {m n:Nat}{a:Nat->Nat->Int}{b:Nat->Int}{aJ:Nat}{g:Nat->Nat}(hm:m<=20)(aY:n<=40)(gQ:Small m (n+m) (dj m n a b)){hN:Nat->Nat->Rat}{dq:Nat->Bool}{w:Rat}{u:bZ}(h:rm m n a b aJ g hN dq w u)(rR:∀j,j<n+m->dq j=true->j<n)(inj:∀i,i<aJ-> ∀k,k<aJ->g i=g k->i=k)(ls:aJ<=m)
 (o:Nat->Int) (an : ∀j,-100<=o j/\o j<=100) {c:Nat->Rat} {l:Nat} {V:Nat->Rat} (akB : ∀j,((o j:Int):Rat)=h3 c l j) (s:rb m n a b c l dq V) {eX:dT} (gu:mD aJ (n+m) m g w u eX) :
 ∃ok bY mY kV mF,vy (cb w).cR (cb w).cC ((n+m:Nat):Int) (h7 aJ (n+m) g) eX (cX aJ u) (aE (n+m) dq) (aE (n+m) o)=some (ok,(cb bY).cR,(cb bY).cC,kV,cX aJ mY,aE (n+m) mF)/\mD aJ (n+m) m g bY mY kV /\
  ((ok=true/\rm m n a b aJ g hN mF bY mY/\(∀j,j<n+m->mF j=true->j<n)/\ ∃Hk,rb m n a b c (l+1) mF Hk)\/(ok=false/\LT m n a b aJ (n+m) mY/\ ∃q,q<n/\0<mY.cy aJ (h3 c l) q/\ ∀i,i<aJ-> ¬0<mY.T i q)):=by
 have akC:(fun j=>((o j:Int):Rat))=h3 c l:=funext akB
 obtain⟨ok,bY,mY,kV,mF,e,c7,Hd,eQ⟩:=Tl (eZ:=aJ) (m:=aJ) (N:=n+m) (M:=m) (A:=hN) (h:=g) (by omega) (by omega) inj o (fun j _=>an j) dq
  (fun w u=>rm m n a b aJ g hN dq w u) (fun w u ew=>⟨ew.ok,ew.lt.lx,ew.tt gQ⟩)
  (fun w u r q ew da=>ew.ik gQ rR (fun j av=>av) da) h gu
 rw[akC] at eQ;refine⟨ok,bY,mY,kV,mF,e,Hd,?_⟩;rcases eQ with ⟨h1,h2,U⟩|⟨h1,q,h2,cg,U,ai⟩
 ·left;have NS : ∀j,mF j=true->dq j=true:=fun j av=>(by rw[U,dM] at av;exact av.1);refine⟨h1,⟨c7.bO,c7.lt,c7.ok,fun i ad=> ?_⟩,fun j av vg=>rR j av (NS j vg),rb.next c7.lt s (fun j av cg=>h2 j (by omega) cg) (fun j av=>by rw[U])⟩;rw[U];simp only;rw[c7.Pa i ad,c7.lt.yK _ ad,decide_eq_false (by grind)];rfl
 ·right;exact⟨h1,c7.lt,q,rR q h2 cg,U,ai⟩
def gy (x:Rat):anr:=some (oi (eV x))
theorem ahL {n d:Int}{x:Rat}(bH:0<d)(e:(d:Rat)*x=n):(n / (Int.gcd n d:Int),d / (Int.gcd n d:Int))=eV x:=by
 have sv:(d:Rat)≠0:=fun c=>by have:d=0:=Rat.intCast_inj.1 (by rw[c];rfl);omega
 have aa:x=Rat.divInt n d:=by rw[Rat.divInt_eq_div,<- e];grind
 have e1:(Rat.divInt n d).num=n / (Int.gcd n d:Int):=by rw[Rat.num_divInt,Int.sign_eq_one_of_pos bH,Int.one_mul,Int.gcd_comm]
 have e2:((Rat.divInt n d).den:Int)=d / (Int.gcd n d:Int):=by rw[Rat.den_divInt,dy (by omega),Int.gcd_comm];rw[Int.natCast_ediv,Int.natAbs_of_nonneg (by omega)]
 rw[aa];unfold eV;rw[e1,e2]
theorem MN {n d:Int}{x:Rat}(bH:0<d)(e:(d:Rat)*x=n)(aY:(n.natAbs:Int)<B 50)(zN:d<B 50):tV (ho n) (L d)=some (gy x):=by have lv:=(jc (k:=50) (by omega)).2 aY;have lh:=(jc (k:=50) (by omega)).2 zN;rw[ae6 bH (by omega) (by omega),ahL bH e];rfl
theorem MZ {n:Int}(h:mP n):w8 n=some (gy (n:Rat)):=by rw[agf h];unfold gy eV;rw[Rat.num_intCast,Rat.den_intCast];rfl
theorem MO {a b:Int}(bF:0<=a)(aP:0<=b)(h1:a<B 24)(h2:b<B 24):a*b<B 48:=by
 have e:B 48=B 24*B 24:=by decide +kernel
 rw[e];exact Int.lt_of_le_of_lt (dK (Int.le_of_lt h2) bF) (Int.mul_lt_mul_of_pos_right h1 (by omega))
theorem ag4 {x y:Rat}(aa:eH x)(aW:eH y):Ek (gy x) (gy y)=some (gy (x*y)):=by
 have p:=aa.dq;have q:=aW.dq;have h1:=p.rN;have h2:=p.q8;have U:=q.rN;have ai:=q.q8;have aw:=p.pos;have aR:=q.pos;have fX:=Nk;have WV:=pI 48;have jH:=MO (by omega) (by omega) p.num q.num;have iw:=MO (by omega) (by omega) p.den q.den;have sP:(((eV x).1*(eV y).1).natAbs:Int)<B 48:=by rw[Int.natAbs_mul];exact jH
 have bL:Ek (some (oi (eV x))) (some (oi (eV y)))=((qK (ho (eV x).1) (ho (eV y).1)).bind fun aN=>(s7 (L (eV x).2) (L (eV y).2)).bind fun bq=>(tV aN bq).bind fun bz=>some bz):=rfl;unfold gy;rw[bL,Ug (by omega) (by omega),dA,IF (h6 _) (h6 _) (by omega) (by omega),eF (by omega),eF (by omega),dA,MN (x:=x*y) (Int.mul_pos aw aR) ?_ (by omega) (by omega)]
 ·rfl
 ·have:=u1 x;have:=u1 y;simp only[eV,dN];grind
theorem Wd {x y:Rat}(aa:eH x)(aW:eH y):B7 (gy x) (gy y)=some (gy (x+y)):=by
 have p:=aa.dq;have q:=aW.dq;have h1:=p.rN;have h2:=p.q8;have U:=q.rN;have ai:=q.q8;have aw:=p.pos;have aR:=q.pos;have fX:=Nk;have WV:=pI 48;obtain⟨bc,-,-⟩:=IH p q;obtain⟨d1,-,-⟩:=IH q p;have iw:=MO (by omega) (by omega) p.den q.den;have bL:B7 (some (oi (eV x))) (some (oi (eV y)))=((wV (some (oi (eV x))) (L (eV y).2)).bind fun aS=>(wV (some (oi (eV y))) (L (eV x).2)).bind fun bq=>(wW aS bq).bind fun bz=>(s7 (L (eV x).2) (L (eV y).2)).bind fun b1=>(tV bz b1).bind fun cZ=>some cZ):=rfl;unfold gy;rw[bL,Uh (by omega) (by omega) (by omega),dA,Uh (by omega) (by omega) (by omega),dA,UO (by omega) (by omega),dA,IF (h6 _) (h6 _) (by omega) (by omega),eF (by omega),eF (by omega),dA,MN (x:=x+y) (Int.mul_pos aw aR) ?_ (by omega) (by omega)]
 ·rfl
 ·have:=u1 x;have:=u1 y;simp only[eV,dN,Rat.intCast_add];grind
theorem ait {x:Rat}(h:eH x):CA (gy x)=some (gy x):=by have:=h.dq;unfold gy;rw[show oi (eV x)=oi ((eV x).1,(eV x).2) from rfl,ahG (Int.le_of_lt this.pos),dw ⟨this.num,this.den⟩];rfl
def pn (n:Nat)(c:Nat->Int)(l j:Nat):Int:=match l with
 | 0=>if j<n then c j else 0
 | l+1=>if j=l then -1 else 0
def h9 (n:Nat)(c:Nat->Int)(j:Nat):Rat:=((pn n c 0 j:Int):Rat)
theorem UW (n:Nat)(c:Nat->Int)(l j:Nat):((pn n c l j:Int):Rat)=h3 (h9 n c) l j:=by
 cases l with
 | zero=>rfl
 | succ l=>simp only[pn,h3];split<;>rfl
theorem VA {n:Nat}{c:Nat->Int}(h:∀j,j<n-> -100<=c j/\c j<=100)(l j:Nat): -100<=pn n c l j/\pn n c l j<=100:=by
 cases l with
 | zero =>
  simp only[pn];split
  ·exact h j ‹_›
  ·omega
 | succ l=>simp only[pn];split<;>omega
def NT (m n:Nat)(a:Nat->Nat->Int)(b c:Nat->Int)(aJ:Nat)(g:Nat->Nat)(hN:Nat->Nat->Rat)(l:Nat)(s:Bool×ar×ar×dT×ar×ans):Prop :=
 ∃w u eX dq V o,s=((cb w).cR,(cb w).cC,aE (n+m) o,eX,cX aJ u,aE (n+m) dq)/\rm m n a b aJ g hN dq w u/\(∀j,j<n+m->dq j=true->j<n)/\mD aJ (n+m) m g w u eX/\rb m n a b (h9 n c) l dq V
theorem aet {m n:Nat}{a:Nat->Nat->Int}{b c:Nat->Int}{aJ:Nat}{g:Nat->Nat}{hN:Nat->Nat->Rat}(hm:m<=20)(aY:n<=40)(gQ:Small m (n+m) (dj m n a b))(aX:∀j,j<n-> -100<=c j/\c j<=100)(x0:Int)(e3 ec jn:ar)(k:Nat)(a1:k<n)(s:Bool×ar×ar×dT×ar×ans)(bL:NT m n a b c aJ g hN (k+1) s):
 ∃b5,yk (n:Int) x0 e3 ec jn ((n+m:Nat):Int) (h7 aJ (n+m) g) (k:Int) s.1 s.2.1 s.2.2.1 s.2.2.2.1 s.2.2.2.2.1 s.2.2.2.2.2=some (.inl (((k+1:Nat):Int),b5))/\NT m n a b c aJ g hN (k+2) b5:=by
 obtain⟨w,u,eX,dq,V,o,rfl,ew,rR,gu,x6⟩:=bL;obtain⟨t,bO,-⟩:=ew.bO;obtain⟨ok,bY,mY,kV,mF,e,Hd,eQ⟩:=UU hm aY gQ ew rR bO.inj bO.le (pn n c (k+1)) (VA aX (k+1)) (UW n c (k+1)) x6 gu;rcases eQ with ⟨rfl,Dm,NS,Hk,akD⟩|⟨-,rT,q,a0,dn,hO⟩
 ·refine⟨((cb bY).cR,(cb bY).cC,aE (n+m) (pn n c (k+1)),kV,cX aJ mY,aE (n+m) mF),?_,bY,mY,kV,mF,Hk,_,rfl,Dm,NS,Hd,akD⟩;have An:(List.replicate (aE (n+m) o).length 0:ar).set (0+((k:Int)).toNat) (-1)=aE (n+m) (pn n c (k+1)):=(by rw[b2,pe,dx,dG,kc];exact ek fun j _=>rfl);unfold yk;simp only;rw[An];refine dv (by omega) (bm (by rw[b2];omega) (bm (by rw[List.length_replicate,b2,dx];omega) (aG e ?_)));rw[fa (by omega)]
 ·obtain⟨i,ad,ah⟩:=rT.Ua dn;exact(hO i ad ah).elim
theorem agu {m n:Nat}{a:Nat->Nat->Int}{b c:Nat->Int}{aJ:Nat}{g:Nat->Nat}{hN:Nat->Nat->Rat}(hm:m<=20)(aY:n<=40)(gQ:Small m (n+m) (dj m n a b))(aX:∀j,j<n-> -100<=c j/\c j<=100)(x0:Int)(e3 ec jn:ar){w:Rat}{u:bZ}{eX:dT}{dq:Nat->Bool}{V:Nat->Rat}{o:Nat->Int}(ew:rm m n a b aJ g hN dq w u)(rR:∀j,j<n+m->dq j=true->j<n)(gu:mD aJ (n+m) m g w u eX)(x6:rb m n a b (h9 n c) 1 dq V):
 ∃iC ki kn vr,LC (n:Int) x0 e3 ec jn ((n+m:Nat):Int) (h7 aJ (n+m) g) 0 (cb w).cR (cb w).cC (aE (n+m) o) eX (cX aJ u) (aE (n+m) dq)=some ((cb iC).cR,(cb iC).cC,kn,cX aJ ki,aE (n+m) vr)/\rm m n a b aJ g hN vr iC ki/\mD aJ (n+m) m g iC ki kn/\ ∃V,rb m n a b (h9 n c) (n+1) vr V:=by
 unfold LC
 obtain⟨r,e,aj⟩:=tb (f:=fun w:Int×Bool×ar×ar×dT×ar×ans=>yk (n:Int) x0 e3 ec jn ((n+m:Nat):Int) (h7 aJ (n+m) g) w.1 w.2.1 w.2.2.1 w.2.2.2.1 w.2.2.2.2.1 w.2.2.2.2.2.1 w.2.2.2.2.2.2)
  (fun (k:Nat) (s:Bool×ar×ar×dT×ar×ans)=>((k:Int),s)) n (fun k s=>NT m n a b c aJ g hN (k+1) s)
  (fun r=> ∃iC ki kn vr,r=((cb iC).cR,(cb iC).cC,kn,cX aJ ki,aE (n+m) vr)/\rm m n a b aJ g hN vr iC ki/\mD aJ (n+m) m g iC ki kn/\ ∃V,rb m n a b (h9 n c) (n+1) vr V)
  (fun k a1 s bL=> .inl (aet hm aY gQ aX x0 e3 ec jn k a1 s bL))
  (fun s bL=>by obtain⟨w,u,eX,dq,V,o,rfl,ew,rR,gu,x6⟩:=bL;exact⟨_,by unfold yk;exact d8 (by simp) rfl,w,u,eX,dq,rfl,ew,gu,V,x6⟩)
  ((cb w).cR,(cb w).cC,aE (n+m) o,eX,cX aJ u,aE (n+m) dq) ⟨w,u,eX,dq,V,o,rfl,ew,rR,gu,x6⟩
 obtain⟨iC,ki,kn,vr,rfl,h1,h2,U⟩:=aj;exact⟨iC,ki,kn,vr,e,h1,h2,U⟩
theorem ahM:B 24<=B 50:=by decide +kernel
theorem ahN:2<=eL:=by decide +kernel
theorem NU:40*(eL*100)<=21*100*(eL*eL):=by have:=Nat.mul_le_mul_left eL ahN;omega
theorem agv {n:Nat}(x0 x1:Int)(e3 ec jn:ar)(lz:Bool)(uK:ar)(x5:Int)(q1:dS)(q2:dT)(bD:ar)(ct:ans)(aY:n<=40):
 LD (n:Int) x0 x1 e3 ec jn lz uK x5 q1 q2 bD ct 0 (List.replicate n (none:anr))=some (aE n fun _=>gy 0):=by
 unfold LD
 obtain⟨s,e,-⟩:=hF (f:=fun w:Int×anz=>BH (n:Int) x0 x1 e3 ec jn lz uK x5 q1 q2 bD ct w.1 w.2)
  (fun (k:Nat) (_:Unit)=>((k:Int),aE n fun j=>if j<k then gy 0 else none)) n (fun _ _=>True) (fun _=>aE n fun _=>gy 0)
  (fun k a1 _ _=>by
    refine⟨(),?_,trivial⟩;unfold BH;refine dv (by simp only;omega) (aG (x:=gy 0) (MZ (n:=0) (by rw[ln];omega)) (bm (by simp only;rw[b2];omega) (bm (by simp only;rw[b2,dx];omega) ?_)));simp only;rw[fa (by omega),dx,dG,kc];congr 3;refine ek fun j _=> ?_;by_cases bc:j=k
    ·subst bc;rw[dw rfl,dw (by omega)]
    ·rw[dy bc]
     by_cases cj:j<k
     ·rw[dw cj,dw (by omega)]
     ·rw[dy cj,dy (by omega)])
  (fun _ _=>by unfold BH;refine d8 (by simp) ?_;simp only;congr 2;exact ek fun j av=>by rw[dw av]) () trivial
 have e0:(aE n fun j=>if j<0 then gy 0 else none)=List.replicate n none:=by rw[pe];exact ek fun j _=>by rw[dy (by omega)]
 rw[<- e0];exact e
theorem MP {t:bZ}{N i j:Nat}:t.ht (i+1) N j=t.ht i N j+if t.B i=j then t.T i N else 0:=rfl
theorem Nn {m n:Nat}{a:Nat->Nat->Int}{b:Nat->Int}{aJ N:Nat}{u:bZ}(h:LT m n a b aJ N u){i k:Nat}(ad:i<aJ)(a1:k<aJ)(e:u.B i=u.B k):i=k:=by
 by_cases c:i=k
 ·exact c
 ·have h1:=h.unit i ad k a1;rw[<- e,h.unit i ad i ad,dw rfl,dy c] at h1;grind
theorem afm {m n aJ N:Nat}{a:Nat->Nat->Int}{b:Nat->Int}{g:Nat->Nat}{w:Rat}{u:bZ}(x0 x1:Int)(e3 ec jn:ar)(lz:Bool)(ct:ans)(hm:aJ<=20)(fw:N<=1000)(aZ:LT m n a b aJ N u)(f:qp aJ N w u){M:Nat}{eX:dT}(gu:mD aJ N M g w u eX)(aY:n<=40):
 LF (aJ:Int) x0 x1 e3 ec jn lz (cb w).cC (N:Int) (cX aJ u) (h7 aJ N g) eX ct 0 (aE n fun _=>gy 0)=some (aE n fun j=>gy (u.ht aJ N j)):=by
 have hw:=Nl f.hw;have akE:0<w.num:=by have:(0:Rat)<((w.num:Int):Rat):=(by rw[hw.1];exact f.pos);exact Rat.intCast_lt_intCast.1 (by rw[show ((0:Int):Rat)=0 from rfl];exact this)
 have ajc:(cb w).cC=L w.num:=by show L (w.num.natAbs:Int)=_;rw[Int.natAbs_of_nonneg (by omega)]
 have kA:=qj xC;have lO:=qj Da;have am5:=ahM;rw[ajc];unfold LF
 obtain⟨s,e,-⟩:=hF (f:=fun v:Int×anz=>BI (aJ:Int) x0 x1 e3 ec jn lz (L w.num) (N:Int) (cX aJ u) (h7 aJ N g) eX ct v.1 v.2)
  (fun (k:Nat) (_:Unit)=>((k:Int),aE n fun j=>gy (u.ht k N j))) aJ (fun _ _=>True) (fun _=>aE n fun j=>gy (u.ht aJ N j))
  (fun k a1 _ _=>by
    refine⟨(),?_,trivial⟩;have fX:=aZ.jO k a1;have hM:=Nl (f.hM k a1 N (dF _));have cH:u.ht k N (u.B k)=0:=bZ.LW fun i ad e=>(by have:=Nn aZ (by omega) a1 e;omega);have zA:tV (cb (u.T k N*w)) (L w.num)=some (gy (u.T k N)):=(by refine MN akE ?_ (by omega) (by omega);rw[hw.1,hM.1];grind);unfold BI;simp only;refine dv (by omega) (bm (by unfold cX;rw[b2];omega) (aG (x:=((u.B k:Nat):Int)) (by rw[dx];exact hx a1) (bm (by unfold h7;rw[b2];omega) (aG (x:=some (g k,N+1)) (by rw[dx];exact hx a1) (aG (x:=(g k,N+1)) rfl (aG (gu.row k a1) (bm (by simp only;omega) (aG (x:=cb (u.T k N*w)) (by rw[dx];exact hx (by omega)) (aG zA (bm (by rw[b2];omega) (bm (by rw[b2,dx];omega) ?_)))))))))));rw[fa (by omega),dx,dG,kc];congr 3;refine ek fun j _=> ?_;rw[MP];by_cases bc:j=u.B k
    ·subst bc;rw[dw rfl,dw rfl,cH];congr 1;grind
    ·rw[dy bc,dy (fun e=>bc e.symm)];congr 1;grind)
  (fun _ _=>by unfold BI;exact d8 (by simp) rfl) () trivial
 exact e
theorem VB {m n:Nat}{a:Nat->Nat->Int}{b:Nat->Int}{aJ N:Nat}{w:Rat}{u:bZ}{K:Nat}(aZ:LT m n a b aJ N u)(f:∀i,i<aJ->dW K (u.T i N*w))(j:Nat):dW K (u.ht aJ N j*w):=by
 by_cases c : ∃i,i<aJ/\u.B i=j
 ·obtain⟨i,ad,rfl⟩:=c;have:u.ht aJ N (u.B i)=u.T i N:=(by unfold bZ.ht;rw[lm ad (f:=fun k=>if u.B k=u.B i then u.T k N else 0) (fun k a1 dd=>dy fun e=>dd (Nn aZ a1 ad e)),dw rfl]);rw[this];exact f i ad
 ·rw[bZ.LW fun i ad e=>c ⟨i,ad,e⟩];exact⟨0,by rw[Rat.zero_mul];rfl,by simp⟩
theorem ahO {m n:Nat}{a:Nat->Nat->Int}{b:Nat->Int}{aJ N:Nat}{w:Rat}{u:bZ}(aZ:LT m n a b aJ N u)(f:qp aJ N w u)(j:Nat):dW eL (u.ht aJ N j*w):=VB aZ (fun i ad=>f.hM i ad N (dF _)) j
theorem rm.W0 {m n:Nat}{a:Nat->Nat->Int}{b:Nat->Int}{aJ:Nat}{g:Nat->Nat}{w:Rat}{u:bZ}{hN:Nat->Nat->Rat}{dq:Nat->Bool}(gQ:Small m (n+m) (dj m n a b))(h:rm m n a b aJ g hN dq w u):dW (m9 100 m) w/\ ∀i,i<aJ->dW (m9 100 m) (u.T i (n+m)*w):=by
 obtain⟨t,bO,-,bL,rfl⟩:=h.bO;have tJ:dW (m9 100 m) (1*t.D m (dj m n a b)):=by rw[Rat.one_mul];exact xg fun i ad c aX=>gQ.qI c aX _ (Nat.le_of_lt (bO.inv.ok.jO i ad))
 refine⟨by have:=Ju tJ;rw[Rat.one_mul] at this;exact this,fun i ad=> ?_⟩;rw[bL.T i ad];refine Ju ?_;show dW (m9 100 m) (t.T (g i) (n+m)*_);rw[<- bO.inv.ok.x3 (bO.lt i ad) (dF _)];refine xg fun k a1 c aX=> ?_;simp only[hG];split
 ·exact gQ.qI c aX _ (dF _)
 ·exact gQ.qI c aX _ (Nat.le_of_lt (bO.inv.ok.jO k a1))
theorem VC {n:Nat}{w:Rat}{x:Nat->Rat}{c:Nat->Int}(hw:dW (21*100*eL) w)(ah:0<w)(aa:∀j,dW eL (x j*w))(aX:∀j,j<n-> -100<=c j/\c j<=100){k:Nat}(a1:k<=n)(aY:n<=40):eH (cA k fun j=>x j*(c j:Rat)):=by have h1:dW (k*(eL*100)) (cA k fun j=>x j*w*(c j:Rat)):=dW.sum fun j av=>(aa j).mul ⟨c j,rfl,by have:=aX j (by omega);omega⟩;have h2:k*(eL*100)<=40*(eL*100):=dL _ (by omega);refine rJ (K:=21*100*(eL*eL)) (hw.mono xC) (h1.mono (Nat.le_trans h2 NU)) (by grind) ?_ (qj (dF _));rw[<- j1];exact gm fun j _=>by grind
theorem Wy {w x:Rat}(hw:dW (21*100*eL) w)(ah:0<w)(aa:dW eL (x*w)):eH x :=
 rJ (K:=21*100*(eL*eL)) (hw.mono xC) (aa.mono Da) (by grind) (by grind) (qj (dF _))
theorem ahP {w x:Rat}{c:Int}(hw:dW (21*100*eL) w)(ah:0<w)(aa:dW eL (x*w))(aX:-100<=c/\c<=100):eH (x*(c:Rat)):=by have:=aa.mul (show dW 100 (c:Rat) from ⟨c,rfl,by omega⟩);exact rJ (K:=21*100*(eL*eL)) (hw.mono xC) (this.mono (by have:=NU;omega)) (by grind) (by grind) (qj (dF _))
theorem ag5 {n:Nat}{w:Rat}(x0 x1:Int)(e3 ec jn:ar){x:Nat->Rat}{c:Nat->Int}(aW:jn=aE n c)(hw:dW (21*100*eL) w)(ah:0<w)(aa:∀j,dW eL (x j*w))(aX:∀j,j<n-> -100<=c j/\c j<=100)(aY:n<=40):
 LG (n:Int) x0 x1 e3 ec jn (aE n fun j=>gy (x j)) (gy 0) 0=some (gy (cA n fun j=>x j*(c j:Rat))):=by
 subst aW;unfold LG
 obtain⟨s,e,-⟩:=hF (f:=fun v:anr×Int=>BJ (n:Int) x0 x1 e3 ec (aE n c) (aE n fun j=>gy (x j)) v.1 v.2)
  (fun (k:Nat) (_:Unit)=>(gy (cA k fun j=>x j*(c j:Rat)),(k:Int))) n (fun _ _=>True) (fun _=>gy (cA n fun j=>x j*(c j:Rat)))
  (fun k a1 _ _=>by refine⟨(),?_,trivial⟩;have akF:=aX k a1;have ad:mP (c k):=(by rw[ln];omega);unfold BJ;simp only;refine dv (by omega) (bm (by rw[b2];omega) (aG (x:=gy (x k)) (by rw[dx];exact hx a1) (bm (by rw[b2];omega) (aG (x:=c k) (by rw[dx];exact hx a1) (aG (MZ ad) (aG (ag4 (Wy hw ah (aa k)) (Vu ad)) (aG (Wd (VC hw ah aa aX (Nat.le_of_lt a1) aY) (ahP hw ah (aa k) akF)) ?_)))))));rw[fa (by omega)];rfl)
  (fun _ _=>by unfold BJ;exact d8 (by simp) rfl) () trivial
 exact e
theorem ahQ {m n:Nat}{a:Nat->Nat->Int}{b:Nat->Int}{aJ N:Nat}{u:bZ}(h:LT m n a b aJ N u)(aY:n<=N):hi aJ aJ N u.T u where
 tC:=fun c aX j _=>by rw[lm aX (f:=fun i=>u.T c (u.B i)*u.T i j) (fun i ad dd=>by rw[h.unit c aX i ad,dy (fun e=>dd e.symm)];grind),h.unit c aX c aX,dw rfl];grind
 row:=⟨fun i c=>if i=c then 1 else 0,fun i ad j _=>by rw[lm ad (f:=fun c=>(if i=c then (1:Rat) else 0)*u.T c j) (fun c _ dd=>by rw[dy (Ne.symm dd)];grind),dw rfl];grind⟩
 unit:=h.unit
 jO:=fun i ad=>Nat.lt_of_lt_of_le (h.jO i ad) aY
theorem UX {p:jz}{m n:Nat}{a:Nat->Nat->Int}{b:Nat->Int}(h:ms p m n a b){c:Nat->Int}(nC:p.hl=aE n c)(aX:∀j,j<n-> -100<=c j/\c j<=100):
 ∃r,w2 p.f7 p.eM p.bR p.bS p.hl=some r/\((¬q5 m n a b/\r=(2,[],none))\/(q5 m n a b/\ ¬Bounded m n a b (h9 n c)/\r=(3,[],none)) \/
  (∃x w,u2 m n a b (h9 n c) x/\(0<w/\dW (m9 100 m) w/\ ∀j,dW (m9 100 m) (x j*w))/\(∀j,eH (x j))/\eH (val n (h9 n c) x)/\r=(0,aE n (fun j=>gy (x j)),gy (val n (h9 n c) x)))):=by
 have hm:=h.hm;have aY:=h.aY;have gQ:=Fh h;obtain⟨r,e,aj⟩:=agt h;unfold w2;rcases aj with ⟨bL,t,aJ,g,eX,rfl,bO,fX,gu⟩|⟨bL,rfl⟩
 ·have aZ:=bO.Wc fX
  have ew:rm m n a b aJ g (iu g t).T (fun j=>decide (j<n)) (iK m (dj m n a b) t) (iu g t) :=
   ⟨⟨t,bO,fX,⟨fun _ _ _=>rfl,fun _ _=>rfl⟩,rfl⟩,aZ,ahQ aZ (by omega),fun i ad=>decide_eq_true (fX i ad)⟩
  obtain⟨ok,iC,ki,kn,vr,e1,akG,eQ⟩:=UU hm aY gQ ew (fun j _ av=>of_decide_eq_true av) bO.inj bO.le (pn n c 0) (VA aX 0) (UW n c 0) (rb.zero (c:=h9 n c) (fun j av=>decide_eq_true av) (fun _=>0)) gu
  have An:p.hl++(List.replicate (n+m) 0:ar).drop p.hl.length=aE (n+m) (pn n c 0):=by
   rw[nC,b2];apply List.ext_getElem?;intro i;by_cases ci:i<n
   ·rw[List.getElem?_append_left (by rw[b2];exact ci),fK ci,fK (by omega)];simp only[pn];rw[dw ci]
   ·rw[List.getElem?_append_right (by rw[b2];omega),b2,List.getElem?_drop,show n+(i-n)=i by omega]
    by_cases OT:i<n+m
    ·rw[List.getElem?_replicate,dw OT,fK OT];simp only[pn];rw[dy ci]
    ·rw[List.getElem?_replicate,dy OT,List.getElem?_eq_none_iff.2 (by rw[b2];omega)]
  have X5:p.hl.length=n:=(by rw[nC,b2]);rcases eQ with ⟨rfl,rQ,ajd,ano,Hc⟩|⟨rfl,rT,q,a0,dn,hO⟩
  ·obtain⟨nT,mI,b3,am6,e2,vk,akH,anp,akI⟩:=agu (o:=pn n c 0) hm aY gQ aX p.f7 p.bR p.bS p.hl rQ ajd akG Hc
   have f2:=vk.tt gQ;have NR:=akI.mS vk.lt vk.Pa;have aa:=ahO vk.lt f2;have bf:cA n (fun j=>mI.ht aJ (n+m) j*(c j:Rat))=val n (h9 n c) (mI.ht aJ (n+m)):=gm fun j av=>(by have:h9 n c j=(c j:Rat):=(by unfold h9 pn;simp only;rw[dw av]);rw[this];exact Rat.mul_comm _ _);refine⟨_,aG e ?_,.inr (.inr ⟨mI.ht aJ (n+m),nT,NR,⟨f2.pos,(vk.W0 gQ).1,fun j=>VB vk.lt (vk.W0 gQ).2 j⟩,fun j=>Wy f2.hw f2.pos (aa j),?_,rfl⟩)⟩
   ·simp only
    refine bm (by omega) (bm (by rw[X5,dx];omega) (aG (by rw[dx,An];exact e1) (fY rfl ?_)));rw[h.gl,dx,dx,An];refine aG e2 (bm (by omega) (aG (agv _ _ _ _ _ _ _ _ _ _ _ _ aY) (aG (x:=aE n fun j=>gy (mI.ht aJ (n+m) j)) ?_ (aG (x:=gy 0) (MZ (n:=0) (by rw[ln];omega)) (aG (x:=gy (val n (h9 n c) (mI.ht aJ (n+m)))) ?_ rfl)))))
    ·simp only;rw[show ((cX aJ mI).length:Nat)=aJ from b2 ..];exact afm _ _ _ _ _ _ _ (by have:=bO.le;omega) (by omega) vk.lt f2 akH aY
    ·rw[b2,<- bf];exact ag5 _ _ _ _ _ nC f2.hw f2.pos aa aX aY
   ·rw[<- bf];exact VC f2.hw f2.pos aa aX (dF _) aY
  ·refine⟨_,aG e ?_,.inr (.inl ⟨bL,rT.J6 _ a0 dn hO,rfl⟩)⟩;simp only;exact bm (by omega) (bm (by rw[X5,dx];omega) (aG (by rw[dx,An];exact e1) (h4 rfl rfl)))
 ·exact⟨_,aG e rfl,.inl ⟨bL,rfl⟩⟩
def nA (n N j:Nat):Nat:=if j=n then N else j
theorem zg {n N j:Nat}(h:j<n):nA n N j=j:=by unfold nA;rw[dy (by omega)]
theorem C3 {n N:Nat}:nA n N n=N:=by unfold nA;rw[dw rfl]
theorem CU {n N j:Nat}(aY:n<=N)(h:j<=n):nA n N j<=N:=by unfold nA;split<;>omega
def pS (n N:Nat)(g:Nat->Nat)(t:bZ):bZ:=⟨fun i j=>t.T (g i) (nA n N j),fun i=>t.B (g i)⟩
structure qq (m n:Nat) (a:Nat->Nat->Int) (b:Nat->Int) (aJ:Nat) (g:Nat->Nat) (hN:Nat->Nat->Rat) (u:bZ):Prop where
 ok:hi aJ aJ n hN u
 bO : ∃t,nI m n (n+m) (dj m n a b) t aJ g/\(∀i,i<aJ->t.B (g i)<n)/\ ∀i,i<aJ->(∀j,j<=n->u.T i j=t.T (g i) (nA n (n+m) j))/\u.B i=t.B (g i)
theorem VD {m n:Nat}{a:Nat->Nat->Int}{b:Nat->Int}{aJ:Nat}{g:Nat->Nat}{u t:bZ}(h1:nI m n (n+m) (dj m n a b) t aJ g)(h2:∀i,i<aJ->t.B (g i)<n)(U:∀i,i<aJ->(∀j,j<=n->u.T i j=t.T (g i) (nA n (n+m) j))/\u.B i=t.B (g i)):LT m n a b aJ n u:=by
 have L:=h1.Wc h2;refine⟨fun x=> ?_,fun i ad k a1=> ?_,fun i ad=>by rw[(U i ad).2];exact h2 i ad,fun i ad=> ?_,dF _⟩
 ·rw[L.eqv x]
  constructor<;>intro aa i ad
  ·have:=aa i ad;rw[(U i ad).1 n (dF _),C3,gm (g:=fun j=>(iu g t).T i j*x j) fun j av=>by rw[(U i ad).1 j (by omega),zg av];rfl];exact this
  ·have:=aa i ad;rw[(U i ad).1 n (dF _),C3,gm (g:=fun j=>(iu g t).T i j*x j) fun j av=>by rw[(U i ad).1 j (by omega),zg av];rfl] at this;exact this
 ·have aP:t.B (g k)<n:=h2 k a1;rw[(U k a1).2,(U i ad).1 _ (by omega),zg aP];exact L.unit i ad k a1
 ·show 0<=u.T i n;rw[(U i ad).1 n (dF _),C3];exact L.lx i ad
theorem qq.lt {m n:Nat}{a:Nat->Nat->Int}{b:Nat->Int}{aJ:Nat}{g:Nat->Nat}{hN:Nat->Nat->Rat}{u:bZ}(h:qq m n a b aJ g hN u):LT m n a b aJ n u:=by obtain⟨t,h1,h2,U⟩:=h.bO;exact VD h1 h2 U
theorem agw {m aJ:Nat}{g:Nat->Nat}(lt:∀i,i<aJ->g i<m)(inj:∀i,i<aJ-> ∀k,k<aJ->g i=g k->i=k){F:Nat->Rat}(cH:∀d,d<m->(∀i,i<aJ->g i≠d)->F d=0):cA m F=cA aJ (fun i=>F (g i)):=by
 have e : ∀i,i<m->F i=cA aJ (fun q=>if g q=i then F (g q) else 0):=fun i ad=>by
  by_cases bO : ∃q,q<aJ/\g q=i
  ·obtain⟨q,a0,rfl⟩:=bO;rw[lm a0 (f:=fun p=>if g p=g q then F (g p) else 0) fun p ah dd=>dy fun e=>dd (inj p ah q a0 e),dw rfl]
  ·rw[cH i ad fun q a0 e=>bO ⟨q,a0,e⟩];exact(ot fun q a0=>dy fun e=>bO ⟨q,a0,e⟩).symm
 rw[gm e,ry];exact gm fun q a0=>by rw[lm (lt q a0) (f:=fun i=>if g q=i then F (g q) else 0) fun i _ dd=>dy fun e=>dd e.symm,dw rfl]
theorem Um {m n:Nat}{a:Nat->Nat->Int}{b:Nat->Int}{aJ:Nat}{g:Nat->Nat}{t u:bZ}(h1:nI m n (n+m) (dj m n a b) t aJ g)(U:∀i,i<aJ->(∀j,j<=n->u.T i j=t.T (g i) (nA n (n+m) j))/\u.B i=t.B (g i)){o:Nat->Rat}(an:∀j,n<=j->o j=0){j:Nat}(av:j<=n):u.cy aJ o j=t.cy m o (nA n (n+m) j):=by
 unfold bZ.cy
 have e0:o (nA n (n+m) j)=o j:=by
  unfold nA;by_cases c:j=n
  ·rw[dw c,an _ (by omega),an _ (by omega)]
  ·rw[dy c]
 rw[e0,agw h1.lt h1.inj (F:=fun i=>o (t.B i)*t.T i (nA n (n+m) j)) fun d bH hO=>by rw[an _ (h1.dead d bH hO).1];grind];congr 1;exact gm fun i ad=>by rw[(U i ad).1 j av,(U i ad).2]
theorem afn {m n:Nat}{a:Nat->Nat->Int}{b:Nat->Int}{aJ:Nat}{g:Nat->Nat}{hN:Nat->Nat->Rat}{u:bZ}{K:Nat}{obj:Nat->Nat->Rat}{bO:Nat->Prop}(h:qq m n a b aJ g hN u){r s:Nat}(da:ph aJ n K obj bO u r s):qq m n a b aJ g hN (u.cv r s):=by
 obtain⟨t,h1,h2,U⟩:=h.bO;have bL:=da.bL;have im : ∀i,i<aJ-> ∀j,j<n->u.T i j=(iu g t).T i j:=fun i ad j av=>by rw[(U i ad).1 j (by omega),zg av];rfl
 have Ku : ∀i,i<aJ->u.T i n=(iu g t).T i (n+m):=fun i ad=>by rw[(U i ad).1 n (dF _),C3];rfl
 have tK : ∀i,i<aJ->u.B i=(iu g t).B i:=fun i ad=>(U i ad).2;have Yx : ∀j,j<n->(u.rp aJ K obj j↔(iu g t).rp aJ K obj j):=fun j av=>by have e : ∀l,u.cy aJ (obj l) j=(iu g t).cy aJ (obj l) j:=fun l=>(by unfold bZ.cy;congr 1;exact gm fun i ad=>by rw[im i ad j av,tK i ad]);exact⟨fun x=>iP.congr x fun l _=>e l,fun x=>iP.congr x fun l _=>(e l).symm⟩
 have akJ:ph aJ (n+m) K obj (fun j=>j<n/\bO j) (iu g t) r s:=by
  refine⟨by omega,⟨bL,da.GR⟩,(Yx s bL).1 da.gs,fun j av bF dn=>da.least j av bF.2 ((Yx j bF.1).2 dn),da.aj,?_,fun i ad ah=> ?_,fun i ad ah e=> ?_⟩
  ·rw[<- im r da.aj s bL];exact da.pos
  ·rw[<- Ku r da.aj,<- Ku i ad,<- im i ad s bL,<- im r da.aj s bL];exact da.ratio i ad (by rw[im i ad s bL];exact ah)
  ·rw[<- Ku r da.aj,<- Ku i ad,<- im i ad s bL,<- im r da.aj s bL] at e;rw[<- tK r da.aj,<- tK i ad];exact da.tie i ad (by rw[im i ad s bL];exact ah) e
 obtain⟨g1,g2,g3⟩:=h1.step h2 ⟨fun _ _ _=>rfl,fun _ _=>rfl⟩ akJ bL;refine⟨da.ok h.ok,t.cv (g r) s,g1,g2,fun i ad=>⟨fun j av=> ?_,?_⟩⟩
 ·rw[show (t.cv (g r) s).T (g i) (nA n (n+m) j)=(iu g (t.cv (g r) s)).T i (nA n (n+m) j) from rfl,<- g3.T i ad];have xZ : ∀q,q<aJ->u.T q j=(iu g t).T q (nA n (n+m) j):=fun q a0=>(U q a0).1 j av;simp only[bZ.cv];rw[xZ i ad,xZ r da.aj,im r da.aj s bL,im i ad s bL]
 ·rw[show (t.cv (g r) s).B (g i)=(iu g (t.cv (g r) s)).B i from rfl,<- g3.B i ad];simp only[bZ.cv];rw[tK i ad]
theorem qq.fits {m n:Nat}{a:Nat->Nat->Int}{b:Nat->Int}{aJ:Nat}{g:Nat->Nat}{hN:Nat->Nat->Rat}{u:bZ}(gQ:Small m (n+m) (dj m n a b))(h:qq m n a b aJ g hN u):
 (∀i,i<aJ-> ∀j,j<=n->eH (u.T i j))/\(∀i,i<aJ-> ∀j,j<=n->0<u.T i j->eH (u.T i n / u.T i j)):=by
 obtain⟨t,h1,h2,U⟩:=h.bO;refine⟨fun i ad j av=> ?_,fun i ad j av ah=> ?_⟩
 ·rw[(U i ad).1 j av];exact h1.inv.JL gQ (h1.lt i ad) (CU (by omega) av)
 ·rw[(U i ad).1 j av] at ah ⊢;rw[(U i ad).1 n (dF _),C3];exact h1.inv.WX gQ (h1.lt i ad) (CU (by omega) av) ah
theorem qq.zD {m n:Nat}{a:Nat->Nat->Int}{b:Nat->Int}{aJ:Nat}{g:Nat->Nat}{hN:Nat->Nat->Rat}{u:bZ}(gQ:Small m (n+m) (dj m n a b))(h:qq m n a b aJ g hN u){o:Nat->Rat}(an:∀j,n<=j->o j=0)(hw:∀j,dW 100 (o j)){j:Nat}(av:j<=n):eH (u.cy aJ o j):=by obtain⟨t,h1,h2,U⟩:=h.bO;rw[Um h1 U an av];exact h1.inv.zD gQ (fun j _=>hw j) (CU (by omega) av)
theorem qq.Gq {m n:Nat}{a:Nat->Nat->Int}{b:Nat->Int}{aJ:Nat}{g:Nat->Nat}{hN:Nat->Nat->Rat}{u:bZ}(gQ:Small m (n+m) (dj m n a b))(h:qq m n a b aJ g hN u){o:Nat->Rat}(an:∀j,n<=j->o j=0)(hw:∀j,dW 100 (o j)){r k:Nat}(aj:r<aJ)(a1:k<n)(ah:u.T r k≠0):JJ aJ n u (u.cy aJ o) r k:=by
 obtain⟨t,h1,h2,U⟩:=h.bO;have vv : ∀i,i<aJ->u.T i k=t.T (g i) k:=fun i ad=>by rw[(U i ad).1 k (by omega),zg a1]
 have mR:t.T (g r) k≠0:=by rw[<- vv r aj];exact ah
 have P:=h1.inv.Gq gQ (o:=o) (fun j _=>hw j) (h1.lt r aj) (show k<n+m by omega) mR (h1.inv.ok.cv (h1.lt r aj) (by omega) mR);have Pb : ∀j,j<=n->u.cy aJ o j=t.cy m o (nA n (n+m) j):=fun j av=>Um h1 U an av;have Yy:u.cy aJ o k=t.cy m o k:=by rw[Pb k (by omega),zg a1]
 have pl : ∀j,j<=n->nA n (n+m) j<=n+m:=fun j av=>CU (by omega) av;refine⟨fun i ad j av=> ?_,fun i ad j av=> ?_,fun i ad dd j av=> ?_,fun j av=> ?_,fun j av=> ?_,fun j av=> ?_⟩
 ·rw[(U i ad).1 j av];exact P.T _ (h1.lt i ad) _ (pl j av)
 ·have e:(u.cv r k).T i j=(t.cv (g r) k).T (g i) (nA n (n+m) j):=by
   simp only[bZ.cv];by_cases c:i=r
   ·subst c;rw[dw rfl,dw rfl,(U i ad).1 j av,vv i ad]
   ·rw[dy c,dy fun e=>c (h1.inj i ad r aj e),(U i ad).1 j av,(U r aj).1 j av,vv i ad,vv r aj]
  rw[e];exact P.im _ (h1.lt i ad) _ (pl j av)
 ·rw[vv i ad,vv r aj,(U r aj).1 j av];exact P.M _ (h1.lt i ad) (fun e=>dd (h1.inj i ad r aj e)) _ (pl j av)
 ·rw[Pb j av];exact P.aX _ (pl j av)
 ·rw[Pb j av,Yy,vv r aj,(U r aj).1 j av];exact P.vf _ (pl j av)
 ·rw[Yy,vv r aj,(U r aj).1 j av];exact P.hm _ (pl j av)
def ir (m n:Nat)(t:bZ):List Nat:=(List.range m).filter fun i=>decide (t.B i<n)
def kI (m n:Nat)(t:bZ)(i:Nat):Nat:=(ir m n t).getD i 0
theorem Fq {m n:Nat}{t:bZ}{i:Nat}(h:i<(ir m n t).length):(ir m n t)[i]? = some (kI m n t i):=by unfold kI;rw[List.getD_eq_getElem?_getD,dz h];rfl
theorem UY {m n:Nat}{t:bZ}{i:Nat}(h:i<(ir m n t).length):kI m n t i<m/\t.B (kI m n t i)<n:=by have:=dH (Fq h);unfold ir at this;rw[List.mem_filter,List.mem_range] at this;exact⟨this.1,of_decide_eq_true this.2⟩
theorem agx {m n:Nat}{t:bZ}{i k:Nat}(ad:i<(ir m n t).length)(a1:k<(ir m n t).length)(e:kI m n t i=kI m n t k):i=k:=by have ald:(ir m n t).Nodup:=List.nodup_range.filter _;have h1:=Fq ad;have h2:=Fq a1;rw[e,<- h2] at h1;exact(List.getElem?_inj ad ald).1 h1
theorem agy {m n:Nat}{t:bZ}{d:Nat}(bH:d<m)(fX:t.B d<n): ∃i,i<(ir m n t).length/\kI m n t i=d:=by
 have:d∈ir m n t:=by unfold ir;rw[List.mem_filter,List.mem_range];exact⟨bH,decide_eq_true fX⟩
 obtain⟨i,ad⟩:=List.getElem?_of_mem this;have aZ:=gH ad;refine⟨i,aZ,?_⟩;rw[Fq aZ] at ad;exact dI ad
theorem aeu {m n N:Nat}{A:Nat->Nat->Rat}{t:bZ}(ad:mh m N A t)(cH:∀i,i<m->n<=t.B i->t.T i N=0)(bH:∀i,i<m->t.B i<n\/ ∀j,j<n->t.T i j=0):nI m n N A t (ir m n t).length (kI m n t) where
 inv:=ad
 z:=cH
 le:=by unfold ir;exact Nat.le_trans (List.length_filter_le ..) (by rw[List.length_range];exact dF _)
 lt:=fun i h=>(UY h).1
 inj:=fun i h k a1 e=>agx h a1 e
 dead:=fun d h hO=>by have : ¬t.B d<n:=fun c=>(by obtain⟨i,h1,h2⟩:=agy h c;exact hO i h1 h2);exact⟨by omega,(bH d h).resolve_left this⟩
theorem ahR {α:Type}{T n:Nat}(f:Nat->α)(h:n<=T):(aE T f).take n=aE n f:=by
 apply List.ext_getElem?;intro i;by_cases c:i<n
 ·rw[List.getElem?_take,dw c,fK (by omega),fK c]
 ·rw[List.getElem?_take,dy c,List.getElem?_eq_none_iff.2 (by rw[b2];omega)]
structure tu (m n:Nat) (a:Nat->Nat->Int) (b:Nat->Int) (i:Nat) (t:bZ):Prop where
 bO:nI m n (n+m) (dj m n a b) t m fun q=>q
 Hu : ∀q,q<i->t.B q<n\/ ∀j,j<n->t.T q j=0
theorem tu.cv {m n:Nat}{a:Nat->Nat->Int}{b:Nat->Int}{i:Nat}{t:bZ}(h:tu m n a b i t){k:Nat}(ad:i<m)(a1:k<n)(aP:n<=t.B i)(ah:t.T i k≠0):tu m n a b i (t.cv i k) where
 bO:=h.bO.cv (by omega) ad a1 aP ah
 Hu:=fun q a0=>by
  simp only[bZ.cv];rw[dy (by omega)];rcases h.Hu q a0 with d|d
  ·exact .inl d
  ·exact .inr fun j av=>by rw[dy (by omega),d j av,d k a1];grind
theorem afo {m n:Nat}{a:Nat->Nat->Int}{b:Nat->Int}(gQ:Small m (n+m) (dj m n a b))(hm:m<=20)(aY:n<=40){i:Nat}(ad:i<m)(x0 x1:Int)(e3 ec jn:ar)(fF:Int){t:bZ}(h:tu m n a b i t):
 ∃cN,KZ (i:Int) fF ((n+m:Nat):Int) (iH m (n+m)) x0 (n:Int) e3 ec jn 0 (cX m t) (hB (n+m) (t.cy m (gE m n))) (gD m (n+m) t)=some (cX m cN,hB (n+m) (cN.cy m (gE m n)),gD m (n+m) cN)/\tu m n a b (i+1) cN:=by
 unfold KZ
 obtain⟨r,e,cN,rfl,c3⟩:=tb (f:=fun w:Int×ar×dP×ant=>wQ (i:Int) fF ((n+m:Nat):Int) (iH m (n+m)) x0 (n:Int) e3 ec jn w.1 w.2.1 w.2.2.1 w.2.2.2)
  (fun (j:Nat) (t:bZ)=>((j:Int),cX m t,hB (n+m) (t.cy m (gE m n)),gD m (n+m) t)) n (fun j t=>tu m n a b i t/\(t.B i<n\/ ∀q,q<j->t.T i q=0))
  (fun r=> ∃cN,r=(cX m cN,hB (n+m) (cN.cy m (gE m n)),gD m (n+m) cN)/\tu m n a b (i+1) cN)
  (fun j av t c7=>by
    obtain⟨gu,bH⟩:=c7;have hlen:(cX m t).length=m:=b2 ..;simp only;by_cases c:t.B i<n
    ·refine .inr ⟨_,?_,t,rfl,gu.bO,fun q a0=> ?_⟩
     ·unfold wQ;exact dv (by omega) (bm (by rw[hlen];omega) (aG (x:=((t.B i:Nat):Int)) (by rw[dx];exact hx ad) (d8 (by omega) rfl)))
     ·by_cases e:q=i
      ·rw[e];exact .inl c
      ·exact gu.Hu q (by omega)
    ·have cH : ∀q,q<j->t.T i q=0:=bH.resolve_left c
     have pre : ∀o,(qa (ca (t.T i j)) >>= fun dm=>if (dm != (0:Int))=true then yw (i:Int) (j:Int) ((n+m:Nat):Int) (iH m (n+m)) (cX m t) (hB (n+m) (t.cy m (gE m n))) (gD m (n+m) t) >>= fun gL=>some (.inl (J ((j:Int)+1),gL.1,gL.2.1,gL.2.2)) else some (.inl (J ((j:Int)+1),cX m t,hB (n+m) (t.cy m (gE m n)),gD m (n+m) t)))=some o->wQ (i:Int) fF ((n+m:Nat):Int) (iH m (n+m)) x0 (n:Int) e3 ec jn (j:Int) (cX m t) (hB (n+m) (t.cy m (gE m n))) (gD m (n+m) t)=some o:=fun o an=>(by unfold wQ;exact dv (by omega) (bm (by rw[hlen];omega) (aG (x:=((t.B i:Nat):Int)) (by rw[dx];exact hx ad) (dv (by omega) (bm (by unfold iH;rw[b2];omega) (aG (x:=some (i,n+m+1)) (by rw[dx];exact hx ad) (aG (x:=(i,n+m+1)) rfl (aG (x:=hr (n+m) t i) (fK ad) (bm (by simp only;omega) (aG (x:=ca (t.T i j)) (by rw[dx];exact hx (by omega)) an))))))))));have jt:eH (t.T i j):=gu.bO.inv.JL gQ ad (by omega);by_cases d:t.T i j=0
     ·refine .inl ⟨t,pre _ (aG (qf jt) (h4 ?_ (by rw[fa (by omega)]))),gu,.inr fun q a0=> ?_⟩
      ·rw[pz.2 d];rfl
      ·by_cases e:q=j
       ·rw[e];exact d
       ·exact cH q (by omega)
     ·have P:=gu.bO.inv.Gq gQ (o:=gE m n) (fun j _=>I8 m n j) ad (show j<n+m by omega) d (gu.bO.inv.ok.cv ad (by omega) d)
      have ale:=UR (N:=n+m) (by omega) (by omega) ad (show j<=n+m by omega) d P ((n+m:Nat):Int);refine .inl ⟨t.cv i j,pre _ (aG (qf jt) (fY (wz fun e=>d (pz.1 e)) (aG ale ?_))),gu.cv ad av (by omega) d,.inl ?_⟩
      ·rw[fa (by omega)];congr 3;refine Prod.ext rfl (Prod.ext ?_ rfl);exact ek fun q a0=>by rw[gu.bO.inv.ok.ID (gE m n) ad (by omega) d]
      ·simp only[bZ.cv,if_true];exact av)
  (fun t c7=>by
    obtain⟨gu,bH⟩:=c7;refine⟨_,?_,t,rfl,gu.bO,fun q a0=> ?_⟩
    ·simp only;unfold wQ;exact d8 (by omega) rfl
    ·by_cases e:q=i
     ·rw[e];exact bH
     ·exact gu.Hu q (by omega)) t ⟨h,.inr fun q a0=>by omega⟩
 exact⟨cN,e,c3⟩
theorem aev {m n:Nat}{a:Nat->Nat->Int}{b:Nat->Int}(gQ:Small m (n+m) (dj m n a b))(hm:m<=20)(aY:n<=40)(x0:Int)(e3 ec jn:ar){t:bZ}(h:tu m n a b 0 t):
 ∃cN,K0 (m:Int) ((n+m:Nat):Int) (iH m (n+m)) x0 (n:Int) e3 ec jn 0 (cX m t) (hB (n+m) (t.cy m (gE m n))) (gD m (n+m) t)=some (cX m cN,hB (n+m) (cN.cy m (gE m n)),gD m (n+m) cN)/\tu m n a b m cN:=by
 unfold K0
 obtain⟨cN,e,c3⟩:=hF (f:=fun w:Int×ar×dP×ant=>AY (m:Int) ((n+m:Nat):Int) (iH m (n+m)) x0 (n:Int) e3 ec jn w.1 w.2.1 w.2.2.1 w.2.2.2)
  (fun (i:Nat) (t:bZ)=>((i:Int),cX m t,hB (n+m) (t.cy m (gE m n)),gD m (n+m) t)) m (fun i t=>tu m n a b i t) (fun t=>(cX m t,hB (n+m) (t.cy m (gE m n)),gD m (n+m) t))
  (fun i ad t gu=>by obtain⟨cN,e,c3⟩:=afo gQ hm aY ad x0 x0 e3 ec jn (m:Int) gu;refine⟨cN,?_,c3⟩;simp only;unfold AY;exact dv (by omega) (aG e (by rw[fa (by omega)])))
  (fun t _=>by simp only;unfold AY;exact d8 (by omega) rfl) t h
 exact⟨cN,e,c3⟩
theorem aew {n:Nat}(aY:n<=40){c:Nat->Int}(aX:∀j,j<n-> -100<=c j/\c j<=100)(fF lz:Int)(q1:dS)(q2:ar)(bD:dP)(ct:ant)(e3 ec:ar):
 K1 fF q1 q2 bD ct lz (n:Int) e3 ec (aE n c) 0 []=some (aE n fun j=>ca (c j:Rat)):=by
 unfold K1
 obtain⟨_,e,-⟩:=hF (f:=fun w:Int×dP=>AZ fF q1 q2 bD ct lz (n:Int) e3 ec (aE n c) w.1 w.2) (fun (j:Nat) (_:Unit)=>((j:Int),aE j fun j=>ca (c j:Rat))) n (fun _ _=>True) (fun _=>aE n fun j=>ca (c j:Rat))
  (fun j av _ _=>by refine⟨(),?_,trivial⟩;have:=aX j av;simp only;unfold AZ;refine dv (by omega) (bm (by rw[b2];omega) (aG (gt rfl (fK av)) (aG (si (ln.2 (by omega))) (bm (by simp only[dE,b2,List.length_singleton];omega) ?_))));rw[fa (by omega),k1])
  (fun _ _=>by simp only;unfold AZ;exact d8 (by omega) rfl) () trivial
 exact e
theorem Un (n:Nat)(t:bZ)(i:Nat):ir (i+1) n t=ir i n t++(if t.B i<n then [i] else []):=by
 unfold ir;rw[List.range_succ,List.filter_append];congr 1;by_cases c:t.B i<n
 ·rw[dw c];simp[c]
 ·rw[dy c];simp[c]
theorem VE (n:Nat)(t:bZ){i:Nat}(fX:t.B i<n): ∀m,i<m->(ir m n t)[(ir i n t).length]? = some i
 | 0,h=>by omega
 | m+1,h=>by
  rw[Un];by_cases c:i<m
  ·have:=VE n t fX m c;rw[List.getElem?_append_left (gH this)];exact this
  ·obtain rfl:i=m:=(by omega);rw[dw fX,List.getElem?_append_right (dF _),Nat.sub_self];rfl
theorem ahS (n:Nat)(t:bZ){i m:Nat}(fX:t.B i<n)(h:i<m):kI m n t (ir i n t).length=i:=by have:=VE n t fX m h;have aZ:=gH this;rw[Fq aZ] at this;exact dI this
theorem VF (n:Nat)(t:bZ)(i:Nat):(ir i n t).length<=i:=by unfold ir;exact Nat.le_trans (List.length_filter_le ..) (by rw[List.length_range];exact dF _)
theorem afp {m n:Nat}(hm:m<=20)(aY:n<=40)(t:bZ)(x0:Int)(e3 ec jn:ar)(bD er:dP):
 K2 (m:Int) ((n+m:Nat):Int) (iH m (n+m)) (cX m t) bD (gD m (n+m) t) x0 (n:Int) e3 ec jn er 0 [] [] [] =
  some (iH (ir m n t).length n,gD (ir m n t).length n (pS n (n+m) (kI m n t) t),cX (ir m n t).length (pS n (n+m) (kI m n t) t)):=by
 unfold K2
 obtain⟨_,e,-⟩:=hF (f:=fun w:Int×dS×ant×ar=>A0 (m:Int) ((n+m:Nat):Int) (iH m (n+m)) (cX m t) bD (gD m (n+m) t) x0 (n:Int) e3 ec jn er w.1 w.2.1 w.2.2.1 w.2.2.2)
  (fun (i:Nat) (_:Unit)=>((i:Int),iH (ir i n t).length n,gD (ir i n t).length n (pS n (n+m) (kI m n t) t),cX (ir i n t).length (pS n (n+m) (kI m n t) t))) m (fun _ _=>True)
  (fun _=>(iH (ir m n t).length n,gD (ir m n t).length n (pS n (n+m) (kI m n t) t),cX (ir m n t).length (pS n (n+m) (kI m n t) t)))
  (fun i ad _ _=>by
    refine⟨(),?_,trivial⟩;have hle:=VF n t i;have h1:(iH m (n+m)).length=m:=b2 ..;have h2:(cX m t).length=m:=b2 ..;have bL:=Un n t i;simp only;unfold A0;refine dv (by omega) (bm (by rw[h1];omega) (aG (x:=some (i,n+m+1)) (by rw[dx];exact hx ad) (bm (by rw[h2];omega) (aG (x:=((t.B i:Nat):Int)) (by rw[dx];exact hx ad) ?_))));by_cases c:t.B i<n;rotate_left
    ·refine d8 (by omega) ?_;rw[dy c,List.append_nil] at bL;rw[bL,fa (by omega)]
    rw[dw c] at bL;have dn:=ahS n t c ad
    have ep:([]++((hr (n+m) t i).drop 0).take (((n:Nat):Int).toNat-0))++[ca (t.T i (n+m))]=hr n (pS n (n+m) (kI m n t) t) (ir i n t).length:=by
     rw[dx,List.drop_zero,Nat.sub_zero,List.nil_append];unfold hr;rw[ahR _ (by omega),k1 n];congr 1
     ·exact ek fun j av=>by show _=ca (t.T (kI m n t (ir i n t).length) (nA n (n+m) j));rw[dn,zg av]
     ·show _=[ca (t.T (kI m n t (ir i n t).length) (nA n (n+m) n))];rw[dn,C3]
    have wF:(hr n (pS n (n+m) (kI m n t) t) (ir i n t).length).length=n+1:=b2 ..;have NZ:(gD (ir i n t).length n (pS n (n+m) (kI m n t) t)).length=(ir i n t).length:=b2 ..;refine dv (by omega) (aG (x:=(i,n+m+1)) rfl (aG (x:=hr (n+m) t i) (fK ad) (bm (by omega) (bm (by simp only[dx];omega) (bm (by unfold hr;rw[b2,dx];omega) (bm (by rw[dx,List.nil_append,List.length_take,List.length_drop];omega) (bm (by simp only;omega) (aG (x:=ca (t.T i (n+m))) (by rw[dx];exact hx (by omega)) ?_))))))));rw[ep,wF,NZ];refine bm (by omega) (bm (by simp only[dE,List.length_singleton];unfold iH;rw[b2];omega) (bm (by simp only[dE,List.length_singleton];unfold cX;rw[b2];omega) ?_));have rT:(ir (i+1) n t).length=(ir i n t).length+1:=(by rw[bL,dE];rfl);rw[rT,fa (by omega)];unfold iH gD cX;rw[k1 (ir i n t).length fun q=>(some (q,n+1):bU),k1 (ir i n t).length (hr n (pS n (n+m) (kI m n t) t)),k1 (ir i n t).length fun q=>(((pS n (n+m) (kI m n t) t).B q:Nat):Int)];have aP:(pS n (n+m) (kI m n t) t).B (ir i n t).length=t.B i:=(by show t.B (kI m n t (ir i n t).length)=_;rw[dn]);rw[aP])
  (fun _ _=>by simp only;unfold A0;exact d8 (by omega) rfl) () trivial
 exact e
theorem aex {Pc:Nat}{eX:ant}{row:dP}(h:eX[Pc]? = some row)(k:Int)(b6 len:Nat)(Pd:dP):Ee k Pc b6 len Pd eX=yu k b6 len Pd row:=by
 have e : ∀t jw kO uI,(fun w:Int×dP=>DW Pc b6 len t eX jw kO uI w.1 w.2)=fun w:Int×dP=>wP b6 len t row jw kO uI w.1 w.2:=fun t jw kO uI=>by funext w;unfold DW wP;rw[h];rfl
 unfold Ee yu QJ KY;simp only[e]
theorem I9 {n:Nat}{c:Nat->Int}{j:Nat}(h:n<=j):h9 n c j=0:=by unfold h9 pn;simp only;rw[dy (by omega)];rfl
theorem Wz {n:Nat}{c:Nat->Int}{j:Nat}(h:j<n):h9 n c j=(c j:Rat):=by unfold h9 pn;simp only;rw[dw h]
theorem Jv {n:Nat}{c:Nat->Int}(aX:∀j,j<n-> -100<=c j/\c j<=100)(j:Nat):dW 100 (h9 n c j):=by
 by_cases h:j<n
 ·rw[Wz h];have:=aX j h;exact⟨c j,rfl,by omega⟩
 ·rw[I9 (by omega)];exact⟨0,rfl,by omega⟩
theorem MQ {m n:Nat}{a:Nat->Nat->Int}{b:Nat->Int}{aJ:Nat}{g:Nat->Nat}{hN:Nat->Nat->Rat}{u:bZ}(gQ:Small m (n+m) (dj m n a b))(h:qq m n a b aJ g hN u){o:Nat->Rat}(hw:∀j,dW 100 (o j)){i j:Nat}(ad:i<=aJ)(av:j<=n):eH (o j-cA i (fun q=>o (u.B q)*u.T q j)):=by
 obtain⟨t,h1,h2,U⟩:=h.bO;have hm:=gQ.hm;have ls:=h1.le;have Yz:=h1.inv.z8 gQ;have e:(o j-cA i (fun q=>o (u.B q)*u.T q j))*t.D m (dj m n a b)=o j*t.D m (dj m n a b)-cA i (fun q=>o (u.B q)*(u.T q j*t.D m (dj m n a b))):=by rw[gm (f:=fun q=>o (u.B q)*(u.T q j*t.D m (dj m n a b))) (g:=fun q=>(o (u.B q)*u.T q j)*t.D m (dj m n a b)) (fun q _=>by grind),vL];grind
 have w:dW (21*100*eL) ((o j-cA i (fun q=>o (u.B q)*u.T q j))*t.D m (dj m n a b)):=by
  rw[e];refine dW.mono (((hw j).mul Yz).sub (dW.sum fun q a0=>(hw _).mul (tL:=eL) ?_)) ?_
  ·rw[(U q (by omega)).1 j av];exact h1.inv.vq gQ (h1.lt q (by omega)) (CU (by omega) av)
  ·have:i*(100*eL)<=20*(100*eL):=dL _ (by omega);omega
 exact rJ (Yz.mono (Nat.le_trans (by omega:eL<=21*100*eL) (dF _))) w h1.inv.sU (by grind) (qj xC)
theorem adQ {m n:Nat}{a:Nat->Nat->Int}{b:Nat->Int}{aJ:Nat}{g:Nat->Nat}{hN:Nat->Nat->Rat}{u:bZ}(gQ:Small m (n+m) (dj m n a b))(aY:n<=40)(h:qq m n a b aJ g hN u){o:Nat->Rat}(hw:∀j,dW 100 (o j))(fF lz:Int)(q1:dS)(q2:ar)(bD:dP)(ct:ant):
 K3 (aJ:Int) fF q1 q2 bD ct lz (iH aJ n) (gD aJ n u) (cX aJ u) 0 (hB n o)=some (hB n (u.cy aJ o)):=by
 have ls:aJ<=20:=by obtain⟨t,h1,-,-⟩:=h.bO;have:=h1.le;have:=gQ.hm;omega
 obtain⟨Hv,-⟩:=h.fits gQ;have L:=h.lt;unfold K3
 obtain⟨_,e,-⟩:=hF (f:=fun w:Int×dP=>A1 (aJ:Int) fF q1 q2 bD ct lz (iH aJ n) (gD aJ n u) (cX aJ u) w.1 w.2) (fun (i:Nat) (_:Unit)=>((i:Int),hB n fun j=>o j-cA i (fun q=>o (u.B q)*u.T q j))) aJ (fun _ _=>True) (fun _=>hB n (u.cy aJ o))
  (fun i ad _ _=>by
    refine⟨(),?_,trivial⟩;have aP:=L.jO i ad;have lv:(iH aJ n).length=aJ:=b2 ..;have lh:(cX aJ u).length=aJ:=b2 ..;have YA:o (u.B i)-cA i (fun q=>o (u.B q)*u.T q (u.B i))=o (u.B i):=(by rw[ot fun q a0=>by rw[L.unit q (by omega) i ad,dy (by omega)];grind];grind);have p5 : ∀j,o j-cA i (fun q=>o (u.B q)*u.T q j)-(o (u.B i)-cA i (fun q=>o (u.B q)*u.T q (u.B i)))*u.T i j=o j-cA (i+1) (fun q=>o (u.B q)*u.T q j):=fun j=>by rw[YA,cA];grind
    have alf:=Ul (n+1) (by omega) (u.B i) (by omega) (fun j=>o j-cA i (fun q=>o (u.B q)*u.T q j)) (fun j=>u.T i j) (fun j av=>MQ gQ h hw (by omega) (by omega)) (fun j av=>Hv i ad j (by omega)) (fun j av=>by
     have f1:=MQ gQ h hw (i:=i+1) (j:=j) (by omega) (by omega);rw[YA];obtain⟨t,h1,h2,U⟩:=h.bO;have w:=((hw (u.B i)).neg).mul (h1.inv.vq gQ (h1.lt i ad) (CU (n:=n) (N:=n+m) (j:=j) (by omega) (by omega)));rw[<- (U i ad).1 j (by omega)] at w;exact rJ (K:=21*100*eL) ((h1.inv.z8 gQ).mono (by omega)) (w.mono (by omega)) h1.inv.sU (by grind) (qj xC)) (fun j av=>by
     rw[p5];exact MQ gQ h hw (by omega) (by omega))
    simp only;unfold A1;refine dv (by omega) (bm (by rw[lv];omega) (aG (x:=some (i,n+1)) (by rw[dx];exact hx ad) (bm (by rw[lh];omega) (aG (x:=((u.B i:Nat):Int)) (by rw[dx];exact hx ad) (aG (x:=(i,n+1)) rfl (aG (x:=hr n u i) (fK ad) (aG (x:=hB n fun j=>o j-cA (i+1) (fun q=>o (u.B q)*u.T q j)) ?_ (bm (by unfold hB;rw[b2,b2]) (by rw[fa (by omega)])))))))));refine Eq.trans (aex (eX:=gD aJ n u) (row:=hr n u i) (fK ad) _ _ _ _) (Eq.trans alf ?_);congr 1;exact ek fun j _=>by rw[p5])
  (fun _ _=>by simp only;unfold A1;exact d8 (by omega) rfl) () trivial
 have e0:(hB n fun j=>o j-cA 0 (fun q=>o (u.B q)*u.T q j))=hB n o:=ek fun j _=>by show ca (o j-0)=_;congr 1;grind
 rw[e0] at e;exact e
theorem afq {aJ n:Nat}(hm:aJ<=20)(aY:n<=40){u:bZ}(inj:∀i,i<aJ-> ∀k,k<aJ->u.B i=u.B k->i=k)(Hv:∀i,i<aJ-> ∀j,j<=n->eH (u.T i j))(z:Int)(q:dP){j:Nat}(av:j<n)(k:Nat):Lu z (gD aJ n u) (cX aJ u) q (j:Int) true (k:Int) (aJ:Int) 0 0=some (jQ (cA aJ fun i=>if u.B i=k then u.T i j else 0)):=by
 unfold Lu
 obtain⟨_,e,-⟩:=hF (f:=fun w:Int×Int=>Bw z (gD aJ n u) (cX aJ u) q (j:Int) true (k:Int) (aJ:Int) w.1 w.2) (fun (i:Nat) (_:Unit)=>(jQ (cA i fun i=>if u.B i=k then u.T i j else 0),(i:Int))) aJ (fun _ _=>True) (fun _=>jQ (cA aJ fun i=>if u.B i=k then u.T i j else 0))
  (fun i ad _ _=>by
    refine⟨(),?_,trivial⟩;have lv:(cX aJ u).length=aJ:=b2 ..;have lh:(gD aJ n u).length=aJ:=b2 ..;have x4:(hr n u i).length=n+1:=b2 ..;simp only;unfold Bw;refine dv (by omega) (bm (by rw[lv];omega) (aG (x:=((u.B i:Nat):Int)) (by rw[dx];exact fK ad) ?_));by_cases c:u.B i=k
    ·refine fY (Dw (by omega)) (bm (by rw[lh];omega) (aG (x:=hr n u i) (by rw[dx];exact fK ad) (bm (by rw[x4];omega) (aG (x:=ca (u.T i j)) (by rw[dx];exact fK (by omega)) (aG (qf (Hv i ad j (by omega))) ?_)))));rw[fa (by omega),cA,dw c,ot fun q a0=>dy fun e=>by have:=inj q (by omega) i ad (by omega);omega];congr 4;grind
    ·refine h4 (xL (by omega)) ?_;rw[fa (by omega),cA,dy c,Rat.add_zero])
  (fun _ _=>by simp only;unfold Bw;exact d8 (by omega) rfl) () trivial
 have e0:jQ (cA 0 fun i=>if u.B i=k then u.T i j else 0)=0:=pz.2 rfl;rw[e0] at e;exact e
theorem UZ {aJ:Nat}{c:Nat->Rat}{u:bZ}{j k:Nat}:u.cy aJ (h3 c (k+1)) j=(if j=k then -1 else 0)+cA aJ (fun i=>if u.B i=k then u.T i j else 0):=by
 unfold bZ.cy;have:cA aJ (fun i=>h3 c (k+1) (u.B i)*u.T i j)=cA aJ (fun i=>(-1:Rat)*(if u.B i=k then u.T i j else 0)):=gm fun i _=>by simp only[h3];split<;>grind
 rw[this,j1];simp only[h3];grind
theorem adR {aJ n:Nat}(hm:aJ<=20)(aY:n<=40){c:Nat->Rat}{u:bZ}(inj:∀i,i<aJ-> ∀k,k<aJ->u.B i=u.B k->i=k)(Hv:∀i,i<aJ-> ∀j,j<=n->eH (u.T i j))(alg:∀j,j<=n->eH (u.cy aJ c j)){j:Nat}(av:j<n):
 ∃g,vG ⟨(n:Int),gD aJ n u,cX aJ u,hB n (u.cy aJ c)⟩ (j:Int) true=some g/\((∀i,i<aJ->u.B i≠j)->(0<g↔u.rp aJ (n+1) (h3 c) j)):=by
 have lv:(hB n (u.cy aJ c)).length=n+1:=b2 ..;have lR:len_ eI (cX aJ u)=((aJ:Nat):Int):=by rw[gZ];show ((aE aJ _).length:Int)=_;rw[b2]
 obtain⟨r,e,aj⟩:=tb (f:=fun w:Int×Int=>yi (n:Int) (gD aJ n u) (cX aJ u) (hB n (u.cy aJ c)) (j:Int) true w.1 w.2)
  (fun (k:Nat) (_:Unit)=>(jQ (u.cy aJ (h3 c k) j),(k:Int))) n (fun k _=>k<=j/\ ∀l,l<k->u.cy aJ (h3 c l) j=0)
  (fun r=> ∃g,(r = .inl g\/(r = .inr ()/\g = -1))/\((∀i,i<aJ->u.B i≠j)->(0<g↔u.rp aJ (n+1) (h3 c) j)))
  (fun k a1 _ c7=>by
    obtain⟨anq,cH⟩:=c7;simp only;unfold yi;by_cases z:u.cy aJ (h3 c k) j=0
    ·have fF:jQ (u.cy aJ (h3 c k) j)=0:=pz.2 z
     have vh : ∀l,l<k+1->u.cy aJ (h3 c l) j=0:=fun l aZ=>by
      by_cases e:l=k
      ·rw[e];exact z
      ·exact cH l (by omega)
     by_cases e:k=j
     ·refine .inr ⟨.inr (),?_,-1,.inr ⟨rfl,rfl⟩,fun xX=>⟨fun h=>absurd h (by omega),fun dn=> ?_⟩⟩
      ·rw[fF];exact fY rfl (fY rfl (dv (by omega) (fY (Dw (by omega)) rfl)))
      ·exfalso
       have neg:u.cy aJ (h3 c (k+1)) j = -1:=(by rw[UZ,dw e.symm,ot fun i ad=>dy fun x=>xX i ad (by omega)];grind);obtain⟨l,fP,fH,bC⟩:=dn;simp only at fH bC;by_cases bc:l<k+1
       ·rw[vh l bc] at fH;grind
       ·by_cases cj:l=k+1
        ·rw[cj,neg] at fH;grind
        ·have:=bC (k+1) (by omega);rw[neg] at this;grind
     ·refine .inl ⟨(),?_,by omega,vh⟩;rw[fF,lR];refine fY rfl (fY rfl (dv (by omega) (h4 (xL (by omega)) (aG (afq hm aY inj Hv (n:Int) (hB n (u.cy aJ c)) av k) ?_))));rw[fa (by omega),UZ,dy (fun x=>e x.symm),Rat.zero_add]
    ·refine .inr ⟨.inl (jQ (u.cy aJ (h3 c k) j)),?_,_,.inl rfl,fun xX=> ?_⟩
     ·exact h4 (xL fun x=>z (pz.1 x)) rfl
     ·rw[td]
      constructor
      ·intro h;exact⟨k,by omega,h,cH⟩
      ·rintro⟨l,fP,fH,bC⟩
       simp only at fH bC;by_cases bc:l<k
       ·rw[cH l bc] at fH;grind
       ·by_cases cj:l=k
        ·rw[cj] at fH;exact fH
        ·exact absurd (bC k (by omega)) z)
  (fun _ c7=>absurd c7.1 (by omega)) () ⟨by omega,fun l aZ=>by omega⟩
 obtain⟨g,dn,a0⟩:=aj;refine⟨g,?_,a0⟩;unfold vG;refine bm (by simp only;rw[lv];omega) (aG (x:=ca (u.cy aJ c j)) (by simp only;rw[dx];exact fK (by omega)) (aG (qf (alg j (by omega))) (aG (x:=r) e ?_)));rcases dn with rfl|⟨rfl,rfl⟩<;>rfl
theorem ag6 {x:Rat}(aa:eH x):ES (ca x)=some (ca x):=by
 have p:=aa.dq;have h1:=p.rN;have h2:=p.q8;have e1:(ca x).cK.cC.length<=100:=by show (L (eV x).1.natAbs).length<=100;omega
 have e2:(ca x).ez.length<=100:=by show (L (eV x).2).length<=100;omega
 unfold ES;rw[List.nil_append,List.nil_append];exact bm (by omega) (bm (by omega) rfl)
theorem IJ {aJ n:Nat}{u:bZ}(inj:∀i,i<aJ-> ∀k,k<aJ->u.B i=u.B k->i=k)(j:Nat): ∀i,i<=aJ->(∃q,q<i/\u.B q=j/\u.ht i n j=u.T q n)\/((∀q,q<i->u.B q≠j)/\u.ht i n j=0)
 | 0,_=> .inr ⟨fun q a0=>by omega,rfl⟩
 | i+1,ad=>by
  rw[MP];by_cases c:u.B i=j
  ·rw[dw c]
   rcases IJ inj j i (by omega) with ⟨q,h1,h2,-⟩|⟨-,h2⟩
   ·have:=inj q (by omega) i (by omega) (by omega);omega
   ·exact .inl ⟨i,by omega,c,by rw[h2];grind⟩
  ·rw[dy c,Rat.add_zero]
   rcases IJ inj j i (by omega) with ⟨q,h1,h2,U⟩|⟨h1,h2⟩
   ·exact .inl ⟨q,by omega,h2,U⟩
   ·refine .inr ⟨fun q a0=> ?_,h2⟩
    by_cases e:q=i
    ·rw[e];exact c
    ·exact h1 q (by omega)
theorem afr {p:jz}{m n:Nat}{a:Nat->Nat->Int}{b:Nat->Int}(h:ms p m n a b){c:Nat->Int}(nC:p.hl=aE n c)(aX:∀j,j<n-> -100<=c j/\c j<=100){t:bZ}(cq:tu m n a b 0 t):
 ∃aJ g u q1 q2 bD,aJ<=20/\qq m n a b aJ g u.T u/\B3 p ((n+m:Nat):Int) (iH m (n+m)) (cX m t) (hB (n+m) (t.cy m (gE m n))) (gD m (n+m) t)=some (q1,q2,bD,(n:Int),iH aJ n,cX aJ u,hB n (u.cy aJ (h9 n c)),gD aJ n u):=by
 have hm:=h.hm;have aY:=h.aY;have gQ:=Fh h;obtain⟨cN,bI,ob⟩:=aev gQ hm aY p.f7 p.bR p.bS p.hl cq;have bO:=aeu ob.bO.inv ob.bO.z ob.Hu;have fX : ∀i,i<(ir m n cN).length->cN.B (kI m n cN i)<n:=fun i ad=>(UY ad).2;have U : ∀i,i<(ir m n cN).length->(∀j,j<=n->(pS n (n+m) (kI m n cN) cN).T i j=cN.T (kI m n cN i) (nA n (n+m) j))/\(pS n (n+m) (kI m n cN) cN).B i=cN.B (kI m n cN i):=fun i ad=>⟨fun _ _=>rfl,rfl⟩;have L:=VD bO fX U;have hle:=VF n cN m
 have fr:qq m n a b (ir m n cN).length (kI m n cN) (pS n (n+m) (kI m n cN) cN).T (pS n (n+m) (kI m n cN) cN):=by
  refine⟨?_,cN,bO,fX,U⟩;by_cases z:(ir m n cN).length=0
  ·rw[z];exact⟨fun c aX=>by omega,⟨fun _ _=>0,fun i ad=>by omega⟩,fun i ad=>by omega,fun i ad=>by omega⟩
  ·have:=fX 0 (by omega);exact L.tok (dF _) (by omega)
 have lv:((iH m (n+m)).length:Int)=(m:Int):=by unfold iH;rw[b2]
 have lh:((iH (ir m n cN).length n).length:Int)=(((ir m n cN).length:Nat):Int):=by unfold iH;rw[b2]
 have akK:(aE n fun j=>ca (c j:Rat))++[ca 0]=hB n (h9 n c):=by
  unfold hB;rw[k1];congr 1
  ·exact ek fun j av=>by rw[Wz av]
  ·rw[I9 (dF _)]
 refine⟨(ir m n cN).length,kI m n cN,pS n (n+m) (kI m n cN) cN,cX m cN,hB (n+m) (cN.cy m (gE m n)),gD m (n+m) cN,by omega,fr,?_⟩;unfold B3;rw[lv,h.gl];refine aG bI ?_;simp only;rw[nC];refine aG (aew aY aX _ _ _ _ _ _ _ _) (aG (si (n:=0) (ln.2 (by omega))) ?_);rw[show ((0:Int):Rat)=0 from rfl,akK];refine bm (by unfold hB;rw[b2];omega) (aG (afp hm aY cN _ _ _ _ _ _) ?_);simp only;rw[lh];exact aG (adQ gQ aY fr (Jv aX) _ _ _ _ _ _) rfl
theorem afs {p:jz}{m n:Nat}{a:Nat->Nat->Int}{b:Nat->Int}(h:ms p m n a b){c:Nat->Int}(nC:p.hl=aE n c)(aX:∀j,j<n-> -100<=c j/\c j<=100):
 ∃r,rZ p=some r/\((¬q5 m n a b/\r=⟨2,[],⟨⟨false,[]⟩,[]⟩⟩)\/(q5 m n a b/\ ¬Bounded m n a b (h9 n c)/\r=⟨3,[],⟨⟨false,[]⟩,[]⟩⟩) \/
  ∃x,u2 m n a b (h9 n c) x/\(∀j,eH (x j))/\eH (val n (h9 n c) x)/\r=⟨0,aE n (fun j=>ca (x j)),ca (val n (h9 n c) x)⟩):=by
 have hm:=h.hm;have aY:=h.aY;have gQ:=Fh h;obtain⟨t,e1,c7,bL⟩:=afk h;have alh:=c7.zD gQ (fun j _=>I8 m n j) (dF (n+m));have ali:(hB (n+m) (t.cy m (gE m n))).length=n+m+1:=b2 ..
 have pre : ∀r,(if (jQ (t.cy m (gE m n) (n+m)) != (0:Int))=true then some (⟨2,[],⟨⟨false,[]⟩,[]⟩⟩:xc) else
  B3 p ((n+m:Nat):Int) (iH m (n+m)) (cX m t) (hB (n+m) (t.cy m (gE m n))) (gD m (n+m) t) >>= fun b1 =>
  vE true b1.2.2.2.1 b1.2.2.2.2.1 b1.2.2.2.2.2.1 b1.2.2.2.2.2.2.1 b1.2.2.2.2.2.2.2 >>= fun cZ =>
  if cZ.1=true then
   if 0<=b1.2.2.2.1/\b1.2.2.2.1<(cZ.2.2.1.length:Nat) then
   cZ.2.2.1[(0+b1.2.2.2.1.toNat)]? >>= fun GW =>
   tU GW >>= fun gL =>
   Lo p.f7 p.eM p.bR p.bS p.hl b1.2.2.2.1 b1.2.2.2.2.1 cZ.2.1 cZ.2.2.1 cZ.2.2.2 gL.cK.cR gL.cK.cC gL.ez 0 ([]:dP) >>= fun nb =>
   Lp ((cZ.2.1.length:Nat):Int) b1.2.2.2.1 b1.2.2.2.2.1 cZ.2.1 cZ.2.2.1 cZ.2.2.2 gL.cK.cR gL.cK.cC gL.ez 0 nb >>= fun nQ =>
   some (⟨0,nQ,gL⟩:xc)
   else none
  else some (⟨3,([]:dP),(⟨(⟨false,([]:ar)⟩:bE),([]:ar)⟩:ax)⟩:xc))=some r->rZ p=some r:=fun r aj=>by
  unfold rZ;exact aG (ago h) (aG e1 (bm (by simp only;rw[ali];omega) (aG (x:=ca (t.cy m (gE m n) (n+m))) (by simp only;rw[dx];exact hx (by omega)) (aG (qf alh) aj))))
 by_cases z:t.cy m (gE m n) (n+m)=0;rotate_left
 ·exact⟨_,pre _ (fY (wz fun e=>z (pz.1 e)) rfl),.inl ⟨fun s=>z (bL.2 s),rfl⟩⟩
 have alj:=bL.1 z;have alk:tu m n a b 0 t:=⟨⟨c7,L6 c7.lx z c7.ok.jO,dF _,fun i ad=>ad,fun i _ k _ e=>e,fun d bH hO=>(hO d bH rfl).elim⟩,fun q a0=>by omega⟩;obtain⟨aJ,g,u,q1,q2,bD,ls,fr,e2⟩:=afr h nC aX alk;have an : ∀j,n<=j->h9 n c j=0:=fun j av=>I9 av;have inj : ∀ {v:bZ},qq m n a b aJ g u.T v-> ∀i,i<aJ-> ∀k,k<aJ->v.B i=v.B k->i=k:=fun bf i ad k a1 e=>Nn bf.lt ad a1 e
 obtain⟨q,v,bI,Aq,eQ⟩:=V8 (eZ:=aJ) (m:=aJ) (N:=n) (K:=n+1) (by omega) (by omega) (A:=u.T) (obj:=h3 (h9 n c)) true (qq m n a b aJ g u.T)
  (fun t cq=>⟨cq.ok,cq.lt.lx⟩) (fun t r s cq da=>afn cq da)
  (fun t cq j av=>adR ls aY (inj cq) (fun i ad j av=>(cq.fits gQ).1 i ad j av) (fun j av=>cq.zD gQ an (Jv aX) av) av)
  (fun t cq i ad j av=>(cq.fits gQ).1 i ad j av) (fun t cq i ad j av ah=>(cq.fits gQ).2 i ad j av ah)
  (fun t cq r k aj a1 ah=>cq.Gq gQ an (Jv aX) aj a1 ah) u fr
 have xF:vE true (n:Int) (iH aJ n) (cX aJ u) (hB n (u.cy aJ (h9 n c))) (gD aJ n u)=some (q,cX aJ v,hB n (v.cy aJ (h9 n c)),gD aJ n v):=bI;have Hw:=Aq.lt;rcases eQ with ⟨rfl,eQ⟩|⟨rfl,s,wG,dn,hO⟩;rotate_left
 ·refine⟨_,pre _ (h4 (by rw[pz.2 z];rfl) (aG e2 (aG xF (h4 rfl rfl)))),.inr (.inl ⟨alj,?_,rfl⟩)⟩
  obtain⟨l,aZ,ah,-⟩:=dn
  cases l with
  | zero=>exact Hw.J6 (h9 n c) wG ah hO
  | succ k =>
   obtain⟨i,ad,jG⟩:=Hw.Ua (c:=h9 n c) ah;exact(hO i ad jG).elim
 have mS:=Hw.mS eQ
 have Pe : ∀i,i<=aJ-> ∀j,eH (v.ht i n j):=fun i ad j=>by
  rcases IJ (inj Aq) (n:=n) j i ad with ⟨q,h1,-,U⟩|⟨-,h2⟩
  ·rw[U];exact(Aq.fits gQ).1 q (by omega) n (dF _)
  ·rw[h2];exact Vu (n:=0) (ln.2 (by omega))
 have bf:v.cy aJ (h9 n c) n = -val n (h9 n c) (v.ht aJ n):=by unfold val;rw[Hw.Fw (h9 n c)];unfold bZ.cy;rw[I9 (dF _)];grind
 have X6:=Aq.zD gQ an (Jv aX) (dF n);have aje:eH (val n (h9 n c) (v.ht aJ n)):=by have:=X6.neg;rw[bf,Rat.neg_neg] at this;exact this
 refine⟨_,pre _ (h4 (by rw[pz.2 z];rfl) (aG e2 (aG xF (fY rfl (bm ?_ (aG (x:=ca (v.cy aJ (h9 n c) n)) ?_ (aG (Jl X6) (aG (x:=aE n fun _=>ca 0) ?_ (aG (x:=aE n fun j=>ca (v.ht aJ n j)) ?_ rfl))))))))),.inr (.inr ⟨_,mS,fun j=>Pe aJ (dF _) j,aje,?_⟩)⟩
 ·simp only;unfold hB;rw[b2];omega
 ·simp only;rw[dx];exact hx (by omega)
 ·unfold Lo
  rw[h.gl]
  obtain⟨_,e,-⟩:=hF (f:=fun w:Int×dP=>Bo p.f7 (n:Int) p.bR p.bS p.hl (n:Int) (iH aJ n) (cX aJ v) (hB n (v.cy aJ (h9 n c))) (gD aJ n v) (ca (-v.cy aJ (h9 n c) n)).cK.cR (ca (-v.cy aJ (h9 n c) n)).cK.cC (ca (-v.cy aJ (h9 n c) n)).ez w.1 w.2) (fun (j:Nat) (_:Unit)=>((j:Int),aE j fun _=>ca (0:Rat))) n (fun _ _=>True) (fun _=>aE n fun _=>ca (0:Rat))
   (fun j av _ _=>by refine⟨(),?_,trivial⟩;simp only;unfold Bo;refine dv (by omega) (aG (si (n:=0) (ln.2 (by omega))) (bm (by simp only[dE,b2,List.length_singleton];omega) ?_));rw[fa (by omega),k1];rfl)
   (fun _ _=>by simp only;unfold Bo;exact d8 (by omega) rfl) () trivial
  exact e
 ·have lR:(((cX aJ v).length:Nat):Int)=(aJ:Int):=by unfold cX;rw[b2]
  simp only;rw[lR];unfold Lp
  obtain⟨_,e,-⟩:=hF (f:=fun w:Int×dP=>Bp (aJ:Int) (n:Int) (iH aJ n) (cX aJ v) (hB n (v.cy aJ (h9 n c))) (gD aJ n v) (ca (-v.cy aJ (h9 n c) n)).cK.cR (ca (-v.cy aJ (h9 n c) n)).cK.cC (ca (-v.cy aJ (h9 n c) n)).ez w.1 w.2) (fun (i:Nat) (_:Unit)=>((i:Int),aE n fun j=>ca (v.ht i n j))) aJ (fun _ _=>True) (fun _=>aE n fun j=>ca (v.ht aJ n j))
   (fun i ad _ _=>by
     refine⟨(),?_,trivial⟩;have aP:=Hw.jO i ad;have lv:(cX aJ v).length=aJ:=b2 ..;have lh:(iH aJ n).length=aJ:=b2 ..;simp only;unfold Bp;refine dv (by omega) (bm (by rw[lv];omega) (aG (x:=((v.B i:Nat):Int)) (by rw[dx];exact hx ad) (bm (by rw[lh];omega) (aG (x:=some (i,n+1)) (by rw[dx];exact hx ad) (aG (x:=(i,n+1)) rfl (aG (x:=hr n v i) (fK ad) (bm (by omega) (aG (x:=ca (v.T i n)) (by rw[dx];exact hx (by omega)) (aG (ag6 ((Aq.fits gQ).1 i ad n (dF _))) (bm (by rw[b2];omega) (bm (by rw[b2,dx];omega) ?_)))))))))));rw[fa (by omega),dx,dG,kc];congr 3;refine ek fun j _=> ?_;rw[MP];by_cases e:j=v.B i
     ·rw[dw e,dw e.symm]
      rcases IJ (inj Aq) (n:=n) j i (by omega) with ⟨q,h1,h2,-⟩|⟨-,h2⟩
      ·have:=inj Aq q (by omega) i ad (by omega);omega
      ·rw[h2,Rat.zero_add]
     ·rw[dy e,dy fun x=>e x.symm,Rat.add_zero])
   (fun _ _=>by simp only;unfold Bp;exact d8 (by omega) rfl) () trivial
  exact e
 ·rw[bf,Rat.neg_neg]
def wu (k:Nat)(x:d5):anA:=(if x.jd=2 then [] else [⟨(k:Int),1⟩])++(if x.jd=1 then [] else [⟨(k:Int),-1⟩])
def mE (f5:anw):Nat->anA
 | 0=>[]
 | n+1=>mE f5 n++(match f5[n]? with
  | some x=>wu n x
  | none=>[])
theorem IK (f5:anw): ∀n,(mE f5 n).length<=2*n
 | 0=>by simp[mE]
 | n+1=>by
  have:=IK f5 n;rw[mE,dE]
  have h2:(match f5[n]? with
   | some x=>wu n x
   | none=>[]).length<=2:=by
   split
   ·rename_i x _;unfold wu;rw[dE];split<;>split<;>simp
   ·simp
  omega
theorem U0 {f5:anw}: ∀ {n:Nat} {c:fh},n<=f5.length->c∈mE f5 n-> ∃k:Nat,c.hJ=k/\k<n/\(c.sl=1\/c.sl = -1)
 | 0,c,_,h=>by simp[mE] at h
 | n+1,c,aY,h=>by
  rw[mE,List.mem_append] at h;rcases h with h|h
  ·obtain⟨k,h1,h2,U⟩:=U0 (by omega) h;exact⟨k,h1,by omega,U⟩
  ·rw[dz (by omega)] at h
   simp only[wu,List.mem_append] at h;rcases h with h|h
   ·split at h
    ·simp at h
    ·simp at h;subst h;exact⟨n,rfl,by omega,.inl rfl⟩
   ·split at h
    ·simp at h
    ·simp at h;subst h;exact⟨n,rfl,by omega,.inr rfl⟩
theorem Il (s:cL)(ew:s.bA.length<=1000):wR s=some (mE s.bA s.bA.length):=by
 unfold wR PK;rw[fc]
 obtain⟨x,e,-⟩:=hF (f:=fun w:Int×anA=>AF s.bA (s.bA.length:Nat) w.1 w.2) (fun (n:Nat) (_:Unit)=>((n:Int),mE s.bA n)) s.bA.length (fun _ _=>True) (fun _=>mE s.bA s.bA.length)
  (fun n aY _ _=>by
    refine⟨(),?_,trivial⟩;have aa:=dz aY;have aZ:=IK s.bA n;have e1:mE s.bA (n+1)=mE s.bA n++wu n s.bA[n]:=(by rw[mE,aa]);unfold AF;refine dv (by simp only;omega) (bm (by simp only;omega) (aG (x:=s.bA[n]) (by simp only;rw[dx];exact aa) ?_));simp only;rw[fa (by omega),e1];unfold wu;by_cases bc:s.bA[n].jd=2
    ·rw[dw bc];refine h4 (vm bc) (fY (wz (by omega)) (bm (by simp only[dE,List.length_cons,List.length_nil];omega) ?_));rw[dy (by omega)];simp
    ·rw[dy bc]
     refine fY (wz bc) (bm (by simp only[dE,List.length_cons,List.length_nil];omega) ?_);by_cases cj:s.bA[n].jd=1
     ·refine h4 (vm cj) ?_;rw[dw cj];simp
     ·refine fY (wz cj) (bm (by simp only[dE,List.length_cons,List.length_nil];omega) ?_);rw[dy cj];simp)
  (fun _ _=>by unfold AF;exact d8 (by simp) rfl) () trivial
 exact aG e rfl
theorem LV (s:cL)(ew:s.bA.length<=1000):wX s=some ((mE s.bA s.bA.length).map fh.hJ,(mE s.bA s.bA.length).map fh.sl):=by
 unfold wX Q1;rw[fc]
 obtain⟨x,e,-⟩:=hF (f:=fun w:Int×ar×ar=>A4 s.bA (s.bA.length:Nat) w.1 w.2.1 w.2.2) (fun (n:Nat) (_:Unit)=>((n:Int),(mE s.bA n).map fh.hJ,(mE s.bA n).map fh.sl)) s.bA.length (fun _ _=>True) (fun _=>((mE s.bA s.bA.length).map fh.hJ,(mE s.bA s.bA.length).map fh.sl))
  (fun n aY _ _=>by
    refine⟨(),?_,trivial⟩;have aa:=dz aY;have aZ:=IK s.bA n;have e1:mE s.bA (n+1)=mE s.bA n++wu n s.bA[n]:=(by rw[mE,aa]);unfold A4;refine dv (by simp only;omega) (bm (by simp only;omega) (aG (x:=s.bA[n]) (by simp only;rw[dx];exact aa) ?_));simp only;rw[fa (by omega),e1];unfold wu;by_cases bc:s.bA[n].jd=2
    ·rw[dw bc];refine h4 (vm bc) (fY (wz (by omega)) (bm (by simp only[dE,List.length_map,List.length_cons,List.length_nil];omega) (bm (by simp only[dE,List.length_map,List.length_cons,List.length_nil];omega) ?_)));rw[dy (by omega)];simp
    ·rw[dy bc]
     refine fY (wz bc) (bm (by simp only[dE,List.length_map,List.length_cons,List.length_nil];omega) (bm (by simp only[dE,List.length_map,List.length_cons,List.length_nil];omega) ?_));by_cases cj:s.bA[n].jd=1
     ·refine h4 (vm cj) ?_;rw[dw cj];simp
     ·refine fY (wz cj) (bm (by simp only[dE,List.length_map,List.length_cons,List.length_nil];omega) (bm (by simp only[dE,List.length_map,List.length_cons,List.length_nil];omega) ?_));rw[dy cj];simp)
  (fun _ _=>by unfold A4;exact d8 (by simp) rfl) () trivial
 exact aG e rfl
theorem Ja {α:Type}(a b:Nat)(f:Nat->α):aE (a+b) f=aE a f++aE b (fun j=>f (a+j)):=by
 induction b with
 | zero=>simp[aE]
 | succ b ih=>rw[<- Nat.add_assoc,k1,ih,k1,List.append_assoc]
def n7 (s:cL)(k:Nat):Int×Int:=(rW s k).getD (0,0)
theorem MR (s:cL)(h:lX s)(k:Nat)(a1:k<s.bA.length):rW s k=some (n7 s k)/\(-100<=(n7 s k).1/\(n7 s k).1<=100)/\(-100<=(n7 s k).2/\(n7 s k).2<=100):=by
 obtain⟨x,y,h1,U,ai⟩:=agX s h k (by omega) (by omega);have e:n7 s k=(x,y):=by unfold n7;rw[h1];rfl
 rw[e];exact⟨h1,U,ai⟩
def j7 (s:cL)(j:Int)(kE k:Nat):Int :=
 match s.bA[k]? with
 | none=>0
 | some x=>if j=x.bR then (if kE=0 then (n7 s k).1 else (n7 s k).2) else if j=x.bS then -(if kE=0 then (n7 s k).1 else (n7 s k).2) else 0
theorem ahT (s:cL)(h:lX s)(j:Int)(kE k:Nat): -100<=j7 s j kE k/\j7 s j kE k<=100:=by
 unfold j7;split
 ·omega
 ·rename_i x aa
  obtain⟨-,U,ai⟩:=MR s h k (gH aa);split
  ·split<;>omega
  ·split
   ·split<;>omega
   ·omega
theorem ag7 (s:cL)(h:lX s)(j:Int)(q1:ar)(q2 bD:Int)(ct:ar):
 Lt j q1 q2 bD s.bA (len_ ck s.bA) s.cc ct 0 ([]:ar) ([]:ar)=some (aE s.bA.length (j7 s j 0),aE s.bA.length (j7 s j 1)):=by
 obtain⟨-,-,f3,f4⟩:=id h;unfold Lt;rw[fc]
 obtain⟨x,e,-⟩:=hF (f:=fun w:Int×ar×ar=>Bu j q1 q2 bD s.bA (s.bA.length:Nat) s.cc ct w.1 w.2.1 w.2.2) (fun (n:Nat) (_:Unit)=>((n:Int),aE n (j7 s j 0),aE n (j7 s j 1))) s.bA.length (fun _ _=>True) (fun _=>(aE s.bA.length (j7 s j 0),aE s.bA.length (j7 s j 1)))
  (fun n aY _ _=>by
    refine⟨(),?_,trivial⟩;have aa:=dz aY;obtain⟨v1,v3,v4⟩:=MR s h n aY;have v2:=agY s h n (by omega) (by omega) v1;unfold Bu;refine dv (by simp only;omega) (bm (by simp only;omega) (aG (x:=s.bA[n]) (by simp only;rw[dx];exact aa) (aG (x:=n7 s n) v2 ?_)));simp only;rw[fa (by omega),k1,k1];have g : ∀(F:Nat->Int) (v:Int),(aE n F++[v]).length*8<=140737488355328:=fun F v=>(by simp only[dE,b2,List.length_cons,List.length_nil];omega);by_cases bc:j=s.bA[n].bR
    ·have e0 : ∀kE,j7 s j kE n=if kE=0 then (n7 s n).1 else (n7 s n).2:=fun kE=>(by unfold j7;rw[aa];simp only[dw bc]);refine fY (Dw bc) (bm (g _ _) (bm (g _ _) ?_));rw[e0,e0];rfl
    ·refine h4 (xL bc) ?_
     by_cases cj:j=s.bA[n].bS
     ·have e0 : ∀kE,j7 s j kE n = -(if kE=0 then (n7 s n).1 else (n7 s n).2):=fun kE=>(by unfold j7;rw[aa];simp only[dy bc,dw cj]);refine fY (Dw cj) (bm (g _ _) (bm (g _ _) ?_));rw[e0,e0,cu (by omega) (by omega),cu (by omega) (by omega)];simp
     ·have e0 : ∀kE,j7 s j kE n=0:=fun kE=>(by unfold j7;rw[aa];simp only[dy bc,dy cj]);refine h4 (xL cj) (bm (g _ _) (bm (g _ _) ?_));rw[e0,e0])
  (fun _ _=>by unfold Bu;exact d8 (by simp) rfl) () trivial
 exact e
theorem ag8 (s:cL)(h:lX s)(j:Int)(q1:ar)(q2 bD:Int)(ct:anC):
 KA s.cc s.bA j q1 q2 bD (len_ ck s.bA) ct 0 (aE s.bA.length fun _=>(0:Int)) (aE s.bA.length fun _=>(0:Int))=some (aE s.bA.length (j7 s j 0),aE s.bA.length (j7 s j 1)):=by
 obtain⟨-,-,f3,f4⟩:=id h;unfold KA;rw[fc]
 obtain⟨x,e,-⟩:=hF (f:=fun w:Int×ar×ar=>AA s.cc s.bA j q1 q2 bD (s.bA.length:Nat) ct w.1 w.2.1 w.2.2) (fun (n:Nat) (_:Unit)=>((n:Int),(aE s.bA.length fun k=>if k<n then j7 s j 0 k else 0),aE s.bA.length fun k=>if k<n then j7 s j 1 k else 0)) s.bA.length (fun _ _=>True) (fun _=>(aE s.bA.length (j7 s j 0),aE s.bA.length (j7 s j 1)))
  (fun n aY _ _=>by
    refine⟨(),?_,trivial⟩;have aa:=dz aY;obtain⟨v1,v3,v4⟩:=MR s h n aY
    have da : ∀kE v,v=j7 s j kE n->(aE s.bA.length fun k=>if k<n then j7 s j kE k else 0).set n v=aE s.bA.length fun k=>if k<n+1 then j7 s j kE k else 0:=fun kE v bf=>by
     rw[kc];refine ek fun k _=> ?_;by_cases c:k=n
     ·subst c;rw[dw rfl,dw (by omega)];exact bf
     ·rw[dy c]
      by_cases cj:k<n
      ·rw[dw cj,dw (by omega)]
      ·rw[dy cj,dy (by omega)]
    have g1 : ∀F:Nat->Int,0<=((n:Nat):Int)/\((n:Nat):Int)<((aE s.bA.length F).length:Nat):=fun F=>(by rw[b2];omega);have g2 : ∀F:Nat->Int,0+((n:Nat):Int).toNat<(aE s.bA.length F).length:=fun F=>(by rw[b2,dx];omega);unfold AA;refine dv (by simp only;omega) (bm (by simp only;omega) (aG (x:=s.bA[n]) (by simp only;rw[dx];exact aa) (aG (x:=n7 s n) v1 ?_)));simp only;by_cases bc:j=s.bA[n].bR
    ·have e0 : ∀kE,j7 s j kE n=if kE=0 then (n7 s n).1 else (n7 s n).2:=fun kE=>(by unfold j7;rw[aa];simp only[dw bc]);refine fY (Dw bc) (bm (g1 _) (bm (g2 _) (bm (g1 _) (bm (g2 _) ?_))));rw[fa (by omega),dx,dG,da 0 _ (by rw[e0];rfl),da 1 _ (by rw[e0];rfl)]
    ·refine h4 (xL bc) ?_
     by_cases cj:j=s.bA[n].bS
     ·have e0 : ∀kE,j7 s j kE n = -(if kE=0 then (n7 s n).1 else (n7 s n).2):=fun kE=>(by unfold j7;rw[aa];simp only[dy bc,dw cj]);refine fY (Dw cj) (bm (g1 _) (bm (g2 _) (bm (g1 _) (bm (g2 _) ?_))));rw[fa (by omega),dx,dG,cu (by omega) (by omega),cu (by omega) (by omega),da 0 _ (by rw[e0];simp),da 1 _ (by rw[e0];simp)]
     ·have e0 : ∀kE,j7 s j kE n=0:=fun kE=>by unfold j7;rw[aa];simp only[dy bc,dy cj]
      refine h4 (xL cj) ?_;rw[fa (by omega)];congr 4
      ·refine ek fun k _=> ?_
       by_cases c:k=n
       ·subst c;rw[dy (by omega),dw (by omega),e0]
       ·by_cases cj:k<n
        ·rw[dw cj,dw (by omega)]
        ·rw[dy cj,dy (by omega)]
      ·refine ek fun k _=> ?_
       by_cases c:k=n
       ·subst c;rw[dy (by omega),dw (by omega),e0]
       ·by_cases cj:k<n
        ·rw[dw cj,dw (by omega)]
        ·rw[dy cj,dy (by omega)])
  (fun _ _=>by
    unfold AA;refine d8 (by simp) ?_;simp only;congr 3
    ·exact ek fun k a1=>by rw[dw a1]
    ·exact ek fun k a1=>by rw[dw a1]) () trivial
 have z : ∀kE,(aE s.bA.length fun k=>if k<0 then j7 s j kE k else 0)=aE s.bA.length fun _=>(0:Int):=fun kE=>ek fun k _=>by rw[dy (by omega)]
 rw[z,z] at e;exact e
def i6 (s:cL)(q:Nat):Nat:=(mB s.cc 0).getD q 0
def c5 (s:cL):Nat:=(mB s.cc 0).length
def lY (s:cL)(r k:Nat):Int:=j7 s (i6 s (r / 2)) (r % 2) k
theorem Fs (s:cL):(mB s.cc 0).map (fun n:Nat=>(n:Int))=aE (c5 s) fun q=>((i6 s q:Nat):Int):=by
 apply List.ext_getElem?;intro q;rw[dJ];by_cases c:q<c5 s
 ·rw[fK c];have h:(mB s.cc 0)[q]? = some (mB s.cc 0)[q]:=dz c;unfold i6;rw[List.getD_eq_getElem?_getD,h];rfl
 ·rw[List.getElem?_eq_none_iff.2 (by unfold c5 at c;omega),List.getElem?_eq_none_iff.2 (by rw[b2];omega)];rfl
theorem We (s:cL){q:Nat}(h:q<c5 s):i6 s q<s.cc.length:=by
 have h1:(mB s.cc 0)[q]? = some (mB s.cc 0)[q]:=dz h;have h2:i6 s q=(mB s.cc 0)[q]:=by unfold i6;rw[List.getD_eq_getElem?_getD,h1];rfl
 have:=ML s.cc 0 _ (dH h1);omega
theorem ul (s:cL):c5 s<=s.cc.length:=UP s.cc 0
theorem M0 {α:Type}(r n:Nat)(e:Nat->Nat->α):(aE (r*n) fun x=>e (x / n) (x % n))++aE n (e r)=aE ((r+1)*n) fun x=>e (x / n) (x % n):=by
 rw[Nat.succ_mul,Ja];congr 1;refine ek fun j av=> ?_;have h1:(r*n+j) / n=r:=by rw[Nat.mul_comm,Nat.mul_add_div (by omega),Nat.div_eq_of_lt av];rfl
 have h2:(r*n+j) % n=j:=by rw[Nat.mul_comm,Nat.mul_add_mod,Nat.mod_eq_of_lt av]
 rw[h1,h2]
theorem aey (s:cL)(h:lX s):ER s=some (aE (2*c5 s*s.bA.length) fun x=>lY s (x / s.bA.length) (x % s.bA.length)):=by
 obtain⟨-,-,f3,f4⟩:=id h;have sQ:=ul s;unfold ER;refine aG (Mi s (by omega)) ?_;rw[Fs,gZ,b2];unfold R8
 obtain⟨x,e,-⟩:=hF (f:=fun w:Int×ar=>Bv (aE (c5 s) fun q=>((i6 s q:Nat):Int)) ((c5 s:Nat):Int) s.cc s.bA w.1 w.2) (fun (n:Nat) (_:Unit)=>((n:Int),aE (2*n*s.bA.length) fun x=>lY s (x / s.bA.length) (x % s.bA.length))) (c5 s) (fun _ _=>True) (fun _=>aE (2*c5 s*s.bA.length) fun x=>lY s (x / s.bA.length) (x % s.bA.length))
  (fun n aY _ _=>by refine⟨(),?_,trivial⟩;have aP:2*n*s.bA.length<=12*8:=Nat.mul_le_mul (by omega) f4;unfold Bv;refine dv (by simp only;omega) (bm (by rw[b2];simp only;omega) (aG (x:=((i6 s n:Nat):Int)) (by simp only;rw[dx];exact fK aY) (aG (ag7 s h _ _ _ _ _) ?_)));refine bm (by simp only[dE,b2];omega) (bm (by simp only[dE,b2];omega) ?_);simp only;rw[fa (by omega)];have r1:aE s.bA.length (j7 s (i6 s n) 0)=aE s.bA.length (lY s (2*n)):=ek fun k _=>(by unfold lY;rw[show 2*n / 2=n by omega,show 2*n % 2=0 by omega]);have r2:aE s.bA.length (j7 s (i6 s n) 1)=aE s.bA.length (lY s (2*n+1)):=ek fun k _=>(by unfold lY;rw[show (2*n+1) / 2=n by omega,show (2*n+1) % 2=1 by omega]);rw[r1,r2,M0 (2*n),M0 (2*n+1),show 2*n+1+1=2*(n+1) by omega])
  (fun _ _=>by unfold Bv;exact d8 (by simp) rfl) () trivial
 have z:(aE (2*0*s.bA.length) fun x=>lY s (x / s.bA.length) (x % s.bA.length))=[]:=by simp[aE]
 rw[z] at e;exact aG e rfl
theorem acN (s:cL)(h:lX s):DU s=some (aE (2*c5 s) fun r=>aE s.bA.length (lY s r)):=by
 obtain⟨-,-,f3,f4⟩:=id h;have sQ:=ul s;unfold DU;refine aG (SU s (by omega)) ?_;rw[Fs,gZ,b2];unfold Px
 obtain⟨x,e,-⟩:=hF (f:=fun w:Int×anC=>AB s.cc s.bA (aE (c5 s) fun q=>((i6 s q:Nat):Int)) ((c5 s:Nat):Int) w.1 w.2) (fun (n:Nat) (_:Unit)=>((n:Int),aE (2*n) fun r=>aE s.bA.length (lY s r))) (c5 s) (fun _ _=>True) (fun _=>aE (2*c5 s) fun r=>aE s.bA.length (lY s r))
  (fun n aY _ _=>by refine⟨(),?_,trivial⟩;unfold AB;refine dv (by simp only;omega) (bm (by rw[b2];simp only;omega) (aG (x:=((i6 s n:Nat):Int)) (by simp only;rw[dx];exact fK aY) (bm (by rw[fc];omega) ?_)));refine aG (x:=(aE s.bA.length (j7 s (i6 s n) 0),aE s.bA.length (j7 s (i6 s n) 1))) (by rw[show (len_ ck s.bA).toNat=s.bA.length by rw[fc,dx],pe];exact ag8 s h _ _ _ _ _) (bm (by simp only[dE,b2,List.length_cons,List.length_nil];omega) ?_);simp only;rw[fa (by omega),show 2*(n+1)=2*n+1+1 by omega,k1 (2*n+1),k1 (2*n)];have r1:aE s.bA.length (j7 s (i6 s n) 0)=aE s.bA.length (lY s (2*n)):=ek fun k _=>(by unfold lY;rw[show 2*n / 2=n by omega,show 2*n % 2=0 by omega]);have r2:aE s.bA.length (j7 s (i6 s n) 1)=aE s.bA.length (lY s (2*n+1)):=ek fun k _=>(by unfold lY;rw[show (2*n+1) / 2=n by omega,show (2*n+1) % 2=1 by omega]);rw[r1,r2];simp)
  (fun _ _=>by unfold AB;exact d8 (by simp) rfl) () trivial
 exact aG e rfl
def gl (s:cL):anA:=mE s.bA s.bA.length
def bV (s:cL):Nat:=(gl s).length
def gz (s:cL)(c:Nat):Nat:=((gl s).getD c ⟨0,0⟩).hJ.toNat
def oI (s:cL)(c:Nat):Int:=((gl s).getD c ⟨0,0⟩).sl
def l1 (s:cL)(i c:Nat):Int:=oI s c*lY s i (gz s c)
def p7 (s:cL)(l:ar)(i:Nat):Int:= -(l.getD (2*i6 s (i / 2)+i % 2) 0)
theorem u6 (s:cL){c:Nat}(aX:c<bV s):(gl s)[c]? = some ⟨(gz s c:Int),oI s c⟩/\gz s c<s.bA.length/\(oI s c=1\/oI s c = -1):=by
 have h1:(gl s)[c]? = some (gl s)[c]:=dz aX;have h2:(gl s).getD c ⟨0,0⟩=(gl s)[c]:=by rw[List.getD_eq_getElem?_getD,h1];rfl
 obtain⟨k,e1,e2,bI⟩:=U0 (dF _) (dH h1);have c1:gz s c=k:=by unfold gz;rw[h2,e1];rfl
 have di:oI s c=((gl s)[c]).sl:=by unfold oI;rw[h2]
 refine⟨?_,by omega,by rw[di];exact bI⟩;rw[h1,c1,di,<- e1]
theorem qZ (s:cL):bV s<=2*s.bA.length:=IK _ _
theorem M1 (s:cL):(gl s).map fh.hJ=aE (bV s) fun c=>((gz s c:Nat):Int):=by
 apply List.ext_getElem?;intro c;rw[dJ];by_cases h:c<bV s
 ·rw[(u6 s h).1,fK h];rfl
 ·rw[List.getElem?_eq_none_iff.2 (by unfold bV at h;omega),List.getElem?_eq_none_iff.2 (by rw[b2];omega)];rfl
theorem VG (s:cL):(gl s).map fh.sl=aE (bV s) (oI s):=by
 apply List.ext_getElem?;intro c;rw[dJ];by_cases h:c<bV s
 ·rw[(u6 s h).1,fK h];rfl
 ·rw[List.getElem?_eq_none_iff.2 (by unfold bV at h;omega),List.getElem?_eq_none_iff.2 (by rw[b2];omega)];rfl
theorem Nz (s:cL)(h:lX s)(i:Nat){c:Nat}(aX:c<bV s): -100<=l1 s i c/\l1 s i c<=100:=by have h1:=ahT s h (i6 s (i / 2)) (i % 2) (gz s c);unfold l1 lY;rcases(u6 s aX).2.2 with e|e<;>rw[e]<;>omega
theorem agz (s:cL)(h:lX s)(l:ar)(aZ:l.length=2*s.cc.length)(aP:∀x∈l,-100<=x/\x<=100):EC s l=some (aE (2*c5 s) (p7 s l)):=by
 obtain⟨-,-,f3,f4⟩:=id h;have sQ:=ul s;unfold EC;refine aG (Mi s (by omega)) ?_;rw[Fs,gZ,b2];unfold RK
 obtain⟨x,e,-⟩:=hF (f:=fun w:Int×ar=>Bj l (aE (c5 s) fun q=>((i6 s q:Nat):Int)) ((c5 s:Nat):Int) w.1 w.2) (fun (n:Nat) (_:Unit)=>((n:Int),aE (2*n) (p7 s l))) (c5 s) (fun _ _=>True) (fun _=>aE (2*c5 s) (p7 s l))
  (fun n aY _ _=>by refine⟨(),?_,trivial⟩;have cg:=We s aY;have nT:J ((2:Int)*((i6 s n:Nat):Int))=((2*i6 s n:Nat):Int):=(by rw[cu (by omega) (by omega)];omega);have uJ:J (((2*i6 s n:Nat):Int)+1)=((2*i6 s n+1:Nat):Int):=fa (by omega);have x1:=aP l[2*i6 s n] (List.getElem_mem (by omega));have x2:=aP l[2*i6 s n+1] (List.getElem_mem (by omega));have p1:p7 s l (2*n) = -l[2*i6 s n]:=(by unfold p7;rw[show 2*n / 2=n by omega,show 2*n % 2=0 by omega,Nat.add_zero,List.getD_eq_getElem?_getD,dz (by omega)];rfl);have p2:p7 s l (2*n+1) = -l[2*i6 s n+1]:=(by unfold p7;rw[show (2*n+1) / 2=n by omega,show (2*n+1) % 2=1 by omega,List.getD_eq_getElem?_getD,dz (by omega)];rfl);unfold Bj;refine dv (by simp only;omega) (bm (by rw[b2];simp only;omega) (aG (x:=((i6 s n:Nat):Int)) (by simp only;rw[dx];exact fK aY) ?_));rw[nT,uJ];refine bm (by omega) (aG (x:=l[2*i6 s n]) (by rw[dx];exact dz (by omega)) (bm (by omega) (aG (x:=l[2*i6 s n+1]) (by rw[dx];exact dz (by omega)) (bm (by simp only[dE,b2,List.length_cons,List.length_nil];omega) ?_))));simp only;rw[fa (by omega),cu (by omega) (by omega),cu (by omega) (by omega),show 2*(n+1)=2*n+1+1 by omega,k1 (2*n+1),k1 (2*n),p1,p2];simp)
  (fun _ _=>by unfold Bj;exact d8 (by simp) rfl) () trivial
 exact aG e rfl
def YB (s:cL)(l:ar):jz:=⟨((2*c5 s:Nat):Int),(bV s:Int),aE (2*c5 s*bV s) (fun x=>l1 s (x / bV s) (x % bV s)),aE (2*c5 s) (p7 s l),aE (bV s) fun _=>0⟩
theorem ac2 (s:cL)(h:lX s)(l:ar)(aZ:l.length=2*s.cc.length)(aP:∀x∈l,-100<=x/\x<=100):Eo s l=some (YB s l):=by
 obtain⟨-,-,f3,f4⟩:=id h;have sQ:=ul s;have nC:=qZ s;unfold Eo;refine aG (LV s (by omega)) (aG (aey s h) (aG (Mi s (by omega)) (aG (agz s h l aZ aP) ?_)));show (if 0<=len_ eI ((gl s).map fh.hJ)/\_ then _ else none)=_;rw[Fs]
 show (if 0<=len_ eI ((gl s).map fh.hJ)/\(8:Int)*len_ eI ((gl s).map fh.hJ)<=281474976710656/\len_ eI ((gl s).map fh.hJ)<9223372036854775808 then
  K8 ((gl s).map fh.hJ) ((gl s).map fh.sl) (len_ ck s.bA) _ (J ((2:Int)*len_ eI (aE (c5 s) fun q=>((i6 s q:Nat):Int)))) (len_ eI ((gl s).map fh.hJ)) (aE (2*c5 s) (p7 s l)) (List.replicate (len_ eI ((gl s).map fh.hJ)).toNat 0) 0 [] >>= fun dl=>some (⟨J ((2:Int)*len_ eI (aE (c5 s) fun q=>((i6 s q:Nat):Int))),len_ eI ((gl s).map fh.hJ),dl,aE (2*c5 s) (p7 s l),List.replicate (len_ eI ((gl s).map fh.hJ)).toNat 0⟩:jz) else none)=_
 rw[M1,VG,gZ,b2,gZ,b2,dx,fc,show J ((2:Int)*(c5 s:Nat))=((2*c5 s:Nat):Int) by rw[cu (by omega) (by omega)];omega,pe];refine bm (by omega) (aG (x:=aE (2*c5 s*bV s) (fun x=>l1 s (x / bV s) (x % bV s))) ?_ rfl);unfold K8
 obtain⟨x,e,-⟩:=hF (f:=fun w:Int×ar=>A6 (aE (bV s) fun c=>((gz s c:Nat):Int)) (aE (bV s) (oI s)) (s.bA.length:Nat) (aE (2*c5 s*s.bA.length) fun x=>lY s (x / s.bA.length) (x % s.bA.length)) ((2*c5 s:Nat):Int) ((bV s:Nat):Int) (aE (2*c5 s) (p7 s l)) (aE (bV s) fun _=>0) w.1 w.2) (fun (i:Nat) (_:Unit)=>((i:Int),aE (i*bV s) (fun x=>l1 s (x / bV s) (x % bV s)))) (2*c5 s) (fun _ _=>True) (fun _=>aE (2*c5 s*bV s) (fun x=>l1 s (x / bV s) (x % bV s)))
  (fun i ad _ _=>by
    refine⟨(),?_,trivial⟩;have XB:i*bV s<=12*16:=Nat.mul_le_mul (by omega) (by omega);have nM:i*s.bA.length<=12*8:=Nat.mul_le_mul (by omega) f4
    obtain⟨y,e2,-⟩:=hF (f:=fun w:Int×ar=>A5 (aE (bV s) fun c=>((gz s c:Nat):Int)) (aE (bV s) (oI s)) (s.bA.length:Nat) (aE (2*c5 s*s.bA.length) fun x=>lY s (x / s.bA.length) (x % s.bA.length)) (i:Int) ((bV s:Nat):Int) ((2*c5 s:Nat):Int) ((bV s:Nat):Int) (aE (2*c5 s) (p7 s l)) (aE (bV s) fun _=>0) w.1 w.2)
     (fun (c:Nat) (_:Unit)=>((c:Int),(aE (i*bV s) fun x=>l1 s (x / bV s) (x % bV s))++aE c (l1 s i))) (bV s) (fun _ _=>True) (fun _=>(aE (i*bV s) fun x=>l1 s (x / bV s) (x % bV s))++aE (bV s) (l1 s i))
     (fun c aX _ _=>by refine⟨(),?_,trivial⟩;obtain⟨-,kA,o5⟩:=u6 s aX;have rj:(i+1)*s.bA.length<=2*c5 s*s.bA.length:=dL _ ad;rw[Nat.succ_mul] at rj;have iC:J (J ((i:Int)*((s.bA.length:Nat):Int))+((gz s c:Nat):Int))=((i*s.bA.length+gz s c:Nat):Int):=(by rw[<- Int.natCast_mul,cu (x:=((i*s.bA.length:Nat):Int)) (by omega) (by omega),cu (by omega) (by omega)];omega);have h2:(i*s.bA.length+gz s c) / s.bA.length=i:=(by rw[Nat.mul_comm,Nat.mul_add_div (by omega),Nat.div_eq_of_lt kA];rfl);have U:(i*s.bA.length+gz s c) % s.bA.length=gz s c:=(by rw[Nat.mul_comm,Nat.mul_add_mod,Nat.mod_eq_of_lt kA]);have akL:=Nz s h i aX;unfold A5;refine dv (by simp only;omega) (bm (by rw[b2];simp only;omega) (aG (x:=((gz s c:Nat):Int)) (by simp only;rw[dx];exact fK aX) (bm (by rw[b2];simp only;omega) (aG (x:=oI s c) (by simp only;rw[dx];exact fK aX) ?_))));rw[iC];refine bm (by rw[b2];omega) (aG (x:=lY s i (gz s c)) (by rw[dx,fK (by omega),h2,U]) (bm (by simp only[dE,b2,List.length_cons,List.length_nil];omega) ?_));simp only;rw[fa (by omega),k1,show oI s c*lY s i (gz s c)=l1 s i c from rfl,cu (by omega) (by omega),List.append_assoc])
     (fun _ _=>by unfold A5;exact d8 (by simp) rfl) () trivial
    have z:(aE (i*bV s) fun x=>l1 s (x / bV s) (x % bV s))++aE 0 (l1 s i)=aE (i*bV s) fun x=>l1 s (x / bV s) (x % bV s):=(by simp[aE]);rw[z] at e2;unfold A6;refine dv (by simp only;omega) (aG (x:=(aE (i*bV s) fun x=>l1 s (x / bV s) (x % bV s))++aE (bV s) (l1 s i)) (by unfold Q3;rw[gZ,b2];exact e2) ?_);simp only;rw[fa (by omega),M0])
  (fun _ _=>by unfold A6;exact d8 (by simp) rfl) () trivial
 have z:(aE (0*bV s) fun x=>l1 s (x / bV s) (x % bV s))=[]:=by simp[aE]
 rw[z] at e;exact e
def qJ (s:cL)(r c:Nat):Int:=if r<2*c5 s/\c<bV s then l1 s r c else 0
def k0 (s:cL)(l:ar)(r:Nat):Int:=if r<2*c5 s then p7 s l r else 0
def rV (s:cL)(N i c x:Nat):Int:=if (x / N<i\/(x / N=i/\x % N<c))/\x % N<bV s then l1 s (x / N) (x % N) else 0
theorem ahU (s:cL){T N i c:Nat}(aX:c<bV s)(fw:bV s<=N)(hM:i*N+c<T){v:Int}(bf:v=l1 s i c):(aE T (rV s N i c)).set (i*N+c) v=aE T (rV s N i (c+1)):=by
 have h2:(i*N+c) / N=i:=by rw[Nat.mul_comm,Nat.mul_add_div (by omega),Nat.div_eq_of_lt (by omega)];rfl
 have U:(i*N+c) % N=c:=by rw[Nat.mul_comm,Nat.mul_add_mod,Nat.mod_eq_of_lt (by omega)]
 rw[kc];refine ek fun x _=> ?_;unfold rV;by_cases e:x=i*N+c
 ·rw[dw e,e,h2,U,dw ⟨.inr ⟨rfl,by omega⟩,aX⟩,bf]
 ·rw[dy e]
  have dd : ¬(x / N=i/\x % N=c):=fun ⟨a,b⟩=>e (by rw[<- Nat.div_add_mod x N,a,b,Nat.mul_comm]);by_cases d:(x / N<i\/(x / N=i/\x % N<c))/\x % N<bV s
  ·rw[dw d,dw ⟨by omega,d.2⟩]
  ·rw[dy d,dy (fun Ak=>d ⟨by omega,Ak.2⟩)]
theorem ahV (s:cL)(T N i:Nat):aE T (rV s N i (bV s))=aE T (rV s N (i+1) 0):=by
 refine ek fun x _=> ?_;unfold rV;by_cases d:(x / N<i\/(x / N=i/\x % N<bV s))/\x % N<bV s
 ·rw[dw d,dw ⟨by omega,d.2⟩]
 ·rw[dy d,dy (fun Ak=>d ⟨by omega,Ak.2⟩)]
theorem ag9 (s:cL)(T N:Nat):aE T (rV s N 0 0)=aE T fun _=>0:=ek fun x _=>by unfold rV;rw[dy (fun h=>by rcases h.1 with h|h;exact Nat.not_lt_zero _ h;exact Nat.not_lt_zero _ h.2)]
theorem ahW (s:cL)(T N:Nat):aE T (rV s N (2*c5 s) 0)=aE T fun x=>qJ s (x / N) (x % N):=ek fun x _=>by
 unfold rV qJ;by_cases d:x / N<2*c5 s/\x % N<bV s
 ·rw[dw d,dw ⟨.inl d.1,d.2⟩]
 ·rw[dy d,dy (fun Ak=>d ⟨by omega,Ak.2⟩)]
theorem aha (s:cL)(l:ar)(M:Nat):(aE M fun x=>if x<0 then k0 s l x else 0)=aE M fun _=>0:=ek fun j _=>by rw[dy (by omega)]
theorem ahX (s:cL)(l:ar)(M:Nat):(aE M fun x=>if x<2*c5 s then k0 s l x else 0)=aE M (k0 s l):=ek fun j _=>by
 by_cases c:j<2*c5 s
 ·rw[dw c]
 ·rw[dy c];unfold k0;rw[dy c]
theorem aft (s:cL)(h:lX s)(l:ar)(aZ:l.length=2*s.cc.length)(aP:∀x∈l,-100<=x/\x<=100)(eZ l2:Nat)(am7:eZ<=100)(am8:l2<=100):
 DS s l (eZ:Int) (l2:Int)=some (((2*c5 s+l2:Nat):Int),((bV s+eZ:Nat):Int),aE ((2*c5 s+l2)*(bV s+eZ)) (fun x=>qJ s (x / (bV s+eZ)) (x % (bV s+eZ))),aE (2*c5 s+l2) (k0 s l),aE (bV s+eZ) fun _=>0):=by
 obtain⟨-,-,f3,f4⟩:=id h;have sQ:=ul s;have nC:=qZ s;have akM:(2*c5 s+l2)*(bV s+eZ)<=112*116:=Nat.mul_le_mul (by omega) (by omega);unfold DS;refine aG (acN s h) (aG (x:=gl s) (Il s (by omega)) ?_);have iC:J ((len_ (fq 1 eI) (aE (2*c5 s) fun r=>aE s.bA.length (lY s r)))+(l2:Int))=((2*c5 s+l2:Nat):Int):=by rw[fc,b2,cu (by omega) (by omega)];omega
 have nT:J ((len_ fu (gl s))+(eZ:Int))=((bV s+eZ:Nat):Int):=by rw[fc];show J (((bV s:Nat):Int)+(eZ:Int))=_;rw[cu (by omega) (by omega)];omega
 have uJ:J (((2*c5 s+l2:Nat):Int)*((bV s+eZ:Nat):Int))=(((2*c5 s+l2)*(bV s+eZ):Nat):Int):=by rw[<- Int.natCast_mul,cu (by omega) (by omega)]
 rw[iC,nT,uJ,dx,dx,dx,pe,pe,pe,fc,b2];refine bm (by omega) (bm (by omega) (bm (by omega) ?_));refine aG (x:=aE ((2*c5 s+l2)*(bV s+eZ)) (fun x=>qJ s (x / (bV s+eZ)) (x % (bV s+eZ)))) ?_ ?_
 ·unfold Ps
  obtain⟨x,e,-⟩:=hF (f:=fun w:Int×ar=>Au s.cc s.bA l (gl s) (aE (2*c5 s) fun r=>aE s.bA.length (lY s r)) ((2*c5 s:Nat):Int) ((2*c5 s+l2:Nat):Int) ((bV s+eZ:Nat):Int) (aE (2*c5 s+l2) fun _=>0) (aE (bV s+eZ) fun _=>0) w.1 w.2) (fun (i:Nat) (_:Unit)=>((i:Int),aE ((2*c5 s+l2)*(bV s+eZ)) (rV s (bV s+eZ) i 0))) (2*c5 s) (fun _ _=>True) (fun _=>aE ((2*c5 s+l2)*(bV s+eZ)) (fun x=>qJ s (x / (bV s+eZ)) (x % (bV s+eZ))))
   (fun i ad _ _=>by
     refine⟨(),?_,trivial⟩;have GM:(i+1)*(bV s+eZ)<=(2*c5 s+l2)*(bV s+eZ):=dL _ (by omega);rw[Nat.succ_mul] at GM
     obtain⟨y,e2,-⟩:=hF (f:=fun w:Int×ar=>At s.cc s.bA l (gl s) (i:Int) (aE s.bA.length (lY s i)) (aE (2*c5 s) fun r=>aE s.bA.length (lY s r)) ((2*c5 s:Nat):Int) ((bV s:Nat):Int) ((2*c5 s+l2:Nat):Int) ((bV s+eZ:Nat):Int) (aE (2*c5 s+l2) fun _=>0) (aE (bV s+eZ) fun _=>0) w.1 w.2) (fun (c:Nat) (_:Unit)=>((c:Int),aE ((2*c5 s+l2)*(bV s+eZ)) (rV s (bV s+eZ) i c))) (bV s) (fun _ _=>True) (fun _=>aE ((2*c5 s+l2)*(bV s+eZ)) (rV s (bV s+eZ) i (bV s)))
      (fun c aX _ _=>by refine⟨(),?_,trivial⟩;obtain⟨lO,kA,o5⟩:=u6 s aX;have akL:=Nz s h i aX;have Hx:J (J ((i:Int)*((bV s+eZ:Nat):Int))+((c:Nat):Int))=((i*(bV s+eZ)+c:Nat):Int):=(by rw[<- Int.natCast_mul,cu (x:=((i*(bV s+eZ):Nat):Int)) (by omega) (by omega),cu (by omega) (by omega)];omega);unfold At;refine dv (by simp only;omega) (bm (by show _/\((c:Nat):Int)<((bV s:Nat):Int);simp only;omega) (aG (x:=⟨(gz s c:Int),oI s c⟩) (by simp only;rw[dx];exact lO) (bm (by rw[b2];simp only;omega) (aG (x:=lY s i (gz s c)) (by simp only;rw[dx];exact fK kA) ?_))));simp only;rw[Hx];refine bm (by rw[b2];omega) (bm (by rw[b2,dx];omega) ?_);rw[fa (by omega),dx,dG,show oI s c*lY s i (gz s c)=l1 s i c from rfl,cu (by omega) (by omega),ahU s aX (by omega) (by omega) rfl])
      (fun _ _=>by unfold At;exact d8 (by simp) rfl) () trivial
     unfold Au;refine dv (by simp only;omega) (bm (by rw[b2];simp only;omega) (aG (x:=aE s.bA.length (lY s i)) (by simp only;rw[dx];exact fK ad) (aG (x:=aE ((2*c5 s+l2)*(bV s+eZ)) (rV s (bV s+eZ) i (bV s))) (by unfold Pr;rw[fc];exact e2) ?_)));simp only;rw[fa (by omega),ahV])
   (fun _ _=>by unfold Au;refine d8 (by simp) ?_;simp only;rw[ahW]) () trivial
  rw[ag9] at e;exact e
 refine aG (SU s (by omega)) ?_;rw[Fs,gZ,b2];refine aG (x:=aE (2*c5 s+l2) (k0 s l)) ?_ rfl;unfold Pt
 obtain⟨x,e,-⟩:=hF (f:=fun w:Int×ar=>Av l (aE (c5 s) fun q=>((i6 s q:Nat):Int)) ((c5 s:Nat):Int) ((2*c5 s+l2:Nat):Int) ((bV s+eZ:Nat):Int) (aE ((2*c5 s+l2)*(bV s+eZ)) (fun x=>qJ s (x / (bV s+eZ)) (x % (bV s+eZ)))) (aE (bV s+eZ) fun _=>0) w.1 w.2) (fun (n:Nat) (_:Unit)=>((n:Int),aE (2*c5 s+l2) fun x=>if x<2*n then k0 s l x else 0)) (c5 s) (fun _ _=>True) (fun _=>aE (2*c5 s+l2) (k0 s l))
  (fun n aY _ _=>by
    refine⟨(),?_,trivial⟩;have cg:=We s aY;have nT : ∀a:Nat,a<=1000->J ((2:Int)*((a:Nat):Int))=((2*a:Nat):Int):=fun a bF=>(by rw[cu (by omega) (by omega)];omega);have x1:=aP l[2*i6 s n] (List.getElem_mem (by omega));have x2:=aP l[2*i6 s n+1] (List.getElem_mem (by omega));have p1:k0 s l (2*n) = -l[2*i6 s n]:=(by unfold k0 p7;rw[dw (by omega),show 2*n / 2=n by omega,show 2*n % 2=0 by omega,Nat.add_zero,List.getD_eq_getElem?_getD,dz (by omega)];rfl);have p2:k0 s l (2*n+1) = -l[2*i6 s n+1]:=by unfold k0 p7;rw[dw (by omega),show (2*n+1) / 2=n by omega,show (2*n+1) % 2=1 by omega,List.getD_eq_getElem?_getD,dz (by omega)];rfl
    have da : ∀k v,v=k0 s l k->(aE (2*c5 s+l2) fun x=>if x<k then k0 s l x else 0).set k v=aE (2*c5 s+l2) fun x=>if x<k+1 then k0 s l x else 0:=fun k v bf=>by
     rw[kc];refine ek fun j _=> ?_;by_cases c:j=k
     ·subst c;rw[dw rfl,dw (by omega)];exact bf
     ·rw[dy c]
      by_cases cj:j<k
      ·rw[dw cj,dw (by omega)]
      ·rw[dy cj,dy (by omega)]
    unfold Av;refine dv (by simp only;omega) (bm (by rw[b2];simp only;omega) (aG (x:=((i6 s n:Nat):Int)) (by simp only;rw[dx];exact fK aY) ?_));simp only;rw[nT (i6 s n) (by omega),nT n (by omega),fa (n:=2*i6 s n) (by omega),fa (n:=2*n) (by omega)];refine bm (by omega) (aG (x:=l[2*i6 s n]) (by rw[dx];exact dz (by omega)) (bm (by omega) (aG (x:=l[2*i6 s n+1]) (by rw[dx];exact dz (by omega)) ?_)));refine bm (by rw[b2];omega) (bm (by rw[b2,dx];omega) (bm (by rw[b2];omega) (bm (by rw[List.length_set,b2,dx];omega) ?_)));rw[fa (by omega),cu (x:=0-l[2*i6 s n]) (by omega) (by omega),cu (x:=0-l[2*i6 s n+1]) (by omega) (by omega),dx,dx,dG,dG,da _ _ (by rw[p1];omega),da _ _ (by rw[p2];omega),show 2*(n+1)=2*n+1+1 by omega])
  (fun _ _=>by unfold Av;refine d8 (by simp) ?_;simp only;rw[ahX]) () trivial
 rw[Nat.mul_zero,aha] at e;exact e
theorem ahb {x:Rat}(h:eH x):Fe (gy x)=some (ca x):=by have p:=h.dq;have h1:=p.rN;have h2:=p.q8;refine aG (o:=Eh (oi (eV x)).tr) (x:=ho (eV x).1) ?_ (aG (x:=L (eV x).2) (MI (a:=L (eV x).2) (by omega)) rfl);unfold Eh;exact d8 (by rw[gZ];show ¬(60:Int)<((L ((eV x).1.natAbs:Int)).length:Nat);omega) (aG (x:=L ((eV x).1.natAbs:Int)) (MI (a:=L ((eV x).1.natAbs:Int)) (by omega)) rfl)
theorem aiu (x:Rat):IE (gy x)=some (gy (-x)):=by
 have e:rX (ho x.num)=some (ho (-x.num)):=by
  have:rX (ho x.num)=(nj (!(decide (x.num<0))) (L (x.num.natAbs:Int))).bind fun r=>some r:=rfl;rw[this,ta (by omega)]
  have:eY (!(decide (x.num<0))) (x.num.natAbs:Int) = -x.num:=by
   unfold eY;by_cases c:x.num<0
   ·rw[decide_eq_true c];simp;omega
   ·rw[decide_eq_false c];simp;omega
  rw[this];rfl
 refine aG (o:=rX (ho x.num)) e ?_;unfold gy eV;rw[Rat.neg_num,Rat.neg_den];rfl
theorem WA {p:jz}{m n:Nat}{a:Nat->Nat->Int}{b:Nat->Int}(h:ms p m n a b)(C:ar):ms ⟨p.f7,p.eM,p.bR,p.bS,C⟩ m n a b :=
 ⟨h.rows,h.gl,h.hE,h.Gp,h.Am,h.JK,h.hm,h.aY,h.ll,h.lR⟩
theorem Uo {f5:anw}{k:Nat}: ∀ {n:Nat},k<n->n<=f5.length-> ∃x∈mE f5 n,x.hJ=(k:Int)
 | 0,h,_=>by omega
 | n+1,h,aY=>by
  rw[mE,dz (show n<f5.length by omega)];by_cases e:k=n
  ·subst e
   simp only;unfold wu;by_cases c:f5[k].jd=2
   ·exact⟨⟨(k:Int),-1⟩,by rw[List.mem_append,List.mem_append,dy (show ¬f5[k].jd=1 by omega)];exact .inr (.inr (by simp)),rfl⟩
   ·exact⟨⟨(k:Int),1⟩,by rw[List.mem_append,List.mem_append,dy c];exact .inr (.inl (by simp)),rfl⟩
  ·obtain⟨x,h1,h2⟩:=Uo (f5:=f5) (k:=k) (n:=n) (by omega) (by omega);exact⟨x,List.mem_append_left _ h1,h2⟩
theorem agA (s:cL){k:Nat}(a1:k<s.bA.length): ∃c,c<bV s/\gz s c=k:=by obtain⟨x,h1,h2⟩:=Uo a1 (dF _);obtain⟨c,aX⟩:=List.getElem?_of_mem h1;have aZ:c<bV s:=gH aX;obtain⟨e,-,-⟩:=u6 s aZ;have e2:(gl s)[c]? = some x:=aX;rw[e2] at e;have:=dI e;rw[this] at h2;exact⟨c,aZ,by simp only at h2;omega⟩
def iD (s:cL)(x:Nat->Rat)(c k:Nat):Rat:=cA c fun j=>if gz s j=k then (oI s j:Rat)*x j else 0
def tN (s:cL)(c k:Nat):Bool:=(List.range c).any fun j=>gz s j == k
theorem ahc (s:cL)(c k:Nat):tN s (c+1) k=(tN s c k || (gz s c == k)):=by unfold tN;rw[List.range_succ,List.any_append];simp
theorem aiv {s:cL}{x:Nat->Rat}{c k:Nat}(h:tN s c k=false):iD s x c k=0:=by unfold tN at h;rw[List.any_eq_false] at h;exact ot fun j av=>dy fun e=>h j (List.mem_range.2 av) (by rw[e];simp)
theorem ahY (s:cL){k:Nat}(a1:k<s.bA.length):tN s (bV s) k=true:=by obtain⟨c,h1,h2⟩:=agA s a1;unfold tN;exact List.any_eq_true.2 ⟨c,List.mem_range.2 h1,by rw[h2];simp⟩
theorem aiw {s:cL}{x:Nat->Rat}{w:Rat}{K:Nat}(aa:∀j,dW K (x j*w)): ∀ {c:Nat} (k:Nat),c<=bV s->dW (c*K) (iD s x c k*w):=fun {c} k aX=>by
 have:iD s x c k*w=cA c fun j=>(if gz s j=k then (oI s j:Rat)*x j else 0)*w:=by unfold iD;rw[Rat.mul_comm,<- j1];exact gm fun j _=>Rat.mul_comm _ _
 rw[this];refine dW.sum fun j av=> ?_;obtain⟨-,-,e⟩:=u6 s (show j<bV s by omega);split
 ·rcases e with e|e<;>rw[e]
  ·rw[show ((1:Int):Rat)*x j*w=x j*w by grind];exact aa j
  ·rw[show ((-1:Int):Rat)*x j*w = -(x j*w) by grind];exact(aa j).neg
 ·exact⟨0,by rw[Rat.zero_mul];rfl,by simp⟩
theorem aix {x y:Rat}(aa:eH x)(aW:eH y)(h:eH (x+y)):yV (gy x) (gy y)=some (gy (x+y)):=aG (Wd aa aW) (aG (ait h) rfl)
def tv (s:cL)(x:Nat->Rat)(c:Nat):anz:=aE s.bA.length fun k=>if tN s c k then gy (iD s x c k) else none
theorem ahd (s:cL)(v:lX s){x:Nat->Rat}(aa:∀j,eH (x j))(bH:∀c k,c<=bV s->eH (iD s x c k)):Eb s (aE (bV s) fun j=>gy (x j))=some (aE s.bA.length fun k=>gy (iD s x (bV s) k)):=by
 have bk:=v.2.2.2;have nC:=qZ s;have aZ:len_ ck s.bA=((s.bA.length:Nat):Int):=fc ..;have iS:len_ fu (gl s)=((bV s:Nat):Int):=fc ..;unfold Eb;rw[aZ];refine bm (by omega) (aG (x:=gl s) (Il s (by omega)) (aG ?_ rfl));unfold Qi;rw[iS]
 obtain⟨z,e,-⟩:=hF (f:=fun w:Int×anz=>AQ (aE (bV s) fun j=>gy (x j)) (gl s) ((bV s:Nat):Int) w.1 w.2) (fun (c:Nat) (_:Unit)=>((c:Int),tv s x c)) (bV s) (fun _ _=>True) (fun _=>aE s.bA.length fun k=>gy (iD s x (bV s) k))
  (fun c aX _ _=>by
    refine⟨(),?_,trivial⟩;obtain⟨lO,kA,o5⟩:=u6 s aX
    have fin : ∀y,y=gy (iD s x (c+1) (gz s c))->(tv s x c).set (gz s c) y=tv s x (c+1):=fun y aW=>by
     unfold tv;rw[kc];refine ek fun k _=> ?_;rw[ahc];by_cases e:k=gz s c
     ·subst e;rw[dw rfl,aW];simp
     ·have e2:iD s x (c+1) k=iD s x c k:=by
       show iD s x c k+(if gz s c=k then _ else _)=_;rw[dy (fun q=>e q.symm)];grind
      rw[dy e,e2,show (gz s c == k)=false from beq_false_of_ne (fun q=>e q.symm),Bool.or_false]
    have last:iD s x (c+1) (gz s c)=iD s x c (gz s c)+(oI s c:Rat)*x c:=(by show iD s x c _+(if gz s c=gz s c then _ else _)=_;rw[dw rfl]);have hlen:(tv s x c).length=s.bA.length:=b2 ..;have W1:(tv s x c)[0+((gz s c:Nat):Int).toNat]? = some (if tN s c (gz s c) then gy (iD s x c (gz s c)) else none):=by rw[dx];exact hx kA
    have put : ∀ {F:anG->Prop} {y:Rat},y=(oI s c:Rat)*x c->eH y ->
     ((if tN s c (gz s c) then gy (iD s x c (gz s c)) else none:anr).elim (if (0+((gz s c:Nat):Int).toNat)<(tv s x c).length then some (Sum.inl (J ((c:Int)+(1:Int)),(tv s x c).set (0+((gz s c:Nat):Int).toNat) (gy y))) else none)
       fun _=>yV (if tN s c (gz s c) then gy (iD s x c (gz s c)) else none) (gy y) >>= fun dm=>if (0+((gz s c:Nat):Int).toNat)<(tv s x c).length then some (Sum.inl (J ((c:Int)+(1:Int)),(tv s x c).set (0+((gz s c:Nat):Int).toNat) dm)) else none)
     = some (Sum.inl (((c+1:Nat):Int),tv s x (c+1)):(Int×anz)⊕(anz)):=fun {F y} aW alm=>by
     rw[fa (by omega),dx,dG]
     cases q:tN s c (gz s c) with
     | false =>
      rw[dy (by simp)];show (if _ then _ else _)=_;rw[dw (by rw[hlen];exact kA),fin _ (by rw[last,aiv q,aW];congr 1;grind)]
     | true =>
      rw[dw rfl];show (yV (gy (iD s x c (gz s c))) (gy y) >>= _)=_;have bL:eH (iD s x c (gz s c)+y):=(by rw[aW,<- last];exact bH _ _ aX);refine aG (aix (bH _ _ (Nat.le_of_lt aX)) alm bL) ?_;rw[dw (by rw[hlen];exact kA),fin _ (by rw[last,aW])]
    unfold AQ;simp only;refine dv (by omega) (bm (by show _/\((c:Nat):Int)<((bV s:Nat):Int);omega) (aG lO (bm (by rw[b2];omega) (aG (x:=gy (x c)) (by rw[dx];exact fK aX) ?_))));rcases o5 with e|e
    ·refine d8 (by simp only;omega) (bm (by rw[hlen];simp only;omega) (aG W1 ?_));exact put (F:=fun _=>True) (by rw[e];grind) (aa c)
    ·refine dv (by simp only;omega) (aG (aiu (x c)) (bm (by rw[hlen];simp only;omega) (aG W1 ?_)));exact put (F:=fun _=>True) (by rw[e];grind) (aa c).neg)
  (fun _ _=>by unfold AQ;refine d8 (by simp) ?_;simp only;congr 2;exact ek fun k a1=>by rw[ahY s a1,dw rfl]) () trivial
 have e0:tv s x 0=List.replicate (((s.bA.length:Nat):Int).toNat) none:=by rw[dx,pe];exact ek fun k _=>rfl
 rw[<- e0];exact e
theorem afu {n:Nat}(aY:n<=40){y:Nat->Rat}(aW:∀k,k<n->eH (y k)):E5 (aE n fun k=>gy (y k))=some (aE n (fun k=>ca (y k)),true):=by
 have aZ:len_ (fj 3 cG) (aE n fun k=>gy (y k))=((n:Nat):Int):=by rw[fc,b2]
 unfold E5;rw[aZ];refine bm (by omega) (aG (x:= .inl (aE n fun k=>ca (y k))) ?_ rfl);unfold SI
 obtain⟨z,e,-⟩:=hF (f:=fun w:Int×dP=>BS (aE n fun k=>gy (y k)) ((n:Nat):Int) w.1 w.2) (fun (k:Nat) (_:Unit)=>((k:Int),aE n fun j=>if j<k then ca (y j) else (⟨⟨false,[]⟩,[]⟩:ax))) n (fun _ _=>True) (fun _=>(.inl (aE n fun k=>ca (y k)):dP⊕Unit))
  (fun k a1 _ _=>by
    refine⟨(),?_,trivial⟩;unfold BS;simp only;refine dv (by omega) (bm (by rw[b2];omega) (aG (x:=gy (y k)) (by rw[dx];exact fK a1) ?_));show (Fe (gy (y k)) >>= _)=_;refine aG (ahb (aW k a1)) (bm (by rw[b2];omega) (bm (by rw[b2,dx];omega) ?_));rw[fa (by omega),dx,dG,kc];congr 3;refine ek fun j _=> ?_;by_cases bc:j=k
    ·subst bc;rw[dw rfl,dw (by omega)]
    ·rw[dy bc]
     by_cases cj:j<k
     ·rw[dw cj,dw (by omega)]
     ·rw[dy cj,dy (by omega)])
  (fun _ _=>by unfold BS;refine d8 (by simp) ?_;simp only;congr 3;exact ek fun j av=>by rw[dw av]) () trivial
 have e0:(aE n fun j=>if j<0 then ca (y j) else (⟨⟨false,[]⟩,[]⟩:ax))=List.replicate (((n:Nat):Int).toNat) ⟨⟨false,[]⟩,[]⟩:=by rw[dx,pe];exact ek fun j _=>by rw[dy (by omega)]
 rw[<- e0];exact e
structure JN (m n:Nat) (a:Nat->Nat->Int) (b:Nat->Int) (c:Nat->Rat) (x:Nat->Rat) (w:Rat):Prop where
 mS:u2 m n a b c x
 pos:0<w
 qI:dW (m9 100 m) w
 aln : ∀j,dW (m9 100 m) (x j*w)
 fit : ∀j,eH (x j)
theorem ahZ {m:Nat}(hm:m<=20):m9 100 m<=eL:=C2▸yT (by omega) hm
theorem Wf {s:cL}{x:Nat->Rat}{w:Rat}{m:Nat}(hm:m<=20)(nC:bV s<=16)(ah:0<w)(hw:dW (m9 100 m) w)(aa:∀j,dW (m9 100 m) (x j*w)){c:Nat}(k:Nat)(aX:c<=bV s):eH (iD s x c k):=by
 have h1:=aiw aa k aX;have iV:=ahZ hm;have h2:c*m9 100 m<=16*eL:=Nat.mul_le_mul (by omega) iV;have U:16*eL<=40*(eL*100):=by omega
 exact rJ (K:=21*100*(eL*eL)) (hw.mono (Nat.le_trans iV Da)) (h1.mono (Nat.le_trans h2 (Nat.le_trans U NU))) (by grind) (by grind) (qj (dF _))
theorem U1 {α:Type}{T n:Nat}(f:Nat->α)(h:n<=T):(aE T f).take n=aE n f:=by
 apply List.ext_getElem?;intro i;by_cases c:i<n
 ·rw[List.getElem?_take,dw c,fK (by omega),fK c]
 ·rw[List.getElem?_take,dy c,List.getElem?_eq_none_iff.2 (by rw[b2];omega)]
theorem ahe (s:cL)(v:lX s){p:jz}{m n:Nat}{a:Nat->Nat->Int}{b:Nat->Int}(h:ms p m n a b){c:Nat->Int}(nC:p.hl=aE n c)(aX:∀j,j<n-> -100<=c j/\c j<=100)(aY:bV s<=n):
 (¬q5 m n a b/\tO s p.f7 p.eM p.bR p.bS p.hl=some ([],[],false))\/(q5 m n a b/\ ¬Bounded m n a b (h9 n c)/\tO s p.f7 p.eM p.bR p.bS p.hl=some ([],[],false)) \/
   ∃x w r,JN m n a b (h9 n c) x w/\tO s p.f7 p.eM p.bR p.bS p.hl=some (aE s.bA.length (fun k=>gy (iD s x (bV s) k)),r,true):=by
 have bk:=v.2.2.2;have am9:=qZ s;obtain⟨r,e,aj⟩:=UX h nC aX;rcases aj with ⟨q,rfl⟩|⟨q,q2,rfl⟩|⟨x,w,q,⟨iC,nT,uJ⟩,bD,ct,rfl⟩
 ·exact .inl ⟨q,aG e (fY rfl rfl)⟩
 ·exact .inr (.inl ⟨q,q2,aG e (fY rfl rfl)⟩)
 ·have iS:len_ fu (gl s)=((bV s:Nat):Int):=fc ..;have cg:=ahd s v bD (fun c k aX=>Wf h.hm (by omega) iC nT uJ k aX);have key : ∃r,tO s p.f7 p.eM p.bR p.bS p.hl=some (aE s.bA.length (fun k=>gy (iD s x (bV s) k)),r,true):=(by refine⟨((aE n fun j=>gy (x j)).drop (bV s)).take (((aE n fun j=>gy (x j)).map (fj 3 cG)).length-bV s),aG e (h4 rfl (aG (x:=gl s) (Il s (by omega)) ?_))⟩;rw[iS];simp only[dx];refine bm (by omega) (bm (by simp only[b2];omega) (aG ?_ (bm (by simp only[b2];omega) rfl)));simp only[List.drop_zero,Nat.sub_zero];rw[U1 _ aY];exact cg);obtain⟨r,aj⟩:=key;exact .inr (.inr ⟨x,w,r,⟨q,iC,nT,uJ,bD⟩,aj⟩)
theorem adS {Ar:Nat}{l:ar}(h:wg Ar l=true):l.length=2*Ar/\ ∀x∈l,-100<=x/\x<=100:=by unfold wg at h;rw[dM,decide_eq_true_eq,List.all_eq_true] at h;exact⟨h.1,fun x aa=>by have:=h.2 x aa;unfold tj at this;simpa using this⟩
theorem afv (s:cL)(i0:oq s)(l:ar)(aZ:l.length<=maxLen):
 (vI s l=some true/\w5 s l=some true/\oJ s=some true/\wg s.cc.length l=true)\/(vI s l=some false/\w5 s l=some false):=by
 obtain⟨p,p1,p2⟩:=B4 s i0;have uL:p=true->s.cc.length<=6:=fun h=>(Ei s i0 (h▸p1)).2.2.1;have e:=afj s p p1 uL l aZ
 cases p with
 | false=>exact .inr ⟨e,aG p2 (h4 rfl rfl)⟩
 | true =>
  rw[Bool.true_and] at e;have e2:w5 s l=some (wg s.cc.length l):=aG p2 (fY rfl (aG (adM s (uL rfl) l aZ) rfl));by_cases c:wg s.cc.length l=true
  ·rw[c] at e e2;exact .inl ⟨e,e2,p1,c⟩
  ·rw[Bool.not_eq_true] at c;rw[c] at e e2;exact .inr ⟨e,e2⟩
theorem ah0 {x y:Rat}(aa:eH x)(aW:eH y)(h:eH (x+y)):Ie (ca x) (ca y)=some (ca (x+y)):=aG (xu aa) (fY rfl (aG (xu aW) (fY rfl (aG (FK aa aW h) rfl))))
theorem ah1 {x y:Rat}(aa:eH x)(aW:eH y)(h:eH (x + -y)):Ig (ca x) (ca y)=some (ca (x + -y)):=aG (xu aa) (fY rfl (aG (xu aW) (fY rfl (aG (Jl aW) (aG (FK aa aW.neg h) rfl)))))
theorem U2 {n:Nat}(aY:n<=1000){y:Nat->Rat}(aW:∀k,k<n->eH (y k)):yz (aE n fun k=>ca (y k))=some true:=by
 have aZ:len_ aI (aE n fun k=>ca (y k))=((n:Nat):Int):=by rw[fc,b2]
 unfold yz;rw[aZ];refine aG (x:= .inl ()) ?_ rfl;unfold RW
 obtain⟨_,e,-⟩:=hF (f:=fun w:Int=>Bq (aE n fun k=>ca (y k)) ((n:Nat):Int) w) (fun (k:Nat) (_:Unit)=>(k:Int)) n (fun _ _=>True) (fun _=>(.inl ():Unit⊕Unit))
  (fun k a1 _ _=>by refine⟨(),?_,trivial⟩;unfold Bq;exact dv (by omega) (bm (by rw[b2];omega) (aG (gt rfl (fK a1)) (aG (xu (aW k a1)) (fY rfl (by rw[fa (by omega)]))))))
  (fun _ _=>by unfold Bq;exact d8 (by omega) rfl) () trivial
 exact e
theorem afw {n:Nat}(aY:n<=24):Ef (n:Int)=some (.inl (aE n fun _=>ca 0)):=by
 have fF:H3=some (ca 0):=aG (si (n:=0) (ln.2 (by omega))) rfl;unfold Ef;refine aG (uZ _ _ _) (fY (decide_eq_true (by omega)) (aG (x:=aE n fun _=>ca 0) ?_ rfl));unfold HM Rg
 obtain⟨_,e,-⟩:=hF (f:=fun w:dP=>Bg (n:Int) w) (fun (k:Nat) (_:Unit)=>aE k fun _=>ca (0:Rat)) n (fun _ _=>True) (fun _=>aE n fun _=>ca (0:Rat))
  (fun k a1 _ _=>by refine⟨(),?_,trivial⟩;unfold Bg;refine dv (by rw[b2];omega) (aG fF (bm (by simp only[dE,b2,List.length_singleton];omega) ?_));rw[k1 k])
  (fun _ _=>by unfold Bg;exact d8 (by rw[b2];omega) rfl) () trivial
 exact aG e rfl
theorem agB (s:cL)(v:lX s)(ok:oJ s=some true){x:Nat->Rat}(aa:∀j,eH (x j))(bH:∀c k,c<=bV s->eH (iD s x c k)):BW s (aE (bV s) fun j=>ca (x j))=some (aE s.bA.length (fun k=>ca (iD s x (bV s) k)),true):=by
 have bk:=v.2.2.2;have nC:=qZ s;have hw:wX s=some (aE (bV s) (fun c=>((gz s c:Nat):Int)),aE (bV s) (oI s)):=by rw[<- M1,<- VG];exact LV s (by omega)
 unfold BW;refine aG ok (fY rfl (aG hw ?_));simp only;rw[fc,gZ,fc,b2,b2];refine h4 (vm rfl) (aG (U2 (by omega) fun k _=>aa k) (fY rfl (aG (afw (by omega)) ?_)));simp only;refine aG (x:=aE s.bA.length fun k=>ca (iD s x (bV s) k)) ?_ (aG (U2 (by omega) fun k _=>bH _ k (dF _)) (fY rfl rfl));unfold Qv
 obtain⟨_,e,-⟩:=hF (f:=fun w:Int×dP=>AR (aE (bV s) fun j=>ca (x j)) (aE (bV s) (oI s)) (aE (bV s) fun c=>((gz s c:Nat):Int)) ((bV s:Nat):Int) w.1 w.2) (fun (c:Nat) (_:Unit)=>((c:Int),aE s.bA.length fun k=>ca (iD s x c k))) (bV s) (fun _ _=>True) (fun _=>aE s.bA.length fun k=>ca (iD s x (bV s) k))
  (fun c aX _ _=>by
    refine⟨(),?_,trivial⟩;obtain⟨-,cj,jm⟩:=u6 s aX
    have p5 : ∀z,z=iD s x (c+1) (gz s c)->(aE s.bA.length fun k=>ca (iD s x c k)).set (0+((gz s c:Nat):Int).toNat) (ca z)=aE s.bA.length fun k=>ca (iD s x (c+1) k):=fun z cH=>by
     rw[dx,dG,kc];refine ek fun k _=> ?_;by_cases e:k=gz s c
     ·rw[dw e,cH,e]
     ·rw[dy e];congr 1;unfold iD;rw[cA,dy fun y=>e y.symm,Rat.add_zero]
    have eJ:iD s x (c+1) (gz s c)=iD s x c (gz s c)+(oI s c:Rat)*x c:=(by unfold iD;rw[cA,dw rfl]);have f1:=bH c (gz s c) (by omega);have f2:=bH (c+1) (gz s c) (by omega);simp only;unfold AR;refine dv (by omega) (bm (by rw[b2];omega) (aG (gt rfl (fK aX)) (bm (by rw[b2];omega) (aG (gt rfl (fK aX)) ?_))));have rd:(aE s.bA.length fun k=>ca (iD s x c k))[0+((gz s c:Nat):Int).toNat]? = some (ca (iD s x c (gz s c))):=(by rw[dx];exact hx cj);rcases jm with e|e
    ·have bL:iD s x c (gz s c)+x c=iD s x (c+1) (gz s c):=(by rw[eJ,e,show ((1:Int):Rat)=1 from rfl,Rat.one_mul]);rw[e];refine dv (by omega) (bm (by rw[b2];omega) (aG rd (bm (by rw[b2];omega) (aG (gt rfl (fK aX)) (aG (ah0 f1 (aa c) (by rw[bL];exact f2)) (bm (by rw[b2,dx];omega) ?_))))));rw[p5 _ bL,fa (by omega)]
    ·have bL:iD s x c (gz s c) + -x c=iD s x (c+1) (gz s c):=(by rw[eJ,e,show ((-1:Int):Rat) = -1 from rfl];grind);rw[e];refine d8 (by omega) (bm (by rw[b2];omega) (aG rd (bm (by rw[b2];omega) (aG (gt rfl (fK aX)) (aG (ah1 f1 (aa c) (by rw[bL];exact f2)) (bm (by rw[b2,dx];omega) ?_))))));rw[p5 _ bL,fa (by omega)])
  (fun _ _=>by simp only;unfold AR;exact d8 (by omega) rfl) () trivial
 have e0:(aE s.bA.length fun k=>ca (iD s x 0 k))=aE s.bA.length fun _=>ca 0:=ek fun k _=>rfl;rw[e0] at e;exact e
theorem ahf (M N:Nat){i:Nat}(ad:i<M)(ew:M<=1000)(fw:N<=1000)(row:ar)(aZ:row.length=M*N)(q1 q2:ar):yp (i:Int) (M:Int) (N:Int) row q1 q2=some (0+i*N,N):=by
 have h1:i*N<=1000*1000:=Nat.mul_le_mul (by omega) fw;have h2:(i+1)*N<=1001*1000:=Nat.mul_le_mul (by omega) fw;have U:(i+1)*N<=M*N:=dL _ ad;have ai:(i+1)*N=i*N+N:=Nat.succ_mul i N;have e1:J ((i:Int)*(N:Int))=((i*N:Nat):Int):=by rw[<- Int.natCast_mul,cu (by omega) (by omega)]
 have e2:J (J ((i:Int)+1)*(N:Int))=(((i+1)*N:Nat):Int):=by rw[fa (by omega),<- Int.natCast_mul,cu (by omega) (by omega)]
 unfold yp;rw[e1,e2,dx,dx,aZ];refine bm (by omega) (bm (by omega) (bm (by omega) ?_));rw[show (i+1)*N-i*N=N by omega]
noncomputable def jT (s:cL)(k:Int):Int:=(p8 s k).getD 0
noncomputable def ic (s:cL)(x y d n:Int)(q:Nat):Int:=if (gz s q:Int)=x then d*jT s x else if (gz s q:Int)=y then (0-n)*jT s y else 0
def j0 (list:anu)(i:Nat):cV:=list.getD i ⟨0,0,0,0⟩
noncomputable def i9 (s:cL)(list:anu)(r q:Nat):Int :=
 if r<2*c5 s then qJ s r q else if q<bV s then (if (r-2*c5 s) % 2=0 then ic s (j0 list ((r-2*c5 s) / 2)).bR (j0 list ((r-2*c5 s) / 2)).bS (j0 list ((r-2*c5 s) / 2)).ez (j0 list ((r-2*c5 s) / 2)).cK q else ic s (j0 list ((r-2*c5 s) / 2)).bS (j0 list ((r-2*c5 s) / 2)).bR (j0 list ((r-2*c5 s) / 2)).ez (j0 list ((r-2*c5 s) / 2)).cK q)
  else if q-bV s=r-2*c5 s then 1 else 0
def dX (s:cL)(k:Nat):Nat:=bV s+2*k
def iX (s:cL)(k:Nat):Nat:=2*c5 s+2*k
noncomputable def mK (s:cL)(list:anu)(N r c x:Nat):Int:=if x / N<r\/(x / N=r/\x % N<c) then i9 s list (x / N) (x % N) else qJ s (x / N) (x % N)
theorem ahg (s:cL)(list:anu)(T N:Nat):aE T (mK s list N (2*c5 s) 0)=aE T fun x=>qJ s (x / N) (x % N):=ek fun x _=>by
 unfold mK;by_cases c:x / N<2*c5 s
 ·rw[dw (.inl c)];unfold i9;rw[dw c]
 ·rw[dy (fun h=>h.elim c fun h=>Nat.not_lt_zero _ h.2)]
theorem Wg (s:cL)(list:anu){T N r c:Nat}(aX:c<N){v:Int}(bf:v=i9 s list r c):(aE T (mK s list N r c)).set (r*N+c) v=aE T (mK s list N r (c+1)):=by
 have h2:(r*N+c) / N=r:=by rw[Nat.mul_comm,Nat.mul_add_div (by omega),Nat.div_eq_of_lt aX];rfl
 have U:(r*N+c) % N=c:=by rw[Nat.mul_comm,Nat.mul_add_mod,Nat.mod_eq_of_lt aX]
 rw[kc];refine ek fun x _=> ?_;by_cases e:x=r*N+c
 ·rw[dw e,e];unfold mK;rw[h2,U,dw (.inr ⟨rfl,by omega⟩),bf]
 ·rw[dy e]
  have dd : ¬(x / N=r/\x % N=c):=fun ⟨a,b⟩=>e (by rw[<- Nat.div_add_mod x N,a,b,Nat.mul_comm]);unfold mK;by_cases g:x / N<r\/(x / N=r/\x % N<c)
  ·rw[dw g,dw (by omega)]
  ·rw[dy g,dy (by omega)]
theorem ahh (s:cL)(list:anu){T N r c:Nat}(bf:qJ s r c=i9 s list r c):aE T (mK s list N r c)=aE T (mK s list N r (c+1)):=ek fun x _=>by
 unfold mK;by_cases g:x / N<r\/(x / N=r/\x % N<c)
 ·rw[dw g,dw (by omega)]
 ·rw[dy g]
  by_cases e:x / N=r/\x % N=c
  ·rw[dw (.inr ⟨e.1,by omega⟩),e.1,e.2,bf]
  ·rw[dy (by omega)]
theorem ahi (s:cL)(list:anu){T N r b:Nat}(fw:N=dX s list.length)(aP:b<2*list.length)(aj:r=2*c5 s+b):(aE T (mK s list N r (bV s))).set (r*N+(bV s+b)) 1=aE T (mK s list N (r+1) 0):=by
 have et:bV s+b<N:=by rw[fw];unfold dX;omega
 have h2:(r*N+(bV s+b)) / N=r:=by rw[Nat.mul_comm,Nat.mul_add_div (by omega),Nat.div_eq_of_lt et];rfl
 have U:(r*N+(bV s+b)) % N=bV s+b:=by rw[Nat.mul_comm,Nat.mul_add_mod,Nat.mod_eq_of_lt et]
 rw[kc];refine ek fun x _=> ?_;by_cases e:x=r*N+(bV s+b)
 ·rw[dw e,e];unfold mK;rw[h2,U,dw (.inl (by omega))];unfold i9;rw[dy (by omega),dy (by omega),dw (by omega)]
 ·rw[dy e]
  have dd : ¬(x / N=r/\x % N=bV s+b):=fun ⟨a,b⟩=>e (by rw[<- Nat.div_add_mod x N,a,b,Nat.mul_comm]);unfold mK;by_cases g:x / N<r\/(x / N=r/\x % N<bV s)
  ·rw[dw g,dw (by omega)]
  ·rw[dy g]
   by_cases d:x / N=r
   ·rw[dw (.inl (by omega)),d];unfold qJ i9;rw[dy (by omega),dy (by omega),dy (by omega),dy (by omega)]
   ·rw[dy (by omega)]
theorem TP (s:cL)(v:lX s)(list:anu){N T r:Nat}{x y d n:Int}(fw:bV s<=N)(hM:(r+1)*N<=T)(akN:T<=100000)(aj:2*c5 s<=r)(aa:p8 s x=some (jT s x))(aW:p8 s y=some (jT s y))
 (jw:0<=d*jT s x/\d*jT s x<=100) (kO:0<=n*jT s y/\n*jT s y<=100) (uI:0<=n/\n<=100) (OU : ∀q,q<bV s->i9 s list r q=ic s x y d n q) (f1 f2 i0 YC:Int) (t37:anu) (t38 fP fH bc cj:Int) (q1 q2:ar) :
 HA s.cc s.bA (gl s) f1 f2 i0 YC (r*N) N t37 t38 fP fH (bV s:Int) bc cj n d x y q1 q2 0 (aE T (mK s list N r 0))=some (aE T (mK s list N r (bV s))):=by
 have nC:=qZ s;have bk:=v.2.2.2;have dn : ∀q,qJ s r q=0:=fun q=>by unfold qJ;rw[dy (by omega)]
 unfold HA
 obtain⟨z,e,-⟩:=hF (f:=fun w:Int×ar=>Aw s.cc s.bA (gl s) f1 f2 i0 YC (r*N) N t37 t38 fP fH (bV s:Int) bc cj n d x y q1 q2 w.1 w.2) (fun (c:Nat) (_:Unit)=>((c:Int),aE T (mK s list N r c))) (bV s) (fun _ _=>True) (fun _=>aE T (mK s list N r (bV s)))
  (fun c aX _ _=>by
    refine⟨(),?_,trivial⟩;obtain⟨lO,kA,o5⟩:=u6 s aX;have aP:=OU c aX;have et:r*N+c<T:=(by rw[Nat.succ_mul] at hM;omega);unfold Aw;simp only;rw[fa (by omega)];refine dv (by omega) (bm (by show _/\((c:Nat):Int)<((bV s:Nat):Int);omega) (aG lO ?_));unfold ic at aP;by_cases e1:(gz s c:Int)=x
    ·rw[dw e1] at aP;refine fY (by simp only;rw[e1];simp) (aG aa (bm (by omega) (bm (by rw[b2,dx];omega) ?_)));rw[dx,cu (by omega) (by omega),Wg s list (by omega) aP.symm]
    ·rw[dy e1] at aP
     refine h4 (by simp only;exact beq_false_of_ne e1) ?_;by_cases e2:(gz s c:Int)=y
     ·rw[dw e2] at aP;refine fY (by simp only;rw[e2];simp) (aG aW (bm (by omega) (bm (by rw[b2,dx];omega) ?_)));have hm:(0-n)*jT s y = -(n*jT s y):=(by rw[Int.zero_sub,Int.neg_mul]);rw[dx,cu (x:=0-n) (by omega) (by omega),cu (by omega) (by omega),Wg s list (by omega) aP.symm]
     ·rw[dy e2] at aP;refine h4 (by simp only;exact beq_false_of_ne e2) ?_;rw[ahh s list (by rw[dn,aP])])
  (fun _ _=>by unfold Aw;exact d8 (by simp) rfl) () trivial
 exact e
structure zF (s:cL) (b:cV):Prop where
 hE:p8 s b.bR=some (jT s b.bR)
 Am:p8 s b.bS=some (jT s b.bS)
 YD:0<=b.ez*jT s b.bR/\b.ez*jT s b.bR<=100
 YE:0<=b.ez*jT s b.bS/\b.ez*jT s b.bS<=100
 YF:0<=b.cK*jT s b.bR/\b.cK*jT s b.bR<=100
 YG:0<=b.cK*jT s b.bS/\b.cK*jT s b.bS<=100
 n:0<=b.cK/\b.cK<=100
theorem U3 (s:cL)(list:anu)(i:Nat){q:Nat}(a0:q<bV s):i9 s list (2*c5 s+2*i) q=ic s (j0 list i).bR (j0 list i).bS (j0 list i).ez (j0 list i).cK q:=by unfold i9;rw[dy (by omega),dw a0,dw (by omega),show (2*c5 s+2*i-2*c5 s) / 2=i by omega]
theorem U4 (s:cL)(list:anu)(i:Nat){q:Nat}(a0:q<bV s):i9 s list (2*c5 s+2*i+1) q=ic s (j0 list i).bS (j0 list i).bR (j0 list i).ez (j0 list i).cK q:=by unfold i9;rw[dy (by omega),dw a0,dy (by omega),show (2*c5 s+2*i+1-2*c5 s) / 2=i by omega]
theorem adT (s:cL)(v:lX s)(list:anu)(U:list.length<=3){i:Nat}(ad:i<list.length)(aP:zF s (j0 list i))(t37:anu)(t38:Int)(q1 q2:ar):
 Kz s.cc s.bA (gl s) ((2*c5 s:Nat):Int) (bV s:Int) (i:Int) t37 t38 (j0 list i).bR (j0 list i).bS (iX s list.length:Int) (dX s list.length:Int) (j0 list i).cK (j0 list i).ez q1 q2 0 (aE (iX s list.length*dX s list.length) (mK s list (dX s list.length) (2*c5 s+2*i) 0)) =
  some (aE (iX s list.length*dX s list.length) (mK s list (dX s list.length) (2*c5 s+2*(i+1)) 0)):=by
 have nC:=qZ s;have sQ:=ul s;obtain⟨-,-,aR,bk⟩:=id v;have ew:iX s list.length<=18:=by unfold iX;omega
 have fw:dX s list.length<=22:=by unfold dX;omega
 have X7:bV s<=dX s list.length:=by unfold dX;omega
 have akM:iX s list.length*dX s list.length<=18*22:=Nat.mul_le_mul ew fw;have iS:len_ fu (gl s)=((bV s:Nat):Int):=fc ..;have Hx:J ((2:Int)*(i:Int))=((2*i:Nat):Int):=by rw[cu (by omega) (by omega)];omega
 unfold Kz
 obtain⟨z,e,-⟩:=hF (f:=fun w:Int×ar=>Ax s.cc s.bA (gl s) ((2*c5 s:Nat):Int) (bV s:Int) (i:Int) t37 t38 (j0 list i).bR (j0 list i).bS (iX s list.length:Int) (dX s list.length:Int) (j0 list i).cK (j0 list i).ez q1 q2 w.1 w.2)
  (fun (k:Nat) (_:Unit)=>((k:Int),aE (iX s list.length*dX s list.length) (mK s list (dX s list.length) (2*c5 s+2*i+k) 0))) 2 (fun _ _=>True) (fun _=>aE (iX s list.length*dX s list.length) (mK s list (dX s list.length) (2*c5 s+2*(i+1)) 0))
  (fun k a1 _ _=>by
    refine⟨(),?_,trivial⟩;have aj:2*c5 s+2*i+k<iX s list.length:=(by unfold iX;omega);have iC:J (J (((2*c5 s:Nat):Int)+((2*i:Nat):Int))+(k:Int))=((2*c5 s+2*i+k:Nat):Int):=(by rw[cu (x:=((2*c5 s:Nat):Int)+((2*i:Nat):Int)) (by omega) (by omega),cu (by omega) (by omega)];omega);have nT:J (J ((bV s:Int)+((2*i:Nat):Int))+(k:Int))=((bV s+(2*i+k):Nat):Int):=(by rw[cu (x:=(bV s:Int)+((2*i:Nat):Int)) (by omega) (by omega),cu (by omega) (by omega)];omega);have ep:=ahf (iX s list.length) (dX s list.length) aj (by omega) (by omega) (aE (iX s list.length*dX s list.length) (mK s list (dX s list.length) (2*c5 s+2*i+k) 0)) (b2 ..) q1 q2;rw[dG] at ep;have hM:(2*c5 s+2*i+k+1)*dX s list.length<=iX s list.length*dX s list.length:=dL _ aj;have akN:(2*c5 s+2*i+k)*dX s list.length+dX s list.length<=iX s list.length*dX s list.length:=(by rw[<- Nat.succ_mul];exact hM);have et:bV s+(2*i+k)<dX s list.length:=by unfold dX;omega
    have ajf:HA s.cc s.bA (gl s) ((2*c5 s:Nat):Int) (bV s:Int) (i:Int) (k:Int) ((2*c5 s+2*i+k)*dX s list.length) (dX s list.length) t37 t38 (j0 list i).bR (j0 list i).bS (bV s:Int) (iX s list.length:Int) (dX s list.length:Int) (j0 list i).cK (j0 list i).ez (if (k:Int)=0 then (j0 list i).bR else (j0 list i).bS) (if (k:Int)=0 then (j0 list i).bS else (j0 list i).bR) q1 q2 0 (aE (iX s list.length*dX s list.length) (mK s list (dX s list.length) (2*c5 s+2*i+k) 0)) =
     some (aE (iX s list.length*dX s list.length) (mK s list (dX s list.length) (2*c5 s+2*i+k) (bV s))):=by
     have:k=0\/k=1:=(by omega);rcases this with rfl|rfl
     ·rw[dw (by simp),dw (by simp)];exact TP s v list X7 hM (by omega) (by omega) aP.hE aP.Am aP.YD aP.YG aP.n (fun q a0=>U3 s list i a0) _ _ _ _ _ _ _ _ _ _ _ _
     ·rw[dy (by simp),dy (by simp)];exact TP s v list X7 hM (by omega) (by omega) aP.Am aP.hE aP.YE aP.YF aP.n (fun q a0=>U4 s list i a0) _ _ _ _ _ _ _ _ _ _ _ _
    unfold Ax;simp only;rw[Hx,iC,nT,iS,fa (by omega)];refine dv (by omega) (bm (by omega) (aG ep (aG ajf (bm (by simp only;omega) (bm (by rw[b2,dx];simp only;omega) ?_)))));simp only;rw[dx,ahi s list rfl (by omega) (by omega)];rfl)
  (fun _ _=>by unfold Ax;refine d8 (by simp) ?_;simp only;rw[show 2*c5 s+2*i+2=2*c5 s+2*(i+1) by omega]) () trivial
 exact e
theorem Wh {list:anu}{i:Nat}(ad:i<list.length):list[i]? = some (j0 list i):=by unfold j0;rw[List.getD_eq_getElem?_getD,dz ad];rfl
theorem abZ (s:cL)(v:lX s)(l:ar)(aZ:l.length=2*s.cc.length)(aP:∀x∈l,-100<=x/\x<=100)(list:anu)(U:list.length<=3)(fX:∀b∈list,zF s b):
 AG s l list=some ((iX s list.length:Int),(dX s list.length:Int),aE (iX s list.length*dX s list.length) (fun x=>i9 s list (x / dX s list.length) (x % dX s list.length)),aE (iX s list.length) (k0 s l),aE (dX s list.length) fun _=>0):=by
 have nC:=qZ s;have sQ:=ul s;obtain⟨-,-,aR,bk⟩:=id v;have Hy:J ((2:Int)*(len_ eTBlock list))=((2*list.length:Nat):Int):=by rw[fc,cu (by omega) (by omega)];omega
 have cg:=aft s v l aZ aP (2*list.length) (2*list.length) (by omega) (by omega);have wr:J (((2*c5 s+2*list.length:Nat):Int)-((2*list.length:Nat):Int))=((2*c5 s:Nat):Int):=by rw[cu (by omega) (by omega)];omega
 have iS:len_ fu (gl s)=((bV s:Nat):Int):=fc ..;unfold AG;rw[Hy];refine aG (x:=gl s) (Il s (by omega)) ?_;rw[iS];refine aG cg ?_;simp only;rw[wr];refine aG (x:=aE (iX s list.length*dX s list.length) (fun x=>i9 s list (x / dX s list.length) (x % dX s list.length))) ?_ rfl;unfold Pu;rw[fc]
 obtain⟨z,e,-⟩:=hF (f:=fun w:Int×ar=>Ay s.cc s.bA (gl s) ((2*c5 s:Nat):Int) (bV s:Int) list (list.length:Int) (iX s list.length:Int) (dX s list.length:Int) (aE (iX s list.length) (k0 s l)) (aE (dX s list.length) fun _=>0) w.1 w.2)
  (fun (i:Nat) (_:Unit)=>((i:Int),aE (iX s list.length*dX s list.length) (mK s list (dX s list.length) (2*c5 s+2*i) 0))) list.length (fun _ _=>True) (fun _=>aE (iX s list.length*dX s list.length) (fun x=>i9 s list (x / dX s list.length) (x % dX s list.length)))
  (fun i ad _ _=>by refine⟨(),?_,trivial⟩;have dn:=Wh ad;have bL:=adT s v list U ad (fX _ (dH dn)) list (list.length:Int) (aE (iX s list.length) (k0 s l)) (aE (dX s list.length) fun _=>0);unfold Ay;simp only;rw[fa (by omega)];exact dv (by omega) (bm (by omega) (aG (x:=j0 list i) (by rw[dx];exact dn) (aG bL rfl)))
  )
  (fun _ _=>by unfold Ay;refine d8 (by simp) ?_;simp only;congr 2;refine ek fun x aa=> ?_;have aj:x / dX s list.length<2*c5 s+2*list.length:=Nat.div_lt_of_lt_mul (by rw[Nat.mul_comm];exact aa);unfold mK;rw[dw (.inl aj)]) () trivial
 have e0:=ahg s list (iX s list.length*dX s list.length) (dX s list.length);rw[Nat.mul_zero,Nat.add_zero,e0] at e;exact e
theorem Up (s:cL)(v:lX s)(list:anu)(U:list.length<=3){N r jR:Nat}{x y d n:Int}(fw:N=dX s list.length)(oR:jR<2*list.length)(aj:r=2*c5 s+jR)(aa:px s x=some (jT s x))(aW:px s y=some (jT s y))
 (jw:0<=d*jT s x/\d*jT s x<=100) (kO:0<=n*jT s y/\n*jT s y<=100) (uI:0<=n/\n<=100) (OU : ∀q,q<bV s->i9 s list r q=ic s x y d n q) :
 Ci s ⟨x,y,n,d⟩ (N:Int) ((bV s+jR:Nat):Int)=some (aE N (i9 s list r)):=by
 have nC:=qZ s;have bk:=v.2.2.2;have ana:bV s+jR<N:=by rw[fw];unfold dX;omega
 have anb:N<=22:=by rw[fw];unfold dX;omega
 unfold Ci;refine bm (by omega) (aG (LV s (by omega)) ?_);simp only;rw[show (mE s.bA s.bA.length).map fh.hJ=aE (bV s) fun c=>((gz s c:Nat):Int) from M1 s,gZ,b2,dx,pe];refine aG (x:=aE N fun q=>if q<bV s then i9 s list r q else 0) ?_ ?_
 ·unfold So
  obtain⟨z,e,-⟩:=hF (f:=fun w:Int×ar=>BM ((bV s+jR:Nat):Int) (aE (bV s) fun c=>((gz s c:Nat):Int)) ((bV s:Nat):Int) s.cc s.bA x y n d w.1 w.2) (fun (c:Nat) (_:Unit)=>((c:Int),aE N fun q=>if q<c then i9 s list r q else 0)) (bV s) (fun _ _=>True) (fun _=>aE N fun q=>if q<bV s then i9 s list r q else 0)
   (fun c aX _ _=>by
     refine⟨(),?_,trivial⟩;have aP:=OU c aX
     have put : ∀a,a=i9 s list r c->(aE N fun q=>if q<c then i9 s list r q else 0).set c a=aE N fun q=>if q<c+1 then i9 s list r q else 0:=fun a bF=>by
      rw[kc];refine ek fun q _=> ?_;by_cases e:q=c
      ·subst e;rw[dw rfl,dw (by omega),bF]
      ·rw[dy e]
       by_cases g:q<c
       ·rw[dw g,dw (by omega)]
       ·rw[dy g,dy (by omega)]
     unfold BM;simp only;rw[fa (by omega)];refine dv (by omega) (bm (by rw[b2];omega) (aG (x:=((gz s c:Nat):Int)) (by rw[dx];exact fK aX) ?_));unfold ic at aP;by_cases e1:(gz s c:Int)=x
     ·rw[dw e1] at aP;refine fY (by rw[e1];simp) (aG (by rw[e1];exact aa) (bm (by rw[b2];omega) (bm (by rw[b2,dx];omega) ?_)));rw[dx,dG,cu (by omega) (by omega),put _ aP.symm]
     ·rw[dy e1] at aP
      refine h4 (beq_false_of_ne e1) ?_;by_cases e2:(gz s c:Int)=y
      ·rw[dw e2] at aP;have hm:(0-n)*jT s y = -(n*jT s y):=(by rw[Int.zero_sub,Int.neg_mul]);refine fY (by rw[e2];simp) (aG (by rw[e2];exact aW) (bm (by rw[b2];omega) (bm (by rw[b2,dx];omega) ?_)));rw[dx,dG,cu (x:=0-n) (by omega) (by omega),cu (by omega) (by omega),put _ aP.symm]
      ·rw[dy e2] at aP
       refine h4 (beq_false_of_ne e2) ?_;rw[<- put 0 aP.symm];congr 3;rw[kc]
       exact ek fun q _=>by
        by_cases e:q=c
        ·subst e;rw[dw rfl,dy (by omega)]
        ·rw[dy e])
   (fun _ _=>by unfold BM;exact d8 (by simp) rfl) () trivial
  have e0:(aE N fun q=>if q<0 then i9 s list r q else 0)=aE N fun _=>0:=ek fun q _=>(by rw[dy (by omega)]);rw[<- e0];exact e
 ·refine bm (by rw[b2];omega) (bm (by rw[b2,dx];omega) ?_)
  rw[dx,dG,kc];congr 1;refine ek fun q _=> ?_;by_cases e:q=bV s+jR
  ·rw[dw e,e];unfold i9;rw[dy (by omega),dy (by omega),dw (by omega)]
  ·rw[dy e]
   by_cases g:q<bV s
   ·rw[dw g]
   ·rw[dy g];unfold i9;rw[dy (by omega),dy g,dy (by omega)]
theorem Mu (g:Nat->Nat->Int){N:Nat}(i:Nat):aE (i*N) (fun x=>g (x / N) (x % N))++aE N (g i)=aE ((i+1)*N) fun x=>g (x / N) (x % N):=by rw[Nat.succ_mul,Ja];congr 1;exact ek fun q a0=>by rw[show (i*N+q) / N=i by rw[Nat.mul_comm,Nat.mul_add_div (by omega),Nat.div_eq_of_lt a0];rfl,show (i*N+q) % N=q by rw[Nat.mul_comm,Nat.mul_add_mod,Nat.mod_eq_of_lt a0]]
theorem ah2 (s:cL)(list:anu)(k:Nat){i:Nat}(ad:i<2*c5 s):aE (bV s) (l1 s i)++aE k (fun _=>(0:Int))=aE (bV s+k) (i9 s list i):=by
 rw[Ja];congr 1
 ·exact ek fun q a0=>by unfold i9 qJ;rw[dw ad,dw ⟨ad,a0⟩]
 ·exact ek fun q a0=>by unfold i9 qJ;rw[dw ad,dy (by omega)]
theorem agC {α:Type}{T b6 n:Nat}(f:Nat->α)(h:b6+n<=T):((aE T f).drop b6).take n=aE n fun q=>f (b6+q):=by
 apply List.ext_getElem?;intro i;by_cases c:i<n
 ·rw[List.getElem?_take,dw c,List.getElem?_drop,fK (by omega),fK c]
 ·rw[List.getElem?_take,dy c,List.getElem?_eq_none_iff.2 (by rw[b2];omega)]
theorem afx (s:cL)(v:lX s)(l:ar)(list:anu)(U:list.length<=3)(fF lz:Int)(e3 ec jn iJ:ar):
 K9 list fF s.cc s.bA ((2*c5 s:Nat):Int) (bV s:Int) (aE (2*c5 s*bV s) (fun x=>l1 s (x / bV s) (x % bV s))) e3 ec lz jn iJ 0 []=some (aE (2*c5 s*dX s list.length) fun x=>i9 s list (x / dX s list.length) (x % dX s list.length)):=by
 have nC:=qZ s;have sQ:=ul s;obtain⟨-,-,aR,bk⟩:=id v;have Hy:J ((2:Int)*(len_ eTBlock list))=((2*list.length:Nat):Int):=by rw[fc,cu (by omega) (by omega)];omega
 have fw:dX s list.length<=22:=by unfold dX;omega
 unfold K9
 obtain⟨z,e,-⟩:=hF (f:=fun w:Int×ar=>A7 list fF s.cc s.bA ((2*c5 s:Nat):Int) (bV s:Int) (aE (2*c5 s*bV s) (fun x=>l1 s (x / bV s) (x % bV s))) e3 ec lz jn iJ w.1 w.2) (fun (i:Nat) (_:Unit)=>((i:Int),aE (i*dX s list.length) fun x=>i9 s list (x / dX s list.length) (x % dX s list.length))) (2*c5 s) (fun _ _=>True) (fun _=>aE (2*c5 s*dX s list.length) fun x=>i9 s list (x / dX s list.length) (x % dX s list.length))
  (fun i ad _ _=>by refine⟨(),?_,trivial⟩;have h1:i*bV s<=12*16:=Nat.mul_le_mul (by omega) (by omega);have h2:(i+1)*bV s<=2*c5 s*bV s:=dL _ ad;have aw:(i+1)*bV s=i*bV s+bV s:=Nat.succ_mul i (bV s);have anc:i*dX s list.length<=12*22:=Nat.mul_le_mul (by omega) fw;have e1:J ((i:Int)*(bV s:Int))=((i*bV s:Nat):Int):=(by rw[<- Int.natCast_mul,cu (by omega) (by omega)]);have e2:J (J ((i:Int)+1)*(bV s:Int))=(((i+1)*bV s:Nat):Int):=(by rw[fa (by omega),<- Int.natCast_mul,cu (by omega) (by omega)]);have row:((aE (2*c5 s*bV s) (fun x=>l1 s (x / bV s) (x % bV s))).drop (i*bV s)).take ((i+1)*bV s-i*bV s)=aE (bV s) (l1 s i):=(by rw[show (i+1)*bV s-i*bV s=bV s by omega,agC _ (by omega)];exact ek fun q a0=>by rw[show (i*bV s+q) / bV s=i by rw[Nat.mul_comm,Nat.mul_add_div (by omega),Nat.div_eq_of_lt a0];rfl,show (i*bV s+q) % bV s=q by rw[Nat.mul_comm,Nat.mul_add_mod,Nat.mod_eq_of_lt a0]]);have ajg:aE (i*dX s list.length) (fun x=>i9 s list (x / dX s list.length) (x % dX s list.length))++aE (bV s) (l1 s i)++aE (2*list.length) (fun _=>(0:Int))=aE ((i+1)*dX s list.length) fun x=>i9 s list (x / dX s list.length) (x % dX s list.length):=(by rw[List.append_assoc,ah2 s list _ ad,<- Mu (i9 s list) i];rfl);unfold A7;simp only;rw[e1,e2,Hy,dx,dx,dx,row,pe,ajg,fa (by omega)];refine dv (by omega) (bm (by omega) (bm (by omega) (bm ⟨by omega,by rw[b2];exact h2⟩ (bm (by simp only[dE,b2];omega) (bm (by omega) (bm (by rw[b2,Nat.succ_mul];omega) rfl))))))
  )
  (fun _ _=>by unfold A7;exact d8 (by simp) rfl) () trivial
 rw[Nat.zero_mul] at e;exact e
theorem afy (s:cL)(v:lX s)(l:ar)(list:anu)(U:list.length<=3)(fX:∀b∈list,zF s b/\px s b.bR=some (jT s b.bR)/\px s b.bS=some (jT s b.bS))(fF lz:Int)(e3 ec jn iJ:ar):
 La (dX s list.length:Int) list (list.length:Int) s.cc s.bA fF (bV s:Int) e3 ec jn lz iJ 0 (aE (2*c5 s*dX s list.length) fun x=>i9 s list (x / dX s list.length) (x % dX s list.length)) (aE (2*c5 s) (k0 s l)) =
  some (aE (iX s list.length*dX s list.length) (fun x=>i9 s list (x / dX s list.length) (x % dX s list.length)),aE (iX s list.length) (k0 s l)):=by
 have nC:=qZ s;have sQ:=ul s;obtain⟨-,-,aR,bk⟩:=id v;have fw:dX s list.length<=22:=by unfold dX;omega
 unfold La
 obtain⟨z,e,-⟩:=hF (f:=fun w:Int×ar×ar=>A8 (dX s list.length:Int) list (list.length:Int) s.cc s.bA fF (bV s:Int) e3 ec jn lz iJ w.1 w.2.1 w.2.2) (fun (i:Nat) (_:Unit)=>((i:Int),(aE ((2*c5 s+2*i)*dX s list.length) fun x=>i9 s list (x / dX s list.length) (x % dX s list.length)),aE (2*c5 s+2*i) (k0 s l))) list.length (fun _ _=>True) (fun _=>(aE (iX s list.length*dX s list.length) (fun x=>i9 s list (x / dX s list.length) (x % dX s list.length)),aE (iX s list.length) (k0 s l)))
  (fun i ad _ _=>by refine⟨(),?_,trivial⟩;have dn:=Wh ad;obtain⟨aP,hA,Ko⟩:=fX _ (dH dn);have Hx:J ((2:Int)*(i:Int))=((2*i:Nat):Int):=(by rw[cu (by omega) (by omega)];omega);have iC:J ((bV s:Int)+((2*i:Nat):Int))=((bV s+2*i:Nat):Int):=(by rw[cu (by omega) (by omega)];omega);have nT:J (((bV s+2*i:Nat):Int)+1)=((bV s+(2*i+1):Nat):Int):=(by rw[fa (by omega)];rfl);have r1:=Up s v list U (r:=2*c5 s+2*i) (jR:=2*i) rfl (by omega) rfl hA Ko aP.YD aP.YG aP.n (fun q a0=>U3 s list i a0);have r2:=Up s v list U (r:=2*c5 s+2*i+1) (jR:=2*i+1) rfl (by omega) (by omega) Ko hA aP.YE aP.YF aP.n (fun q a0=>U4 s list i a0);have hm:(2*c5 s+2*i+1+1)*dX s list.length<=18*22:=Nat.mul_le_mul (by omega) fw;have rj:(2*c5 s+2*i+1)*dX s list.length<=18*22:=Nat.mul_le_mul (by omega) fw;have bc:=Mu (N:=dX s list.length) (i9 s list) (2*c5 s+2*i);have cj:=Mu (N:=dX s list.length) (i9 s list) (2*c5 s+2*i+1);have jm:aE (2*c5 s+2*i) (k0 s l)++[0,0]=aE (2*c5 s+2*(i+1)) (k0 s l):=(by rw[show 2*c5 s+2*(i+1)=2*c5 s+2*i+2 by omega,Ja (2*c5 s+2*i) 2];congr 1;have g0 : ∀j,k0 s l (2*c5 s+2*i+j)=0:=fun j=>(by unfold k0;rw[dy (by omega)]);simp only[aE,g0];rfl);unfold A8;simp only;rw[Hx,iC,nT,fa (by omega)];refine dv (by omega) (bm (by omega) (aG (x:=j0 list i) (by rw[dx];exact dn) (aG r1 (bm (by rw[bc,b2];omega) (aG r2 (bm (by rw[bc,cj,b2];omega) (bm (by rw[jm,b2];omega) ?_)))))));rw[bc,cj,jm,show 2*c5 s+2*i+1+1=2*c5 s+2*(i+1) by omega])
  (fun _ _=>by unfold A8;exact d8 (by simp) rfl) () trivial
 exact e
noncomputable def X8 (s:cL)(l:ar)(list:anu):jz:=⟨(iX s list.length:Int),(dX s list.length:Int),aE (iX s list.length*dX s list.length) (fun x=>i9 s list (x / dX s list.length) (x % dX s list.length)),aE (iX s list.length) (k0 s l),aE (dX s list.length) fun _=>0⟩
theorem ac3 (s:cL)(v:lX s)(l:ar)(aZ:l.length=2*s.cc.length)(aP:∀x∈l,-100<=x/\x<=100)(list:anu)(U:list.length<=3)(fX:∀b∈list,zF s b/\px s b.bR=some (jT s b.bR)/\px s b.bS=some (jT s b.bS)):
 B5 s l list=some (X8 s l list):=by
 have nC:=qZ s;have sQ:=ul s;obtain⟨-,-,aR,bk⟩:=id v;have Hy:J ((2:Int)*(len_ eTBlock list))=((2*list.length:Nat):Int):=by rw[fc,cu (by omega) (by omega)];omega
 have alo:J ((bV s:Int)+((2*list.length:Nat):Int))=(dX s list.length:Int):=by rw[cu (by omega) (by omega)];unfold dX;omega
 have Ap:J (((2*c5 s:Nat):Int)+((2*list.length:Nat):Int))=(iX s list.length:Int):=by rw[cu (by omega) (by omega)];unfold iX;omega
 have fw:dX s list.length<=22:=by unfold dX;omega
 have Ko:aE (2*c5 s) (p7 s l)=aE (2*c5 s) (k0 s l):=ek fun x aa=>by unfold k0;rw[dw aa]
 unfold B5;refine aG (ac2 s v l aZ aP) ?_;unfold YB;simp only[List.nil_append];rw[Hy,alo,Ap,dx,pe,Ko,fc];exact bm (by rw[b2];omega) (bm (by omega) (aG (afx s v l list U _ _ _ _ _ _) (aG (afy s v l list U fX _ _ _ _ _ _) rfl)))
theorem ac4 (s:cL)(i0:oq s)(b:cV)(DL:u0 b)(h:tS s b=some true):zF s b/\px s b.bR=some (jT s b.bR)/\px s b.bS=some (jT s b.bS):=by
 obtain⟨YH,YI⟩:=acY s i0 b DL h;obtain⟨p,p1,p2⟩:=B4 s i0;obtain⟨sT,p3,O8,Ab⟩:=DL;unfold tS at h;simp only[p1,dC,dA] at h
 cases p with
 | false=>simp at h
 | true =>
  by_cases bc:b.bR=b.bS
  ·simp[bc] at h
  by_cases cj:b.ez<1\/b.cK<b.ez\/100<b.cK
  ·by_cases a:b.ez<1<;>by_cases eh:b.cK<b.ez<;>by_cases z6:100<b.cK<;>simp[bc,a,eh,z6] at h<;>omega
  have d1 : ¬b.ez<1:=(by omega);have d2 : ¬b.cK<b.ez:=(by omega);have d3 : ¬100<b.cK:=(by omega);rcases Cu s i0 p1 p2 b.bR sT b.cK (by omega) with ⟨fP,fH⟩|⟨mw,ll,fP,fH,bC,fx,kj,rq,kR⟩
  ·simp[bc,d1,d2,d3,fH] at h
  by_cases DM:(decide (0<ll) && decide (ll*b.cK<=100))=true;rotate_left
  ·simp only[kR,dA] at h;simp[bc,d1,d2,d3,DM] at h
  rcases Cu s i0 p1 p2 b.bS p3 b.cK (by omega) with ⟨e1,e2⟩|⟨jJ,lR,e1,e2,bI,c1,di,eg,e5⟩
  ·simp only[kR,e2,dA] at h;simp[bc,d1,d2,d3,DM] at h
  by_cases Ks:(decide (0<lR) && decide (lR*b.cK<=100))=true;rotate_left
  ·simp only[kR,e5,dA] at h;simp[bc,d1,d2,d3,DM,Ks] at h
  rw[dM,decide_eq_true_eq,decide_eq_true_eq] at DM Ks;have Kv:jT s b.bR=ll:=(by unfold jT;rw[fx];rfl);have Kw:jT s b.bS=lR:=(by unfold jT;rw[c1];rfl);have ane:b.ez*ll<=b.cK*ll:=Int.mul_le_mul_of_nonneg_right (by omega) kj;have anf:b.ez*lR<=b.cK*lR:=Int.mul_le_mul_of_nonneg_right (by omega) di;have lz:0<=b.ez*ll:=Int.mul_nonneg (by omega) kj;have uK:0<=b.ez*lR:=Int.mul_nonneg (by omega) di;have s1:b.cK*ll=ll*b.cK:=Int.mul_comm _ _;have s2:b.cK*lR=lR*b.cK:=Int.mul_comm _ _;obtain⟨x,x1,x2,-⟩:=Ms s i0 p1 b.bR YH.1 YH.2;obtain⟨y,e3,ec,-⟩:=Ms s i0 p1 b.bS YI.1 YI.2;have jg:x=ll:=(by rw[fx] at x2;exact(dI x2).symm);have j8:y=lR:=(by rw[c1] at ec;exact(dI ec).symm);refine⟨⟨by rw[Kv];exact fx,by rw[Kw];exact c1,by rw[Kv];omega,by rw[Kw];omega,by rw[Kv];omega,by rw[Kw];omega,by omega⟩,by rw[Kv,x1,jg],by rw[Kw,e3,j8]⟩
theorem adU (s:cL)(i0:oq s)(de:anu)(aZ:de.length<=maxLen)(aP:∀b∈de,u0 b):
 (wZ s de=some true/\w1 s de=some true/\de.length<=3/\ ∀b∈de,tS s b=some true)\/(wZ s de=some false/\w1 s de=some false):=by
 have hm:=tX;obtain⟨p,p1,p2⟩:=B4 s i0;unfold wZ w1;rw[fc];by_cases h1:(3:Int)<(de.length:Nat)
 ·refine .inr ⟨aG p1 ?_,dv h1 rfl⟩
  cases p
  ·exact h4 rfl rfl
  ·exact fY rfl (dv h1 rfl)
 cases p with
 | false=>exact .inr ⟨aG p1 (h4 rfl rfl),d8 h1 (aG p2 (h4 rfl rfl))⟩
 | true =>
  have hex : ∀b,∃q:Bool,b∈de->tS s b=some q/\Cg s b=some q:=by
   intro b;by_cases h:b∈de
   ·obtain⟨q,q1,q2⟩:=adn s i0 b (aP b h);exact⟨q,fun _=>⟨q1,q2⟩⟩
   ·exact⟨false,fun c3=>absurd c3 h⟩
  obtain⟨f,cg⟩:=Classical.axiomOfChoice hex;have bL:RJ de (de.length:Nat) s.cc s.bA 0=some (if de.all f then .inl () else .inr ()):=(by refine Fm (f:=fun w=>Bi de (de.length:Nat) s.cc s.bA w) de f (fun n x aa=> ?_) (by unfold Bi;exact d8 (by omega) rfl);have et:=gH aa;unfold Bi;rw[i1 (by omega)];refine dv (by omega) (bm (by omega) (aG (gt rfl aa) (aG (cg x (dH aa)).1 ?_)));cases f x<;>rfl);have ad:RX de (de.length:Nat) s.cc s.bA 0=some (if de.all f then .inl () else .inr ()):=by refine Fm (f:=fun w=>Br de (de.length:Nat) s.cc s.bA w) de f (fun n x aa=> ?_) (by unfold Br;exact d8 (by omega) rfl);have et:=gH aa;unfold Br;rw[i1 (by omega)];refine dv (by omega) (bm (by omega) (aG (gt rfl aa) (aG (cg x (dH aa)).2 ?_)));cases f x<;>rfl
  cases e:de.all f with
  | false =>
   rw[e] at bL ad;exact .inr ⟨aG p1 (fY rfl (d8 h1 (aG bL rfl))),d8 h1 (aG p2 (fY rfl (aG ad rfl)))⟩
  | true =>
   rw[e] at bL ad;rw[List.all_eq_true] at e;exact .inl ⟨aG p1 (fY rfl (d8 h1 (aG bL rfl))),d8 h1 (aG p2 (fY rfl (aG ad rfl))),by omega,fun b aP=>by rw[(cg b aP).1,e b aP]⟩
theorem ac5 (l:anu)(h:l.length<=1048576):En l=some l:=by
 have h1:Q0 l 0 (List.replicate (len_ eTBlock l).toNat (⟨0,0,0,0⟩:cV))=some l :=
  Is l _ (by simp[fc])
   (fun n x row aa aj=>by have aY:=gH aa;simp only;unfold DY;rw[i1 (by omega)];exact dv (by rw[fc];omega) (bm (by omega) (aG (gt rfl aa) (aG rfl (bm (by omega) (bm (by omega) (by rw[dx,dG])))))))
   (fun row=>by unfold DY;exact d8 (by rw[fc];omega) rfl)
 unfold En;exact bm (by rw[fc];omega) (aG h1 rfl)
theorem ac6 (l:anu)(h:l.length<=1048576):EO l l=some true:=by
 have h1:R3 l l 0=some (if l.all (fun _=>true) then .inl () else .inr ()):=by refine Fm (f:=fun w=>Bt l l w) l _ (fun n x aa=> ?_) (by unfold Bt;exact d8 (by rw[fc];omega) rfl);have et:=gH aa;unfold Bt H6;rw[i1 (by omega)];exact dv (by rw[fc];omega) (bm (by omega) (aG (gt rfl aa) (bm (by omega) (aG (gt rfl aa) (aG (h4 (vm rfl) (h4 (vm rfl) (h4 (vm rfl) (h4 (vm rfl) rfl)))) (fY rfl rfl))))))
 unfold EO;exact h4 (vm rfl) (aG h1 (by simp))
theorem ac7 (l:anu)(h:l.length<=maxLen)(r:Int)(h0:0<=r)(aj:r<=1048576): ∃t,EA l r=some t/\(0<=t->l.length<=1048576):=by
 have hm:=tX;unfold EA;rw[fc,cu (x:=r-((l.length:Nat):Int)) (by omega) (by omega)];by_cases e:r-((l.length:Nat):Int)<0
 ·exact⟨-1,dv e rfl,by omega⟩
 ·exact⟨_,d8 e rfl,by omega⟩
def X9:List ByteArray:=[⟨#[97]⟩,⟨#[98]⟩,⟨#[99]⟩,⟨#[100]⟩]
structure Ya (s:cL):Prop where
 v:lX s
 ok:uO s=some true
 O8:3<=s.cc.length
 iw:2<=s.bA.length
 alp:s.cc.map (·.mO)=X9.take s.cc.length
 Hs : ∀j∈s.cc,-4<=j.hv/\j.hv<=8/\ -9<=j.iW/\j.iW<=3
structure JO (K:Nat) (z:Nat->Rat) (w:Rat):Prop where
 pos:0<w
 qI:dW K w
 alq : ∀k,dW K (z k*w)
 akO:1000*K<=21*100*(eL*eL)
theorem JO.fit {K:Nat}{z:Nat->Rat}{w x:Rat}(h:JO K z w){a:Nat}(bF:a<=1000)(aa:dW (a*K) (x*w)):eH x:=by have ah:=h.pos;have h1:=h.akO;have h2:a*K<=1000*K:=dL _ bF;exact rJ (K:=21*100*(eL*eL)) (h.qI.mono (by omega)) (aa.mono (by omega)) (by grind) (by grind) (qj (dF _))
theorem dW.int {z:Int}{K:Nat}(h:z.natAbs<=K):dW K (z:Rat):=⟨z,rfl,h⟩
theorem JO.fits {K:Nat}{z:Nat->Rat}{w:Rat}(h:JO K z w){n:Nat}(aY:n<=8){e:Nat->Int}(he:∀k,-100<=e k/\e k<=100){f:Int}(cg:-100<=f/\f<=100):eH (cA n (fun k=>z k*(e k:Rat))+(f:Rat)):=h.fit (a:=n*100+100) (by omega) (by
 have e1:(cA n (fun k=>z k*(e k:Rat))+(f:Rat))*w=cA n (fun k=>(e k:Rat)*(z k*w))+(f:Rat)*w:=by rw[Rat.add_mul,<- vL];congr 1;exact gm fun k _=>by grind
 rw[e1,Nat.add_mul];refine dW.add ?_ ((dW.int (by omega)).mul h.qI);rw[Nat.mul_assoc];exact dW.sum fun k _=>(dW.int (by have:=he k;omega)).mul (h.alq k))
theorem Ya.Ab {s:cL}(d:Ya s):s.cc.length<=4:=by have:=congrArg List.length d.alp;rw[List.length_map,List.length_take] at this;have e:X9.length=4:=rfl;omega
def Pd (m:d5):Int:=if m.jd=1 then 1 else if m.jd=2 then -1 else 0
theorem aez {p:jz}{m n:Nat}{a:Nat->Nat->Int}{b:Nat->Int}(h:ms p m n a b){c:Nat->Int}(aX:∀j,j<n-> -100<=c j/\c j<=100):
 (¬q5 m n a b/\rZ ⟨p.f7,p.eM,p.bR,p.bS,aE n c⟩=some ⟨2,[],⟨⟨false,[]⟩,[]⟩⟩/\w2 p.f7 p.eM p.bR p.bS (aE n c)=some (2,[],none)) \/
 (q5 m n a b/\ ¬Bounded m n a b (h9 n c)/\rZ ⟨p.f7,p.eM,p.bR,p.bS,aE n c⟩=some ⟨3,[],⟨⟨false,[]⟩,[]⟩⟩/\w2 p.f7 p.eM p.bR p.bS (aE n c)=some (3,[],none)) \/
 ∃x w,JN m n a b (h9 n c) x w/\eH (val n (h9 n c) x)/\rZ ⟨p.f7,p.eM,p.bR,p.bS,aE n c⟩=some ⟨0,aE n (fun j=>ca (x j)),ca (val n (h9 n c) x)⟩/\w2 p.f7 p.eM p.bR p.bS (aE n c)=some (0,aE n (fun j=>gy (x j)),gy (val n (h9 n c) x)):=by
 have c3:=WA h (aE n c);obtain⟨r,e,aj⟩:=UX c3 (c:=c) rfl aX;obtain⟨q,f,a0⟩:=afs c3 (c:=c) rfl aX;rcases aj with ⟨s1,rfl⟩|⟨s1,s2,rfl⟩|⟨x,w,mS,⟨iC,nT,uJ⟩,Pe,alr,rfl⟩
 ·rcases a0 with ⟨-,rfl⟩|⟨t1,-⟩|⟨y,aU,-⟩
  ·exact .inl ⟨s1,f,e⟩
  ·exact(s1 t1).elim
  ·exact(s1 ⟨y,aU.1⟩).elim
 ·rcases a0 with ⟨t1,-⟩|⟨-,-,rfl⟩|⟨y,aU,-⟩
  ·exact(t1 s1).elim
  ·exact .inr (.inl ⟨s1,s2,f,e⟩)
  ·exact(s2 ⟨_,fun z cH=>aU.JE cH⟩).elim
 ·rcases a0 with ⟨t1,-⟩|⟨-,t2,-⟩|⟨y,aU,-,-,rfl⟩
  ·exact(t1 ⟨x,mS.1⟩).elim
  ·exact(t2 ⟨_,fun z cH=>mS.JE cH⟩).elim
  ·obtain⟨ki,mI⟩:=aU.unique mS;have fe:(aE n fun j=>ca (y j))=aE n fun j=>ca (x j):=ek fun j av=>(by rw[ki j av]);rw[fe,mI] at f;exact .inr (.inr ⟨x,w,⟨mS,iC,nT,uJ,Pe⟩,alr,f,e⟩)
theorem afz (s:cL)(v:lX s){p:jz}{m n:Nat}{a:Nat->Nat->Int}{b:Nat->Int}(h:ms p m n a b){c:Nat->Int}(aX:∀j,j<n-> -100<=c j/\c j<=100)(aY:bV s<=n):
 (∃q,rZ ⟨p.f7,p.eM,p.bR,p.bS,aE n c⟩=some q/\q.Jt≠0/\tO s p.f7 p.eM p.bR p.bS (aE n c)=some ([],[],false)) \/
 ∃x w r z,JN m n a b (h9 n c) x w/\rZ ⟨p.f7,p.eM,p.bR,p.bS,aE n c⟩=some ⟨0,aE n (fun j=>ca (x j)),z⟩/\tO s p.f7 p.eM p.bR p.bS (aE n c)=some (aE s.bA.length (fun k=>gy (iD s x (bV s) k)),r,true):=by
 have t:=ahe s v (WA h (aE n c)) (c:=c) rfl aX aY;rcases aez h aX with ⟨n1,e,-⟩|⟨n1,n2,e,-⟩|⟨x,w,q,-,e,-⟩
 ·rcases t with ⟨-,f⟩|⟨q,-⟩|⟨x,w,r,q,-⟩
  ·exact .inl ⟨_,e,by simp,f⟩
  ·exact(n1 q).elim
  ·exact(n1 ⟨x,q.mS.1⟩).elim
 ·rcases t with ⟨q,-⟩|⟨-,-,f⟩|⟨x,w,r,q,-⟩
  ·exact(q n1).elim
  ·exact .inl ⟨_,e,by simp,f⟩
  ·exact(n2 ⟨_,fun z cH=>q.mS.JE cH⟩).elim
 ·rcases t with ⟨n,-⟩|⟨-,n,-⟩|⟨y,u,r,o,f⟩
  ·exact(n ⟨x,q.mS.1⟩).elim
  ·exact(n ⟨_,fun z cH=>q.mS.JE cH⟩).elim
  ·have un:=(o.mS.unique q.mS).1;have Ht:(fun k=>gy (iD s y (bV s) k))=fun k=>gy (iD s x (bV s) k):=(by funext k;congr 1;exact gm fun j av=>by rw[un j (by omega)]);simp only at f;rw[Ht] at f;exact .inr ⟨x,w,r,_,q,e,f⟩
theorem ah3 {list:anu}{i:Nat}(h:i<list.length):j0 list i∈list:=by unfold j0;rw[List.getD_eq_getElem?_getD,dz h];exact List.getElem_mem h
theorem agD (s:cL)(v:lX s){l:ar}(aP:∀x∈l,-100<=x/\x<=100){de:anu}(U:de.length<=3)(fX:∀b∈de,zF s b):ms ⟨(iX s de.length:Int),(dX s de.length:Int),aE (iX s de.length*dX s de.length) (fun x=>i9 s de (x / dX s de.length) (x % dX s de.length)),aE (iX s de.length) (k0 s l),aE (dX s de.length) fun _=>0⟩ (iX s de.length) (dX s de.length) (i9 s de) (k0 s l) where
 rows:=rfl
 gl:=rfl
 hE:=b2 ..
 Gp:=fun i ad j av=>by have h1:i*dX s de.length+j<iX s de.length*dX s de.length:=(by have:(i+1)*dX s de.length<=iX s de.length*dX s de.length:=dL _ ad;rw[Nat.succ_mul] at this;omega);show (aE _ _)[_]? = _;rw[fK h1];have h2:(i*dX s de.length+j) / dX s de.length=i:=(by rw[Nat.mul_comm,Nat.mul_add_div (by omega),Nat.div_eq_of_lt av];rfl);have U:(i*dX s de.length+j) % dX s de.length=j:=(by rw[Nat.mul_comm,Nat.mul_add_mod,Nat.mod_eq_of_lt av]);rw[h2,U]
 Am:=b2 ..
 JK:=fun i ad=>fK ad
 hm:=by obtain⟨-,-,f3,f4⟩:=id v;have:=ul s;unfold iX;omega
 aY:=by obtain⟨-,-,f3,f4⟩:=id v;have:=qZ s;unfold dX;omega
 ll:=fun i ad j av=>by
  have bc : ∀y q:Int,(0-q)*y = -(q*y):=fun y q=>(by rw[Int.zero_sub,Int.neg_mul]);unfold iX at ad;unfold i9 qJ;by_cases c:i<2*c5 s
  ·rw[dw c]
   by_cases d:j<bV s
   ·rw[dw ⟨c,d⟩];exact Nz s v i d
   ·rw[dy (by omega)];omega
  ·rw[dy c]
   by_cases d:j<bV s
   ·obtain⟨-,-,x1,x2,ao,gw,-⟩:=fX _ (ah3 (list:=de) (i:=(i-2*c5 s) / 2) (by omega))
    rw[dw d];unfold ic;rw[bc,bc];split
    ·split
     ·omega
     ·split<;>omega
    ·split
     ·omega
     ·split<;>omega
   ·rw[dy d];split<;>omega
 lR:=fun i _=>by
  unfold k0 p7;split
  ·rw[List.getD_eq_getElem?_getD]
   cases e:l[2*i6 s (i / 2)+i % 2]? with
   | none=>simp
   | some x=>have:=aP x (dH e);simp only[Option.getD_some];omega
  ·omega
theorem ahj {n N:Nat}(h:n<=N)(f:Nat->ax):((aE N f).drop 0).take (n-0)=aE n f:=by rw[List.drop_zero,Nat.sub_zero];exact U1 f h
theorem aeA (s:cL)(i0:oq s)(l:ar)(aZ:l.length<=maxLen)(de:anu)(h1:de.length<=maxLen)(h2:∀b∈de,u0 b):
 (vI s l=some false/\w5 s l=some false)\/(vI s l=some true/\w5 s l=some true/\((wZ s de=some false/\w1 s de=some false)\/(wZ s de=some true/\w1 s de=some true/\oJ s=some true/\lX s/\de.length<=3 /\
   ∃p:jz,B5 s l de=some p/\AG s l de=some (p.f7,p.eM,p.bR,p.bS,p.hl) /\
    ((∃q,rZ p=some q/\q.Jt≠0/\tO s p.f7 p.eM p.bR p.bS p.hl=some ([],[],false)) \/
    ∃x w r z,JN (iX s de.length) (dX s de.length) (i9 s de) (k0 s l) (h9 (dX s de.length) fun _=>0) x w/\(∀c k,c<=bV s->eH (iD s x c k))/\rZ p=some ⟨0,aE (dX s de.length) (fun j=>ca (x j)),z⟩/\tO s p.f7 p.eM p.bR p.bS p.hl=some (aE s.bA.length (fun k=>gy (iD s x (bV s) k)),r,true))))):=by
 rcases afv s i0 l aZ with ⟨e1,e2,h,aP⟩|⟨e1,e2⟩;rotate_left
 ·exact .inl ⟨e1,e2⟩
 rcases adU s i0 de h1 h2 with ⟨g1,g2,U,fX⟩|⟨g1,g2⟩;rotate_left
 ·exact .inr ⟨e1,e2,.inl ⟨g1,g2⟩⟩
 have v:=acr s i0 h;have nC:=qZ s;have bk:=v.2.2.2;obtain⟨YJ,oR⟩:=adS aP;have cg : ∀b∈de,zF s b/\px s b.bR=some (jT s b.bR)/\px s b.bS=some (jT s b.bS):=fun b aP=>ac4 s i0 b (h2 b aP) (fX b aP);have ah:=agD s v oR U fun b aP=>(cg b aP).1;refine .inr ⟨e1,e2,.inr ⟨g1,g2,h,v,U,X8 s l de,ac3 s v l YJ oR de U cg,abZ s v l YJ oR de U fun b aP=>(cg b aP).1,?_⟩⟩;rcases afz s v ah (c:=fun _=>0) (fun j _=>by omega) (by unfold dX;omega) with ⟨q,fP,fH,bC⟩|⟨x,w,r,z,q,fP,fH⟩
 ·exact .inl ⟨q,fP,fH,bC⟩
 ·exact .inr ⟨x,w,r,z,q,fun c k aX=>Wf (s:=s) ah.hm (by omega) q.pos q.qI q.aln k aX,fP,fH⟩
theorem agE {s:cL}(v:lX s)(h:oJ s=some true){de:anu}(U:de.length<=3){x:Nat->Rat}(aa:∀j,eH (x j))(cg:∀c k,c<=bV s->eH (iD s x c k)):
 (if 0<=J (len_ aI (aE (dX s de.length) fun j=>ca (x j))-J ((2:Int)*len_ eTBlock de)) then
   if 0<=(J (len_ aI (aE (dX s de.length) fun j=>ca (x j))-J ((2:Int)*len_ eTBlock de))).toNat/\(J (len_ aI (aE (dX s de.length) fun j=>ca (x j))-J ((2:Int)*len_ eTBlock de))).toNat<=(aE (dX s de.length) fun j=>ca (x j)).length then
   BW s (((aE (dX s de.length) fun j=>ca (x j)).drop 0).take ((J (len_ aI (aE (dX s de.length) fun j=>ca (x j))-J ((2:Int)*len_ eTBlock de))).toNat-0)) >>= fun fb=>some (fb.1,fb.2)
   else none else none)=some (aE s.bA.length (fun k=>ca (iD s x (bV s) k)),true):=by
 have nC:=qZ s;have bk:=v.2.2.2;have fw:bV s<=dX s de.length:=by unfold dX;omega
 have DK:J (len_ aI (aE (dX s de.length) fun j=>ca (x j))-J ((2:Int)*len_ eTBlock de))=((bV s:Nat):Int):=by rw[fc,fc,b2,cu (x:=(2:Int)*_) (by omega) (by omega),cu (by unfold dX;omega) (by unfold dX;omega)];unfold dX;omega
 rw[DK];refine bm (by omega) (bm (by rw[b2];omega) ?_);rw[dx,ahj fw];exact aG (agB s v h aa cg) rfl
theorem adV (s:cL)(i0:oq s)(l:ar)(aZ:l.length<=maxLen)(de:anu)(h1:de.length<=maxLen)(h2:∀b∈de,u0 b):
 ∃q ok,ya s l de=some (q,ok)/\yb s l de=some (q,ok):=by
 unfold ya yb;rcases aeA s i0 l aZ de h1 h2 with ⟨e1,e2⟩|⟨e1,e2,⟨g1,g2⟩|⟨g1,g2,h,v,U,p,p1,p2,⟨q,fP,fH,bC⟩|⟨x,w,r,z,q,f,fP,fH⟩⟩⟩
 ·exact⟨_,_,aG e1 (h4 rfl rfl),aG e2 (h4 rfl rfl)⟩
 ·exact⟨_,_,aG e1 (fY rfl (aG g1 (h4 rfl rfl))),aG e2 (fY rfl (aG g2 (h4 rfl rfl)))⟩
 ·exact⟨_,_,aG e1 (fY rfl (aG g1 (fY rfl (aG p1 (aG fP (fY (wz fH) rfl)))))),aG e2 (fY rfl (aG g2 (fY rfl (aG p2 (aG bC (h4 rfl rfl))))))⟩
 ·have bk:=v.2.2.2;exact⟨_,_,aG e1 (fY rfl (aG g1 (fY rfl (aG p1 (aG fP (h4 rfl (agE v h U q.fit f))))))),aG e2 (fY rfl (aG g2 (fY rfl (aG p2 (aG fH (fY rfl (aG (afu (by omega) fun k _=>f _ k (dF _)) rfl)))))))⟩
def n3 (de:anu):anu:=de.map fun b=>⟨b.bR,b.bS,1,1⟩
theorem TQ (l:ar)(ok:Bool)(de:anu)(h:de.length<=1048576)(ij:anv)(f5:anw):KH l ok de ((de.length:Nat):Int) ij f5 0 []=some (n3 de):=by
 unfold KH
 obtain⟨_,e,-⟩:=hF (f:=fun w:Int×anu=>AH l ok de ((de.length:Nat):Int) ij f5 w.1 w.2) (fun (n:Nat) (_:Unit)=>((n:Int),(n3 de).take n)) de.length (fun _ _=>True) (fun _=>n3 de)
  (fun n aY _ _=>by
    refine⟨(),?_,trivial⟩;have aa:=dz aY;have bL:(n3 de).length=de.length:=List.length_map ..;have e:(n3 de).take (n+1)=(n3 de).take n++[⟨de[n].bR,de[n].bS,1,1⟩]:=(by rw[List.take_add_one,show (n3 de)[n]? = some ⟨de[n].bR,de[n].bS,1,1⟩ by unfold n3;rw[dJ,aa];rfl];rfl);simp only;unfold AH;rw[i1 (by omega)];exact dv (by omega) (bm (by omega) (aG (gt rfl aa) (bm (by simp only[dE,List.length_take,List.length_singleton];omega) (by rw[e]))))
    )
  (fun _ _=>by simp only;unfold AH;exact d8 (by omega) (by rw[List.take_of_length_le (by unfold n3;rw[List.length_map];omega)])) () trivial
 exact e
theorem aeB (l:ar)(de:anu)(h:de.length<=1048576)(ij:anv)(f5:anw):KM l de ((de.length:Nat):Int) ij f5 0 (List.replicate de.length ⟨0,0,0,0⟩)=some (n3 de):=by
 unfold KM;have bL:(n3 de).length=de.length:=List.length_map ..
 obtain⟨_,e,-⟩:=hF (f:=fun w:Int×anu=>AP l de ((de.length:Nat):Int) ij f5 w.1 w.2) (fun (n:Nat) (_:Unit)=>((n:Int),(n3 de).take n++List.replicate (de.length-n) ⟨0,0,0,0⟩)) de.length (fun _ _=>True) (fun _=>n3 de)
  (fun n aY _ _=>by
    refine⟨(),?_,trivial⟩;have aa:=dz aY;have aZ:((n3 de).take n).length=n:=(by rw[List.length_take,bL];omega);have e:((n3 de).take n++List.replicate (de.length-n) (⟨0,0,0,0⟩:cV)).set (0+((n:Nat):Int).toNat) ⟨de[n].bR,de[n].bS,1,1⟩=(n3 de).take (n+1)++List.replicate (de.length-(n+1)) ⟨0,0,0,0⟩:=(by rw[dx,dG,List.set_append,dy (by omega),aZ,Nat.sub_self,show de.length-n=(de.length-(n+1))+1 by omega,List.replicate_succ,List.set_cons_zero,List.take_add_one,show (n3 de)[n]? = some ⟨de[n].bR,de[n].bS,1,1⟩ by unfold n3;rw[dJ,aa];rfl,List.append_assoc];rfl);simp only;unfold AP;rw[i1 (by omega)];refine dv (by omega) (bm (by omega) (aG (gt rfl aa) (bm (by rw[dE,aZ,List.length_replicate];omega) (bm (by rw[dE,aZ,List.length_replicate,dx];omega) (by rw[e])))))
    )
  (fun _ _=>by simp only;unfold AP;exact d8 (by omega) (by rw[Nat.sub_self,List.replicate_zero,List.append_nil,List.take_of_length_le (by omega)])) () trivial
 rw[Nat.sub_zero,List.take_zero,List.nil_append] at e;exact e
theorem aeC (s:cL)(i0:oq s)(l:ar)(aZ:l.length<=maxLen)(de:anu)(h1:de.length<=1048576)(h2:∀b∈de,u0 b): ∃r,D4 s l de=some r/\D7 s l de=some r:=by
 have hm:=tX;have w : ∀(cs:anu),cs.length<=maxLen->(∀b∈cs,u0 b)-> ∃q ok,ya s l cs=some (q,ok)/\yb s l cs=some (q,ok):=fun cs bc cj=>by exact adV s i0 l aZ cs bc cj
 obtain⟨q,ok,e1,e2⟩:=w de (by omega) h2;obtain⟨i7,mi,f1,f2⟩:=w (n3 de) (by unfold n3;rw[List.length_map];omega) (fun b aP=>by unfold n3 at aP;rw[List.mem_map] at aP;obtain⟨c,aX,rfl⟩:=aP;obtain⟨x1,x2,-,-⟩:=h2 c aX;exact⟨x1,x2,ln.2 (by simp only;omega),ln.2 (by simp only;omega)⟩);have hlen:=fc eTBlock de;unfold D4 D7;rw[hlen]
 cases ok with
 | true=>exact⟨_,aG e1 (aG (TQ l _ de h1 _ _) (aG f1 (fY rfl rfl))),aG e2 (fY rfl (bm (by omega) (aG (by rw[dx];exact aeB l de h1 _ _) (aG f2 rfl))))⟩
 | false=>exact⟨_,aG e1 (aG (TQ l _ de h1 _ _) (aG f1 (h4 rfl rfl))),aG e2 (h4 rfl rfl)⟩
theorem Y6 (x0:cL)(x1:ar)(x2:anu)(i0:oq x0)(i1:(fun l=>l.length<=maxLen/\ ∀x∈l,mP x) x1)(i2:(fun l=>l.length<=maxLen/\ ∀x∈l,u0 x) x2):HE x0 x1 x2=some true:=by
 have hm:=tX;unfold HE;rw[gZ];by_cases h0:(1048576:Int)<(x1.length:Nat)
 ·exact dv h0 rfl
 obtain⟨r,r1,r2⟩:=abX x0 i0 1048576 (by omega) (by omega);have aj:=acL x0 i0 1048576 (by omega) (by omega) r r1;refine d8 h0 (aG r1 ?_);by_cases h2:r<0
 ·exact dv h2 rfl
 obtain⟨fP,fH⟩:=r2 (by omega);obtain⟨t,t1,t2⟩:=ac7 x2 i2.1 r (by omega) aj;refine d8 h2 (aG t1 ?_);by_cases U:t<0
 ·exact dv U rfl
 have aP:=t2 (by omega);obtain⟨q,q1,q2⟩:=aeC x0 i0 x1 i1.1 x2 aP i2.2;exact d8 U (aG (abY x0 fP fH) (aG (adN x1 (by omega)) (aG (ac5 x2 aP) (aG q1 (aG q2 (fY (by simp) (aG (abW x0 fP fH) (fY rfl (aG (adI x1 (by omega)) (fY rfl (aG (ac6 x2 aP) (fY rfl rfl))))))))))))
end Go.Proofs.YthgbjflfgmahbadGreat
