/- Lemmas, plain functions of the program, and what they answer. No condition. -/
import Derived.Test.YthgbjflfgmahbaaGreatME
namespace Go.Proofs.YthgbjflfgmahbaaGreat
set_option linter.unusedVariables false
set_option linter.unusedSimpArgs false
open Go Go.VL
structure ly (p:iN) (m n:Nat) (a:Nat->Nat->Int) (b:Nat->Int):Prop where
 rows:p.gl=m
 gM:p.fj=n
 hd:p.dY.length=m*n
 Cf : ∀i,i<m-> ∀j,j<n->p.dY[i*n+j]? = some (a i j)
 w3:p.ea.length=m
 Fl : ∀i,i<m->p.ea[i]? = some (b i)
 hm:m<=20
 aS:n<=40
 uH : ∀i,i<m-> ∀j,j<n-> -100<=a i j/\a i j<=100
 s6 : ∀i,i<m-> -100<=b i/\b i<=100
theorem vh {p:iN}{m n:Nat}{a:Nat->Nat->Int}{b:Nat->Int}(h:ly p m n a b){i:Nat}(ad:i<m)(j:Nat): -100<=lq m n a b i j/\lq m n a b i j<=100:=by
 have aU:=h.s6 i ad;unfold lq k0;by_cases c:j<n
 ·have bI:=h.uH i ad j c;rw[dw c];split<;>omega
 ·rw[dy c]
  split
  ·split<;>omega
  ·split<;>omega
theorem Mo {p:iN}{m n:Nat}{a:Nat->Nat->Int}{b:Nat->Int}(h:ly p m n a b){i:Nat}(ad:i<m)(j:Nat):dV 100 (de m n a b i j) :=
 ⟨lq m n a b i j,rfl,by have:=vh h ad j;omega⟩
theorem aeQ:(1000000000000000000:Int)<B 24:=by decide
theorem Lh {K:Nat}{x:Rat}(h:dV K x)(aY:K<=1000000000000000000):eW x:=by obtain⟨z,rfl,cC⟩:=h;have:=aeQ;exact Tx (n:=z) (d:=1) (by decide) (by rw[show ((1:Int):Rat)=1 from rfl];grind) (by omega) (by omega)
theorem UM {p:iN}{m n:Nat}{a:Nat->Nat->Int}{b:Nat->Int}(h:ly p m n a b){i:Nat}(ad:i<m):Bf p i=some (aN n (a i)):=by
 have hm:=h.hm;have aS:=h.aS;have h1:i*n<=20*40:=Nat.mul_le_mul (by omega) aS;have o:(i+1)*n<=20*40:=Nat.mul_le_mul (by omega) aS;have U:(i+1)*n<=m*n:=dL _ ad;have e1:R ((i:Int)*p.fj)=((i*n:Nat):Int):=by rw[h.gM,<- Int.natCast_mul,cV (by omega) (by omega)]
 have aB:R (R ((i:Int)+1)*p.fj)=(((i+1)*n:Nat):Int):=by rw[h.gM,fl (by omega),<- Int.natCast_mul,cV (by omega) (by omega)]
 have ak:(i+1)*n=i*n+n:=Nat.succ_mul i n;unfold Bf;rw[e1,aB,dx,dx,h.hd];refine bx (by omega) (bx (by omega) (bx (by omega) ?_));congr 1;apply List.ext_getElem?;intro j;rw[List.getElem?_take,List.getElem?_drop];by_cases c:j<n
 ·rw[dw (by omega),h.Cf i ad j c,f8 c]
 ·rw[dy (by omega)]
  symm
  rw[List.getElem?_eq_none_iff,cj];omega
def iu (m n:Nat)(a:Nat->Nat->Int)(b:Nat->Int)(i j:Nat):Rat:=if j<n\/j=n+m then ct i (fun k=>de m n a b k j) else 0
theorem U8 {p:iN}{m n:Nat}{a:Nat->Nat->Int}{b:Nat->Int}(h:ly p m n a b){i:Nat}(ad:i<=m)(j:Nat):dV 2000 (iu m n a b i j):=by
 have hm:=h.hm;unfold iu;split
 ·exact(dV.sum fun k aY=>Mo h (by omega) j).mono (by omega)
 ·exact⟨0,rfl,by omega⟩
theorem aa4 {p:iN}{m n:Nat}{a:Nat->Nat->Int}{b:Nat->Int}(h:ly p m n a b){i:Nat}(ad:i<m)(aU:b i<0)(x0:Int)(aV:List bS)(bQ:List (List aE))(cr:ar)(du:List aE):
 (JX (i:Int) (aN n (a i)) (len_ eI (aN n (a i))) p.gl p.fj p.dY p.ea p.hf x0 aV bQ cr du 0 ([]:List aE) >>= fun cx=>JY (i:Int) p.gl p.fj p.dY p.ea p.hf x0 aV bQ cr du 0 cx)=some (aN (n+m) fun j=>cc (de m n a b i j)):=by
 have hm:=h.hm;have aS:=h.aS;have bK:k0 (b i) = -1:=by unfold k0;rw[dw aU]
 obtain⟨s1,e1,-⟩:=ib (f:=fun w:Int×List aE=>z3 (i:Int) (aN n (a i)) ((n:Nat):Int) p.gl p.fj p.dY p.ea p.hf x0 aV bQ cr du w.1 w.2)
  (fun (k:Nat) (_:Unit)=>((k:Int),aN k fun j=>cc (de m n a b i j))) n (fun _ _=>True) (fun _=>aN n fun j=>cc (de m n a b i j))
  (fun k aY _ _=>by
    refine⟨(),?_,trivial⟩;have bI:=h.uH i ad k aY;unfold z3;have e:R ((-1:Int)*a i k)=lq m n a b i k:=(by rw[cV (by omega) (by omega)];unfold lq;rw[dw aY,bK]);refine dv (by simp only;omega) (bx (by rw[cj];simp only;omega) (aD (x:=a i k) (by simp only;rw[dx];exact f8 aY) (aD (x:=cc (de m n a b i k)) ?_ (bx (by simp only[dF,cj,List.length_cons,List.length_nil];omega) ?_))))
    ·rw[e];exact rF (by have:=vh h ad k;rw[k6];omega)
    ·simp only;rw[fl (by omega),kU])
  (fun _ _=>by unfold z3;exact en (by simp) rfl) () trivial
 refine aD (x:=aN n fun j=>cc (de m n a b i j)) (by unfold JX;rw[fX,cj];exact e1) ?_
 obtain⟨s2,aB,-⟩:=ib (f:=fun w:Int×List aE=>z4 (i:Int) p.gl p.fj p.dY p.ea p.hf x0 aV bQ cr du w.1 w.2)
  (fun (k:Nat) (_:Unit)=>((k:Int),aN (n+k) fun j=>cc (de m n a b i j))) m (fun _ _=>True) (fun _=>aN (n+m) fun j=>cc (de m n a b i j))
  (fun k aY _ _=>by
    refine⟨(),?_,trivial⟩;unfold z4
    have Gt:lq m n a b i (n+k)=if k=i then 1 else 0:=by
     unfold lq;rw[dy (by omega),dy (by omega)];by_cases c:k=i
     ·rw[dw c,dw (by omega)]
     ·rw[dy c,dy (by omega)]
    refine dv (by simp only;rw[h.rows];omega) (qb (fun c=> ?_) (fun c=> ?_))
    ·have zb:k=i:=(by simp at c;omega);refine aD (x:=cc (de m n a b i (n+k))) (by unfold de;rw[Gt,dw zb];exact rF (by rw[k6];omega)) (bx (by simp only[dF,cj,List.length_cons,List.length_nil];omega) ?_);simp only;rw[fl (by omega),<- Nat.add_assoc,kU]
    ·have zb:k≠i:=(by simp at c;omega);refine aD (x:=cc (de m n a b i (n+k))) (by unfold de;rw[Gt,dy zb];exact rF (by rw[k6];omega)) (bx (by simp only[dF,cj,List.length_cons,List.length_nil];omega) ?_);simp only;rw[fl (by omega),<- Nat.add_assoc,kU])
  (fun _ _=>by unfold z4;exact en (by simp only;rw[h.rows];omega) rfl) () trivial
 unfold JY;exact aB
theorem aa5 {p:iN}{m n:Nat}{a:Nat->Nat->Int}{b:Nat->Int}(h:ly p m n a b){i:Nat}(ad:i<m)(aU:¬b i<0)(x0:Int)(aV:List bS)(bQ:List (List aE))(cr:ar)(du:List aE):
 (JN (i:Int) (aN n (a i)) (len_ eI (aN n (a i))) p.gl p.fj p.dY p.ea p.hf x0 aV bQ cr du 0 ([]:List aE) >>= fun cx=>JO (i:Int) p.gl p.fj p.dY p.ea p.hf x0 aV bQ cr du 0 cx)=some (aN (n+m) fun j=>cc (de m n a b i j)):=by
 have hm:=h.hm;have aS:=h.aS;have bK:k0 (b i)=1:=by unfold k0;rw[dy aU]
 obtain⟨s1,e1,-⟩:=ib (f:=fun w:Int×List aE=>zR (i:Int) (aN n (a i)) ((n:Nat):Int) p.gl p.fj p.dY p.ea p.hf x0 aV bQ cr du w.1 w.2)
  (fun (k:Nat) (_:Unit)=>((k:Int),aN k fun j=>cc (de m n a b i j))) n (fun _ _=>True) (fun _=>aN n fun j=>cc (de m n a b i j))
  (fun k aY _ _=>by
    refine⟨(),?_,trivial⟩;have bI:=h.uH i ad k aY;unfold zR;have e:R ((1:Int)*a i k)=lq m n a b i k:=(by rw[cV (by omega) (by omega)];unfold lq;rw[dw aY,bK]);refine dv (by simp only;omega) (bx (by rw[cj];simp only;omega) (aD (x:=a i k) (by simp only;rw[dx];exact f8 aY) (aD (x:=cc (de m n a b i k)) ?_ (bx (by simp only[dF,cj,List.length_cons,List.length_nil];omega) ?_))))
    ·rw[e];exact rF (by have:=vh h ad k;rw[k6];omega)
    ·simp only;rw[fl (by omega),kU])
  (fun _ _=>by unfold zR;exact en (by simp) rfl) () trivial
 refine aD (x:=aN n fun j=>cc (de m n a b i j)) (by unfold JN;rw[fX,cj];exact e1) ?_
 obtain⟨s2,aB,-⟩:=ib (f:=fun w:Int×List aE=>zS (i:Int) p.gl p.fj p.dY p.ea p.hf x0 aV bQ cr du w.1 w.2)
  (fun (k:Nat) (_:Unit)=>((k:Int),aN (n+k) fun j=>cc (de m n a b i j))) m (fun _ _=>True) (fun _=>aN (n+m) fun j=>cc (de m n a b i j))
  (fun k aY _ _=>by
    refine⟨(),?_,trivial⟩;unfold zS
    have Gt:lq m n a b i (n+k)=if k=i then 1 else 0:=by
     unfold lq;rw[dy (by omega),dy (by omega)];by_cases c:k=i
     ·rw[dw c,dw (by omega)]
     ·rw[dy c,dy (by omega)]
    refine dv (by simp only;rw[h.rows];omega) (qb (fun c=> ?_) (fun c=> ?_))
    ·have zb:k=i:=(by simp at c;omega);refine aD (x:=cc (de m n a b i (n+k))) (by unfold de;rw[Gt,dw zb];exact rF (by rw[k6];omega)) (bx (by simp only[dF,cj,List.length_cons,List.length_nil];omega) ?_);simp only;rw[fl (by omega),<- Nat.add_assoc,kU]
    ·have zb:k≠i:=(by simp at c;omega);refine aD (x:=cc (de m n a b i (n+k))) (by unfold de;rw[Gt,dy zb];exact rF (by rw[k6];omega)) (bx (by simp only[dF,cj,List.length_cons,List.length_nil];omega) ?_);simp only;rw[fl (by omega),<- Nat.add_assoc,kU])
  (fun _ _=>by unfold zS;exact en (by simp only;rw[h.rows];omega) rfl) () trivial
 unfold JO;exact aB
theorem Ss {p:iN}{m n:Nat}{a:Nat->Nat->Int}{b:Nat->Int}(h:ly p m n a b){i:Nat}(ad:i<m)(aV:List (List aE))(bQ:List bS)(cr:ar)(a5:aV[i]? = some (aN (n+m+1) fun j=>cc (de m n a b i j))):
 GI (i:Int) i (n+m+1) (((n+m+1:Nat):Nat):Int) p.gl p.fj p.dY p.ea p.hf ((n+m:Nat):Int) aV bQ cr 0 (aN (n+m+1) fun j=>cc (iu m n a b i j))=some (aN (n+m+1) fun j=>cc (iu m n a b (i+1) j)):=by
 have hm:=h.hm;have aS:=h.aS;have aiK : ∀j,eW (de m n a b i j):=fun j=>Lh (Mo h ad j) (by omega);have f1 : ∀j,eW (iu m n a b i j):=fun j=>Lh (U8 h (by omega) j) (by omega);have f2 : ∀j,eW (iu m n a b (i+1) j):=fun j=>Lh (U8 h (by omega) j) (by omega);have es : ∀j,(j<n\/j=n+m)->iu m n a b i j+de m n a b i j=iu m n a b (i+1) j:=fun j av=>by unfold iu;rw[dw av,dw av,ct]
 have zq : ∀j,¬(j<n\/j=n+m)->iu m n a b i j=iu m n a b (i+1) j:=fun j av=>by unfold iu;rw[dy av,dy av]
 obtain⟨s,e,-⟩:=ib (f:=fun w:Int×List aE=>z5 (i:Int) i (n+m+1) (((n+m+1:Nat):Nat):Int) p.gl p.fj p.dY p.ea p.hf ((n+m:Nat):Int) aV bQ cr w.1 w.2)
  (fun (k:Nat) (_:Unit)=>((k:Int),aN (n+m+1) fun j=>cc (if j<k then iu m n a b (i+1) j else iu m n a b i j))) (n+m+1) (fun _ _=>True) (fun _=>aN (n+m+1) fun j=>cc (iu m n a b (i+1) j))
  (fun k aY _ _=>by
    refine⟨(),?_,trivial⟩
    have fin : ∀r,r=iu m n a b (i+1) k->(R ((k:Int)+1),(aN (n+m+1) fun j=>cc (if j<k then iu m n a b (i+1) j else iu m n a b i j)).set (0+((k:Int)).toNat) (cc r))=(((k+1:Nat):Int),aN (n+m+1) fun j=>cc (if j<k+1 then iu m n a b (i+1) j else iu m n a b i j)):=by
     intro r ai;rw[fl (by omega),dx,dG,kK];congr 1;refine eF fun j _=> ?_;by_cases c:j=k
     ·subst c;rw[dw rfl,dw (by omega),ai]
     ·rw[dy c]
      by_cases cq:j<k
      ·rw[dw cq,dw (by omega)]
      ·rw[dy cq,dy (by omega)]
    have WZ : ∀ {x:Option ((Int×List aE)⊕List aE)},(k<n\/k=n+m)->(∀r,(R ((k:Int)+1),(aN (n+m+1) fun j=>cc (if j<k then iu m n a b (i+1) j else iu m n a b i j)).set (0+((k:Int)).toNat) (cc r))=(((k+1:Nat):Int),aN (n+m+1) fun j=>cc (if j<k+1 then iu m n a b (i+1) j else iu m n a b i j))->some (Sum.inl (R ((k:Int)+1),(aN (n+m+1) fun j=>cc (if j<k then iu m n a b (i+1) j else iu m n a b i j)).set (0+((k:Int)).toNat) (cc r)))=x) ->
     (if 0<=(k:Int)/\(k:Int)<(((aN (n+m+1) fun j=>cc (if j<k then iu m n a b (i+1) j else iu m n a b i j)).length:Nat):Int) then
       (aN (n+m+1) fun j=>cc (if j<k then iu m n a b (i+1) j else iu m n a b i j))[(0+((k:Int)).toNat)]? >>= fun fV =>
       aV[i]? >>= fun oH =>
       if 0<=(k:Int)/\(k:Int)<((n+m+1:Nat):Int) then
       oH[(0+((k:Int)).toNat)]? >>= fun ec =>
       ta fV ec >>= fun bH =>
       if (0+((k:Int)).toNat)<(aN (n+m+1) fun j=>cc (if j<k then iu m n a b (i+1) j else iu m n a b i j)).length then
       some (.inl (R ((k:Int)+(1:Int)),(aN (n+m+1) fun j=>cc (if j<k then iu m n a b (i+1) j else iu m n a b i j)).set (0+((k:Int)).toNat) bH))
       else none
       else none
       else none)=x:=by
     intro x IV ab;refine bx (by rw[cj];omega) (aD (x:=cc (iu m n a b i k)) (by rw[dx,hi aY,dy (by omega)]) (aD a5 (bx (by omega) (aD (x:=cc (de m n a b i k)) (by rw[dx];exact hi aY) (aD (Ma (f1 k) (aiK k) (by rw[es k IV];exact f2 k)) (bx (by rw[cj,dx];omega) ?_))))));exact ab _ (fin _ (es k IV))
    unfold z5;refine dv (by simp only;omega) (qb (fun c=> ?_) (fun c=> ?_))
    ·have NE:k<n:=(by have:=of_decide_eq_true c;rw[h.gM] at this;simp only at this;omega);exact WZ (.inl NE) fun r ai=>by rw[ai]
    ·have NE : ¬k<n:=by have:=of_decide_eq_false c;rw[h.gM] at this;simp only at this;omega
     refine qb (fun cq=> ?_) (fun cq=> ?_)
     ·have Ws:k=n+m:=(by simp at cq;omega);exact WZ (.inr Ws) fun r ai=>by rw[ai]
     ·have Ws:k≠n+m:=by simp at cq;omega
      simp only;rw[fl (by omega)];congr 3;refine eF fun j _=> ?_;by_cases kx:j=k
      ·subst kx;rw[dy (by omega),dw (by omega),zq j (by omega)]
      ·by_cases r8:j<k
       ·rw[dw r8,dw (by omega)]
       ·rw[dy r8,dy (by omega)])
  (fun _ _=>by unfold z5;refine en (by simp) ?_;simp only;congr 2;exact eF fun j av=>by rw[dw av]) () trivial
 unfold GI;have bP:(aN (n+m+1) fun j=>cc (if j<0 then iu m n a b (i+1) j else iu m n a b i j))=aN (n+m+1) fun j=>cc (iu m n a b i j):=eF fun j _=>by rw[dy (by omega)]
 rw[bP] at e;exact e
theorem rL {K:Nat}{d x y:Rat}(bG:dV K d)(a1:dV K y)(h0:d≠0)(e:d*x=y)(i3:(K:Int)<B 24):eW x:=by obtain⟨z,rfl,cC⟩:=bG;obtain⟨w,rfl,hw⟩:=a1;exact Tx (n:=w) (d:=z) (fun c=>h0 (by rw[c];rfl)) e (by omega) (by omega)
@[irreducible] def eT:Nat:=n2 100 20
theorem EV:n2 100 20=eT:=by unfold eT;rfl
theorem afv:((21*100*(eT*eT):Nat):Int)<B 24:=by decide +kernel
theorem sF:0<eT:=by decide +kernel
structure lP (m N:Nat) (A:Nat->Nat->Rat) (t:bW):Prop where
 ok:gP m m N A t
 lb:t.mg m N
 se:t.D m A≠0
structure Small (m N:Nat) (A:Nat->Nat->Rat):Prop where
 hm:m<=20
 qO : ∀c,c<m-> ∀j,j<=N->dV 100 (A c j)
theorem lP.zc {m N:Nat}{A:Nat->Nat->Rat}(s:Small m N A){t:bW}(h:lP m N A t):dV eT (t.D m A):=by refine dV.mono (wk fun i ad c a3=>s.qO c a3 _ (Nat.le_of_lt (h.ok.ju i ad))) (EV▸Bz (by omega) s.hm)
theorem lP.uB {m N:Nat}{A:Nat->Nat->Rat}(s:Small m N A){t:bW}(h:lP m N A t){i j:Nat}(ad:i<m)(av:j<=N):dV eT (t.T i j*t.D m A):=by
 rw[<- h.ok.w1 ad av];refine dV.mono (wk fun k aY c a3=> ?_) (EV▸Bz (by omega) s.hm);simp only[hk];split
 ·exact s.qO c a3 j av
 ·exact s.qO c a3 _ (Nat.le_of_lt (h.ok.ju k aY))
theorem qv {k:Nat}(h:k<=21*100*(eT*eT)):((k:Nat):Int)<B 24:=by have:=afv;omega
theorem Fm:eT<=21*100*(eT*eT):=by have h1:eT*1<=eT*eT:=Nat.mul_le_mul_left _ sF;omega
theorem lP.Iz {m N:Nat}{A:Nat->Nat->Rat}(s:Small m N A){t:bW}(h:lP m N A t){i j:Nat}(ad:i<m)(av:j<=N):eW (t.T i j) :=
 rL (h.zc s) (h.uB s ad av) h.se (by grind) (qv Fm)
theorem lP.Vy {m N:Nat}{A:Nat->Nat->Rat}(s:Small m N A){t:bW}(h:lP m N A t){i j:Nat}(ad:i<m)(av:j<=N)(ah:0<t.T i j):eW (t.T i N / t.T i j) :=
 rL (h.uB s ad av) (h.uB s ad (dE _)) (fun c=>by have h1:=h.se;have:t.T i j≠0:=(by grind);grind) (by grind) (qv Fm)
theorem lP.Wt {m N:Nat}{A:Nat->Nat->Rat}(s:Small m N A){t:bW}(h:lP m N A t){I:Nat->Rat}(an:∀j,j<=N->dV 100 (I j)){j:Nat}(av:j<=N):dV (21*100*eT) (t.cm m I j*t.D m A):=by
 have hm:=s.hm;unfold bW.cm;have e:(I j-ct m (fun i=>I (t.B i)*t.T i j))*t.D m A=I j*t.D m A-ct m (fun i=>I (t.B i)*(t.T i j*t.D m A)):=by rw[f5 (f:=fun i=>I (t.B i)*(t.T i j*t.D m A)) (g:=fun i=>(I (t.B i)*t.T i j)*t.D m A) (fun i _=>by grind),uU];grind
 rw[e];refine dV.mono (((an j av).mul (h.zc s)).sub (dV.sum fun i ad=>(an _ (Nat.le_of_lt (h.ok.ju i ad))).mul (h.uB s ad av))) ?_;have:m*(100*eT)<=20*(100*eT):=dL _ hm;omega
theorem wC:21*100*eT<=21*100*(eT*eT):=by have h1:eT*1<=eT*eT:=Nat.mul_le_mul_left _ sF;omega
theorem lP.wD {m N:Nat}{A:Nat->Nat->Rat}(s:Small m N A){t:bW}(h:lP m N A t){I:Nat->Rat}(an:∀j,j<=N->dV 100 (I j)){j:Nat}(av:j<=N):eW (t.cm m I j) :=
 rL ((h.zc s).mono (Nat.le_trans (by omega:eT<=21*100*eT) (dE _))) (h.Wt s an av) h.se (by grind) (qv wC)
theorem lP.hY {m N K:Nat}{A obj:Nat->Nat->Rat}{bN:Nat->Prop}{t:bW}(h:lP m N A t){r k:Nat}(b:oQ m N K obj bN t r k):lP m N A (t.cg r k) :=
 ⟨b.ok h.ok,b.Fi h.lb,by rw[h.ok.yv b.ai b.bK];have h1:=b.pos;have o:=h.se;intro c;have:t.T r k≠0:=(by grind);grind⟩
theorem lP.Fo {m N:Nat}{A:Nat->Nat->Rat}(s:Small m N A){t:bW}(h:lP m N A t){I:Nat->Rat}(an:∀j,j<=N->dV 100 (I j)){r k:Nat}(ai:r<m)(aY:k<N)(ah:t.T r k≠0)(c0:gP m m N A (t.cg r k)):Iy m N t (t.cm m I) r k:=by
 have bG:=h.se;have rR:(t.cg r k).D m A≠0:=by rw[h.ok.yv ai aY];grind
 have e2:(t.cg r k).D m A=t.T r k*t.D m A:=h.ok.yv ai aY;have nI:dV eT ((t.cg r k).D m A):=dV.mono (wk fun i ad c a3=>s.qO c a3 _ (Nat.le_of_lt (c0.ju i ad))) (EV▸Bz (by omega) s.hm)
 have zf : ∀i,i<m-> ∀j,j<=N->dV eT ((t.cg r k).T i j*(t.cg r k).D m A):=fun i ad j av=>by
  rw[<- c0.w1 ad av];refine dV.mono (wk fun k aY c a3=> ?_) (EV▸Bz (by omega) s.hm);simp only[hk];split
  ·exact s.qO c a3 j av
  ·exact s.qO c a3 _ (Nat.le_of_lt (c0.ju k aY))
 have zr:dV (21*100*(eT*eT)) (t.D m A*(t.cg r k).D m A):=((h.zc s).mul nI).mono (by omega);have Wu:t.D m A*(t.cg r k).D m A≠0:=by grind
 refine⟨fun i ad j av=>h.Iz s ad av,fun i ad j av=>rL nI (zf i ad j av) rR (by grind) (qv Fm),fun i ad _ j av=> ?_,fun j av=>h.wD s an av,fun j av=> ?_,fun j av=> ?_⟩
 ·refine rL zr (((h.uB s ad (Nat.le_of_lt aY)).mul (h.uB s ai av)).neg.mono (by omega)) Wu ?_ (qv (dE _));rw[e2];grind
 ·rw[<- h.ok.Hv I ai aY ah];have g2:dV (21*100*eT) ((t.cg r k).cm m I j*(t.cg r k).D m A):=(by have hm:=s.hm;unfold bW.cm;have e:(I j-ct m (fun i=>I ((t.cg r k).B i)*(t.cg r k).T i j))*(t.cg r k).D m A=I j*(t.cg r k).D m A-ct m (fun i=>I ((t.cg r k).B i)*((t.cg r k).T i j*(t.cg r k).D m A)):=(by rw[f5 (f:=fun i=>I ((t.cg r k).B i)*((t.cg r k).T i j*(t.cg r k).D m A)) (g:=fun i=>(I ((t.cg r k).B i)*(t.cg r k).T i j)*(t.cg r k).D m A) (fun i _=>by grind),uU];grind);rw[e];refine dV.mono (((an j av).mul nI).sub (dV.sum fun i ad=>(an _ (Nat.le_of_lt (c0.ju i ad))).mul (zf i ad j av))) ?_;have:m*(100*eT)<=20*(100*eT):=dL _ hm;omega);exact rL (nI.mono (by omega)) g2 rR (by grind) (qv wC)
 ·refine rL zr (((h.Wt s an (Nat.le_of_lt aY)).mul (h.uB s ai av)).neg.mono (by
   rw[Nat.mul_assoc];exact dE _)) Wu ?_ (qv (dE _))
  rw[e2];grind
theorem Tz {p:iN}{m n:Nat}{a:Nat->Nat->Int}{b:Nat->Int}(h:ly p m n a b):
 AY p=some (((n+m:Nat):Int),ir m (n+m),cS m (jB m n a b),gZ (n+m) ((jB m n a b).cm m (gf m n)),gi m (n+m) (jB m n a b)):=by
 have hm:=h.hm;have aS:=h.aS;have fQ:R (p.fj+p.gl)=((n+m:Nat):Int):=by rw[h.gM,h.rows,<- Int.natCast_add,cV (by omega) (by omega)]
 unfold AY;rw[fQ]
 obtain⟨s1,e1,-⟩:=ib (f:=fun w:Int×List aE=>z2 p.gl p.fj p.dY p.ea p.hf ((n+m:Nat):Int) w.1 w.2)
  (fun (k:Nat) (_:Unit)=>((k:Int),aN k fun j=>cc (0:Rat))) (n+m+1) (fun _ _=>True) (fun _=>aN (n+m+1) fun j=>cc (0:Rat))
  (fun k aY _ _=>by refine⟨(),?_,trivial⟩;unfold z2;refine dv (by simp only;omega) (aD (x:=cc (0:Rat)) (rF (n:=0) (by rw[k6];omega)) (bx (by simp only[dF,cj,List.length_cons,List.length_nil];omega) ?_));simp only;rw[fl (by omega),kU])
  (fun _ _=>by unfold z2;exact en (by simp only;omega) rfl) () trivial
 refine aD (x:=aN (n+m+1) fun j=>cc (0:Rat)) (by unfold PM;exact e1) ?_
 obtain⟨s2,aB,-⟩:=ib (f:=fun w:Int×(List bS)×(List (List aE))×ar×(List aE)=>zT p.gl p.fj p.dY p.ea p.hf ((n+m:Nat):Int) w.1 w.2.1 w.2.2.1 w.2.2.2.1 w.2.2.2.2)
  (fun (i:Nat) (_:Unit)=>((i:Int),aN i (fun k=>some (k,n+m+1)),aN i (gY (n+m) (jB m n a b)),aN i (fun k=>((n+k:Nat):Int)),aN (n+m+1) fun j=>cc (iu m n a b i j))) m (fun _ _=>True)
  (fun _=>(ir m (n+m),gi m (n+m) (jB m n a b),cS m (jB m n a b),aN (n+m+1) fun j=>cc (iu m n a b m j)))
  (fun i ad _ _=>by
    refine⟨(),?_,trivial⟩;have aU:=h.s6 i ad;have hlen:((aN (n+m) fun j=>cc (de m n a b i j))++[cc (de m n a b i (n+m))])=gY (n+m) (jB m n a b) i:=(kU ..).symm;have Wv:(gY (n+m) (jB m n a b) i).length=n+m+1:=cj ..;have hw:R (p.fj+(i:Int))=((n+i:Nat):Int):=(by rw[h.gM,<- Int.natCast_add,cV (by omega) (by omega)]);have dp:(aN i (gY (n+m) (jB m n a b))++[gY (n+m) (jB m n a b) i])[i]? = some (gY (n+m) (jB m n a b) i):=(by rw[<- kU];exact f8 (by omega));have Ww:(aN i (gY (n+m) (jB m n a b))).length=i:=cj ..;have r7:lq m n a b i (n+m)=k0 (b i)*b i:=by unfold lq;rw[dy (by omega),dw rfl]
    have fin:(some (Sum.inl (R ((i:Int)+1),(aN i (fun k=>(some (k,n+m+1):bS)))++[some (i,n+m+1)],aN i (gY (n+m) (jB m n a b))++[gY (n+m) (jB m n a b) i],(aN i fun k=>((n+k:Nat):Int))++[((n+i:Nat):Int)],aN (n+m+1) fun j=>cc (iu m n a b (i+1) j))):Option ((Int×(List bS)×(List (List aE))×ar×(List aE))⊕((List bS)×(List (List aE))×ar×(List aE)))) =
     some (Sum.inl (((i+1:Nat):Int),aN (i+1) (fun k=>some (k,n+m+1)),aN (i+1) (gY (n+m) (jB m n a b)),aN (i+1) (fun k=>((n+k:Nat):Int)),aN (n+m+1) fun j=>cc (iu m n a b (i+1) j))):=by
     rw[fl (by omega),kU i (fun k=>(some (k,n+m+1):bS)),kU i (gY (n+m) (jB m n a b)),kU i (fun k=>((n+k:Nat):Int))]
    unfold zT;refine dv (by simp only;rw[h.rows];omega) (bx (by simp only;rw[h.w3];omega) (aD (x:=b i) (by simp only;rw[dx];exact h.Fl i ad) (qb (fun c=> ?_) (fun c=> ?_))))
    ·have oS:b i<0:=of_decide_eq_true c;have bK:k0 (b i) = -1:=(by unfold k0;rw[dw oS]);refine aD (UM h ad) ?_;have ai:=aa4 h ad oS ((n+m:Nat):Int) (aN i (fun k=>some (k,n+m+1))) (aN i (gY (n+m) (jB m n a b))) (aN i (fun k=>((n+k:Nat):Int))) (aN (n+m+1) fun j=>cc (iu m n a b i j));rw[dC,Option.bind_eq_some_iff] at ai;obtain⟨cx,jj,y6⟩:=ai;refine aD jj (aD y6 (aD (x:=cc (de m n a b i (n+m))) (by have e:R ((-1:Int)*b i)=lq m n a b i (n+m):=(by rw[r7,bK,cV (by omega) (by omega)]);rw[e];exact rF (by have:=vh h ad (n+m);rw[k6];omega)) ?_));simp only;rw[hlen,Ww,Wv,hw];refine bx (by omega) (aD dp (aD (Ss h ad _ _ _ dp) (bx (by simp only[dF,cj,List.length_cons,List.length_nil];omega) (bx (by simp only[dF,cj,List.length_cons,List.length_nil];omega) fin))))
    ·have oS : ¬b i<0:=of_decide_eq_false c;have bK:k0 (b i)=1:=(by unfold k0;rw[dy oS]);refine aD (UM h ad) ?_;have ai:=aa5 h ad oS ((n+m:Nat):Int) (aN i (fun k=>some (k,n+m+1))) (aN i (gY (n+m) (jB m n a b))) (aN i (fun k=>((n+k:Nat):Int))) (aN (n+m+1) fun j=>cc (iu m n a b i j));rw[dC,Option.bind_eq_some_iff] at ai;obtain⟨cx,jj,y6⟩:=ai;refine aD jj (aD y6 (aD (x:=cc (de m n a b i (n+m))) (by have e:R ((1:Int)*b i)=lq m n a b i (n+m):=(by rw[r7,bK,cV (by omega) (by omega)]);rw[e];exact rF (by have:=vh h ad (n+m);rw[k6];omega)) ?_));simp only;rw[hlen,Ww,Wv,hw];refine bx (by omega) (aD dp (aD (Ss h ad _ _ _ dp) (bx (by simp only[dF,cj,List.length_cons,List.length_nil];omega) (bx (by simp only[dF,cj,List.length_cons,List.length_nil];omega) fin)))))
  (fun _ _=>by unfold zT;exact en (by simp only;rw[h.rows];omega) rfl) () trivial
 have e0:(aN (n+m+1) fun j=>cc (iu m n a b 0 j))=aN (n+m+1) fun j=>cc (0:Rat):=eF fun j _=>by unfold iu;split<;>rfl
 rw[e0] at aB;refine aD (x:=(ir m (n+m),gi m (n+m) (jB m n a b),cS m (jB m n a b),aN (n+m+1) fun j=>cc (iu m n a b m j))) (by unfold PA;exact aB) ?_;congr 1;refine Prod.ext rfl (Prod.ext rfl (Prod.ext rfl (Prod.ext ?_ rfl)));refine eF fun j av=> ?_;rw[acM];unfold iu gf;by_cases c:j<n\/j=n+m
 ·rw[dw c,dy (by omega)];congr 1;grind
 ·rw[dy c,dw (by omega)];obtain⟨k,rfl⟩ : ∃k,j=n+k:=⟨j-n,by omega⟩;rw[k5 (k:=k) (by omega) (fun i _ c6=>by rw[u5 (by omega),dy (Ne.symm c6)]),u5 (by omega),dw rfl,show (-1:Rat)+1=0 by grind]
theorem Ly (l:ar)(aX:l.length<=1000)(h:∀x∈l,-100<=x/\x<=100):xK l=some true:=by
 unfold xK Rn;rw[fX]
 obtain⟨s,e,-⟩:=ib (f:=fun w:Int=>AL l (l.length:Nat) w) (fun (i:Nat) (_:Unit)=>(i:Int)) l.length (fun _ _=>True) (fun _=>(Sum.inl ():Unit⊕Unit))
  (fun i ad _ _=>by refine⟨(),?_,trivial⟩;have ab:=h l[i] (List.getElem_mem ad);unfold AL;refine dv (by omega) (bx (by omega) (aD (x:=l[i]) (by rw[dx];exact dz ad) (aD (rA _ _ _) (fr (decide_eq_true (by omega)) ?_))));rw[fl (by omega)])
  (fun _ _=>by unfold AL;exact en (by omega) rfl) () trivial
 exact aD e rfl
theorem abk {p:iN}{m n:Nat}{a:Nat->Nat->Int}{b:Nat->Int}(h:ly p m n a b)(Ji:p.hf.length=n)(nM:∀x∈p.hf,-100<=x/\x<=100):Dq p=some true:=by
 have hm:=h.hm;have aS:=h.aS;have wR:m*n<=20*40:=Nat.mul_le_mul hm aS
 have hA : ∀x∈p.dY,-100<=x/\x<=100:=fun x ab=>by
  obtain⟨k,aY,rfl⟩:=List.getElem_of_mem ab;rw[h.hd] at aY
  have Fw:0<n:=by
   rcases Nat.eq_zero_or_pos n with c|c
   ·rw[c] at aY;omega
   ·exact c
  have h1:k / n<m:=Nat.div_lt_of_lt_mul (by rw[Nat.mul_comm];exact aY);have o:k % n<n:=Nat.mod_lt _ Fw;have U:=h.Cf (k / n) h1 (k % n) o;have ak:k / n*n+k % n=k:=(by rw[Nat.mul_comm];exact Nat.div_add_mod k n);rw[ak,dz (by rw[h.hd];exact aY)] at U;rw[dI U];exact h.uH _ h1 _ o
 have fP : ∀x∈p.ea,-100<=x/\x<=100:=fun x ab=>by obtain⟨k,aY,rfl⟩:=List.getElem_of_mem ab;have U:=h.Fl k (by rw[<- h.w3];exact aY);rw[dz aY] at U;rw[dI U];exact h.s6 _ (by rw[<- h.w3];exact aY)
 unfold Dq;rw[h.rows,h.gM];refine aD (rA _ _ _) (fr (decide_eq_true (by omega)) (aD (rA _ _ _) (fr (decide_eq_true (by omega)) ?_)));refine fr (rZ (by rw[fX,h.hd,<- Int.natCast_mul,cV (by omega) (by omega)])) (fr (rZ (by rw[fX,h.w3])) (fr (rZ (by rw[fX,Ji])) ?_));exact aD (Ly _ (by rw[h.hd];omega) hA) (fr rfl (aD (Ly _ (by rw[h.w3];omega) fP) (fr rfl (aD (Ly _ (by rw[Ji];omega) nM) rfl))))
theorem Ep (m n j:Nat):dV 100 (gf m n j):=by
 unfold gf;split
 ·exact⟨-1,rfl,by omega⟩
 ·exact⟨0,rfl,by omega⟩
theorem IA {g:Nat->Rat}:iA 1 g↔0<g 0:=by
 constructor
 ·rintro⟨l,h1,o,-⟩;rw[show l=0 by omega] at o;exact o
 ·intro h;exact⟨0,by omega,h,fun hx aX=>by omega⟩
theorem Bt {p:iN}{m n:Nat}{a:Nat->Nat->Int}{b:Nat->Int}(h:ly p m n a b):Small m (n+m) (de m n a b):=⟨h.hm,fun c a3 j _=>Mo h a3 j⟩
theorem S2 {p:iN}{m n:Nat}{a:Nat->Nat->Int}{b:Nat->Int}(h:ly p m n a b):
 ∃t,tQ false ((n+m:Nat):Int) (ir m (n+m)) (cS m (jB m n a b)) (gZ (n+m) ((jB m n a b).cm m (gf m n))) (gi m (n+m) (jB m n a b))=some (true,cS m t,gZ (n+m) (t.cm m (gf m n)),gi m (n+m) t) /\
  lP m (n+m) (de m n a b) t/\(t.cm m (gf m n) (n+m)=0↔oT m n a b):=by
 have hm:=h.hm;have aS:=h.aS;have gw:=Bt h
 obtain⟨q,t,e,cP,eL⟩:=UL (eR:=m) (m:=m) (N:=n+m) (K:=1) (by omega) (by omega) (A:=de m n a b) (obj:=fun _=>gf m n) false (lP m (n+m) (de m n a b)) (fun t cf=>⟨cf.ok,cf.lb⟩) (fun t r s cf b=>cf.hY b)
  (fun t cf j av=>⟨jw (t.cm m (gf m n) j),aeP (by omega) _ _ _ _ (by omega) (cf.wD gw (fun j _=>Ep m n j) (by omega)),fun _=>by rw[sy];exact(IA (g:=fun _=>t.cm m (gf m n) j)).symm⟩)
  (fun t cf i ad j av=>cf.Iz gw ad av) (fun t cf i ad j av ah=>cf.Vy gw ad av ah)
  (fun t cf r k ai aY ah=>cf.Fo gw (fun j _=>Ep m n j) ai aY ah (cf.ok.cg ai aY ah)) (jB m n a b) ⟨TZ,SP,Tp⟩
 rcases eL with ⟨rfl,eL⟩|⟨-,s,bK,dp,hl⟩
 ·refine⟨t,e,cP,fun h0=>RT cP.ok cP.lb (KU cP.lb h0 cP.ok.ju),fun ah3=>Sk cP.ok cP.lb (fun j av=> ?_) ah3⟩;have:=eL j (by omega);have o : ¬0<t.cm m (gf m n) j:=fun c=>this (IA.2 c);grind
 ·obtain⟨i,ad,ah⟩:=Ry cP.ok bK (IA.1 dp);exact(hl i ad ah).elim
theorem Rl {p:iN}{m n:Nat}{a:Nat->Nat->Int}{b:Nat->Int}(h:ly p m n a b)(Ji:p.hf.length=n)(nM:∀x∈p.hf,-100<=x/\x<=100): ∃r,AV p=some r/\(r=true↔oT m n a b):=by have hm:=h.hm;have aS:=h.aS;obtain⟨t,e,cP,bK⟩:=S2 h;unfold AV;refine⟨_,aD (abk h Ji nM) (fr rfl (aD (Tz h) (aD e (bx (by simp only;unfold gZ;rw[cj];omega) (aD (x:=cc (t.cm m (gf m n) (n+m))) (by simp only;rw[dx];exact hi (by omega)) (aD (o9 (cP.wD (Bt h) (fun j _=>Ep m n j) (dE _))) rfl)))))),?_⟩;rw[<- bK,beq_iff_eq,oL]
def b7 (x:Rat):bA:=gy x.num
@[irreducible] def lD:Nat:=1000000000 ^ 40
theorem Vz:((lD:Nat):Int)+((lD:Nat):Int)<B 50:=by decide +kernel
theorem Mb {K:Nat}{x:Rat}(h:dV K x):((x.num:Int):Rat)=x/\x.num.natAbs<=K:=by obtain⟨z,rfl,cC⟩:=h;rw[Rat.num_intCast];exact⟨rfl,cC⟩
theorem qn (z:Int):b7 (z:Rat)=gy z:=by unfold b7;rw[Rat.num_intCast]
theorem BV {x:Rat}(h:dV lD x):(L x.num.natAbs).length<=50:=by have:=Vz;have h1:=(Mb h).2;exact(h4 (by omega)).2 (by omega)
theorem BC {x y:Rat}(ab:dV lD x)(a1:dV lD y):qc (b7 x) (b7 y)=some (b7 (x*y)):=by have h1:=BV ab;have o:=BV a1;obtain⟨a,rfl,-⟩:=ab;obtain⟨b,rfl,-⟩:=a1;rw[Rat.num_intCast] at h1 o;rw[qn,qn,<- dN,qn];exact SW (by omega) (by omega)
theorem TA {x y:Rat}(ab:dV lD x)(a1:dV lD y):xp (b7 x) (b7 y)=some (b7 (x-y)):=by have fP:=Vz;obtain⟨a,rfl,bI⟩:=ab;obtain⟨b,rfl,aU⟩:=a1;rw[qn,qn,<- Rat.intCast_sub,qn];exact ada (by omega) (by omega)
theorem wj {x:Rat}(ab:dV lD x):qd (b7 x)=some (jw x):=by
 obtain⟨a,rfl,bI⟩:=ab;rw[qn];unfold qd jw;simp only[fX];have e:(((L a.natAbs).length:Nat):Int)=0↔a=0:=by rw[Ce (by omega)];omega
 show (if (((L a.natAbs).length:Int) == 0)=true then some 0 else if decide (a<0)=true then some (-1) else some 1)=_;by_cases h0:a=0
 ·rw[dw (by rw[beq_iff_eq,e];exact h0),dw (by rw[h0];rfl)]
 ·have ah4:(a:Rat)≠0:=fun c=>h0 (Rat.intCast_inj.1 (by rw[c];rfl))
  rw[dy (by rw[beq_iff_eq,e];exact h0),dy ah4];have aB:(a:Rat)<0↔a<0:=(by rw[show (0:Rat)=((0:Int):Rat) from rfl,Rat.intCast_lt_intCast]);by_cases h1:a<0
  ·rw[dw (decide_eq_true h1),dw (aB.2 h1)]
  ·rw[dy (by simpa using h1),dy (fun c=>h1 (aB.1 c))]
theorem acm {x y:Rat}(ab:dV lD x)(a1:dV lD y):uL (b7 x) (b7 y)=some (if x<y then -1 else if y<x then 1 else 0):=by have h1:=BV ab;have o:=BV a1;obtain⟨a,rfl,-⟩:=ab;obtain⟨b,rfl,-⟩:=a1;rw[Rat.num_intCast] at h1 o;rw[qn,qn,ZK (by omega) (by omega)];unfold lO;simp only[Rat.intCast_lt_intCast]
theorem RX {x:Rat}(ab:dV lD x):rp (b7 x)=some (b7 (-x)):=by obtain⟨a,rfl,-⟩:=ab;rw[qn,<- Rat.intCast_neg,qn];unfold rp;show (mM (!(decide (a<0))) (L a.natAbs)).bind _=_;rw[sv (by omega),L8];rfl
theorem uW {n:Int}(h:nU n):pG n=some (b7 (n:Rat)):=by rw[qn];exact Sr h
theorem acn {x y:Rat}(ab:dV lD x)(a1:dV lD y)(Nc:dV lD (x*y))(h0:y≠0):vS (b7 (x*y)) (b7 y)=some (b7 x):=by
 have h1:=BV Nc;have o:=BV a1;obtain⟨a,rfl,-⟩:=ab;obtain⟨b,rfl,-⟩:=a1;rw[<- dN] at h1 ⊢;rw[Rat.num_intCast] at h1 o;have aU:b≠0:=fun c=>h0 (by rw[c];rfl);rw[qn,qn,qn];unfold vS;show (uY (L (a*b).natAbs) (L b.natAbs)).bind _=_;rw[HQ (iy _) (iy _) (fun c=>by have:=sK.1 c;omega) (by omega) (by omega),ek (by omega),ek (by omega)];have e1:((a*b).natAbs:Int) / (b.natAbs:Int)=(a.natAbs:Int):=by rw[Int.natAbs_mul,Int.natCast_mul];exact Int.mul_ediv_cancel _ (by omega)
 simp only[dA];rw[e1];show (mM (!(decide (a*b<0) == decide (b<0))) (L a.natAbs)).bind _=_;rw[sv (by omega)];simp only[dA];congr 2;rcases Int.lt_or_gt_of_ne aU with c|c
 ·by_cases bI:a<0
  ·have : ¬a*b<0:=(by have:=Int.mul_pos_of_neg_of_neg bI c;omega);rw[decide_eq_false this,decide_eq_true c];simp only[eM,show (!(false == true))=true from rfl,if_true];omega
  ·by_cases cC:a=0
   ·subst cC;simp[eM]
   ·have:a*b<0:=Int.mul_neg_of_pos_of_neg (by omega) c;rw[decide_eq_true this,decide_eq_true c];simp only[eM,BEq.rfl,Bool.not_true,Bool.false_eq_true,if_false];omega
 ·by_cases bI:a<0
  ·have:a*b<0:=Int.mul_neg_of_neg_of_pos bI c;rw[decide_eq_true this,decide_eq_false (by omega)];simp only[eM,show (!(true == false))=true from rfl,if_true];omega
  ·have : ¬a*b<0:=(by have:=Int.mul_nonneg (show 0<=a by omega) (show 0<=b by omega);omega);rw[decide_eq_false this,decide_eq_false (by omega)];simp only[eM,BEq.rfl,Bool.not_true,Bool.false_eq_true,if_false];omega
def ij (N:Nat)(w:Rat)(t:bW)(i:Nat):List bA:=aN (N+1) fun j=>b7 (t.T i j*w)
structure pS (m N:Nat) (w:Rat) (t:bW):Prop where
 pos:0<w
 hw:dV (21*100*eT) w
 h2 : ∀i,i<m-> ∀j,j<=N->dV eT (t.T i j*w)
 fP : ∀i,i<m->t.B i<N
theorem EW:21*100*eT*(21*100*eT)+21*100*eT*(21*100*eT)<=lD:=by decide +kernel
theorem agP {q i:Nat}(a5:0<q)(ad:i<=20):21*100*q*100+i*(q*100)<=21*100*q*(21*100*q):=by have h1:i*(q*100)<=20*(q*100):=dL _ ad;have o:21*100*q*2100<=21*100*q*(21*100*q):=Nat.mul_le_mul_left _ (by omega);generalize 21*100*q*(21*100*q)=z at *;omega
theorem agQ {i:Nat}(ad:i<=20):21*100*eT*100+i*(eT*100)<=lD :=
 Nat.le_trans (agP sF ad) (Nat.le_trans (Nat.le_add_right _ _) EW)
theorem vp {K:Nat}(h:K<=21*100*eT):K<=lD:=by have ah5:=EW;have h1:21*100*eT*1<=21*100*eT*(21*100*eT):=Nat.mul_le_mul_left _ (by have:=sF;generalize eT=q at *;omega);rw[Nat.mul_one] at h1;exact Nat.le_trans h (Nat.le_trans h1 (Nat.le_trans (Nat.le_add_right _ _) ah5))
theorem T7 {m N:Nat}(hm:m<=20)(fQ:N<1000){w:Rat}{t:bW}(h:pS m N w t)(I:Nat->Int)(an:∀j,j<N-> -100<=I j/\I j<=100)(j5:bA)(Ch:j5=b7 w)(gM:Int)(free:List Bool){k:Nat}(aY:k<N):
 AU ⟨aN m (ij N w t),j5,cS m t,gM,free⟩ (aN N I) (k:Int)=some (jw (t.cm m (fun j=>(I j:Rat)) k)):=by
 subst Ch;have akG:=sF;have small : ∀ {x:Rat} {K:Nat},dV K x->K<=21*100*eT->dV lD x:=fun h1 o=>h1.mono (vp o);have al : ∀j,j<N->dV 100 ((I j:Int):Rat):=fun j av=>⟨I j,rfl,by have:=an j av;omega⟩;have Wx : ∀j,j<N->nU (I j):=fun j av=>by have:=an j av;rw[k6];omega
 let S:Nat->Rat:=fun i=>w*(I k:Rat)-ct i (fun i=>(t.T i k*w)*(I (t.B i):Rat))
 have s7 : ∀i,i<=m->dV lD (S i):=fun i ad=>by have e1:dV (21*100*eT*100) (w*(I k:Rat)):=h.hw.mul (al k aY);have aB:dV (i*(eT*100)) (ct i (fun i=>(t.T i k*w)*(I (t.B i):Rat))):=dV.sum fun fk lS=>(h.h2 fk (by omega) k (by omega)).mul (al _ (h.fP fk (by omega)));exact(e1.sub aB).mono (agQ (by omega))
 unfold AU;refine bx (by rw[cj];omega) (aD (x:=I k) (by rw[dx];exact f8 aY) (aD (uW (Wx k aY)) (aD (BC (small h.hw (dE _)) (small (al k aY) (by omega))) ?_)))
 obtain⟨s,e,-⟩:=ib (f:=fun q:Int×Bool×ar=>zQ (aN m (ij N w t)) (b7 w).cz (b7 w).b8 (cS m t) gM free (aN N I) (k:Int) ((m:Nat):Int) q.1 q.2.1 q.2.2)
  (fun (i:Nat) (_:Unit)=>((i:Int),(b7 (S i)).cz,(b7 (S i)).b8)) m (fun _ _=>True) (fun _=>((b7 (S m)).cz,(b7 (S m)).b8))
  (fun i ad _ _=>by
    refine⟨(),?_,trivial⟩;have Jc:=h.fP i ad;have Ge:S (i+1)=S i-(t.T i k*w)*(I (t.B i):Rat):=(by simp only[S,ct];grind);unfold zQ;refine dv (by simp only;omega) (bx (by unfold cS;rw[cj];simp only;omega) (aD (x:=((t.B i:Nat):Int)) (by simp only;rw[dx];exact f8 ad) (bx (by rw[cj];omega) (aD (x:=I (t.B i)) (by rw[dx];exact f8 Jc) (qb (fun c=> ?_) (fun c=> ?_))))))
    ·refine bx (by rw[cj];simp only;omega) (aD (x:=ij N w t i) (by simp only;rw[dx];exact f8 ad) (bx (by unfold ij;rw[cj];omega) (aD (x:=b7 (t.T i k*w)) (by rw[dx];exact f8 (by omega)) (aD (wj (small (h.h2 i ad k (by omega)) (by omega))) (qb (fun cq=> ?_) (fun cq=> ?_))))))
     ·refine aD (uW (Wx _ Jc)) (aD (BC (small (h.h2 i ad k (by omega)) (by omega)) (small (al _ Jc) (by omega))) (aD (TA (s7 i (by omega)) (by
       exact small ((h.h2 i ad k (by omega)).mul (al _ Jc)) (by omega))) ?_))
      simp only;rw[fl (by omega),Ge]
     ·have cC:t.T i k*w=0:=oL.1 (by simpa using cq);simp only;rw[fl (by omega),Ge,cC,show S i-0*(I (t.B i):Rat)=S i by grind]
    ·have cC:I (t.B i)=0:=(by simpa using c);simp only;rw[fl (by omega),Ge,cC,show S i-t.T i k*w*((0:Int):Rat)=S i by rw[show ((0:Int):Rat)=0 from rfl];grind])
  (fun _ _=>by unfold zQ;exact en (by simp) rfl) () trivial
 have e0:S 0=w*(I k:Rat):=by simp only[S,ct];grind
 rw[e0] at e;refine aD (x:=((b7 (S m)).cz,(b7 (S m)).b8)) (by unfold Pv;rw[fX,show (cS m t).length=m from cj ..];exact e) (aD (x:=jw (S m)) (wj (s7 m (dE _))) ?_);congr 1;have aB:S m=w*t.cm m (fun j=>(I j:Rat)) k:=by simp only[S];unfold bW.cm;rw[f5 (f:=fun i=>t.T i k*w*(I (t.B i):Rat)) (g:=fun i=>w*((I (t.B i):Rat)*t.T i k)) (fun i _=>by grind),jE];grind
 rw[aB];have ah:=h.pos;unfold jw;by_cases c:t.cm m (fun j=>(I j:Rat)) k=0
 ·rw[dw c,dw (by rw[c];grind)]
 ·rw[dy c,dy (by grind)]
  by_cases cq:t.cm m (fun j=>(I j:Rat)) k<0
  ·rw[dw cq,dw];have:=Rat.mul_pos ah (show 0 < -(t.cm m (fun j=>(I j:Rat)) k) by grind);grind
  ·rw[dy cq,dy];have:=Rat.mul_pos ah (show 0<t.cm m (fun j=>(I j:Rat)) k by grind);grind
theorem TB {x y z v w:Rat}(hw:0<w)(a1:0<y)(bg:0<v):(x*w)*(v*w)<(z*w)*(y*w)↔x / y<z / v:=by
 have e1:(x*w)*(v*w)=(x / y)*((y*v)*(w*w)):=by grind
 have aB:(z*w)*(y*w)=(z / v)*((y*v)*(w*w)):=by grind
 have ah:0<(y*v)*(w*w):=Rat.mul_pos (Rat.mul_pos a1 bg) (Rat.mul_pos hw hw);rw[e1,aB];constructor
 ·intro h;apply Classical.byContradiction;intro c;have:z / v<=x / y:=(by grind);have:=Rat.mul_le_mul_of_nonneg_right this (Rat.le_of_lt ah);grind
 ·intro h;exact Rat.mul_lt_mul_of_pos_right h ah
theorem BL {x w:Rat}(hw:0<w):jw (x*w)=jw x:=by
 unfold jw;by_cases c:x=0
 ·rw[dw c,dw (by rw[c];grind)]
 ·rw[dy c,dy (by grind)]
  by_cases cq:x<0
  ·rw[dw cq,dw];have:=Rat.mul_pos (show 0 < -x by grind) hw;grind
  ·rw[dy cq,dy];have:=Rat.mul_pos (show 0<x by grind) hw;grind
theorem aco {m N:Nat}(hm:m<=20)(fQ:N<1000){w:Rat}{t:bW}(h:pS m N w t)(j5:bA)(free:List Bool){k:Nat}(aY:k<=N):
 ∃r,C3 ⟨aN m (ij N w t),j5,cS m t,(N:Int),free⟩ (k:Int)=some r/\HT m N t k r:=by
 have hw:=h.pos;have pB : ∀i,i<m-> ∀j,j<=N->dV lD (t.T i j*w):=fun i ad j av=>(h.h2 i ad j av).mono (vp (by have:=sF;generalize eT=q at *;omega));have Gu : ∀i,i<m-> ∀j,j<=N-> ∀fk,fk<m-> ∀jc,jc<=N->dV lD (t.T i j*w*(t.T fk jc*w)):=fun i ad j av fk lS jc uv=>((h.h2 i ad j av).mul (h.h2 fk lS jc uv)).mono (by refine Nat.le_trans ?_ (Nat.le_trans (Nat.le_add_right _ _) EW);exact Nat.mul_le_mul (by generalize eT=q;omega) (by generalize eT=q;omega));unfold C3
 obtain⟨r,e,ai⟩:=rz (f:=fun q:Int×Int=>zH (aN m (ij N w t)) j5.cz j5.b8 (cS m t) (N:Int) free (k:Int) ((m:Nat):Int) q.1 q.2)
  (fun (i:Nat) (s:Int)=>(s,(i:Int))) m
  (fun n s=>(s = -1/\ ∀i,i<n-> ¬0<t.T i k)\/ ∃b:Nat,s=b/\b<n/\0<t.T b k/\ ∀i,i<n->0<t.T i k->t.T b N / t.T b k<t.T i N / t.T i k\/(t.T b N / t.T b k=t.T i N / t.T i k/\t.B b<=t.B i))
  (fun r=>HT m N t k r)
  (fun n aS s cP=>by
    left;unfold zH;have g1:0<=((n:Nat):Int)/\((n:Nat):Int)<((aN m (ij N w t)).length:Nat):=(by rw[cj];omega);have g2:(aN m (ij N w t))[((n:Nat):Int).toNat]? = some (ij N w t n):=(by rw[dx];exact f8 aS);have g3 : ∀b,0<=((k:Nat):Int)/\((k:Nat):Int)<((ij N w t b).length:Nat):=fun b=>(by unfold ij;rw[cj];omega);have g4 : ∀b,(ij N w t b)[((k:Nat):Int).toNat]? = some (b7 (t.T b k*w)):=fun b=>(by rw[dx];exact f8 (by omega));have g5 : ∀b,0<=((N:Nat):Int)/\((N:Nat):Int)<((ij N w t b).length:Nat):=fun b=>(by unfold ij;rw[cj];omega);have g6 : ∀b,(ij N w t b)[((N:Nat):Int).toNat]? = some (b7 (t.T b N*w)):=fun b=>(by rw[dx];exact f8 (by omega));have jz:R ((n:Int)+1)=((n+1:Nat):Int):=fl (by omega);have rX:qd (b7 (t.T n k*w))=some (jw (t.T n k)):=(by rw[wj (pB n aS k aY),BL hw]);by_cases ah:0<t.T n k
    ·have bK : ¬jw (t.T n k)<=0:=by have:=sy.2 ah;omega
     rcases cP with ⟨h1,o⟩|⟨b,h1,aU,kI,U⟩
     ·refine⟨(n:Int),dv (by simp only;omega) (bx g1 (aD g2 (bx (g3 n) (aD (g4 n) (aD rX (en bK (dv (by simp only;omega) ?_))))))),.inr ⟨n,rfl,by omega,ah,fun i ad jl=> ?_⟩⟩
      ·simp only;rw[jz]
      ·by_cases c:i=n
       ·subst c;exact .inr ⟨rfl,dE _⟩
       ·exact(o i (by omega) jl).elim
     ·subst h1
      have I9:0<=((b:Nat):Int)/\((b:Nat):Int)<((aN m (ij N w t)).length:Nat):=(by rw[cj];omega);have Ja:(aN m (ij N w t))[((b:Nat):Int).toNat]? = some (ij N w t b):=by rw[dx];exact f8 (by omega)
      have gc:uL (b7 (t.T n N*w*(t.T b k*w))) (b7 (t.T b N*w*(t.T n k*w)))=some (if t.T n N / t.T n k<t.T b N / t.T b k then -1 else if t.T b N / t.T b k<t.T n N / t.T n k then 1 else 0):=by
       rw[acm (Gu n aS N (by omega) b (by omega) k aY) (Gu b (by omega) N (by omega) n aS k aY)];have r1:=TB (x:=t.T n N) (y:=t.T n k) (z:=t.T b N) (v:=t.T b k) hw ah kI;have bR:=TB (x:=t.T b N) (y:=t.T b k) (z:=t.T n N) (v:=t.T n k) hw kI ah;by_cases bo:t.T n N / t.T n k<t.T b N / t.T b k
       ·rw[dw bo,dw (r1.2 bo)]
       ·rw[dy bo,dy (fun c=>bo (r1.1 c))]
        by_cases cq:t.T b N / t.T b k<t.T n N / t.T n k
        ·rw[dw cq,dw (bR.2 cq)]
        ·rw[dy cq,dy (fun c=>cq (bR.1 c))]
      have lead : ∀ {x r:Option ((Int×Int)⊕Int)} {f:Int->Option ((Int×Int)⊕Int)} {q:Int},uL (b7 (t.T n N*w*(t.T b k*w))) (b7 (t.T b N*w*(t.T n k*w)))=some q->f q=r ->
       (if 0<=((N:Nat):Int)/\((N:Nat):Int)<((ij N w t n).length:Nat) then
         (ij N w t n)[((N:Nat):Int).toNat]? >>= fun oA =>
         if 0<=((b:Nat):Int)/\((b:Nat):Int)<((aN m (ij N w t)).length:Nat) then
         (aN m (ij N w t))[((b:Nat):Int).toNat]? >>= fun n5 =>
         if 0<=((k:Nat):Int)/\((k:Nat):Int)<(n5.length:Nat) then
         n5[((k:Nat):Int).toNat]? >>= fun tE =>
         qc oA tE >>= fun mE =>
         if 0<=((N:Nat):Int)/\((N:Nat):Int)<(n5.length:Nat) then
         n5[((N:Nat):Int).toNat]? >>= fun vD =>
         qc vD (b7 (t.T n k*w)) >>= fun py =>
         uL mE py >>= f
         else none else none else none else none)=r:=fun a5 cl =>
       bx (g5 n) (aD (g6 n) (bx I9 (aD Ja (bx (g3 b) (aD (g4 b) (aD (BC (pB n aS N (by omega)) (pB b (by omega) k aY)) (bx (g5 b) (aD (g6 b) (aD (BC (pB b (by omega) N (by omega)) (pB n aS k aY)) (aD a5 cl))))))))))
      by_cases bo:t.T n N / t.T n k<t.T b N / t.T b k
      ·rw[dw bo] at gc
       refine⟨(n:Int),dv (by simp only;omega) (bx g1 (aD g2 (bx (g3 n) (aD (g4 n) (aD rX (en bK (en (by simp only;omega) (lead (x:=none) gc (dv (by omega) ?_))))))))),.inr ⟨n,rfl,by omega,ah,fun i ad jl=> ?_⟩⟩
       ·simp only;rw[jz]
       ·by_cases c:i=n
        ·subst c;exact .inr ⟨rfl,dE _⟩
        ·rcases U i (by omega) jl with h|⟨h,-⟩
         ·left;grind
         ·left;rw[<- h];exact bo
      ·rw[dy bo] at gc
       by_cases cq:t.T b N / t.T b k<t.T n N / t.T n k
       ·rw[dw cq] at gc
        refine⟨(b:Int),dv (by simp only;omega) (bx g1 (aD g2 (bx (g3 n) (aD (g4 n) (aD rX (en bK (en (by simp only;omega) (lead (x:=none) gc (en (by omega) (gn (by decide) ?_)))))))))),.inr ⟨b,rfl,by omega,kI,fun i ad jl=> ?_⟩⟩
        ·simp only;rw[jz]
        ·by_cases c:i=n
         ·subst c;exact .inl cq
         ·exact U i (by omega) jl
       ·rw[dy cq] at gc
        have ND:t.T b N / t.T b k=t.T n N / t.T n k:=(by grind);have Wy:0<=((n:Nat):Int)/\((n:Nat):Int)<((cS m t).length:Nat):=(by unfold cS;rw[cj];omega);have Wz:(cS m t)[((n:Nat):Int).toNat]? = some ((t.B n:Nat):Int):=(by rw[dx];exact f8 aS);have WA:0<=((b:Nat):Int)/\((b:Nat):Int)<((cS m t).length:Nat):=(by unfold cS;rw[cj];omega);have WB:(cS m t)[((b:Nat):Int).toNat]? = some ((t.B b:Nat):Int):=(by rw[dx];exact f8 (by omega));by_cases kx:t.B n<t.B b
        ·refine⟨(n:Int),dv (by simp only;omega) (bx g1 (aD g2 (bx (g3 n) (aD (g4 n) (aD rX (en bK (en (by simp only;omega) (lead (x:=none) gc (en (by omega) (fr rfl (bx Wy (aD Wz (bx WA (aD WB (dv (by omega) ?_))))))))))))))),.inr ⟨n,rfl,by omega,ah,fun i ad jl=> ?_⟩⟩
         ·simp only;rw[jz]
         ·by_cases c:i=n
          ·subst c;exact .inr ⟨rfl,dE _⟩
          ·rcases U i (by omega) jl with h|⟨h,c0⟩
           ·left;grind
           ·right;exact⟨by grind,by omega⟩
        ·refine⟨(b:Int),dv (by simp only;omega) (bx g1 (aD g2 (bx (g3 n) (aD (g4 n) (aD rX (en bK (en (by simp only;omega) (lead (x:=none) gc (en (by omega) (fr rfl (bx Wy (aD Wz (bx WA (aD WB (en (by omega) ?_))))))))))))))),.inr ⟨b,rfl,by omega,kI,fun i ad jl=> ?_⟩⟩
         ·simp only;rw[jz]
         ·by_cases c:i=n
          ·subst c;exact .inr ⟨ND,by omega⟩
          ·exact U i (by omega) jl
    ·have bK:jw (t.T n k)<=0:=by
      have : ¬0<jw (t.T n k):=fun c=>ah (sy.1 c);omega
     refine⟨s,dv (by simp only;omega) (bx g1 (aD g2 (bx (g3 n) (aD (g4 n) (aD rX (dv bK ?_)))))),?_⟩
     ·simp only;rw[jz]
     ·rcases cP with ⟨h1,o⟩|⟨b,h1,aU,kI,U⟩
      ·exact .inl ⟨h1,fun i ad=>if c:i=n then c▸ah else o i (by omega)⟩
      ·exact .inr ⟨b,h1,by omega,kI,fun i ad jl=>if c:i=n then (ah (c▸jl)).elim else U i (by omega) jl⟩)
  (fun s cP=>by
    refine⟨s,by unfold zH;exact en (by simp only;omega) rfl,?_⟩;rcases cP with ⟨h1,o⟩|⟨b,h1,aU,kI,U⟩
    ·exact .inl ⟨h1,o⟩
    ·refine .inr ⟨b,h1,aU,kI,fun i ad jl=> ?_,fun i ad jl he=> ?_⟩
     ·rw[<- (Hz kI jl).1]
      rcases U i ad jl with h|⟨h,-⟩
      ·exact Rat.le_of_lt h
      ·rw[h];exact Rat.le_refl
     ·rw[<- (Hz kI jl).2] at he
      rcases U i ad jl with h|⟨-,h⟩
      ·rw[he] at h;grind
      ·exact h) (-1:Int) (.inl ⟨rfl,fun i ad=>by omega⟩)
 refine⟨r,aD ?_ rfl,ai⟩;unfold OS;rw[f9,cj];exact e
def hL (m N:Nat)(h:Nat->Nat):List bS:=aN m fun i=>some (h i,N+1)
structure l5 (m N M:Nat) (h:Nat->Nat) (w:Rat) (t:bW) (eP:List (List bA)):Prop where
 len:eP.length=M
 row : ∀i,i<m->eP[h i]? = some (ij N w t i)
theorem G2 {α:Type}{l:List α}{i:Nat}{x y:α}(h:l[i]? = some x):(l.set i y)[i]? = some y:=by rw[List.getElem?_set,dw rfl,dw (List.getElem?_eq_some_iff.1 h).1]
theorem K7 {α:Type}{l:List α}{i k:Nat}{y:α}(h:i≠k):(l.set i y)[k]? = l[k]? := by rw[List.getElem?_set,dy h]
theorem set_set {α:Type}(l:List α)(i:Nat)(x y:α):(l.set i x).set i y=l.set i y:=by rw[List.set_set]
structure vq (m N:Nat) (w:Rat) (t:bW) (r k:Nat):Prop where
 ai:r<m
 aY:k<N
 ah:t.T r k≠0
 CH : ∀i,i<m-> ∀j,j<=N->dV eT ((t.cg r k).T i j*(t.T r k*w))
theorem aeh {m N:Nat}(fQ:N<1000){h:Nat->Nat}{w:Rat}{t:bW}{r k:Nat}(f:pS m N w t)(g:vq m N w t r k){i:Nat}(ad:i<m)(CG:i≠r)(c6:h i≠h r){eP:List (List bA)}(h1:eP[h i]? = some (ij N w t i))(o:eP[h r]? = some (ij N w t r))
 (x1 eH:Int) (aC:Int) (q1:List bS) (aV:ar) (bQ:List Bool) (v1 v2:Int) :
 Jz v1 v2 (some (h r,N+1)) (some (h i,N+1)) x1 eH (((N+1:Nat):Nat):Int) (b7 w).cz (b7 w).b8 aC q1 aV bQ (b7 (t.T r k*w)).cz (b7 (t.T r k*w)).b8 (b7 (t.T i k*w)).cz (b7 (t.T i k*w)).b8 0 eP=some (eP.set (h i) (ij N (t.T r k*w) (t.cg r k) i)):=by
 have hw:=f.pos;have pB : ∀i,i<m-> ∀j,j<=N->dV lD (t.T i j*w):=fun i ad j av=>(f.h2 i ad j av).mono (vp (by have:=sF;generalize eT=q at *;omega));have aiL:dV lD w:=f.hw.mono (vp (dE _));have aiM : ∀i,i<m-> ∀j,j<=N->dV lD ((t.cg r k).T i j*(t.T r k*w)):=fun i ad j av=>(g.CH i ad j av).mono (vp (by have:=sF;generalize eT=q at *;omega));have Gu : ∀i,i<m-> ∀j,j<=N-> ∀fk,fk<m-> ∀jc,jc<=N->dV lD (t.T i j*w*(t.T fk jc*w)):=fun i ad j av fk lS jc uv=>((f.h2 i ad j av).mul (f.h2 fk lS jc uv)).mono (by refine Nat.le_trans ?_ (Nat.le_trans (Nat.le_add_right _ _) EW);exact Nat.mul_le_mul (by generalize eT=q;omega) (by generalize eT=q;omega));have ah6 : ∀j,j<=N->dV lD ((t.cg r k).T i j*(t.T r k*w)*w):=fun j av=>((g.CH i ad j av).mul f.hw).mono (by refine Nat.le_trans ?_ (Nat.le_trans (Nat.le_add_right _ _) EW);exact Nat.mul_le_mul (by generalize eT=q;omega) (dE _));have ai:=g.ai;have aY:=g.aY;have ah:=g.ah;have vN : ∀j,(t.cg r k).T i j=t.T i j-t.T i k*(t.T r j / t.T r k):=fun j=>by simp[bW.cg,CG]
 have MR:w≠0:=by grind
 unfold Jz
 obtain⟨s,e,-⟩:=ib (f:=fun q:Int×List (List bA)=>zI v1 v2 (some (h r,N+1)) (some (h i,N+1)) x1 eH (((N+1:Nat):Nat):Int) (b7 w).cz (b7 w).b8 aC q1 aV bQ (b7 (t.T r k*w)).cz (b7 (t.T r k*w)).b8 (b7 (t.T i k*w)).cz (b7 (t.T i k*w)).b8 q.1 q.2)
  (fun (c:Nat) (_:Unit)=>((c:Int),eP.set (h i) (aN (N+1) fun j=>if j<c then b7 ((t.cg r k).T i j*(t.T r k*w)) else b7 (t.T i j*w)))) (N+1) (fun _ _=>True)
  (fun _=>eP.set (h i) (ij N (t.T r k*w) (t.cg r k) i))
  (fun c a3 _ _=>by
    refine⟨(),?_,trivial⟩
    have fin:(some (Sum.inl (R ((c:Int)+1),(eP.set (h i) (aN (N+1) fun j=>if j<c then b7 ((t.cg r k).T i j*(t.T r k*w)) else b7 (t.T i j*w))).set (h i) ((aN (N+1) fun j=>if j<c then b7 ((t.cg r k).T i j*(t.T r k*w)) else b7 (t.T i j*w)).set (0+((c:Int)).toNat) (b7 ((t.cg r k).T i c*(t.T r k*w)))))):Option ((Int×List (List bA))⊕List (List bA))) =
     some (Sum.inl (((c+1:Nat):Int),eP.set (h i) (aN (N+1) fun j=>if j<c+1 then b7 ((t.cg r k).T i j*(t.T r k*w)) else b7 (t.T i j*w)))):=by
     rw[fl (by omega),dx,dG,set_set,kK];congr 4;refine eF fun j _=> ?_;by_cases bo:j=c
     ·subst bo;rw[dw rfl,dw (by omega)]
     ·rw[dy bo]
      by_cases cq:j<c
      ·rw[dw cq,dw (by omega)]
      ·rw[dy cq,dy (by omega)]
    have jd:vS (b7 ((t.cg r k).T i c*(t.T r k*w)*w)) (b7 w)=some (b7 ((t.cg r k).T i c*(t.T r k*w))):=acn (aiM i ad c (by omega)) aiL (ah6 c (by omega)) MR;unfold zI;refine dv (by simp only;omega) (aD (x:=(h i,N+1)) rfl (aD (x:=aN (N+1) fun j=>if j<c then b7 ((t.cg r k).T i j*(t.T r k*w)) else b7 (t.T i j*w)) (by simp only;exact G2 h1) (bx (by simp only;omega) (aD (x:=b7 (t.T i c*w)) (by simp only;rw[dx,hi a3,dy (by omega)]) ?_))));refine aD (BC (pB i ad c (by omega)) (pB r ai k (by omega))) (aD (wj (pB i ad k (by omega))) (qb (fun d=> ?_) (fun d=> ?_)))
    ·refine aD (x:=(h r,N+1)) rfl (aD (x:=ij N w t r) (by simp only;rw[K7 c6];exact o) (bx (by simp only;omega) (aD (x:=b7 (t.T r c*w)) (by simp only;rw[dx];exact hi a3) (aD (wj (pB r ai c (by omega))) (qb (fun d2=> ?_) (fun d2=> ?_))))))
     ·refine aD (BC (pB i ad k (by omega)) (pB r ai c (by omega))) (aD (TA (Gu i ad c (by omega) r ai k (by omega)) (Gu i ad k (by omega) r ai c (by omega))) (aD ?_ fin));rw[show t.T i c*w*(t.T r k*w)-t.T i k*w*(t.T r c*w)=(t.cg r k).T i c*(t.T r k*w)*w by rw[vN];grind];exact jd
     ·have cC:t.T r c=0:=(by have:=oL.1 (by simpa using d2);grind);refine aD ?_ fin;rw[show t.T i c*w*(t.T r k*w)=(t.cg r k).T i c*(t.T r k*w)*w by rw[vN,cC];grind];exact jd
    ·have cC:t.T i k=0:=(by have:=oL.1 (by simpa using d);grind);refine aD ?_ fin;rw[show t.T i c*w*(t.T r k*w)=(t.cg r k).T i c*(t.T r k*w)*w by rw[vN,cC];grind];exact jd)
  (fun _ _=>by unfold zI;refine en (by simp) ?_;simp only;congr 3;exact eF fun j av=>by rw[dw av]) () trivial
 have e0:eP.set (h i) (aN (N+1) fun j=>if j<0 then b7 ((t.cg r k).T i j*(t.T r k*w)) else b7 (t.T i j*w))=eP:=by
  have:(aN (N+1) fun j=>if j<0 then b7 ((t.cg r k).T i j*(t.T r k*w)) else b7 (t.T i j*w))=ij N w t i:=eF fun j _=>(by rw[dy (by omega)]);rw[this];apply List.ext_getElem?;intro c;rw[List.getElem?_set];split
  ·rename_i e;subst e;rw[dw (List.getElem?_eq_some_iff.1 h1).1,h1]
  ·rfl
 rw[e0] at e;exact e
theorem aei {m N:Nat}(fQ:N<1000){h:Nat->Nat}{w:Rat}{t:bW}(h2:∀i,i<m-> ∀j,j<=N->dV eT (t.T i j*w)){i:Nat}(ad:i<m){eP:List (List bA)}(h1:eP[h i]? = some (ij N w t i))
 (x1 eH:Int) (i2:Bool) (j9:ar) (aC:Int) (q1:List bS) (aV:ar) (bQ:List Bool) :
 JB (some (h i,N+1)) x1 eH (((N+1:Nat):Nat):Int) i2 j9 aC q1 aV bQ 0 eP=some (eP.set (h i) (ij N (-w) t i)):=by
 have pB : ∀j,j<=N->dV lD (t.T i j*w):=fun j av=>(h2 i ad j av).mono (vp (by have:=sF;generalize eT=q at *;omega));unfold JB
 obtain⟨s,e,-⟩:=ib (f:=fun q:Int×List (List bA)=>zK (some (h i,N+1)) x1 eH (((N+1:Nat):Nat):Int) i2 j9 aC q1 aV bQ q.1 q.2)
  (fun (c:Nat) (_:Unit)=>((c:Int),eP.set (h i) (aN (N+1) fun j=>if j<c then b7 (t.T i j * -w) else b7 (t.T i j*w)))) (N+1) (fun _ _=>True)
  (fun _=>eP.set (h i) (ij N (-w) t i))
  (fun c a3 _ _=>by
    refine⟨(),?_,trivial⟩;unfold zK;refine dv (by simp only;omega) (aD (x:=(h i,N+1)) rfl (aD (x:=aN (N+1) fun j=>if j<c then b7 (t.T i j * -w) else b7 (t.T i j*w)) (by simp only;exact G2 h1) (bx (by simp only;omega) (aD (x:=b7 (t.T i c*w)) (by simp only;rw[dx,hi a3,dy (by omega)]) (aD (RX (pB c (by omega))) ?_)))));simp only;rw[fl (by omega),dx,dG,set_set,kK];congr 4;refine eF fun j _=> ?_;by_cases bo:j=c
    ·subst bo;rw[dw rfl,dw (by omega)];congr 1;grind
    ·rw[dy bo]
     by_cases cq:j<c
     ·rw[dw cq,dw (by omega)]
     ·rw[dy cq,dy (by omega)])
  (fun _ _=>by unfold zK;refine en (by simp) ?_;simp only;congr 3;exact eF fun j av=>by rw[dw av]) () trivial
 have e0:eP.set (h i) (aN (N+1) fun j=>if j<0 then b7 (t.T i j * -w) else b7 (t.T i j*w))=eP:=by
  have:(aN (N+1) fun j=>if j<0 then b7 (t.T i j * -w) else b7 (t.T i j*w))=ij N w t i:=eF fun j _=>(by rw[dy (by omega)]);rw[this];apply List.ext_getElem?;intro c;rw[List.getElem?_set];split
  ·rename_i e;subst e;rw[dw (List.getElem?_eq_some_iff.1 h1).1,h1]
  ·rfl
 rw[e0] at e;exact e
def qB (w:Rat)(t:bW)(r k:Nat):Rat:=if 0<t.T r k then t.T r k*w else -(t.T r k*w)
theorem T8 {m N M:Nat}(hm:m<=20)(fQ:N<1000){h:Nat->Nat}(inj:∀i,i<m-> ∀k,k<m->h i=h k->i=k){w:Rat}{t:bW}{r k:Nat}(f:pS m N w t)(g:vq m N w t r k){eP:List (List bA)}(fW:l5 m N M h w t eP)(gM:Int)(free:List Bool):
 ∃kE,Ao r k (b7 w).cz (b7 w).b8 gM (hL m N h) eP (cS m t) free=some ((b7 (qB w t r k)).cz,(b7 (qB w t r k)).b8,kE,cS m (t.cg r k))/\l5 m N M h (qB w t r k) (t.cg r k) kE:=by
 have ai:=g.ai;have aY:=g.aY;have ah:=g.ah;have hw:=f.pos;have pB : ∀i,i<m-> ∀j,j<=N->dV lD (t.T i j*w):=fun i ad j av=>(f.h2 i ad j av).mono (vp (by have:=sF;generalize eT=q at *;omega));have tK:ij N (t.T r k*w) (t.cg r k) r=ij N w t r:=eF fun j _=>by simp only[bW.cg,if_true];congr 1;grind
 have CL:(hL m N h).length=m:=cj ..;unfold Ao
 obtain⟨p1,e1,lA,r1⟩:=ib (f:=fun q:Int×List (List bA)=>zJ (r:Int) (k:Int) (some (h r,N+1)) ((m:Nat):Int) (b7 w).cz (b7 w).b8 gM (hL m N h) (cS m t) free (b7 (t.T r k*w)).cz (b7 (t.T r k*w)).b8 q.1 q.2)
  (fun (i:Nat) (p:List (List bA))=>((i:Int),p)) m (fun n p=>p.length=M/\ ∀i,i<m->p[h i]? = some (if i=r\/i<n then ij N (t.T r k*w) (t.cg r k) i else ij N w t i)) (fun p=>p)
  (fun n aS p cP=>by
    obtain⟨aX,cP⟩:=cP;unfold zJ;by_cases c:n=r
    ·subst c
     refine⟨p,dv (by simp only;omega) (bx (by rw[CL];simp only;omega) (aD (x:=some (h n,N+1)) (by simp only;rw[dx];exact hi aS) (fr (by simp) ?_))),aX,fun i ad=> ?_⟩
     ·simp only;rw[fl (by omega)]
     ·rw[cP i ad]
      by_cases bo:i=n\/i<n
      ·rw[dw bo,dw (by omega)]
      ·rw[dy bo,dy (by omega)]
    ·have c6:h n≠h r:=fun e=>c (inj n aS r ai e)
     have h1:p[h n]? = some (ij N w t n):=(by rw[cP n aS,dy (by omega)]);have o:p[h r]? = some (ij N w t r):=(by rw[cP r ai,dw (.inl rfl),tK]);refine⟨p.set (h n) (ij N (t.T r k*w) (t.cg r k) n),dv (by simp only;omega) (bx (by rw[CL];simp only;omega) (aD (x:=some (h n,N+1)) (by simp only;rw[dx];exact hi aS) (gn (by simp;omega) (aD (x:=(h n,N+1)) rfl (aD h1 (bx (by simp only;omega) (aD (x:=b7 (t.T n k*w)) (by rw[dx];exact hi (by omega)) (aD (aeh fQ f g aS c c6 h1 o _ _ _ _ _ _ _ _) ?_)))))))),by rw[List.length_set];exact aX,fun i ad=> ?_⟩
     ·simp only;rw[fl (by omega)]
     ·by_cases bo:i=n
      ·subst bo;rw[G2 h1,dw (.inr (by omega))]
      ·rw[K7 (fun e=>bo (inj i ad n aS e.symm)),cP i ad]
       by_cases cq:i=r\/i<n
       ·rw[dw cq,dw (by omega)]
       ·rw[dy cq,dy (by omega)])
  (fun p _=>by unfold zJ;exact en (by simp) rfl) eP ⟨fW.len,fun i ad=>by
    rw[fW.row i ad];by_cases c:i=r
    ·rw[dw (.inl c),c,tK]
    ·rw[dy (by omega)]⟩
 have I8 : ∀i,i<m->p1[h i]? = some (ij N (t.T r k*w) (t.cg r k) i):=fun i ad=>by rw[r1 i ad,dw (.inr ad)]
 have agR:(cS m t).set (0+((r:Int)).toNat) (k:Int)=cS m (t.cg r k):=by rw[dx,dG];unfold cS;rw[kK];exact eF fun i _=>by simp only[bW.cg];split<;>rfl
 have lead :
  (if 0<=(r:Int)/\(r:Int)<((hL m N h).length:Nat) then
    (hL m N h)[(0+((r:Int)).toNat)]? >>= fun eH =>
    eH >>= fun ka =>
    eP[ka.1]? >>= fun oH =>
    if 0<=(k:Int)/\(k:Int)<(ka.2:Nat) then
    oH[(0+((k:Int)).toNat)]? >>= fun ec =>
    JA (r:Int) (k:Int) eH (((hL m N h).length:Nat):Int) (b7 w).cz (b7 w).b8 gM (hL m N h) (cS m t) free ec.cz ec.b8 0 eP >>= fun bH =>
    if 0<=(r:Int)/\(r:Int)<((cS m t).length:Nat) then
    if (0+((r:Int)).toNat)<(cS m t).length then
    qd ec >>= fun fC =>
    if (decide ((0:Int)<fC))=true then
     some (ec.cz,ec.b8,bH,(cS m t).set (0+((r:Int)).toNat) (k:Int))
    else
     rp ec >>= fun e4 =>
     GG (((hL m N h).length:Nat):Int) e4.cz e4.b8 gM (hL m N h) ((cS m t).set (0+((r:Int)).toNat) (k:Int)) free 0 bH >>= fun kj =>
     some (e4.cz,e4.b8,kj,(cS m t).set (0+((r:Int)).toNat) (k:Int))
    else none else none else none else none)=(if (decide ((0:Int)<jw (t.T r k)))=true then
     some ((b7 (t.T r k*w)).cz,(b7 (t.T r k*w)).b8,p1,cS m (t.cg r k))
    else
     rp (b7 (t.T r k*w)) >>= fun e4 =>
     GG ((m:Nat):Int) e4.cz e4.b8 gM (hL m N h) (cS m (t.cg r k)) free 0 p1 >>= fun kj =>
     some (e4.cz,e4.b8,kj,cS m (t.cg r k))):=by
  refine bx (by rw[CL];omega) (aD (x:=some (h r,N+1)) (by rw[dx];exact hi ai) (aD (x:=(h r,N+1)) rfl (aD (fW.row r ai) (bx (by simp only;omega) (aD (x:=b7 (t.T r k*w)) (by rw[dx];exact hi (by omega)) (aD (x:=p1) (by unfold JA;rw[CL];exact e1) (bx (by unfold cS;rw[cj];omega) (bx (by unfold cS;rw[cj,dx];omega) (aD (wj (pB r ai k (by omega))) ?_)))))))));rw[BL hw,agR,CL]
 by_cases kO:0<t.T r k
 ·have w4:qB w t r k=t.T r k*w:=dw kO;refine⟨p1,lead.trans ?_,lA,fun i ad=>by rw[w4];exact I8 i ad⟩;rw[w4];exact dv (sy.2 kO) rfl
 ·have w4:qB w t r k = -(t.T r k*w):=dy kO
  obtain⟨hM,aB,lB,bR⟩:=ib (f:=fun q:Int×List (List bA)=>zL ((m:Nat):Int) (b7 (-(t.T r k*w))).cz (b7 (-(t.T r k*w))).b8 gM (hL m N h) (cS m (t.cg r k)) free q.1 q.2)
   (fun (i:Nat) (p:List (List bA))=>((i:Int),p)) m (fun n p=>p.length=M/\ ∀i,i<m->p[h i]? = some (if i<n then ij N (-(t.T r k*w)) (t.cg r k) i else ij N (t.T r k*w) (t.cg r k) i)) (fun p=>p)
   (fun n aS p cP=>by
     obtain⟨aX,cP⟩:=cP;have h1:p[h n]? = some (ij N (t.T r k*w) (t.cg r k) n):=(by rw[cP n aS,dy (by omega)]);unfold zL;refine⟨p.set (h n) (ij N (-(t.T r k*w)) (t.cg r k) n),dv (by simp only;omega) (bx (by rw[CL];simp only;omega) (aD (x:=some (h n,N+1)) (by simp only;rw[dx];exact hi aS) (aD (x:=(h n,N+1)) rfl (aD h1 (aD (aei fQ g.CH aS h1 _ _ _ _ _ _ _ _) ?_))))),by rw[List.length_set];exact aX,fun i ad=> ?_⟩
     ·simp only;rw[fl (by omega)]
     ·by_cases bo:i=n
      ·subst bo;rw[G2 h1,dw (by omega)]
      ·rw[K7 (fun e=>bo (inj i ad n aS e.symm)),cP i ad]
       by_cases cq:i<n
       ·rw[dw cq,dw (by omega)]
       ·rw[dy cq,dy (by omega)])
   (fun p _=>by unfold zL;exact en (by simp) rfl) p1 ⟨lA,fun i ad=>by rw[I8 i ad,dy (by omega)]⟩
  refine⟨hM,lead.trans ?_,lB,fun i ad=>by rw[w4,bR i ad,dw ad]⟩;rw[w4];exact en (fun c=>kO (sy.1 c)) (aD (RX (pB r ai k (by omega))) (aD (x:=hM) (by unfold GG;exact aB) rfl))
theorem RG {m:Nat}(hm:m<=1000)(t:bW)(j:Nat): ∃b,Bm (cS m t) (j:Int)=some b/\(b=true↔ ∃i,i<m/\t.B i=j):=by
 unfold Bm HN Sl
 obtain⟨r,e,h⟩:=rz (f:=fun w:Int=>AZ (cS m t) (j:Int) ((m:Nat):Int) w) (fun (i:Nat) (_:Unit)=>(i:Int)) m (fun i _=> ∀k,k<i->t.B k≠j)
  (fun r=>(∃i:Nat,r = .inr (i:Int)/\i<m/\t.B i=j)\/(r = .inl ()/\ ¬∃i,i<m/\t.B i=j))
  (fun i ad _ cP=>by
    unfold AZ;by_cases c:t.B i=j
    ·right;exact⟨_,dv (by omega) (bx (by unfold cS;rw[cj];omega) (aD (x:=((t.B i:Nat):Int)) (by rw[dx];exact f8 ad) (fr (by simp[c]) rfl))),.inl ⟨i,rfl,ad,c⟩⟩
    ·left
     refine⟨(),dv (by omega) (bx (by unfold cS;rw[cj];omega) (aD (x:=((t.B i:Nat):Int)) (by rw[dx];exact f8 ad) (gn (by simp;omega) (by rw[fl (by omega)])))),fun k aY=> ?_⟩;by_cases e:k=i
     ·rw[e];exact c
     ·exact cP k (by omega))
  (fun _ cP=>⟨_,by unfold AZ;exact en (by omega) rfl,.inr ⟨rfl,fun ⟨i,ad,e⟩=>cP i ad e⟩⟩) () (fun k aY=>by omega)
 rw[fX,show (cS m t).length=m from cj ..];rcases h with ⟨i,rfl,h1,o⟩|⟨rfl,h⟩
 ·exact⟨true,aD (x:=(i:Int)) (aD e rfl) (by simp),by simp only[true_iff];exact⟨i,h1,o⟩⟩
 ·exact⟨false,aD (x:=(-1:Int)) (aD e rfl) rfl,by simp[h]⟩
theorem Er {m N M:Nat}{h:Nat->Nat}{w:Rat}{t:bW}{eP:List (List bA)}(fW:l5 m N M h w t eP):(hL m N h).all (tB eP)=true:=by
 rw[List.all_eq_true];intro x ab;obtain⟨i,ad,rfl⟩:=HM.1 ab;simp only[tB];have h1:=fW.row i ad;have o:eP.getD (h i) []=ij N w t i:=by rw[List.getD_eq_getElem?_getD,h1];rfl
 rw[o,show (ij N w t i).length=N+1 from cj ..];simp[(List.getElem?_eq_some_iff.1 h1).1]
theorem x9 {m N M:Nat}{h:Nat->Nat}{w:Rat}{t:bW}{eP:List (List bA)}(fW:l5 m N M h w t eP):(hL m N h).map (jJ eP)=aN m (ij N w t):=by unfold hL;rw[TY];exact eF fun i ad=>by have o:eP.getD (h i) []=ij N w t i:=(by rw[List.getD_eq_getElem?_getD,fW.row i ad];rfl);simp only[jJ];rw[o];exact List.take_of_length_le (Nat.le_of_eq (cj ..))
theorem WC {m:Nat}{I:Nat->Rat}{t:bW}{j:Nat}:t.qM m 1 (fun _=>I) j↔0<t.cm m I j:=IA (g:=fun _=>t.cm m I j)
theorem acp {eR m N M:Nat}{A:Nat->Nat->Rat}(hm:m<=20)(fQ:N<1000){h:Nat->Nat}(inj:∀i,i<m-> ∀k,k<m->h i=h k->i=k){w:Rat}{t:bW}(ok:gP eR m N A t)(f:pS m N w t)(I:Nat->Int)(an:∀j,j<N-> -100<=I j/\I j<=100)(df:Nat->Bool)
 (aiN : ∀r s,oQ m N 1 (fun _ j=>(I j:Rat)) (fun j=>df j=true) t r s->vq m N w t r s) {eP:List (List bA)} (fW:l5 m N M h w t eP) :
 ∃x,CT (N:Int) (b7 w).cz (b7 w).b8 (hL m N h) eP (cS m t) (aN N df) (aN N I) 0=some x /\
  ((x = .inl (false,(b7 w).cz,(b7 w).b8,eP,cS m t)/\ ∀j,j<N->df j=true-> ¬0<t.cm m (fun j=>(I j:Rat)) j) \/
   (∃r s kE,x = .inl (true,(b7 (qB w t r s)).cz,(b7 (qB w t r s)).b8,kE,cS m (t.cg r s))/\oQ m N 1 (fun _ j=>(I j:Rat)) (fun j=>df j=true) t r s/\l5 m N M h (qB w t r s) (t.cg r s) kE) \/
   (x = .inr ()/\ ∃s,s<N/\df s=true/\0<t.cm m (fun j=>(I j:Rat)) s/\ ∀i,i<m-> ¬0<t.T i s)):=by
 unfold CT
 refine rz (f:=fun q:Int=>zE (N:Int) (b7 w).cz (b7 w).b8 (hL m N h) eP (cS m t) (aN N df) (aN N I) q) (fun (i:Nat) (_:Unit)=>(i:Int)) N
  (fun n _=> ∀j,j<n->df j=true-> ¬0<t.cm m (fun j=>(I j:Rat)) j) _ (fun n aS _ cP=> ?_) (fun _ cP=> ?_) () (fun j av=>by omega)
 ·have next : ∀(hl:df n=true-> ¬0<t.cm m (fun j=>(I j:Rat)) n),∀j,j<n+1->df j=true-> ¬0<t.cm m (fun j=>(I j:Rat)) j:=fun hl j av=>by
   by_cases c:j=n
   ·subst c;exact hl
   ·exact cP j (by omega)
  have g1:0<=((n:Nat):Int)/\((n:Nat):Int)<((aN N df).length:Nat):=(by rw[cj];omega);have g2:(aN N df)[(0+((n:Nat):Int).toNat)]? = some (df n):=(by rw[dx];exact hi aS);have jz:R ((n:Int)+1)=((n+1:Nat):Int):=fl (by omega);unfold zE;by_cases sf:df n=true
  ·obtain⟨b,i2,j9⟩:=RG (m:=m) (by omega) t n
   cases b with
   | true =>
    obtain⟨i,ad,fP⟩:=j9.1 rfl;left;refine⟨(),dv (by omega) (bx g1 (aD g2 (fr sf (aD i2 (fr rfl (by rw[jz])))))),next fun _=> ?_⟩
    rw[<- fP,ok.xJ _ ad];grind
   | false =>
    have dp:=T7 hm fQ f I an ((⟨(b7 w).cz,(b7 w).b8⟩:bA)) rfl (N:Int) (aN N df) aS;by_cases uI:0<t.cm m (fun j=>(I j:Rat)) n
    ·obtain⟨q,q1,aV⟩:=aco hm fQ f ((⟨(b7 w).cz,(b7 w).b8⟩:bA)) (aN N df) (k:=n) (by omega)
     have bK : ¬jw (t.cm m (fun j=>(I j:Rat)) n)<=0:=(by have:=sy.2 uI;omega);right;rcases aV with ⟨rfl,o⟩|⟨b,rfl,aU,kI,U,ak⟩
     ·exact⟨_,dv (by omega) (bx g1 (aD g2 (fr sf (aD i2 (gn rfl (bx (Er fW) (aD (by rw[x9 fW];exact dp) (en bK (aD (by rw[x9 fW];exact q1) (dv (by decide) rfl)))))))))),.inr (.inr ⟨rfl,n,aS,sf,uI,o⟩)⟩
     ·have c1:oQ m N 1 (fun _ j=>(I j:Rat)) (fun j=>df j=true) t b n:=⟨aS,sf,WC.2 uI,fun j av cl dp=>cP j av cl (WC.1 dp),aU,kI,U,ak⟩;obtain⟨kE,e1,aB⟩:=T8 hm fQ inj f (aiN b n c1) fW (N:Int) (aN N df);exact⟨_,dv (by omega) (bx g1 (aD g2 (fr sf (aD i2 (gn rfl (bx (Er fW) (aD (by rw[x9 fW];exact dp) (en bK (aD (by rw[x9 fW];exact q1) (en (by omega) (aD e1 rfl))))))))))),.inr (.inl ⟨b,n,kE,rfl,c1,aB⟩)⟩
    ·left;have bK:jw (t.cm m (fun j=>(I j:Rat)) n)<=0:=(by have : ¬0<jw (t.cm m (fun j=>(I j:Rat)) n):=fun c=>uI (sy.1 c);omega);exact⟨(),dv (by omega) (bx g1 (aD g2 (fr sf (aD i2 (gn rfl (bx (Er fW) (aD (by rw[x9 fW];exact dp) (dv bK (by rw[jz]))))))))),next fun _=>uI⟩
  ·left;have Jd:df n=false:=(by simpa using sf);exact⟨(),dv (by omega) (bx g1 (aD g2 (gn Jd (by rw[jz])))),next fun c=>(sf c).elim⟩
 ·exact⟨_,by unfold zE;exact en (by omega) rfl,.inl ⟨rfl,cP⟩⟩
def wE (N:Int)(sP:List bS)(free:List Bool)(obj:ar)(s:Bool×ar×List (List bA)×ar):Option ((Bool×ar×List (List bA)×ar)⊕((Bool×ar×List (List bA)×ar)⊕(Bool×ar×List (List bA)×ar))) :=
 match CT N s.1 s.2.1 sP s.2.2.1 s.2.2.2 free obj 0 with
 | none=>none
 | some (.inl (true,b4))=>some (.inl b4)
 | some (.inl (false,b4))=>some (.inr (.inl b4))
 | some (.inr ())=>some (.inr (.inr s))
theorem aej {N:Int}{sP:List bS}{free:List Bool}{obj:ar}: ∀s r,iter (wE N sP free obj) s=some r->Jt N sP free obj true s.1 s.2.1 s.2.2.1 s.2.2.2=some r:=by
 unfold Jt;apply iter.partial_correctness (wE N sP free obj) (fun s r=>iter (fun w:Bool×Bool×ar×(List (List bA))×ar=>w7 N sP free obj w.1 w.2.1 w.2.2.1 w.2.2.2.1 w.2.2.2.2) (true,s.1,s.2.1,s.2.2.1,s.2.2.2)=some r);intro it ih s r ai
 cases ab:CT N s.1 s.2.1 sP s.2.2.1 s.2.2.2 free obj 0 with
 | none=>unfold wE at ai;rw[ab] at ai;simp at ai
 | some x =>
  have hm:w7 N sP free obj true s.1 s.2.1 s.2.2.1 s.2.2.2=match x with
   | .inl gA=>(some (.inl (gA.1,gA.2.1,gA.2.2.1,gA.2.2.2.1,gA.2.2.2.2)))
   | .inr gA=>(some (.inr (.inr (s.1,s.2.1,s.2.2.1,s.2.2.2)))):=by
   unfold w7;refine fr rfl ?_
   cases x with
   | inl a=>exact aD ab rfl
   | inr a=>exact aD ab rfl
  unfold wE at ai;rw[ab] at ai;rw[iter];simp only;rw[hm]
  match x,ai with
  | .inl (true,b4),ai=>exact ih _ _ ai
  | .inl (false,b4),ai =>
   simp at ai;subst ai;show iter _ (false,b4.1,b4.2.1,b4.2.2.1,b4.2.2.2)=_;rw[iter];simp only;unfold w7;rfl
  | .inr (),ai =>
   simp at ai;subst ai;rfl
theorem aek {eR m N M:Nat}{A:Nat->Nat->Rat}(hm:m<=20)(fQ:N<1000){h:Nat->Nat}{w:Rat}{t:bW}(ok:gP eR m N A t)(f:pS m N w t)(I:Nat->Int)(an:∀j,j<N-> -100<=I j/\I j<=100)(df:Nat->Bool){eP:List (List bA)}(fW:l5 m N M h w t eP):
 Ju (N:Int) (b7 w).cz (b7 w).b8 (hL m N h) eP (cS m t) (aN N I) 0 (aN N df)=some (aN N fun j=>df j && !decide (t.cm m (fun j=>(I j:Rat)) j<0)):=by
 unfold Ju
 obtain⟨s,e,-⟩:=ib (f:=fun q:Int×List Bool=>zF (N:Int) (b7 w).cz (b7 w).b8 (hL m N h) eP (cS m t) (aN N I) q.1 q.2)
  (fun (i:Nat) (_:Unit)=>((i:Int),aN N fun j=>if j<i then df j && !decide (t.cm m (fun j=>(I j:Rat)) j<0) else df j)) N (fun _ _=>True) (fun _=>aN N fun j=>df j && !decide (t.cm m (fun j=>(I j:Rat)) j<0))
  (fun n aS _ _=>by
    refine⟨(),?_,trivial⟩
    have same:df n=(df n && !decide (t.cm m (fun j=>(I j:Rat)) n<0))->(R ((n:Int)+1),aN N fun j=>if j<n then df j && !decide (t.cm m (fun j=>(I j:Rat)) j<0) else df j)=(((n+1:Nat):Int),aN N fun j=>if j<n+1 then df j && !decide (t.cm m (fun j=>(I j:Rat)) j<0) else df j):=fun he=>by
     rw[fl (by omega)];congr 1;refine eF fun j _=> ?_;by_cases c:j=n
     ·subst c;rw[dy (by omega),dw (by omega)];exact he
     ·by_cases cq:j<n
      ·rw[dw cq,dw (by omega)]
      ·rw[dy cq,dy (by omega)]
    have g1 : ∀F:Nat->Bool,0<=((n:Nat):Int)/\((n:Nat):Int)<((aN N F).length:Nat):=fun F=>(by rw[cj];omega);have g2:(aN N fun j=>if j<n then df j && !decide (t.cm m (fun j=>(I j:Rat)) j<0) else df j)[(0+((n:Nat):Int).toNat)]? = some (df n):=(by rw[dx,hi aS,dy (by omega)]);unfold zF;by_cases sf:df n=true
    ·obtain⟨b,i2,j9⟩:=RG (m:=m) (by omega) t n
     cases b with
     | true =>
      obtain⟨i,ad,fP⟩:=j9.1 rfl;refine dv (by simp only;omega) (bx (g1 _) (aD g2 (fr sf (aD i2 (fr rfl ?_)))));simp only;rw[same];rw[<- fP,ok.xJ _ ad,decide_eq_false (by grind)];simp
     | false =>
      have dp:=T7 hm fQ f I an ((⟨(b7 w).cz,(b7 w).b8⟩:bA)) rfl (N:Int) (aN N fun j=>if j<n then df j && !decide (t.cm m (fun j=>(I j:Rat)) j<0) else df j) aS
      have bK:jw (t.cm m (fun j=>(I j:Rat)) n)<0↔t.cm m (fun j=>(I j:Rat)) n<0:=by
       unfold jw;by_cases c:t.cm m (fun j=>(I j:Rat)) n=0
       ·rw[dw c,c];constructor
        ·intro h;omega
        ·intro h;grind
       ·rw[dy c]
        by_cases cq:t.cm m (fun j=>(I j:Rat)) n<0
        ·rw[dw cq];simp[cq]
        ·rw[dy cq];constructor
         ·intro h;omega
         ·intro h;exact(cq h).elim
      by_cases uI:t.cm m (fun j=>(I j:Rat)) n<0
      ·refine dv (by simp only;omega) (bx (g1 _) (aD g2 (fr sf (aD i2 (gn rfl (bx (Er fW) (aD (by rw[x9 fW];exact dp) (dv (bK.2 uI) (bx (by rw[cj,dx];omega) ?_)))))))))
       simp only;rw[fl (by omega),dx,dG,kK];congr 3;refine eF fun j _=> ?_;by_cases c:j=n
       ·subst c;rw[dw rfl,dw (by omega),decide_eq_true uI];simp
       ·rw[dy c]
        by_cases cq:j<n
        ·rw[dw cq,dw (by omega)]
        ·rw[dy cq,dy (by omega)]
      ·refine dv (by simp only;omega) (bx (g1 _) (aD g2 (fr sf (aD i2 (gn rfl (bx (Er fW) (aD (by rw[x9 fW];exact dp) (en (fun c=>uI (bK.1 c)) ?_))))))));simp only;rw[same];rw[decide_eq_false uI];simp
    ·have Jd:df n=false:=(by simpa using sf);refine dv (by simp only;omega) (bx (g1 _) (aD g2 (gn Jd ?_)));simp only;rw[same];rw[Jd];simp)
  (fun _ _=>by unfold zF;refine en (by simp) ?_;simp only;congr 2;exact eF fun j av=>by rw[dw av]) () trivial
 have e0:(aN N fun j=>if j<0 then df j && !decide (t.cm m (fun j=>(I j:Rat)) j<0) else df j)=aN N df:=eF fun j _=>by rw[dy (by omega)]
 rw[e0] at e;exact e
theorem RY {eR m N M:Nat}{A:Nat->Nat->Rat}(hm:m<=20)(fQ:N<1000){h:Nat->Nat}(inj:∀i,i<m-> ∀k,k<m->h i=h k->i=k)(I:Nat->Int)(an:∀j,j<N-> -100<=I j/\I j<=100)(df:Nat->Bool)
 (Inv:Rat->bW->Prop) (inv : ∀w t,Inv w t->gP eR m N A t/\t.mg m N/\pS m N w t)
 (hY : ∀w t r s,Inv w t->oQ m N 1 (fun _ j=>(I j:Rat)) (fun j=>df j=true) t r s->vq m N w t r s/\Inv (qB w t r s) (t.cg r s)) {w:Rat} {t:bW} (cP:Inv w t) {eP:List (List bA)} (fW:l5 m N M h w t eP) :
 ∃b bV cF kE l7,uJ (b7 w).cz (b7 w).b8 (N:Int) (hL m N h) eP (cS m t) (aN N df) (aN N I)=some (b,(b7 bV).cz,(b7 bV).b8,kE,cS m cF,aN N l7)/\Inv bV cF/\l5 m N M h bV cF kE /\
  ((b=true/\(∀j,j<N->df j=true-> ¬0<cF.cm m (fun j=>(I j:Rat)) j)/\l7=fun j=>df j && !decide (cF.cm m (fun j=>(I j:Rat)) j<0))\/(b=false/\ ∃s,s<N/\df s=true/\0<cF.cm m (fun j=>(I j:Rat)) s/\ ∀i,i<m-> ¬0<cF.T i s)):=by
 obtain⟨ok,lb,Gh⟩:=inv w t cP
 obtain⟨x,er,cF,e,-,-,-,bV,kE,h1,o,U⟩:=Sj (eR:=eR) (m:=m) (N:=N) (K:=1) (A:=A) (obj:=fun _ j=>(I j:Rat)) (bN:=fun j=>df j=true)
  (f:=wE (N:Int) (hL m N h) (aN N df) (aN N I))
  (fun s t=> ∃w eP,s=((b7 w).cz,(b7 w).b8,eP,cS m t)/\Inv w t/\l5 m N M h w t eP)
  (fun s x t=> ∃w eP,Inv w t/\l5 m N M h w t eP/\((x = .inl ((b7 w).cz,(b7 w).b8,eP,cS m t)/\ ∀j,j<N->df j=true-> ¬0<t.cm m (fun j=>(I j:Rat)) j) \/
    (x = .inr ((b7 w).cz,(b7 w).b8,eP,cS m t)/\ ∃s,s<N/\df s=true/\0<t.cm m (fun j=>(I j:Rat)) s/\ ∀i,i<m-> ¬0<t.T i s)))
  (fun s t di ok _=>by
    obtain⟨w,eP,rfl,cP,fW⟩:=di;obtain⟨x,e,ab⟩:=acp hm fQ inj ok (inv w t cP).2.2 I an df (fun r s b=>(hY w t r s cP b).1) fW;rcases ab with ⟨rfl,ab⟩|⟨r,s,kE,rfl,c1,Gf⟩|⟨rfl,ab⟩
    ·left;exact⟨_,by unfold wE;simp only;rw[e],w,eP,cP,fW,.inl ⟨rfl,ab⟩⟩
    ·right;exact⟨_,r,s,by unfold wE;simp only;rw[e],c1,qB w t r s,kE,rfl,(hY w t r s cP c1).2,Gf⟩
    ·left;exact⟨_,by unfold wE;simp only;rw[e],w,eP,cP,fW,.inr ⟨rfl,ab⟩⟩)
  (a:=((b7 w).cz,(b7 w).b8,eP,cS m t)) (t:=t) ⟨w,eP,rfl,cP,fW⟩ ok lb
 have aB:=aej _ _ e;obtain⟨l6,akH,ah7⟩:=inv bV cF h1;rcases U with ⟨rfl,U⟩|⟨rfl,U⟩
 ·refine⟨true,bV,cF,kE,_,?_,h1,o,.inl ⟨rfl,U,rfl⟩⟩;unfold uJ;exact aD aB (aD (aek hm fQ l6 ah7 I an df o) rfl)
 ·refine⟨false,bV,cF,kE,df,?_,h1,o,.inr ⟨rfl,U⟩⟩;unfold uJ;exact aD aB rfl
def iw (m:Nat)(A:Nat->Nat->Rat)(t:bW):Rat:=if 0<t.D m A then t.D m A else -(t.D m A)
theorem afw {m N:Nat}{A:Nat->Nat->Rat}{t:bW}(h:t.D m A≠0):0<iw m A t:=by unfold iw;split<;>grind
theorem Ij {m K:Nat}{A:Nat->Nat->Rat}{t:bW}{x:Rat}(h:dV K (x*t.D m A)):dV K (x*iw m A t):=by
 unfold iw;split
 ·exact h
 ·have:=h.neg;rw[show x * -(t.D m A) = -(x*t.D m A) by grind];exact this
theorem lP.sN {m N:Nat}{A:Nat->Nat->Rat}(s:Small m N A){t:bW}(h:lP m N A t):pS m N (iw m A t) t where
 pos:=afw (N:=N) h.se
 hw:=by have h1:dV eT (1*t.D m A):=(by rw[Rat.one_mul];exact h.zc s);have:=Ij h1;rw[Rat.one_mul] at this;exact this.mono (by generalize eT=q;omega)
 h2:=fun i ad j av=>Ij (h.uB s ad av)
 fP:=h.ok.ju
theorem lP.yK {m N:Nat}{A:Nat->Nat->Rat}(s:Small m N A){t:bW}(h:lP m N A t){r k:Nat}(ai:r<m)(aY:k<N)(ah:t.T r k≠0):vq m N (iw m A t) t r k where
 ai:=ai
 aY:=aY
 ah:=ah
 CH:=fun i ad j av=>by
  have l6:=h.ok.cg ai aY ah
  have h1:dV eT ((t.cg r k).T i j*(t.cg r k).D m A):=by
   rw[<- l6.w1 ad av];refine dV.mono (wk fun ey oq c a3=> ?_) (EV▸Bz (by omega) s.hm);simp only[hk];split
   ·exact s.qO c a3 j av
   ·exact s.qO c a3 _ (Nat.le_of_lt (l6.ju ey oq))
  rw[h.ok.yv ai aY] at h1;unfold iw;split
  ·exact h1
  ·have:=h1.neg;rw[show (t.cg r k).T i j*(t.T r k * -(t.D m A)) = -((t.cg r k).T i j*(t.T r k*t.D m A)) by grind];exact this
theorem Mc {m N:Nat}{A:Nat->Nat->Rat}{t:bW}(h:gP m m N A t)(bG:t.D m A≠0){r k:Nat}(ai:r<m)(aY:k<N)(ah:t.T r k≠0):qB (iw m A t) t r k=iw m A (t.cg r k):=by
 have e:=h.yv ai aY;unfold qB iw;rw[e];by_cases bo:0<t.T r k<;>by_cases cq:0<t.D m A
 ·rw[dw bo,dw cq,dw (Rat.mul_pos bo cq)]
 ·have:=Rat.mul_pos bo (show 0 < -(t.D m A) by grind);rw[dw bo,dy cq,dy (by grind)];grind
 ·have:=Rat.mul_pos (show 0 < -(t.T r k) by grind) cq;rw[dy bo,dw cq,dy (by grind)]
 ·have:=Rat.mul_pos (show 0 < -(t.T r k) by grind) (show 0 < -(t.D m A) by grind);rw[dy bo,dy cq,dw (by grind)];grind
def h8 (h:Nat->Nat)(t:bW):bW:=⟨fun i j=>t.T (h i) j,fun i=>t.B (h i)⟩
theorem Eg {h:Nat->Nat}{t:bW}{r k i:Nat}(gH:h i=h r->i=r):(∀j,((h8 h t).cg r k).T i j=(h8 h (t.cg (h r) k)).T i j)/\((h8 h t).cg r k).B i=(h8 h (t.cg (h r) k)).B i:=by
 simp only[bW.cg,h8];by_cases c:i=r
 ·subst c;simp
 ·have:h i≠h r:=fun e=>c (gH e);simp[c,this]
theorem St {α:Type}{m i:Nat}(ad:i<m)(f:Nat->α):(aN m f).take (i-0)++((aN m f).drop (0+(i+1))).take (m-(i+1))=aN (m-1) (skip i f):=by
 apply List.ext_getElem?;intro j;rw[Nat.sub_zero,dG];have aX:((aN m f).take i).length=i:=by rw[List.length_take,cj];omega
 by_cases c:j<i
 ·rw[List.getElem?_append_left (by omega),List.getElem?_take,dw c,f8 (by omega),f8 (by omega)];simp only[skip];rw[dw c]
 ·rw[List.getElem?_append_right (by omega),aX,List.getElem?_take,List.getElem?_drop]
  by_cases cq:j<m-1
  ·rw[dw (by omega),f8 (by omega),f8 cq];simp only[skip];rw[dy c];congr 2;omega
  ·rw[dy (by omega)]
   symm
   rw[List.getElem?_eq_none_iff,cj];omega
theorem abN {m N M n:Nat}(fQ:N<1000)(aS:n<=N){h:Nat->Nat}{w:Rat}{t:bW}(f:pS m N w t){eP:List (List bA)}(fW:l5 m N M h w t eP){i:Nat}(ad:i<m)(i2:Bool)(j9:ar)(aC:Int)(aV:ar)(bQ:List Bool):
 ∃k:Nat,JC (n:Int) (i:Int) i2 j9 aC (hL m N h) eP aV bQ 0=some (k:Int)/\k<=n/\(k<n->t.T i k≠0)/\ ∀j,j<k->t.T i j=0:=by
 unfold JC
 obtain⟨r,e,k,rfl,h1,o,U⟩:=rz (f:=fun q:Int=>zM (n:Int) (i:Int) i2 j9 aC (hL m N h) eP aV bQ q) (fun (c:Nat) (_:Unit)=>(c:Int)) n (fun c _=> ∀j,j<c->t.T i j=0)
  (fun r=> ∃k:Nat,r=(k:Int)/\k<=n/\(k<n->t.T i k≠0)/\ ∀j,j<k->t.T i j=0)
  (fun c a3 _ cP=>by
    have hw:=f.pos;have bK:=wj ((f.h2 i ad c (by omega)).mono (vp (by have:=sF;generalize eT=q at *;omega)));unfold zM;by_cases Jj:t.T i c=0
    ·left
     refine⟨(),dv (by omega) (bx (by unfold hL;rw[cj];omega) (aD (x:=some (h i,N+1)) (by rw[dx];exact hi ad) (aD (x:=(h i,N+1)) rfl (aD (fW.row i ad) (bx (by simp only;omega) (aD (x:=b7 (t.T i c*w)) (by rw[dx];exact hi (by omega)) (aD bK (fr (by rw[BL hw,oL.2 Jj];rfl) (by rw[fl (by omega)]))))))))),fun j av=> ?_⟩;by_cases e:j=c
     ·rw[e];exact Jj
     ·exact cP j (by omega)
    ·right;exact⟨_,dv (by omega) (bx (by unfold hL;rw[cj];omega) (aD (x:=some (h i,N+1)) (by rw[dx];exact hi ad) (aD (x:=(h i,N+1)) rfl (aD (fW.row i ad) (bx (by simp only;omega) (aD (x:=b7 (t.T i c*w)) (by rw[dx];exact hi (by omega)) (aD bK (gn (by rw[BL hw];exact uA (fun c=>Jj (oL.1 c))) rfl)))))))),c,rfl,by omega,fun _=>Jj,cP⟩)
  (fun _ cP=>⟨_,by unfold zM;exact en (by omega) rfl,n,rfl,dE _,fun c=>by omega,cP⟩) () (fun j av=>by omega)
 exact⟨k,e,h1,o,U⟩
structure m6 (m n N:Nat) (A:Nat->Nat->Rat) (t:bW) (aJ:Nat) (h:Nat->Nat):Prop where
 inv:lP m N A t
 z : ∀i,i<m->n<=t.B i->t.T i N=0
 le:aJ<=m
 lt : ∀i,i<aJ->h i<m
 inj : ∀i,i<aJ-> ∀k,k<aJ->h i=h k->i=k
 dead : ∀d,d<m->(∀i,i<aJ->h i≠d)->n<=t.B d/\ ∀j,j<n->t.T d j=0
theorem m6.sN {m n N aJ:Nat}{A:Nat->Nat->Rat}{t:bW}{h:Nat->Nat}(s:Small m N A)(a:m6 m n N A t aJ h):pS aJ N (iw m A t) (h8 h t) :=
 have f:=a.inv.sN s
 ⟨f.pos,f.hw,fun i ad j av=>f.h2 (h i) (a.lt i ad) j av,fun i ad=>f.fP (h i) (a.lt i ad)⟩
theorem m6.yK {m n N aJ:Nat}{A:Nat->Nat->Rat}{t:bW}{h:Nat->Nat}(s:Small m N A)(a:m6 m n N A t aJ h){r k:Nat}(ai:r<aJ)(aY:k<N)(ah:t.T (h r) k≠0):vq aJ N (iw m A t) (h8 h t) r k :=
 have f:=a.inv.yK s (a.lt r ai) aY ah
 ⟨ai,aY,ah,fun i ad j av=>by rw[(Eg (t:=t) (k:=k) (a.inj i ad r ai)).1 j];exact f.CH (h i) (a.lt i ad) j av⟩
theorem m6.cg {m n N aJ:Nat}{A:Nat->Nat->Rat}{t:bW}{h:Nat->Nat}(NF:n<=N)(a:m6 m n N A t aJ h){r k:Nat}(ai:r<aJ)(aY:k<n)(aU:n<=t.B (h r))(ah:t.T (h r) k≠0):m6 m n N A (t.cg (h r) k) aJ h:=by
 have cC:=a.z (h r) (a.lt r ai) aU
 have d7 : ∀i,(t.cg (h r) k).T i N=t.T i N:=fun i=>by
  simp only[bW.cg];split
  ·rename_i e;rw[e,cC];grind
  ·rw[cC];grind
 refine⟨⟨a.inv.ok.cg (a.lt r ai) (by omega) ah,fun i ad=>by rw[d7];exact a.inv.lb i ad,?_⟩,fun i ad fP=> ?_,a.le,a.lt,a.inj,fun d bG hl=> ?_⟩
 ·rw[a.inv.ok.yv (a.lt r ai) (by omega)];have:=a.inv.se;grind
 ·rw[d7]
  simp only[bW.cg] at fP;by_cases c:i=h r
  ·rw[dw c] at fP;omega
  ·rw[dy c] at fP;exact a.z i ad fP
 ·obtain⟨h1,o⟩:=a.dead d bG hl;have c6:d≠h r:=fun e=>hl r ai e.symm;simp only[bW.cg,dy c6];refine⟨h1,fun j av=> ?_⟩;rw[o j av,o k aY];grind
theorem adi {m n N:Nat}{A:Nat->Nat->Rat}(s:Small m N A)(fQ:N<1000)(NF:n<=N)(free:List Bool){t:bW}(cf:lP m N A t)(cC:∀i,i<m->n<=t.B i->t.T i N=0){eP:List (List bA)}(fW:l5 m N m (fun i=>i) (iw m A t) t eP):
 ∃cF aJ h kE,C4 (n:Int) (b7 (iw m A t)).cz (b7 (iw m A t)).b8 (N:Int) (hL m N fun i=>i) eP (cS m t) free=some ((b7 (iw m A cF)).cz,(b7 (iw m A cF)).b8,hL aJ N h,kE,cS aJ (h8 h cF)) /\
  m6 m n N A cF aJ h/\(∀i,i<aJ->cF.B (h i)<n)/\l5 aJ N m h (iw m A cF) (h8 h cF) kE:=by
 have hm:=s.hm;unfold C4 OU
 obtain⟨x,e,cF,aJ,h,kE,rfl,h1,o,U⟩:=kB (f:=fun w:Int×Bool×ar×(List bS)×(List (List bA))×ar=>CR (n:Int) (N:Int) free w.1 w.2.1 w.2.2.1 w.2.2.2.1 w.2.2.2.2.1 w.2.2.2.2.2)
  (fun w=> ∃(i aJ:Nat) (h:Nat->Nat) (t:bW) (p:List (List bA)),w=((i:Int),(b7 (iw m A t)).cz,(b7 (iw m A t)).b8,hL aJ N h,p,cS aJ (h8 h t))/\i<=aJ/\m6 m n N A t aJ h/\(∀q,q<i->t.B (h q)<n)/\l5 aJ N m h (iw m A t) (h8 h t) p)
  (fun w=>w.2.2.2.1.length-w.1.toNat)
  (fun x=> ∃cF aJ h kE,x=((b7 (iw m A cF)).cz,(b7 (iw m A cF)).b8,hL aJ N h,kE,cS aJ (h8 h cF))/\m6 m n N A cF aJ h/\(∀i,i<aJ->cF.B (h i)<n)/\l5 aJ N m h (iw m A cF) (h8 h cF) kE)
  (fun w hw=>by
    obtain⟨i,aJ,h,t,p,rfl,ad,bI,a5,ah⟩:=hw;have la:=bI.le;have vG:(hL aJ N h).length=aJ:=cj ..;have NG:(cS aJ (h8 h t)).length=aJ:=cj ..;simp only;unfold CR;by_cases c:i<aJ
    ·left
     have g1:0<=(i:Int)/\(i:Int)<((cS aJ (h8 h t)).length:Nat):=(by rw[NG];omega);have g2:(cS aJ (h8 h t))[(0+((i:Int)).toNat)]? = some ((t.B (h i):Nat):Int):=(by rw[dx];exact hi c);by_cases Jk:t.B (h i)<n
     ·refine⟨(((i+1:Nat):Int),(b7 (iw m A t)).cz,(b7 (iw m A t)).b8,hL aJ N h,p,cS aJ (h8 h t)),dv (by rw[vG];omega) (bx g1 (aD g2 (dv (by omega) (by rw[fl (by omega)])))),⟨i+1,aJ,h,t,p,rfl,by omega,bI,fun q oV=> ?_,ah⟩,by simp only[vG];omega⟩
      by_cases e:q=i
      ·rw[e];exact Jk
      ·exact a5 q (by omega)
     ·obtain⟨k,lX,k2,mK,NY⟩:=abN fQ NF (bI.sN s) ah c (b7 (iw m A t)).cz (b7 (iw m A t)).b8 (N:Int) (cS aJ (h8 h t)) free
      by_cases NZ:k<n
      ·have NH:t.T (h i) k≠0:=mK NZ
       obtain⟨lo,e1,aB⟩:=T8 (by omega) fQ bI.inj (bI.sN s) (bI.yK s c (by omega) NH) ah (N:Int) free;have w4:qB (iw m A t) (h8 h t) i k=iw m A (t.cg (h i) k):=Mc bI.inv.ok bI.inv.se (bI.lt i c) (by omega) NH;have aiO:cS aJ ((h8 h t).cg i k)=cS aJ (h8 h (t.cg (h i) k)):=eF fun q oV=>(by have:=(Eg (t:=t) (k:=k) (bI.inj q oV i c)).2;rw[this]);rw[w4,aiO] at e1;rw[w4] at aB;refine⟨(((i+1:Nat):Int),(b7 (iw m A (t.cg (h i) k))).cz,(b7 (iw m A (t.cg (h i) k))).b8,hL aJ N h,lo,cS aJ (h8 h (t.cg (h i) k))),dv (by rw[vG];omega) (bx g1 (aD g2 (en (by omega) (aD lX (dv (by omega) (aD e1 (by rw[fl (by omega)]))))))),⟨i+1,aJ,h,t.cg (h i) k,lo,rfl,by omega,bI.cg NF c NZ (by omega) NH,fun q oV=> ?_,aB.len,fun q oV=> ?_⟩,by simp only[vG];omega⟩
       ·simp only[bW.cg]
        split
        ·exact NZ
        ·rename_i c6;have:q≠i:=fun e=>c6 (by rw[e]);exact a5 q (by omega)
       ·rw[aB.row q oV];congr 1;exact eF fun j _=>by rw[(Eg (t:=t) (k:=k) (bI.inj q oV i c)).1 j]
      ·have NE:k=n:=by omega
       have Ga:R ((i:Int)+1)=((i+1:Nat):Int):=fl (by omega);have I5:(((hL aJ N h).drop (0+(i+1))).take (aJ-(i+1))).length=aJ-(i+1):=(by rw[List.length_take,List.length_drop,vG];omega);have FP:(((cS aJ (h8 h t)).drop (0+(i+1))).take (aJ-(i+1))).length=aJ-(i+1):=(by rw[List.length_take,List.length_drop,NG];omega);have bJ:(hL aJ N h).take (i-0)++((hL aJ N h).drop (0+(i+1))).take (aJ-(i+1))=hL (aJ-1) N (skip i h):=St c _;have fR:(cS aJ (h8 h t)).take (i-0)++((cS aJ (h8 h t)).drop (0+(i+1))).take (aJ-(i+1))=cS (aJ-1) (h8 (skip i h) t):=St c _;refine⟨((i:Int),(b7 (iw m A t)).cz,(b7 (iw m A t)).b8,hL (aJ-1) N (skip i h),p,cS (aJ-1) (h8 (skip i h) t)),dv (by rw[vG];omega) (bx g1 (aD g2 (en (by omega) (aD lX (en (by omega) ?_))))),⟨i,aJ-1,skip i h,t,p,rfl,by omega,⟨bI.inv,bI.z,by omega,fun q oV=> ?_,fun q oV aV Cg e=> ?_,fun d bG hl=> ?_⟩,fun q oV=> ?_,ah.len,fun q oV=> ?_⟩,?_⟩
       ·rw[Ga,dx,dx,vG,NG,I5,FP,bJ,fR];exact bx (by omega) (bx (by omega) (bx (by omega) (bx (by omega) (bx (by omega) (bx (by omega) (bx (by omega) (bx (by omega) (bx (by omega) (bx (by omega) (bx (by omega) (bx (by omega) rfl)))))))))))
       ·simp only[skip];split<;>exact bI.lt _ (by omega)
       ·simp only[skip] at e;have:=bI.inj _ (by split<;>omega) _ (by split<;>omega) e;split at this<;>split at this<;>omega
       ·by_cases W0:d=h i
        ·rw[W0];exact⟨by omega,fun j av=>NY j (by omega)⟩
        ·refine bI.dead d bG fun q oV=> ?_
         by_cases bo:q<i
         ·have:=hl q (by omega);simp only[skip] at this;rw[dw bo] at this;exact this
         ·by_cases cq:q=i
          ·rw[cq];exact fun e=>W0 e.symm
          ·have:=hl (q-1) (by omega);simp only[skip] at this;rw[dy (by omega),show q-1+1=q by omega] at this;exact this
       ·simp only[skip];rw[dw oV];exact a5 q oV
       ·simp only[skip]
        by_cases bo:q<i
        ·rw[dw bo,ah.row q (by omega)];congr 1;exact eF fun j _=>by simp only[h8,skip];rw[dw bo]
        ·rw[dy bo,ah.row (q+1) (by omega)];congr 1;exact eF fun j _=>by simp only[h8,skip];rw[dy bo]
       ·simp only[vG,show (hL (aJ-1) N (skip i h)).length=aJ-1 from cj ..];omega
    ·right;have ah8:i=aJ:=(by omega);subst ah8;exact⟨_,en (by rw[vG];omega) rfl,t,i,h,p,rfl,bI,a5,ah⟩)
  ((0:Int),(b7 (iw m A t)).cz,(b7 (iw m A t)).b8,hL m N (fun i=>i),eP,cS m t)
  ⟨0,m,fun i=>i,t,eP,rfl,by omega,⟨cf,cC,dE _,fun i ad=>ad,fun i _ k _ e=>e,fun d bG hl=>(hl d bG rfl).elim⟩,fun q a5=>by omega,fW.len,fW.row⟩
 exact⟨cF,aJ,h,kE,aD e rfl,h1,o,U⟩
theorem T9:(⟨false,([]:ar)⟩:bA)=b7 0:=by show _=gy (0:Rat).num;rw[show (0:Rat).num=0 from rfl];unfold gy;rw[show L ((0:Int).natAbs:Int)=[] from sK.2 (by simp)];rfl
theorem LO {α:Type}(l:List α)(x:α):(l++[x])[l.length]? = some x:=by simp
theorem BM {α:Type}(l:List α)(x y:α):(l++[x]).set l.length y=l++[y]:=by simp
theorem Ua {p:iN}{m n:Nat}{a:Nat->Nat->Int}{b:Nat->Int}(h:ly p m n a b){i:Nat}(ad:i<m):AP i p.gl p.fj p.dY p.ea p.hf=some (i*n,n):=by
 have hm:=h.hm;have aS:=h.aS;have h1:i*n<=20*40:=Nat.mul_le_mul (by omega) aS;have o:(i+1)*n<=20*40:=Nat.mul_le_mul (by omega) aS;have U:(i+1)*n<=m*n:=dL _ ad;have e1:R ((i:Int)*p.fj)=((i*n:Nat):Int):=by rw[h.gM,<- Int.natCast_mul,cV (by omega) (by omega)]
 have aB:R (R ((i:Int)+1)*p.fj)=(((i+1)*n:Nat):Int):=by rw[h.gM,fl (by omega),<- Int.natCast_mul,cV (by omega) (by omega)]
 have ak:(i+1)*n=i*n+n:=Nat.succ_mul i n;unfold AP;rw[e1,aB,dx,dx,h.hd];refine bx (by omega) (bx (by omega) (bx ⟨by omega,U⟩ ?_));rw[show 0+i*n=i*n by omega,show (i+1)*n-i*n=n by omega]
theorem abl {p:iN}{m n:Nat}{a:Nat->Nat->Int}{b:Nat->Int}(h:ly p m n a b){i:Nat}(ad:i<m)(aU:b i<0)(x0:Int)(fv:Bool)(eS:ar)(aV:List bS)(cr:ar)(du:List Bool)(P:List (List bA)):
 Kk x0 (i:Int) P.length (n+m+1) p.gl (i*n) n ((n:Nat):Int) p.fj p.dY p.ea p.hf fv eS aV cr du 0 (P++[aN (n+m+1) fun _=>b7 0])=some (P++[aN (n+m+1) fun j=>if j<n then b7 (de m n a b i j) else b7 0]):=by
 have hm:=h.hm;have aS:=h.aS;have bK:k0 (b i) = -1:=by unfold k0;rw[dw aU]
 unfold Kk
 obtain⟨s1,e1,-⟩:=ib (f:=fun w:Int×List (List bA)=>Ap x0 (i:Int) P.length (n+m+1) p.gl (i*n) n ((n:Nat):Int) p.fj p.dY p.ea p.hf fv eS aV cr du w.1 w.2)
  (fun (k:Nat) (_:Unit)=>((k:Int),P++[aN (n+m+1) fun j=>if j<k then b7 (de m n a b i j) else b7 0])) n (fun _ _=>True) (fun _=>P++[aN (n+m+1) fun j=>if j<n then b7 (de m n a b i j) else b7 0])
  (fun k aY _ _=>by
    refine⟨(),?_,trivial⟩;have bI:=h.uH i ad k aY;have e:R ((-1:Int)*a i k)=lq m n a b i k:=(by rw[cV (by omega) (by omega)];unfold lq;rw[dw aY,bK]);unfold Ap;refine dv (by simp only;omega) (bx (by simp only;omega) (aD (x:=a i k) (by simp only;rw[dx];exact h.Cf i ad k aY) (aD (x:=b7 (de m n a b i k)) (by rw[e];exact uW (by have:=vh h ad k;rw[k6];omega)) (aD (LO _ _) (bx (by simp only;omega) (aD (by simp only;rw[dx];exact hi (by omega)) ?_))))));simp only;rw[fl (by omega),dx,dG,kK,BM];congr 5;refine eF fun j _=> ?_;by_cases bo:j=k
    ·subst bo;rw[dw rfl,dw (by omega)]
    ·rw[dy bo]
     by_cases cq:j<k
     ·rw[dw cq,dw (by omega)]
     ·rw[dy cq,dy (by omega)])
  (fun _ _=>by unfold Ap;exact en (by simp) rfl) () trivial
 have e0:(aN (n+m+1) fun j=>if j<0 then b7 (de m n a b i j) else b7 0)=aN (n+m+1) fun _=>b7 0:=eF fun j _=>by rw[dy (by omega)]
 rw[e0] at e1;exact e1
theorem abm {p:iN}{m n:Nat}{a:Nat->Nat->Int}{b:Nat->Int}(h:ly p m n a b){i:Nat}(ad:i<m)(aU:¬b i<0)(x0:Int)(fv:Bool)(eS:ar)(aV:List bS)(cr:ar)(du:List Bool)(P:List (List bA)):
 Kl x0 (i:Int) P.length (n+m+1) p.gl (i*n) n ((n:Nat):Int) p.fj p.dY p.ea p.hf fv eS aV cr du 0 (P++[aN (n+m+1) fun _=>b7 0])=some (P++[aN (n+m+1) fun j=>if j<n then b7 (de m n a b i j) else b7 0]):=by
 have hm:=h.hm;have aS:=h.aS;have bK:k0 (b i)=1:=by unfold k0;rw[dy aU]
 unfold Kl
 obtain⟨s1,e1,-⟩:=ib (f:=fun w:Int×List (List bA)=>Aq x0 (i:Int) P.length (n+m+1) p.gl (i*n) n ((n:Nat):Int) p.fj p.dY p.ea p.hf fv eS aV cr du w.1 w.2)
  (fun (k:Nat) (_:Unit)=>((k:Int),P++[aN (n+m+1) fun j=>if j<k then b7 (de m n a b i j) else b7 0])) n (fun _ _=>True) (fun _=>P++[aN (n+m+1) fun j=>if j<n then b7 (de m n a b i j) else b7 0])
  (fun k aY _ _=>by
    refine⟨(),?_,trivial⟩;have bI:=h.uH i ad k aY;have e:R ((1:Int)*a i k)=lq m n a b i k:=(by rw[cV (by omega) (by omega)];unfold lq;rw[dw aY,bK]);unfold Aq;refine dv (by simp only;omega) (bx (by simp only;omega) (aD (x:=a i k) (by simp only;rw[dx];exact h.Cf i ad k aY) (aD (x:=b7 (de m n a b i k)) (by rw[e];exact uW (by have:=vh h ad k;rw[k6];omega)) (aD (LO _ _) (bx (by simp only;omega) (aD (by simp only;rw[dx];exact hi (by omega)) ?_))))));simp only;rw[fl (by omega),dx,dG,kK,BM];congr 5;refine eF fun j _=> ?_;by_cases bo:j=k
    ·subst bo;rw[dw rfl,dw (by omega)]
    ·rw[dy bo]
     by_cases cq:j<k
     ·rw[dw cq,dw (by omega)]
     ·rw[dy cq,dy (by omega)])
  (fun _ _=>by unfold Aq;exact en (by simp) rfl) () trivial
 have e0:(aN (n+m+1) fun j=>if j<0 then b7 (de m n a b i j) else b7 0)=aN (n+m+1) fun _=>b7 0:=eF fun j _=>by rw[dy (by omega)]
 rw[e0] at e1;exact e1
theorem rE {α:Type}(n:Nat)(x:α):List.replicate n x=aN n fun _=>x:=by
 apply List.ext_getElem?;intro i;by_cases c:i<n
 ·rw[f8 c];simp[c]
 ·rw[List.getElem?_eq_none_iff.2 (by simp;omega),List.getElem?_eq_none_iff.2 (by rw[cj];omega)]
theorem RH {p:iN}{m n:Nat}{a:Nat->Nat->Int}{b:Nat->Int}(h:ly p m n a b)(fv:Bool)(eS:ar)(du:List Bool):
 Km ((n+m:Nat):Int) p.gl p.fj p.dY p.ea p.hf fv eS du 0 ([]:List bS) ([]:List (List bA)) ([]:ar)=some (hL m (n+m) (fun i=>i),aN m (fun i=>aN (n+m+1) fun j=>b7 (de m n a b i j)),cS m (jB m n a b)):=by
 have hm:=h.hm;have aS:=h.aS;unfold Km
 obtain⟨s,e,-⟩:=ib (f:=fun w:Int×(List bS)×(List (List bA))×ar=>Ar ((n+m:Nat):Int) p.gl p.fj p.dY p.ea p.hf fv eS du w.1 w.2.1 w.2.2.1 w.2.2.2)
  (fun (i:Nat) (_:Unit)=>((i:Int),aN i (fun k=>(some (k,n+m+1):bS)),aN i (fun i=>aN (n+m+1) fun j=>b7 (de m n a b i j)),aN i (fun k=>((n+k:Nat):Int)))) m (fun _ _=>True)
  (fun _=>(hL m (n+m) (fun i=>i),aN m (fun i=>aN (n+m+1) fun j=>b7 (de m n a b i j)),cS m (jB m n a b)))
  (fun i ad _ _=>by
    refine⟨(),?_,trivial⟩;have aU:=h.s6 i ad;have jz:R (((n+m:Nat):Int)+1)=((n+m+1:Nat):Int):=fl (by omega);have hw:R (p.fj+(i:Int))=((n+i:Nat):Int):=(by rw[h.gM,<- Int.natCast_add,cV (by omega) (by omega)]);have WD:(aN i (fun i=>aN (n+m+1) fun j=>b7 (de m n a b i j))).length=i:=cj ..;have r7:lq m n a b i (n+m)=k0 (b i)*b i:=by unfold lq;rw[dy (by omega),dw rfl]
    have ei:((aN (n+m+1) fun j=>if j<n then b7 (de m n a b i j) else b7 0).set (n+i) (b7 ((1:Int):Rat))).set (n+m) (b7 (de m n a b i (n+m)))=aN (n+m+1) fun j=>b7 (de m n a b i j):=by
     rw[kK,kK];refine eF fun j av=> ?_;by_cases bo:j=n+m
     ·rw[dw bo,bo]
     ·rw[dy bo]
      by_cases cq:j=n+i
      ·rw[dw cq,cq,u5 ad,dw rfl];rfl
      ·rw[dy cq]
       by_cases kx:j<n
       ·rw[dw kx]
       ·rw[dy kx];obtain⟨k,rfl⟩ : ∃k,j=n+k:=⟨j-n,by omega⟩;rw[u5 (by omega),dy (by omega)]
    unfold Ar;rw[jz,hw,dx];refine dv (by simp only;rw[h.rows];omega) (bx (by omega) (bx (by simp only;rw[h.w3];omega) (aD (x:=b i) (by simp only[dx,dG];exact h.Fl i ad) ?_)))
    have fin:(some (Sum.inl (R ((i:Int)+1),(aN i (fun k=>(some (k,n+m+1):bS)))++[some (i,n+m+1)],(aN i (fun i=>aN (n+m+1) fun j=>b7 (de m n a b i j)))++[aN (n+m+1) fun j=>b7 (de m n a b i j)],(aN i fun k=>((n+k:Nat):Int))++[((n+i:Nat):Int)])):Option ((Int×(List bS)×(List (List bA))×ar)⊕((List bS)×(List (List bA))×ar))) =
     some (Sum.inl (((i+1:Nat):Int),aN (i+1) (fun k=>(some (k,n+m+1):bS)),aN (i+1) (fun i=>aN (n+m+1) fun j=>b7 (de m n a b i j)),aN (i+1) (fun k=>((n+k:Nat):Int)))):=by
     rw[fl (by omega),kU i (fun k=>(some (k,n+m+1):bS)),kU i (fun i=>aN (n+m+1) fun j=>b7 (de m n a b i j)),kU i (fun k=>((n+k:Nat):Int))]
    have ab : ∀(P:List (List bA)) (F:List bA->Option ((Int×(List bS)×(List (List bA))×ar)⊕((List bS)×(List (List bA))×ar))) (x:List bA) r,F x=r->(P++[x])[P.length]? >>= F=r:=fun P F x r wW=>aD (LO P x) wW;refine qb (fun c=> ?_) (fun c=> ?_)
    ·have oS:b i<0:=of_decide_eq_true c;have bK:k0 (b i) = -1:=(by unfold k0;rw[dw oS]);refine aD (Ua h ad) (aD (by rw[T9,rE];exact abl h ad oS _ _ _ _ _ _ _) (aD (uW (n:=1) (by rw[k6];omega)) (ab _ _ _ _ ?_)));refine bx (by omega) (aD (x:=b7 0) (by rw[dx,hi (by omega),dy (by omega)]) (aD (x:=b7 (de m n a b i (n+m))) (by have e:R ((-1:Int)*b i)=lq m n a b i (n+m):=(by rw[r7,bK,cV (by omega) (by omega)]);rw[e];exact uW (by have:=vh h ad (n+m);rw[k6];omega)) ?_));rw[BM,dx,dG,dx,dG];refine ab _ _ _ _ (bx (by omega) ?_);obtain⟨v,bg⟩ : ∃v,((aN (n+m+1) fun j=>if j<n then b7 (de m n a b i j) else b7 0).set (n+i) (b7 ((1:Int):Rat)))[n+m]? = some v:=(by rw[kK,f8 (by omega)];exact⟨_,rfl⟩);refine aD bg (bx (by simp only[dF,cj,List.length_cons,List.length_nil];omega) (bx (by simp only[dF,cj,List.length_cons,List.length_nil];omega) ?_));rw[BM];simp only[dx,dG];rw[ei,WD];exact fin
    ·have oS : ¬b i<0:=of_decide_eq_false c;have bK:k0 (b i)=1:=(by unfold k0;rw[dy oS]);refine aD (Ua h ad) (aD (by rw[T9,rE];exact abm h ad oS _ _ _ _ _ _ _) (aD (uW (n:=1) (by rw[k6];omega)) (ab _ _ _ _ ?_)));refine bx (by omega) (aD (x:=b7 0) (by rw[dx,hi (by omega),dy (by omega)]) (aD (x:=b7 (de m n a b i (n+m))) (by have e:R ((1:Int)*b i)=lq m n a b i (n+m):=(by rw[r7,bK,cV (by omega) (by omega)]);rw[e];exact uW (by have:=vh h ad (n+m);rw[k6];omega)) ?_));rw[BM,dx,dG,dx,dG];refine ab _ _ _ _ (bx (by omega) ?_);obtain⟨v,bg⟩ : ∃v,((aN (n+m+1) fun j=>if j<n then b7 (de m n a b i j) else b7 0).set (n+i) (b7 ((1:Int):Rat)))[n+m]? = some v:=(by rw[kK,f8 (by omega)];exact⟨_,rfl⟩);refine aD bg (bx (by simp only[dF,cj,List.length_cons,List.length_nil];omega) (bx (by simp only[dF,cj,List.length_cons,List.length_nil];omega) ?_));rw[BM];simp only[dx,dG];rw[ei,WD];exact fin)
  (fun _ _=>by unfold Ar;exact en (by simp only;rw[h.rows];omega) rfl) () trivial
 exact e
def sg (n j:Nat):Int:=if n<=j then -1 else 0
theorem UN {m n j:Nat}(av:j<n+m):((sg n j:Int):Rat)=gf m n j:=by
 unfold sg gf;by_cases c:n<=j
 ·rw[dw c,dw ⟨c,av⟩];rfl
 ·rw[dy c,dy (by omega)];rfl
theorem Ub {m n:Nat}{t:bW}(fP:∀i,i<m->t.B i<n+m){j:Nat}(av:j<n+m):t.cm m (fun j=>((sg n j:Int):Rat)) j=t.cm m (gf m n) j:=by unfold bW.cm;simp only;rw[UN av,f5 (g:=fun i=>gf m n (t.B i)*t.T i j) fun i ad=>by rw[UN (fP i ad)]]
theorem RZ {p:iN}{m n:Nat}{a:Nat->Nat->Int}{b:Nat->Int}(h:ly p m n a b)(x0:Int)(fv:Bool)(eS:ar)(aV:List bS)(bQ:List (List bA))(cr:ar):
 Kn x0 ((n+m:Nat):Int) p.gl p.fj p.dY p.ea p.hf fv eS aV bQ cr 0 (aN (n+m) fun _=>(0:Int)) (aN (n+m) fun _=>false)=some (aN (n+m) (sg n),aN (n+m) fun j=>decide (j<n)):=by
 have hm:=h.hm;have aS:=h.aS;unfold Kn
 obtain⟨s,e,-⟩:=ib (f:=fun w:Int×ar×List Bool=>As x0 ((n+m:Nat):Int) p.gl p.fj p.dY p.ea p.hf fv eS aV bQ cr w.1 w.2.1 w.2.2)
  (fun (k:Nat) (_:Unit)=>((k:Int),(aN (n+m) fun j=>if j<k then sg n j else 0),aN (n+m) fun j=>if j<k then decide (j<n) else false)) (n+m) (fun _ _=>True) (fun _=>(aN (n+m) (sg n),aN (n+m) fun j=>decide (j<n)))
  (fun k aY _ _=>by
    refine⟨(),?_,trivial⟩
    have aB:(aN (n+m) fun j=>if j<k then decide (j<n) else false).set (0+((k:Int)).toNat) (decide (k<n))=aN (n+m) fun j=>if j<k+1 then decide (j<n) else false:=by
     rw[dx,dG,kK];refine eF fun j _=> ?_;by_cases c:j=k
     ·subst c;rw[dw rfl,dw (by omega)]
     ·rw[dy c]
      by_cases cq:j<k
      ·rw[dw cq,dw (by omega)]
      ·rw[dy cq,dy (by omega)]
    have N0:decide ((k:Int)<p.fj)=decide (k<n):=(by rw[h.gM];simp);unfold As;simp only;rw[N0,aB,fl (by omega)];refine dv (by omega) (bx (by rw[cj];omega) (bx (by rw[cj,dx];omega) ?_));by_cases c:n<=k
    ·refine dv (by rw[h.gM];omega) (bx (by rw[cj];omega) (bx (by rw[cj,dx];omega) ?_))
     rw[dx,dG,kK];congr 4;refine eF fun j _=> ?_;by_cases bo:j=k
     ·subst bo;rw[dw rfl,dw (by omega)];unfold sg;rw[dw c]
     ·rw[dy bo]
      by_cases cq:j<k
      ·rw[dw cq,dw (by omega)]
      ·rw[dy cq,dy (by omega)]
    ·refine en (by rw[h.gM];omega) ?_
     congr 4;refine eF fun j _=> ?_;by_cases bo:j=k
     ·subst bo;rw[dy (by omega),dw (by omega)];unfold sg;rw[dy c]
     ·by_cases cq:j<k
      ·rw[dw cq,dw (by omega)]
      ·rw[dy cq,dy (by omega)])
  (fun _ _=>by
    unfold As;refine en (by simp) ?_;simp only;congr 3
    ·exact eF fun j av=>by rw[dw av]
    ·exact eF fun j av=>by rw[dw av]) () trivial
 have nL:(aN (n+m) fun j=>if j<0 then sg n j else 0)=aN (n+m) fun _=>(0:Int):=eF fun j _=>by rw[dy (by omega)]
 have w5:(aN (n+m) fun j=>if j<0 then decide (j<n) else false)=aN (n+m) fun _=>false:=eF fun j _=>by rw[dy (by omega)]
 rw[nL,w5] at e;exact e
theorem abn {p:iN}{m n:Nat}{a:Nat->Nat->Int}{b:Nat->Int}(h:ly p m n a b){w:Rat}{t:bW}(f:pS m (n+m) w t){eP:List (List bA)}(fW:l5 m (n+m) m (fun i=>i) w t eP)(fv:Bool)(eS:ar)(x0:Int)(q:List Bool):
 ∃r,Ko ((n+m:Nat):Int) ((m:Nat):Int) p.gl p.fj p.dY p.ea p.hf fv eS x0 (cS m t) (hL m (n+m) fun i=>i) eP q 0=some r/\((r = .inr ()/\ ∃i,i<m/\n<=t.B i/\0<t.T i (n+m))\/(r = .inl ()/\ ∀i,i<m->n<=t.B i-> ¬0<t.T i (n+m))):=by
 have hm:=h.hm;have aS:=h.aS;have hw:=f.pos;unfold Ko
 exact rz (f:=fun w:Int=>At ((n+m:Nat):Int) ((m:Nat):Int) p.gl p.fj p.dY p.ea p.hf fv eS x0 (cS m t) (hL m (n+m) fun i=>i) eP q w) (fun (i:Nat) (_:Unit)=>(i:Int)) m (fun k _=> ∀i,i<k->n<=t.B i-> ¬0<t.T i (n+m)) _
  (fun i ad _ cP=>by
    have bK:=wj ((f.h2 i ad (n+m) (dE _)).mono (vp (by have:=sF;generalize eT=q at *;omega)));have g1:0<=(i:Int)/\(i:Int)<((cS m t).length:Nat):=(by unfold cS;rw[cj];omega);have g2:(cS m t)[(0+((i:Int)).toNat)]? = some ((t.B i:Nat):Int):=(by rw[dx];exact hi ad);have g3:0<=(i:Int)/\(i:Int)<((hL m (n+m) fun i=>i).length:Nat):=(by unfold hL;rw[cj];omega);have g4:(hL m (n+m) fun i=>i)[(0+((i:Int)).toNat)]? = some (some (i,n+m+1)):=(by rw[dx];exact hi ad);unfold At;by_cases Jk:n<=t.B i
    ·by_cases lC:0<t.T i (n+m)
     ·right;exact⟨_,dv (by omega) (bx g1 (aD g2 (dv (by rw[h.gM];omega) (bx g3 (aD g4 (aD (x:=(i,n+m+1)) rfl (aD (fW.row i ad) (bx (by simp only;omega) (aD (x:=b7 (t.T i (n+m)*w)) (by rw[dx];exact hi (by omega)) (aD bK (dv (by rw[BL hw];exact sy.2 lC) rfl))))))))))),.inl ⟨rfl,i,ad,Jk,lC⟩⟩
     ·left
      refine⟨(),dv (by omega) (bx g1 (aD g2 (dv (by rw[h.gM];omega) (bx g3 (aD g4 (aD (x:=(i,n+m+1)) rfl (aD (fW.row i ad) (bx (by simp only;omega) (aD (x:=b7 (t.T i (n+m)*w)) (by rw[dx];exact hi (by omega)) (aD bK (en (by rw[BL hw];exact fun c=>lC (sy.1 c)) (by rw[fl (by omega)])))))))))))),fun k aY=> ?_⟩;by_cases e:k=i
      ·rw[e];exact fun _=>lC
      ·exact cP k (by omega)
    ·left
     refine⟨(),dv (by omega) (bx g1 (aD g2 (en (by rw[h.gM];omega) (by rw[fl (by omega)])))),fun k aY=> ?_⟩;by_cases e:k=i
     ·rw[e];exact fun c=>(Jk c).elim
     ·exact cP k (by omega))
  (fun _ cP=>⟨_,by unfold At;exact en (by omega) rfl,.inr ⟨rfl,cP⟩⟩) () (fun k aY=>by omega)
theorem abo {p:iN}{m n:Nat}{a:Nat->Nat->Int}{b:Nat->Int}(h:ly p m n a b)(F:Nat->Bool)(fv:Bool)(eS:ar)(x0:Int)(aV:List bS)(bQ:List (List bA))(cr:ar):
 Kp ((n+m:Nat):Int) p.gl p.fj p.dY p.ea p.hf fv eS x0 aV bQ cr 0 (aN (n+m) F)=some (aN (n+m) fun j=>decide (j<n)):=by
 have hm:=h.hm;have aS:=h.aS;unfold Kp
 obtain⟨s,e,-⟩:=ib (f:=fun w:Int×List Bool=>Au ((n+m:Nat):Int) p.gl p.fj p.dY p.ea p.hf fv eS x0 aV bQ cr w.1 w.2)
  (fun (k:Nat) (_:Unit)=>((k:Int),aN (n+m) fun j=>if j<k then decide (j<n) else F j)) (n+m) (fun _ _=>True) (fun _=>aN (n+m) fun j=>decide (j<n))
  (fun k aY _ _=>by
    refine⟨(),?_,trivial⟩;have N0:decide ((k:Int)<p.fj)=decide (k<n):=(by rw[h.gM];simp);unfold Au;simp only;rw[N0,fl (by omega)];refine dv (by omega) (bx (by rw[cj];omega) (bx (by rw[cj,dx];omega) ?_));rw[dx,dG,kK];congr 3;refine eF fun j _=> ?_;by_cases c:j=k
    ·subst c;rw[dw rfl,dw (by omega)]
    ·rw[dy c]
     by_cases cq:j<k
     ·rw[dw cq,dw (by omega)]
     ·rw[dy cq,dy (by omega)])
  (fun _ _=>by unfold Au;refine en (by simp) ?_;simp only;congr 2;exact eF fun j av=>by rw[dw av]) () trivial
 have nL:(aN (n+m) fun j=>if j<0 then decide (j<n) else F j)=aN (n+m) F:=eF fun j _=>by rw[dy (by omega)]
 rw[nL] at e;exact e
theorem WE {m n:Nat}{a:Nat->Nat->Int}{b:Nat->Int}:iw m (de m n a b) (jB m n a b)=1:=by unfold iw;rw[UE,dw (by grind)]
theorem TC {p:iN}{m n:Nat}{a:Nat->Nat->Int}{b:Nat->Int}(h:ly p m n a b):
 ∃r,Bc p.gl p.fj p.dY p.ea p.hf=some r/\((oT m n a b/\ ∃t aJ g eP,r = .inl ((b7 (iw m (de m n a b) t)).cz,(b7 (iw m (de m n a b) t)).b8,((n+m:Nat):Int),hL aJ (n+m) g,cS aJ (h8 g t),aN (n+m) (fun j=>decide (j<n)),eP) /\
  m6 m n (n+m) (de m n a b) t aJ g/\(∀i,i<aJ->t.B (g i)<n)/\l5 aJ (n+m) m g (iw m (de m n a b) t) (h8 g t) eP)\/(¬oT m n a b/\r = .inr ())):=by
 have hm:=h.hm;have aS:=h.aS;have gw:=Bt h;have fQ:R (p.fj+p.gl)=((n+m:Nat):Int):=by rw[h.gM,h.rows,<- Int.natCast_add,cV (by omega) (by omega)]
 have ah9:l5 m (n+m) m (fun i=>i) (iw m (de m n a b) (jB m n a b)) (jB m n a b) (aN m (fun i=>aN (n+m+1) fun j=>b7 (de m n a b i j))):=⟨cj ..,fun i ad=>by rw[f8 ad,WE];congr 1;exact eF fun j _=>by show b7 (de m n a b i j)=b7 (de m n a b i j*1);congr 1;grind⟩
 obtain⟨q,bV,t,eP,l7,e,⟨cP,rfl⟩,fW,eL⟩:=RY (eR:=m) (m:=m) (N:=n+m) (M:=m) (A:=de m n a b) hm (by omega) (h:=fun i=>i) (fun i _ k _ e=>e) (sg n) (fun j _=>by unfold sg;split<;>omega) (fun j=>decide (j<n))
  (fun w t=>lP m (n+m) (de m n a b) t/\w=iw m (de m n a b) t) (fun w t cP=>⟨cP.1.ok,cP.1.lb,cP.2▸cP.1.sN gw⟩)
  (fun w t r s cP b=>by obtain⟨h1,rfl⟩:=cP;have ah:t.T r s≠0:=(by have:=b.pos;grind);exact⟨h1.yK gw b.ai b.bK ah,h1.hY b,Mc h1.ok h1.se b.ai b.bK ah⟩)
  (w:=iw m (de m n a b) (jB m n a b)) (t:=jB m n a b) ⟨⟨TZ,SP,Tp⟩,rfl⟩ ah9
 rw[WE] at e
 have MI : ∀j,j<n->t.cm m (gf m n) j<=0:=by
  rcases eL with ⟨-,eL,-⟩|⟨-,s,bK,-,dp,hl⟩
  ·intro j av;have:=eL j (by omega) (by simpa using av);rw[Ub cP.ok.ju (by omega)] at this;grind
  ·rw[Ub cP.ok.ju bK] at dp;obtain⟨i,ad,ah⟩:=Ry cP.ok bK dp;exact(hl i ad ah).elim
 have e1:pG 1=some (b7 1):=by have:=uW (n:=1) (by rw[k6];omega);rw[show ((1:Int):Rat)=1 from rfl] at this;exact this
 obtain⟨r,r1,bR⟩:=abn h (cP.sN gw) fW (b7 (iw m (de m n a b) t)).cz (b7 (iw m (de m n a b) t)).b8 ((n+m:Nat):Int) (aN (n+m) l7);unfold Bc;rw[fQ];rcases bR with ⟨rfl,i,ad,fP,h2⟩|⟨rfl,hl⟩
 ·have Ft : ¬oT m n a b:=fun bK=>by
   have:=KU cP.lb (Sk cP.ok cP.lb MI bK) cP.ok.ju i ad fP;grind
  refine⟨_,aD e1 (bx (by omega) (aD (RH h _ _ _) (bx (by omega) (aD (x:=(aN (n+m) (sg n),aN (n+m) fun j=>decide (j<n))) (by rw[dx,rE,rE];exact RZ h _ _ _ _ _ _) (aD e ?_))))),.inr ⟨Ft,rfl⟩⟩;refine aD (x:= .inr ()) ?_ rfl;simp only;rw[show ((cS m t).length:Nat)=m from cj ..];exact r1
 ·have cC : ∀i,i<m->n<=t.B i->t.T i (n+m)=0:=fun i ad fP=>by
   have h1:=hl i ad fP;have o:=cP.lb i ad;grind
  have bK:oT m n a b:=RT cP.ok cP.lb cC;obtain⟨cF,aJ,g,kE,lA,lB,Gp,k3⟩:=adi (n:=n) gw (by omega) (by omega) (aN (n+m) fun j=>decide (j<n)) cP cC fW;refine⟨_,aD e1 (bx (by omega) (aD (RH h _ _ _) (bx (by omega) (aD (x:=(aN (n+m) (sg n),aN (n+m) fun j=>decide (j<n))) (by rw[dx,rE,rE];exact RZ h _ _ _ _ _ _) (aD e ?_))))),.inl ⟨bK,cF,aJ,g,kE,rfl,lB,Gp,k3⟩⟩;refine aD (x:= .inl ()) ?_ ?_
  ·simp only;rw[show ((cS m t).length:Nat)=m from cj ..];exact r1
  ·simp only;rw[show ((aN (n+m) l7).length:Nat)=n+m from cj ..];refine aD (abo h l7 _ _ _ _ _ _) ?_;rw[h.gM];exact aD lA rfl
structure qK (m:Nat) (u v:bW):Prop where
 T : ∀i,i<m-> ∀j,u.T i j=v.T i j
 B : ∀i,i<m->u.B i=v.B i
theorem qK.sN {m N:Nat}{w:Rat}{u v:bW}(s:qK m u v)(h:pS m N w v):pS m N w u :=
 ⟨h.pos,h.hw,fun i ad j av=>by rw[s.T i ad];exact h.h2 i ad j av,fun i ad=>by rw[s.B i ad];exact h.fP i ad⟩
theorem qK.cg {m:Nat}{u v:bW}(s:qK m u v){r:Nat}(ai:r<m)(k:Nat):qK m (u.cg r k) (v.cg r k) where
 T:=fun i ad j=>by simp only[bW.cg,s.T i ad,s.T r ai]
 B:=fun i ad=>by simp only[bW.cg,s.B i ad]
theorem qK.yK {m N:Nat}{w:Rat}{u v:bW}(s:qK m u v){r k:Nat}(h:vq m N w v r k):vq m N w u r k :=
 ⟨h.ai,h.aY,by rw[s.T r h.ai];exact h.ah,fun i ad j av=>by rw[(s.cg h.ai k).T i ad,s.T r h.ai];exact h.CH i ad j av⟩
theorem qK.trans {m:Nat}{u v t:bW}(a:qK m u v)(b:qK m v t):qK m u t:=⟨fun i ad j=>(a.T i ad j).trans (b.T i ad j),fun i ad=>(a.B i ad).trans (b.B i ad)⟩
theorem aeR {aJ:Nat}{g:Nat->Nat}(inj:∀i,i<aJ-> ∀k,k<aJ->g i=g k->i=k)(t:bW){r:Nat}(ai:r<aJ)(k:Nat):qK aJ ((h8 g t).cg r k) (h8 g (t.cg (g r) k)) :=
 ⟨fun i ad j=>(Eg (t:=t) (k:=k) (inj i ad r ai)).1 j,fun i ad=>(Eg (t:=t) (k:=k) (inj i ad r ai)).2⟩
theorem UO {m n:Nat}{a:Nat->Nat->Int}{b:Nat->Int}{x:Nat->Rat}{c:Nat}:ct n (fun j=>de m n a b c j*x j)=((k0 (b c):Int):Rat)*ct n (fun j=>(a c j:Rat)*x j):=by rw[<- jE];exact f5 fun j av=>by rw[L1 av];grind
theorem m6.UP {m n:Nat}{a:Nat->Nat->Int}{b:Nat->Int}{t:bW}{aJ:Nat}{g:Nat->Nat}(h:m6 m n (n+m) (de m n a b) t aJ g)(fP:∀i,i<aJ->t.B (g i)<n):LT m n a b aJ (n+m) (h8 g t) where
 eqv:=fun x=>by
  have key:(∀i,i<m->ct n (fun j=>(a i j:Rat)*x j)=(b i:Rat))↔ ∀i,i<m->ct n (fun j=>de m n a b i j*x j)=de m n a b i (n+m):=by
   constructor
   ·intro ab i ad;rw[UO,H5,ab i ad]
   ·intro ab i ad
    have:=ab i ad;rw[UO,H5] at this;have h0:=UD (b i);have e:((k0 (b i):Int):Rat)*(ct n (fun j=>(a i j:Rat)*x j)-(b i:Rat))=0:=(by grind);rcases Rat.mul_eq_zero.1 e with e|e
    ·exact(h0 e).elim
    ·grind
  rw[key];constructor
  ·intro ab i ad;obtain⟨W,hW⟩:=h.inv.ok.row;show ct n (fun j=>t.T (g i) j*x j)=t.T (g i) (n+m);rw[hW (g i) (h.lt i ad) (n+m) (dE _),f5 (g:=fun j=>ct m (fun c=>W (g i) c*(de m n a b c j*x j))) (fun j av=>by rw[hW (g i) (h.lt i ad) j (by omega),<- uU];exact f5 fun c _=>by grind),qU];exact f5 fun c a3=>by rw[jE,ab c a3]
  ·intro ab c a3
   have row : ∀i,i<m->ct n (fun j=>t.T i j*x j)=t.T i (n+m):=fun i ad=>by
    by_cases bN : ∃q,q<aJ/\g q=i
    ·obtain⟨q,a5,rfl⟩:=bN;exact ab q a5
    ·obtain⟨d1,d2⟩:=h.dead i ad fun q a5 e=>bN ⟨q,a5,e⟩;rw[h.z i ad d1];exact nN fun j av=>by rw[d2 j av];grind
   rw[h.inv.ok.sW c a3 (n+m) (dE _),f5 (g:=fun j=>ct m (fun i=>de m n a b c (t.B i)*(t.T i j*x j))) (fun j av=>by rw[h.inv.ok.sW c a3 j (by omega),<- uU];exact f5 fun i _=>by grind),qU];exact f5 fun i ad=>by rw[jE,row i ad]
 unit:=fun i ad k aY=>by
  show t.T (g i) (t.B (g k))=_;rw[h.inv.ok.unit _ (h.lt i ad) _ (h.lt k aY)];by_cases c:i=k
  ·rw[dw c,dw (by rw[c])]
  ·rw[dy c,dy fun e=>c (h.inj i ad k aY e)]
 ju:=fP
 lb:=fun i ad=>h.inv.lb _ (h.lt i ad)
 NU:=by omega
theorem m6.step {m n:Nat}{a:Nat->Nat->Int}{b:Nat->Int}{t:bW}{aJ:Nat}{g:Nat->Nat}{K:Nat}{obj:Nat->Nat->Rat}{bN:Nat->Prop}(h:m6 m n (n+m) (de m n a b) t aJ g)(fP:∀i,i<aJ->t.B (g i)<n){u:bW}(bK:qK aJ u (h8 g t)){r s:Nat}(c1:oQ aJ (n+m) K obj bN u r s)(yV:s<n):
 m6 m n (n+m) (de m n a b) (t.cg (g r) s) aJ g/\(∀i,i<aJ->(t.cg (g r) s).B (g i)<n)/\qK aJ (u.cg r s) (h8 g (t.cg (g r) s)):=by
 have ai:=c1.ai;have ah:0<t.T (g r) s:=by have:=c1.pos;rw[bK.T r ai] at this;exact this
 have F4:t.T (g r) s≠0:=by grind
 have VA:=(bK.cg ai s).trans (aeR h.inj t ai s);have zr : ∀d,d<m->(∀i,i<aJ->g i≠d)-> ∀j,(t.cg (g r) s).T d j=t.T d j/\(t.cg (g r) s).B d=t.B d:=fun d bG hl j=>by obtain⟨d1,d2⟩:=h.dead d bG hl;simp only[bW.cg];rw[dy fun e=>hl r ai e.symm,dy fun e=>hl r ai e.symm,d2 s yV];exact⟨by grind,rfl⟩
 have mX : ∀i,i<aJ->(t.cg (g r) s).B (g i)<n:=fun i ad=>by
  simp only[bW.cg];split
  ·exact yV
  ·exact fP i ad
 have aia:(u.cg r s).mg aJ (n+m):=c1.Fi fun i ad=>by rw[bK.T i ad];exact h.inv.lb _ (h.lt i ad)
 refine⟨⟨⟨h.inv.ok.cg (h.lt r ai) (by omega) F4,fun i ad=> ?_,?_⟩,fun i ad aS=> ?_,h.le,h.lt,h.inj,fun d bG hl=> ?_⟩,mX,VA⟩
 ·by_cases bN : ∃q,q<aJ/\g q=i
  ·obtain⟨q,a5,rfl⟩:=bN;have:=aia q a5;rw[VA.T q a5] at this;exact this
  ·rw[(zr i ad (fun q a5 e=>bN ⟨q,a5,e⟩) _).1];exact h.inv.lb i ad
 ·rw[h.inv.ok.yv (h.lt r ai) (by omega)];have:=h.inv.se;grind
 ·by_cases bN : ∃q,q<aJ/\g q=i
  ·obtain⟨q,a5,rfl⟩:=bN;have:=mX q a5;omega
  ·have hl : ∀q,q<aJ->g q≠i:=fun q a5 e=>bN ⟨q,a5,e⟩;obtain⟨e1,aB⟩:=zr i ad hl (n+m);rw[e1];rw[aB] at aS;exact h.z i ad aS
 ·obtain⟨d1,d2⟩:=h.dead d bG hl;refine⟨by rw[(zr d bG hl 0).2];exact d1,fun j av=>by rw[(zr d bG hl j).1];exact d2 j av⟩
structure qL (m n:Nat) (a:Nat->Nat->Int) (b:Nat->Int) (aJ:Nat) (g:Nat->Nat) (hq:Nat->Nat->Rat) (df:Nat->Bool) (w:Rat) (u:bW):Prop where
 bN : ∃t,m6 m n (n+m) (de m n a b) t aJ g/\(∀i,i<aJ->t.B (g i)<n)/\qK aJ u (h8 g t)/\w=iw m (de m n a b) t
 lt:LT m n a b aJ (n+m) u
 ok:gP aJ aJ (n+m) hq u
 N1 : ∀i,i<aJ->df (u.B i)=true
theorem qL.sN {m n:Nat}{a:Nat->Nat->Int}{b:Nat->Int}{aJ:Nat}{g:Nat->Nat}{hq:Nat->Nat->Rat}{df:Nat->Bool}{w:Rat}{u:bW}(gw:Small m (n+m) (de m n a b))(h:qL m n a b aJ g hq df w u):pS aJ (n+m) w u:=by obtain⟨t,h1,o,U,rfl⟩:=h.bN;exact U.sN (h1.sN gw)
theorem qL.hY {m n:Nat}{a:Nat->Nat->Int}{b:Nat->Int}{aJ:Nat}{g:Nat->Nat}{hq:Nat->Nat->Rat}{df l7:Nat->Bool}{w:Rat}{u:bW}{obj:Nat->Nat->Rat}{K:Nat}(gw:Small m (n+m) (de m n a b))(h:qL m n a b aJ g hq l7 w u)(rh:∀j,j<n+m->df j=true->j<n)(aib:∀j,df j=true->l7 j=true){r s:Nat}(c1:oQ aJ (n+m) K obj (fun j=>df j=true) u r s):
 vq aJ (n+m) w u r s/\qL m n a b aJ g hq l7 (qB w u r s) (u.cg r s):=by
 obtain⟨t,h1,o,U,ak⟩:=h.bN;have yV:=rh s c1.bK c1.FO;obtain⟨g1,g2,g3⟩:=h1.step o U c1 yV;have ah:=c1.pos;have WG:t.T (g r) s≠0:=by rw[U.T r c1.ai] at ah;show t.T (g r) s≠0;have:0<t.T (g r) s:=ah;grind
 refine⟨ak▸U.yK (h1.yK gw c1.ai (by omega) WG),⟨t.cg (g r) s,g1,g2,g3,?_⟩,h.lt.cg c1.ai yV (by grind) (c1.Fi h.lt.lb),c1.ok h.ok,fun i ad=> ?_⟩
 ·rw[<- Mc h1.inv.ok h1.inv.se (h1.lt r c1.ai) (show s<n+m by omega) WG,ak];unfold qB;rw[U.T r c1.ai];rfl
 ·simp only[bW.cg]
  split
  ·exact aib s c1.FO
  ·exact h.N1 i ad
theorem TD {m n:Nat}{a:Nat->Nat->Int}{b:Nat->Int}{aJ:Nat}{g:Nat->Nat}(hm:m<=20)(aS:n<=40)(gw:Small m (n+m) (de m n a b)){hq:Nat->Nat->Rat}{df:Nat->Bool}{w:Rat}{u:bW}(h:qL m n a b aJ g hq df w u)(rh:∀j,j<n+m->df j=true->j<n)(inj:∀i,i<aJ-> ∀k,k<aJ->g i=g k->i=k)(la:aJ<=m)
 (I:Nat->Int) (an : ∀j,-100<=I j/\I j<=100) {c:Nat->Rat} {l:Nat} {V:Nat->Rat} (aic : ∀j,((I j:Int):Rat)=hF c l j) (s:qD m n a b c l df V) {eP:List (List bA)} (fW:l5 aJ (n+m) m g w u eP) :
 ∃ok bV mo kE l7,uJ (b7 w).cz (b7 w).b8 ((n+m:Nat):Int) (hL aJ (n+m) g) eP (cS aJ u) (aN (n+m) df) (aN (n+m) I)=some (ok,(b7 bV).cz,(b7 bV).b8,kE,cS aJ mo,aN (n+m) l7)/\l5 aJ (n+m) m g bV mo kE /\
  ((ok=true/\qL m n a b aJ g hq l7 bV mo/\(∀j,j<n+m->l7 j=true->j<n)/\ ∃Gn,qD m n a b c (l+1) l7 Gn)\/(ok=false/\LT m n a b aJ (n+m) mo/\ ∃q,q<n/\0<mo.cm aJ (hF c l) q/\ ∀i,i<aJ-> ¬0<mo.T i q)):=by
 have aid:(fun j=>((I j:Int):Rat))=hF c l:=funext aic
 obtain⟨ok,bV,mo,kE,l7,e,cP,Gf,eL⟩:=RY (eR:=aJ) (m:=aJ) (N:=n+m) (M:=m) (A:=hq) (h:=g) (by omega) (by omega) inj I (fun j _=>an j) df
  (fun w u=>qL m n a b aJ g hq df w u) (fun w u et=>⟨et.ok,et.lt.lb,et.sN gw⟩)
  (fun w u r q et c1=>et.hY gw rh (fun j av=>av) c1) h fW
 rw[aid] at eL;refine⟨ok,bV,mo,kE,l7,e,Gf,?_⟩;rcases eL with ⟨h1,o,U⟩|⟨h1,q,o,cl,U,ak⟩
 ·left;have MJ : ∀j,l7 j=true->df j=true:=fun j av=>(by rw[U,dM] at av;exact av.1);refine⟨h1,⟨cP.bN,cP.lt,cP.ok,fun i ad=> ?_⟩,fun j av uv=>rh j av (MJ j uv),qD.next cP.lt s (fun j av cl=>o j (by omega) cl) (fun j av=>by rw[U])⟩;rw[U];simp only;rw[cP.N1 i ad,cP.lt.xJ _ ad,decide_eq_false (by grind)];rfl
 ·right;exact⟨h1,cP.lt,q,rh q o cl,U,ak⟩
def iW (x:Rat):Option fy:=some (nj (eu x))
theorem afx {n d:Int}{x:Rat}(bG:0<d)(e:(d:Rat)*x=n):(n / (Int.gcd n d:Int),d / (Int.gcd n d:Int))=eu x:=by
 have rR:(d:Rat)≠0:=fun c=>by have:d=0:=Rat.intCast_inj.1 (by rw[c];rfl);omega
 have ab:x=Rat.divInt n d:=by rw[Rat.divInt_eq_div,<- e];grind
 have e1:(Rat.divInt n d).num=n / (Int.gcd n d:Int):=by rw[Rat.num_divInt,Int.sign_eq_one_of_pos bG,Int.one_mul,Int.gcd_comm]
 have aB:((Rat.divInt n d).den:Int)=d / (Int.gcd n d:Int):=by rw[Rat.den_divInt,dy (by omega),Int.gcd_comm];rw[Int.natCast_ediv,Int.natAbs_of_nonneg (by omega)]
 rw[ab];unfold eu;rw[e1,aB]
theorem Lz {n d:Int}{x:Rat}(bG:0<d)(e:(d:Rat)*x=n)(aS:(n.natAbs:Int)<B 50)(yS:d<B 50):tb (gy n) (L d)=some (iW x):=by have lA:=(h4 (k:=50) (by omega)).2 aS;have lB:=(h4 (k:=50) (by omega)).2 yS;rw[ac3 bG (by omega) (by omega),afx bG e];rfl
theorem HU {n:Int}(h:nU n):uV n=some (iW (n:Rat)):=by rw[ad8 h];unfold iW eu;rw[Rat.num_intCast,Rat.den_intCast];rfl
theorem LA {a b:Int}(bI:0<=a)(aU:0<=b)(h1:a<B 24)(o:b<B 24):a*b<B 48:=by
 have e:B 48=B 24*B 24:=by decide +kernel
 rw[e];exact Int.lt_of_le_of_lt (dK (Int.le_of_lt o) bI) (Int.mul_lt_mul_of_pos_right h1 (by omega))
theorem aeS {x y:Rat}(ab:eW x)(a1:eW y):Dd (iW x) (iW y)=some (iW (x*y)):=by
 have p:=ab.df;have q:=a1.df;have h1:=p.pR;have o:=p.po;have U:=q.pR;have ak:=q.po;have ax:=p.pos;have aW:=q.pos;have fP:=L9;have Vw:=pd 48;have jm:=LA (by omega) (by omega) p.num q.num;have ik:=LA (by omega) (by omega) p.den q.den;have r9:(((eu x).1*(eu y).1).natAbs:Int)<B 48:=by rw[Int.natAbs_mul];exact jm
 have bK:Dd (some (nj (eu x))) (some (nj (eu y)))=((qc (gy (eu x).1) (gy (eu y).1)).bind fun aL=>(st (L (eu x).2) (L (eu y).2)).bind fun bE=>(tb aL bE).bind fun bw=>some bw):=rfl;unfold iW;rw[bK,SW (by omega) (by omega),dA,Hw (hI _) (hI _) (by omega) (by omega),ek (by omega),ek (by omega),dA,Lz (x:=x*y) (Int.mul_pos ax aW) ?_ (by omega) (by omega)]
 ·rfl
 ·have:=uc x;have:=uc y;simp only[eu,dN];grind
theorem afy {x y:Rat}(ab:eW x)(a1:eW y):Dk (iW x) (iW y)=some (iW (x+y)):=by
 have p:=ab.df;have q:=a1.df;have h1:=p.pR;have o:=p.po;have U:=q.pR;have ak:=q.po;have ax:=p.pos;have aW:=q.pos;have fP:=L9;have Vw:=pd 48;obtain⟨bo,-,-⟩:=Hy p q;obtain⟨d1,-,-⟩:=Hy q p;have ik:=LA (by omega) (by omega) p.den q.den;have bK:Dk (some (nj (eu x))) (some (nj (eu y)))=((vT (some (nj (eu x))) (L (eu y).2)).bind fun aR=>(vT (some (nj (eu y))) (L (eu x).2)).bind fun bE=>(vV aR bE).bind fun bw=>(st (L (eu x).2) (L (eu y).2)).bind fun bH=>(tb bw bH).bind fun cT=>some cT):=rfl;unfold iW;rw[bK,SX (by omega) (by omega) (by omega),dA,SX (by omega) (by omega) (by omega),dA,Tv (by omega) (by omega),dA,Hw (hI _) (hI _) (by omega) (by omega),ek (by omega),ek (by omega),dA,Lz (x:=x+y) (Int.mul_pos ax aW) ?_ (by omega) (by omega)]
 ·rfl
 ·have:=uc x;have:=uc y;simp only[eu,dN,Rat.intCast_add];grind
theorem Ik {x:Rat}(h:eW x):wb (iW x)=some (iW x):=by have:=h.df;unfold iW;rw[show nj (eu x)=nj ((eu x).1,(eu x).2) from rfl,afs (Int.le_of_lt this.pos),dw ⟨this.num,this.den⟩];rfl
def nV (n:Nat)(c:Nat->Int)(l j:Nat):Int:=match l with
 | 0=>if j<n then c j else 0
 | l+1=>if j=l then -1 else 0
def gV (n:Nat)(c:Nat->Int)(j:Nat):Rat:=((nV n c 0 j:Int):Rat)
theorem TE (n:Nat)(c:Nat->Int)(l j:Nat):((nV n c l j:Int):Rat)=hF (gV n c) l j:=by
 cases l with
 | zero=>rfl
 | succ l=>simp only[nV,hF];split<;>rfl
theorem Uc {n:Nat}{c:Nat->Int}(h:∀j,j<n-> -100<=c j/\c j<=100)(l j:Nat): -100<=nV n c l j/\nV n c l j<=100:=by
 cases l with
 | zero =>
  simp only[nV];split
  ·exact h j ‹_›
  ·omega
 | succ l=>simp only[nV];split<;>omega
def MK (m n:Nat)(a:Nat->Nat->Int)(b c:Nat->Int)(aJ:Nat)(g:Nat->Nat)(hq:Nat->Nat->Rat)(l:Nat)(s:Bool×ar×ar×List (List bA)×ar×List Bool):Prop :=
 ∃w u eP df V I,s=((b7 w).cz,(b7 w).b8,aN (n+m) I,eP,cS aJ u,aN (n+m) df)/\qL m n a b aJ g hq df w u/\(∀j,j<n+m->df j=true->j<n)/\l5 aJ (n+m) m g w u eP/\qD m n a b (gV n c) l df V
theorem acq {m n:Nat}{a:Nat->Nat->Int}{b c:Nat->Int}{aJ:Nat}{g:Nat->Nat}{hq:Nat->Nat->Rat}(hm:m<=20)(aS:n<=40)(gw:Small m (n+m) (de m n a b))(a3:∀j,j<n-> -100<=c j/\c j<=100)(x0:Int)(fv eS k4:ar)(k:Nat)(aY:k<n)(s:Bool×ar×ar×List (List bA)×ar×List Bool)(bK:MK m n a b c aJ g hq (k+1) s):
 ∃b4,xj (n:Int) x0 fv eS k4 ((n+m:Nat):Int) (hL aJ (n+m) g) (k:Int) s.1 s.2.1 s.2.2.1 s.2.2.2.1 s.2.2.2.2.1 s.2.2.2.2.2=some (.inl (((k+1:Nat):Int),b4))/\MK m n a b c aJ g hq (k+2) b4:=by
 obtain⟨w,u,eP,df,V,I,rfl,et,rh,fW,s7⟩:=bK;obtain⟨t,bN,-⟩:=et.bN;obtain⟨ok,bV,mo,kE,l7,e,Gf,eL⟩:=TD hm aS gw et rh bN.inj bN.le (nV n c (k+1)) (Uc a3 (k+1)) (TE n c (k+1)) s7 fW;rcases eL with ⟨rfl,Cr,MJ,Gn,aie⟩|⟨-,rk,q,a5,dp,hl⟩
 ·refine⟨((b7 bV).cz,(b7 bV).b8,aN (n+m) (nV n c (k+1)),kE,cS aJ mo,aN (n+m) l7),?_,bV,mo,kE,l7,Gn,_,rfl,Cr,MJ,Gf,aie⟩;have zq:(List.replicate (aN (n+m) I).length 0:ar).set (0+((k:Int)).toNat) (-1)=aN (n+m) (nV n c (k+1)):=(by rw[cj,rE,dx,dG,kK];exact eF fun j _=>rfl);unfold xj;simp only;rw[zq];refine dv (by omega) (bx (by rw[cj];omega) (bx (by rw[List.length_replicate,cj,dx];omega) (aD e ?_)));rw[fl (by omega)]
 ·obtain⟨i,ad,ah⟩:=rk.SQ dp;exact(hl i ad ah).elim
theorem ael {m n:Nat}{a:Nat->Nat->Int}{b c:Nat->Int}{aJ:Nat}{g:Nat->Nat}{hq:Nat->Nat->Rat}(hm:m<=20)(aS:n<=40)(gw:Small m (n+m) (de m n a b))(a3:∀j,j<n-> -100<=c j/\c j<=100)(x0:Int)(fv eS k4:ar){w:Rat}{u:bW}{eP:List (List bA)}{df:Nat->Bool}{V:Nat->Rat}{I:Nat->Int}(et:qL m n a b aJ g hq df w u)(rh:∀j,j<n+m->df j=true->j<n)(fW:l5 aJ (n+m) m g w u eP)(s7:qD m n a b (gV n c) 1 df V):
 ∃jz jV jZ uC,Kq (n:Int) x0 fv eS k4 ((n+m:Nat):Int) (hL aJ (n+m) g) 0 (b7 w).cz (b7 w).b8 (aN (n+m) I) eP (cS aJ u) (aN (n+m) df)=some ((b7 jz).cz,(b7 jz).b8,jZ,cS aJ jV,aN (n+m) uC)/\qL m n a b aJ g hq uC jz jV/\l5 aJ (n+m) m g jz jV jZ/\ ∃V,qD m n a b (gV n c) (n+1) uC V:=by
 unfold Kq
 obtain⟨r,e,ai⟩:=rz (f:=fun w:Int×Bool×ar×ar×(List (List bA))×ar×(List Bool)=>xj (n:Int) x0 fv eS k4 ((n+m:Nat):Int) (hL aJ (n+m) g) w.1 w.2.1 w.2.2.1 w.2.2.2.1 w.2.2.2.2.1 w.2.2.2.2.2.1 w.2.2.2.2.2.2)
  (fun (k:Nat) (s:Bool×ar×ar×List (List bA)×ar×List Bool)=>((k:Int),s)) n (fun k s=>MK m n a b c aJ g hq (k+1) s)
  (fun r=> ∃jz jV jZ uC,r=((b7 jz).cz,(b7 jz).b8,jZ,cS aJ jV,aN (n+m) uC)/\qL m n a b aJ g hq uC jz jV/\l5 aJ (n+m) m g jz jV jZ/\ ∃V,qD m n a b (gV n c) (n+1) uC V)
  (fun k aY s bK=> .inl (acq hm aS gw a3 x0 fv eS k4 k aY s bK))
  (fun s bK=>by obtain⟨w,u,eP,df,V,I,rfl,et,rh,fW,s7⟩:=bK;exact⟨_,by unfold xj;exact en (by simp) rfl,w,u,eP,df,rfl,et,fW,V,s7⟩)
  ((b7 w).cz,(b7 w).b8,aN (n+m) I,eP,cS aJ u,aN (n+m) df) ⟨w,u,eP,df,V,I,rfl,et,rh,fW,s7⟩
 obtain⟨jz,jV,jZ,uC,rfl,h1,o,U⟩:=ai;exact⟨jz,jV,jZ,uC,e,h1,o,U⟩
theorem afz:B 24<=B 50:=by decide +kernel
theorem afA:2<=eT:=by decide +kernel
theorem VB:40*(eT*100)<=21*100*(eT*eT):=by have:=Nat.mul_le_mul_left eT afA;omega
theorem aem {n:Nat}(x0 x1:Int)(fv eS k4:ar)(nL:Bool)(w5:ar)(CM:Int)(q1:List bS)(aV:List (List bA))(bQ:ar)(cr:List Bool)(aS:n<=40):
 Kr (n:Int) x0 x1 fv eS k4 nL w5 CM q1 aV bQ cr 0 (List.replicate n (none:Option fy))=some (aN n fun _=>iW 0):=by
 unfold Kr
 obtain⟨s,e,-⟩:=ib (f:=fun w:Int×(List (Option fy))=>Aw (n:Int) x0 x1 fv eS k4 nL w5 CM q1 aV bQ cr w.1 w.2)
  (fun (k:Nat) (_:Unit)=>((k:Int),aN n fun j=>if j<k then iW 0 else none)) n (fun _ _=>True) (fun _=>aN n fun _=>iW 0)
  (fun k aY _ _=>by
    refine⟨(),?_,trivial⟩;unfold Aw;refine dv (by simp only;omega) (aD (x:=iW 0) (HU (n:=0) (by rw[k6];omega)) (bx (by simp only;rw[cj];omega) (bx (by simp only;rw[cj,dx];omega) ?_)));simp only;rw[fl (by omega),dx,dG,kK];congr 3;refine eF fun j _=> ?_;by_cases bo:j=k
    ·subst bo;rw[dw rfl,dw (by omega)]
    ·rw[dy bo]
     by_cases cq:j<k
     ·rw[dw cq,dw (by omega)]
     ·rw[dy cq,dy (by omega)])
  (fun _ _=>by unfold Aw;refine en (by simp) ?_;simp only;congr 2;exact eF fun j av=>by rw[dw av]) () trivial
 have e0:(aN n fun j=>if j<0 then iW 0 else none)=List.replicate n none:=by rw[rE];exact eF fun j _=>by rw[dy (by omega)]
 rw[<- e0];exact e
theorem LB {t:bW}{N i j:Nat}:t.g9 (i+1) N j=t.g9 i N j+if t.B i=j then t.T i N else 0:=rfl
theorem Md {m n:Nat}{a:Nat->Nat->Int}{b:Nat->Int}{aJ N:Nat}{u:bW}(h:LT m n a b aJ N u){i k:Nat}(ad:i<aJ)(aY:k<aJ)(e:u.B i=u.B k):i=k:=by
 by_cases c:i=k
 ·exact c
 ·have h1:=h.unit i ad k aY;rw[<- e,h.unit i ad i ad,dw rfl,dy c] at h1;grind
theorem adj {m n aJ N:Nat}{a:Nat->Nat->Int}{b:Nat->Int}{g:Nat->Nat}{w:Rat}{u:bW}(x0 x1:Int)(fv eS k4:ar)(nL:Bool)(cr:List Bool)(hm:aJ<=20)(fQ:N<=1000)(aX:LT m n a b aJ N u)(f:pS aJ N w u){M:Nat}{eP:List (List bA)}(fW:l5 aJ N M g w u eP)(aS:n<=40):
 Ks (aJ:Int) x0 x1 fv eS k4 nL (b7 w).b8 (N:Int) (cS aJ u) (hL aJ N g) eP cr 0 (aN n fun _=>iW 0)=some (aN n fun j=>iW (u.g9 aJ N j)):=by
 have hw:=Mb f.hw;have aif:0<w.num:=by have:(0:Rat)<((w.num:Int):Rat):=(by rw[hw.1];exact f.pos);exact Rat.intCast_lt_intCast.1 (by rw[show ((0:Int):Rat)=0 from rfl];exact this)
 have agS:(b7 w).b8=L w.num:=by show L (w.num.natAbs:Int)=_;rw[Int.natAbs_of_nonneg (by omega)]
 have k2:=qv wC;have lX:=qv Fm;have akI:=afz;rw[agS];unfold Ks
 obtain⟨s,e,-⟩:=ib (f:=fun v:Int×(List (Option fy))=>Ax (aJ:Int) x0 x1 fv eS k4 nL (L w.num) (N:Int) (cS aJ u) (hL aJ N g) eP cr v.1 v.2)
  (fun (k:Nat) (_:Unit)=>((k:Int),aN n fun j=>iW (u.g9 k N j))) aJ (fun _ _=>True) (fun _=>aN n fun j=>iW (u.g9 aJ N j))
  (fun k aY _ _=>by
    refine⟨(),?_,trivial⟩;have fP:=aX.ju k aY;have h2:=Mb (f.h2 k aY N (dE _));have cC:u.g9 k N (u.B k)=0:=bW.KL fun i ad e=>(by have:=Md aX (by omega) aY e;omega);have yI:tb (b7 (u.T k N*w)) (L w.num)=some (iW (u.T k N)):=(by refine Lz aif ?_ (by omega) (by omega);rw[hw.1,h2.1];grind);unfold Ax;simp only;refine dv (by omega) (bx (by unfold cS;rw[cj];omega) (aD (x:=((u.B k:Nat):Int)) (by rw[dx];exact hi aY) (bx (by unfold hL;rw[cj];omega) (aD (x:=some (g k,N+1)) (by rw[dx];exact hi aY) (aD (x:=(g k,N+1)) rfl (aD (fW.row k aY) (bx (by simp only;omega) (aD (x:=b7 (u.T k N*w)) (by rw[dx];exact hi (by omega)) (aD yI (bx (by rw[cj];omega) (bx (by rw[cj,dx];omega) ?_)))))))))));rw[fl (by omega),dx,dG,kK];congr 3;refine eF fun j _=> ?_;rw[LB];by_cases bo:j=u.B k
    ·subst bo;rw[dw rfl,dw rfl,cC];congr 1;grind
    ·rw[dy bo,dy (fun e=>bo e.symm)];congr 1;grind)
  (fun _ _=>by unfold Ax;exact en (by simp) rfl) () trivial
 exact e
theorem Ud {m n:Nat}{a:Nat->Nat->Int}{b:Nat->Int}{aJ N:Nat}{w:Rat}{u:bW}{K:Nat}(aX:LT m n a b aJ N u)(f:∀i,i<aJ->dV K (u.T i N*w))(j:Nat):dV K (u.g9 aJ N j*w):=by
 by_cases c : ∃i,i<aJ/\u.B i=j
 ·obtain⟨i,ad,rfl⟩:=c;have:u.g9 aJ N (u.B i)=u.T i N:=(by unfold bW.g9;rw[k5 ad (f:=fun k=>if u.B k=u.B i then u.T k N else 0) (fun k aY c6=>dy fun e=>c6 (Md aX aY ad e)),dw rfl]);rw[this];exact f i ad
 ·rw[bW.KL fun i ad e=>c ⟨i,ad,e⟩];exact⟨0,by rw[Rat.zero_mul];rfl,by simp⟩
theorem afB {m n:Nat}{a:Nat->Nat->Int}{b:Nat->Int}{aJ N:Nat}{w:Rat}{u:bW}(aX:LT m n a b aJ N u)(f:pS aJ N w u)(j:Nat):dV eT (u.g9 aJ N j*w):=Ud aX (fun i ad=>f.h2 i ad N (dE _)) j
theorem qL.VC {m n:Nat}{a:Nat->Nat->Int}{b:Nat->Int}{aJ:Nat}{g:Nat->Nat}{w:Rat}{u:bW}{hq:Nat->Nat->Rat}{df:Nat->Bool}(gw:Small m (n+m) (de m n a b))(h:qL m n a b aJ g hq df w u):dV (n2 100 m) w/\ ∀i,i<aJ->dV (n2 100 m) (u.T i (n+m)*w):=by
 obtain⟨t,bN,-,bK,rfl⟩:=h.bN;have s0:dV (n2 100 m) (1*t.D m (de m n a b)):=by rw[Rat.one_mul];exact wk fun i ad c a3=>gw.qO c a3 _ (Nat.le_of_lt (bN.inv.ok.ju i ad))
 refine⟨by have:=Ij s0;rw[Rat.one_mul] at this;exact this,fun i ad=> ?_⟩;rw[bK.T i ad];refine Ij ?_;show dV (n2 100 m) (t.T (g i) (n+m)*_);rw[<- bN.inv.ok.w1 (bN.lt i ad) (dE _)];refine wk fun k aY c a3=> ?_;simp only[hk];split
 ·exact gw.qO c a3 _ (dE _)
 ·exact gw.qO c a3 _ (Nat.le_of_lt (bN.inv.ok.ju k aY))
theorem Ue {n:Nat}{w:Rat}{x:Nat->Rat}{c:Nat->Int}(hw:dV (21*100*eT) w)(ah:0<w)(ab:∀j,dV eT (x j*w))(a3:∀j,j<n-> -100<=c j/\c j<=100){k:Nat}(aY:k<=n)(aS:n<=40):eW (ct k fun j=>x j*(c j:Rat)):=by have h1:dV (k*(eT*100)) (ct k fun j=>x j*w*(c j:Rat)):=dV.sum fun j av=>(ab j).mul ⟨c j,rfl,by have:=a3 j (by omega);omega⟩;have o:k*(eT*100)<=40*(eT*100):=dL _ (by omega);refine rL (K:=21*100*(eT*eT)) (hw.mono wC) (h1.mono (Nat.le_trans o VB)) (by grind) ?_ (qv (dE _));rw[<- jE];exact f5 fun j _=>by grind
theorem U9 {w x:Rat}(hw:dV (21*100*eT) w)(ah:0<w)(ab:dV eT (x*w)):eW x :=
 rL (K:=21*100*(eT*eT)) (hw.mono wC) (ab.mono Fm) (by grind) (by grind) (qv (dE _))
theorem afC {w x:Rat}{c:Int}(hw:dV (21*100*eT) w)(ah:0<w)(ab:dV eT (x*w))(a3:-100<=c/\c<=100):eW (x*(c:Rat)):=by have:=ab.mul (show dV 100 (c:Rat) from ⟨c,rfl,by omega⟩);exact rL (K:=21*100*(eT*eT)) (hw.mono wC) (this.mono (by have:=VB;omega)) (by grind) (by grind) (qv (dE _))
theorem aeT {n:Nat}{w:Rat}(x0 x1:Int)(fv eS k4:ar){x:Nat->Rat}{c:Nat->Int}(a1:k4=aN n c)(hw:dV (21*100*eT) w)(ah:0<w)(ab:∀j,dV eT (x j*w))(a3:∀j,j<n-> -100<=c j/\c j<=100)(aS:n<=40):
 Kt (n:Int) x0 x1 fv eS k4 (aN n fun j=>iW (x j)) (iW 0) 0=some (iW (ct n fun j=>x j*(c j:Rat))):=by
 subst a1;unfold Kt
 obtain⟨s,e,-⟩:=ib (f:=fun v:(Option fy)×Int=>Ay (n:Int) x0 x1 fv eS (aN n c) (aN n fun j=>iW (x j)) v.1 v.2)
  (fun (k:Nat) (_:Unit)=>(iW (ct k fun j=>x j*(c j:Rat)),(k:Int))) n (fun _ _=>True) (fun _=>iW (ct n fun j=>x j*(c j:Rat)))
  (fun k aY _ _=>by refine⟨(),?_,trivial⟩;have aih:=a3 k aY;have ad:nU (c k):=(by rw[k6];omega);unfold Ay;simp only;refine dv (by omega) (bx (by rw[cj];omega) (aD (x:=iW (x k)) (by rw[dx];exact hi aY) (bx (by rw[cj];omega) (aD (x:=c k) (by rw[dx];exact hi aY) (aD (HU ad) (aD (aeS (U9 hw ah (ab k)) (LN ad)) (aD (afy (Ue hw ah ab a3 (Nat.le_of_lt aY) aS) (afC hw ah (ab k) aih)) ?_)))))));rw[fl (by omega)];rfl)
  (fun _ _=>by unfold Ay;exact en (by simp) rfl) () trivial
 exact e
theorem afD {m n:Nat}{a:Nat->Nat->Int}{b:Nat->Int}{aJ N:Nat}{u:bW}(h:LT m n a b aJ N u)(aS:n<=N):gP aJ aJ N u.T u where
 sW:=fun c a3 j _=>by rw[k5 a3 (f:=fun i=>u.T c (u.B i)*u.T i j) (fun i ad c6=>by rw[h.unit c a3 i ad,dy (fun e=>c6 e.symm)];grind),h.unit c a3 c a3,dw rfl];grind
 row:=⟨fun i c=>if i=c then 1 else 0,fun i ad j _=>by rw[k5 ad (f:=fun c=>(if i=c then (1:Rat) else 0)*u.T c j) (fun c _ c6=>by rw[dy (Ne.symm c6)];grind),dw rfl];grind⟩
 unit:=h.unit
 ju:=fun i ad=>Nat.lt_of_lt_of_le (h.ju i ad) aS
theorem aen {p:iN}{m n:Nat}{a:Nat->Nat->Int}{b:Nat->Int}(h:ly p m n a b){c:Nat->Int}(nM:p.hf=aN n c)(a3:∀j,j<n-> -100<=c j/\c j<=100):
 ∃r,tU p.gl p.fj p.dY p.ea p.hf=some r/\((¬oT m n a b/\r=(2,[],none))\/(oT m n a b/\ ¬Bounded m n a b (gV n c)/\r=(3,[],none)) \/
  (∃x w,ue m n a b (gV n c) x/\(0<w/\dV (n2 100 m) w/\ ∀j,dV (n2 100 m) (x j*w))/\(∀j,eW (x j))/\eW (val n (gV n c) x)/\r=(0,aN n (fun j=>iW (x j)),iW (val n (gV n c) x)))):=by
 have hm:=h.hm;have aS:=h.aS;have gw:=Bt h;obtain⟨r,e,ai⟩:=TC h;unfold tU;rcases ai with ⟨bK,t,aJ,g,eP,rfl,bN,fP,fW⟩|⟨bK,rfl⟩
 ·have aX:=bN.UP fP
  have et:qL m n a b aJ g (h8 g t).T (fun j=>decide (j<n)) (iw m (de m n a b) t) (h8 g t) :=
   ⟨⟨t,bN,fP,⟨fun _ _ _=>rfl,fun _ _=>rfl⟩,rfl⟩,aX,afD aX (by omega),fun i ad=>decide_eq_true (fP i ad)⟩
  obtain⟨ok,jz,jV,jZ,uC,e1,aii,eL⟩:=TD hm aS gw et (fun j _ av=>of_decide_eq_true av) bN.inj bN.le (nV n c 0) (Uc a3 0) (TE n c 0) (qD.zero (c:=gV n c) (fun j av=>decide_eq_true av) (fun _=>0)) fW
  have zq:p.hf++(List.replicate (n+m) 0:ar).drop p.hf.length=aN (n+m) (nV n c 0):=by
   rw[nM,cj];apply List.ext_getElem?;intro i;by_cases ci:i<n
   ·rw[List.getElem?_append_left (by rw[cj];exact ci),f8 ci,f8 (by omega)];simp only[nV];rw[dw ci]
   ·rw[List.getElem?_append_right (by rw[cj];omega),cj,List.getElem?_drop,show n+(i-n)=i by omega]
    by_cases NI:i<n+m
    ·rw[List.getElem?_replicate,dw NI,f8 NI];simp only[nV];rw[dy ci]
    ·rw[List.getElem?_replicate,dy NI,List.getElem?_eq_none_iff.2 (by rw[cj];omega)]
  have WH:p.hf.length=n:=(by rw[nM,cj]);rcases eL with ⟨rfl,rf,agT,akU,Ge⟩|⟨rfl,rk,q,a5,dp,hl⟩
  ·obtain⟨sd,ma,bZ,akJ,aB,uz,aij,akV,aik⟩:=ael (I:=nV n c 0) hm aS gw a3 p.gl p.dY p.ea p.hf rf agT aii Ge
   have f2:=uz.sN gw;have MI:=aik.nZ uz.lt uz.N1;have ab:=afB uz.lt f2;have bg:ct n (fun j=>ma.g9 aJ (n+m) j*(c j:Rat))=val n (gV n c) (ma.g9 aJ (n+m)):=f5 fun j av=>(by have:gV n c j=(c j:Rat):=(by unfold gV nV;simp only;rw[dw av]);rw[this];exact Rat.mul_comm _ _);refine⟨_,aD e ?_,.inr (.inr ⟨ma.g9 aJ (n+m),sd,MI,⟨f2.pos,(uz.VC gw).1,fun j=>Ud uz.lt (uz.VC gw).2 j⟩,fun j=>U9 f2.hw f2.pos (ab j),?_,rfl⟩)⟩
   ·simp only
    refine bx (by omega) (bx (by rw[WH,dx];omega) (aD (by rw[dx,zq];exact e1) (fr rfl ?_)));rw[h.gM,dx,dx,zq];refine aD aB (bx (by omega) (aD (aem _ _ _ _ _ _ _ _ _ _ _ _ aS) (aD (x:=aN n fun j=>iW (ma.g9 aJ (n+m) j)) ?_ (aD (x:=iW 0) (HU (n:=0) (by rw[k6];omega)) (aD (x:=iW (val n (gV n c) (ma.g9 aJ (n+m)))) ?_ rfl)))))
    ·simp only;rw[show ((cS aJ ma).length:Nat)=aJ from cj ..];exact adj _ _ _ _ _ _ _ (by have:=bN.le;omega) (by omega) uz.lt f2 aij aS
    ·rw[cj,<- bg];exact aeT _ _ _ _ _ nM f2.hw f2.pos ab a3 aS
   ·rw[<- bg];exact Ue f2.hw f2.pos ab a3 (dE _) aS
  ·refine⟨_,aD e ?_,.inr (.inl ⟨bK,rk.IW _ a5 dp hl,rfl⟩)⟩;simp only;exact bx (by omega) (bx (by rw[WH,dx];omega) (aD (by rw[dx,zq];exact e1) (gn rfl rfl)))
 ·exact⟨_,aD e rfl,.inl ⟨bK,rfl⟩⟩
def m1 (n N j:Nat):Nat:=if j=n then N else j
theorem yp {n N j:Nat}(h:j<n):m1 n N j=j:=by unfold m1;rw[dy (by omega)]
theorem B5 {n N:Nat}:m1 n N n=N:=by unfold m1;rw[dw rfl]
theorem BW {n N j:Nat}(aS:n<=N)(h:j<=n):m1 n N j<=N:=by unfold m1;split<;>omega
def pp (n N:Nat)(g:Nat->Nat)(t:bW):bW:=⟨fun i j=>t.T (g i) (m1 n N j),fun i=>t.B (g i)⟩
structure pT (m n:Nat) (a:Nat->Nat->Int) (b:Nat->Int) (aJ:Nat) (g:Nat->Nat) (hq:Nat->Nat->Rat) (u:bW):Prop where
 ok:gP aJ aJ n hq u
 bN : ∃t,m6 m n (n+m) (de m n a b) t aJ g/\(∀i,i<aJ->t.B (g i)<n)/\ ∀i,i<aJ->(∀j,j<=n->u.T i j=t.T (g i) (m1 n (n+m) j))/\u.B i=t.B (g i)
theorem Uf {m n:Nat}{a:Nat->Nat->Int}{b:Nat->Int}{aJ:Nat}{g:Nat->Nat}{u t:bW}(h1:m6 m n (n+m) (de m n a b) t aJ g)(o:∀i,i<aJ->t.B (g i)<n)(U:∀i,i<aJ->(∀j,j<=n->u.T i j=t.T (g i) (m1 n (n+m) j))/\u.B i=t.B (g i)):LT m n a b aJ n u:=by
 have L:=h1.UP o;refine⟨fun x=> ?_,fun i ad k aY=> ?_,fun i ad=>by rw[(U i ad).2];exact o i ad,fun i ad=> ?_,dE _⟩
 ·rw[L.eqv x]
  constructor<;>intro ab i ad
  ·have:=ab i ad;rw[(U i ad).1 n (dE _),B5,f5 (g:=fun j=>(h8 g t).T i j*x j) fun j av=>by rw[(U i ad).1 j (by omega),yp av];rfl];exact this
  ·have:=ab i ad;rw[(U i ad).1 n (dE _),B5,f5 (g:=fun j=>(h8 g t).T i j*x j) fun j av=>by rw[(U i ad).1 j (by omega),yp av];rfl] at this;exact this
 ·have aU:t.B (g k)<n:=o k aY;rw[(U k aY).2,(U i ad).1 _ (by omega),yp aU];exact L.unit i ad k aY
 ·show 0<=u.T i n;rw[(U i ad).1 n (dE _),B5];exact L.lb i ad
theorem pT.lt {m n:Nat}{a:Nat->Nat->Int}{b:Nat->Int}{aJ:Nat}{g:Nat->Nat}{hq:Nat->Nat->Rat}{u:bW}(h:pT m n a b aJ g hq u):LT m n a b aJ n u:=by obtain⟨t,h1,o,U⟩:=h.bN;exact Uf h1 o U
theorem aeo {m aJ:Nat}{g:Nat->Nat}(lt:∀i,i<aJ->g i<m)(inj:∀i,i<aJ-> ∀k,k<aJ->g i=g k->i=k){F:Nat->Rat}(cC:∀d,d<m->(∀i,i<aJ->g i≠d)->F d=0):ct m F=ct aJ (fun i=>F (g i)):=by
 have e : ∀i,i<m->F i=ct aJ (fun q=>if g q=i then F (g q) else 0):=fun i ad=>by
  by_cases bN : ∃q,q<aJ/\g q=i
  ·obtain⟨q,a5,rfl⟩:=bN;rw[k5 a5 (f:=fun p=>if g p=g q then F (g p) else 0) fun p ah c6=>dy fun e=>c6 (inj p ah q a5 e),dw rfl]
  ·rw[cC i ad fun q a5 e=>bN ⟨q,a5,e⟩];exact(nN fun q a5=>dy fun e=>bN ⟨q,a5,e⟩).symm
 rw[f5 e,qU];exact f5 fun q a5=>by rw[k5 (lt q a5) (f:=fun i=>if g q=i then F (g q) else 0) fun i _ c6=>dy fun e=>c6 e.symm,dw rfl]
theorem S3 {m n:Nat}{a:Nat->Nat->Int}{b:Nat->Int}{aJ:Nat}{g:Nat->Nat}{t u:bW}(h1:m6 m n (n+m) (de m n a b) t aJ g)(U:∀i,i<aJ->(∀j,j<=n->u.T i j=t.T (g i) (m1 n (n+m) j))/\u.B i=t.B (g i)){I:Nat->Rat}(an:∀j,n<=j->I j=0){j:Nat}(av:j<=n):u.cm aJ I j=t.cm m I (m1 n (n+m) j):=by
 unfold bW.cm
 have e0:I (m1 n (n+m) j)=I j:=by
  unfold m1;by_cases c:j=n
  ·rw[dw c,an _ (by omega),an _ (by omega)]
  ·rw[dy c]
 rw[e0,aeo h1.lt h1.inj (F:=fun i=>I (t.B i)*t.T i (m1 n (n+m) j)) fun d bG hl=>by rw[an _ (h1.dead d bG hl).1];grind];congr 1;exact f5 fun i ad=>by rw[(U i ad).1 j av,(U i ad).2]
theorem adk {m n:Nat}{a:Nat->Nat->Int}{b:Nat->Int}{aJ:Nat}{g:Nat->Nat}{hq:Nat->Nat->Rat}{u:bW}{K:Nat}{obj:Nat->Nat->Rat}{bN:Nat->Prop}(h:pT m n a b aJ g hq u){r s:Nat}(c1:oQ aJ n K obj bN u r s):pT m n a b aJ g hq (u.cg r s):=by
 obtain⟨t,h1,o,U⟩:=h.bN;have bK:=c1.bK;have h3 : ∀i,i<aJ-> ∀j,j<n->u.T i j=(h8 g t).T i j:=fun i ad j av=>by rw[(U i ad).1 j (by omega),yp av];rfl
 have Jl : ∀i,i<aJ->u.T i n=(h8 g t).T i (n+m):=fun i ad=>by rw[(U i ad).1 n (dE _),B5];rfl
 have s4 : ∀i,i<aJ->u.B i=(h8 g t).B i:=fun i ad=>(U i ad).2;have W1 : ∀j,j<n->(u.qM aJ K obj j↔(h8 g t).qM aJ K obj j):=fun j av=>by have e : ∀l,u.cm aJ (obj l) j=(h8 g t).cm aJ (obj l) j:=fun l=>(by unfold bW.cm;congr 1;exact f5 fun i ad=>by rw[h3 i ad j av,s4 i ad]);exact⟨fun x=>iA.congr x fun l _=>e l,fun x=>iA.congr x fun l _=>(e l).symm⟩
 have ail:oQ aJ (n+m) K obj (fun j=>j<n/\bN j) (h8 g t) r s:=by
  refine⟨by omega,⟨bK,c1.FO⟩,(W1 s bK).1 c1.gs,fun j av bI dp=>c1.least j av bI.2 ((W1 j bI.1).2 dp),c1.ai,?_,fun i ad ah=> ?_,fun i ad ah e=> ?_⟩
  ·rw[<- h3 r c1.ai s bK];exact c1.pos
  ·rw[<- Jl r c1.ai,<- Jl i ad,<- h3 i ad s bK,<- h3 r c1.ai s bK];exact c1.ratio i ad (by rw[h3 i ad s bK];exact ah)
  ·rw[<- Jl r c1.ai,<- Jl i ad,<- h3 i ad s bK,<- h3 r c1.ai s bK] at e;rw[<- s4 r c1.ai,<- s4 i ad];exact c1.tie i ad (by rw[h3 i ad s bK];exact ah) e
 obtain⟨g1,g2,g3⟩:=h1.step o ⟨fun _ _ _=>rfl,fun _ _=>rfl⟩ ail bK;refine⟨c1.ok h.ok,t.cg (g r) s,g1,g2,fun i ad=>⟨fun j av=> ?_,?_⟩⟩
 ·rw[show (t.cg (g r) s).T (g i) (m1 n (n+m) j)=(h8 g (t.cg (g r) s)).T i (m1 n (n+m) j) from rfl,<- g3.T i ad];have w0 : ∀q,q<aJ->u.T q j=(h8 g t).T q (m1 n (n+m) j):=fun q a5=>(U q a5).1 j av;simp only[bW.cg];rw[w0 i ad,w0 r c1.ai,h3 r c1.ai s bK,h3 i ad s bK]
 ·rw[show (t.cg (g r) s).B (g i)=(h8 g (t.cg (g r) s)).B i from rfl,<- g3.B i ad];simp only[bW.cg];rw[s4 i ad]
theorem pT.fits {m n:Nat}{a:Nat->Nat->Int}{b:Nat->Int}{aJ:Nat}{g:Nat->Nat}{hq:Nat->Nat->Rat}{u:bW}(gw:Small m (n+m) (de m n a b))(h:pT m n a b aJ g hq u):
 (∀i,i<aJ-> ∀j,j<=n->eW (u.T i j))/\(∀i,i<aJ-> ∀j,j<=n->0<u.T i j->eW (u.T i n / u.T i j)):=by
 obtain⟨t,h1,o,U⟩:=h.bN;refine⟨fun i ad j av=> ?_,fun i ad j av ah=> ?_⟩
 ·rw[(U i ad).1 j av];exact h1.inv.Iz gw (h1.lt i ad) (BW (by omega) av)
 ·rw[(U i ad).1 j av] at ah ⊢;rw[(U i ad).1 n (dE _),B5];exact h1.inv.Vy gw (h1.lt i ad) (BW (by omega) av) ah
theorem pT.wD {m n:Nat}{a:Nat->Nat->Int}{b:Nat->Int}{aJ:Nat}{g:Nat->Nat}{hq:Nat->Nat->Rat}{u:bW}(gw:Small m (n+m) (de m n a b))(h:pT m n a b aJ g hq u){I:Nat->Rat}(an:∀j,n<=j->I j=0)(hw:∀j,dV 100 (I j)){j:Nat}(av:j<=n):eW (u.cm aJ I j):=by obtain⟨t,h1,o,U⟩:=h.bN;rw[S3 h1 U an av];exact h1.inv.wD gw (fun j _=>hw j) (BW (by omega) av)
theorem pT.Fo {m n:Nat}{a:Nat->Nat->Int}{b:Nat->Int}{aJ:Nat}{g:Nat->Nat}{hq:Nat->Nat->Rat}{u:bW}(gw:Small m (n+m) (de m n a b))(h:pT m n a b aJ g hq u){I:Nat->Rat}(an:∀j,n<=j->I j=0)(hw:∀j,dV 100 (I j)){r k:Nat}(ai:r<aJ)(aY:k<n)(ah:u.T r k≠0):Iy aJ n u (u.cm aJ I) r k:=by
 obtain⟨t,h1,o,U⟩:=h.bN;have uF : ∀i,i<aJ->u.T i k=t.T (g i) k:=fun i ad=>by rw[(U i ad).1 k (by omega),yp aY]
 have mh:t.T (g r) k≠0:=by rw[<- uF r ai];exact ah
 have P:=h1.inv.Fo gw (I:=I) (fun j _=>hw j) (h1.lt r ai) (show k<n+m by omega) mh (h1.inv.ok.cg (h1.lt r ai) (by omega) mh);have N2 : ∀j,j<=n->u.cm aJ I j=t.cm m I (m1 n (n+m) j):=fun j av=>S3 h1 U an av;have W2:u.cm aJ I k=t.cm m I k:=by rw[N2 k (by omega),yp aY]
 have pl : ∀j,j<=n->m1 n (n+m) j<=n+m:=fun j av=>BW (by omega) av;refine⟨fun i ad j av=> ?_,fun i ad j av=> ?_,fun i ad c6 j av=> ?_,fun j av=> ?_,fun j av=> ?_,fun j av=> ?_⟩
 ·rw[(U i ad).1 j av];exact P.T _ (h1.lt i ad) _ (pl j av)
 ·have e:(u.cg r k).T i j=(t.cg (g r) k).T (g i) (m1 n (n+m) j):=by
   simp only[bW.cg];by_cases c:i=r
   ·subst c;rw[dw rfl,dw rfl,(U i ad).1 j av,uF i ad]
   ·rw[dy c,dy fun e=>c (h1.inj i ad r ai e),(U i ad).1 j av,(U r ai).1 j av,uF i ad,uF r ai]
  rw[e];exact P.h3 _ (h1.lt i ad) _ (pl j av)
 ·rw[uF i ad,uF r ai,(U r ai).1 j av];exact P.M _ (h1.lt i ad) (fun e=>c6 (h1.inj i ad r ai e)) _ (pl j av)
 ·rw[N2 j av];exact P.a3 _ (pl j av)
 ·rw[N2 j av,W2,uF r ai,(U r ai).1 j av];exact P.uu _ (pl j av)
 ·rw[W2,uF r ai,(U r ai).1 j av];exact P.hm _ (pl j av)
def h7 (m n:Nat)(t:bW):List Nat:=(List.range m).filter fun i=>decide (t.B i<n)
def kp (m n:Nat)(t:bW)(i:Nat):Nat:=(h7 m n t).getD i 0
theorem Eh {m n:Nat}{t:bW}{i:Nat}(h:i<(h7 m n t).length):(h7 m n t)[i]? = some (kp m n t i):=by unfold kp;rw[List.getD_eq_getElem?_getD,dz h];rfl
theorem TF {m n:Nat}{t:bW}{i:Nat}(h:i<(h7 m n t).length):kp m n t i<m/\t.B (kp m n t i)<n:=by have:=dH (Eh h);unfold h7 at this;rw[List.mem_filter,List.mem_range] at this;exact⟨this.1,of_decide_eq_true this.2⟩
theorem aep {m n:Nat}{t:bW}{i k:Nat}(ad:i<(h7 m n t).length)(aY:k<(h7 m n t).length)(e:kp m n t i=kp m n t k):i=k:=by have aiP:(h7 m n t).Nodup:=List.nodup_range.filter _;have h1:=Eh ad;have o:=Eh aY;rw[e,<- o] at h1;exact(List.getElem?_inj ad aiP).1 h1
theorem aeq {m n:Nat}{t:bW}{d:Nat}(bG:d<m)(fP:t.B d<n): ∃i,i<(h7 m n t).length/\kp m n t i=d:=by
 have:d∈h7 m n t:=by unfold h7;rw[List.mem_filter,List.mem_range];exact⟨bG,decide_eq_true fP⟩
 obtain⟨i,ad⟩:=List.getElem?_of_mem this;have aX:=gB ad;refine⟨i,aX,?_⟩;rw[Eh aX] at ad;exact dI ad
theorem acr {m n N:Nat}{A:Nat->Nat->Rat}{t:bW}(ad:lP m N A t)(cC:∀i,i<m->n<=t.B i->t.T i N=0)(bG:∀i,i<m->t.B i<n\/ ∀j,j<n->t.T i j=0):m6 m n N A t (h7 m n t).length (kp m n t) where
 inv:=ad
 z:=cC
 le:=by unfold h7;exact Nat.le_trans (List.length_filter_le ..) (by rw[List.length_range];exact dE _)
 lt:=fun i h=>(TF h).1
 inj:=fun i h k aY e=>aep h aY e
 dead:=fun d h hl=>by have : ¬t.B d<n:=fun c=>(by obtain⟨i,h1,o⟩:=aeq h c;exact hl i h1 o);exact⟨by omega,(bG d h).resolve_left this⟩
theorem afE {α:Type}{T n:Nat}(f:Nat->α)(h:n<=T):(aN T f).take n=aN n f:=by
 apply List.ext_getElem?;intro i;by_cases c:i<n
 ·rw[List.getElem?_take,dw c,f8 (by omega),f8 c]
 ·rw[List.getElem?_take,dy c,List.getElem?_eq_none_iff.2 (by rw[cj];omega)]
structure sO (m n:Nat) (a:Nat->Nat->Int) (b:Nat->Int) (i:Nat) (t:bW):Prop where
 bN:m6 m n (n+m) (de m n a b) t m fun q=>q
 Gv : ∀q,q<i->t.B q<n\/ ∀j,j<n->t.T q j=0
theorem sO.cg {m n:Nat}{a:Nat->Nat->Int}{b:Nat->Int}{i:Nat}{t:bW}(h:sO m n a b i t){k:Nat}(ad:i<m)(aY:k<n)(aU:n<=t.B i)(ah:t.T i k≠0):sO m n a b i (t.cg i k) where
 bN:=h.bN.cg (by omega) ad aY aU ah
 Gv:=fun q a5=>by
  simp only[bW.cg];rw[dy (by omega)];rcases h.Gv q a5 with d|d
  ·exact .inl d
  ·exact .inr fun j av=>by rw[dy (by omega),d j av,d k aY];grind
theorem adl {m n:Nat}{a:Nat->Nat->Int}{b:Nat->Int}(gw:Small m (n+m) (de m n a b))(hm:m<=20)(aS:n<=40){i:Nat}(ad:i<m)(x0 x1:Int)(fv eS k4:ar)(fN:Int){t:bW}(h:sO m n a b i t):
 ∃cF,JQ (i:Int) fN ((n+m:Nat):Int) (ir m (n+m)) x0 (n:Int) fv eS k4 0 (cS m t) (gZ (n+m) (t.cm m (gf m n))) (gi m (n+m) t)=some (cS m cF,gZ (n+m) (cF.cm m (gf m n)),gi m (n+m) cF)/\sO m n a b (i+1) cF:=by
 unfold JQ
 obtain⟨r,e,cF,rfl,c0⟩:=rz (f:=fun w:Int×ar×(List aE)×(List (List aE))=>vQ (i:Int) fN ((n+m:Nat):Int) (ir m (n+m)) x0 (n:Int) fv eS k4 w.1 w.2.1 w.2.2.1 w.2.2.2)
  (fun (j:Nat) (t:bW)=>((j:Int),cS m t,gZ (n+m) (t.cm m (gf m n)),gi m (n+m) t)) n (fun j t=>sO m n a b i t/\(t.B i<n\/ ∀q,q<j->t.T i q=0))
  (fun r=> ∃cF,r=(cS m cF,gZ (n+m) (cF.cm m (gf m n)),gi m (n+m) cF)/\sO m n a b (i+1) cF)
  (fun j av t cP=>by
    obtain⟨fW,bG⟩:=cP;have hlen:(cS m t).length=m:=cj ..;simp only;by_cases c:t.B i<n
    ·refine .inr ⟨_,?_,t,rfl,fW.bN,fun q a5=> ?_⟩
     ·unfold vQ;exact dv (by omega) (bx (by rw[hlen];omega) (aD (x:=((t.B i:Nat):Int)) (by rw[dx];exact hi ad) (en (by omega) rfl)))
     ·by_cases e:q=i
      ·rw[e];exact .inl c
      ·exact fW.Gv q (by omega)
    ·have cC : ∀q,q<j->t.T i q=0:=bG.resolve_left c
     have pre : ∀I,(mr (cc (t.T i j)) >>= fun c9=>if (c9 != (0:Int))=true then xv (i:Int) (j:Int) ((n+m:Nat):Int) (ir m (n+m)) (cS m t) (gZ (n+m) (t.cm m (gf m n))) (gi m (n+m) t) >>= fun gQ=>some (.inl (R ((j:Int)+1),gQ.1,gQ.2.1,gQ.2.2)) else some (.inl (R ((j:Int)+1),cS m t,gZ (n+m) (t.cm m (gf m n)),gi m (n+m) t)))=some I->vQ (i:Int) fN ((n+m:Nat):Int) (ir m (n+m)) x0 (n:Int) fv eS k4 (j:Int) (cS m t) (gZ (n+m) (t.cm m (gf m n))) (gi m (n+m) t)=some I:=fun I an=>(by unfold vQ;exact dv (by omega) (bx (by rw[hlen];omega) (aD (x:=((t.B i:Nat):Int)) (by rw[dx];exact hi ad) (dv (by omega) (bx (by unfold ir;rw[cj];omega) (aD (x:=some (i,n+m+1)) (by rw[dx];exact hi ad) (aD (x:=(i,n+m+1)) rfl (aD (x:=gY (n+m) t i) (f8 ad) (bx (by simp only;omega) (aD (x:=cc (t.T i j)) (by rw[dx];exact hi (by omega)) an))))))))));have ja:eW (t.T i j):=fW.bN.inv.Iz gw ad (by omega);by_cases d:t.T i j=0
     ·refine .inl ⟨t,pre _ (aD (o9 ja) (gn ?_ (by rw[fl (by omega)]))),fW,.inr fun q a5=> ?_⟩
      ·rw[oL.2 d];rfl
      ·by_cases e:q=j
       ·rw[e];exact d
       ·exact cC q (by omega)
     ·have P:=fW.bN.inv.Fo gw (I:=gf m n) (fun j _=>Ep m n j) ad (show j<n+m by omega) d (fW.bN.inv.ok.cg ad (by omega) d)
      have aiQ:=Ty (N:=n+m) (by omega) (by omega) ad (show j<=n+m by omega) d P ((n+m:Nat):Int);refine .inl ⟨t.cg i j,pre _ (aD (o9 ja) (fr (vx fun e=>d (oL.1 e)) (aD aiQ ?_))),fW.cg ad av (by omega) d,.inl ?_⟩
      ·rw[fl (by omega)];congr 3;refine Prod.ext rfl (Prod.ext ?_ rfl);exact eF fun q a5=>by rw[fW.bN.inv.ok.Hv (gf m n) ad (by omega) d]
      ·simp only[bW.cg,if_true];exact av)
  (fun t cP=>by
    obtain⟨fW,bG⟩:=cP;refine⟨_,?_,t,rfl,fW.bN,fun q a5=> ?_⟩
    ·simp only;unfold vQ;exact en (by omega) rfl
    ·by_cases e:q=i
     ·rw[e];exact bG
     ·exact fW.Gv q (by omega)) t ⟨h,.inr fun q a5=>by omega⟩
 exact⟨cF,e,c0⟩
theorem acs {m n:Nat}{a:Nat->Nat->Int}{b:Nat->Int}(gw:Small m (n+m) (de m n a b))(hm:m<=20)(aS:n<=40)(x0:Int)(fv eS k4:ar){t:bW}(h:sO m n a b 0 t):
 ∃cF,JR (m:Int) ((n+m:Nat):Int) (ir m (n+m)) x0 (n:Int) fv eS k4 0 (cS m t) (gZ (n+m) (t.cm m (gf m n))) (gi m (n+m) t)=some (cS m cF,gZ (n+m) (cF.cm m (gf m n)),gi m (n+m) cF)/\sO m n a b m cF:=by
 unfold JR
 obtain⟨cF,e,c0⟩:=ib (f:=fun w:Int×ar×(List aE)×(List (List aE))=>zU (m:Int) ((n+m:Nat):Int) (ir m (n+m)) x0 (n:Int) fv eS k4 w.1 w.2.1 w.2.2.1 w.2.2.2)
  (fun (i:Nat) (t:bW)=>((i:Int),cS m t,gZ (n+m) (t.cm m (gf m n)),gi m (n+m) t)) m (fun i t=>sO m n a b i t) (fun t=>(cS m t,gZ (n+m) (t.cm m (gf m n)),gi m (n+m) t))
  (fun i ad t fW=>by obtain⟨cF,e,c0⟩:=adl gw hm aS ad x0 x0 fv eS k4 (m:Int) fW;refine⟨cF,?_,c0⟩;simp only;unfold zU;exact dv (by omega) (aD e (by rw[fl (by omega)])))
  (fun t _=>by simp only;unfold zU;exact en (by omega) rfl) t h
 exact⟨cF,e,c0⟩
theorem acu {n:Nat}(aS:n<=40){c:Nat->Int}(a3:∀j,j<n-> -100<=c j/\c j<=100)(fN nL:Int)(q1:List bS)(aV:ar)(bQ:List aE)(cr:List (List aE))(fv eS:ar):
 JS fN q1 aV bQ cr nL (n:Int) fv eS (aN n c) 0 []=some (aN n fun j=>cc (c j:Rat)):=by
 unfold JS
 obtain⟨_,e,-⟩:=ib (f:=fun w:Int×(List aE)=>zV fN q1 aV bQ cr nL (n:Int) fv eS (aN n c) w.1 w.2) (fun (j:Nat) (_:Unit)=>((j:Int),aN j fun j=>cc (c j:Rat))) n (fun _ _=>True) (fun _=>aN n fun j=>cc (c j:Rat))
  (fun j av _ _=>by refine⟨(),?_,trivial⟩;have:=a3 j av;simp only;unfold zV;refine dv (by omega) (bx (by rw[cj];omega) (aD (gt rfl (f8 av)) (aD (rF (k6.2 (by omega))) (bx (by simp only[dF,cj,List.length_singleton];omega) ?_))));rw[fl (by omega),kU])
  (fun _ _=>by simp only;unfold zV;exact en (by omega) rfl) () trivial
 exact e
theorem S4 (n:Nat)(t:bW)(i:Nat):h7 (i+1) n t=h7 i n t++(if t.B i<n then [i] else []):=by
 unfold h7;rw[List.range_succ,List.filter_append];congr 1;by_cases c:t.B i<n
 ·rw[dw c];simp[c]
 ·rw[dy c];simp[c]
theorem Ug (n:Nat)(t:bW){i:Nat}(fP:t.B i<n): ∀m,i<m->(h7 m n t)[(h7 i n t).length]? = some i
 | 0,h=>by omega
 | m+1,h=>by
  rw[S4];by_cases c:i<m
  ·have:=Ug n t fP m c;rw[List.getElem?_append_left (gB this)];exact this
  ·obtain rfl:i=m:=(by omega);rw[dw fP,List.getElem?_append_right (dE _),Nat.sub_self];rfl
theorem afF (n:Nat)(t:bW){i m:Nat}(fP:t.B i<n)(h:i<m):kp m n t (h7 i n t).length=i:=by have:=Ug n t fP m h;have aX:=gB this;rw[Eh aX] at this;exact dI this
theorem Uh (n:Nat)(t:bW)(i:Nat):(h7 i n t).length<=i:=by unfold h7;exact Nat.le_trans (List.length_filter_le ..) (by rw[List.length_range];exact dE _)
theorem adm {m n:Nat}(hm:m<=20)(aS:n<=40)(t:bW)(x0:Int)(fv eS k4:ar)(bQ ef:List aE):
 JT (m:Int) ((n+m:Nat):Int) (ir m (n+m)) (cS m t) bQ (gi m (n+m) t) x0 (n:Int) fv eS k4 ef 0 [] [] [] =
  some (ir (h7 m n t).length n,gi (h7 m n t).length n (pp n (n+m) (kp m n t) t),cS (h7 m n t).length (pp n (n+m) (kp m n t) t)):=by
 unfold JT
 obtain⟨_,e,-⟩:=ib (f:=fun w:Int×(List bS)×(List (List aE))×ar=>zW (m:Int) ((n+m:Nat):Int) (ir m (n+m)) (cS m t) bQ (gi m (n+m) t) x0 (n:Int) fv eS k4 ef w.1 w.2.1 w.2.2.1 w.2.2.2)
  (fun (i:Nat) (_:Unit)=>((i:Int),ir (h7 i n t).length n,gi (h7 i n t).length n (pp n (n+m) (kp m n t) t),cS (h7 i n t).length (pp n (n+m) (kp m n t) t))) m (fun _ _=>True)
  (fun _=>(ir (h7 m n t).length n,gi (h7 m n t).length n (pp n (n+m) (kp m n t) t),cS (h7 m n t).length (pp n (n+m) (kp m n t) t)))
  (fun i ad _ _=>by
    refine⟨(),?_,trivial⟩;have hle:=Uh n t i;have h1:(ir m (n+m)).length=m:=cj ..;have o:(cS m t).length=m:=cj ..;have bK:=S4 n t i;simp only;unfold zW;refine dv (by omega) (bx (by rw[h1];omega) (aD (x:=some (i,n+m+1)) (by rw[dx];exact hi ad) (bx (by rw[o];omega) (aD (x:=((t.B i:Nat):Int)) (by rw[dx];exact hi ad) ?_))));by_cases c:t.B i<n;rotate_left
    ·refine en (by omega) ?_;rw[dy c,List.append_nil] at bK;rw[bK,fl (by omega)]
    rw[dw c] at bK;have dp:=afF n t c ad
    have ei:([]++((gY (n+m) t i).drop 0).take (((n:Nat):Int).toNat-0))++[cc (t.T i (n+m))]=gY n (pp n (n+m) (kp m n t) t) (h7 i n t).length:=by
     rw[dx,List.drop_zero,Nat.sub_zero,List.nil_append];unfold gY;rw[afE _ (by omega),kU n];congr 1
     ·exact eF fun j av=>by show _=cc (t.T (kp m n t (h7 i n t).length) (m1 n (n+m) j));rw[dp,yp av]
     ·show _=[cc (t.T (kp m n t (h7 i n t).length) (m1 n (n+m) n))];rw[dp,B5]
    have vE:(gY n (pp n (n+m) (kp m n t) t) (h7 i n t).length).length=n+1:=cj ..;have MQ:(gi (h7 i n t).length n (pp n (n+m) (kp m n t) t)).length=(h7 i n t).length:=cj ..;refine dv (by omega) (aD (x:=(i,n+m+1)) rfl (aD (x:=gY (n+m) t i) (f8 ad) (bx (by omega) (bx (by simp only[dx];omega) (bx (by unfold gY;rw[cj,dx];omega) (bx (by rw[dx,List.nil_append,List.length_take,List.length_drop];omega) (bx (by simp only;omega) (aD (x:=cc (t.T i (n+m))) (by rw[dx];exact hi (by omega)) ?_))))))));rw[ei,vE,MQ];refine bx (by omega) (bx (by simp only[dF,List.length_singleton];unfold ir;rw[cj];omega) (bx (by simp only[dF,List.length_singleton];unfold cS;rw[cj];omega) ?_));have rk:(h7 (i+1) n t).length=(h7 i n t).length+1:=(by rw[bK,dF];rfl);rw[rk,fl (by omega)];unfold ir gi cS;rw[kU (h7 i n t).length fun q=>(some (q,n+1):bS),kU (h7 i n t).length (gY n (pp n (n+m) (kp m n t) t)),kU (h7 i n t).length fun q=>(((pp n (n+m) (kp m n t) t).B q:Nat):Int)];have aU:(pp n (n+m) (kp m n t) t).B (h7 i n t).length=t.B i:=(by show t.B (kp m n t (h7 i n t).length)=_;rw[dp]);rw[aU])
  (fun _ _=>by simp only;unfold zW;exact en (by omega) rfl) () trivial
 exact e
theorem acv {N3:Nat}{eP:List (List aE)}{row:List aE}(h:eP[N3]? = some row)(k:Int)(b3 len:Nat)(N4:List aE):C9 k N3 b3 len N4 eP=xt k b3 len N4 row:=by
 have e : ∀t i2 j9 s3,(fun w:Int×(List aE)=>CU N3 b3 len t eP i2 j9 s3 w.1 w.2)=fun w:Int×(List aE)=>vP b3 len t row i2 j9 s3 w.1 w.2:=fun t i2 j9 s3=>by funext w;unfold CU vP;rw[h];rfl
 unfold C9 xt Ps JP;simp only[e]
theorem HV {n:Nat}{c:Nat->Int}{j:Nat}(h:n<=j):gV n c j=0:=by unfold gV nV;simp only;rw[dy (by omega)];rfl
theorem Va {n:Nat}{c:Nat->Int}{j:Nat}(h:j<n):gV n c j=(c j:Rat):=by unfold gV nV;simp only;rw[dw h]
theorem Il {n:Nat}{c:Nat->Int}(a3:∀j,j<n-> -100<=c j/\c j<=100)(j:Nat):dV 100 (gV n c j):=by
 by_cases h:j<n
 ·rw[Va h];have:=a3 j h;exact⟨c j,rfl,by omega⟩
 ·rw[HV (by omega)];exact⟨0,rfl,by omega⟩
theorem LC {m n:Nat}{a:Nat->Nat->Int}{b:Nat->Int}{aJ:Nat}{g:Nat->Nat}{hq:Nat->Nat->Rat}{u:bW}(gw:Small m (n+m) (de m n a b))(h:pT m n a b aJ g hq u){I:Nat->Rat}(hw:∀j,dV 100 (I j)){i j:Nat}(ad:i<=aJ)(av:j<=n):eW (I j-ct i (fun q=>I (u.B q)*u.T q j)):=by
 obtain⟨t,h1,o,U⟩:=h.bN;have hm:=gw.hm;have la:=h1.le;have W3:=h1.inv.zc gw;have e:(I j-ct i (fun q=>I (u.B q)*u.T q j))*t.D m (de m n a b)=I j*t.D m (de m n a b)-ct i (fun q=>I (u.B q)*(u.T q j*t.D m (de m n a b))):=by rw[f5 (f:=fun q=>I (u.B q)*(u.T q j*t.D m (de m n a b))) (g:=fun q=>(I (u.B q)*u.T q j)*t.D m (de m n a b)) (fun q _=>by grind),uU];grind
 have w:dV (21*100*eT) ((I j-ct i (fun q=>I (u.B q)*u.T q j))*t.D m (de m n a b)):=by
  rw[e];refine dV.mono (((hw j).mul W3).sub (dV.sum fun q a5=>(hw _).mul (s5:=eT) ?_)) ?_
  ·rw[(U q (by omega)).1 j av];exact h1.inv.uB gw (h1.lt q (by omega)) (BW (by omega) av)
  ·have:i*(100*eT)<=20*(100*eT):=dL _ (by omega);omega
 exact rL (W3.mono (Nat.le_trans (by omega:eT<=21*100*eT) (dE _))) w h1.inv.se (by grind) (qv wC)
theorem abO {m n:Nat}{a:Nat->Nat->Int}{b:Nat->Int}{aJ:Nat}{g:Nat->Nat}{hq:Nat->Nat->Rat}{u:bW}(gw:Small m (n+m) (de m n a b))(aS:n<=40)(h:pT m n a b aJ g hq u){I:Nat->Rat}(hw:∀j,dV 100 (I j))(fN nL:Int)(q1:List bS)(aV:ar)(bQ:List aE)(cr:List (List aE)):
 JU (aJ:Int) fN q1 aV bQ cr nL (ir aJ n) (gi aJ n u) (cS aJ u) 0 (gZ n I)=some (gZ n (u.cm aJ I)):=by
 have la:aJ<=20:=by obtain⟨t,h1,-,-⟩:=h.bN;have:=h1.le;have:=gw.hm;omega
 obtain⟨Gw,-⟩:=h.fits gw;have L:=h.lt;unfold JU
 obtain⟨_,e,-⟩:=ib (f:=fun w:Int×(List aE)=>zX (aJ:Int) fN q1 aV bQ cr nL (ir aJ n) (gi aJ n u) (cS aJ u) w.1 w.2) (fun (i:Nat) (_:Unit)=>((i:Int),gZ n fun j=>I j-ct i (fun q=>I (u.B q)*u.T q j))) aJ (fun _ _=>True) (fun _=>gZ n (u.cm aJ I))
  (fun i ad _ _=>by
    refine⟨(),?_,trivial⟩;have aU:=L.ju i ad;have lA:(ir aJ n).length=aJ:=cj ..;have lB:(cS aJ u).length=aJ:=cj ..;have W4:I (u.B i)-ct i (fun q=>I (u.B q)*u.T q (u.B i))=I (u.B i):=(by rw[nN fun q a5=>by rw[L.unit q (by omega) i ad,dy (by omega)];grind];grind);have rm : ∀j,I j-ct i (fun q=>I (u.B q)*u.T q j)-(I (u.B i)-ct i (fun q=>I (u.B q)*u.T q (u.B i)))*u.T i j=I j-ct (i+1) (fun q=>I (u.B q)*u.T q j):=fun j=>by rw[W4,ct];grind
    have aiR:=S1 (n+1) (by omega) (u.B i) (by omega) (fun j=>I j-ct i (fun q=>I (u.B q)*u.T q j)) (fun j=>u.T i j) (fun j av=>LC gw h hw (by omega) (by omega)) (fun j av=>Gw i ad j (by omega)) (fun j av=>by
     have f1:=LC gw h hw (i:=i+1) (j:=j) (by omega) (by omega);rw[W4];obtain⟨t,h1,o,U⟩:=h.bN;have w:=((hw (u.B i)).neg).mul (h1.inv.uB gw (h1.lt i ad) (BW (n:=n) (N:=n+m) (j:=j) (by omega) (by omega)));rw[<- (U i ad).1 j (by omega)] at w;exact rL (K:=21*100*eT) ((h1.inv.zc gw).mono (by omega)) (w.mono (by omega)) h1.inv.se (by grind) (qv wC)) (fun j av=>by
     rw[rm];exact LC gw h hw (by omega) (by omega))
    simp only;unfold zX;refine dv (by omega) (bx (by rw[lA];omega) (aD (x:=some (i,n+1)) (by rw[dx];exact hi ad) (bx (by rw[lB];omega) (aD (x:=((u.B i:Nat):Int)) (by rw[dx];exact hi ad) (aD (x:=(i,n+1)) rfl (aD (x:=gY n u i) (f8 ad) (aD (x:=gZ n fun j=>I j-ct (i+1) (fun q=>I (u.B q)*u.T q j)) ?_ (bx (by unfold gZ;rw[cj,cj]) (by rw[fl (by omega)])))))))));refine Eq.trans (acv (eP:=gi aJ n u) (row:=gY n u i) (f8 ad) _ _ _ _) (Eq.trans aiR ?_);congr 1;exact eF fun j _=>by rw[rm])
  (fun _ _=>by simp only;unfold zX;exact en (by omega) rfl) () trivial
 have e0:(gZ n fun j=>I j-ct 0 (fun q=>I (u.B q)*u.T q j))=gZ n I:=eF fun j _=>by show cc (I j-0)=_;congr 1;grind
 rw[e0] at e;exact e
theorem adn {aJ n:Nat}(hm:aJ<=20)(aS:n<=40){u:bW}(inj:∀i,i<aJ-> ∀k,k<aJ->u.B i=u.B k->i=k)(Gw:∀i,i<aJ-> ∀j,j<=n->eW (u.T i j))(z:Int)(q:List aE){j:Nat}(av:j<n)(k:Nat):Kh z (gi aJ n u) (cS aJ u) q (j:Int) true (k:Int) (aJ:Int) 0 0=some (jw (ct aJ fun i=>if u.B i=k then u.T i j else 0)):=by
 unfold Kh
 obtain⟨_,e,-⟩:=ib (f:=fun w:Int×Int=>Am z (gi aJ n u) (cS aJ u) q (j:Int) true (k:Int) (aJ:Int) w.1 w.2) (fun (i:Nat) (_:Unit)=>(jw (ct i fun i=>if u.B i=k then u.T i j else 0),(i:Int))) aJ (fun _ _=>True) (fun _=>jw (ct aJ fun i=>if u.B i=k then u.T i j else 0))
  (fun i ad _ _=>by
    refine⟨(),?_,trivial⟩;have lA:(cS aJ u).length=aJ:=cj ..;have lB:(gi aJ n u).length=aJ:=cj ..;have Gp:(gY n u i).length=n+1:=cj ..;simp only;unfold Am;refine dv (by omega) (bx (by rw[lA];omega) (aD (x:=((u.B i:Nat):Int)) (by rw[dx];exact f8 ad) ?_));by_cases c:u.B i=k
    ·refine fr (rZ (by omega)) (bx (by rw[lB];omega) (aD (x:=gY n u i) (by rw[dx];exact f8 ad) (bx (by rw[Gp];omega) (aD (x:=cc (u.T i j)) (by rw[dx];exact f8 (by omega)) (aD (o9 (Gw i ad j (by omega))) ?_)))));rw[fl (by omega),ct,dw c,nN fun q a5=>dy fun e=>by have:=inj q (by omega) i ad (by omega);omega];congr 4;grind
    ·refine gn (uA (by omega)) ?_;rw[fl (by omega),ct,dy c,Rat.add_zero])
  (fun _ _=>by simp only;unfold Am;exact en (by omega) rfl) () trivial
 have e0:jw (ct 0 fun i=>if u.B i=k then u.T i j else 0)=0:=oL.2 rfl;rw[e0] at e;exact e
theorem TG {aJ:Nat}{c:Nat->Rat}{u:bW}{j k:Nat}:u.cm aJ (hF c (k+1)) j=(if j=k then -1 else 0)+ct aJ (fun i=>if u.B i=k then u.T i j else 0):=by
 unfold bW.cm;have:ct aJ (fun i=>hF c (k+1) (u.B i)*u.T i j)=ct aJ (fun i=>(-1:Rat)*(if u.B i=k then u.T i j else 0)):=f5 fun i _=>by simp only[hF];split<;>grind
 rw[this,jE];simp only[hF];grind
theorem abP {aJ n:Nat}(hm:aJ<=20)(aS:n<=40){c:Nat->Rat}{u:bW}(inj:∀i,i<aJ-> ∀k,k<aJ->u.B i=u.B k->i=k)(Gw:∀i,i<aJ-> ∀j,j<=n->eW (u.T i j))(aiS:∀j,j<=n->eW (u.cm aJ c j)){j:Nat}(av:j<n):
 ∃g,uQ ⟨(n:Int),gi aJ n u,cS aJ u,gZ n (u.cm aJ c)⟩ (j:Int) true=some g/\((∀i,i<aJ->u.B i≠j)->(0<g↔u.qM aJ (n+1) (hF c) j)):=by
 have lA:(gZ n (u.cm aJ c)).length=n+1:=cj ..;have s6:len_ eI (cS aJ u)=((aJ:Nat):Int):=by rw[fX];show ((aN aJ _).length:Int)=_;rw[cj]
 obtain⟨r,e,ai⟩:=rz (f:=fun w:Int×Int=>xg (n:Int) (gi aJ n u) (cS aJ u) (gZ n (u.cm aJ c)) (j:Int) true w.1 w.2)
  (fun (k:Nat) (_:Unit)=>(jw (u.cm aJ (hF c k) j),(k:Int))) n (fun k _=>k<=j/\ ∀l,l<k->u.cm aJ (hF c l) j=0)
  (fun r=> ∃g,(r = .inl g\/(r = .inr ()/\g = -1))/\((∀i,i<aJ->u.B i≠j)->(0<g↔u.qM aJ (n+1) (hF c) j)))
  (fun k aY _ cP=>by
    obtain⟨akW,cC⟩:=cP;simp only;unfold xg;by_cases z:u.cm aJ (hF c k) j=0
    ·have fN:jw (u.cm aJ (hF c k) j)=0:=oL.2 z
     have uw : ∀l,l<k+1->u.cm aJ (hF c l) j=0:=fun l aX=>by
      by_cases e:l=k
      ·rw[e];exact z
      ·exact cC l (by omega)
     by_cases e:k=j
     ·refine .inr ⟨.inr (),?_,-1,.inr ⟨rfl,rfl⟩,fun Gm=>⟨fun h=>absurd h (by omega),fun dp=> ?_⟩⟩
      ·rw[fN];exact fr rfl (fr rfl (dv (by omega) (fr (rZ (by omega)) rfl)))
      ·exfalso
       have neg:u.cm aJ (hF c (k+1)) j = -1:=(by rw[TG,dw e.symm,nN fun i ad=>dy fun x=>Gm i ad (by omega)];grind);obtain⟨l,gI,gS,bD⟩:=dp;simp only at gS bD;by_cases bo:l<k+1
       ·rw[uw l bo] at gS;grind
       ·by_cases cq:l=k+1
        ·rw[cq,neg] at gS;grind
        ·have:=bD (k+1) (by omega);rw[neg] at this;grind
     ·refine .inl ⟨(),?_,by omega,uw⟩;rw[fN,s6];refine fr rfl (fr rfl (dv (by omega) (gn (uA (by omega)) (aD (adn hm aS inj Gw (n:Int) (gZ n (u.cm aJ c)) av k) ?_))));rw[fl (by omega),TG,dy (fun x=>e x.symm),Rat.zero_add]
    ·refine .inr ⟨.inl (jw (u.cm aJ (hF c k) j)),?_,_,.inl rfl,fun Gm=> ?_⟩
     ·exact gn (uA fun x=>z (oL.1 x)) rfl
     ·rw[sy]
      constructor
      ·intro h;exact⟨k,by omega,h,cC⟩
      ·rintro⟨l,gI,gS,bD⟩
       simp only at gS bD;by_cases bo:l<k
       ·rw[cC l bo] at gS;grind
       ·by_cases cq:l=k
        ·rw[cq] at gS;exact gS
        ·exact absurd (bD k (by omega)) z)
  (fun _ cP=>absurd cP.1 (by omega)) () ⟨by omega,fun l aX=>by omega⟩
 obtain⟨g,dp,a5⟩:=ai;refine⟨g,?_,a5⟩;unfold uQ;refine bx (by simp only;rw[lA];omega) (aD (x:=cc (u.cm aJ c j)) (by simp only;rw[dx];exact f8 (by omega)) (aD (o9 (aiS j (by omega))) (aD (x:=r) e ?_)));rcases dp with rfl|⟨rfl,rfl⟩<;>rfl
theorem aeU {x:Rat}(ab:eW x):DN (cc x)=some (cc x):=by
 have p:=ab.df;have h1:=p.pR;have o:=p.po;have e1:(cc x).dl.b8.length<=100:=by show (L (eu x).1.natAbs).length<=100;omega
 have aB:(cc x).eO.length<=100:=by show (L (eu x).2).length<=100;omega
 unfold DN;rw[List.nil_append,List.nil_append];exact bx (by omega) (bx (by omega) rfl)
theorem HA {aJ n:Nat}{u:bW}(inj:∀i,i<aJ-> ∀k,k<aJ->u.B i=u.B k->i=k)(j:Nat): ∀i,i<=aJ->(∃q,q<i/\u.B q=j/\u.g9 i n j=u.T q n)\/((∀q,q<i->u.B q≠j)/\u.g9 i n j=0)
 | 0,_=> .inr ⟨fun q a5=>by omega,rfl⟩
 | i+1,ad=>by
  rw[LB];by_cases c:u.B i=j
  ·rw[dw c]
   rcases HA inj j i (by omega) with ⟨q,h1,o,-⟩|⟨-,o⟩
   ·have:=inj q (by omega) i (by omega) (by omega);omega
   ·exact .inl ⟨i,by omega,c,by rw[o];grind⟩
  ·rw[dy c,Rat.add_zero]
   rcases HA inj j i (by omega) with ⟨q,h1,o,U⟩|⟨h1,o⟩
   ·exact .inl ⟨q,by omega,o,U⟩
   ·refine .inr ⟨fun q a5=> ?_,o⟩
    by_cases e:q=i
    ·rw[e];exact c
    ·exact h1 q (by omega)
theorem ado {p:iN}{m n:Nat}{a:Nat->Nat->Int}{b:Nat->Int}(h:ly p m n a b){c:Nat->Int}(nM:p.hf=aN n c)(a3:∀j,j<n-> -100<=c j/\c j<=100){t:bW}(cf:sO m n a b 0 t):
 ∃aJ g u q1 aV bQ,aJ<=20/\pT m n a b aJ g u.T u/\AW p ((n+m:Nat):Int) (ir m (n+m)) (cS m t) (gZ (n+m) (t.cm m (gf m n))) (gi m (n+m) t)=some (q1,aV,bQ,(n:Int),ir aJ n,cS aJ u,gZ n (u.cm aJ (gV n c)),gi aJ n u):=by
 have hm:=h.hm;have aS:=h.aS;have gw:=Bt h;obtain⟨cF,bP,nE⟩:=acs gw hm aS p.gl p.dY p.ea p.hf cf;have bN:=acr nE.bN.inv nE.bN.z nE.Gv;have fP : ∀i,i<(h7 m n cF).length->cF.B (kp m n cF i)<n:=fun i ad=>(TF ad).2;have U : ∀i,i<(h7 m n cF).length->(∀j,j<=n->(pp n (n+m) (kp m n cF) cF).T i j=cF.T (kp m n cF i) (m1 n (n+m) j))/\(pp n (n+m) (kp m n cF) cF).B i=cF.B (kp m n cF i):=fun i ad=>⟨fun _ _=>rfl,rfl⟩;have L:=Uf bN fP U;have hle:=Uh n cF m
 have fi:pT m n a b (h7 m n cF).length (kp m n cF) (pp n (n+m) (kp m n cF) cF).T (pp n (n+m) (kp m n cF) cF):=by
  refine⟨?_,cF,bN,fP,U⟩;by_cases z:(h7 m n cF).length=0
  ·rw[z];exact⟨fun c a3=>by omega,⟨fun _ _=>0,fun i ad=>by omega⟩,fun i ad=>by omega,fun i ad=>by omega⟩
  ·have:=fP 0 (by omega);exact L.tok (dE _) (by omega)
 have lA:((ir m (n+m)).length:Int)=(m:Int):=by unfold ir;rw[cj]
 have lB:((ir (h7 m n cF).length n).length:Int)=(((h7 m n cF).length:Nat):Int):=by unfold ir;rw[cj]
 have aim:(aN n fun j=>cc (c j:Rat))++[cc 0]=gZ n (gV n c):=by
  unfold gZ;rw[kU];congr 1
  ·exact eF fun j av=>by rw[Va av]
  ·rw[HV (dE _)]
 refine⟨(h7 m n cF).length,kp m n cF,pp n (n+m) (kp m n cF) cF,cS m cF,gZ (n+m) (cF.cm m (gf m n)),gi m (n+m) cF,by omega,fi,?_⟩;unfold AW;rw[lA,h.gM];refine aD bP ?_;simp only;rw[nM];refine aD (acu aS a3 _ _ _ _ _ _ _ _) (aD (rF (n:=0) (k6.2 (by omega))) ?_);rw[show ((0:Int):Rat)=0 from rfl,aim];refine bx (by unfold gZ;rw[cj];omega) (aD (adm hm aS cF _ _ _ _ _ _) ?_);simp only;rw[lB];exact aD (abO gw aS fi (Il a3) _ _ _ _ _ _) rfl
theorem adp {p:iN}{m n:Nat}{a:Nat->Nat->Int}{b:Nat->Int}(h:ly p m n a b){c:Nat->Int}(nM:p.hf=aN n c)(a3:∀j,j<n-> -100<=c j/\c j<=100):
 ∃r,tR p=some r/\((¬oT m n a b/\r=⟨2,[],⟨⟨false,[]⟩,[]⟩⟩)\/(oT m n a b/\ ¬Bounded m n a b (gV n c)/\r=⟨3,[],⟨⟨false,[]⟩,[]⟩⟩) \/
  ∃x,ue m n a b (gV n c) x/\(∀j,eW (x j))/\eW (val n (gV n c) x)/\r=⟨0,aN n (fun j=>cc (x j)),cc (val n (gV n c) x)⟩):=by
 have hm:=h.hm;have aS:=h.aS;have gw:=Bt h;obtain⟨t,e1,cP,bK⟩:=S2 h;have aiT:=cP.wD gw (fun j _=>Ep m n j) (dE (n+m));have aiU:(gZ (n+m) (t.cm m (gf m n))).length=n+m+1:=cj ..
 have pre : ∀r,(if (jw (t.cm m (gf m n) (n+m)) != (0:Int))=true then some (⟨2,[],⟨⟨false,[]⟩,[]⟩⟩:we) else
  AW p ((n+m:Nat):Int) (ir m (n+m)) (cS m t) (gZ (n+m) (t.cm m (gf m n))) (gi m (n+m) t) >>= fun bH =>
  tQ true bH.2.2.2.1 bH.2.2.2.2.1 bH.2.2.2.2.2.1 bH.2.2.2.2.2.2.1 bH.2.2.2.2.2.2.2 >>= fun cT =>
  if cT.1=true then
   if 0<=bH.2.2.2.1/\bH.2.2.2.1<(cT.2.2.1.length:Nat) then
   cT.2.2.1[(0+bH.2.2.2.1.toNat)]? >>= fun FV =>
   ss FV >>= fun gQ =>
   Kd p.gl p.fj p.dY p.ea p.hf bH.2.2.2.1 bH.2.2.2.2.1 cT.2.1 cT.2.2.1 cT.2.2.2 gQ.dl.cz gQ.dl.b8 gQ.eO 0 ([]:List aE) >>= fun mE =>
   Ke ((cT.2.1.length:Nat):Int) bH.2.2.2.1 bH.2.2.2.2.1 cT.2.1 cT.2.2.1 cT.2.2.2 gQ.dl.cz gQ.dl.b8 gQ.eO 0 mE >>= fun vB =>
   some (⟨0,vB,gQ⟩:we)
   else none
  else some (⟨3,([]:List aE),(⟨(⟨false,([]:ar)⟩:bA),([]:ar)⟩:aE)⟩:we))=some r->tR p=some r:=fun r ai=>by
  unfold tR;exact aD (Tz h) (aD e1 (bx (by simp only;rw[aiU];omega) (aD (x:=cc (t.cm m (gf m n) (n+m))) (by simp only;rw[dx];exact hi (by omega)) (aD (o9 aiT) ai))))
 by_cases z:t.cm m (gf m n) (n+m)=0;rotate_left
 ·exact⟨_,pre _ (fr (vx fun e=>z (oL.1 e)) rfl),.inl ⟨fun s=>z (bK.2 s),rfl⟩⟩
 have aiV:=bK.1 z;have aiW:sO m n a b 0 t:=⟨⟨cP,KU cP.lb z cP.ok.ju,dE _,fun i ad=>ad,fun i _ k _ e=>e,fun d bG hl=>(hl d bG rfl).elim⟩,fun q a5=>by omega⟩;obtain⟨aJ,g,u,q1,aV,bQ,la,fi,aB⟩:=ado h nM a3 aiW;have an : ∀j,n<=j->gV n c j=0:=fun j av=>HV av;have inj : ∀ {v:bW},pT m n a b aJ g u.T v-> ∀i,i<aJ-> ∀k,k<aJ->v.B i=v.B k->i=k:=fun bg i ad k aY e=>Md bg.lt ad aY e
 obtain⟨q,v,bP,zs,eL⟩:=UL (eR:=aJ) (m:=aJ) (N:=n) (K:=n+1) (by omega) (by omega) (A:=u.T) (obj:=hF (gV n c)) true (pT m n a b aJ g u.T)
  (fun t cf=>⟨cf.ok,cf.lt.lb⟩) (fun t r s cf c1=>adk cf c1)
  (fun t cf j av=>abP la aS (inj cf) (fun i ad j av=>(cf.fits gw).1 i ad j av) (fun j av=>cf.wD gw an (Il a3) av) av)
  (fun t cf i ad j av=>(cf.fits gw).1 i ad j av) (fun t cf i ad j av ah=>(cf.fits gw).2 i ad j av ah)
  (fun t cf r k ai aY ah=>cf.Fo gw an (Il a3) ai aY ah) u fi
 have wG:tQ true (n:Int) (ir aJ n) (cS aJ u) (gZ n (u.cm aJ (gV n c))) (gi aJ n u)=some (q,cS aJ v,gZ n (v.cm aJ (gV n c)),gi aJ n v):=bP;have Gx:=zs.lt;rcases eL with ⟨rfl,eL⟩|⟨rfl,s,vF,dp,hl⟩;rotate_left
 ·refine⟨_,pre _ (gn (by rw[oL.2 z];rfl) (aD aB (aD wG (gn rfl rfl)))),.inr (.inl ⟨aiV,?_,rfl⟩)⟩
  obtain⟨l,aX,ah,-⟩:=dp
  cases l with
  | zero=>exact Gx.IW (gV n c) vF ah hl
  | succ k =>
   obtain⟨i,ad,jl⟩:=Gx.SQ (c:=gV n c) ah;exact(hl i ad jl).elim
 have nZ:=Gx.nZ eL
 have zt : ∀i,i<=aJ-> ∀j,eW (v.g9 i n j):=fun i ad j=>by
  rcases HA (inj zs) (n:=n) j i ad with ⟨q,h1,-,U⟩|⟨-,o⟩
  ·rw[U];exact(zs.fits gw).1 q (by omega) n (dE _)
  ·rw[o];exact LN (n:=0) (k6.2 (by omega))
 have bg:v.cm aJ (gV n c) n = -val n (gV n c) (v.g9 aJ n):=by unfold val;rw[Gx.En (gV n c)];unfold bW.cm;rw[HV (dE _)];grind
 have WI:=zs.wD gw an (Il a3) (dE n);have agU:eW (val n (gV n c) (v.g9 aJ n)):=by have:=WI.neg;rw[bg,Rat.neg_neg] at this;exact this
 refine⟨_,pre _ (gn (by rw[oL.2 z];rfl) (aD aB (aD wG (fr rfl (bx ?_ (aD (x:=cc (v.cm aJ (gV n c) n)) ?_ (aD (EE WI) (aD (x:=aN n fun _=>cc 0) ?_ (aD (x:=aN n fun j=>cc (v.g9 aJ n j)) ?_ rfl))))))))),.inr (.inr ⟨_,nZ,fun j=>zt aJ (dE _) j,agU,?_⟩)⟩
 ·simp only;unfold gZ;rw[cj];omega
 ·simp only;rw[dx];exact hi (by omega)
 ·unfold Kd
  rw[h.gM]
  obtain⟨_,e,-⟩:=ib (f:=fun w:Int×(List aE)=>Ah p.gl (n:Int) p.dY p.ea p.hf (n:Int) (ir aJ n) (cS aJ v) (gZ n (v.cm aJ (gV n c))) (gi aJ n v) (cc (-v.cm aJ (gV n c) n)).dl.cz (cc (-v.cm aJ (gV n c) n)).dl.b8 (cc (-v.cm aJ (gV n c) n)).eO w.1 w.2) (fun (j:Nat) (_:Unit)=>((j:Int),aN j fun _=>cc (0:Rat))) n (fun _ _=>True) (fun _=>aN n fun _=>cc (0:Rat))
   (fun j av _ _=>by refine⟨(),?_,trivial⟩;simp only;unfold Ah;refine dv (by omega) (aD (rF (n:=0) (k6.2 (by omega))) (bx (by simp only[dF,cj,List.length_singleton];omega) ?_));rw[fl (by omega),kU];rfl)
   (fun _ _=>by simp only;unfold Ah;exact en (by omega) rfl) () trivial
  exact e
 ·have s6:(((cS aJ v).length:Nat):Int)=(aJ:Int):=by unfold cS;rw[cj]
  simp only;rw[s6];unfold Ke
  obtain⟨_,e,-⟩:=ib (f:=fun w:Int×(List aE)=>Ai (aJ:Int) (n:Int) (ir aJ n) (cS aJ v) (gZ n (v.cm aJ (gV n c))) (gi aJ n v) (cc (-v.cm aJ (gV n c) n)).dl.cz (cc (-v.cm aJ (gV n c) n)).dl.b8 (cc (-v.cm aJ (gV n c) n)).eO w.1 w.2) (fun (i:Nat) (_:Unit)=>((i:Int),aN n fun j=>cc (v.g9 i n j))) aJ (fun _ _=>True) (fun _=>aN n fun j=>cc (v.g9 aJ n j))
   (fun i ad _ _=>by
     refine⟨(),?_,trivial⟩;have aU:=Gx.ju i ad;have lA:(cS aJ v).length=aJ:=cj ..;have lB:(ir aJ n).length=aJ:=cj ..;simp only;unfold Ai;refine dv (by omega) (bx (by rw[lA];omega) (aD (x:=((v.B i:Nat):Int)) (by rw[dx];exact hi ad) (bx (by rw[lB];omega) (aD (x:=some (i,n+1)) (by rw[dx];exact hi ad) (aD (x:=(i,n+1)) rfl (aD (x:=gY n v i) (f8 ad) (bx (by omega) (aD (x:=cc (v.T i n)) (by rw[dx];exact hi (by omega)) (aD (aeU ((zs.fits gw).1 i ad n (dE _))) (bx (by rw[cj];omega) (bx (by rw[cj,dx];omega) ?_)))))))))));rw[fl (by omega),dx,dG,kK];congr 3;refine eF fun j _=> ?_;rw[LB];by_cases e:j=v.B i
     ·rw[dw e,dw e.symm]
      rcases HA (inj zs) (n:=n) j i (by omega) with ⟨q,h1,o,-⟩|⟨-,o⟩
      ·have:=inj zs q (by omega) i ad (by omega);omega
      ·rw[o,Rat.zero_add]
     ·rw[dy e,dy fun x=>e x.symm,Rat.add_zero])
   (fun _ _=>by simp only;unfold Ai;exact en (by omega) rfl) () trivial
  exact e
 ·rw[bg,Rat.neg_neg]
def vr (k:Nat)(x:ed):List fs:=(if x.h5=2 then [] else [⟨(k:Int),1⟩])++(if x.h5=1 then [] else [⟨(k:Int),-1⟩])
def lQ (gr:List ed):Nat->List fs
 | 0=>[]
 | n+1=>lQ gr n++(match gr[n]? with
  | some x=>vr n x
  | none=>[])
theorem HB (gr:List ed): ∀n,(lQ gr n).length<=2*n
 | 0=>by simp[lQ]
 | n+1=>by
  have:=HB gr n;rw[lQ,dF]
  have o:(match gr[n]? with
   | some x=>vr n x
   | none=>[]).length<=2:=by
   split
   ·rename_i x _;unfold vr;rw[dF];split<;>split<;>simp
   ·simp
  omega
theorem TH {gr:List ed}: ∀ {n:Nat} {c:fs},n<=gr.length->c∈lQ gr n-> ∃k:Nat,c.nt=k/\k<n/\(c.qp=1\/c.qp = -1)
 | 0,c,_,h=>by simp[lQ] at h
 | n+1,c,aS,h=>by
  rw[lQ,List.mem_append] at h;rcases h with h|h
  ·obtain⟨k,h1,o,U⟩:=TH (by omega) h;exact⟨k,h1,by omega,U⟩
  ·rw[dz (by omega)] at h
   simp only[vr,List.mem_append] at h;rcases h with h|h
   ·split at h
    ·simp at h
    ·simp at h;subst h;exact⟨n,rfl,by omega,.inl rfl⟩
   ·split at h
    ·simp at h
    ·simp at h;subst h;exact⟨n,rfl,by omega,.inr rfl⟩
theorem Su (s:dg)(et:s.bO.length<=1000):Aa s=some (lQ s.bO s.bO.length):=by
 unfold Aa OB;rw[f9]
 obtain⟨x,e,-⟩:=ib (f:=fun w:Int×List fs=>zG s.bO (s.bO.length:Nat) w.1 w.2) (fun (n:Nat) (_:Unit)=>((n:Int),lQ s.bO n)) s.bO.length (fun _ _=>True) (fun _=>lQ s.bO s.bO.length)
  (fun n aS _ _=>by
    refine⟨(),?_,trivial⟩;have ab:=dz aS;have aX:=HB s.bO n;have e1:lQ s.bO (n+1)=lQ s.bO n++vr n s.bO[n]:=(by rw[lQ,ab]);unfold zG;refine dv (by simp only;omega) (bx (by simp only;omega) (aD (x:=s.bO[n]) (by simp only;rw[dx];exact ab) ?_));simp only;rw[fl (by omega),e1];unfold vr;by_cases bo:s.bO[n].h5=2
    ·rw[dw bo];refine gn (yW bo) (fr (vx (by omega)) (bx (by simp only[dF,List.length_cons,List.length_nil];omega) ?_));rw[dy (by omega)];simp
    ·rw[dy bo]
     refine fr (vx bo) (bx (by simp only[dF,List.length_cons,List.length_nil];omega) ?_);by_cases cq:s.bO[n].h5=1
     ·refine gn (yW cq) ?_;rw[dw cq];simp
     ·refine fr (vx cq) (bx (by simp only[dF,List.length_cons,List.length_nil];omega) ?_);rw[dy cq];simp)
  (fun _ _=>by unfold zG;exact en (by simp) rfl) () trivial
 exact aD e rfl
theorem Rw (s:dg)(et:s.bO.length<=1000):uM s=some ((lQ s.bO s.bO.length).map fs.nt,(lQ s.bO s.bO.length).map fs.qp):=by
 unfold uM PG;rw[f9]
 obtain⟨x,e,-⟩:=ib (f:=fun w:Int×ar×ar=>zZ s.bO (s.bO.length:Nat) w.1 w.2.1 w.2.2) (fun (n:Nat) (_:Unit)=>((n:Int),(lQ s.bO n).map fs.nt,(lQ s.bO n).map fs.qp)) s.bO.length (fun _ _=>True) (fun _=>((lQ s.bO s.bO.length).map fs.nt,(lQ s.bO s.bO.length).map fs.qp))
  (fun n aS _ _=>by
    refine⟨(),?_,trivial⟩;have ab:=dz aS;have aX:=HB s.bO n;have e1:lQ s.bO (n+1)=lQ s.bO n++vr n s.bO[n]:=(by rw[lQ,ab]);unfold zZ;refine dv (by simp only;omega) (bx (by simp only;omega) (aD (x:=s.bO[n]) (by simp only;rw[dx];exact ab) ?_));simp only;rw[fl (by omega),e1];unfold vr;by_cases bo:s.bO[n].h5=2
    ·rw[dw bo];refine gn (yW bo) (fr (vx (by omega)) (bx (by simp only[dF,List.length_map,List.length_cons,List.length_nil];omega) (bx (by simp only[dF,List.length_map,List.length_cons,List.length_nil];omega) ?_)));rw[dy (by omega)];simp
    ·rw[dy bo]
     refine fr (vx bo) (bx (by simp only[dF,List.length_map,List.length_cons,List.length_nil];omega) (bx (by simp only[dF,List.length_map,List.length_cons,List.length_nil];omega) ?_));by_cases cq:s.bO[n].h5=1
     ·refine gn (yW cq) ?_;rw[dw cq];simp
     ·refine fr (vx cq) (bx (by simp only[dF,List.length_map,List.length_cons,List.length_nil];omega) (bx (by simp only[dF,List.length_map,List.length_cons,List.length_nil];omega) ?_));rw[dy cq];simp)
  (fun _ _=>by unfold zZ;exact en (by simp) rfl) () trivial
 exact aD e rfl
theorem aeV {α:Type}(a b:Nat)(f:Nat->α):aN (a+b) f=aN a f++aN b (fun j=>f (a+j)):=by
 induction b with
 | zero=>simp[aN]
 | succ b ih=>rw[<- Nat.add_assoc,kU,ih,kU,List.append_assoc]
def nz (s:dg)(k:Nat):Int×Int:=(tM s k).getD (0,0)
theorem LD (s:dg)(h:oC s)(k:Nat)(aY:k<s.bO.length):tM s k=some (nz s k)/\(-100<=(nz s k).1/\(nz s k).1<=100)/\(-100<=(nz s k).2/\(nz s k).2<=100):=by
 obtain⟨x,y,h1,U,ak⟩:=aeL s h k (by omega) (by omega);have e:nz s k=(x,y):=by unfold nz;rw[h1];rfl
 rw[e];exact⟨h1,U,ak⟩
def jL (s:dg)(j:Int)(kn k:Nat):Int :=
 match s.bO[k]? with
 | none=>0
 | some x=>if j=x.dY then (if kn=0 then (nz s k).1 else (nz s k).2) else if j=x.ea then -(if kn=0 then (nz s k).1 else (nz s k).2) else 0
theorem afG (s:dg)(h:oC s)(j:Int)(kn k:Nat): -100<=jL s j kn k/\jL s j kn k<=100:=by
 unfold jL;split
 ·omega
 ·rename_i x ab
  obtain⟨-,U,ak⟩:=LD s h k (gB ab);split
  ·split<;>omega
  ·split
   ·split<;>omega
   ·omega
theorem aeW (s:dg)(h:oC s)(j:Int)(q1:ar)(aV bQ:Int)(cr:ar):
 Kg j q1 aV bQ s.bO (len_ cy s.bO) s.cp cr 0 ([]:ar) ([]:ar)=some (aN s.bO.length (jL s j 0),aN s.bO.length (jL s j 1)):=by
 obtain⟨-,-,f3,f4⟩:=id h;unfold Kg;rw[f9]
 obtain⟨x,e,-⟩:=ib (f:=fun w:Int×ar×ar=>Ak j q1 aV bQ s.bO (s.bO.length:Nat) s.cp cr w.1 w.2.1 w.2.2) (fun (n:Nat) (_:Unit)=>((n:Int),aN n (jL s j 0),aN n (jL s j 1))) s.bO.length (fun _ _=>True) (fun _=>(aN s.bO.length (jL s j 0),aN s.bO.length (jL s j 1)))
  (fun n aS _ _=>by
    refine⟨(),?_,trivial⟩;have ab:=dz aS;obtain⟨v1,v3,v4⟩:=LD s h n aS;have v2:=aeM s h n (by omega) (by omega) v1;unfold Ak;refine dv (by simp only;omega) (bx (by simp only;omega) (aD (x:=s.bO[n]) (by simp only;rw[dx];exact ab) (aD (x:=nz s n) v2 ?_)));simp only;rw[fl (by omega),kU,kU];have g : ∀(F:Nat->Int) (v:Int),(aN n F++[v]).length*8<=140737488355328:=fun F v=>(by simp only[dF,cj,List.length_cons,List.length_nil];omega);by_cases bo:j=s.bO[n].dY
    ·have e0 : ∀kn,jL s j kn n=if kn=0 then (nz s n).1 else (nz s n).2:=fun kn=>(by unfold jL;rw[ab];simp only[dw bo]);refine fr (rZ bo) (bx (g _ _) (bx (g _ _) ?_));rw[e0,e0];rfl
    ·refine gn (uA bo) ?_
     by_cases cq:j=s.bO[n].ea
     ·have e0 : ∀kn,jL s j kn n = -(if kn=0 then (nz s n).1 else (nz s n).2):=fun kn=>(by unfold jL;rw[ab];simp only[dy bo,dw cq]);refine fr (rZ cq) (bx (g _ _) (bx (g _ _) ?_));rw[e0,e0,cV (by omega) (by omega),cV (by omega) (by omega)];simp
     ·have e0 : ∀kn,jL s j kn n=0:=fun kn=>(by unfold jL;rw[ab];simp only[dy bo,dy cq]);refine gn (uA cq) (bx (g _ _) (bx (g _ _) ?_));rw[e0,e0])
  (fun _ _=>by unfold Ak;exact en (by simp) rfl) () trivial
 exact e
theorem aeX (s:dg)(h:oC s)(j:Int)(q1:ar)(aV bQ:Int)(cr:List ar):
 Jq s.cp s.bO j q1 aV bQ (len_ cy s.bO) cr 0 (aN s.bO.length fun _=>(0:Int)) (aN s.bO.length fun _=>(0:Int))=some (aN s.bO.length (jL s j 0),aN s.bO.length (jL s j 1)):=by
 obtain⟨-,-,f3,f4⟩:=id h;unfold Jq;rw[f9]
 obtain⟨x,e,-⟩:=ib (f:=fun w:Int×ar×ar=>zB s.cp s.bO j q1 aV bQ (s.bO.length:Nat) cr w.1 w.2.1 w.2.2) (fun (n:Nat) (_:Unit)=>((n:Int),(aN s.bO.length fun k=>if k<n then jL s j 0 k else 0),aN s.bO.length fun k=>if k<n then jL s j 1 k else 0)) s.bO.length (fun _ _=>True) (fun _=>(aN s.bO.length (jL s j 0),aN s.bO.length (jL s j 1)))
  (fun n aS _ _=>by
    refine⟨(),?_,trivial⟩;have ab:=dz aS;obtain⟨v1,v3,v4⟩:=LD s h n aS
    have c1 : ∀kn v,v=jL s j kn n->(aN s.bO.length fun k=>if k<n then jL s j kn k else 0).set n v=aN s.bO.length fun k=>if k<n+1 then jL s j kn k else 0:=fun kn v bg=>by
     rw[kK];refine eF fun k _=> ?_;by_cases c:k=n
     ·subst c;rw[dw rfl,dw (by omega)];exact bg
     ·rw[dy c]
      by_cases cq:k<n
      ·rw[dw cq,dw (by omega)]
      ·rw[dy cq,dy (by omega)]
    have g1 : ∀F:Nat->Int,0<=((n:Nat):Int)/\((n:Nat):Int)<((aN s.bO.length F).length:Nat):=fun F=>(by rw[cj];omega);have g2 : ∀F:Nat->Int,0+((n:Nat):Int).toNat<(aN s.bO.length F).length:=fun F=>(by rw[cj,dx];omega);unfold zB;refine dv (by simp only;omega) (bx (by simp only;omega) (aD (x:=s.bO[n]) (by simp only;rw[dx];exact ab) (aD (x:=nz s n) v1 ?_)));simp only;by_cases bo:j=s.bO[n].dY
    ·have e0 : ∀kn,jL s j kn n=if kn=0 then (nz s n).1 else (nz s n).2:=fun kn=>(by unfold jL;rw[ab];simp only[dw bo]);refine fr (rZ bo) (bx (g1 _) (bx (g2 _) (bx (g1 _) (bx (g2 _) ?_))));rw[fl (by omega),dx,dG,c1 0 _ (by rw[e0];rfl),c1 1 _ (by rw[e0];rfl)]
    ·refine gn (uA bo) ?_
     by_cases cq:j=s.bO[n].ea
     ·have e0 : ∀kn,jL s j kn n = -(if kn=0 then (nz s n).1 else (nz s n).2):=fun kn=>(by unfold jL;rw[ab];simp only[dy bo,dw cq]);refine fr (rZ cq) (bx (g1 _) (bx (g2 _) (bx (g1 _) (bx (g2 _) ?_))));rw[fl (by omega),dx,dG,cV (by omega) (by omega),cV (by omega) (by omega),c1 0 _ (by rw[e0];simp),c1 1 _ (by rw[e0];simp)]
     ·have e0 : ∀kn,jL s j kn n=0:=fun kn=>by unfold jL;rw[ab];simp only[dy bo,dy cq]
      refine gn (uA cq) ?_;rw[fl (by omega)];congr 4
      ·refine eF fun k _=> ?_
       by_cases c:k=n
       ·subst c;rw[dy (by omega),dw (by omega),e0]
       ·by_cases cq:k<n
        ·rw[dw cq,dw (by omega)]
        ·rw[dy cq,dy (by omega)]
      ·refine eF fun k _=> ?_
       by_cases c:k=n
       ·subst c;rw[dy (by omega),dw (by omega),e0]
       ·by_cases cq:k<n
        ·rw[dw cq,dw (by omega)]
        ·rw[dy cq,dy (by omega)])
  (fun _ _=>by
    unfold zB;refine en (by simp) ?_;simp only;congr 3
    ·exact eF fun k aY=>by rw[dw aY]
    ·exact eF fun k aY=>by rw[dw aY]) () trivial
 have z : ∀kn,(aN s.bO.length fun k=>if k<0 then jL s j kn k else 0)=aN s.bO.length fun _=>(0:Int):=fun kn=>eF fun k _=>by rw[dy (by omega)]
 rw[z,z] at e;exact e
def iM (s:dg)(q:Nat):Nat:=(l3 s.cp 0).getD q 0
def fh (s:dg):Nat:=(l3 s.cp 0).length
def lz (s:dg)(r k:Nat):Int:=jL s (iM s (r / 2)) (r % 2) k
theorem Ei (s:dg):(l3 s.cp 0).map (fun n:Nat=>(n:Int))=aN (fh s) fun q=>((iM s q:Nat):Int):=by
 apply List.ext_getElem?;intro q;rw[dJ];by_cases c:q<fh s
 ·rw[f8 c];have h:(l3 s.cp 0)[q]? = some (l3 s.cp 0)[q]:=dz c;unfold iM;rw[List.getD_eq_getElem?_getD,h];rfl
 ·rw[List.getElem?_eq_none_iff.2 (by unfold fh at c;omega),List.getElem?_eq_none_iff.2 (by rw[cj];omega)];rfl
theorem UQ (s:dg){q:Nat}(h:q<fh s):iM s q<s.cp.length:=by
 have h1:(l3 s.cp 0)[q]? = some (l3 s.cp 0)[q]:=dz h;have o:iM s q=(l3 s.cp 0)[q]:=by unfold iM;rw[List.getD_eq_getElem?_getD,h1];rfl
 have:=Lw s.cp 0 _ (dH h1);omega
theorem B6 (s:dg):fh s<=s.cp.length:=Tw s.cp 0
theorem LP {α:Type}(r n:Nat)(e:Nat->Nat->α):(aN (r*n) fun x=>e (x / n) (x % n))++aN n (e r)=aN ((r+1)*n) fun x=>e (x / n) (x % n):=by
 rw[Nat.succ_mul,aeV];congr 1;refine eF fun j av=> ?_;have h1:(r*n+j) / n=r:=by rw[Nat.mul_comm,Nat.mul_add_div (by omega),Nat.div_eq_of_lt av];rfl
 have o:(r*n+j) % n=j:=by rw[Nat.mul_comm,Nat.mul_add_mod,Nat.mod_eq_of_lt av]
 rw[h1,o]
theorem acw (s:dg)(h:oC s):xz s=some (aN (2*fh s*s.bO.length) fun x=>lz s (x / s.bO.length) (x % s.bO.length)):=by
 obtain⟨-,-,f3,f4⟩:=id h;have wW:=B6 s;unfold xz;refine aD (K6 s (by omega)) ?_;rw[Ei,fX,cj];unfold QH
 obtain⟨x,e,-⟩:=ib (f:=fun w:Int×ar=>Al (aN (fh s) fun q=>((iM s q:Nat):Int)) ((fh s:Nat):Int) s.cp s.bO w.1 w.2) (fun (n:Nat) (_:Unit)=>((n:Int),aN (2*n*s.bO.length) fun x=>lz s (x / s.bO.length) (x % s.bO.length))) (fh s) (fun _ _=>True) (fun _=>aN (2*fh s*s.bO.length) fun x=>lz s (x / s.bO.length) (x % s.bO.length))
  (fun n aS _ _=>by refine⟨(),?_,trivial⟩;have aU:2*n*s.bO.length<=12*8:=Nat.mul_le_mul (by omega) f4;unfold Al;refine dv (by simp only;omega) (bx (by rw[cj];simp only;omega) (aD (x:=((iM s n:Nat):Int)) (by simp only;rw[dx];exact f8 aS) (aD (aeW s h _ _ _ _ _) ?_)));refine bx (by simp only[dF,cj];omega) (bx (by simp only[dF,cj];omega) ?_);simp only;rw[fl (by omega)];have r1:aN s.bO.length (jL s (iM s n) 0)=aN s.bO.length (lz s (2*n)):=eF fun k _=>(by unfold lz;rw[show 2*n / 2=n by omega,show 2*n % 2=0 by omega]);have bR:aN s.bO.length (jL s (iM s n) 1)=aN s.bO.length (lz s (2*n+1)):=eF fun k _=>(by unfold lz;rw[show (2*n+1) / 2=n by omega,show (2*n+1) % 2=1 by omega]);rw[r1,bR,LP (2*n),LP (2*n+1),show 2*n+1+1=2*(n+1) by omega])
  (fun _ _=>by unfold Al;exact en (by simp) rfl) () trivial
 have z:(aN (2*0*s.bO.length) fun x=>lz s (x / s.bO.length) (x % s.bO.length))=[]:=by simp[aN]
 rw[z] at e;exact aD e rfl
theorem aaO (s:dg)(h:oC s):CS s=some (aN (2*fh s) fun r=>aN s.bO.length (lz s r)):=by
 obtain⟨-,-,f3,f4⟩:=id h;have wW:=B6 s;unfold CS;refine aD (Rv s (by omega)) ?_;rw[Ei,fX,cj];unfold On
 obtain⟨x,e,-⟩:=ib (f:=fun w:Int×List ar=>zC s.cp s.bO (aN (fh s) fun q=>((iM s q:Nat):Int)) ((fh s:Nat):Int) w.1 w.2) (fun (n:Nat) (_:Unit)=>((n:Int),aN (2*n) fun r=>aN s.bO.length (lz s r))) (fh s) (fun _ _=>True) (fun _=>aN (2*fh s) fun r=>aN s.bO.length (lz s r))
  (fun n aS _ _=>by refine⟨(),?_,trivial⟩;unfold zC;refine dv (by simp only;omega) (bx (by rw[cj];simp only;omega) (aD (x:=((iM s n:Nat):Int)) (by simp only;rw[dx];exact f8 aS) (bx (by rw[f9];omega) ?_)));refine aD (x:=(aN s.bO.length (jL s (iM s n) 0),aN s.bO.length (jL s (iM s n) 1))) (by rw[show (len_ cy s.bO).toNat=s.bO.length by rw[f9,dx],rE];exact aeX s h _ _ _ _ _) (bx (by simp only[dF,cj,List.length_cons,List.length_nil];omega) ?_);simp only;rw[fl (by omega),show 2*(n+1)=2*n+1+1 by omega,kU (2*n+1),kU (2*n)];have r1:aN s.bO.length (jL s (iM s n) 0)=aN s.bO.length (lz s (2*n)):=eF fun k _=>(by unfold lz;rw[show 2*n / 2=n by omega,show 2*n % 2=0 by omega]);have bR:aN s.bO.length (jL s (iM s n) 1)=aN s.bO.length (lz s (2*n+1)):=eF fun k _=>(by unfold lz;rw[show (2*n+1) / 2=n by omega,show (2*n+1) % 2=1 by omega]);rw[r1,bR];simp)
  (fun _ _=>by unfold zC;exact en (by simp) rfl) () trivial
 exact aD e rfl
def gM (s:dg):List fs:=lQ s.bO s.bO.length
def cK (s:dg):Nat:=(gM s).length
def kT (s:dg)(c:Nat):Nat:=((gM s).getD c ⟨0,0⟩).nt.toNat
def nm (s:dg)(c:Nat):Int:=((gM s).getD c ⟨0,0⟩).qp
def lE (s:dg)(i c:Nat):Int:=nm s c*lz s i (kT s c)
def nn (s:dg)(l:ar)(i:Nat):Int:= -(l.getD (2*iM s (i / 2)+i % 2) 0)
theorem u7 (s:dg){c:Nat}(a3:c<cK s):(gM s)[c]? = some ⟨(kT s c:Int),nm s c⟩/\kT s c<s.bO.length/\(nm s c=1\/nm s c = -1):=by
 have h1:(gM s)[c]? = some (gM s)[c]:=dz a3;have o:(gM s).getD c ⟨0,0⟩=(gM s)[c]:=by rw[List.getD_eq_getElem?_getD,h1];rfl
 obtain⟨k,e1,aB,bP⟩:=TH (dE _) (dH h1);have dd:kT s c=k:=by unfold kT;rw[o,e1];rfl
 have dW:nm s c=((gM s)[c]).qp:=by unfold nm;rw[o]
 refine⟨?_,by omega,by rw[dW];exact bP⟩;rw[h1,dd,dW,<- e1]
theorem B7 (s:dg):cK s<=2*s.bO.length:=HB _ _
theorem Ui (s:dg):(gM s).map fs.nt=aN (cK s) fun c=>((kT s c:Nat):Int):=by
 apply List.ext_getElem?;intro c;rw[dJ];by_cases h:c<cK s
 ·rw[(u7 s h).1,f8 h];rfl
 ·rw[List.getElem?_eq_none_iff.2 (by unfold cK at h;omega),List.getElem?_eq_none_iff.2 (by rw[cj];omega)];rfl
theorem Uj (s:dg):(gM s).map fs.qp=aN (cK s) (nm s):=by
 apply List.ext_getElem?;intro c;rw[dJ];by_cases h:c<cK s
 ·rw[(u7 s h).1,f8 h];rfl
 ·rw[List.getElem?_eq_none_iff.2 (by unfold cK at h;omega),List.getElem?_eq_none_iff.2 (by rw[cj];omega)];rfl
theorem Mp (s:dg)(h:oC s)(i:Nat){c:Nat}(a3:c<cK s): -100<=lE s i c/\lE s i c<=100:=by have h1:=afG s h (iM s (i / 2)) (i % 2) (kT s c);unfold lE lz;rcases(u7 s a3).2.2 with e|e<;>rw[e]<;>omega
theorem aer (s:dg)(h:oC s)(l:ar)(aX:l.length=2*s.cp.length)(aU:∀x∈l,-100<=x/\x<=100):vX s l=some (aN (2*fh s) (nn s l)):=by
 obtain⟨-,-,f3,f4⟩:=id h;have wW:=B6 s;unfold vX;refine aD (K6 s (by omega)) ?_;rw[Ei,fX,cj];unfold Qn
 obtain⟨x,e,-⟩:=ib (f:=fun w:Int×ar=>Ac l (aN (fh s) fun q=>((iM s q:Nat):Int)) ((fh s:Nat):Int) w.1 w.2) (fun (n:Nat) (_:Unit)=>((n:Int),aN (2*n) (nn s l))) (fh s) (fun _ _=>True) (fun _=>aN (2*fh s) (nn s l))
  (fun n aS _ _=>by refine⟨(),?_,trivial⟩;have cl:=UQ s aS;have sd:R ((2:Int)*((iM s n:Nat):Int))=((2*iM s n:Nat):Int):=(by rw[cV (by omega) (by omega)];omega);have w2:R (((2*iM s n:Nat):Int)+1)=((2*iM s n+1:Nat):Int):=fl (by omega);have x1:=aU l[2*iM s n] (List.getElem_mem (by omega));have eH:=aU l[2*iM s n+1] (List.getElem_mem (by omega));have p1:nn s l (2*n) = -l[2*iM s n]:=(by unfold nn;rw[show 2*n / 2=n by omega,show 2*n % 2=0 by omega,Nat.add_zero,List.getD_eq_getElem?_getD,dz (by omega)];rfl);have hM:nn s l (2*n+1) = -l[2*iM s n+1]:=(by unfold nn;rw[show (2*n+1) / 2=n by omega,show (2*n+1) % 2=1 by omega,List.getD_eq_getElem?_getD,dz (by omega)];rfl);unfold Ac;refine dv (by simp only;omega) (bx (by rw[cj];simp only;omega) (aD (x:=((iM s n:Nat):Int)) (by simp only;rw[dx];exact f8 aS) ?_));rw[sd,w2];refine bx (by omega) (aD (x:=l[2*iM s n]) (by rw[dx];exact dz (by omega)) (bx (by omega) (aD (x:=l[2*iM s n+1]) (by rw[dx];exact dz (by omega)) (bx (by simp only[dF,cj,List.length_cons,List.length_nil];omega) ?_))));simp only;rw[fl (by omega),cV (by omega) (by omega),cV (by omega) (by omega),show 2*(n+1)=2*n+1+1 by omega,kU (2*n+1),kU (2*n),p1,hM];simp)
  (fun _ _=>by unfold Ac;exact en (by simp) rfl) () trivial
 exact aD e rfl
def pC (s:dg)(l:ar):iN:=⟨((2*fh s:Nat):Int),(cK s:Int),aN (2*fh s*cK s) (fun x=>lE s (x / cK s) (x % cK s)),aN (2*fh s) (nn s l),aN (cK s) fun _=>0⟩
theorem Me (s:dg)(h:oC s)(l:ar)(aU:∀x∈l,-100<=x/\x<=100):ly (pC s l) (2*fh s) (cK s) (lE s) (nn s l) where
 rows:=rfl
 gM:=rfl
 hd:=cj ..
 Cf:=fun i ad j av=>by have h1:i*cK s+j<2*fh s*cK s:=(by have:(i+1)*cK s<=2*fh s*cK s:=dL _ ad;rw[Nat.succ_mul] at this;omega);show (aN _ _)[_]? = _;rw[f8 h1];have o:(i*cK s+j) / cK s=i:=(by rw[Nat.mul_comm,Nat.mul_add_div (by omega),Nat.div_eq_of_lt av];rfl);have U:(i*cK s+j) % cK s=j:=(by rw[Nat.mul_comm,Nat.mul_add_mod,Nat.mod_eq_of_lt av]);rw[o,U]
 w3:=cj ..
 Fl:=fun i ad=>f8 ad
 hm:=by obtain⟨-,-,f3,f4⟩:=id h;have:=B6 s;omega
 aS:=by obtain⟨-,-,f3,f4⟩:=id h;have:=B7 s;omega
 uH:=fun i _ j av=>Mp s h i av
 s6:=fun i _=>by
  unfold nn;rw[List.getD_eq_getElem?_getD]
  cases c:l[2*iM s (i / 2)+i % 2]? with
  | none=>simp
  | some x =>
   have:=aU x (dH c);simp only[Option.getD_some];omega
theorem KJ (s:dg)(h:oC s)(l:ar)(aX:l.length=2*s.cp.length)(aU:∀x∈l,-100<=x/\x<=100):vW s l=some (pC s l):=by
 obtain⟨-,-,f3,f4⟩:=id h;have wW:=B6 s;have nM:=B7 s;unfold vW;refine aD (Rw s (by omega)) (aD (acw s h) (aD (K6 s (by omega)) (aD (aer s h l aX aU) ?_)));show (if 0<=len_ eI ((gM s).map fs.nt)/\_ then _ else none)=_;rw[Ei]
 show (if 0<=len_ eI ((gM s).map fs.nt)/\(8:Int)*len_ eI ((gM s).map fs.nt)<=281474976710656/\len_ eI ((gM s).map fs.nt)<9223372036854775808 then
  AK ((gM s).map fs.nt) ((gM s).map fs.qp) (len_ cy s.bO) _ (R ((2:Int)*len_ eI (aN (fh s) fun q=>((iM s q:Nat):Int)))) (len_ eI ((gM s).map fs.nt)) (aN (2*fh s) (nn s l)) (List.replicate (len_ eI ((gM s).map fs.nt)).toNat 0) 0 [] >>= fun dq=>some (⟨R ((2:Int)*len_ eI (aN (fh s) fun q=>((iM s q:Nat):Int))),len_ eI ((gM s).map fs.nt),dq,aN (2*fh s) (nn s l),List.replicate (len_ eI ((gM s).map fs.nt)).toNat 0⟩:iN) else none)=_
 rw[Ui,Uj,fX,cj,fX,cj,dx,f9,show R ((2:Int)*(fh s:Nat))=((2*fh s:Nat):Int) by rw[cV (by omega) (by omega)];omega,rE];refine bx (by omega) (aD (x:=aN (2*fh s*cK s) (fun x=>lE s (x / cK s) (x % cK s))) ?_ rfl);unfold AK
 obtain⟨x,e,-⟩:=ib (f:=fun w:Int×ar=>z1 (aN (cK s) fun c=>((kT s c:Nat):Int)) (aN (cK s) (nm s)) (s.bO.length:Nat) (aN (2*fh s*s.bO.length) fun x=>lz s (x / s.bO.length) (x % s.bO.length)) ((2*fh s:Nat):Int) ((cK s:Nat):Int) (aN (2*fh s) (nn s l)) (aN (cK s) fun _=>0) w.1 w.2) (fun (i:Nat) (_:Unit)=>((i:Int),aN (i*cK s) (fun x=>lE s (x / cK s) (x % cK s)))) (2*fh s) (fun _ _=>True) (fun _=>aN (2*fh s*cK s) (fun x=>lE s (x / cK s) (x % cK s)))
  (fun i ad _ _=>by
    refine⟨(),?_,trivial⟩;have Wc:i*cK s<=12*16:=Nat.mul_le_mul (by omega) (by omega);have nb:i*s.bO.length<=12*8:=Nat.mul_le_mul (by omega) f4
    obtain⟨y,aB,-⟩:=ib (f:=fun w:Int×ar=>z0 (aN (cK s) fun c=>((kT s c:Nat):Int)) (aN (cK s) (nm s)) (s.bO.length:Nat) (aN (2*fh s*s.bO.length) fun x=>lz s (x / s.bO.length) (x % s.bO.length)) (i:Int) ((cK s:Nat):Int) ((2*fh s:Nat):Int) ((cK s:Nat):Int) (aN (2*fh s) (nn s l)) (aN (cK s) fun _=>0) w.1 w.2)
     (fun (c:Nat) (_:Unit)=>((c:Int),(aN (i*cK s) fun x=>lE s (x / cK s) (x % cK s))++aN c (lE s i))) (cK s) (fun _ _=>True) (fun _=>(aN (i*cK s) fun x=>lE s (x / cK s) (x % cK s))++aN (cK s) (lE s i))
     (fun c a3 _ _=>by refine⟨(),?_,trivial⟩;obtain⟨-,k2,mK⟩:=u7 s a3;have ri:(i+1)*s.bO.length<=2*fh s*s.bO.length:=dL _ ad;rw[Nat.succ_mul] at ri;have jz:R (R ((i:Int)*((s.bO.length:Nat):Int))+((kT s c:Nat):Int))=((i*s.bO.length+kT s c:Nat):Int):=(by rw[<- Int.natCast_mul,cV (x:=((i*s.bO.length:Nat):Int)) (by omega) (by omega),cV (by omega) (by omega)];omega);have o:(i*s.bO.length+kT s c) / s.bO.length=i:=(by rw[Nat.mul_comm,Nat.mul_add_div (by omega),Nat.div_eq_of_lt k2];rfl);have U:(i*s.bO.length+kT s c) % s.bO.length=kT s c:=(by rw[Nat.mul_comm,Nat.mul_add_mod,Nat.mod_eq_of_lt k2]);have ain:=Mp s h i a3;unfold z0;refine dv (by simp only;omega) (bx (by rw[cj];simp only;omega) (aD (x:=((kT s c:Nat):Int)) (by simp only;rw[dx];exact f8 a3) (bx (by rw[cj];simp only;omega) (aD (x:=nm s c) (by simp only;rw[dx];exact f8 a3) ?_))));rw[jz];refine bx (by rw[cj];omega) (aD (x:=lz s i (kT s c)) (by rw[dx,f8 (by omega),o,U]) (bx (by simp only[dF,cj,List.length_cons,List.length_nil];omega) ?_));simp only;rw[fl (by omega),kU,show nm s c*lz s i (kT s c)=lE s i c from rfl,cV (by omega) (by omega),List.append_assoc])
     (fun _ _=>by unfold z0;exact en (by simp) rfl) () trivial
    have z:(aN (i*cK s) fun x=>lE s (x / cK s) (x % cK s))++aN 0 (lE s i)=aN (i*cK s) fun x=>lE s (x / cK s) (x % cK s):=(by simp[aN]);rw[z] at aB;unfold z1;refine dv (by simp only;omega) (aD (x:=(aN (i*cK s) fun x=>lE s (x / cK s) (x % cK s))++aN (cK s) (lE s i)) (by unfold PI;rw[fX,cj];exact aB) ?_);simp only;rw[fl (by omega),LP])
  (fun _ _=>by unfold z1;exact en (by simp) rfl) () trivial
 have z:(aN (0*cK s) fun x=>lE s (x / cK s) (x % cK s))=[]:=by simp[aN]
 rw[z] at e;exact e
def w6 (s:dg)(r c:Nat):Int:=if r<2*fh s/\c<cK s then lE s r c else 0
def pD (s:dg)(l:ar)(r:Nat):Int:=if r<2*fh s then nn s l r else 0
def rn (s:dg)(N i c x:Nat):Int:=if (x / N<i\/(x / N=i/\x % N<c))/\x % N<cK s then lE s (x / N) (x % N) else 0
theorem afH (s:dg){T N i c:Nat}(a3:c<cK s)(fQ:cK s<=N)(h2:i*N+c<T){v:Int}(bg:v=lE s i c):(aN T (rn s N i c)).set (i*N+c) v=aN T (rn s N i (c+1)):=by
 have o:(i*N+c) / N=i:=by rw[Nat.mul_comm,Nat.mul_add_div (by omega),Nat.div_eq_of_lt (by omega)];rfl
 have U:(i*N+c) % N=c:=by rw[Nat.mul_comm,Nat.mul_add_mod,Nat.mod_eq_of_lt (by omega)]
 rw[kK];refine eF fun x _=> ?_;unfold rn;by_cases e:x=i*N+c
 ·rw[dw e,e,o,U,dw ⟨.inr ⟨rfl,by omega⟩,a3⟩,bg]
 ·rw[dy e]
  have c6 : ¬(x / N=i/\x % N=c):=fun ⟨a,b⟩=>e (by rw[<- Nat.div_add_mod x N,a,b,Nat.mul_comm]);by_cases d:(x / N<i\/(x / N=i/\x % N<c))/\x % N<cK s
  ·rw[dw d,dw ⟨by omega,d.2⟩]
  ·rw[dy d,dy (fun zo=>d ⟨by omega,zo.2⟩)]
theorem afI (s:dg)(T N i:Nat):aN T (rn s N i (cK s))=aN T (rn s N (i+1) 0):=by
 refine eF fun x _=> ?_;unfold rn;by_cases d:(x / N<i\/(x / N=i/\x % N<cK s))/\x % N<cK s
 ·rw[dw d,dw ⟨by omega,d.2⟩]
 ·rw[dy d,dy (fun zo=>d ⟨by omega,zo.2⟩)]
theorem aeY (s:dg)(T N:Nat):aN T (rn s N 0 0)=aN T fun _=>0:=eF fun x _=>by unfold rn;rw[dy (fun h=>by rcases h.1 with h|h;exact Nat.not_lt_zero _ h;exact Nat.not_lt_zero _ h.2)]
theorem afJ (s:dg)(T N:Nat):aN T (rn s N (2*fh s) 0)=aN T fun x=>w6 s (x / N) (x % N):=eF fun x _=>by
 unfold rn w6;by_cases d:x / N<2*fh s/\x % N<cK s
 ·rw[dw d,dw ⟨.inl d.1,d.2⟩]
 ·rw[dy d,dy (fun zo=>d ⟨by omega,zo.2⟩)]
theorem aeZ (s:dg)(l:ar)(M:Nat):(aN M fun x=>if x<0 then pD s l x else 0)=aN M fun _=>0:=eF fun j _=>by rw[dy (by omega)]
theorem afK (s:dg)(l:ar)(M:Nat):(aN M fun x=>if x<2*fh s then pD s l x else 0)=aN M (pD s l):=eF fun j _=>by
 by_cases c:j<2*fh s
 ·rw[dw c]
 ·rw[dy c];unfold pD;rw[dy c]
theorem adq (s:dg)(h:oC s)(l:ar)(aX:l.length=2*s.cp.length)(aU:∀x∈l,-100<=x/\x<=100)(eR lF:Nat)(akK:eR<=100)(akL:lF<=100):
 w8 s l (eR:Int) (lF:Int)=some (((2*fh s+lF:Nat):Int),((cK s+eR:Nat):Int),aN ((2*fh s+lF)*(cK s+eR)) (fun x=>w6 s (x / (cK s+eR)) (x % (cK s+eR))),aN (2*fh s+lF) (pD s l),aN (cK s+eR) fun _=>0):=by
 obtain⟨-,-,f3,f4⟩:=id h;have wW:=B6 s;have nM:=B7 s;have akM:(2*fh s+lF)*(cK s+eR)<=112*116:=Nat.mul_le_mul (by omega) (by omega);unfold w8;refine aD (aaO s h) (aD (x:=gM s) (Su s (by omega)) ?_);have jz:R ((len_ (fg 1 eI) (aN (2*fh s) fun r=>aN s.bO.length (lz s r)))+(lF:Int))=((2*fh s+lF:Nat):Int):=by rw[f9,cj,cV (by omega) (by omega)];omega
 have sd:R ((len_ gO (gM s))+(eR:Int))=((cK s+eR:Nat):Int):=by rw[f9];show R (((cK s:Nat):Int)+(eR:Int))=_;rw[cV (by omega) (by omega)];omega
 have w2:R (((2*fh s+lF:Nat):Int)*((cK s+eR:Nat):Int))=(((2*fh s+lF)*(cK s+eR):Nat):Int):=by rw[<- Int.natCast_mul,cV (by omega) (by omega)]
 rw[jz,sd,w2,dx,dx,dx,rE,rE,rE,f9,cj];refine bx (by omega) (bx (by omega) (bx (by omega) ?_));refine aD (x:=aN ((2*fh s+lF)*(cK s+eR)) (fun x=>w6 s (x / (cK s+eR)) (x % (cK s+eR)))) ?_ ?_
 ·unfold Oh
  obtain⟨x,e,-⟩:=ib (f:=fun w:Int×ar=>zy s.cp s.bO l (gM s) (aN (2*fh s) fun r=>aN s.bO.length (lz s r)) ((2*fh s:Nat):Int) ((2*fh s+lF:Nat):Int) ((cK s+eR:Nat):Int) (aN (2*fh s+lF) fun _=>0) (aN (cK s+eR) fun _=>0) w.1 w.2) (fun (i:Nat) (_:Unit)=>((i:Int),aN ((2*fh s+lF)*(cK s+eR)) (rn s (cK s+eR) i 0))) (2*fh s) (fun _ _=>True) (fun _=>aN ((2*fh s+lF)*(cK s+eR)) (fun x=>w6 s (x / (cK s+eR)) (x % (cK s+eR))))
   (fun i ad _ _=>by
     refine⟨(),?_,trivial⟩;have FK:(i+1)*(cK s+eR)<=(2*fh s+lF)*(cK s+eR):=dL _ (by omega);rw[Nat.succ_mul] at FK
     obtain⟨y,aB,-⟩:=ib (f:=fun w:Int×ar=>zx s.cp s.bO l (gM s) (i:Int) (aN s.bO.length (lz s i)) (aN (2*fh s) fun r=>aN s.bO.length (lz s r)) ((2*fh s:Nat):Int) ((cK s:Nat):Int) ((2*fh s+lF:Nat):Int) ((cK s+eR:Nat):Int) (aN (2*fh s+lF) fun _=>0) (aN (cK s+eR) fun _=>0) w.1 w.2) (fun (c:Nat) (_:Unit)=>((c:Int),aN ((2*fh s+lF)*(cK s+eR)) (rn s (cK s+eR) i c))) (cK s) (fun _ _=>True) (fun _=>aN ((2*fh s+lF)*(cK s+eR)) (rn s (cK s+eR) i (cK s)))
      (fun c a3 _ _=>by refine⟨(),?_,trivial⟩;obtain⟨lX,k2,mK⟩:=u7 s a3;have ain:=Mp s h i a3;have aiX:R (R ((i:Int)*((cK s+eR:Nat):Int))+((c:Nat):Int))=((i*(cK s+eR)+c:Nat):Int):=(by rw[<- Int.natCast_mul,cV (x:=((i*(cK s+eR):Nat):Int)) (by omega) (by omega),cV (by omega) (by omega)];omega);unfold zx;refine dv (by simp only;omega) (bx (by show _/\((c:Nat):Int)<((cK s:Nat):Int);simp only;omega) (aD (x:=⟨(kT s c:Int),nm s c⟩) (by simp only;rw[dx];exact lX) (bx (by rw[cj];simp only;omega) (aD (x:=lz s i (kT s c)) (by simp only;rw[dx];exact f8 k2) ?_))));simp only;rw[aiX];refine bx (by rw[cj];omega) (bx (by rw[cj,dx];omega) ?_);rw[fl (by omega),dx,dG,show nm s c*lz s i (kT s c)=lE s i c from rfl,cV (by omega) (by omega),afH s a3 (by omega) (by omega) rfl])
      (fun _ _=>by unfold zx;exact en (by simp) rfl) () trivial
     unfold zy;refine dv (by simp only;omega) (bx (by rw[cj];simp only;omega) (aD (x:=aN s.bO.length (lz s i)) (by simp only;rw[dx];exact f8 ad) (aD (x:=aN ((2*fh s+lF)*(cK s+eR)) (rn s (cK s+eR) i (cK s))) (by unfold Og;rw[f9];exact aB) ?_)));simp only;rw[fl (by omega),afI])
   (fun _ _=>by unfold zy;refine en (by simp) ?_;simp only;rw[afJ]) () trivial
  rw[aeY] at e;exact e
 refine aD (Rv s (by omega)) ?_;rw[Ei,fX,cj];refine aD (x:=aN (2*fh s+lF) (pD s l)) ?_ rfl;unfold Oi
 obtain⟨x,e,-⟩:=ib (f:=fun w:Int×ar=>zz l (aN (fh s) fun q=>((iM s q:Nat):Int)) ((fh s:Nat):Int) ((2*fh s+lF:Nat):Int) ((cK s+eR:Nat):Int) (aN ((2*fh s+lF)*(cK s+eR)) (fun x=>w6 s (x / (cK s+eR)) (x % (cK s+eR)))) (aN (cK s+eR) fun _=>0) w.1 w.2) (fun (n:Nat) (_:Unit)=>((n:Int),aN (2*fh s+lF) fun x=>if x<2*n then pD s l x else 0)) (fh s) (fun _ _=>True) (fun _=>aN (2*fh s+lF) (pD s l))
  (fun n aS _ _=>by
    refine⟨(),?_,trivial⟩;have cl:=UQ s aS;have sd : ∀a:Nat,a<=1000->R ((2:Int)*((a:Nat):Int))=((2*a:Nat):Int):=fun a bI=>(by rw[cV (by omega) (by omega)];omega);have x1:=aU l[2*iM s n] (List.getElem_mem (by omega));have eH:=aU l[2*iM s n+1] (List.getElem_mem (by omega));have p1:pD s l (2*n) = -l[2*iM s n]:=(by unfold pD nn;rw[dw (by omega),show 2*n / 2=n by omega,show 2*n % 2=0 by omega,Nat.add_zero,List.getD_eq_getElem?_getD,dz (by omega)];rfl);have hM:pD s l (2*n+1) = -l[2*iM s n+1]:=by unfold pD nn;rw[dw (by omega),show (2*n+1) / 2=n by omega,show (2*n+1) % 2=1 by omega,List.getD_eq_getElem?_getD,dz (by omega)];rfl
    have c1 : ∀k v,v=pD s l k->(aN (2*fh s+lF) fun x=>if x<k then pD s l x else 0).set k v=aN (2*fh s+lF) fun x=>if x<k+1 then pD s l x else 0:=fun k v bg=>by
     rw[kK];refine eF fun j _=> ?_;by_cases c:j=k
     ·subst c;rw[dw rfl,dw (by omega)];exact bg
     ·rw[dy c]
      by_cases cq:j<k
      ·rw[dw cq,dw (by omega)]
      ·rw[dy cq,dy (by omega)]
    unfold zz;refine dv (by simp only;omega) (bx (by rw[cj];simp only;omega) (aD (x:=((iM s n:Nat):Int)) (by simp only;rw[dx];exact f8 aS) ?_));simp only;rw[sd (iM s n) (by omega),sd n (by omega),fl (n:=2*iM s n) (by omega),fl (n:=2*n) (by omega)];refine bx (by omega) (aD (x:=l[2*iM s n]) (by rw[dx];exact dz (by omega)) (bx (by omega) (aD (x:=l[2*iM s n+1]) (by rw[dx];exact dz (by omega)) ?_)));refine bx (by rw[cj];omega) (bx (by rw[cj,dx];omega) (bx (by rw[cj];omega) (bx (by rw[List.length_set,cj,dx];omega) ?_)));rw[fl (by omega),cV (x:=0-l[2*iM s n]) (by omega) (by omega),cV (x:=0-l[2*iM s n+1]) (by omega) (by omega),dx,dx,dG,dG,c1 _ _ (by rw[p1];omega),c1 _ _ (by rw[hM];omega),show 2*(n+1)=2*n+1+1 by omega])
  (fun _ _=>by unfold zz;refine en (by simp) ?_;simp only;rw[afK]) () trivial
 rw[Nat.mul_zero,aeZ] at e;exact e
theorem S5 (s:dg)(h:oC s)(l:ar)(aX:l.length=2*s.cp.length)(aU:∀x∈l,-100<=x/\x<=100):
 w8 s l 0 0=some ((pC s l).gl,(pC s l).fj,(pC s l).dY,(pC s l).ea,(pC s l).hf):=by
 have e:=adq s h l aX aU 0 0 (by omega) (by omega);rw[show ((0:Nat):Int)=0 from rfl] at e
 have hA:aN (2*fh s*cK s) (fun x=>w6 s (x / cK s) (x % cK s))=aN (2*fh s*cK s) (fun x=>lE s (x / cK s) (x % cK s)):=eF fun x ab=>by
  have nM:0<cK s:=by
   rcases Nat.eq_zero_or_pos (cK s) with c|c
   ·rw[c,Nat.mul_zero] at ab;omega
   ·exact c
  unfold w6;rw[dw ⟨Nat.div_lt_of_lt_mul (by rw[Nat.mul_comm];exact ab),Nat.mod_lt _ nM⟩]
 have fP:aN (2*fh s) (pD s l)=aN (2*fh s) (nn s l):=eF fun x ab=>by unfold pD;rw[dw ab]
 rw[e];simp only[Nat.add_zero,pC];rw[hA,fP]
theorem aes {x:Rat}(h:eW x):Bn (cc x)=some true:=by have p:=h.df;have h1:=p.pR;have o:=p.po;obtain⟨I,-,e,k⟩:=K5 (r:=cc x) (show (L (eu x).1.natAbs).length<=_ by omega) (show (L (eu x).2).length<=_ by omega);rw[e,k.2 ⟨eu x,p,rfl⟩]
theorem afL {x:Rat}(h:eW x):Hm (cc x)=some (iW x):=aD (aes h) (fr rfl rfl)
theorem afM (x:Rat):A1 (iW x)=some (m0 (eu x).1):=adg
theorem adr {x:Rat}(h:eW x):xC (cc x)=some (m0 (eu x).1):=aD (afL h) (aD (afM x) rfl)
theorem Es {x:Rat}(h:eW x):xL (iW x)=some (cc x):=by have p:=h.df;have h1:=p.pR;have o:=p.po;refine aD (I:=Da (nj (eu x)).rQ) (x:=gy (eu x).1) ?_ (aD (x:=L (eu x).2) (Lv (a:=L (eu x).2) (by omega)) rfl);unfold Da;exact en (by rw[fX];show ¬(60:Int)<((L ((eu x).1.natAbs:Int)).length:Nat);omega) (aD (x:=L ((eu x).1.natAbs:Int)) (Lv (a:=L ((eu x).1.natAbs:Int)) (by omega)) rfl)
theorem Vb (x:Rat):Ed (iW x)=some (iW (-x)):=by
 have e:rp (gy x.num)=some (gy (-x.num)):=by
  have:rp (gy x.num)=(mM (!(decide (x.num<0))) (L (x.num.natAbs:Int))).bind fun r=>some r:=rfl;rw[this,sv (by omega)]
  have:eM (!(decide (x.num<0))) (x.num.natAbs:Int) = -x.num:=by
   unfold eM;by_cases c:x.num<0
   ·rw[decide_eq_true c];simp;omega
   ·rw[decide_eq_false c];simp;omega
  rw[this];rfl
 refine aD (I:=rp (gy x.num)) e ?_;unfold iW eu;rw[Rat.neg_num,Rat.neg_den];rfl
theorem Ej:eW 0:=LN (n:=0) (by rw[k6];omega)
theorem ML:Dl 0=some (cc 0):=aD (HU (n:=0) (by rw[k6];omega)) (aD (Es Ej) rfl)
def iD (s:dg)(k sign:Int)(c:Nat):Int:=if (kT s c:Int)=k then sign*nm s c else 0
theorem ae0 (s:dg)(k:Int){sign:Int}(h:sign=1\/sign = -1){c:Nat}(a3:c<cK s): -1<=iD s k sign c/\iD s k sign c<=1:=by
 obtain⟨-,-,mK⟩:=u7 s a3;unfold iD;split
 ·rcases h with rfl|rfl<;>rcases mK with e|e<;>rw[e]<;>omega
 ·omega
theorem agc {p:iN}{m n:Nat}{a:Nat->Nat->Int}{b:Nat->Int}(h:ly p m n a b)(C:ar):ly ⟨p.gl,p.fj,p.dY,p.ea,C⟩ m n a b :=
 ⟨h.rows,h.gM,h.hd,h.Cf,h.w3,h.Fl,h.hm,h.aS,h.uH,h.s6⟩
def vO (s:dg)(x:Nat->Rat)(c k:Nat):Rat:=ct c fun j=>if kT s j=k then (nm s j:Rat)*x j else 0
structure agV (m n:Nat) (a:Nat->Nat->Int) (b:Nat->Int) (c:Nat->Rat) (x:Nat->Rat) (w:Rat):Prop where
 nZ:ue m n a b c x
 pos:0<w
 qO:dV (n2 100 m) w
 akX : ∀j,dV (n2 100 m) (x j*w)
 fit : ∀j,eW (x j)
theorem abp (s:dg)(i0:qS s)(h:sj s=some true)(l:ar)(aX:l.length=2*s.cp.length)(aU:∀x∈l,-100<=x/\x<=100):
 ∃r,(vW s l >>= fun p=>AV p)=some r/\CY s l=some r:=by
 have bg:=GM s i0 h;have ah:=Me s bg l aU;obtain⟨r,e1,aB⟩:=Rl ah (cj ..) (fun x ab=>by obtain⟨i,-,rfl⟩:=HM.1 ab;omega);obtain⟨q,q1,aV⟩:=TC ah;refine⟨r,aD (KJ s bg l aX aU) e1,?_⟩;unfold CY;refine aD (S5 s bg l aX aU) (aD q1 ?_);rcases aV with ⟨bK,t,aJ,g,eP,rfl,-⟩|⟨bK,rfl⟩
 ·rw[aB.2 bK]
 ·have:r=false:=by
   cases r
   ·rfl
   ·exact(bK (aB.1 rfl)).elim
  rw[this]
theorem R0 {zu:Nat}{l:ar}(h:tr zu l=true):l.length=2*zu/\ ∀x∈l,-100<=x/\x<=100:=by unfold tr at h;rw[dM,decide_eq_true_eq,List.all_eq_true] at h;exact⟨h.1,fun x ab=>by have:=h.2 x ab;unfold sE at this;simpa using this⟩
theorem S6 (s:dg)(i0:qS s)(l:ar)(aX:l.length<=maxLen):
 (s8 s l=some true/\xG s l=some true/\sj s=some true/\tr s.cp.length l=true)\/(s8 s l=some false/\xG s l=some false):=by
 obtain⟨p,p1,hM⟩:=QE s i0;have tJ:p=true->s.cp.length<=6:=fun h=>(Qk s i0 (h▸p1)).2.2.1;have e:=adh s p p1 tJ l aX
 cases p with
 | false=>exact .inr ⟨e,aD hM (gn rfl rfl)⟩
 | true =>
  rw[Bool.true_and] at e;have aB:xG s l=some (tr s.cp.length l):=aD hM (fr rfl (aD (abK s (tJ rfl) l aX) rfl));by_cases c:tr s.cp.length l=true
  ·rw[c] at e aB;exact .inl ⟨e,aB,p1,c⟩
  ·rw[Bool.not_eq_true] at c;rw[c] at e aB;exact .inr ⟨e,aB⟩
theorem Uk {gr:List ed}{k:Nat}{x:ed}(aY:gr[k]? = some x)(h1:x.h5=1): ∀ {n:Nat} {c:fs},n<=gr.length->c∈lQ gr n->c.nt=(k:Int)->c.qp=1
 | 0,c,_,h,_=>by simp[lQ] at h
 | n+1,c,aS,h,e=>by
  rw[lQ,List.mem_append] at h;rcases h with h|h
  ·exact Uk aY h1 (by omega) h e
  ·rw[dz (by omega)] at h
   simp only[vr,List.mem_append] at h;rcases h with h|h
   ·split at h
    ·simp at h
    ·simp at h;subst h;rfl
   ·split at h
    ·simp at h
    ·rename_i c6;simp at h;subst h;simp only at e;have:n=k:=(by omega);subst this;rw[dz (by omega)] at aY;exact absurd (by rw[dI aY];exact h1) c6
theorem ae1 (s:dg){k:Nat}{m:ed}(aY:s.bO[k]? = some m)(h1:m.h5=1){c:Nat}(a3:c<cK s)(e:kT s c=k):nm s c=1:=by obtain⟨e1,-,-⟩:=u7 s a3;have:=Uk aY h1 (dE _) (dH (show (lQ s.bO s.bO.length)[c]? = _ from e1)) (by simp only;rw[e]);exact this
theorem ae2 (s:dg){k:Nat}{m:ed}(aY:s.bO[k]? = some m)(h1:m.h5=1)(x:Nat->Rat):vO s x (cK s) k=ct (cK s) fun j=>if kT s j=k then x j else 0:=by
 unfold vO;refine f5 fun j av=> ?_;by_cases e:kT s j=k
 ·rw[dw e,dw e,ae1 s aY h1 av e];grind
 ·rw[dy e,dy e]
theorem acx (s:dg){k:Nat}{m:ed}(aY:s.bO[k]? = some m)(h1:m.h5=1){x:Nat->Rat}(ab:∀j,j<cK s->0<=x j):0<=vO s x (cK s) k:=by
 rw[ae2 s aY h1];refine tS fun j av=> ?_;by_cases e:kT s j=k
 ·rw[dw e];exact ab j av
 ·rw[dy e];exact Rat.le_refl
structure IB (K:Nat) (z:Nat->Rat) (w:Rat):Prop where
 pos:0<w
 qO:dV K w
 aiY : ∀k,dV K (z k*w)
 aio:1000*K<=21*100*(eT*eT)
theorem IB.fit {K:Nat}{z:Nat->Rat}{w x:Rat}(h:IB K z w){a:Nat}(bI:a<=1000)(ab:dV (a*K) (x*w)):eW x:=by have ah:=h.pos;have h1:=h.aio;have o:a*K<=1000*K:=dL _ bI;exact rL (K:=21*100*(eT*eT)) (h.qO.mono (by omega)) (ab.mono (by omega)) (by grind) (by grind) (qv (dE _))
theorem dV.int {z:Int}{K:Nat}(h:z.natAbs<=K):dV K (z:Rat):=⟨z,rfl,h⟩
theorem IB.fits {K:Nat}{z:Nat->Rat}{w:Rat}(h:IB K z w){n:Nat}(aS:n<=8){e:Nat->Int}(he:∀k,-100<=e k/\e k<=100){f:Int}(cl:-100<=f/\f<=100):eW (ct n (fun k=>z k*(e k:Rat))+(f:Rat)):=h.fit (a:=n*100+100) (by omega) (by
 have e1:(ct n (fun k=>z k*(e k:Rat))+(f:Rat))*w=ct n (fun k=>(e k:Rat)*(z k*w))+(f:Rat)*w:=by rw[Rat.add_mul,<- uU];congr 1;exact f5 fun k _=>by grind
 rw[e1,Nat.add_mul];refine dV.add ?_ ((dV.int (by omega)).mul h.qO);rw[Nat.mul_assoc];exact dV.sum fun k _=>(dV.int (by have:=he k;omega)).mul (h.aiY k))
theorem afN {x:Rat}(h:0<=x): ¬m0 (eu x).1<0:=by have:0<=(eu x).1:=Rat.num_nonneg.2 h;unfold m0;split<;>(try split)<;>omega
theorem ae3 (s:dg){j:Nat}(h:cK s<=j):nm s j=0:=by unfold nm;rw[List.getD_eq_getElem?_getD,List.getElem?_eq_none h];rfl
theorem D8 (s:dg)(k sign:Int){j:Nat}(h:cK s<=j):iD s k sign j=0:=by unfold iD;rw[ae3 s h,Int.mul_zero,ite_self]
theorem TI (s:dg)(k:Int){sign:Int}(h:sign=1\/sign = -1)(c:Nat): -1<=iD s k sign c/\iD s k sign c<=1:=by
 by_cases a3:c<cK s
 ·exact ae0 s k h a3
 ·rw[D8 s k sign (by omega)];omega
theorem Ul (s:dg)(v:oC s){N:Nat}(fQ:cK s<=N)(k sign:Int)(bK:sign=1\/sign = -1)(x0 x1:Int)(fv eS:ar)(f:Nat->Int)(cl:∀j,cK s<=j->f j=0):xi s k sign x0 x1 fv eS (aN N f)=some (aN N (iD s k sign)):=by
 have nM:=B7 s;have v4:=v.2.2.2;unfold xi;refine aD (x:=gM s) (Su s (by omega)) (aD ?_ rfl);unfold OW;have aX:len_ gO (gM s)=((cK s:Nat):Int):=f9 ..;rw[aX]
 obtain⟨x,e,-⟩:=ib (f:=fun w:Int×ar=>zN k sign (gM s) ((cK s:Nat):Int) x0 x1 fv eS w.1 w.2) (fun (n:Nat) (_:Unit)=>((n:Int),aN N fun j=>if j<n then iD s k sign j else f j)) (cK s) (fun _ _=>True) (fun _=>aN N (iD s k sign))
  (fun n aS _ _=>by
    refine⟨(),?_,trivial⟩;obtain⟨lX,k2,mK⟩:=u7 s aS;have c1 : ∀a,(aN N fun j=>if j<n then iD s k sign j else f j).set n a=aN N fun j=>if j=n then a else if j<n then iD s k sign j else f j:=fun a=>kK ..
    have fin : ∀a,a=iD s k sign n->(aN N fun j=>if j=n then a else if j<n then iD s k sign j else f j)=aN N fun j=>if j<n+1 then iD s k sign j else f j:=fun a bI=>eF fun j _=>by
     by_cases c:j=n
     ·subst c;rw[dw rfl,dw (by omega),bI]
     ·rw[dy c]
      by_cases d:j<n
      ·rw[dw d,dw (by omega)]
      ·rw[dy d,dy (by omega)]
    unfold zN;simp only;rw[fl (by omega),dx,dG,c1];refine dv (by omega) (bx (by show _/\((n:Nat):Int)<((cK s:Nat):Int);omega) (aD lX (bx (by rw[cj];omega) (bx (by rw[cj];omega) ?_))));by_cases c:(kT s n:Int)=k
    ·refine fr (by simp only;rw[c];simp) (bx (by rw[cj];omega) ?_)
     rw[kK,cV (by rcases bK with rfl|rfl<;>rcases mK with e|e<;>simp only[e]<;>omega) (by rcases bK with rfl|rfl<;>rcases mK with e|e<;>simp only[e]<;>omega)];congr 3;rw[<- fin (sign*nm s n) (by unfold iD;rw[dw c])]
     exact eF fun j _=>by
      by_cases d:j=n
      ·rw[dw d,dw d]
      ·rw[dy d,dy d,dy d]
    ·refine gn (by simp only;exact beq_false_of_ne c) ?_;rw[fin 0 (by unfold iD;rw[dy c])])
  (fun _ _=>by
    unfold zN;refine en (by simp) ?_;simp only;congr 2
    exact eF fun j av=>by
     by_cases c:j<cK s
     ·rw[dw c]
     ·rw[dy c,cl j (by omega),D8 s k sign (by omega)]) () trivial
 have e0:(aN N fun j=>if j<0 then iD s k sign j else f j)=aN N f:=eF fun j _=>by rw[dy (by omega)]
 rw[<- e0];exact e
theorem ae4 (s:dg){n:Nat}(aS:cK s<=n)(k:Nat)(sign:Int)(x:Nat->Rat):val n (gV n (iD s (k:Int) sign)) x=(sign:Rat)*vO s x (cK s) k:=by
 obtain⟨d,rfl⟩ : ∃d,n=cK s+d:=⟨n-cK s,by omega⟩;unfold val;rw[G4,nN (n:=d) fun j av=>by unfold gV nV;simp only;rw[D8 s _ _ (by omega),ite_self];grind];unfold vO;rw[<- jE,Rat.add_zero];refine f5 fun j av=> ?_;unfold gV nV;simp only;rw[dw (by omega)];unfold iD;by_cases e:kT s j=k
 ·rw[dw (by omega),dw e,dN];grind
 ·rw[dy (by omega),dy e];grind
def N4 (m:ed):Int:=if m.h5=1 then 1 else if m.h5=2 then -1 else 0
theorem Sv {p:iN}{m n:Nat}{a:Nat->Nat->Int}{b:Nat->Int}(h:ly p m n a b){c:Nat->Int}(a3:∀j,j<n-> -100<=c j/\c j<=100):
 (¬oT m n a b/\tR ⟨p.gl,p.fj,p.dY,p.ea,aN n c⟩=some ⟨2,[],⟨⟨false,[]⟩,[]⟩⟩/\tU p.gl p.fj p.dY p.ea (aN n c)=some (2,[],none)) \/
 (oT m n a b/\ ¬Bounded m n a b (gV n c)/\tR ⟨p.gl,p.fj,p.dY,p.ea,aN n c⟩=some ⟨3,[],⟨⟨false,[]⟩,[]⟩⟩/\tU p.gl p.fj p.dY p.ea (aN n c)=some (3,[],none)) \/
 ∃x w,agV m n a b (gV n c) x w/\eW (val n (gV n c) x)/\tR ⟨p.gl,p.fj,p.dY,p.ea,aN n c⟩=some ⟨0,aN n (fun j=>cc (x j)),cc (val n (gV n c) x)⟩/\tU p.gl p.fj p.dY p.ea (aN n c)=some (0,aN n (fun j=>iW (x j)),iW (val n (gV n c) x)):=by
 have c0:=agc h (aN n c);obtain⟨r,e,ai⟩:=aen c0 (c:=c) rfl a3;obtain⟨q,f,a5⟩:=adp c0 (c:=c) rfl a3;rcases ai with ⟨s1,rfl⟩|⟨s1,s2,rfl⟩|⟨x,w,nZ,⟨jz,sd,w2⟩,zt,aiZ,rfl⟩
 ·rcases a5 with ⟨-,rfl⟩|⟨t1,-⟩|⟨y,aP,-⟩
  ·exact .inl ⟨s1,f,e⟩
  ·exact(s1 t1).elim
  ·exact(s1 ⟨y,aP.1⟩).elim
 ·rcases a5 with ⟨t1,-⟩|⟨-,-,rfl⟩|⟨y,aP,-⟩
  ·exact(t1 s1).elim
  ·exact .inr (.inl ⟨s1,s2,f,e⟩)
  ·exact(s2 ⟨_,fun z cC=>aP.Vr cC⟩).elim
 ·rcases a5 with ⟨t1,-⟩|⟨-,t2,-⟩|⟨y,aP,-,-,rfl⟩
  ·exact(t1 ⟨x,nZ.1⟩).elim
  ·exact(t2 ⟨_,fun z cC=>nZ.Vr cC⟩).elim
  ·obtain⟨jV,ma⟩:=aP.unique nZ;have e2:(aN n fun j=>cc (y j))=aN n fun j=>cc (x j):=eF fun j av=>(by rw[jV j av]);rw[e2,ma] at f;exact .inr (.inr ⟨x,w,⟨nZ,jz,sd,w2,zt⟩,aiZ,f,e⟩)
def Vc (r:oe)(ok:Bool)(C:ar):Bool×ar×ar×Bool×ar×ar×Bool×Bool×Bool×ar :=
 (r.ur.dl.cz,r.ur.dl.b8,r.ur.eO,r.nT.dl.cz,r.nT.dl.b8,r.nT.eO,r.H6,r.qi,ok,C)
theorem EX:ob 0=some (cc 0):=rF (n:=0) (k6.2 (by omega))
theorem acy (s:dg)(v:oC s){p:iN}{m n:Nat}{a:Nat->Nat->Int}{b:Nat->Int}(h:ly p m n a b)(aS:cK s<=n)(nM:p.hf=aN n fun _=>0)(k:Int):
 ∃r ok C,C.length=n/\(ok=false->r=⟨⟨⟨false,[]⟩,[]⟩,⟨⟨false,[]⟩,[]⟩,false,false⟩)/\(ok=true->(∃b3 ad,eW b3/\eW ad/\r.ur=cc b3/\r.nT=cc ad)/\(r.H6=true->r.ur=cc 0)/\(r.qi=true->r.nT=cc 0))/\(ok=true->r.qi=false-> ∃x,sX m n a b x/\r.nT=cc (val n (gV n (iD s k 1)) x)/\eW (val n (gV n (iD s k 1)) x))/\(ok=true↔oT m n a b) /\
  DE ⟨p.gl,p.fj,p.dY,p.ea,aN n (iD s k 1)⟩ ⟨p.gl,p.fj,p.dY,p.ea,aN n (iD s k (-1))⟩=some (r,ok) /\
  CX s k p.gl p.fj p.dY p.ea p.hf=some (Vc r ok C):=by
 have i2:=Sv h (c:=iD s k 1) (fun j _=>by have:=TI s k (sign:=1) (.inl rfl) j;omega);have j9:=Sv h (c:=iD s k (-1)) (fun j _=>by have:=TI s k (sign:= -1) (.inr rfl) j;omega);have gI:=Ul s v aS k 1 (.inl rfl) p.gl p.fj p.dY p.ea (fun _=>0) (fun _ _=>rfl);have gS:=Ul s v aS k (-1) (.inr rfl) p.gl p.fj p.dY p.ea (iD s k 1) (fun j av=>D8 s k 1 av);have aX : ∀f:Nat->Int,(aN n f).length=n:=fun f=>cj ..;rw[nM];unfold CX DE;rcases i2 with ⟨n1,s1,i1⟩|⟨n1,-,s1,i1⟩|⟨x,w,bX,f1,s1,i1⟩<;>rcases j9 with ⟨km,s2,nI⟩|⟨km,-,s2,nI⟩|⟨y,u,aP,f2,s2,nI⟩
 ·refine⟨⟨⟨⟨false,[]⟩,[]⟩,⟨⟨false,[]⟩,[]⟩,false,false⟩,false,aN n (iD s k 1),aX _,fun _=>rfl,fun e=>by simp at e,fun e=>by simp at e,⟨fun e=>by simp at e,fun e=>(n1 e).elim⟩,?_,?_⟩
  ·exact aD EX (aD s1 (aD s2 (fr rfl rfl)))
  ·exact aD gI (aD i1 (fr rfl rfl))
 ·exact(n1 km).elim
 ·exact(n1 ⟨y,aP.nZ.1⟩).elim
 ·exact(km n1).elim
 ·refine⟨⟨cc 0,cc 0,true,true⟩,true,aN n (iD s k (-1)),aX _,fun e=>by simp at e,fun _=>⟨⟨0,0,Ej,Ej,rfl,rfl⟩,fun _=>rfl,fun _=>rfl⟩,fun _ e=>by simp at e,⟨fun _=>n1,fun _=>rfl⟩,?_,?_⟩
  ·exact aD EX (aD s1 (aD s2 (gn rfl (fr rfl (fr rfl rfl)))))
  ·exact aD gI (aD i1 (gn rfl (fr rfl (aD ML (aD gS (aD nI (fr rfl rfl)))))))
 ·refine⟨⟨cc (-(val n (gV n (iD s k (-1))) y)),cc 0,false,true⟩,true,aN n (iD s k (-1)),aX _,fun e=>by simp at e,fun _=>⟨⟨_,0,f2.neg,Ej,rfl,rfl⟩,fun e=>by simp at e,fun _=>rfl⟩,fun _ e=>by simp at e,⟨fun _=>n1,fun _=>rfl⟩,?_,?_⟩
  ·exact aD EX (aD s1 (aD s2 (gn rfl (fr rfl (gn rfl (aD (EE f2) rfl))))))
  ·exact aD gI (aD i1 (gn rfl (fr rfl (aD ML (aD gS (aD nI (gn rfl (aD (Vb _) (aD (Ik f2.neg) (aD (Es f2.neg) rfl))))))))))
 ·exact(km ⟨x,bX.nZ.1⟩).elim
 ·refine⟨⟨cc 0,cc (val n (gV n (iD s k 1)) x),true,false⟩,true,aN n (iD s k (-1)),aX _,fun e=>by simp at e,fun _=>⟨⟨0,_,Ej,f1,rfl,rfl⟩,fun _=>rfl,fun e=>by simp at e⟩,fun _ _=>⟨x,bX.nZ.1,rfl,f1⟩,⟨fun _=>km,fun _=>rfl⟩,?_,?_⟩
  ·exact aD EX (aD s1 (aD s2 (gn rfl (gn rfl (fr rfl rfl)))))
  ·exact aD gI (aD i1 (gn rfl (gn rfl (aD (Ik f1) (aD (Es f1) (aD gS (aD nI (fr rfl (aD ML rfl)))))))))
 ·refine⟨⟨cc (-(val n (gV n (iD s k (-1))) y)),cc (val n (gV n (iD s k 1)) x),false,false⟩,true,aN n (iD s k (-1)),aX _,fun e=>by simp at e,fun _=>⟨⟨_,_,f2.neg,f1,rfl,rfl⟩,fun e=>by simp at e,fun e=>by simp at e⟩,fun _ _=>⟨x,bX.nZ.1,rfl,f1⟩,⟨fun _=>⟨x,bX.nZ.1⟩,fun _=>rfl⟩,?_,?_⟩
  ·exact aD EX (aD s1 (aD s2 (gn rfl (gn rfl (gn rfl (aD (EE f2) rfl))))))
  ·exact aD gI (aD i1 (gn rfl (gn rfl (aD (Ik f1) (aD (Es f1) (aD gS (aD nI (gn rfl (aD (Vb _) (aD (Ik f2.neg) (aD (Es f2.neg) rfl)))))))))))
theorem aaP (s:dg)(l:ar):vW s l=(xo s l).bind fun r=>some ⟨r.1,r.2.1,r.2.2.1,r.2.2.2.1,r.2.2.2.2⟩:=by
 unfold vW xo
 cases uM s with
 | none=>rfl
 | some r1 =>
 cases xz s with
 | none=>rfl
 | some aR =>
 cases tT s with
 | none=>rfl
 | some aL =>
 show (vX s l).bind _=((vX s l).bind _).bind _
 cases vX s l with
 | none=>rfl
 | some bE =>
 show (if _ then (Option.bind (AK r1.1 r1.2 (len_ cy s.bO) aR (R ((2:Int)*(len_ eI aL))) (len_ eI r1.1) bE (List.replicate (len_ eI r1.1).toNat 0:ar) 0 ([]:ar)) _) else none)=(if _ then (Option.bind (AK r1.1 r1.2 (len_ cy s.bO) aR (R ((2:Int)*(len_ eI aL))) (len_ eI r1.1) bE (List.replicate (len_ eI r1.1).toNat 0:ar) 0 ([]:ar)) _) else none).bind _;split
 ·cases AK r1.1 r1.2 (len_ cy s.bO) aR (R ((2:Int)*(len_ eI aL))) (len_ eI r1.1) bE (List.replicate (len_ eI r1.1).toNat 0:ar) 0 ([]:ar)<;>rfl
 ·rfl
theorem aaQ (s:dg)(h:oC s)(l:ar)(aX:l.length=2*s.cp.length)(aU:∀x∈l,-100<=x/\x<=100):xo s l=some ((pC s l).gl,(pC s l).fj,(pC s l).dY,(pC s l).ea,(pC s l).hf):=by
 have e:=aaP s l;rw[KJ s h l aX aU] at e
 cases q:xo s l with
 | none=>rw[q] at e;simp at e
 | some r =>
  rw[q] at e;have:=dI e;rw[this]
theorem acz (s:dg){N:Nat}(fQ:cK s<=N)(nM:cK s<=16)(k sign:Int)(bK:sign=1\/sign = -1)(x0 x1:Int)(fv eS:ar):
 KA k sign (aN (cK s) (nm s)) (aN (cK s) fun c=>((kT s c:Nat):Int)) ((cK s:Nat):Int) x0 x1 fv eS 0 (aN N fun _=>0)=some (aN N (iD s k sign)):=by
 unfold KA
 obtain⟨x,e,-⟩:=ib (f:=fun w:Int×ar=>AF k sign (aN (cK s) (nm s)) (aN (cK s) fun c=>((kT s c:Nat):Int)) ((cK s:Nat):Int) x0 x1 fv eS w.1 w.2) (fun (n:Nat) (_:Unit)=>((n:Int),aN N fun j=>if j<n then iD s k sign j else 0)) (cK s) (fun _ _=>True) (fun _=>aN N (iD s k sign))
  (fun n aS _ _=>by
    refine⟨(),?_,trivial⟩;obtain⟨-,-,mK⟩:=u7 s aS;unfold AF;simp only;refine dv (by omega) (bx (by rw[cj];omega) (aD (gt rfl (f8 aS)) ?_));by_cases c:(kT s n:Int)=k
    ·refine fr (by rw[c];simp) (bx (by rw[cj];omega) (aD (gt rfl (f8 aS)) (bx (by rw[cj];omega) (bx (by rw[cj];omega) ?_))))
     rw[fl (by omega),dx,dG,kK,cV (by rcases bK with rfl|rfl<;>rcases mK with e|e<;>rw[e]<;>omega) (by rcases bK with rfl|rfl<;>rcases mK with e|e<;>rw[e]<;>omega)];congr 3
     exact eF fun j _=>by
      by_cases d:j=n
      ·subst d;rw[dw rfl,dw (by omega)];unfold iD;rw[dw c]
      ·rw[dy d]
       by_cases f:j<n
       ·rw[dw f,dw (by omega)]
       ·rw[dy f,dy (by omega)]
    ·refine gn (beq_false_of_ne c) ?_
     rw[fl (by omega)];congr 3
     exact eF fun j _=>by
      by_cases d:j=n
      ·subst d;rw[dy (by omega),dw (by omega)];unfold iD;rw[dy c]
      ·by_cases f:j<n
       ·rw[dw f,dw (by omega)]
       ·rw[dy f,dy (by omega)])
  (fun _ _=>by
    unfold AF;refine en (by simp) ?_;simp only;congr 2
    exact eF fun j av=>by
     by_cases d:j<cK s
     ·rw[dw d]
     ·rw[dy d,D8 s k sign (by omega)]) () trivial
 have e0:(aN N fun j=>if j<0 then iD s k sign j else 0)=aN N fun _=>0:=eF fun j _=>by rw[dy (by omega)]
 rw[<- e0];exact e
theorem Um (s:dg)(v:oC s)(l:ar)(aX:l.length=2*s.cp.length)(aU:∀x∈l,-100<=x/\x<=100)(k:Int){sign:Int}(bK:sign=1\/sign = -1):
 Bi s l k sign=some ⟨(pC s l).gl,(pC s l).fj,(pC s l).dY,(pC s l).ea,aN (cK s) (iD s k sign)⟩:=by
 have bd:=v.2.2.2;have nM:=B7 s;have hw:uM s=some (aN (cK s) (fun c=>((kT s c:Nat):Int)),aN (cK s) (nm s)):=by rw[<- Ui,<- Uj];exact Rw s (by omega)
 unfold Bi;refine aD (aaQ s v l aX aU) (aD hw ?_);simp only;rw[fX,cj];exact aD (acz s (dE _) (by omega) k sign bK _ _ _ _) rfl
theorem abq (s:dg)(i0:qS s)(l:ar)(aX:l.length<=maxLen)(k:Int):
 ∃r ok,vY s l k=some (r,ok)/\vZ s l k=some (r,ok)/\(ok=false->r=⟨⟨⟨false,[]⟩,[]⟩,⟨⟨false,[]⟩,[]⟩,false,false⟩)/\(ok=true->((∃b3 ad,eW b3/\eW ad/\r.ur=cc b3/\r.nT=cc ad)/\(r.H6=true->r.ur=cc 0)/\(r.qi=true->r.nT=cc 0))/\(r.qi=false-> ∃x,sX (2*fh s) (cK s) (lE s) (nn s l) x/\r.nT=cc (val (cK s) (gV (cK s) (iD s k 1)) x)/\eW (val (cK s) (gV (cK s) (iD s k 1)) x)))/\(0<=k->k<s.bO.length->s8 s l=some true->oT (2*fh s) (cK s) (lE s) (nn s l)->ok=true):=by
 unfold vY vZ;rcases S6 s i0 l aX with ⟨e1,aB,h,aU⟩|⟨e1,aB⟩;rotate_left
 ·exact⟨_,false,aD e1 (gn rfl rfl),aD aB (gn rfl rfl),fun _=>rfl,fun e=>by simp at e,fun _ _ h _=>by rw[e1] at h;simp at h⟩
 have v:=GM s i0 h;have bd:=v.2.2.2;have nM:=B7 s;obtain⟨CN,mX⟩:=R0 aU;have wl:R ((len_ cy s.bO)-(1:Int))=(s.bO.length:Nat)-(1:Int):=by rw[f9,cV (by omega) (by omega)]
 rw[wl,f9];by_cases bo:k<0
 ·exact⟨_,false,aD e1 (fr rfl (aD (rA _ _ _) (gn (decide_eq_false (by omega)) rfl))),aD aB (fr rfl (dv bo rfl)),fun _=>rfl,fun e=>by simp at e,fun h _ _ _=>absurd h (by omega)⟩
 by_cases cq:((s.bO.length:Nat):Int)<=k
 ·exact⟨_,false,aD e1 (fr rfl (aD (rA _ _ _) (gn (decide_eq_false (by omega)) rfl))),aD aB (fr rfl (en bo (dv cq rfl))),fun _=>rfl,fun e=>by simp at e,fun _ h _ _=>absurd h (by omega)⟩
 obtain⟨r,ok,C,a3,g1,g2,g3,g6,g4,g5⟩:=acy s v (Me s v l mX) (dE _) rfl k;refine⟨r,ok,aD e1 (fr rfl (aD (rA _ _ _) (fr (decide_eq_true (by omega)) (aD (Um s v l CN mX k (.inl rfl)) (aD (Um s v l CN mX k (.inr rfl)) (aD g4 rfl)))))),aD aB (fr rfl (en bo (en cq (aD (S5 s v l CN mX) (aD g5 (bx (by simp only;unfold Vc;simp only;rw[a3];exact cj ..) rfl)))))),g1,fun e=>⟨g2 e,g3 e⟩,fun _ _ _ h=>g6.2 h⟩
theorem aa6 (s:dg)(i0:qS s)(l:ar)(aX:l.length<=maxLen):
 ∃r,DD s l=some r/\DH s l=some r/\(r=true->s8 s l=some true/\sj s=some true/\tr s.cp.length l=true/\oT (2*fh s) (cK s) (lE s) (nn s l)):=by
 unfold DD DH;rcases S6 s i0 l aX with ⟨e1,aB,h,aU⟩|⟨e1,aB⟩;rotate_left
 ·exact⟨false,aD e1 (gn rfl rfl),aD aB (gn rfl rfl),fun e=>by simp at e⟩
 have v:=GM s i0 h;obtain⟨CN,mX⟩:=R0 aU;obtain⟨r,r1,bR⟩:=abp s i0 h l CN mX;obtain⟨q,q1,aV⟩:=Rl (Me s v l mX) (cj ..) (fun x ab=>by obtain⟨i,-,rfl⟩:=HM.1 ab;omega);have W5:=KJ s v l CN mX;have e:r=q:=by rw[W5] at r1;have:some q=some r:=q1.symm.trans r1;exact(dI this).symm
 subst e;exact⟨r,aD e1 (fr rfl (aD W5 (aD q1 rfl))),aD aB (fr rfl (aD bR rfl)),fun e=>⟨e1,h,aU,aV.1 e⟩⟩
theorem acA {x:Rat}(h:eW x):mr (cc x)=some (m0 (eu x).1):=adf h.df
theorem ads (s:dg)(i0:qS s)(l:ar)(aX:l.length<=maxLen)(h1:s8 s l=some true)(o:sj s=some true)(U:tr s.cp.length l=true)(s7:oT (2*fh s) (cK s) (lE s) (nn s l)){n:Nat}{m:ed}(hm:s.bO[n]? = some m)(aY:m.h5=1):
 ∃(r:oe) (ok b:Bool),vY s l (n:Int)=some (r,ok)/\vZ s l (n:Int)=some (r,ok) /\
  ((r.qi=true/\b=false)\/(r.qi=false/\ ∃z,mr r.nT=some z/\xC r.nT=some z/\(z=0↔b=true)/\(z<=0↔b=true))):=by
 have aS:=(List.getElem?_eq_some_iff.1 hm).1;obtain⟨r,ok,e1,aB,-,g1,g2⟩:=abq s i0 l aX (n:Int);have nB:=g2 (by omega) (by omega) h1 s7;obtain⟨-,g3⟩:=g1 nB
 cases q:r.qi with
 | true=>exact⟨r,ok,false,e1,aB,.inl ⟨q,rfl⟩⟩
 | false =>
  obtain⟨x,ai0,N5,zt⟩:=g3 q;have v:val (cK s) (gV (cK s) (iD s (n:Int) 1)) x=vO s x (cK s) n:=(by rw[ae4 s (dE _) n 1 x,show ((1:Int):Rat)=1 from rfl,Rat.one_mul]);have ai1:0<=vO s x (cK s) n:=acx s hm aY ai0.1;rw[v] at N5 zt;have k:=afN ai1;refine⟨r,ok,decide (m0 (eu (vO s x (cK s) n)).1=0),e1,aB,.inr ⟨q,m0 (eu (vO s x (cK s) n)).1,?_,?_,?_,?_⟩⟩
  ·rw[N5];exact acA zt
  ·rw[N5];exact adr zt
  ·simp
  ·rw[decide_eq_true_iff];omega
theorem aax (s:dg)(i0:qS s)(l:ar)(aX:l.length<=maxLen): ∃r,Di s l=some r/\Dm s l=some r:=by
 unfold Di Dm;obtain⟨r,r1,bR,aR⟩:=aa6 s i0 l aX
 cases r with
 | false=>exact⟨false,aD r1 (gn rfl rfl),aD bR (gn rfl rfl)⟩
 | true =>
 obtain⟨h1,o,U,s7⟩:=aR rfl;have v:=GM s i0 o;have bd:=v.2.2.2;have fW : ∀ {n:Nat} {m:ed},_->_->_:=fun {n m}=> @ads s i0 l aX h1 o U s7 n m
 obtain⟨B,fP⟩ : ∃B:Nat->Bool,∀(n:Nat) (m:ed),s.bO[n]? = some m->(m.h5≠1/\B n=false)\/(m.h5=1/\ ∃(r:oe) (ok:Bool),vY s l (n:Int)=some (r,ok)/\vZ s l (n:Int)=some (r,ok)/\((r.qi=true/\B n=false)\/(r.qi=false/\ ∃z,mr r.nT=some z/\xC r.nT=some z/\(z=0↔B n=true)/\(z<=0↔B n=true)))):=by
  have : ∀n:Nat,∃b:Bool,∀m:ed,s.bO[n]? = some m->(m.h5≠1/\b=false)\/(m.h5=1/\ ∃(r:oe) (ok:Bool),vY s l (n:Int)=some (r,ok)/\vZ s l (n:Int)=some (r,ok)/\((r.qi=true/\b=false)\/(r.qi=false/\ ∃z,mr r.nT=some z/\xC r.nT=some z/\(z=0↔b=true)/\(z<=0↔b=true)))):=fun n=>by
   cases hm:s.bO[n]? with
   | none=>exact⟨false,fun m h=>by simp at h⟩
   | some m =>
    by_cases c:m.h5=1
    ·obtain⟨r,ok,b,p1,hM,p9⟩:=fW hm c;refine⟨b,fun aJ h=> ?_⟩;obtain rfl:=dI h;exact .inr ⟨c,r,ok,p1,hM,p9⟩
    ·refine⟨false,fun aJ h=> ?_⟩;obtain rfl:=dI h;exact .inl ⟨c,rfl⟩
  exact⟨fun n=>(this n).choose,fun n m h=>(this n).choose_spec m h⟩
 have sp : ∃q:Unit⊕Unit,JZ l s.bO ((s.bO.length:Nat):Int) s.cp 0=some q/\((q = .inl ()/\ ∀n,n<s.bO.length->B n=false)\/(q = .inr ()/\ ∃n,n<s.bO.length/\B n=true)):=by
  unfold JZ
  obtain⟨q,e,a5⟩:=rz (f:=fun w:Int=>z9 l s.bO ((s.bO.length:Nat):Int) s.cp w) (fun (n:Nat) (_:Unit)=>(n:Int)) s.bO.length (fun n _=> ∀j,j<n->B j=false) (fun q:Unit⊕Unit=>(q = .inl ()/\ ∀n,n<s.bO.length->B n=false)\/(q = .inr ()/\ ∃n,n<s.bO.length/\B n=true))
   (fun n aS _ cP=>by
     have ab:=dz aS
     have fQ:B n=false-> ∀j,j<n+1->B j=false:=fun aU j av=>by
      by_cases c:j=n
      ·rw[c];exact aU
      ·exact cP j (by omega)
     have w:R ((n:Int)+(1:Int))=((n+1:Nat):Int):=fl (by omega);unfold z9;rw[w];rcases fP n _ ab with ⟨c,b⟩|⟨c,r,ok,p1,hM,p9⟩
     ·exact .inl ⟨(),dv (by omega) (bx (by omega) (aD (gt rfl ab) (fr (vx c) rfl))),fQ b⟩
     ·rcases p9 with ⟨n1,b⟩|⟨n1,z,nL,w5,CM,N6⟩
      ·exact .inl ⟨(),dv (by omega) (bx (by omega) (aD (gt rfl ab) (gn (yW c) (aD p1 (fr n1 rfl))))),fQ b⟩
      ·cases b:B n with
       | true=>exact .inr ⟨.inr (),dv (by omega) (bx (by omega) (aD (gt rfl ab) (gn (yW c) (aD p1 (gn n1 (aD nL (fr (rZ (CM.2 b)) rfl))))))),.inr ⟨rfl,n,aS,b⟩⟩
       | false=>exact .inl ⟨(),dv (by omega) (bx (by omega) (aD (gt rfl ab) (gn (yW c) (aD p1 (gn n1 (aD nL (gn (uA fun e=>by rw[CM.1 e] at b;simp at b) rfl))))))),fQ b⟩)
   (fun _ cP=>⟨.inl (),by unfold z9;exact en (by omega) rfl,.inl ⟨rfl,cP⟩⟩) () (fun j av=>absurd av (by omega))
  exact⟨q,e,a5⟩
 have ai2 : ∃I:ar,Jm s.cp s.bO s.cp s.bO l ((s.bO.length:Nat):Int) 0 []=some I/\(I=[]↔ ∀n,n<s.bO.length->B n=false):=by
  unfold Jm
  obtain⟨I,e,h1,o⟩:=ib (f:=fun w:Int×ar=>zw s.cp s.bO s.cp s.bO l ((s.bO.length:Nat):Int) w.1 w.2) (fun (n:Nat) (I:ar)=>((n:Int),I)) s.bO.length (fun n I=>I.length<=n/\(I=[]↔ ∀j,j<n->B j=false)) (fun I=>I)
   (fun n aS I cP=>by
     have ab:=dz aS;have w:R ((n:Int)+(1:Int))=((n+1:Nat):Int):=fl (by omega);have ai:C1 ⟨s.cp,s.bO⟩ (n:Int)=some (s.bO[n].h5 == 1):=by unfold C1;exact dv (by omega) (dv (by simp only;rw[f9];omega) (bx (by simp only;omega) (aD (gt rfl ab) rfl)))
     have fQ:B n=false->(I=[]↔ ∀j,j<n+1->B j=false):=fun aU=>by
      rw[cP.2];refine⟨fun h j av=> ?_,fun h j av=>h j (by omega)⟩;by_cases c:j=n
      ·rw[c];exact aU
      ·exact h j (by omega)
     unfold zw;simp only;rw[w];rcases fP n _ ab with ⟨c,b⟩|⟨c,r,ok,p1,hM,p9⟩
     ·exact⟨I,dv (by omega) (aD ai (gn (uA c) rfl)),by omega,fQ b⟩
     ·rcases p9 with ⟨n1,b⟩|⟨n1,z,nL,w5,CM,N6⟩
      ·exact⟨I,dv (by omega) (aD ai (fr (rZ c) (aD (x:=false) (aD hM (fr n1 rfl)) (gn rfl rfl)))),by omega,fQ b⟩
      ·cases b:B n with
       | true =>
        refine⟨I++[(n:Int)],dv (by omega) (aD ai (fr (rZ c) (aD (x:=true) (aD hM (gn n1 (aD w5 (by rw[decide_eq_true (N6.2 b)])))) (fr rfl (bx (by simp only[dF,List.length_singleton];omega) rfl))))),by simp;omega,⟨fun e=>by simp at e,fun h=> ?_⟩⟩;have:=h n (by omega);rw[b] at this;simp at this
       | false=>exact⟨I,dv (by omega) (aD ai (fr (rZ c) (aD (x:=false) (aD hM (gn n1 (aD w5 (by rw[decide_eq_false fun e=>by rw[N6.1 e] at b;simp at b])))) (gn rfl rfl)))),by omega,fQ b⟩)
   (fun I _=>by simp only;unfold zw;exact en (by omega) rfl) [] ⟨by simp,by simp⟩
  exact⟨I,e,o⟩
 obtain⟨q,q1,aV⟩:=sp;obtain⟨I,bX,aP⟩:=ai2;have aX:=f9 cy s.bO;rcases aV with ⟨rfl,aU⟩|⟨rfl,n,aS,aU⟩
 ·have:I=[]:=aP.2 aU;subst this;exact⟨true,aD r1 (fr rfl (aD (by rw[aX];exact q1) rfl)),aD bR (fr rfl (aD (aD (by rw[aX];exact bX) rfl) rfl))⟩
 ·refine⟨false,aD r1 (fr rfl (aD (by rw[aX];exact q1) rfl)),aD bR (fr rfl (aD (aD (by rw[aX];exact bX) rfl) ?_))⟩
  rw[fX]
  cases I with
  | nil=>have:=aP.1 rfl n aS;rw[aU] at this;simp at this
  | cons a t =>
   congr 1
theorem XS (x0:dg)(x1:ar)(i0:qS x0)(i1:(fun l=>l.length<=maxLen/\ ∀x∈l,nU x) x1):GH x0 x1=some true:=by
 unfold GH;rw[fX];by_cases h1:(1048576:Int)<(x1.length:Nat)
 ·exact dv h1 rfl
 refine en h1 ?_;obtain⟨r,r1,bR⟩:=aac x0 i0 1048576 (by omega) (by omega);refine aD r1 ?_;by_cases U:r<0
 ·exact dv U rfl
 obtain⟨gI,gS⟩:=bR (by omega);obtain⟨q,q1,aV⟩:=aax x0 i0 x1 i1.1;exact en U (aD (aad x0 gI gS) (aD (abL x1 (by omega)) (aD q1 (aD aV (fr (by simp) (aD (aab x0 gI gS) (fr rfl (aD (abG x1 (by omega)) (fr rfl rfl)))))))))
end Go.Proofs.YthgbjflfgmahbaaGreat
