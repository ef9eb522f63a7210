/- Lemmas, plain functions of the program, and what they answer. No condition. -/
import Derived.Test.YtopadgleejacdacGreatMD
namespace Go.Proofs.YtopadgleejacdacGreat
set_option linter.unusedVariables false
set_option linter.unusedSimpArgs false
open Go Go.VL
theorem UN {p:n1}{m n:Nat}{a:Nat->Nat->Int}{b:Nat->Int}(h:pw p m n a b){i:Nat}(ae:i<m)(aN:b i<0)(x0:Int)(fl:Bool)(d5:ar)(bf:afE)(cL:ar)(eT:afz)(P:afy):
 Gb x0 (i:Int) P.length (n+m+1) p.kM (i*n) n ((n:Nat):Int) p.jY p.gy p.gz p.kg fl d5 bf cL eT 0 (P++[a4 (n+m+1) fun _=>bL 0])=some (P++[a4 (n+m+1) fun j=>if j<n then bL (d4 m n a b i j) else bL 0]):=by
 have hm:=h.hm;have aV:=h.aV;have bO:lA (b i) = -1:=by unfold lA;rw[dw aN]
 unfold Gb
 obtain⟨s1,ao,-⟩:=iv (f:=fun w:Int×afy=>xr x0 (i:Int) P.length (n+m+1) p.kM (i*n) n ((n:Nat):Int) p.jY p.gy p.gz p.kg fl d5 bf cL eT w.1 w.2)
  (fun (k:Nat) (_:Unit)=>((k:Int),P++[a4 (n+m+1) fun j=>if j<k then bL (d4 m n a b i j) else bL 0])) n (fun _ _=>True) (fun _=>P++[a4 (n+m+1) fun j=>if j<n then bL (d4 m n a b i j) else bL 0])
  (fun k aQ _ _=>by
    refine⟨(),?_,trivial⟩;have bA:=h.Cx i ae k aQ;have e:U ((-1:Int)*a i k)=nU m n a b i k:=(by rw[cI (by omega) (by omega)];unfold nU;rw[dw aQ,bO]);unfold xr;refine ff (cN (aD (x:=a i k) (by simp only;rw[dz];exact h.IG i ae k aQ) (aD (x:=bL (d4 m n a b i k)) (by rw[e];exact sN (by have:=Bf h ae k;rw[ms];omega)) (aD (HI _ _) (cN (aD (by simp only;rw[dz];exact jy (by omega)) ?_))))));simp only;rw[fP (by omega),dz,dF,k2,yx];congr 5;refine fx fun j _=> ?_;by_cases bB:j=k
    ·subst bB;rw[dw rfl,dw (by omega)]
    rw[dA bB];by_cases cF:j<k
    ·rw[dw cF,dw (by omega)]
    rw[dA cF,dA (by omega)])
  (fun _ _=>by unfold xr;exact fY rfl) () trivial
 have e0:(a4 (n+m+1) fun j=>if j<0 then bL (d4 m n a b i j) else bL 0)=a4 (n+m+1) fun _=>bL 0:=fx fun j _=>by rw[dA (by omega)]
 rw[e0] at ao;exact ao
theorem UO {p:n1}{m n:Nat}{a:Nat->Nat->Int}{b:Nat->Int}(h:pw p m n a b){i:Nat}(ae:i<m)(aN:¬b i<0)(x0:Int)(fl:Bool)(d5:ar)(bf:afE)(cL:ar)(eT:afz)(P:afy):
 Gc x0 (i:Int) P.length (n+m+1) p.kM (i*n) n ((n:Nat):Int) p.jY p.gy p.gz p.kg fl d5 bf cL eT 0 (P++[a4 (n+m+1) fun _=>bL 0])=some (P++[a4 (n+m+1) fun j=>if j<n then bL (d4 m n a b i j) else bL 0]):=by
 have hm:=h.hm;have aV:=h.aV;have bO:lA (b i)=1:=by unfold lA;rw[dA aN]
 unfold Gc
 obtain⟨s1,ao,-⟩:=iv (f:=fun w:Int×afy=>xt x0 (i:Int) P.length (n+m+1) p.kM (i*n) n ((n:Nat):Int) p.jY p.gy p.gz p.kg fl d5 bf cL eT w.1 w.2)
  (fun (k:Nat) (_:Unit)=>((k:Int),P++[a4 (n+m+1) fun j=>if j<k then bL (d4 m n a b i j) else bL 0])) n (fun _ _=>True) (fun _=>P++[a4 (n+m+1) fun j=>if j<n then bL (d4 m n a b i j) else bL 0])
  (fun k aQ _ _=>by
    refine⟨(),?_,trivial⟩;have bA:=h.Cx i ae k aQ;have e:U ((1:Int)*a i k)=nU m n a b i k:=(by rw[cI (by omega) (by omega)];unfold nU;rw[dw aQ,bO]);unfold xt;refine ff (cN (aD (x:=a i k) (by simp only;rw[dz];exact h.IG i ae k aQ) (aD (x:=bL (d4 m n a b i k)) (by rw[e];exact sN (by have:=Bf h ae k;rw[ms];omega)) (aD (HI _ _) (cN (aD (by simp only;rw[dz];exact jy (by omega)) ?_))))));simp only;rw[fP (by omega),dz,dF,k2,yx];congr 5;refine fx fun j _=> ?_;by_cases bB:j=k
    ·subst bB;rw[dw rfl,dw (by omega)]
    rw[dA bB];by_cases cF:j<k
    ·rw[dw cF,dw (by omega)]
    rw[dA cF,dA (by omega)])
  (fun _ _=>by unfold xt;exact fY rfl) () trivial
 have e0:(a4 (n+m+1) fun j=>if j<0 then bL (d4 m n a b i j) else bL 0)=a4 (n+m+1) fun _=>bL 0:=fx fun j _=>by rw[dA (by omega)]
 rw[e0] at ao;exact ao
theorem n4 {α:Type}(n:Nat)(x:α):List.replicate n x=a4 n fun _=>x:=by
 apply afo;intro i;by_cases c:i<n
 ·rw[gX c];simp[c]
 rw[List.getElem?_eq_none_iff.2 (by simp;omega),List.getElem?_eq_none_iff.2 (by rw[eK];omega)]
theorem MN {p:n1}{m n:Nat}{a:Nat->Nat->Int}{b:Nat->Int}(h:pw p m n a b)(fl:Bool)(d5:ar)(eT:afz):
 Gd ((n+m:Nat):Int) p.kM p.jY p.gy p.gz p.kg fl d5 eT 0 ([]:afE) ([]:afy) ([]:ar)=some (gw m (n+m) (fun i=>i),a4 m (fun i=>a4 (n+m+1) fun j=>bL (d4 m n a b i j)),en m (oQ m n a b)):=by
 have hm:=h.hm;have aV:=h.aV;unfold Gd
 obtain⟨s,e,-⟩:=iv (f:=fun w:Int×afE×afy×ar=>xu ((n+m:Nat):Int) p.kM p.jY p.gy p.gz p.kg fl d5 eT w.1 w.2.1 w.2.2.1 w.2.2.2)
  (fun (i:Nat) (_:Unit)=>((i:Int),a4 i (fun k=>(some (k,n+m+1):cM)),a4 i (fun i=>a4 (n+m+1) fun j=>bL (d4 m n a b i j)),a4 i (fun k=>((n+k:Nat):Int)))) m (fun _ _=>True)
  (fun _=>(gw m (n+m) (fun i=>i),a4 m (fun i=>a4 (n+m+1) fun j=>bL (d4 m n a b i j)),en m (oQ m n a b)))
  (fun i ae _ _=>by
    refine⟨(),?_,trivial⟩;have aN:=h.Fv i ae;have iI:U (((n+m:Nat):Int)+1)=((n+m+1:Nat):Int):=fP (by omega);have hw:U (p.jY+(i:Int))=((n+i:Nat):Int):=(by rw[h.hx,<- Int.natCast_add,cI (by omega) (by omega)]);have RD:(a4 i (fun i=>a4 (n+m+1) fun j=>bL (d4 m n a b i j))).length=i:=eK ..;have qY:nU m n a b i (n+m)=lA (b i)*b i:=by unfold nU;rw[dA (by omega),dw rfl]
    have cV:((a4 (n+m+1) fun j=>if j<n then bL (d4 m n a b i j) else bL 0).set (n+i) (bL ((1:Int):Rat))).set (n+m) (bL (d4 m n a b i (n+m)))=a4 (n+m+1) fun j=>bL (d4 m n a b i j):=by
     rw[k2,k2];refine fx fun j av=> ?_;by_cases bB:j=n+m
     ·rw[dw bB,bB]
     rw[dA bB];by_cases cF:j=n+i
     ·rw[dw cF,cF,vw ae,dw rfl];rfl
     rw[dA cF];by_cases l4:j<n
     ·rw[dw l4]
     rw[dA l4];obtain⟨k,rfl⟩ : ∃k,j=n+k:=⟨j-n,by omega⟩;rw[vw (by omega),dA (by omega)]
    unfold xu;rw[iI,hw,dz];refine lf (by simp only;rw[h.rows];omega) (cN (dX (by simp only;rw[h.RX];omega) (aD (x:=b i) (by simp only[dz,dF];exact h.QC i ae) ?_)))
    have fin:(some (Sum.inl (U ((i:Int)+1),(a4 i (fun k=>(some (k,n+m+1):cM)))++[some (i,n+m+1)],(a4 i (fun i=>a4 (n+m+1) fun j=>bL (d4 m n a b i j)))++[a4 (n+m+1) fun j=>bL (d4 m n a b i j)],(a4 i fun k=>((n+k:Nat):Int))++[((n+i:Nat):Int)])):Option ((Int×afE×afy×ar)⊕(afE×afy×ar))) =
     some (Sum.inl (((i+1:Nat):Int),a4 (i+1) (fun k=>(some (k,n+m+1):cM)),a4 (i+1) (fun i=>a4 (n+m+1) fun j=>bL (d4 m n a b i j)),a4 (i+1) (fun k=>((n+k:Nat):Int)))):=by
     rw[fP (by omega),AA i (fun k=>(some (k,n+m+1):cM)),AA i (fun i=>a4 (n+m+1) fun j=>bL (d4 m n a b i j)),AA i (fun k=>((n+k:Nat):Int))]
    have aa : ∀(P:afy) (F:afx->Option ((Int×afE×afy×ar)⊕(afE×afy×ar))) (x:afx) r,F x=r->(P++[x])[P.length]? >>= F=r:=fun P F x r wK=>aD (HI P x) wK;refine Cp (fun c=> ?_) (fun c=> ?_)
    ·have qJ:b i<0:=of_decide_eq_true c;have bO:lA (b i) = -1:=(by unfold lA;rw[dw qJ]);refine aD (O6 h ae) (aD (by rw[O5,n4];exact UN h ae qJ _ _ _ _ _ _ _) (aD (sN (n:=1) (by rw[ms];omega)) (aa _ _ _ _ ?_)));refine cN (aD (x:=bL 0) (by rw[dz,jy (by omega),dA (by omega)]) (aD (x:=bL (d4 m n a b i (n+m))) (by have e:U ((-1:Int)*b i)=nU m n a b i (n+m):=(by rw[qY,bO,cI (by omega) (by omega)]);rw[e];exact sN (by have:=Bf h ae (n+m);rw[ms];omega)) ?_));rw[yx,dz,dF,dz,dF];refine aa _ _ _ _ (cN ?_);obtain⟨v,aZ⟩ : ∃v,((a4 (n+m+1) fun j=>if j<n then bL (d4 m n a b i j) else bL 0).set (n+i) (bL ((1:Int):Rat)))[n+m]? = some v:=(by rw[k2,gX (by omega)];exact⟨_,rfl⟩);refine aD aZ (dX (by simp only[dH,eK,dM,afp];omega) (dX (by simp only[dH,eK,dM,afp];omega) ?_));rw[yx];simp only[dz,dF];rw[cV,RD];exact fin
    have qJ : ¬b i<0:=of_decide_eq_false c;have bO:lA (b i)=1:=(by unfold lA;rw[dA qJ]);refine aD (O6 h ae) (aD (by rw[O5,n4];exact UO h ae qJ _ _ _ _ _ _ _) (aD (sN (n:=1) (by rw[ms];omega)) (aa _ _ _ _ ?_)));refine cN (aD (x:=bL 0) (by rw[dz,jy (by omega),dA (by omega)]) (aD (x:=bL (d4 m n a b i (n+m))) (by have e:U ((1:Int)*b i)=nU m n a b i (n+m):=(by rw[qY,bO,cI (by omega) (by omega)]);rw[e];exact sN (by have:=Bf h ae (n+m);rw[ms];omega)) ?_));rw[yx,dz,dF,dz,dF];refine aa _ _ _ _ (cN ?_);obtain⟨v,aZ⟩ : ∃v,((a4 (n+m+1) fun j=>if j<n then bL (d4 m n a b i j) else bL 0).set (n+i) (bL ((1:Int):Rat)))[n+m]? = some v:=(by rw[k2,gX (by omega)];exact⟨_,rfl⟩);refine aD aZ (dX (by simp only[dH,eK,dM,afp];omega) (dX (by simp only[dH,eK,dM,afp];omega) ?_));rw[yx];simp only[dz,dF];rw[cV,RD];exact fin)
  (fun _ _=>by unfold xu;exact j4 (by simp only;rw[h.rows];omega) rfl) () trivial
 exact e
def qm (n j:Nat):Int:=if n<=j then -1 else 0
theorem PD {m n j:Nat}(av:j<n+m):((qm n j:Int):Rat)=ib m n j:=by
 unfold qm ib;by_cases c:n<=j
 ·rw[dw c,dw ⟨c,av⟩];rfl
 rw[dA c,dA (by omega)];rfl
theorem O7 {m n:Nat}{t:b8}(gV:∀i,i<m->t.B i<n+m){j:Nat}(av:j<n+m):t.dd m (fun j=>((qm n j:Int):Rat)) j=t.dd m (ib m n) j:=by unfold b8.dd;simp only;rw[PD av,ft (g:=fun i=>ib m n (t.B i)*t.T i j) fun i ae=>by rw[PD (gV i ae)]]
theorem M4 {p:n1}{m n:Nat}{a:Nat->Nat->Int}{b:Nat->Int}(h:pw p m n a b)(x0:Int)(fl:Bool)(d5:ar)(bf:afE)(cb:afy)(cL:ar):
 Ge x0 ((n+m:Nat):Int) p.kM p.jY p.gy p.gz p.kg fl d5 bf cb cL 0 (a4 (n+m) fun _=>(0:Int)) (a4 (n+m) fun _=>false)=some (a4 (n+m) (qm n),a4 (n+m) fun j=>decide (j<n)):=by
 have hm:=h.hm;have aV:=h.aV;unfold Ge
 obtain⟨s,e,-⟩:=iv (f:=fun w:Int×ar×afz=>xv x0 ((n+m:Nat):Int) p.kM p.jY p.gy p.gz p.kg fl d5 bf cb cL w.1 w.2.1 w.2.2)
  (fun (k:Nat) (_:Unit)=>((k:Int),(a4 (n+m) fun j=>if j<k then qm n j else 0),a4 (n+m) fun j=>if j<k then decide (j<n) else false)) (n+m) (fun _ _=>True) (fun _=>(a4 (n+m) (qm n),a4 (n+m) fun j=>decide (j<n)))
  (fun k aQ _ _=>by
    refine⟨(),?_,trivial⟩
    have aB:(a4 (n+m) fun j=>if j<k then decide (j<n) else false).set (0+((k:Int)).toNat) (decide (k<n))=a4 (n+m) fun j=>if j<k+1 then decide (j<n) else false:=by
     rw[dz,dF,k2];refine fx fun j _=> ?_;by_cases c:j=k
     ·subst c;rw[dw rfl,dw (by omega)]
     rw[dA c];by_cases cF:j<k
     ·rw[dw cF,dw (by omega)]
     rw[dA cF,dA (by omega)]
    have Kg:decide ((k:Int)<p.jY)=decide (k<n):=(by rw[h.hx];simp);unfold xv;simp only;rw[Kg,aB,fP (by omega)];refine ff (cN (cN ?_));by_cases c:n<=k
    ·refine lf (by rw[h.hx];omega) (cN (cN ?_))
     rw[dz,dF,k2];congr 4;refine fx fun j _=> ?_;by_cases bB:j=k
     ·subst bB;rw[dw rfl,dw (by omega)];unfold qm;rw[dw c]
     rw[dA bB];by_cases cF:j<k
     ·rw[dw cF,dw (by omega)]
     rw[dA cF,dA (by omega)]
    refine j4 (by rw[h.hx];omega) ?_;congr 4;refine fx fun j _=> ?_;by_cases bB:j=k
    ·subst bB;rw[dA (by omega),dw (by omega)];unfold qm;rw[dA c]
    by_cases cF:j<k
    ·rw[dw cF,dw (by omega)]
    rw[dA cF,dA (by omega)])
  (fun _ _=>by
    unfold xv;refine fY ?_;simp only;congr 3
    ·exact fx fun j av=>by rw[dw av]
    exact fx fun j av=>by rw[dw av]) () trivial
 have o9:(a4 (n+m) fun j=>if j<0 then qm n j else 0)=a4 (n+m) fun _=>(0:Int):=fx fun j _=>by rw[dA (by omega)]
 have uL:(a4 (n+m) fun j=>if j<0 then decide (j<n) else false)=a4 (n+m) fun _=>false:=fx fun j _=>by rw[dA (by omega)]
 rw[o9,uL] at e;exact e
theorem UP {p:n1}{m n:Nat}{a:Nat->Nat->Int}{b:Nat->Int}(h:pw p m n a b){w:Rat}{t:b8}(f:oa m (n+m) w t){d3:afy}(f6:kk m (n+m) m (fun i=>i) w t d3)(fl:Bool)(d5:ar)(x0:Int)(q:afz):
 ∃r,Gf ((n+m:Nat):Int) ((m:Nat):Int) p.kM p.jY p.gy p.gz p.kg fl d5 x0 (en m t) (gw m (n+m) fun i=>i) d3 q 0=some r/\((r = .inr ()/\ ∃i,i<m/\n<=t.B i/\0<t.T i (n+m))\/(r = .inl ()/\ ∀i,i<m->n<=t.B i-> ¬0<t.T i (n+m))):=by
 have hm:=h.hm;have aV:=h.aV;have hw:=f.pos;unfold Gf
 exact rf (f:=fun w:Int=>xw ((n+m:Nat):Int) ((m:Nat):Int) p.kM p.jY p.gy p.gz p.kg fl d5 x0 (en m t) (gw m (n+m) fun i=>i) d3 q w) (fun (i:Nat) (_:Unit)=>(i:Int)) m (fun k _=> ∀i,i<k->n<=t.B i-> ¬0<t.T i (n+m)) _
  (fun i ae _ cT=>by
    have bO:=tW ((f.h7 i ae (n+m) (dE _)).mono (tg (by have:=qC;generalize d6=q at *;omega)));have g1:0<=(i:Int)/\(i:Int)<((en m t).length:Nat):=(by unfold en;rw[eK];omega);have g2:(en m t)[(0+((i:Int)).toNat)]? = some ((t.B i:Nat):Int):=(by rw[dz];exact jy ae);have g3:0<=(i:Int)/\(i:Int)<((gw m (n+m) fun i=>i).length:Nat):=(by unfold gw;rw[eK];omega);have g4:(gw m (n+m) fun i=>i)[(0+((i:Int)).toNat)]? = some (some (i,n+m+1)):=(by rw[dz];exact jy ae);unfold xw;by_cases Cz:n<=t.B i
    ·by_cases jH:0<t.T i (n+m)
     ·right;exact⟨_,ff (dX g1 (aD g2 (lf (by rw[h.hx];omega) (dX g3 (aD g4 (aD (x:=(i,n+m+1)) rfl (aD (f6.row i ae) (cN (aD (x:=bL (t.T i (n+m)*w)) (by rw[dz];exact jy (by omega)) (aD bO (lf (by rw[yw hw];exact tV.2 jH) rfl))))))))))),.inl ⟨rfl,i,ae,Cz,jH⟩⟩
     left;refine⟨(),ff (dX g1 (aD g2 (lf (by rw[h.hx];omega) (dX g3 (aD g4 (aD (x:=(i,n+m+1)) rfl (aD (f6.row i ae) (cN (aD (x:=bL (t.T i (n+m)*w)) (by rw[dz];exact jy (by omega)) (aD bO (j4 (by rw[yw hw];exact fun c=>jH (tV.1 c)) (by rw[fP (by omega)])))))))))))),fun k aQ=> ?_⟩;by_cases e:k=i
     ·rw[e];exact fun _=>jH
     exact cT k (by omega)
    left;refine⟨(),ff (dX g1 (aD g2 (j4 (by rw[h.hx];omega) (by rw[fP (by omega)])))),fun k aQ=> ?_⟩;by_cases e:k=i
    ·rw[e];exact fun c=>(Cz c).elim
    exact cT k (by omega))
  (fun _ cT=>⟨_,by unfold xw;exact fY rfl,.inr ⟨rfl,cT⟩⟩) () (fun k aQ=>by omega)
theorem UQ {p:n1}{m n:Nat}{a:Nat->Nat->Int}{b:Nat->Int}(h:pw p m n a b)(F:Nat->Bool)(fl:Bool)(d5:ar)(x0:Int)(bf:afE)(cb:afy)(cL:ar):
 Gg ((n+m:Nat):Int) p.kM p.jY p.gy p.gz p.kg fl d5 x0 bf cb cL 0 (a4 (n+m) F)=some (a4 (n+m) fun j=>decide (j<n)):=by
 have hm:=h.hm;have aV:=h.aV;unfold Gg
 obtain⟨s,e,-⟩:=iv (f:=fun w:Int×afz=>xx ((n+m:Nat):Int) p.kM p.jY p.gy p.gz p.kg fl d5 x0 bf cb cL w.1 w.2)
  (fun (k:Nat) (_:Unit)=>((k:Int),a4 (n+m) fun j=>if j<k then decide (j<n) else F j)) (n+m) (fun _ _=>True) (fun _=>a4 (n+m) fun j=>decide (j<n))
  (fun k aQ _ _=>by
    refine⟨(),?_,trivial⟩;have Kg:decide ((k:Int)<p.jY)=decide (k<n):=(by rw[h.hx];simp);unfold xx;simp only;rw[Kg,fP (by omega)];refine ff (cN (cN ?_));rw[dz,dF,k2];congr 3;refine fx fun j _=> ?_;by_cases c:j=k
    ·subst c;rw[dw rfl,dw (by omega)]
    rw[dA c];by_cases cF:j<k
    ·rw[dw cF,dw (by omega)]
    rw[dA cF,dA (by omega)])
  (fun _ _=>by unfold xx;refine fY ?_;simp only;congr 2;exact fx fun j av=>by rw[dw av]) () trivial
 have o9:(a4 (n+m) fun j=>if j<0 then decide (j<n) else F j)=a4 (n+m) F:=fx fun j _=>by rw[dA (by omega)]
 rw[o9] at e;exact e
theorem RE {m n:Nat}{a:Nat->Nat->Int}{b:Nat->Int}:ha m (d4 m n a b) (oQ m n a b)=1:=by unfold ha;rw[Py,dw (by grind)]
theorem Ow {p:n1}{m n:Nat}{a:Nat->Nat->Int}{b:Nat->Int}(h:pw p m n a b):
 ∃r,xZ p.kM p.jY p.gy p.gz p.kg=some r/\((pp m n a b/\ ∃t aU g d3,r = .inl ((bL (ha m (d4 m n a b) t)).c5,(bL (ha m (d4 m n a b) t)).cJ,((n+m:Nat):Int),gw aU (n+m) g,en aU (hU g t),a4 (n+m) (fun j=>decide (j<n)),d3) /\
  mb m n (n+m) (d4 m n a b) t aU g/\(∀i,i<aU->t.B (g i)<n)/\kk aU (n+m) m g (ha m (d4 m n a b) t) (hU g t) d3)\/(¬pp m n a b/\r = .inr ())):=by
 have hm:=h.hm;have aV:=h.aV;have j6:=NY h;have fS:U (p.jY+p.kM)=((n+m:Nat):Int):=by rw[h.hx,h.rows,<- Int.natCast_add,cI (by omega) (by omega)]
 have abZ:kk m (n+m) m (fun i=>i) (ha m (d4 m n a b) (oQ m n a b)) (oQ m n a b) (a4 m (fun i=>a4 (n+m+1) fun j=>bL (d4 m n a b i j))):=⟨eK ..,fun i ae=>by rw[gX ae,RE];congr 1;exact fx fun j _=>by show bL (d4 m n a b i j)=bL (d4 m n a b i j*1);congr 1;grind⟩
 obtain⟨q,bx,t,d3,ko,e,⟨cT,rfl⟩,f6,d1⟩:=M3 (ed:=m) (m:=m) (N:=n+m) (M:=m) (A:=d4 m n a b) hm (by omega) (h:=fun i=>i) (fun i _ k _ e=>e) (qm n) (fun j _=>by unfold qm;split<;>omega) (fun j=>decide (j<n))
  (fun w t=>m8 m (n+m) (d4 m n a b) t/\w=ha m (d4 m n a b) t) (fun w t cT=>⟨cT.1.ok,cT.1.lg,cT.2▸cT.1.qK j6⟩)
  (fun w t r s cT b=>by obtain⟨o,rfl⟩:=cT;have ah:t.T r s≠0:=(by have:=b.pos;grind);exact⟨o.vV j6 b.aj b.bO ah,o.gZ b,H5 o.ok o.tI b.aj b.bO ah⟩)
  (w:=ha m (d4 m n a b) (oQ m n a b)) (t:=oQ m n a b) ⟨⟨XY,V7,Xa⟩,rfl⟩ abZ
 rw[RE] at e
 have IH : ∀j,j<n->t.dd m (ib m n) j<=0:=by
  rcases d1 with ⟨-,d1,-⟩|⟨-,s,bO,-,dt,hc⟩
  ·intro j av;have:=d1 j (by omega) (by simpa using av);rw[O7 cT.ok.jQ (by omega)] at this;grind
  rw[O7 cT.ok.jQ bO] at dt;obtain⟨i,ae,ah⟩:=UG cT.ok bO dt;exact(hc i ae ah).elim
 have ao:nW 1=some (bL 1):=by have:=sN (n:=1) (by rw[ms];omega);rw[show ((1:Int):Rat)=1 from rfl] at this;exact this
 obtain⟨r,ad,bu⟩:=UP h (cT.qK j6) f6 (bL (ha m (d4 m n a b) t)).c5 (bL (ha m (d4 m n a b) t)).cJ ((n+m:Nat):Int) (a4 (n+m) ko);unfold xZ;rw[fS];rcases bu with ⟨rfl,i,ae,gV,h7⟩|⟨rfl,hc⟩
 ·have BI : ¬pp m n a b:=fun bO=>by
   have:=U8 cT.lg (Vy cT.ok cT.lg IH bO) cT.ok.jQ i ae gV;grind
  refine⟨_,aD ao (cN (aD (MN h _ _ _) (cN (aD (x:=(a4 (n+m) (qm n),a4 (n+m) fun j=>decide (j<n))) (by rw[dz,n4,n4];exact M4 h _ _ _ _ _ _) (aD e ?_))))),.inr ⟨BI,rfl⟩⟩;refine aD (x:= .inr ()) ?_ rfl;simp only;rw[show ((en m t).length:Nat)=m from eK ..];exact ad
 have b5 : ∀i,i<m->n<=t.B i->t.T i (n+m)=0:=fun i ae gV=>by have o:=hc i ae gV;have J:=cT.lg i ae;grind
 have bO:pp m n a b:=U7 cT.ok cT.lg b5;obtain⟨cW,aU,g,jf,mS,pz,Fs,jn⟩:=Wu (n:=n) j6 (by omega) (by omega) (a4 (n+m) fun j=>decide (j<n)) cT b5 f6;refine⟨_,aD ao (cN (aD (MN h _ _ _) (cN (aD (x:=(a4 (n+m) (qm n),a4 (n+m) fun j=>decide (j<n))) (by rw[dz,n4,n4];exact M4 h _ _ _ _ _ _) (aD e ?_))))),.inl ⟨bO,cW,aU,g,jf,rfl,pz,Fs,jn⟩⟩;refine aD (x:= .inl ()) ?_ ?_
 ·simp only;rw[show ((en m t).length:Nat)=m from eK ..];exact ad
 simp only;rw[show ((a4 (n+m) ko).length:Nat)=n+m from eK ..];refine aD (UQ h ko _ _ _ _ _ _) ?_;rw[h.hx];exact aD mS rfl
structure o2 (m:Nat) (u v:b8):Prop where
 T : ∀i,i<m-> ∀j,u.T i j=v.T i j
 B : ∀i,i<m->u.B i=v.B i
theorem o2.qK {m N:Nat}{w:Rat}{u v:b8}(s:o2 m u v)(h:oa m N w v):oa m N w u :=
 ⟨h.pos,h.hw,fun i ae j av=>by rw[s.T i ae];exact h.h7 i ae j av,fun i ae=>by rw[s.B i ae];exact h.gV i ae⟩
theorem o2.cG {m:Nat}{u v:b8}(s:o2 m u v){r:Nat}(aj:r<m)(k:Nat):o2 m (u.cG r k) (v.cG r k) where
 T:=fun i ae j=>by simp only[b8.cG,s.T i ae,s.T r aj]
 B:=fun i ae=>by simp only[b8.cG,s.B i ae]
theorem o2.vV {m N:Nat}{w:Rat}{u v:b8}(s:o2 m u v){r k:Nat}(h:th m N w v r k):th m N w u r k :=
 ⟨h.aj,h.aQ,by rw[s.T r h.aj];exact h.ah,fun i ae j av=>by rw[(s.cG h.aj k).T i ae,s.T r h.aj];exact h.zs i ae j av⟩
theorem o2.trans {m:Nat}{u v t:b8}(a:o2 m u v)(b:o2 m v t):o2 m u t:=⟨fun i ae j=>(a.T i ae j).trans (b.T i ae j),fun i ae=>(a.B i ae).trans (b.B i ae)⟩
theorem X5 {aU:Nat}{g:Nat->Nat}(inj:∀i,i<aU-> ∀k,k<aU->g i=g k->i=k)(t:b8){r:Nat}(aj:r<aU)(k:Nat):o2 aU ((hU g t).cG r k) (hU g (t.cG (g r) k)) :=
 ⟨fun i ae j=>(AF (t:=t) (k:=k) (inj i ae r aj)).1 j,fun i ae=>(AF (t:=t) (k:=k) (inj i ae r aj)).2⟩
theorem PE {m n:Nat}{a:Nat->Nat->Int}{b:Nat->Int}{x:Nat->Rat}{c:Nat}:b3 n (fun j=>d4 m n a b c j*x j)=((lA (b c):Int):Rat)*b3 n (fun j=>(a c j:Rat)*x j):=by rw[<- ik];exact ft fun j av=>by rw[HZ av];grind
theorem mb.PF {m n:Nat}{a:Nat->Nat->Int}{b:Nat->Int}{t:b8}{aU:Nat}{g:Nat->Nat}(h:mb m n (n+m) (d4 m n a b) t aU g)(gV:∀i,i<aU->t.B (g i)<n):LT m n a b aU (n+m) (hU g t) where
 eqv:=fun x=>by
  have key:(∀i,i<m->b3 n (fun j=>(a i j:Rat)*x j)=(b i:Rat))↔ ∀i,i<m->b3 n (fun j=>d4 m n a b i j*x j)=d4 m n a b i (n+m):=by
   constructor
   ·intro aa i ae;rw[PE,Ec,aa i ae]
   intro aa i ae;have:=aa i ae;rw[PE,Ec] at this;have h0:=Px (b i);have e:((lA (b i):Int):Rat)*(b3 n (fun j=>(a i j:Rat)*x j)-(b i:Rat))=0:=(by grind);rcases Rat.mul_eq_zero.1 e with e|e
   ·exact(h0 e).elim
   grind
  rw[key];constructor
  ·intro aa i ae;obtain⟨W,hW⟩:=h.inv.ok.row;show b3 n (fun j=>t.T (g i) j*x j)=t.T (g i) (n+m);rw[hW (g i) (h.lt i ae) (n+m) (dE _),ft (g:=fun j=>b3 m (fun c=>W (g i) c*(d4 m n a b c j*x j))) (fun j av=>by rw[hW (g i) (h.lt i ae) j (by omega),<- vd];exact ft fun c _=>by grind),pc];exact ft fun c aL=>by rw[ik,aa c aL]
  intro aa c aL
  have row : ∀i,i<m->b3 n (fun j=>t.T i j*x j)=t.T i (n+m):=fun i ae=>by
   by_cases bI : ∃q,q<aU/\g q=i
   ·obtain⟨q,a2,rfl⟩:=bI;exact aa q a2
   obtain⟨rL,pB⟩:=h.dead i ae fun q a2 e=>bI ⟨q,a2,e⟩;rw[h.z i ae rL];exact nr fun j av=>by rw[pB j av];grind
  rw[h.inv.ok.qV c aL (n+m) (dE _),ft (g:=fun j=>b3 m (fun i=>d4 m n a b c (t.B i)*(t.T i j*x j))) (fun j av=>by rw[h.inv.ok.qV c aL j (by omega),<- vd];exact ft fun i _=>by grind),pc];exact ft fun i ae=>by rw[ik,row i ae]
 unit:=fun i ae k aQ=>by
  show t.T (g i) (t.B (g k))=_;rw[h.inv.ok.unit _ (h.lt i ae) _ (h.lt k aQ)];by_cases c:i=k
  ·rw[dw c,dw (by rw[c])]
  rw[dA c,dA fun e=>c (h.inj i ae k aQ e)]
 jQ:=gV
 lg:=fun i ae=>h.inv.lg _ (h.lt i ae)
 Ka:=by omega
theorem mb.step {m n:Nat}{a:Nat->Nat->Int}{b:Nat->Int}{t:b8}{aU:Nat}{g:Nat->Nat}{K:Nat}{obj:Nat->Nat->Rat}{bI:Nat->Prop}(h:mb m n (n+m) (d4 m n a b) t aU g)(gV:∀i,i<aU->t.B (g i)<n){u:b8}(bO:o2 aU u (hU g t)){r s:Nat}(cO:pi aU (n+m) K obj bI u r s)(wj:s<n):
 mb m n (n+m) (d4 m n a b) (t.cG (g r) s) aU g/\(∀i,i<aU->(t.cG (g r) s).B (g i)<n)/\o2 aU (u.cG r s) (hU g (t.cG (g r) s)):=by
 have aj:=cO.aj;have ah:0<t.T (g r) s:=by have:=cO.pos;rw[bO.T r aj] at this;exact this
 have B8:t.T (g r) s≠0:=by grind
 have QE:=(bO.cG aj s).trans (X5 h.inj t aj s);have Fx : ∀d,d<m->(∀i,i<aU->g i≠d)-> ∀j,(t.cG (g r) s).T d j=t.T d j/\(t.cG (g r) s).B d=t.B d:=fun d bz hc j=>by obtain⟨rL,pB⟩:=h.dead d bz hc;simp only[b8.cG];rw[dA fun e=>hc r aj e.symm,dA fun e=>hc r aj e.symm,pB s wj];exact⟨by grind,rfl⟩
 have ob : ∀i,i<aU->(t.cG (g r) s).B (g i)<n:=fun i ae=>by
  simp only[b8.cG];split
  ·exact wj
  exact gV i ae
 have ab0:(u.cG r s).kN aU (n+m):=cO.BC fun i ae=>by rw[bO.T i ae];exact h.inv.lg _ (h.lt i ae)
 refine⟨⟨⟨h.inv.ok.cG (h.lt r aj) (by omega) B8,fun i ae=> ?_,?_⟩,fun i ae aV=> ?_,h.le,h.lt,h.inj,fun d bz hc=> ?_⟩,ob,QE⟩
 ·by_cases bI : ∃q,q<aU/\g q=i
  ·obtain⟨q,a2,rfl⟩:=bI;have:=ab0 q a2;rw[QE.T q a2] at this;exact this
  rw[(Fx i ae (fun q a2 e=>bI ⟨q,a2,e⟩) _).1];exact h.inv.lg i ae
 ·rw[h.inv.ok.Bc (h.lt r aj) (by omega)];have:=h.inv.tI;grind
 ·by_cases bI : ∃q,q<aU/\g q=i
  ·obtain⟨q,a2,rfl⟩:=bI;have:=ob q a2;omega
  have hc : ∀q,q<aU->g q≠i:=fun q a2 e=>bI ⟨q,a2,e⟩;obtain⟨ao,aB⟩:=Fx i ae hc (n+m);rw[ao];rw[aB] at aV;exact h.z i ae aV
 obtain⟨rL,pB⟩:=h.dead d bz hc;refine⟨by rw[(Fx d bz hc 0).2];exact rL,fun j av=>by rw[(Fx d bz hc j).1];exact pB j av⟩
structure o3 (m n:Nat) (a:Nat->Nat->Int) (b:Nat->Int) (aU:Nat) (g:Nat->Nat) (gO:Nat->Nat->Rat) (cY:Nat->Bool) (w:Rat) (u:b8):Prop where
 bI : ∃t,mb m n (n+m) (d4 m n a b) t aU g/\(∀i,i<aU->t.B (g i)<n)/\o2 aU u (hU g t)/\w=ha m (d4 m n a b) t
 lt:LT m n a b aU (n+m) u
 ok:fX aU aU (n+m) gO u
 Kh : ∀i,i<aU->cY (u.B i)=true
theorem o3.qK {m n:Nat}{a:Nat->Nat->Int}{b:Nat->Int}{aU:Nat}{g:Nat->Nat}{gO:Nat->Nat->Rat}{cY:Nat->Bool}{w:Rat}{u:b8}(j6:Small m (n+m) (d4 m n a b))(h:o3 m n a b aU g gO cY w u):oa aU (n+m) w u:=by obtain⟨t,o,J,ab,rfl⟩:=h.bI;exact ab.qK (o.qK j6)
theorem o3.gZ {m n:Nat}{a:Nat->Nat->Int}{b:Nat->Int}{aU:Nat}{g:Nat->Nat}{gO:Nat->Nat->Rat}{cY ko:Nat->Bool}{w:Rat}{u:b8}{obj:Nat->Nat->Rat}{K:Nat}(j6:Small m (n+m) (d4 m n a b))(h:o3 m n a b aU g gO ko w u)(pv:∀j,j<n+m->cY j=true->j<n)(ab1:∀j,cY j=true->ko j=true){r s:Nat}(cO:pi aU (n+m) K obj (fun j=>cY j=true) u r s):
 th aU (n+m) w u r s/\o3 m n a b aU g gO ko (oT w u r s) (u.cG r s):=by
 obtain⟨t,o,J,ab,aA⟩:=h.bI;have wj:=pv s cO.bO cO.EY;obtain⟨g1,g2,g3⟩:=o.step J ab cO wj;have ah:=cO.pos;have RF:t.T (g r) s≠0:=by rw[ab.T r cO.aj] at ah;show t.T (g r) s≠0;have:0<t.T (g r) s:=ah;grind
 refine⟨aA▸ab.vV (o.vV j6 cO.aj (by omega) RF),⟨t.cG (g r) s,g1,g2,g3,?_⟩,h.lt.cG cO.aj wj (by grind) (cO.BC h.lt.lg),cO.ok h.ok,fun i ae=> ?_⟩
 ·rw[<- H5 o.inv.ok o.inv.tI (o.lt r cO.aj) (show s<n+m by omega) RF,aA];unfold oT;rw[ab.T r cO.aj];rfl
 simp only[b8.cG];split
 ·exact ab1 s cO.EY
 exact h.Kh i ae
theorem Ox {m n:Nat}{a:Nat->Nat->Int}{b:Nat->Int}{aU:Nat}{g:Nat->Nat}(hm:m<=20)(aV:n<=40)(j6:Small m (n+m) (d4 m n a b)){gO:Nat->Nat->Rat}{cY:Nat->Bool}{w:Rat}{u:b8}(h:o3 m n a b aU g gO cY w u)(pv:∀j,j<n+m->cY j=true->j<n)(inj:∀i,i<aU-> ∀k,k<aU->g i=g k->i=k)(km:aU<=m)
 (I:Nat->Int) (ai : ∀j,-100<=I j/\I j<=100) {c:Nat->Rat} {l:Nat} {V:Nat->Rat} (ab2 : ∀j,((I j:Int):Rat)=h5 c l j) (s:oX m n a b c l cY V) {d3:afy} (f6:kk aU (n+m) m g w u d3) :
 ∃ok bx kH jf ko,sC (bL w).c5 (bL w).cJ ((n+m:Nat):Int) (gw aU (n+m) g) d3 (en aU u) (a4 (n+m) cY) (a4 (n+m) I)=some (ok,(bL bx).c5,(bL bx).cJ,jf,en aU kH,a4 (n+m) ko)/\kk aU (n+m) m g bx kH jf /\
  ((ok=true/\o3 m n a b aU g gO ko bx kH/\(∀j,j<n+m->ko j=true->j<n)/\ ∃Cr,oX m n a b c (l+1) ko Cr)\/(ok=false/\LT m n a b aU (n+m) kH/\ ∃q,q<n/\0<kH.dd aU (h5 c l) q/\ ∀i,i<aU-> ¬0<kH.T i q)):=by
 have ab3:(fun j=>((I j:Int):Rat))=h5 c l:=funext ab2
 obtain⟨ok,bx,kH,jf,ko,e,cT,Ch,d1⟩:=M3 (ed:=aU) (m:=aU) (N:=n+m) (M:=m) (A:=gO) (h:=g) (by omega) (by omega) inj I (fun j _=>ai j) cY
  (fun w u=>o3 m n a b aU g gO cY w u) (fun w u dg=>⟨dg.ok,dg.lt.lg,dg.qK j6⟩)
  (fun w u r q dg cO=>dg.gZ j6 pv (fun j av=>av) cO) h f6
 rw[ab3] at d1;refine⟨ok,bx,kH,jf,ko,e,Ch,?_⟩;rcases d1 with ⟨o,J,ab⟩|⟨o,q,J,b0,ab,aA⟩
 ·left;have II : ∀j,ko j=true->cY j=true:=fun j av=>(by rw[ab,afd] at av;exact av.1);refine⟨o,⟨cT.bI,cT.lt,cT.ok,fun i ae=> ?_⟩,fun j av sn=>pv j av (II j sn),oX.next cT.lt s (fun j av b0=>J j (by omega) b0) (fun j av=>by rw[ab])⟩;rw[ab];simp only;rw[cT.Kh i ae,cT.lt.x7 _ ae,decide_eq_false (by grind)];rfl
 right;exact⟨o,cT.lt,q,pv q J b0,ab,aA⟩
def cQ (x:Rat):afw:=some (kq (gD x))
theorem YW {n d:Int}{x:Rat}(bz:0<d)(e:(d:Rat)*x=n):(n / (Int.gcd n d:Int),d / (Int.gcd n d:Int))=gD x:=by
 have tj:(d:Rat)≠0:=fun c=>by have:d=0:=Rat.intCast_inj.1 (by rw[c];rfl);omega
 have aa:x=Rat.divInt n d:=by rw[Rat.divInt_eq_div,<- e];grind
 have ao:(Rat.divInt n d).num=n / (Int.gcd n d:Int):=by rw[Rat.num_divInt,Int.sign_eq_one_of_pos bz,Int.one_mul,Int.gcd_comm]
 have aB:((Rat.divInt n d).den:Int)=d / (Int.gcd n d:Int):=by rw[Rat.den_divInt,dA (by omega),Int.gcd_comm];rw[Int.natCast_ediv,Int.natAbs_of_nonneg (by omega)]
 rw[aa];unfold gD;rw[ao,aB]
theorem Hs {n d:Int}{x:Rat}(bz:0<d)(e:(d:Rat)*x=n)(aV:(n.natAbs:Int)<B 50)(wg:d<B 50):ra (hb n) (L d)=some (cQ x):=by have mS:=(im (k:=50) (by omega)).2 aV;have pz:=(im (k:=50) (by omega)).2 wg;rw[Wo bz (by omega) (by omega),YW bz e];rfl
theorem tX {n:Int}(h:oP n):l7 n=some (cQ (n:Rat)):=by rw[Xl h];unfold cQ gD;rw[Rat.num_intCast,Rat.den_intCast];rfl
theorem Ht {a b:Int}(bA:0<=a)(aN:0<=b)(o:a<B 24)(J:b<B 24):a*b<B 48:=by
 have e:B 48=B 24*B 24:=by decide +kernel
 rw[e];exact Int.lt_of_le_of_lt (dL (Int.le_of_lt J) bA) (Int.mul_lt_mul_of_pos_right o (by omega))
theorem O8 {x y:Rat}(aa:gb x)(aP:gb y):xM (cQ x) (cQ y)=some (cQ (x*y)):=by
 have p:=aa.cY;have q:=aP.cY;have o:=p.yT;have J:=p.yU;have ab:=q.yT;have aA:=q.yU;have aJ:=p.pos;have bC:=q.pos;have gV:=PC;have aaq:=oJ 48;have hZ:=Ht (by omega) (by omega) p.num q.num;have gr:=Ht (by omega) (by omega) p.den q.den;have qj:(((gD x).1*(gD y).1).natAbs:Int)<B 48:=by rw[Int.natAbs_mul];exact hZ
 have bO:xM (some (kq (gD x))) (some (kq (gD y)))=((ov (hb (gD x).1) (hb (gD y).1)).bind fun bh=>(qq (L (gD x).2) (L (gD y).2)).bind fun bU=>(ra bh bU).bind fun a6=>some a6):=rfl;unfold cQ;rw[bO,NW (by omega) (by omega),dB,DP (kx _) (kx _) (by omega) (by omega),fA (by omega),fA (by omega),dB,Hs (x:=x*y) (Int.mul_pos aJ bC) ?_ (by omega) (by omega)]
 ·rfl
 have:=D4 x;have:=D4 y;simp only[gD,afv];grind
theorem PG {x y:Rat}(aa:gb x)(aP:gb y):xP (cQ x) (cQ y)=some (cQ (x+y)):=by
 have p:=aa.cY;have q:=aP.cY;have o:=p.yT;have J:=p.yU;have ab:=q.yT;have aA:=q.yU;have aJ:=p.pos;have bC:=q.pos;have gV:=PC;have aaq:=oJ 48;obtain⟨bB,-,-⟩:=Oo p q;obtain⟨rL,-,-⟩:=Oo q p;have gr:=Ht (by omega) (by omega) p.den q.den;have bO:xP (some (kq (gD x))) (some (kq (gD y)))=((qn (some (kq (gD x))) (L (gD y).2)).bind fun bb=>(qn (some (kq (gD y))) (L (gD x).2)).bind fun bU=>(tM bb bU).bind fun a6=>(qq (L (gD x).2) (L (gD y).2)).bind fun c4=>(ra a6 c4).bind fun d2=>some d2):=rfl;unfold cQ;rw[bO,DE (by omega) (by omega) (by omega),dB,DE (by omega) (by omega) (by omega),dB,On (by omega) (by omega),dB,DP (kx _) (kx _) (by omega) (by omega),fA (by omega),fA (by omega),dB,Hs (x:=x+y) (Int.mul_pos aJ bC) ?_ (by omega) (by omega)]
 ·rfl
 have:=D4 x;have:=D4 y;simp only[gD,afv,Rat.intCast_add];grind
theorem Qc {x:Rat}(h:gb x):vl (cQ x)=some (cQ x):=by have:=h.cY;unfold cQ;rw[show kq (gD x)=kq ((gD x).1,(gD x).2) from rfl,YR (Int.le_of_lt this.pos),dw ⟨this.num,this.den⟩];rfl
def nE (n:Nat)(c:Nat->Int)(l j:Nat):Int:=match l with
 | 0=>if j<n then c j else 0
 | l+1=>if j=l then -1 else 0
def mr (n:Nat)(c:Nat->Int)(j:Nat):Rat:=((nE n c 0 j:Int):Rat)
theorem Oy (n:Nat)(c:Nat->Int)(l j:Nat):((nE n c l j:Int):Rat)=h5 (mr n c) l j:=by
 cases l with
 | zero=>rfl
 | succ l=>simp only[nE,h5];split<;>rfl
theorem O9 {n:Nat}{c:Nat->Int}(h:∀j,j<n-> -100<=c j/\c j<=100)(l j:Nat): -100<=nE n c l j/\nE n c l j<=100:=by
 cases l with
 | zero =>
  simp only[nE];split
  ·exact h j ‹_›
  omega
 | succ l=>simp only[nE];split<;>omega
def IJ (m n:Nat)(a:Nat->Nat->Int)(b c:Nat->Int)(aU:Nat)(g:Nat->Nat)(gO:Nat->Nat->Rat)(l:Nat)(s:Bool×ar×ar×afy×ar×afz):Prop :=
 ∃w u d3 cY V I,s=((bL w).c5,(bL w).cJ,a4 (n+m) I,d3,en aU u,a4 (n+m) cY)/\o3 m n a b aU g gO cY w u/\(∀j,j<n+m->cY j=true->j<n)/\kk aU (n+m) m g w u d3/\oX m n a b (mr n c) l cY V
theorem VQ {m n:Nat}{a:Nat->Nat->Int}{b c:Nat->Int}{aU:Nat}{g:Nat->Nat}{gO:Nat->Nat->Rat}(hm:m<=20)(aV:n<=40)(j6:Small m (n+m) (d4 m n a b))(aL:∀j,j<n-> -100<=c j/\c j<=100)(x0:Int)(fl d5 lI:ar)(k:Nat)(aQ:k<n)(s:Bool×ar×ar×afy×ar×afz)(bO:IJ m n a b c aU g gO (k+1) s):
 ∃bH,uV (n:Int) x0 fl d5 lI ((n+m:Nat):Int) (gw aU (n+m) g) (k:Int) s.1 s.2.1 s.2.2.1 s.2.2.2.1 s.2.2.2.2.1 s.2.2.2.2.2=some (.inl (((k+1:Nat):Int),bH))/\IJ m n a b c aU g gO (k+2) bH:=by
 obtain⟨w,u,d3,cY,V,I,rfl,dg,pv,f6,sA⟩:=bO;obtain⟨t,bI,-⟩:=dg.bI;obtain⟨ok,bx,kH,jf,ko,e,Ch,d1⟩:=Ox hm aV j6 dg pv bI.inj bI.le (nE n c (k+1)) (O9 aL (k+1)) (Oy n c (k+1)) sA f6;rcases d1 with ⟨rfl,y8,II,Cr,ab4⟩|⟨-,q2,q,a2,dt,hc⟩
 ·refine⟨((bL bx).c5,(bL bx).cJ,a4 (n+m) (nE n c (k+1)),jf,en aU kH,a4 (n+m) ko),?_,bx,kH,jf,ko,Cr,_,rfl,y8,II,Ch,ab4⟩;have CA:(List.replicate (a4 (n+m) I).length 0:ar).set (0+((k:Int)).toNat) (-1)=a4 (n+m) (nE n c (k+1)):=(by rw[eK,n4,dz,dF,k2];exact fx fun j _=>rfl);unfold uV;simp only;rw[CA];refine ff (cN (dX (by rw[List.length_replicate,eK,dz];omega) (aD e ?_)));rw[fP (by omega)]
 obtain⟨i,ae,ah⟩:=q2.V8 dt;exact(hc i ae ah).elim
theorem Xr {m n:Nat}{a:Nat->Nat->Int}{b c:Nat->Int}{aU:Nat}{g:Nat->Nat}{gO:Nat->Nat->Rat}(hm:m<=20)(aV:n<=40)(j6:Small m (n+m) (d4 m n a b))(aL:∀j,j<n-> -100<=c j/\c j<=100)(x0:Int)(fl d5 lI:ar){w:Rat}{u:b8}{d3:afy}{cY:Nat->Bool}{V:Nat->Rat}{I:Nat->Int}(dg:o3 m n a b aU g gO cY w u)(pv:∀j,j<n+m->cY j=true->j<n)(f6:kk aU (n+m) m g w u d3)(sA:oX m n a b (mr n c) 1 cY V):
 ∃iI jw uh sw,Gh (n:Int) x0 fl d5 lI ((n+m:Nat):Int) (gw aU (n+m) g) 0 (bL w).c5 (bL w).cJ (a4 (n+m) I) d3 (en aU u) (a4 (n+m) cY)=some ((bL iI).c5,(bL iI).cJ,uh,en aU jw,a4 (n+m) sw)/\o3 m n a b aU g gO sw iI jw/\kk aU (n+m) m g iI jw uh/\ ∃V,oX m n a b (mr n c) (n+1) sw V:=by
 unfold Gh
 obtain⟨r,e,aj⟩:=rf (f:=fun w:Int×Bool×ar×ar×afy×ar×afz=>uV (n:Int) x0 fl d5 lI ((n+m:Nat):Int) (gw aU (n+m) g) w.1 w.2.1 w.2.2.1 w.2.2.2.1 w.2.2.2.2.1 w.2.2.2.2.2.1 w.2.2.2.2.2.2)
  (fun (k:Nat) (s:Bool×ar×ar×afy×ar×afz)=>((k:Int),s)) n (fun k s=>IJ m n a b c aU g gO (k+1) s)
  (fun r=> ∃iI jw uh sw,r=((bL iI).c5,(bL iI).cJ,uh,en aU jw,a4 (n+m) sw)/\o3 m n a b aU g gO sw iI jw/\kk aU (n+m) m g iI jw uh/\ ∃V,oX m n a b (mr n c) (n+1) sw V)
  (fun k aQ s bO=> .inl (VQ hm aV j6 aL x0 fl d5 lI k aQ s bO))
  (fun s bO=>by obtain⟨w,u,d3,cY,V,I,rfl,dg,pv,f6,sA⟩:=bO;exact⟨_,by unfold uV;exact fY rfl,w,u,d3,cY,rfl,dg,f6,V,sA⟩)
  ((bL w).c5,(bL w).cJ,a4 (n+m) I,d3,en aU u,a4 (n+m) cY) ⟨w,u,d3,cY,V,I,rfl,dg,pv,f6,sA⟩
 obtain⟨iI,jw,uh,sw,rfl,o,J,ab⟩:=aj;exact⟨iI,jw,uh,sw,e,o,J,ab⟩
theorem YX:B 24<=B 50:=by decide +kernel
theorem YY:2<=d6:=by decide +kernel
theorem IK:40*(d6*100)<=21*100*(d6*d6):=by have:=Nat.mul_le_mul_left d6 YY;omega
theorem Xs {n:Nat}(x0 fR:Int)(fl d5 lI:ar)(o9:Bool)(uL:ar)(Fy:Int)(aT:afE)(bf:afy)(cb:ar)(cL:afz)(aV:n<=40):
 Gi (n:Int) x0 fR fl d5 lI o9 uL Fy aT bf cb cL 0 (List.replicate n (none:afw))=some (a4 n fun _=>cQ 0):=by
 unfold Gi
 obtain⟨s,e,-⟩:=iv (f:=fun w:Int×afA=>xz (n:Int) x0 fR fl d5 lI o9 uL Fy aT bf cb cL w.1 w.2)
  (fun (k:Nat) (_:Unit)=>((k:Int),a4 n fun j=>if j<k then cQ 0 else none)) n (fun _ _=>True) (fun _=>a4 n fun _=>cQ 0)
  (fun k aQ _ _=>by
    refine⟨(),?_,trivial⟩;unfold xz;refine ff (aD (x:=cQ 0) (tX (n:=0) (by rw[ms];omega)) (cN (dX (by simp only;rw[eK,dz];omega) ?_)));simp only;rw[fP (by omega),dz,dF,k2];congr 3;refine fx fun j _=> ?_;by_cases bB:j=k
    ·subst bB;rw[dw rfl,dw (by omega)]
    rw[dA bB];by_cases cF:j<k
    ·rw[dw cF,dw (by omega)]
    rw[dA cF,dA (by omega)])
  (fun _ _=>by unfold xz;refine fY ?_;simp only;congr 2;exact fx fun j av=>by rw[dw av]) () trivial
 have e0:(a4 n fun j=>if j<0 then cQ 0 else none)=List.replicate n none:=by rw[n4];exact fx fun j _=>by rw[dA (by omega)]
 rw[<- e0];exact e
theorem Xt {t:b8}{N i j:Nat}:t.gB (i+1) N j=t.gB i N j+if t.B i=j then t.T i N else 0:=rfl
theorem PH {m n:Nat}{a:Nat->Nat->Int}{b:Nat->Int}{aU N:Nat}{u:b8}(h:LT m n a b aU N u){i k:Nat}(ae:i<aU)(aQ:k<aU)(e:u.B i=u.B k):i=k:=by
 by_cases c:i=k
 ·exact c
 have o:=h.unit i ae k aQ;rw[<- e,h.unit i ae i ae,dw rfl,dA c] at o;grind
theorem Wv {m n aU N:Nat}{a:Nat->Nat->Int}{b:Nat->Int}{g:Nat->Nat}{w:Rat}{u:b8}(x0 fR:Int)(fl d5 lI:ar)(o9:Bool)(cL:afz)(hm:aU<=20)(fS:N<=1000)(aF:LT m n a b aU N u)(f:oa aU N w u){M:Nat}{d3:afy}(f6:kk aU N M g w u d3)(aV:n<=40):
 Gj (aU:Int) x0 fR fl d5 lI o9 (bL w).cJ (N:Int) (en aU u) (gw aU N g) d3 cL 0 (a4 n fun _=>cQ 0)=some (a4 n fun j=>cQ (u.gB aU N j)):=by
 have hw:=H4 f.hw;have ab5:0<w.num:=by have:(0:Rat)<((w.num:Int):Rat):=(by rw[hw.1];exact f.pos);exact Rat.intCast_lt_intCast.1 (by rw[show ((0:Int):Rat)=0 from rfl];exact this)
 have aar:(bL w).cJ=L w.num:=by show L (w.num.natAbs:Int)=_;rw[Int.natAbs_of_nonneg (by omega)]
 have h1:=sg EE;have jU:=sg BE;have aeN:=YX;rw[aar];unfold Gj
 obtain⟨s,e,-⟩:=iv (f:=fun v:Int×afA=>xA (aU:Int) x0 fR fl d5 lI o9 (L w.num) (N:Int) (en aU u) (gw aU N g) d3 cL v.1 v.2)
  (fun (k:Nat) (_:Unit)=>((k:Int),a4 n fun j=>cQ (u.gB k N j))) aU (fun _ _=>True) (fun _=>a4 n fun j=>cQ (u.gB aU N j))
  (fun k aQ _ _=>by
    refine⟨(),?_,trivial⟩;have gV:=aF.jQ k aQ;have h7:=H4 (f.h7 k aQ N (dE _));have b5:u.gB k N (u.B k)=0:=b8.Gz fun i ae e=>(by have:=PH aF (by omega) aQ e;omega);have Is:ra (bL (u.T k N*w)) (L w.num)=some (cQ (u.T k N)):=(by refine Hs ab5 ?_ (by omega) (by omega);rw[hw.1,h7.1];grind);unfold xA;simp only;refine ff (dX (by unfold en;rw[eK];omega) (aD (x:=((u.B k:Nat):Int)) (by rw[dz];exact jy aQ) (dX (by unfold gw;rw[eK];omega) (aD (x:=some (g k,N+1)) (by rw[dz];exact jy aQ) (aD (x:=(g k,N+1)) rfl (aD (f6.row k aQ) (cN (aD (x:=bL (u.T k N*w)) (by rw[dz];exact jy (by omega)) (aD Is (cN (cN ?_)))))))))));rw[fP (by omega),dz,dF,k2];congr 3;refine fx fun j _=> ?_;rw[Xt];by_cases bB:j=u.B k
    ·subst bB;rw[dw rfl,dw rfl,b5];congr 1;grind
    rw[dA bB,dA (fun e=>bB e.symm)];congr 1;grind)
  (fun _ _=>by unfold xA;exact fY rfl) () trivial
 exact e
theorem Pa {m n:Nat}{a:Nat->Nat->Int}{b:Nat->Int}{aU N:Nat}{w:Rat}{u:b8}{K:Nat}(aF:LT m n a b aU N u)(f:∀i,i<aU->dc K (u.T i N*w))(j:Nat):dc K (u.gB aU N j*w):=by
 by_cases c : ∃i,i<aU/\u.B i=j
 ·obtain⟨i,ae,rfl⟩:=c;have:u.gB aU N (u.B i)=u.T i N:=(by unfold b8.gB;rw[jW ae (f:=fun k=>if u.B k=u.B i then u.T k N else 0) (fun k aQ cx=>dA fun e=>cx (PH aF aQ ae e)),dw rfl]);rw[this];exact f i ae
 rw[b8.Gz fun i ae e=>c ⟨i,ae,e⟩];exact⟨0,by rw[Rat.zero_mul];rfl,by simp⟩
theorem YZ {m n:Nat}{a:Nat->Nat->Int}{b:Nat->Int}{aU N:Nat}{w:Rat}{u:b8}(aF:LT m n a b aU N u)(f:oa aU N w u)(j:Nat):dc d6 (u.gB aU N j*w):=Pa aF (fun i ae=>f.h7 i ae N (dE _)) j
theorem o3.QF {m n:Nat}{a:Nat->Nat->Int}{b:Nat->Int}{aU:Nat}{g:Nat->Nat}{w:Rat}{u:b8}{gO:Nat->Nat->Rat}{cY:Nat->Bool}(j6:Small m (n+m) (d4 m n a b))(h:o3 m n a b aU g gO cY w u):dc (j0 100 m) w/\ ∀i,i<aU->dc (j0 100 m) (u.T i (n+m)*w):=by
 obtain⟨t,bI,-,bO,rfl⟩:=h.bI;have q1:dc (j0 100 m) (1*t.D m (d4 m n a b)):=by rw[Rat.one_mul];exact yB fun i ae c aL=>j6.oq c aL _ (Nat.le_of_lt (bI.inv.ok.jQ i ae))
 refine⟨by have:=Es q1;rw[Rat.one_mul] at this;exact this,fun i ae=> ?_⟩;rw[bO.T i ae];refine Es ?_;show dc (j0 100 m) (t.T (g i) (n+m)*_);rw[<- bI.inv.ok.wO (bI.lt i ae) (dE _)];refine yB fun k aQ c aL=> ?_;simp only[ga];split
 ·exact j6.oq c aL _ (dE _)
 exact j6.oq c aL _ (Nat.le_of_lt (bI.inv.ok.jQ k aQ))
theorem Pb {n:Nat}{w:Rat}{x:Nat->Rat}{c:Nat->Int}(hw:dc (21*100*d6) w)(ah:0<w)(aa:∀j,dc d6 (x j*w))(aL:∀j,j<n-> -100<=c j/\c j<=100){k:Nat}(aQ:k<=n)(aV:n<=40):gb (b3 k fun j=>x j*(c j:Rat)):=by have o:dc (k*(d6*100)) (b3 k fun j=>x j*w*(c j:Rat)):=dc.sum fun j av=>(aa j).mul ⟨c j,rfl,by have:=aL j (by omega);omega⟩;have J:k*(d6*100)<=40*(d6*100):=afi _ (by omega);refine ug (K:=21*100*(d6*d6)) (hw.mono EE) (o.mono (Nat.le_trans J IK)) (by grind) ?_ (sg (dE _));rw[<- ik];exact ft fun j _=>by grind
theorem Qd {w x:Rat}(hw:dc (21*100*d6) w)(ah:0<w)(aa:dc d6 (x*w)):gb x :=
 ug (K:=21*100*(d6*d6)) (hw.mono EE) (aa.mono BE) (by grind) (by grind) (sg (dE _))
theorem Y0 {w x:Rat}{c:Int}(hw:dc (21*100*d6) w)(ah:0<w)(aa:dc d6 (x*w))(aL:-100<=c/\c<=100):gb (x*(c:Rat)):=by have:=aa.mul (show dc 100 (c:Rat) from ⟨c,rfl,by omega⟩);exact ug (K:=21*100*(d6*d6)) (hw.mono EE) (this.mono (by have:=IK;omega)) (by grind) (by grind) (sg (dE _))
theorem X6 {n:Nat}{w:Rat}(x0 fR:Int)(fl d5 lI:ar){x:Nat->Rat}{c:Nat->Int}(aP:lI=a4 n c)(hw:dc (21*100*d6) w)(ah:0<w)(aa:∀j,dc d6 (x j*w))(aL:∀j,j<n-> -100<=c j/\c j<=100)(aV:n<=40):
 Gk (n:Int) x0 fR fl d5 lI (a4 n fun j=>cQ (x j)) (cQ 0) 0=some (cQ (b3 n fun j=>x j*(c j:Rat))):=by
 subst aP;unfold Gk
 obtain⟨s,e,-⟩:=iv (f:=fun v:afw×Int=>xB (n:Int) x0 fR fl d5 (a4 n c) (a4 n fun j=>cQ (x j)) v.1 v.2)
  (fun (k:Nat) (_:Unit)=>(cQ (b3 k fun j=>x j*(c j:Rat)),(k:Int))) n (fun _ _=>True) (fun _=>cQ (b3 n fun j=>x j*(c j:Rat)))
  (fun k aQ _ _=>by refine⟨(),?_,trivial⟩;have ab6:=aL k aQ;have ae:oP (c k):=(by rw[ms];omega);unfold xB;simp only;refine ff (cN (aD (x:=cQ (x k)) (by rw[dz];exact jy aQ) (cN (aD (x:=c k) (by rw[dz];exact jy aQ) (aD (tX ae) (aD (O8 (Qd hw ah (aa k)) (yv ae)) (aD (PG (Pb hw ah aa aL (Nat.le_of_lt aQ) aV) (Y0 hw ah (aa k) ab6)) ?_)))))));rw[fP (by omega)];rfl)
  (fun _ _=>by unfold xB;exact fY rfl) () trivial
 exact e
theorem Y1 {m n:Nat}{a:Nat->Nat->Int}{b:Nat->Int}{aU N:Nat}{u:b8}(h:LT m n a b aU N u)(aV:n<=N):fX aU aU N u.T u where
 qV:=fun c aL j _=>by rw[jW aL (f:=fun i=>u.T c (u.B i)*u.T i j) (fun i ae cx=>by rw[h.unit c aL i ae,dA (fun e=>cx e.symm)];grind),h.unit c aL c aL,dw rfl];grind
 row:=⟨fun i c=>if i=c then 1 else 0,fun i ae j _=>by rw[jW ae (f:=fun c=>(if i=c then (1:Rat) else 0)*u.T c j) (fun c _ cx=>by rw[dA (Ne.symm cx)];grind),dw rfl];grind⟩
 unit:=h.unit
 jQ:=fun i ae=>Nat.lt_of_lt_of_le (h.jQ i ae) aV
theorem Xu {p:n1}{m n:Nat}{a:Nat->Nat->Int}{b:Nat->Int}(h:pw p m n a b){c:Nat->Int}(q6:p.kg=a4 n c)(aL:∀j,j<n-> -100<=c j/\c j<=100):
 ∃r,Ad p.kM p.jY p.gy p.gz p.kg=some r/\((¬pp m n a b/\r=(2,[],none))\/(pp m n a b/\ ¬Bounded m n a b (mr n c)/\r=(3,[],none)) \/
  (∃x w,sX m n a b (mr n c) x/\(0<w/\dc (j0 100 m) w/\ ∀j,dc (j0 100 m) (x j*w))/\(∀j,gb (x j))/\gb (val n (mr n c) x)/\r=(0,a4 n (fun j=>cQ (x j)),cQ (val n (mr n c) x)))):=by
 have hm:=h.hm;have aV:=h.aV;have j6:=NY h;obtain⟨r,e,aj⟩:=Ow h;unfold Ad;rcases aj with ⟨bO,t,aU,g,d3,rfl,bI,gV,f6⟩|⟨bO,rfl⟩;rotate_left
 ·exact⟨_,aD e rfl,.inl ⟨bO,rfl⟩⟩
 have aF:=bI.PF gV
 have dg:o3 m n a b aU g (hU g t).T (fun j=>decide (j<n)) (ha m (d4 m n a b) t) (hU g t) :=
  ⟨⟨t,bI,gV,⟨fun _ _ _=>rfl,fun _ _=>rfl⟩,rfl⟩,aF,Y1 aF (by omega),fun i ae=>decide_eq_true (gV i ae)⟩
 obtain⟨ok,iI,jw,uh,sw,ao,ab7,d1⟩:=Ox hm aV j6 dg (fun j _ av=>of_decide_eq_true av) bI.inj bI.le (nE n c 0) (O9 aL 0) (Oy n c 0) (oX.zero (c:=mr n c) (fun j av=>decide_eq_true av) (fun _=>0)) f6
 have CA:p.kg++(List.replicate (n+m) 0:ar).drop p.kg.length=a4 (n+m) (nE n c 0):=by
  rw[q6,eK];apply afo;intro i;by_cases ci:i<n
  ·rw[afh (by rw[eK];exact ci),gX ci,gX (by omega)];simp only[nE];rw[dw ci]
  rw[afn (by rw[eK];omega),eK,afm,show n+(i-n)=i by omega];by_cases JV:i<n+m
  ·rw[List.getElem?_replicate,dw JV,gX JV];simp only[nE];rw[dA ci]
  rw[List.getElem?_replicate,dA JV,List.getElem?_eq_none_iff.2 (by rw[eK];omega)]
 have RG:p.kg.length=n:=by rw[q6,eK]
 rcases d1 with ⟨rfl,pu,aas,ae8,Cg⟩|⟨rfl,q2,q,a2,dt,hc⟩;rotate_left
 ·refine⟨_,aD e ?_,.inr (.inl ⟨bO,q2.Jo _ a2 dt hc,rfl⟩)⟩;simp only;exact cN (dX (by rw[RG,dz];omega) (aD (by rw[dz,CA];exact ao) (hk rfl rfl)))
 obtain⟨mY,mo,bW,aeO,aB,sr,ab8,ae9,ab9⟩:=Xr (I:=nE n c 0) hm aV j6 aL p.kM p.gy p.gz p.kg pu aas ab7 Cg;have f2:=sr.qK j6;have IH:=ab9.mf sr.lt sr.Kh;have aa:=YZ sr.lt f2;have aZ:b3 n (fun j=>mo.gB aU (n+m) j*(c j:Rat))=val n (mr n c) (mo.gB aU (n+m)):=ft fun j av=>by have:mr n c j=(c j:Rat):=(by unfold mr nE;simp only;rw[dw av]);rw[this];exact Rat.mul_comm _ _
 refine⟨_,aD e ?_,.inr (.inr ⟨mo.gB aU (n+m),mY,IH,⟨f2.pos,(sr.QF j6).1,fun j=>Pa sr.lt (sr.QF j6).2 j⟩,fun j=>Qd f2.hw f2.pos (aa j),?_,rfl⟩)⟩
 ·simp only
  refine cN (dX (by rw[RG,dz];omega) (aD (by rw[dz,CA];exact ao) (eP rfl ?_)));rw[h.hx,dz,dz,CA];refine aD aB (cN (aD (Xs _ _ _ _ _ _ _ _ _ _ _ _ aV) (aD (x:=a4 n fun j=>cQ (mo.gB aU (n+m) j)) ?_ (aD (x:=cQ 0) (tX (n:=0) (by rw[ms];omega)) (aD (x:=cQ (val n (mr n c) (mo.gB aU (n+m)))) ?_ rfl)))))
  ·simp only;rw[show ((en aU mo).length:Nat)=aU from eK ..];exact Wv _ _ _ _ _ _ _ (by have:=bI.le;omega) (by omega) sr.lt f2 ab8 aV
  rw[eK,<- aZ];exact X6 _ _ _ _ _ q6 f2.hw f2.pos aa aL aV
 rw[<- aZ];exact Pb f2.hw f2.pos aa aL (dE _) aV
def uD (n N j:Nat):Nat:=if j=n then N else j
theorem H6 {n N j:Nat}(h:j<n):uD n N j=j:=by unfold uD;rw[dA (by omega)]
theorem Et {n N:Nat}:uD n N n=N:=by unfold uD;rw[dw rfl]
theorem PI {n N j:Nat}(aV:n<=N)(h:j<=n):uD n N j<=N:=by unfold uD;split<;>omega
structure EF (m n:Nat) (a:Nat->Nat->Int) (b:Nat->Int) (aU:Nat) (g:Nat->Nat) (gO:Nat->Nat->Rat) (u:b8):Prop where
 ok:fX aU aU n gO u
 bI : ∃t,mb m n (n+m) (d4 m n a b) t aU g/\(∀i,i<aU->t.B (g i)<n)/\ ∀i,i<aU->(∀j,j<=n->u.T i j=t.T (g i) (uD n (n+m) j))/\u.B i=t.B (g i)
theorem X7 {m n:Nat}{a:Nat->Nat->Int}{b:Nat->Int}{aU:Nat}{g:Nat->Nat}{u t:b8}(o:mb m n (n+m) (d4 m n a b) t aU g)(J:∀i,i<aU->t.B (g i)<n)(ab:∀i,i<aU->(∀j,j<=n->u.T i j=t.T (g i) (uD n (n+m) j))/\u.B i=t.B (g i)):LT m n a b aU n u:=by
 have L:=o.PF J;refine⟨fun x=> ?_,fun i ae k aQ=> ?_,fun i ae=>by rw[(ab i ae).2];exact J i ae,fun i ae=> ?_,dE _⟩
 ·rw[L.eqv x]
  constructor<;>intro aa i ae
  ·have:=aa i ae;rw[(ab i ae).1 n (dE _),Et,ft (g:=fun j=>(hU g t).T i j*x j) fun j av=>by rw[(ab i ae).1 j (by omega),H6 av];rfl];exact this
  have:=aa i ae;rw[(ab i ae).1 n (dE _),Et,ft (g:=fun j=>(hU g t).T i j*x j) fun j av=>by rw[(ab i ae).1 j (by omega),H6 av];rfl] at this;exact this
 ·have aN:t.B (g k)<n:=J k aQ;rw[(ab k aQ).2,(ab i ae).1 _ (by omega),H6 aN];exact L.unit i ae k aQ
 show 0<=u.T i n;rw[(ab i ae).1 n (dE _),Et];exact L.lg i ae
theorem EF.lt {m n:Nat}{a:Nat->Nat->Int}{b:Nat->Int}{aU:Nat}{g:Nat->Nat}{gO:Nat->Nat->Rat}{u:b8}(h:EF m n a b aU g gO u):LT m n a b aU n u:=by obtain⟨t,o,J,ab⟩:=h.bI;exact X7 o J ab
theorem EF.fits {m n:Nat}{a:Nat->Nat->Int}{b:Nat->Int}{aU:Nat}{g:Nat->Nat}{gO:Nat->Nat->Rat}{u:b8}(j6:Small m (n+m) (d4 m n a b))(h:EF m n a b aU g gO u):
 (∀i,i<aU-> ∀j,j<=n->gb (u.T i j))/\(∀i,i<aU-> ∀j,j<=n->0<u.T i j->gb (u.T i n / u.T i j)):=by
 obtain⟨t,o,J,ab⟩:=h.bI;refine⟨fun i ae j av=> ?_,fun i ae j av ah=> ?_⟩
 ·rw[(ab i ae).1 j av];exact o.inv.aak j6 (o.lt i ae) (PI (by omega) av)
 rw[(ab i ae).1 j av] at ah ⊢;rw[(ab i ae).1 n (dE _),Et];exact o.inv.aal j6 (o.lt i ae) (PI (by omega) av) ah
structure IL (m n:Nat) (a:Nat->Nat->Int) (b:Nat->Int) (i:Nat) (t:b8):Prop where
 bI:mb m n (n+m) (d4 m n a b) t m fun q=>q
 R0 : ∀q,q<i->t.B q<n\/ ∀j,j<n->t.T q j=0
theorem IL.cG {m n:Nat}{a:Nat->Nat->Int}{b:Nat->Int}{i:Nat}{t:b8}(h:IL m n a b i t){k:Nat}(ae:i<m)(aQ:k<n)(aN:n<=t.B i)(ah:t.T i k≠0):IL m n a b i (t.cG i k) where
 bI:=h.bI.cG (by omega) ae aQ aN ah
 R0:=fun q a2=>by
  simp only[b8.cG];rw[dA (by omega)];rcases h.R0 q a2 with d|d
  ·exact .inl d
  exact .inr fun j av=>by rw[dA (by omega),d j av,d k aQ];grind
def ti (k:Nat)(x:bV):afG:=(if x.jB=2 then [] else [⟨(k:Int),1⟩])++(if x.jB=1 then [] else [⟨(k:Int),-1⟩])
def kO (fg:afD):Nat->afG
 | 0=>[]
 | n+1=>kO fg n++(match fg[n]? with
  | some x=>ti n x
  | none=>[])
theorem Hu (fg:afD): ∀n,(kO fg n).length<=2*n
 | 0=>by simp[kO]
 | n+1=>by
  have:=Hu fg n;rw[kO,dH]
  have J:(match fg[n]? with
   | some x=>ti n x
   | none=>[]).length<=2:=by
   split
   ·rename_i x _;unfold ti;rw[dH];split<;>split<;>simp
   simp
  omega
theorem Oz {fg:afD}: ∀ {n:Nat} {c:fy},n<=fg.length->c∈kO fg n-> ∃k:Nat,c.hE=k/\k<n/\(c.sd=1\/c.sd = -1)
 | 0,c,_,h=>by simp[kO] at h
 | n+1,c,aV,h=>by
  rw[kO,List.mem_append] at h;rcases h with h|h
  ·obtain⟨k,o,J,ab⟩:=Oz (by omega) h;exact⟨k,o,by omega,ab⟩
  rw[dx (by omega)] at h;simp only[ti,List.mem_append] at h;rcases h with h|h
  ·split at h
   ·simp at h
   simp at h;subst h;exact⟨n,rfl,by omega,.inl rfl⟩
  split at h
  ·simp at h
  simp at h;subst h;exact⟨n,rfl,by omega,.inr rfl⟩
theorem G2 (s:cp)(dg:s.bs.length<=1000):uT s=some (kO s.bs s.bs.length):=by
 unfold uT KQ;rw[hf]
 obtain⟨x,e,-⟩:=iv (f:=fun w:Int×afG=>w5 s.bs (s.bs.length:Nat) w.1 w.2) (fun (n:Nat) (_:Unit)=>((n:Int),kO s.bs n)) s.bs.length (fun _ _=>True) (fun _=>kO s.bs s.bs.length)
  (fun n aV _ _=>by
    refine⟨(),?_,trivial⟩;have aa:=dx aV;have aF:=Hu s.bs n;have ao:kO s.bs (n+1)=kO s.bs n++ti n s.bs[n]:=(by rw[kO,aa]);unfold w5;refine ff (cN (aD (x:=s.bs[n]) (by simp only;rw[dz];exact aa) ?_));simp only;rw[fP (by omega),ao];unfold ti;by_cases bB:s.bs[n].jB=2
    ·rw[dw bB];refine hk (EX bB) (eP (Jm (by omega)) (dX (by simp only[dH,dM,afp];omega) ?_));rw[dA (by omega)];simp
    rw[dA bB];refine eP (Jm bB) (dX (by simp only[dH,dM,afp];omega) ?_);by_cases cF:s.bs[n].jB=1
    ·refine hk (EX cF) ?_;rw[dw cF];simp
    refine eP (Jm cF) (dX (by simp only[dH,dM,afp];omega) ?_);rw[dA cF];simp)
  (fun _ _=>by unfold w5;exact fY rfl) () trivial
 exact aD e rfl
def iK (s:cp)(k:Nat):Int×Int:=(rU s k).getD (0,0)
theorem AG (s:cp)(h:kd s)(k:Nat)(aQ:k<s.bs.length):rU s k=some (iK s k)/\(-100<=(iK s k).1/\(iK s k).1<=100)/\(-100<=(iK s k).2/\(iK s k).2<=100):=by
 obtain⟨x,y,o,ab,aA⟩:=X3 s h k (by omega) (by omega);have e:iK s k=(x,y):=by unfold iK;rw[o];rfl
 rw[e];exact⟨o,ab,aA⟩
def hB (s:cp)(j:Int)(fM k:Nat):Int :=
 match s.bs[k]? with
 | none=>0
 | some x=>if j=x.gy then (if fM=0 then (iK s k).1 else (iK s k).2) else if j=x.gz then -(if fM=0 then (iK s k).1 else (iK s k).2) else 0
theorem yE (s:cp)(h:kd s)(j:Int)(fM k:Nat): -100<=hB s j fM k/\hB s j fM k<=100:=by
 unfold hB;split
 ·omega
 rename_i x aa;obtain⟨-,ab,aA⟩:=AG s h k (fN aa);split
 ·split<;>omega
 split
 ·split<;>omega
 omega
theorem X8 (s:cp)(h:kd s)(j:Int)(aT:ar)(bf cb:Int)(cL:afH):
 FE s.cm s.bs j aT bf cb (len_ c9 s.bs) cL 0 (a4 s.bs.length fun _=>(0:Int)) (a4 s.bs.length fun _=>(0:Int))=some (a4 s.bs.length (hB s j 0),a4 s.bs.length (hB s j 1)):=by
 obtain⟨-,-,f3,f4⟩:=id h;unfold FE;rw[hf]
 obtain⟨x,e,-⟩:=iv (f:=fun w:Int×ar×ar=>w0 s.cm s.bs j aT bf cb (s.bs.length:Nat) cL w.1 w.2.1 w.2.2) (fun (n:Nat) (_:Unit)=>((n:Int),(a4 s.bs.length fun k=>if k<n then hB s j 0 k else 0),a4 s.bs.length fun k=>if k<n then hB s j 1 k else 0)) s.bs.length (fun _ _=>True) (fun _=>(a4 s.bs.length (hB s j 0),a4 s.bs.length (hB s j 1)))
  (fun n aV _ _=>by
    refine⟨(),?_,trivial⟩;have aa:=dx aV;obtain⟨v1,v3,v4⟩:=AG s h n aV
    have cO : ∀fM v,v=hB s j fM n->(a4 s.bs.length fun k=>if k<n then hB s j fM k else 0).set n v=a4 s.bs.length fun k=>if k<n+1 then hB s j fM k else 0:=fun fM v aZ=>by
     rw[k2];refine fx fun k _=> ?_;by_cases c:k=n
     ·subst c;rw[dw rfl,dw (by omega)];exact aZ
     rw[dA c];by_cases cF:k<n
     ·rw[dw cF,dw (by omega)]
     rw[dA cF,dA (by omega)]
    have g1 : ∀F:Nat->Int,0<=((n:Nat):Int)/\((n:Nat):Int)<((a4 s.bs.length F).length:Nat):=fun F=>(by rw[eK];omega);have g2 : ∀F:Nat->Int,0+((n:Nat):Int).toNat<(a4 s.bs.length F).length:=fun F=>(by rw[eK,dz];omega);unfold w0;refine ff (cN (aD (x:=s.bs[n]) (by simp only;rw[dz];exact aa) (aD (x:=iK s n) v1 ?_)));simp only;by_cases bB:j=s.bs[n].gy
    ·have e0 : ∀fM,hB s j fM n=if fM=0 then (iK s n).1 else (iK s n).2:=fun fM=>(by unfold hB;rw[aa];simp only[dw bB]);refine eP (wm bB) (dX (g1 _) (dX (g2 _) (dX (g1 _) (dX (g2 _) ?_))));rw[fP (by omega),dz,dF,cO 0 _ (by rw[e0];rfl),cO 1 _ (by rw[e0];rfl)]
    refine hk (su bB) ?_;by_cases cF:j=s.bs[n].gz
    ·have e0 : ∀fM,hB s j fM n = -(if fM=0 then (iK s n).1 else (iK s n).2):=fun fM=>(by unfold hB;rw[aa];simp only[dA bB,dw cF]);refine eP (wm cF) (dX (g1 _) (dX (g2 _) (dX (g1 _) (dX (g2 _) ?_))));rw[fP (by omega),dz,dF,cI (by omega) (by omega),cI (by omega) (by omega),cO 0 _ (by rw[e0];simp),cO 1 _ (by rw[e0];simp)]
    have e0 : ∀fM,hB s j fM n=0:=fun fM=>(by unfold hB;rw[aa];simp only[dA bB,dA cF]);refine hk (su cF) ?_;rw[fP (by omega)];congr 4
    ·refine fx fun k _=> ?_
     by_cases c:k=n
     ·subst c;rw[dA (by omega),dw (by omega),e0]
     by_cases cF:k<n
     ·rw[dw cF,dw (by omega)]
     rw[dA cF,dA (by omega)]
    refine fx fun k _=> ?_;by_cases c:k=n
    ·subst c;rw[dA (by omega),dw (by omega),e0]
    by_cases cF:k<n
    ·rw[dw cF,dw (by omega)]
    rw[dA cF,dA (by omega)])
  (fun _ _=>by
    unfold w0;refine fY ?_;simp only;congr 3
    ·exact fx fun k aQ=>by rw[dw aQ]
    exact fx fun k aQ=>by rw[dw aQ]) () trivial
 have z : ∀fM,(a4 s.bs.length fun k=>if k<0 then hB s j fM k else 0)=a4 s.bs.length fun _=>(0:Int):=fun fM=>fx fun k _=>by rw[dA (by omega)]
 rw[z,z] at e;exact e
def hY (s:cp)(q:Nat):Nat:=(kz s.cm 0).getD q 0
def fm (s:cp):Nat:=(kz s.cm 0).length
def l3 (s:cp)(r k:Nat):Int:=hB s (hY s (r / 2)) (r % 2) k
theorem Hv (s:cp):(kz s.cm 0).map (fun n:Nat=>(n:Int))=a4 (fm s) fun q=>((hY s q:Nat):Int):=by
 apply afo;intro q;rw[dJ];by_cases c:q<fm s
 ·rw[gX c];have h:(kz s.cm 0)[q]? = some (kz s.cm 0)[q]:=dx c;unfold hY;rw[afc,h];rfl
 rw[List.getElem?_eq_none_iff.2 (by unfold fm at c;omega),List.getElem?_eq_none_iff.2 (by rw[eK];omega)];rfl
theorem PJ (s:cp){q:Nat}(h:q<fm s):hY s q<s.cm.length:=by
 have o:(kz s.cm 0)[q]? = some (kz s.cm 0)[q]:=dx h;have J:hY s q=(kz s.cm 0)[q]:=by unfold hY;rw[afc,o];rfl
 have:=Hr s.cm 0 _ (dG o);omega
theorem Bh (s:cp):fm s<=s.cm.length:=Oq s.cm 0
theorem Un (s:cp)(h:kd s):zH s=some (a4 (2*fm s) fun r=>a4 s.bs.length (l3 s r)):=by
 obtain⟨-,-,f3,f4⟩:=id h;have wK:=Bh s;unfold zH;refine aD (Gy s (by omega)) ?_;rw[Hv,gE,eK];unfold KI
 obtain⟨x,e,-⟩:=iv (f:=fun w:Int×afH=>w1 s.cm s.bs (a4 (fm s) fun q=>((hY s q:Nat):Int)) ((fm s:Nat):Int) w.1 w.2) (fun (n:Nat) (_:Unit)=>((n:Int),a4 (2*n) fun r=>a4 s.bs.length (l3 s r))) (fm s) (fun _ _=>True) (fun _=>a4 (2*fm s) fun r=>a4 s.bs.length (l3 s r))
  (fun n aV _ _=>by refine⟨(),?_,trivial⟩;unfold w1;refine ff (cN (aD (x:=((hY s n:Nat):Int)) (by simp only;rw[dz];exact gX aV) (dX (by rw[hf];omega) ?_)));refine aD (x:=(a4 s.bs.length (hB s (hY s n) 0),a4 s.bs.length (hB s (hY s n) 1))) (by rw[show (len_ c9 s.bs).toNat=s.bs.length by rw[hf,dz],n4];exact X8 s h _ _ _ _ _) (dX (by simp only[dH,eK,dM,afp];omega) ?_);simp only;rw[fP (by omega),show 2*(n+1)=2*n+1+1 by omega,AA (2*n+1),AA (2*n)];have ad:a4 s.bs.length (hB s (hY s n) 0)=a4 s.bs.length (l3 s (2*n)):=fx fun k _=>(by unfold l3;rw[show 2*n / 2=n by omega,show 2*n % 2=0 by omega]);have bu:a4 s.bs.length (hB s (hY s n) 1)=a4 s.bs.length (l3 s (2*n+1)):=fx fun k _=>(by unfold l3;rw[show (2*n+1) / 2=n by omega,show (2*n+1) % 2=1 by omega]);rw[ad,bu];simp)
  (fun _ _=>by unfold w1;exact fY rfl) () trivial
 exact aD e rfl
def hx (s:cp):afG:=kO s.bs s.bs.length
def cU (s:cp):Nat:=(hx s).length
def hs (s:cp)(c:Nat):Nat:=((hx s).getD c ⟨0,0⟩).hE.toNat
def ot (s:cp)(c:Nat):Int:=((hx s).getD c ⟨0,0⟩).sd
def mZ (s:cp)(i c:Nat):Int:=ot s c*l3 s i (hs s c)
def ou (s:cp)(l:ar)(i:Nat):Int:= -(l.getD (2*hY s (i / 2)+i % 2) 0)
theorem t7 (s:cp){c:Nat}(aL:c<cU s):(hx s)[c]? = some ⟨(hs s c:Int),ot s c⟩/\hs s c<s.bs.length/\(ot s c=1\/ot s c = -1):=by
 have o:(hx s)[c]? = some (hx s)[c]:=dx aL;have J:(hx s).getD c ⟨0,0⟩=(hx s)[c]:=by rw[afc,o];rfl
 obtain⟨k,ao,aB,bT⟩:=Oz (dE _) (dG o);have di:hs s c=k:=by unfold hs;rw[J,ao];rfl
 have ew:ot s c=((hx s)[c]).sd:=by unfold ot;rw[J]
 refine⟨?_,by omega,by rw[ew];exact bT⟩;rw[o,di,ew,<- ao]
theorem yM (s:cp):cU s<=2*s.bs.length:=Hu _ _
theorem Qe (s:cp)(h:kd s)(i:Nat){c:Nat}(aL:c<cU s): -100<=mZ s i c/\mZ s i c<=100:=by have o:=yE s h (hY s (i / 2)) (i % 2) (hs s c);unfold mZ l3;rcases(t7 s aL).2.2 with e|e<;>rw[e]<;>omega
def wS (s:cp)(l:ar):n1:=⟨((2*fm s:Nat):Int),(cU s:Int),a4 (2*fm s*cU s) (fun x=>mZ s (x / cU s) (x % cU s)),a4 (2*fm s) (ou s l),a4 (cU s) fun _=>0⟩
theorem PK (s:cp)(h:kd s)(l:ar)(aN:∀x∈l,-100<=x/\x<=100):pw (wS s l) (2*fm s) (cU s) (mZ s) (ou s l) where
 rows:=rfl
 hx:=rfl
 np:=eK ..
 IG:=fun i ae j av=>by have o:i*cU s+j<2*fm s*cU s:=(by have:(i+1)*cU s<=2*fm s*cU s:=afi _ ae;rw[Nat.succ_mul] at this;omega);show (a4 _ _)[_]? = _;rw[gX o];have J:(i*cU s+j) / cU s=i:=(by rw[Nat.mul_comm,Nat.mul_add_div (by omega),Nat.div_eq_of_lt av];rfl);have ab:(i*cU s+j) % cU s=j:=(by rw[Nat.mul_comm,Nat.mul_add_mod,Nat.mod_eq_of_lt av]);rw[J,ab]
 RX:=eK ..
 QC:=fun i ae=>gX ae
 hm:=by obtain⟨-,-,f3,f4⟩:=id h;have:=Bh s;omega
 aV:=by obtain⟨-,-,f3,f4⟩:=id h;have:=yM s;omega
 Cx:=fun i _ j av=>Qe s h i av
 Fv:=fun i _=>by
  unfold ou;rw[afc]
  cases c:l[2*hY s (i / 2)+i % 2]? with
  | none=>simp
  | some x =>
   have:=aN x (dG c);simp only[Option.getD_some];omega
def uM (s:cp)(r c:Nat):Int:=if r<2*fm s/\c<cU s then mZ s r c else 0
def mX (s:cp)(l:ar)(r:Nat):Int:=if r<2*fm s then ou s l r else 0
def pF (s:cp)(N i c x:Nat):Int:=if (x / N<i\/(x / N=i/\x % N<c))/\x % N<cU s then mZ s (x / N) (x % N) else 0
theorem Y2 (s:cp){T N i c:Nat}(aL:c<cU s)(fS:cU s<=N)(h7:i*N+c<T){v:Int}(aZ:v=mZ s i c):(a4 T (pF s N i c)).set (i*N+c) v=a4 T (pF s N i (c+1)):=by
 have J:(i*N+c) / N=i:=by rw[Nat.mul_comm,Nat.mul_add_div (by omega),Nat.div_eq_of_lt (by omega)];rfl
 have ab:(i*N+c) % N=c:=by rw[Nat.mul_comm,Nat.mul_add_mod,Nat.mod_eq_of_lt (by omega)]
 rw[k2];refine fx fun x _=> ?_;unfold pF;by_cases e:x=i*N+c
 ·rw[dw e,e,J,ab,dw ⟨.inr ⟨rfl,by omega⟩,aL⟩,aZ]
 rw[dA e];have cx : ¬(x / N=i/\x % N=c):=fun ⟨a,b⟩=>e (by rw[<- Nat.div_add_mod x N,a,b,Nat.mul_comm]);by_cases d:(x / N<i\/(x / N=i/\x % N<c))/\x % N<cU s
 ·rw[dw d,dw ⟨by omega,d.2⟩]
 rw[dA d,dA (fun wR=>d ⟨by omega,wR.2⟩)]
theorem Y3 (s:cp)(T N i:Nat):a4 T (pF s N i (cU s))=a4 T (pF s N (i+1) 0):=by
 refine fx fun x _=> ?_;unfold pF;by_cases d:(x / N<i\/(x / N=i/\x % N<cU s))/\x % N<cU s
 ·rw[dw d,dw ⟨by omega,d.2⟩]
 rw[dA d,dA (fun wR=>d ⟨by omega,wR.2⟩)]
theorem X9 (s:cp)(T N:Nat):a4 T (pF s N 0 0)=a4 T fun _=>0:=fx fun x _=>by unfold pF;rw[dA (fun h=>by rcases h.1 with h|h;exact Nat.not_lt_zero _ h;exact Nat.not_lt_zero _ h.2)]
theorem Y4 (s:cp)(T N:Nat):a4 T (pF s N (2*fm s) 0)=a4 T fun x=>uM s (x / N) (x % N):=fx fun x _=>by
 unfold pF uM;by_cases d:x / N<2*fm s/\x % N<cU s
 ·rw[dw d,dw ⟨.inl d.1,d.2⟩]
 rw[dA d,dA (fun wR=>d ⟨by omega,wR.2⟩)]
theorem Ya (s:cp)(l:ar)(M:Nat):(a4 M fun x=>if x<0 then mX s l x else 0)=a4 M fun _=>0:=fx fun j _=>by rw[dA (by omega)]
theorem Y5 (s:cp)(l:ar)(M:Nat):(a4 M fun x=>if x<2*fm s then mX s l x else 0)=a4 M (mX s l):=fx fun j _=>by
 by_cases c:j<2*fm s
 ·rw[dw c]
 rw[dA c];unfold mX;rw[dA c]
theorem Ww (s:cp)(h:kd s)(l:ar)(aF:l.length=2*s.cm.length)(aN:∀x∈l,-100<=x/\x<=100)(ed j7:Nat)(aeP:ed<=100)(aeQ:j7<=100):
 uP s l (ed:Int) (j7:Int)=some (((2*fm s+j7:Nat):Int),((cU s+ed:Nat):Int),a4 ((2*fm s+j7)*(cU s+ed)) (fun x=>uM s (x / (cU s+ed)) (x % (cU s+ed))),a4 (2*fm s+j7) (mX s l),a4 (cU s+ed) fun _=>0):=by
 obtain⟨-,-,f3,f4⟩:=id h;have wK:=Bh s;have q6:=yM s;have aeR:(2*fm s+j7)*(cU s+ed)<=112*116:=Nat.mul_le_mul (by omega) (by omega);unfold uP;refine aD (Un s h) (aD (x:=hx s) (G2 s (by omega)) ?_);have iI:U ((len_ (fh 1 R) (a4 (2*fm s) fun r=>a4 s.bs.length (l3 s r)))+(j7:Int))=((2*fm s+j7:Nat):Int):=by rw[hf,eK,cI (by omega) (by omega)];omega
 have mY:U ((len_ fi (hx s))+(ed:Int))=((cU s+ed:Nat):Int):=by rw[hf];show U (((cU s:Nat):Int)+(ed:Int))=_;rw[cI (by omega) (by omega)];omega
 have tJ:U (((2*fm s+j7:Nat):Int)*((cU s+ed:Nat):Int))=(((2*fm s+j7)*(cU s+ed):Nat):Int):=by rw[<- Int.natCast_mul,cI (by omega) (by omega)]
 rw[iI,mY,tJ,dz,dz,dz,n4,n4,n4,hf,eK];refine cN (cN (cN ?_));refine aD (x:=a4 ((2*fm s+j7)*(cU s+ed)) (fun x=>uM s (x / (cU s+ed)) (x % (cU s+ed)))) ?_ ?_
 ·unfold KB
  obtain⟨x,e,-⟩:=iv (f:=fun w:Int×ar=>wW s.cm s.bs l (hx s) (a4 (2*fm s) fun r=>a4 s.bs.length (l3 s r)) ((2*fm s:Nat):Int) ((2*fm s+j7:Nat):Int) ((cU s+ed:Nat):Int) (a4 (2*fm s+j7) fun _=>0) (a4 (cU s+ed) fun _=>0) w.1 w.2) (fun (i:Nat) (_:Unit)=>((i:Int),a4 ((2*fm s+j7)*(cU s+ed)) (pF s (cU s+ed) i 0))) (2*fm s) (fun _ _=>True) (fun _=>a4 ((2*fm s+j7)*(cU s+ed)) (fun x=>uM s (x / (cU s+ed)) (x % (cU s+ed))))
   (fun i ae _ _=>by
     refine⟨(),?_,trivial⟩;have ps:(i+1)*(cU s+ed)<=(2*fm s+j7)*(cU s+ed):=afi _ (by omega);rw[Nat.succ_mul] at ps
     obtain⟨y,aB,-⟩:=iv (f:=fun w:Int×ar=>wV s.cm s.bs l (hx s) (i:Int) (a4 s.bs.length (l3 s i)) (a4 (2*fm s) fun r=>a4 s.bs.length (l3 s r)) ((2*fm s:Nat):Int) ((cU s:Nat):Int) ((2*fm s+j7:Nat):Int) ((cU s+ed:Nat):Int) (a4 (2*fm s+j7) fun _=>0) (a4 (cU s+ed) fun _=>0) w.1 w.2) (fun (c:Nat) (_:Unit)=>((c:Int),a4 ((2*fm s+j7)*(cU s+ed)) (pF s (cU s+ed) i c))) (cU s) (fun _ _=>True) (fun _=>a4 ((2*fm s+j7)*(cU s+ed)) (pF s (cU s+ed) i (cU s)))
      (fun c aL _ _=>by refine⟨(),?_,trivial⟩;obtain⟨jU,h1,jV⟩:=t7 s aL;have aeS:=Qe s h i aL;have acN:U (U ((i:Int)*((cU s+ed:Nat):Int))+((c:Nat):Int))=((i*(cU s+ed)+c:Nat):Int):=(by rw[<- Int.natCast_mul,cI (x:=((i*(cU s+ed):Nat):Int)) (by omega) (by omega),cI (by omega) (by omega)];omega);unfold wV;refine ff (dX (by show _/\((c:Nat):Int)<((cU s:Nat):Int);simp only;omega) (aD (x:=⟨(hs s c:Int),ot s c⟩) (by simp only;rw[dz];exact jU) (cN (aD (x:=l3 s i (hs s c)) (by simp only;rw[dz];exact gX h1) ?_))));simp only;rw[acN];refine cN (cN ?_);rw[fP (by omega),dz,dF,show ot s c*l3 s i (hs s c)=mZ s i c from rfl,cI (by omega) (by omega),Y2 s aL (by omega) (by omega) rfl])
      (fun _ _=>by unfold wV;exact fY rfl) () trivial
     unfold wW;refine ff (cN (aD (x:=a4 s.bs.length (l3 s i)) (by simp only;rw[dz];exact gX ae) (aD (x:=a4 ((2*fm s+j7)*(cU s+ed)) (pF s (cU s+ed) i (cU s))) (by unfold KA;rw[hf];exact aB) ?_)));simp only;rw[fP (by omega),Y3])
   (fun _ _=>by unfold wW;refine fY ?_;simp only;rw[Y4]) () trivial
  rw[X9] at e;exact e
 refine aD (Gy s (by omega)) ?_;rw[Hv,gE,eK];refine aD (x:=a4 (2*fm s+j7) (mX s l)) ?_ rfl;unfold KC
 obtain⟨x,e,-⟩:=iv (f:=fun w:Int×ar=>wX l (a4 (fm s) fun q=>((hY s q:Nat):Int)) ((fm s:Nat):Int) ((2*fm s+j7:Nat):Int) ((cU s+ed:Nat):Int) (a4 ((2*fm s+j7)*(cU s+ed)) (fun x=>uM s (x / (cU s+ed)) (x % (cU s+ed)))) (a4 (cU s+ed) fun _=>0) w.1 w.2) (fun (n:Nat) (_:Unit)=>((n:Int),a4 (2*fm s+j7) fun x=>if x<2*n then mX s l x else 0)) (fm s) (fun _ _=>True) (fun _=>a4 (2*fm s+j7) (mX s l))
  (fun n aV _ _=>by
    refine⟨(),?_,trivial⟩;have b0:=PJ s aV;have mY : ∀a:Nat,a<=1000->U ((2:Int)*((a:Nat):Int))=((2*a:Nat):Int):=fun a bA=>(by rw[cI (by omega) (by omega)];omega);have fR:=aN l[2*hY s n] (List.getElem_mem (by omega));have e9:=aN l[2*hY s n+1] (List.getElem_mem (by omega));have gN:mX s l (2*n) = -l[2*hY s n]:=(by unfold mX ou;rw[dw (by omega),show 2*n / 2=n by omega,show 2*n % 2=0 by omega,Nat.add_zero,afc,dx (by omega)];rfl);have hQ:mX s l (2*n+1) = -l[2*hY s n+1]:=by unfold mX ou;rw[dw (by omega),show (2*n+1) / 2=n by omega,show (2*n+1) % 2=1 by omega,afc,dx (by omega)];rfl
    have cO : ∀k v,v=mX s l k->(a4 (2*fm s+j7) fun x=>if x<k then mX s l x else 0).set k v=a4 (2*fm s+j7) fun x=>if x<k+1 then mX s l x else 0:=fun k v aZ=>by
     rw[k2];refine fx fun j _=> ?_;by_cases c:j=k
     ·subst c;rw[dw rfl,dw (by omega)];exact aZ
     rw[dA c];by_cases cF:j<k
     ·rw[dw cF,dw (by omega)]
     rw[dA cF,dA (by omega)]
    unfold wX;refine ff (cN (aD (x:=((hY s n:Nat):Int)) (by simp only;rw[dz];exact gX aV) ?_));simp only;rw[mY (hY s n) (by omega),mY n (by omega),fP (n:=2*hY s n) (by omega),fP (n:=2*n) (by omega)];refine cN (aD (x:=l[2*hY s n]) (by rw[dz];exact dx (by omega)) (cN (aD (x:=l[2*hY s n+1]) (by rw[dz];exact dx (by omega)) ?_)));refine cN (cN (cN (dX (by rw[List.length_set,eK,dz];omega) ?_)));rw[fP (by omega),cI (x:=0-l[2*hY s n]) (by omega) (by omega),cI (x:=0-l[2*hY s n+1]) (by omega) (by omega),dz,dz,dF,dF,cO _ _ (by rw[gN];omega),cO _ _ (by rw[hQ];omega),show 2*(n+1)=2*n+1+1 by omega])
  (fun _ _=>by unfold wX;refine fY ?_;simp only;rw[Y5]) () trivial
 rw[Nat.mul_zero,Ya] at e;exact e
theorem DF (s:cp)(h:kd s)(l:ar)(aF:l.length=2*s.cm.length)(aN:∀x∈l,-100<=x/\x<=100):
 uP s l 0 0=some ((wS s l).kM,(wS s l).jY,(wS s l).gy,(wS s l).gz,(wS s l).kg):=by
 have e:=Ww s h l aF aN 0 0 (by omega) (by omega);rw[show ((0:Nat):Int)=0 from rfl] at e
 have hA:a4 (2*fm s*cU s) (fun x=>uM s (x / cU s) (x % cU s))=a4 (2*fm s*cU s) (fun x=>mZ s (x / cU s) (x % cU s)):=fx fun x aa=>by
  have q6:0<cU s:=by
   rcases Nat.eq_zero_or_pos (cU s) with c|c
   ·rw[c,Nat.mul_zero] at aa;omega
   exact c
  unfold uM;rw[dw ⟨Nat.div_lt_of_lt_mul (by rw[Nat.mul_comm];exact aa),Nat.mod_lt _ q6⟩]
 have gV:a4 (2*fm s) (mX s l)=a4 (2*fm s) (ou s l):=fx fun x aa=>by unfold mX;rw[dw aa]
 rw[e];simp only[Nat.add_zero,wS];rw[hA,gV]
theorem Xv {x:Rat}(h:gb x):x9 (lj x)=some true:=by have p:=h.cY;have o:=p.yT;have J:=p.yU;obtain⟨I,-,e,k⟩:=VG (r:=lj x) (show (L (gD x).1.natAbs).length<=_ by omega) (show (L (gD x).2).length<=_ by omega);rw[e,k.2 ⟨gD x,p,rfl⟩]
theorem Y6 {x:Rat}(h:gb x):DC (lj x)=some (cQ x):=aD (Xv h) (eP rfl rfl)
theorem PL (x:Rat):u2 (cQ x)=some (mM (gD x).1):=Ws
theorem Yb {x:Rat}(h:gb x):Ar (cQ x)=some (lj x):=by have p:=h.cY;have o:=p.yT;have J:=p.yU;refine aD (I:=zW (kq (gD x)).p3) (x:=hb (gD x).1) ?_ (aD (x:=L (gD x).2) (Hq (a:=L (gD x).2) (by omega)) rfl);unfold zW;exact j4 (by rw[gE];show ¬(60:Int)<((L ((gD x).1.natAbs:Int)).length:Nat);omega) (aD (x:=L ((gD x).1.natAbs:Int)) (Hq (a:=L ((gD x).1.natAbs:Int)) (by omega)) rfl)
theorem ZF (x:Rat):DO (cQ x)=some (cQ (-x)):=by
 have e:pG (hb x.num)=some (hb (-x.num)):=by
  have:pG (hb x.num)=(kY (!(decide (x.num<0))) (L (x.num.natAbs:Int))).bind fun r=>some r:=rfl;rw[this,qt (by omega)]
  have:eU (!(decide (x.num<0))) (x.num.natAbs:Int) = -x.num:=by
   unfold eU;by_cases c:x.num<0
   ·rw[decide_eq_true c];simp;omega
   rw[decide_eq_false c];simp;omega
  rw[this];rfl
 refine aD (I:=pG (hb x.num)) e ?_;unfold cQ gD;rw[Rat.neg_num,Rat.neg_den];rfl
theorem Xw:gb 0:=yv (n:=0) (by rw[ms];omega)
theorem NZ {fg:afD}{k:Nat}: ∀ {n:Nat},k<n->n<=fg.length-> ∃x∈kO fg n,x.hE=(k:Int)
 | 0,h,_=>by omega
 | n+1,h,aV=>by
  rw[kO,dx (show n<fg.length by omega)];by_cases e:k=n
  ·subst e
   simp only;unfold ti;by_cases c:fg[k].jB=2
   ·exact⟨⟨(k:Int),-1⟩,by rw[List.mem_append,List.mem_append,dA (show ¬fg[k].jB=1 by omega)];exact .inr (.inr (by simp)),rfl⟩
   exact⟨⟨(k:Int),1⟩,by rw[List.mem_append,List.mem_append,dA c];exact .inr (.inl (by simp)),rfl⟩
  obtain⟨x,o,J⟩:=NZ (fg:=fg) (k:=k) (n:=n) (by omega) (by omega);exact⟨x,List.mem_append_left _ o,J⟩
theorem Xx (s:cp){k:Nat}(aQ:k<s.bs.length): ∃c,c<cU s/\hs s c=k:=by obtain⟨x,o,J⟩:=NZ aQ (dE _);obtain⟨c,aL⟩:=afr o;have aF:c<cU s:=fN aL;obtain⟨e,-,-⟩:=t7 s aF;have aB:(hx s)[c]? = some x:=aL;rw[aB] at e;have:=dI e;rw[this] at J;exact⟨c,aF,by simp only at J;omega⟩
def i2 (s:cp)(x:Nat->Rat)(c k:Nat):Rat:=b3 c fun j=>if hs s j=k then (ot s j:Rat)*x j else 0
def q7 (s:cp)(c k:Nat):Bool:=(List.range c).any fun j=>hs s j == k
theorem Yc (s:cp)(c k:Nat):q7 s (c+1) k=(q7 s c k || (hs s c == k)):=by unfold q7;rw[List.range_succ,List.any_append];simp
theorem ZG {s:cp}{x:Nat->Rat}{c k:Nat}(h:q7 s c k=false):i2 s x c k=0:=by unfold q7 at h;rw[List.any_eq_false] at h;exact nr fun j av=>dA fun e=>h j (List.mem_range.2 av) (by rw[e];simp)
theorem Y7 (s:cp){k:Nat}(aQ:k<s.bs.length):q7 s (cU s) k=true:=by obtain⟨c,o,J⟩:=Xx s aQ;unfold q7;exact List.any_eq_true.2 ⟨c,List.mem_range.2 o,by rw[J];simp⟩
theorem Qf {s:cp}{x:Nat->Rat}{w:Rat}{K:Nat}(aa:∀j,dc K (x j*w)): ∀ {c:Nat} (k:Nat),c<=cU s->dc (c*K) (i2 s x c k*w):=fun {c} k aL=>by
 have:i2 s x c k*w=b3 c fun j=>(if hs s j=k then (ot s j:Rat)*x j else 0)*w:=by unfold i2;rw[Rat.mul_comm,<- ik];exact ft fun j _=>Rat.mul_comm _ _
 rw[this];refine dc.sum fun j av=> ?_;obtain⟨-,-,e⟩:=t7 s (show j<cU s by omega);split
 ·rcases e with e|e<;>rw[e]
  ·rw[show ((1:Int):Rat)*x j*w=x j*w by grind];exact aa j
  rw[show ((-1:Int):Rat)*x j*w = -(x j*w) by grind];exact(aa j).neg
 exact⟨0,by rw[Rat.zero_mul];rfl,by simp⟩
theorem Ik {x y:Rat}(aa:gb x)(aP:gb y)(h:gb (x+y)):oC (cQ x) (cQ y)=some (cQ (x+y)):=aD (PG aa aP) (aD (Qc h) rfl)
def qL (s:cp)(x:Nat->Rat)(c:Nat):afA:=a4 s.bs.length fun k=>if q7 s c k then cQ (i2 s x c k) else none
theorem Yd (s:cp)(v:kd s){x:Nat->Rat}(aa:∀j,gb (x j))(bz:∀c k,c<=cU s->gb (i2 s x c k)):zR s (a4 (cU s) fun j=>cQ (x j))=some (a4 s.bs.length fun k=>cQ (i2 s x (cU s) k)):=by
 have bp:=v.2.2.2;have q6:=yM s;have aF:len_ c9 s.bs=((s.bs.length:Nat):Int):=hf ..;have hy:len_ fi (hx s)=((cU s:Nat):Int):=hf ..;unfold zR;rw[aF];refine cN (aD (x:=hx s) (G2 s (by omega)) (aD ?_ rfl));unfold K8;rw[hy]
 obtain⟨z,e,-⟩:=iv (f:=fun w:Int×afA=>xc (a4 (cU s) fun j=>cQ (x j)) (hx s) ((cU s:Nat):Int) w.1 w.2) (fun (c:Nat) (_:Unit)=>((c:Int),qL s x c)) (cU s) (fun _ _=>True) (fun _=>a4 s.bs.length fun k=>cQ (i2 s x (cU s) k))
  (fun c aL _ _=>by
    refine⟨(),?_,trivial⟩;obtain⟨jU,h1,jV⟩:=t7 s aL
    have fin : ∀y,y=cQ (i2 s x (c+1) (hs s c))->(qL s x c).set (hs s c) y=qL s x (c+1):=fun y aP=>by
     unfold qL;rw[k2];refine fx fun k _=> ?_;rw[Yc];by_cases e:k=hs s c
     ·subst e;rw[dw rfl,aP];simp
     have aB:i2 s x (c+1) k=i2 s x c k:=(by show i2 s x c k+(if hs s c=k then _ else _)=_;rw[dA (fun q=>e q.symm)];grind);rw[dA e,aB,show (hs s c == k)=false from beq_false_of_ne (fun q=>e q.symm),Bool.or_false]
    have last:i2 s x (c+1) (hs s c)=i2 s x c (hs s c)+(ot s c:Rat)*x c:=(by show i2 s x c _+(if hs s c=hs s c then _ else _)=_;rw[dw rfl]);have hlen:(qL s x c).length=s.bs.length:=eK ..;have QG:(qL s x c)[0+((hs s c:Nat):Int).toNat]? = some (if q7 s c (hs s c) then cQ (i2 s x c (hs s c)) else none):=by rw[dz];exact jy h1
    have put : ∀ {F:afL->Prop} {y:Rat},y=(ot s c:Rat)*x c->gb y ->
     ((if q7 s c (hs s c) then cQ (i2 s x c (hs s c)) else none:afw).elim (if (0+((hs s c:Nat):Int).toNat)<(qL s x c).length then some (Sum.inl (U ((c:Int)+(1:Int)),(qL s x c).set (0+((hs s c:Nat):Int).toNat) (cQ y))) else none)
       fun _=>oC (if q7 s c (hs s c) then cQ (i2 s x c (hs s c)) else none) (cQ y) >>= fun dm=>if (0+((hs s c:Nat):Int).toNat)<(qL s x c).length then some (Sum.inl (U ((c:Int)+(1:Int)),(qL s x c).set (0+((hs s c:Nat):Int).toNat) dm)) else none)
     = some (Sum.inl (((c+1:Nat):Int),qL s x (c+1)):(Int×afA)⊕(afA)):=fun {F y} aP acO=>by
     rw[fP (by omega),dz,dF]
     cases q:q7 s c (hs s c) with
     | false =>
      rw[dA (by simp)];show (if _ then _ else _)=_;rw[dw (by rw[hlen];exact h1),fin _ (by rw[last,ZG q,aP];congr 1;grind)]
     | true =>
      rw[dw rfl];show (oC (cQ (i2 s x c (hs s c))) (cQ y) >>= _)=_;have bO:gb (i2 s x c (hs s c)+y):=(by rw[aP,<- last];exact bz _ _ aL);refine aD (Ik (bz _ _ (Nat.le_of_lt aL)) acO bO) ?_;rw[dw (by rw[hlen];exact h1),fin _ (by rw[last,aP])]
    unfold xc;simp only;refine ff (dX (by show _/\((c:Nat):Int)<((cU s:Nat):Int);omega) (aD jU (cN (aD (x:=cQ (x c)) (by rw[dz];exact gX aL) ?_))));rcases jV with e|e
    ·refine fY (dX (by rw[hlen];simp only;omega) (aD QG ?_));exact put (F:=fun _=>True) (by rw[e];grind) (aa c)
    refine ff (aD (ZF (x c)) (dX (by rw[hlen];simp only;omega) (aD QG ?_)));exact put (F:=fun _=>True) (by rw[e];grind) (aa c).neg)
  (fun _ _=>by unfold xc;refine fY ?_;simp only;congr 2;exact fx fun k aQ=>by rw[Y7 s aQ,dw rfl]) () trivial
 have e0:qL s x 0=List.replicate (((s.bs.length:Nat):Int).toNat) none:=by rw[dz,n4];exact fx fun k _=>rfl
 rw[<- e0];exact e
theorem Wx {n:Nat}(aV:n<=40){y:Nat->Rat}(aP:∀k,k<n->gb (y k)):Ak (a4 n fun k=>cQ (y k))=some (a4 n (fun k=>lj (y k)),true):=by
 have aF:len_ (cd 3 a8) (a4 n fun k=>cQ (y k))=((n:Nat):Int):=by rw[hf,eK]
 unfold Ak;rw[aF];refine cN (aD (x:= .inl (a4 n fun k=>lj (y k))) ?_ rfl);unfold Mp
 obtain⟨z,e,-⟩:=iv (f:=fun w:Int×afI=>xF (a4 n fun k=>cQ (y k)) ((n:Nat):Int) w.1 w.2) (fun (k:Nat) (_:Unit)=>((k:Int),a4 n fun j=>if j<k then lj (y j) else (⟨⟨false,[]⟩,[]⟩:gL))) n (fun _ _=>True) (fun _=>(.inl (a4 n fun k=>lj (y k)):afI⊕Unit))
  (fun k aQ _ _=>by
    refine⟨(),?_,trivial⟩;unfold xF;simp only;refine ff (cN (aD (x:=cQ (y k)) (by rw[dz];exact gX aQ) ?_));show (Ar (cQ (y k)) >>= _)=_;refine aD (Yb (aP k aQ)) (cN (cN ?_));rw[fP (by omega),dz,dF,k2];congr 3;refine fx fun j _=> ?_;by_cases bB:j=k
    ·subst bB;rw[dw rfl,dw (by omega)]
    rw[dA bB];by_cases cF:j<k
    ·rw[dw cF,dw (by omega)]
    rw[dA cF,dA (by omega)])
  (fun _ _=>by unfold xF;refine fY ?_;simp only;congr 3;exact fx fun j av=>by rw[dw av]) () trivial
 have e0:(a4 n fun j=>if j<0 then lj (y j) else (⟨⟨false,[]⟩,[]⟩:gL))=List.replicate (((n:Nat):Int).toNat) ⟨⟨false,[]⟩,[]⟩:=by rw[dz,n4];exact fx fun j _=>by rw[dA (by omega)]
 rw[<- e0];exact e
structure IM (m n:Nat) (a:Nat->Nat->Int) (b:Nat->Int) (c:Nat->Rat) (x:Nat->Rat) (w:Rat):Prop where
 mf:sX m n a b c x
 pos:0<w
 oq:dc (j0 100 m) w
 R1 : ∀j,dc (j0 100 m) (x j*w)
 fit : ∀j,gb (x j)
theorem Y8 {m:Nat}(hm:m<=20):j0 100 m<=d6:=Er▸yl (by omega) hm
theorem PM {s:cp}{x:Nat->Rat}{w:Rat}{m:Nat}(hm:m<=20)(q6:cU s<=16)(ah:0<w)(hw:dc (j0 100 m) w)(aa:∀j,dc (j0 100 m) (x j*w)){c:Nat}(k:Nat)(aL:c<=cU s):gb (i2 s x c k):=by
 have o:=Qf aa k aL;have gQ:=Y8 hm;have J:c*j0 100 m<=16*d6:=Nat.mul_le_mul (by omega) gQ;have ab:16*d6<=40*(d6*100):=by omega
 exact ug (K:=21*100*(d6*d6)) (hw.mono (Nat.le_trans gQ BE)) (o.mono (Nat.le_trans J (Nat.le_trans ab IK))) (by grind) (by grind) (sg (dE _))
theorem Xy {α:Type}{T n:Nat}(f:Nat->α)(h:n<=T):(a4 T f).take n=a4 n f:=by
 apply afo;intro i;by_cases c:i<n
 ·rw[dR,dw c,gX (by omega),gX c]
 rw[dR,dA c,List.getElem?_eq_none_iff.2 (by rw[eK];omega)]
theorem Ye (s:cp)(v:kd s){p:n1}{m n:Nat}{a:Nat->Nat->Int}{b:Nat->Int}(h:pw p m n a b){c:Nat->Int}(q6:p.kg=a4 n c)(aL:∀j,j<n-> -100<=c j/\c j<=100)(aV:cU s<=n):
 (¬pp m n a b/\uR s p.kM p.jY p.gy p.gz p.kg=some ([],[],false))\/(pp m n a b/\ ¬Bounded m n a b (mr n c)/\uR s p.kM p.jY p.gy p.gz p.kg=some ([],[],false)) \/
   ∃x w r,IM m n a b (mr n c) x w/\uR s p.kM p.jY p.gy p.gz p.kg=some (a4 s.bs.length (fun k=>cQ (i2 s x (cU s) k)),r,true):=by
 have bp:=v.2.2.2;have aeT:=yM s;obtain⟨r,e,aj⟩:=Xu h q6 aL;rcases aj with ⟨q,rfl⟩|⟨q,bf,rfl⟩|⟨x,w,q,⟨iI,mY,tJ⟩,cb,cL,rfl⟩
 ·exact .inl ⟨q,aD e (eP rfl rfl)⟩
 ·exact .inr (.inl ⟨q,bf,aD e (eP rfl rfl)⟩)
 have hy:len_ fi (hx s)=((cU s:Nat):Int):=hf ..;have b0:=Yd s v cb (fun c k aL=>PM h.hm (by omega) iI mY tJ k aL);have key : ∃r,uR s p.kM p.jY p.gy p.gz p.kg=some (a4 s.bs.length (fun k=>cQ (i2 s x (cU s) k)),r,true):=by refine⟨((a4 n fun j=>cQ (x j)).drop (cU s)).take (((a4 n fun j=>cQ (x j)).map (cd 3 a8)).length-cU s),aD e (hk rfl (aD (x:=hx s) (G2 s (by omega)) ?_))⟩;rw[hy];simp only[dz];refine cN (dX (by simp only[eK];omega) (aD ?_ (dX (by simp only[eK];omega) rfl)));simp only[List.drop_zero,Nat.sub_zero];rw[Xy _ aV];exact b0
 obtain⟨r,aj⟩:=key;exact .inr (.inr ⟨x,w,r,⟨q,iI,mY,tJ,cb⟩,aj⟩)
theorem UR {m n:Nat}{a:Nat->Nat->Int}{b:Nat->Int}:Bounded m n a b (mr n fun _=>0):=⟨0,fun y _=>by
 unfold val;rw[nr fun j av=> ?_]
 ·exact Rat.le_refl
 have:mr n (fun _=>0) j=0:=by unfold mr nE;simp only;split<;>rfl
 rw[this];grind⟩
theorem Yf (s:cp)(v:kd s){l:ar}(ok:sL s l=some true)(aF:l.length=2*s.cm.length)(aN:∀x∈l,-100<=x/\x<=100):
 (¬pp (2*fm s) (cU s) (mZ s) (ou s l)/\xN s l=some ([],false)) \/
   ∃x w,IM (2*fm s) (cU s) (mZ s) (ou s l) (mr (cU s) fun _=>0) x w/\xN s l=some (a4 s.bs.length (fun k=>lj (i2 s x (cU s) k)),true):=by
 have bp:=v.2.2.2;have q6:=yM s;have ah:=PK s v l aN;unfold xN;rcases Ye s v ah (c:=fun _=>0) rfl (fun j _=>by omega) (dE _) with ⟨q,e⟩|⟨q,bf,e⟩|⟨x,w,r,q,e⟩
 ·exact .inl ⟨q,aD ok (eP rfl (aD (DF s v l aF aN) (aD e (hk rfl rfl))))⟩
 ·exact(bf UR).elim
 refine .inr ⟨x,w,q,aD ok (eP rfl (aD (DF s v l aF aN) (aD e (eP rfl (aD (Wx (by omega) fun k _=>PM ah.hm (by omega) q.pos q.oq q.R1 k (dE _)) rfl)))))⟩
def qi (fg:afD)(list:ar):Nat->afD
 | 0=>[]
 | n+1=>qi fg list n++(match fg[n]? with
  | some x=>if (n:Int)∈list then [] else [x]
  | none=>[])
theorem HJ (fg:afD)(list:ar): ∀n,(qi fg list n).length<=n
 | 0=>by simp[qi]
 | n+1=>by
  have:=HJ fg list n;rw[qi,dH];split
  ·split
   ·simp only[afp];omega
   simp only[dM,afp];omega
  simp only[afp];omega
theorem Pc {fg:afD}{list:ar}: ∀ {n:Nat} {m:bV},m∈qi fg list n->m∈fg
 | 0,m,h=>by simp[qi] at h
 | n+1,m,h=>by
  rw[qi,List.mem_append] at h;rcases h with h|h
  ·exact Pc h
  split at h
  ·rename_i x aa
   split at h
   ·simp at h
   simp at h;subst h;exact dG aa
  simp at h
def rJ (s:cp)(list:ar):cp:=⟨s.cm,qi s.bs list s.bs.length⟩
theorem aat {n:Nat}(h:n<1000000000000):U ((n:Int)+1)=((n+1:Nat):Int):=by rw[cI (by omega) (by omega)];omega
theorem Ve (list:ar)(aF:list.length<=1048576)(k:Int):sM list k=some (decide (k∈list)):=by
 unfold sM AM GW;rw[gE]
 obtain⟨r,e,h⟩:=rf (f:=fun w:Int=>sG list k (list.length:Nat) w) (fun (i:Nat) (_:Unit)=>(i:Int)) list.length (fun i _=> ∀j,j<i->list[j]? ≠ some k) (fun r=>(∃i:Nat,r = .inr (i:Int)/\k∈list)\/(r = .inl ()/\k ∉ list))
  (fun i ae _ cT=>by
    have aa:=dx ae;unfold sG;by_cases c:list[i]=k
    ·right;exact⟨_,ff (cN (aD (x:=list[i]) (by rw[dz];exact aa) (eP (wm c.symm) rfl))),.inl ⟨i,rfl,c▸List.getElem_mem ae⟩⟩
    left;refine⟨(),ff (cN (aD (x:=list[i]) (by rw[dz];exact aa) (hk (su (Ne.symm c)) (by rw[aat (by omega)])))),fun j av=> ?_⟩;by_cases e:j=i
    ·rw[e,aa];exact fun h=>c (dI h)
    exact cT j (by omega))
  (fun _ cT=>⟨_,by unfold sG;exact fY rfl,.inr ⟨rfl,fun aQ=>by obtain⟨j,av,e⟩:=List.getElem_of_mem aQ;exact cT j av (by rw[dx av,e])⟩⟩) () (fun j av=>by omega)
 rcases h with ⟨i,rfl,h⟩|⟨rfl,h⟩
 ·exact aD (x:=(i:Int)) (aD e rfl) (by rw[decide_eq_true h];simp)
 exact aD (x:=(-1:Int)) (aD e rfl) (by rw[decide_eq_false h];rfl)
theorem Vf (s:cp)(av:s.cm.length<=1000)(hm:s.bs.length<=1000)(list:ar)(aF:list.length<=1048576):uX s list=some (rJ s list):=by
 unfold uX Lb C9;rw[hf];refine aD (x:=s.cm) (cN rfl) ?_
 obtain⟨x,e,-⟩:=iv (f:=fun w:Int×afD=>xf list s.bs (s.bs.length:Nat) s.cm w.1 w.2) (fun (i:Nat) (_:Unit)=>((i:Int),qi s.bs list i)) s.bs.length (fun _ _=>True) (fun _=>qi s.bs list s.bs.length)
  (fun i ae _ _=>by
    refine⟨(),?_,trivial⟩;have aa:=dx ae;have hw:=HJ s.bs list i;have ao:qi s.bs list (i+1)=qi s.bs list i++(if (i:Int)∈list then [] else [s.bs[i]]):=(by rw[qi,aa]);unfold xf;refine ff (cN (aD (x:=s.bs[i]) (by simp only;rw[dz];exact aa) (aD (Ve list aF _) ?_)));simp only;rw[fP (by omega),ao];by_cases c:(i:Int)∈list
    ·rw[dw c];exact eP (decide_eq_true c) (by rw[List.append_nil])
    rw[dA c];exact hk (decide_eq_false c) (dX (by simp only[dH,dM,afp];omega) rfl))
  (fun _ _=>by unfold xf;exact fY rfl) () trivial
 exact aD e rfl
def mB (p:Nat->Bool):Nat->ar
 | 0=>[]
 | n+1=>if p n then mB p n++[(n:Int)] else mB p n
theorem Hw (p:Nat->Bool): ∀n,(mB p n).length<=n
 | 0=>dE _
 | n+1=>by
  have:=Hw p n;rw[mB];split
  ·rw[dH,List.length_singleton];omega
  omega
theorem Xz {f:Int×ar->Option ((Int×ar)⊕ar)}(p:Nat->Bool)(N:Nat)
 (h : ∀n,n<N->f ((n:Int),mB p n)=some (.inl (((n+1:Nat):Int),if p n then mB p n++[(n:Int)] else mB p n)))
 (he:f ((N:Int),mB p N)=some (.inr (mB p N))):iter f (0,[])=some (mB p N):=by
 obtain⟨x,e,-⟩:=iv (f:=f) (fun (i:Nat) (_:Unit)=>((i:Int),mB p i)) N (fun _ _=>True) (fun _=>mB p N) (fun n aV _ _=>⟨(),h n aV,trivial⟩) (fun _ _=>he) () trivial;exact e
theorem PN (x:Int):0<=U (((BitVec.ofInt (IntKind.bits .i64) x &&& BitVec.ofInt (IntKind.bits .i64) (255:Int)).toNat:Int))/\U (((BitVec.ofInt (IntKind.bits .i64) x &&& BitVec.ofInt (IntKind.bits .i64) (255:Int)).toNat:Int))<=255:=by
 have h:(BitVec.ofInt (IntKind.bits .i64) x &&& BitVec.ofInt (IntKind.bits .i64) (255:Int)).toNat<=255:=by rw[BitVec.toNat_and];exact Nat.le_trans Nat.and_le_right (Nat.le_of_eq (by decide))
 rw[cI (by omega) (by omega)];omega
theorem D5 (c:ar)(aL:c.length<=1048576)(i h:Int)(ae:0<=i): ∃b eM cf,qo c i h=some (b,eM,cf)/\(0<=b/\b<=255)/\0<=eM:=by
 unfold qo;by_cases e:i<c.length
 ·have aa:=dx (show i.toNat<c.length by omega);exact⟨_,_,_,lf (by show i<((c.map eU8).length:Nat);rw[aft];exact e) (dX ⟨ae,e⟩ (aD aa rfl)),PN _,by rw[cI (by omega) (by omega)];omega⟩
 exact⟨_,_,_,j4 (by show ¬i<((c.map eU8).length:Nat);rw[aft];exact e) rfl,PN _,ae⟩
theorem lN (n:Int)(o:1<=n)(J:n<=256)(c:ar)(aL:c.length<=1048576)(i h:Int)(ae:0<=i): ∃b eM cf,ku n c i h=some (b,eM,cf)/\(0<=b/\b<n)/\0<=eM:=by obtain⟨b,eM,cf,e,aN,iC⟩:=D5 c aL i h ae;unfold ku;refine⟨b.tmod n,eM,cf,fY (lf J (aD e (cN rfl))),?_,iC⟩;rw[Int.tmod_eq_emod_of_nonneg aN.1];exact⟨Int.emod_nonneg _ (by omega),Int.emod_lt_of_pos _ (by omega)⟩
theorem HK (n:Int)(o:1<=n)(J:n<=256)(c:ar)(aL:c.length<=1048576)(i h:Int)(ae:0<=i): ∃b eM cf,xR n c i h=some (b,eM,cf)/\0<=eM:=by obtain⟨b,eM,cf,e,-,iC⟩:=lN n o J c aL i h ae;exact⟨b == 0,eM,cf,aD e rfl,iC⟩
theorem HL (l:ar)(o:1<=l.length)(J:l.length<=256)(c:ar)(aL:c.length<=1048576)(i h:Int)(ae:0<=i): ∃b eM cf,xS l c i h=some (b,eM,cf)/\b∈l/\0<=eM:=by obtain⟨b,eM,cf,e,aN,iC⟩:=lN (len_ R l) (by rw[hf];omega) (by rw[hf];omega) c aL i h ae;rw[hf] at aN;have aa:=dx (show b.toNat<l.length by omega);exact⟨_,eM,cf,aD e (cN (aD aa rfl)),List.getElem_mem _,iC⟩
theorem PO (c:ar)(aL:c.length<=1048576): ∃h,z4 c=some h:=by
 obtain⟨r,e,-⟩:=rf (f:=fun w:Int×Int=>xl c w.1 w.2) (fun (n:Nat) (s:Int)=>(s,(n:Int))) c.length (fun _ _=>True) (fun _=>True)
  (fun n aV s _=>by
    have aa:=dx aV;simp only;unfold xl;have aF:(n:Int)<len_ eU8 c:=(by rw[hf];omega);by_cases d:(n:Int)<4000
    ·exact .inl ⟨_,lf aF (lf d (cN (aD (gt rfl aa) (by rw[nq (by omega)])))),trivial⟩
    exact .inr ⟨_,lf aF (j4 d rfl),trivial⟩)
  (fun s _=>⟨_,by simp only;unfold xl;exact j4 (by rw[hf];omega) rfl,trivial⟩) (U ((1975:Int)+len_ eU8 c)) trivial
 exact⟨r,aD e rfl⟩
theorem XA (c:ar)(aL:c.length<=1048576)(n:Nat)(aV:n<=1000): ∃i h,C6 c (n:Int)=some (i,h)/\0<=i:=by
 obtain⟨h0,e0⟩:=PO c aL
 obtain⟨⟨i,h⟩,e,ae⟩:=iv (f:=fun w:Int×Int×Int=>xn (n:Int) c w.1 w.2.1 w.2.2) (fun (k:Nat) (s:Int×Int)=>((k:Int),s.1,s.2)) n (fun _ s=>0<=s.1) (fun s=>s)
  (fun k aQ s bO=>by obtain⟨b,eM,cf,e,-,iC⟩:=D5 c aL s.1 s.2 bO;refine⟨(eM,cf),?_,iC⟩;simp only;unfold xn;exact ff (aD e (by rw[nq (by omega)])))
  (fun s _=>by simp only;unfold xn;exact fY rfl) (0,h0) (by simp)
 exact⟨i,h,aD e0 (aD e rfl),ae⟩
theorem VR (c:ar)(aL:c.length<=1048576)(n:Nat)(aV:n<=1000): ∃r,Dg c (n:Int)=some r/\0<=r:=by obtain⟨i,h,e,ae⟩:=XA c aL n aV;obtain⟨gH,aca,ur,ao,rA,ps⟩:=D5 c aL i h ae;obtain⟨h8,aeU,EQ,aB,y5,pt⟩:=D5 c aL aca ur ps;refine⟨_,aD e (aD ao (aD aB rfl)),?_⟩;rw[cI (x:=gH*256) (by omega) (by omega),cI (by omega) (by omega)];omega
theorem PP (s:cp)(v:kd s)(aV:∀(n:Nat) j,s.cm[n]? = some j->va j.nw=some true)(bz:∀(i k:Nat) x y,s.cm[i]? = some x->s.cm[k]? = some y->i≠k->(x.nw.toList == y.nw.toList)=false):ow s=some true:=by
 obtain⟨f1,f2,f3,f4⟩:=v
 have JM:FZ s.cm (len_ c3 s.cm) s.bs 0=some (.inl ()):=by
  unfold FZ;rw[hf]
  obtain⟨_,e,-⟩:=iv (f:=fun w:Int=>xi s.cm (s.cm.length:Nat) s.bs w) (fun (i:Nat) (_:Unit)=>(i:Int)) s.cm.length (fun _ _=>True) (fun _=>(Sum.inl ():Unit⊕Unit))
   (fun i ae _ _=>by
     refine⟨(),?_,trivial⟩;have aa:=dx ae;obtain⟨gH,h8,kU,rR⟩:=f1 i _ aa;have av:Ab s.cm[i]=some true:=by unfold Ab;have p : ∀n:Int,-50<=n->n<=50->xX n=some true:=fun n o J=>(by unfold xX;exact lf o (by rw[decide_eq_true J]));exact aD (aV i _ aa) (eP rfl (aD (p _ gH h8) (eP rfl (aD (p _ kU rR) rfl))))
     have aQ:zY ⟨s.cm,s.bs⟩ s.cm[i].nw=some (i:Int):=by
      unfold zY CE Kz
      obtain⟨r,e,rfl⟩:=rf (f:=fun w:Int=>zB s.cm s.cm[i].nw (s.cm.length:Nat) w) (fun (k:Nat) (_:Unit)=>(k:Int)) s.cm.length (fun k _=>k<=i) (fun r=>r=(Sum.inr (i:Int):Unit⊕Int))
       (fun k aQ _ aeV=>by
         have aP:=dx aQ;unfold zB CV;by_cases c:k=i
         ·subst c;exact .inr ⟨_,ff (cN (aD (gt rfl aP) (aD rfl (eP (by simp) rfl)))),rfl⟩
         exact .inl ⟨(),ff (cN (aD (gt rfl aP) (aD rfl (hk (bz k i _ _ aP aa c) (by rw[fP (by omega)]))))),by omega⟩)
       (fun _ h=>by omega) () (Nat.zero_le _)
      rw[hf];exact aD (x:=(i:Int)) (aD e rfl) rfl
     unfold xi;exact ff (cN (aD (gt rfl aa) (aD av (eP rfl (aD aQ (hk (EX rfl) (by rw[fP (by omega)]))))))))
   (fun _ _=>by unfold xi;exact fY rfl) () trivial
  exact e
 have qI : ∀m∈s.bs,qx s.cm m=true:=fun m hm=>by obtain⟨n,aV⟩:=afr hm;exact f2 n m aV
 have a2:zC s.bs s=some false:=by
  unfold zC CC Ky;rw[hf]
  obtain⟨x,e,-⟩:=iv (f:=fun w:Int=>wU s.bs s.cm s.bs (s.bs.length:Nat) w) (fun (i:Nat) (_:Unit)=>(i:Int)) s.bs.length (fun _ _=>True) (fun _=>(Sum.inl ():Unit⊕Int))
   (fun i ae _ _=>by refine⟨(),?_,trivial⟩;have aa:=dx ae;have aN:=qI s.bs[i] (List.getElem_mem ae);unfold wU CQ;refine ff (cN (aD (gt rfl aa) (aD (x:=false) (aD (Vc _ _) (by simp[aN])) (hk rfl (by rw[fP (by omega)]))))))
   (fun _ _=>by unfold wU;exact fY rfl) () trivial
  exact aD (x:=(-1:Int)) (aD e rfl) rfl
 unfold ow;exact j4 (by rw[hf];omega) (j4 (by rw[hf];omega) (aD JM (aD a2 rfl)))
def o4:List ByteArray:=[⟨#[97]⟩,⟨#[98]⟩,⟨#[99]⟩,⟨#[100]⟩]
theorem N0 {k:Nat}{x:ByteArray}(h:o4[k]? = some x):va x=some true:=by
 have key : ∀u:UInt8,97<=u.toNat->u.toNat<=122->va ⟨#[u]⟩=some true:=fun u o J=>by
  unfold va Mh
  obtain⟨_,e,-⟩:=iv (f:=fun w:Int=>xC ⟨#[u]⟩ (((⟨#[u]⟩:ByteArray).size:Nat):Int) w) (fun (i:Nat) (_:Unit)=>(i:Int)) 1 (fun _ _=>True) (fun _=>(Sum.inl ():Unit⊕Unit))
   (fun i ae _ _=>by obtain rfl:i=0:=(by omega);refine⟨(),?_,trivial⟩;unfold xC;have bO:(((⟨#[u]⟩:ByteArray).size:Nat):Int)=1:=rfl;rw[bO];refine ff (cN (aD (x:=true) ?_ (eP rfl rfl)));unfold C7;have dt:((⟨#[u]⟩:ByteArray).data.toList.getD (((0:Nat):Int)).toNat 0)=u:=rfl;rw[dt];exact ff (by rw[decide_eq_true (by omega)]))
   (fun _ _=>by unfold xC;exact j4 (by show ¬(1:Int)<1;omega) rfl) () trivial
  refine aD e ?_;simp only;have cx:((⟨#[u]⟩:ByteArray).toList == (⟨#[]⟩:ByteArray).toList)=false:=(by simp[ByteArray.toList,ByteArray.toList.loop,ByteArray.size]);rw[cx];rfl
 match k,h with
 | 0,h=>obtain rfl:=dI h;exact key 97 (by decide) (by decide)
 | 1,h=>obtain rfl:=dI h;exact key 98 (by decide) (by decide)
 | 2,h=>obtain rfl:=dI h;exact key 99 (by decide) (by decide)
 | 3,h=>obtain rfl:=dI h;exact key 100 (by decide) (by decide)
 | k+4,h=>simp[o4] at h
theorem Qg {i k:Nat}{x y:ByteArray}(h:o4[i]? = some x)(cf:o4[k]? = some y)(cx:i≠k):(x.toList == y.toList)=false:=by
 have ae:=fN h;have aQ:=fN cf;have key : ∀i k:Fin 4,i≠k->((o4[i.1]!).toList == (o4[k.1]!).toList)=false:=by decide +kernel
 have ao:o4[i]! = x:=by simp[h]
 have aB:o4[k]! = y:=by simp[cf]
 have:=key ⟨i,by simpa [o4] using ae⟩ ⟨k,by simpa [o4] using aQ⟩ (fun e=>cx (by simpa using congrArg Fin.val e));rw[ao,aB] at this;exact this
structure nR (s:cp):Prop where
 v:kd s
 ok:ow s=some true
 Ki:3<=s.cm.length
 gr:2<=s.bs.length
 R2:s.cm.map (·.nw)=o4.take s.cm.length
 Cz : ∀j∈s.cm,-4<=j.lF/\j.lF<=8/\ -9<=j.lG/\j.lG<=3
theorem H7 (s:cp)(av:∀j∈s.cm,-4<=j.lF/\j.lF<=8/\ -9<=j.lG/\j.lG<=3)(hm:∀m∈s.bs,qx s.cm m=true)(bC:s.cm.length<=4)(bp:s.bs.length<=8)(aV:s.cm.map (·.nw)=o4.take s.cm.length)(Ki:3<=s.cm.length)(gr:2<=s.bs.length):nR s:=by
 have v:kd s:=⟨fun n j h=>by have:=av j (dG h);omega,fun n m h=>hm m (dG h),by omega,bp⟩;have name : ∀(n:Nat) j,s.cm[n]? = some j->o4[n]? = some j.nw:=fun n j h=>by have aF:=fN h;have e:(s.cm.map (·.nw))[n]? = some j.nw:=(by rw[dJ,h];rfl);rw[aV,dR,dw aF] at e;exact e
 exact⟨v,PP s v (fun n j h=>N0 (name n j h)) (fun i k x y aa aP cx=>Qg (name i x aa) (name k y aP) cx),Ki,gr,aV,av⟩
theorem Y9 (c:ar)(aL:c.length<=1048576)(i h:Int)(ae:0<=i): ∃fU fg eM cf,z5 c i h=some (fU,fg,eM,cf)/\nR ⟨fU,fg⟩/\0<=eM:=by
 unfold z5;obtain⟨gH,nq,o,ao,rA,ps⟩:=lN 3 (by omega) (by omega) c aL i h ae;obtain⟨h8,nk,J,aB,y5,pt⟩:=lN 3 (by omega) (by omega) c aL nq o ps;obtain⟨kU,Cu,ab,bT,acb,zb⟩:=lN 2 (by omega) (by omega) c aL nk J pt;obtain⟨rR,tE,aA,di,acd,JW⟩:=lN 3 (by omega) (by omega) c aL Cu ab zb;obtain⟨rS,Cv,aJ,ew,ace,JX⟩:=lN 2 (by omega) (by omega) c aL tE aA JW;obtain⟨rT,Kj,bC,fa,acf,JY⟩:=lN 3 (by omega) (by omega) c aL Cv aJ JX;obtain⟨uN,Kk,bJ,fc,JZ,J0⟩:=HL [1,2,3] (by simp) (by simp) c aL Kj bC JY;obtain⟨Kl,i8,bp,hR,acg,Fg⟩:=lN 3 (by omega) (by omega) c aL Kk bJ J0;have iI:U ((-1:Int)-rR) = -1-rR:=cI (by omega) (by omega);have mY:U ((3:Int)+rS)=3+rS:=cI (by omega) (by omega);have tJ:U ((-1:Int)-rT) = -1-rT:=cI (by omega) (by omega);have ach:1<=uN/\uN<=3:=by simp at JZ;omega
 obtain⟨fU,kC⟩ : ∃fU:afB,fU=([(⟨(⟨#[97]⟩:ByteArray),(-2),gH,true⟩:bn),(⟨(⟨#[98]⟩:ByteArray),6,h8,true⟩:bn),(⟨(⟨#[99]⟩:ByteArray),kU,-1-rR,false⟩:bn),(⟨(⟨#[100]⟩:ByteArray),3+rS,-1-rT,false⟩:bn)]:afB):=⟨_,rfl⟩;have g0:fU[0]? = some ⟨⟨#[97]⟩,-2,gH,true⟩:=by rw[kC];rfl
 have g1:fU[1]? = some ⟨⟨#[98]⟩,6,h8,true⟩:=by rw[kC];rfl
 have g2:fU[2]? = some ⟨⟨#[99]⟩,kU,-1-rR,false⟩:=by rw[kC];rfl
 have g3:fU[3]? = some ⟨⟨#[100]⟩,3+rS,-1-rT,false⟩:=by rw[kC];rfl
 have aF:fU.length=4:=by rw[kC];rfl
 have Fz : ∀a b k:Int,(a=0\/a=1\/a=2\/a=3)->(b=2\/b=3\/b=1)->(b=1->a=3)->(a=2->b=3)->(a=3->b=1)->1<=k->k<=3->qx fU ⟨a,b,k⟩=true:=fun a b k bA aN rE l1 iX aeW Q8=>by
  unfold qx;simp only;rw[aF,decide_eq_true (by omega),Bool.true_and];rcases bA with rfl|rfl|rfl|rfl
  ·rcases aN with rfl|rfl|rfl
   ·rw[show (0:Int).toNat=0 from rfl,show (2:Int).toNat=2 from rfl,g0,g2];simp;omega
   ·rw[show (0:Int).toNat=0 from rfl,show (3:Int).toNat=3 from rfl,g0,g3];simp;omega
   exact absurd (rE rfl) (by omega)
  ·rcases aN with rfl|rfl|rfl
   ·rw[show (1:Int).toNat=1 from rfl,show (2:Int).toNat=2 from rfl,g1,g2];simp;omega
   ·rw[show (1:Int).toNat=1 from rfl,show (3:Int).toNat=3 from rfl,g1,g3];simp;omega
   exact absurd (rE rfl) (by omega)
  ·obtain rfl:=l1 rfl;rw[show (2:Int).toNat=2 from rfl,show (3:Int).toNat=3 from rfl,g2,g3];simp;omega
  obtain rfl:=iX rfl;rw[show (3:Int).toNat=3 from rfl,show (1:Int).toNat=1 from rfl,g3,g1];simp;omega
 obtain⟨⟨n,j,fg⟩,e,aa⟩:=j9 (f:=fun w:Int×Int×Int×afD=>xm c fU w.1 w.2.1 w.2.2.1 w.2.2.2) (fun w=>0<=w.1/\0<=w.2.1/\w.2.2.2.length+w.1.toNat<=8/\2<=w.2.2.2.length/\ ∀m∈w.2.2.2,qx fU m=true) (fun w=>w.1.toNat) (fun r=>0<=r.1/\r.2.2.length<=8/\2<=r.2.2.length/\ ∀m∈r.2.2,qx fU m=true)
  (fun w hw=>by
    obtain⟨n,j,g,fg⟩:=w;obtain⟨iG,jl,bq,fT,f5⟩:=hw;simp only at iG jl bq fT f5;by_cases d:0<n
    ·obtain⟨fR,fl,o9,gN,aT,ad⟩:=lN 2 (by omega) (by omega) c aL j g jl
     obtain⟨e9,d5,uL,hQ,bf,bu⟩:=lN 2 (by omega) (by omega) c aL fl o9 ad;obtain⟨aS,lI,Fy,nm,cb,bb⟩:=lN 3 (by omega) (by omega) c aL d5 uL bu;have v1:U ((2:Int)+e9)=2+e9:=cI (by omega) (by omega);have v2:U ((1:Int)+aS)=1+aS:=cI (by omega) (by omega);refine .inl ⟨(n-1,lI,Fy,fg++[⟨fR,2+e9,1+aS⟩]),?_,⟨by simp only;omega,bb,by simp only[dH,List.length_singleton];omega,by simp only[dH,List.length_singleton];omega,fun m hm=> ?_⟩,by simp only;omega⟩
     ·simp only;unfold xm;refine lf d (aD gN (aD hQ (aD nm ?_)));simp only;rw[v1,v2,cI (x:=n-1) (by omega) (by omega)];exact dX (by simp only[dH,List.length_singleton];omega) rfl
     simp only[List.mem_append,List.mem_singleton] at hm;rcases hm with hm|rfl
     ·exact f5 m hm
     exact Fz _ _ _ (by omega) (by omega) (by omega) (by omega) (by omega) (by omega) (by omega)
    refine .inr ⟨(j,g,fg),by simp only;unfold xm;exact j4 d rfl,jl,by simp only;omega,fT,f5⟩)
  (Kl,i8,bp,[⟨0,2,1⟩,⟨2,3,uN⟩,⟨3,1,1⟩]) ⟨acg.1,Fg,by simp;omega,by simp,fun m hm=>by
    simp at hm;rcases hm with rfl|rfl|rfl
    ·exact Fz _ _ _ (by omega) (by omega) (by omega) (by omega) (by omega) (by omega) (by omega)
    ·exact Fz _ _ _ (by omega) (by omega) (by omega) (by omega) (by omega) (by omega) (by omega)
    exact Fz _ _ _ (by omega) (by omega) (by omega) (by omega) (by omega) (by omega) (by omega)⟩
 obtain⟨aT,bf,cb,cL⟩:=aa;refine⟨fU,fg,n,j,aD ao (aD aB (aD bT (aD di (aD ew (aD fa (aD fc (aD hR ?_))))))),H7 _ (fun j av=> ?_) cL (by simp only;omega) bf ?_ (by simp only;omega) cb,aT⟩
 ·simp only;rw[iI,mY,tJ,<- kC];exact aD (x:=(n,j,fg)) e rfl
 ·rw[kC] at av;simp at av;rcases av with rfl|rfl|rfl|rfl<;>simp<;>omega
 simp only;rw[aF,kC];rfl
theorem Yg (c:ar)(aL:c.length<=1048576)(i h:Int)(ae:0<=i): ∃fU fg eM cf,z1 c i h=some (fU,fg,eM,cf)/\nR ⟨fU,fg⟩/\0<=eM:=by
 unfold z1;obtain⟨gH,nq,o,ao,rA,ps⟩:=lN 4 (by omega) (by omega) c aL i h ae;obtain⟨h8,nk,J,aB,y5,pt⟩:=lN 3 (by omega) (by omega) c aL nq o ps;obtain⟨kU,Cu,ab,bT,acb,zb⟩:=lN 4 (by omega) (by omega) c aL nk J pt;obtain⟨rR,tE,aA,di,acd,JW⟩:=lN 3 (by omega) (by omega) c aL Cu ab zb;obtain⟨rS,Cv,aJ,ew,ace,JX⟩:=lN 4 (by omega) (by omega) c aL tE aA JW;obtain⟨rT,Kj,bC,fa,acf,JY⟩:=lN 4 (by omega) (by omega) c aL Cv aJ JX;obtain⟨uN,Kk,bJ,fc,JZ,J0⟩:=HL [1,1,1,3] (by simp) (by simp) c aL Kj bC JY;obtain⟨Kl,i8,bp,hR,Fg⟩:=HK 2 (by omega) (by omega) c aL Kk bJ J0;have iI:U ((-1:Int)-gH) = -1-gH:=cI (by omega) (by omega);have mY:U ((3:Int)+kU)=3+kU:=cI (by omega) (by omega);have tJ:U (rS-(1:Int))=rS-1:=cI (by omega) (by omega);have R3:U ((-1:Int)-rT) = -1-rT:=cI (by omega) (by omega);have ach:1<=uN/\uN<=3:=by simp at JZ;omega
 cases Kl with
 | false =>
  obtain⟨fU,kC⟩ : ∃fU:afB,fU=([(⟨(⟨#[97]⟩:ByteArray),-1-gH,h8,true⟩:bn),(⟨(⟨#[98]⟩:ByteArray),3+kU,rR,true⟩:bn),(⟨(⟨#[99]⟩:ByteArray),rS-1,-1-rT,false⟩:bn)]:afB):=⟨_,rfl⟩;have g0:fU[0]? = some ⟨⟨#[97]⟩,-1-gH,h8,true⟩:=(by rw[kC];rfl);have g1:fU[1]? = some ⟨⟨#[98]⟩,3+kU,rR,true⟩:=(by rw[kC];rfl);have g2:fU[2]? = some ⟨⟨#[99]⟩,rS-1,-1-rT,false⟩:=(by rw[kC];rfl);have aF:fU.length=3:=(by rw[kC];rfl);refine⟨fU,[⟨0,2,1⟩,⟨1,2,uN⟩],i8,bp,aD ao (aD aB (aD bT (aD di (aD ew (aD fa (aD fc (aD hR (hk rfl ?_)))))))),H7 _ (fun j av=> ?_) (fun m hm=> ?_) (by simp only;omega) (by simp) ?_ (by simp only;omega) (by simp),Fg⟩
  ·simp only;rw[iI,mY,tJ,R3,<- kC]
  ·rw[kC] at av;simp at av;rcases av with rfl|rfl|rfl<;>simp<;>omega
  ·simp at hm
   unfold qx;rcases hm with rfl|rfl
   ·simp only;rw[aF,decide_eq_true (by omega),Bool.true_and,show (0:Int).toNat=0 from rfl,show (2:Int).toNat=2 from rfl,g0,g2];simp;omega
   simp only;rw[aF,decide_eq_true (by omega),Bool.true_and,show (1:Int).toNat=1 from rfl,show (2:Int).toNat=2 from rfl,g1,g2];simp;omega
  simp only;rw[aF,kC];rfl
 | true =>
  obtain⟨FA,acP,c2,acQ,aeX,aci⟩:=lN 5 (by omega) (by omega) c aL i8 bp Fg;obtain⟨J1,acj,cS,ack,aau,aav⟩:=HL [1,2,3] (by simp) (by simp) c aL acP c2 aci;have acR:U (FA-(1:Int))=FA-1:=cI (by omega) (by omega);have ad9:1<=J1/\J1<=3:=(by simp at aau;omega);obtain⟨fU,kC⟩ : ∃fU:afB,fU=([(⟨(⟨#[97]⟩:ByteArray),-1-gH,h8,true⟩:bn),(⟨(⟨#[98]⟩:ByteArray),3+kU,rR,true⟩:bn),(⟨(⟨#[99]⟩:ByteArray),rS-1,-1-rT,false⟩:bn)]:afB)++([(⟨(⟨#[100]⟩:ByteArray),FA-1,(-7),true⟩:bn)]:afB):=⟨_,rfl⟩;have g0:fU[0]? = some ⟨⟨#[97]⟩,-1-gH,h8,true⟩:=(by rw[kC];rfl);have g1:fU[1]? = some ⟨⟨#[98]⟩,3+kU,rR,true⟩:=(by rw[kC];rfl);have g2:fU[2]? = some ⟨⟨#[99]⟩,rS-1,-1-rT,false⟩:=(by rw[kC];rfl);have g3:fU[3]? = some ⟨⟨#[100]⟩,FA-1,-7,true⟩:=(by rw[kC];rfl);have aF:fU.length=4:=(by rw[kC];rfl);refine⟨fU,([⟨0,2,1⟩,⟨1,2,uN⟩]:afD)++[⟨3,2,J1⟩],acj,cS,aD ao (aD aB (aD bT (aD di (aD ew (aD fa (aD fc (aD hR (eP rfl (aD acQ ?_))))))))),H7 _ (fun j av=> ?_) (fun m hm=> ?_) (by simp only;omega) (by simp) ?_ (by simp only;omega) (by simp),aav⟩
  ·simp only;rw[iI,mY,tJ,R3,acR,<- kC];exact dX (by rw[aF];omega) (aD ack (dX (by simp) rfl))
  ·rw[kC] at av;simp at av;rcases av with rfl|rfl|rfl|rfl<;>simp<;>omega
  ·simp at hm
   unfold qx;rcases hm with rfl|rfl|rfl
   ·simp only;rw[aF,decide_eq_true (by omega),Bool.true_and,show (0:Int).toNat=0 from rfl,show (2:Int).toNat=2 from rfl,g0,g2];simp;omega
   ·simp only;rw[aF,decide_eq_true (by omega),Bool.true_and,show (1:Int).toNat=1 from rfl,show (2:Int).toNat=2 from rfl,g1,g2];simp;omega
   simp only;rw[aF,decide_eq_true (by omega),Bool.true_and,show (3:Int).toNat=3 from rfl,show (2:Int).toNat=2 from rfl,g3,g2];simp;omega
  simp only;rw[aF,kC];rfl
theorem Yh (c:ar)(aL:c.length<=1048576)(i h:Int)(ae:0<=i): ∃fU fg eM cf,z2 c i h=some (fU,fg,eM,cf)/\nR ⟨fU,fg⟩/\0<=eM:=by
 obtain⟨b,nq,o,ao,ps⟩:=HK 3 (by omega) (by omega) c aL i h ae;unfold z2
 cases b with
 | true =>
  obtain⟨fU,fg,nk,J,e,d,pt⟩:=Y9 c aL nq o ps;exact⟨fU,fg,nk,J,aD ao (eP rfl (aD e rfl)),d,pt⟩
 | false =>
  obtain⟨fU,fg,nk,J,e,d,pt⟩:=Yg c aL nq o ps;exact⟨fU,fg,nk,J,aD ao (hk rfl (aD e rfl)),d,pt⟩
def Fh (s:cp)(l:ar):Prop:=l.length=2*s.cm.length/\ ∀x∈l,-8<=x/\x<=4
theorem XB (s:cp)(d:nR s)(c:ar)(aL:c.length<=1048576)(i h:Int)(ae:0<=i): ∃l eM cf,z3 s c i h=some (l,eM,cf)/\Fh s l/\0<=eM:=by
 have bC:=d.v.2.2.1;have ab:=d.Ki;have acS:U ((2:Int)*(len_ c3 s.cm))=((2*s.cm.length:Nat):Int):=by rw[hf,cI (by omega) (by omega)];omega
 unfold z3;rw[acS,dz]
 obtain⟨⟨j,g,row⟩,e,aT,bf,cb⟩:=iv (f:=fun w:Int×Int×Int×ar=>uS s.cm (s.cm.length:Nat) c w.1 w.2.1 w.2.2.1 w.2.2.2) (fun (k:Nat) (q:Int×Int×ar)=>((k:Int),q.1,q.2.1,q.2.2)) s.cm.length (fun _ q=>0<=q.1/\q.2.2.length=2*s.cm.length/\ ∀x∈q.2.2,-8<=x/\x<=4) (fun q=>q)
  (fun k aQ q a2=>by
    obtain⟨j,g,row⟩:=q;obtain⟨iG,jl,bq⟩:=a2;simp only at iG jl bq;have aa:=dx aQ;have mY:U ((2:Int)*((k:Nat):Int))=((2*k:Nat):Int):=(by rw[cI (by omega) (by omega)];omega);by_cases f:s.cm[k].n5=true
    ·refine⟨(j,g,row),?_,iG,jl,bq⟩;simp only;unfold uS;exact ff (cN (aD (gt rfl aa) (eP f (by rw[fP (by omega)]))))
    obtain⟨fR,fl,o9,gN,ad,s1⟩:=lN 7 (by omega) (by omega) c aL j g iG;obtain⟨e9,d5,uL,hQ,bu,s2⟩:=lN 9 (by omega) (by omega) c aL fl o9 s1;have v1:U (fR-(3:Int))=fR-3:=cI (by omega) (by omega);have v2:U (0-e9)=0-e9:=cI (by omega) (by omega);refine⟨(d5,uL,(row.set (2*k) (fR-3)).set (2*k+1) (0-e9)),?_,s2,by simp only[List.length_set];omega,fun x hm=> ?_⟩
    ·simp only;unfold uS;rw[mY,fP (n:=2*k) (by omega),dz,dz,dF,dF];refine ff (cN (aD (gt rfl aa) (hk (by simpa using f) (aD gN (cN (cN (aD hQ (cN (dX (by rw[List.length_set];omega) ?_)))))))));simp only;rw[v1,v2,fP (by omega),dz]
    simp only at hm;rcases List.mem_or_eq_of_mem_set hm with hm|rfl
    ·rcases List.mem_or_eq_of_mem_set hm with hm|rfl
     ·exact bq x hm
     omega
    omega)
  (fun q _=>by simp only;unfold uS;exact fY rfl) (i,h,List.replicate (2*s.cm.length) 0) ⟨ae,by simp,fun x aa=>by simp only[List.mem_replicate] at aa;omega⟩
 simp only at aT bf cb;obtain⟨b,nk,J,aB,pt⟩:=HK 8 (by omega) (by omega) c aL j g aT;have fh:F5 s.cm (len_ c3 s.cm) c 0 i h (List.replicate (2*s.cm.length) 0)=some (j,g,row):=by unfold F5;rw[hf];exact e
 cases b with
 | false=>exact⟨row,nk,J,cN (aD fh (aD aB (hk rfl rfl))),⟨bf,cb⟩,pt⟩
 | true =>
  have wl:U (((row.length:Nat):Int)-(1:Int))=((row.length-1:Nat):Int):=(by rw[cI (by omega) (by omega)];omega);refine⟨row.set (row.length-1) 4,nk,J,cN (aD fh (aD aB (eP rfl ?_))),⟨by rw[List.length_set];exact bf,fun x hm=> ?_⟩,pt⟩
  ·simp only;rw[wl,dz,dF];exact cN (cN rfl)
  rcases List.mem_or_eq_of_mem_set hm with hm|rfl
  ·exact cb x hm
  omega
theorem Vg (c:ar)(aL:c.length<=1048576): ∃s l,C5 c=some (s,l)/\nR s/\Fh s l:=by obtain⟨h0,e0⟩:=PO c aL;obtain⟨fU,fg,nq,o,ao,d,ps⟩:=Yh c aL 0 h0 (by omega);obtain⟨l,nk,J,aB,FB,-⟩:=XB ⟨fU,fg⟩ d c aL nq o ps;exact⟨⟨fU,fg⟩,l,aD e0 (aD (x:=(fU,fg,l,nk,J)) (aD ao (aD aB rfl)) rfl),d,FB⟩
theorem GP (s:cp)(v:kd s)(l:ar)(aF:l.length=2*s.cm.length)(aN:∀x∈l,-100<=x/\x<=100): ∃r,sD s l=some r/\(r=true↔pp (2*fm s) (cU s) (mZ s) (ou s l)):=by
 obtain⟨q,aT,bf⟩:=Ow (PK s v l aN);unfold sD;rcases bf with ⟨bO,t,aU,g,d3,rfl,-⟩|⟨bO,rfl⟩
 ·exact⟨true,aD (DF s v l aF aN) (aD aT rfl),by simp[bO]⟩
 exact⟨false,aD (DF s v l aF aN) (aD aT rfl),by simp[bO]⟩
theorem Qh (s:cp)(d:nR s)(l:ar)(aF:l.length=2*s.cm.length)(aN:∀x∈l,-100<=x/\x<=100):sJ s l=some true/\sL s l=some true:=by
 have e:yL s.cm.length l=true:=by unfold yL;rw[decide_eq_true aF,Bool.true_and,List.all_eq_true];intro x aa;unfold sY;exact decide_eq_true (aN x aa)
 have f:=M1 s d.v.2.2.1 l (by rw[aF,Ha];have:=d.v.2.2.1;omega);rw[e] at f;exact⟨f,aD d.ok (eP rfl (aD f rfl))⟩
theorem aaw (s:cp)(d:nR s)(l:ar)(aF:l.length=2*s.cm.length)(aN:∀x∈l,-100<=x/\x<=100): ∃r,z8 s l=some r/\sD s l=some r/\(r=true↔pp (2*fm s) (cU s) (mZ s) (ou s l)):=by obtain⟨r,ad,bu⟩:=GP s d.v l aF aN;exact⟨r,aD (Qh s d l aF aN).2 (eP rfl (aD ad rfl)),ad,bu⟩
theorem Fh.df {s:cp}{l:ar}(h:Fh s l): ∀x∈l,-100<=x/\x<=100:=fun x aa=>by have:=h.2 x aa;omega
theorem Pd {fg:afD}{k:Nat}{x:bV}(aQ:fg[k]? = some x)(o:x.jB=1): ∀ {n:Nat} {c:fy},n<=fg.length->c∈kO fg n->c.hE=(k:Int)->c.sd=1
 | 0,c,_,h,_=>by simp[kO] at h
 | n+1,c,aV,h,e=>by
  rw[kO,List.mem_append] at h;rcases h with h|h
  ·exact Pd aQ o (by omega) h e
  rw[dx (by omega)] at h;simp only[ti,List.mem_append] at h;rcases h with h|h
  ·split at h
   ·simp at h
   simp at h;subst h;rfl
  split at h
  ·simp at h
  rename_i cx;simp at h;subst h;simp only at e;have:n=k:=(by omega);subst this;rw[dx (by omega)] at aQ;exact absurd (by rw[dI aQ];exact o) cx
theorem Yi (s:cp){k:Nat}{m:bV}(aQ:s.bs[k]? = some m)(o:m.jB=1){c:Nat}(aL:c<cU s)(e:hs s c=k):ot s c=1:=by obtain⟨ao,-,-⟩:=t7 s aL;have:=Pd aQ o (dE _) (dG (show (kO s.bs s.bs.length)[c]? = _ from ao)) (by simp only;rw[e]);exact this
theorem Yj (s:cp){k:Nat}{m:bV}(aQ:s.bs[k]? = some m)(o:m.jB=1)(x:Nat->Rat):i2 s x (cU s) k=b3 (cU s) fun j=>if hs s j=k then x j else 0:=by
 unfold i2;refine ft fun j av=> ?_;by_cases e:hs s j=k
 ·rw[dw e,dw e,Yi s aQ o av e];grind
 rw[dA e,dA e]
theorem VS (s:cp){k:Nat}{m:bV}(aQ:s.bs[k]? = some m)(o:m.jB=1){x:Nat->Rat}(aa:∀j,j<cU s->0<=x j):0<=i2 s x (cU s) k:=by
 rw[Yj s aQ o];refine q9 fun j av=> ?_;by_cases e:hs s j=k
 ·rw[dw e];exact aa j av
 rw[dA e];exact Rat.le_refl
theorem Il {x y:Rat}(aa:gb x)(aP:gb y)(h:gb (x*y)):r6 (cQ x) (cQ y)=some (cQ (x*y)):=aD (O8 aa aP) (aD (Qc h) rfl)
structure mC (K:Nat) (z:Nat->Rat) (w:Rat):Prop where
 pos:0<w
 oq:dc K w
 CB : ∀k,dc K (z k*w)
 acm:1000*K<=21*100*(d6*d6)
theorem mC.fit {K:Nat}{z:Nat->Rat}{w x:Rat}(h:mC K z w){a:Nat}(bA:a<=1000)(aa:dc (a*K) (x*w)):gb x:=by have ah:=h.pos;have o:=h.acm;have J:a*K<=1000*K:=afi _ bA;exact ug (K:=21*100*(d6*d6)) (h.oq.mono (by omega)) (aa.mono (by omega)) (by grind) (by grind) (sg (dE _))
theorem mC.BF {K:Nat}{z:Nat->Rat}{w:Rat}(h:mC K z w)(k:Nat):gb (z k):=h.fit (a:=1) (by omega) (by rw[Nat.one_mul];exact h.CB k)
theorem dc.int {z:Int}{K:Nat}(h:z.natAbs<=K):dc K (z:Rat):=⟨z,rfl,h⟩
theorem mC.aax {K:Nat}{z:Nat->Rat}{w:Rat}(h:mC K z w)(k:Nat){e:Int}(he:-100<=e/\e<=100):gb (z k*(e:Rat)):=h.fit (a:=100) (by omega) (by
 have:z k*(e:Rat)*w=(e:Rat)*(z k*w):=by grind
 rw[this];exact(dc.int (by omega)).mul (h.CB k))
theorem mC.fits {K:Nat}{z:Nat->Rat}{w:Rat}(h:mC K z w){n:Nat}(aV:n<=8){e:Nat->Int}(he:∀k,-100<=e k/\e k<=100){f:Int}(b0:-100<=f/\f<=100):gb (b3 n (fun k=>z k*(e k:Rat))+(f:Rat)):=h.fit (a:=n*100+100) (by omega) (by
 have ao:(b3 n (fun k=>z k*(e k:Rat))+(f:Rat))*w=b3 n (fun k=>(e k:Rat)*(z k*w))+(f:Rat)*w:=by rw[Rat.add_mul,<- vd];congr 1;exact ft fun k _=>by grind
 rw[ao,Nat.add_mul];refine dc.add ?_ ((dc.int (by omega)).mul h.oq);rw[Nat.mul_assoc];exact dc.sum fun k _=>(dc.int (by have:=he k;omega)).mul (h.CB k))
theorem Yk (s:cp)(v:kd s){K:Nat}{z:Nat->Rat}{w:Rat}(h:mC K z w)(j:Nat):
 zS s (a4 s.bs.length fun k=>cQ (z k)) (j:Int)=some (cQ (b3 s.bs.length fun k=>z k*(hB s (j:Int) 0 k:Rat)),cQ (b3 s.bs.length fun k=>z k*(hB s (j:Int) 1 k:Rat))):=by
 obtain⟨-,v2,-,bp⟩:=id v;have f0 : ∀n,n<=8-> ∀fM,gb (b3 n fun k=>z k*(hB s (j:Int) fM k:Rat)):=fun n aV fM=>by have:=h.fits aV (fun k=>yE s v (j:Int) fM k) (f:=0) (by omega);rw[show ((0:Int):Rat)=0 from rfl,Rat.add_zero] at this;exact this
 unfold zS;refine aD (tX (n:=0) (by rw[ms];omega)) (aD (x:=(cQ (b3 s.bs.length fun k=>z k*(hB s (j:Int) 0 k:Rat)),cQ (b3 s.bs.length fun k=>z k*(hB s (j:Int) 1 k:Rat)))) ?_ rfl);unfold La;rw[hf]
 obtain⟨_,e,-⟩:=iv (f:=fun w:afw×afw×Int=>xe s.cm s.bs (a4 s.bs.length fun k=>cQ (z k)) (j:Int) (s.bs.length:Nat) w.1 w.2.1 w.2.2)
  (fun (n:Nat) (_:Unit)=>(cQ (b3 n fun k=>z k*(hB s (j:Int) 0 k:Rat)),cQ (b3 n fun k=>z k*(hB s (j:Int) 1 k:Rat)),(n:Int))) s.bs.length (fun _ _=>True) (fun _=>(cQ (b3 s.bs.length fun k=>z k*(hB s (j:Int) 0 k:Rat)),cQ (b3 s.bs.length fun k=>z k*(hB s (j:Int) 1 k:Rat))))
  (fun n aV _ _=>by
    refine⟨(),?_,trivial⟩;have aa:=dx aV;obtain⟨bB,cF,l4⟩:=AG s v n aV;have yV : ∀fM,hB s (j:Int) fM n=if (j:Int)=s.bs[n].gy then (if fM=0 then (iK s n).1 else (iK s n).2) else if (j:Int)=s.bs[n].gz then -(if fM=0 then (iK s n).1 else (iK s n).2) else 0:=fun fM=>(by unfold hB;rw[aa]);have afa:=yE s v (j:Int) 0 n;have gH:=yE s v (j:Int) 1 n;have add : ∀(fM:Nat) (t:Int),t=hB s (j:Int) fM n->l7 t=some (cQ (t:Rat))/\r6 (cQ (z n)) (cQ (t:Rat))=some (cQ (z n*(t:Rat)))/\oC (cQ (b3 n fun k=>z k*(hB s (j:Int) fM k:Rat))) (cQ (z n*(t:Rat)))=some (cQ (b3 (n+1) fun k=>z k*(hB s (j:Int) fM k:Rat))):=fun fM t ch=>(by have acT : -100<=t/\t<=100:=(by rw[ch];exact yE s v (j:Int) fM n);have QH:oP t:=ms.2 (by omega);have R4:=h.aax n acT;refine⟨tX QH,Il (h.BF n) (yv QH) R4,?_⟩;have jG:=f0 (n+1) (by omega) fM;rw[b3,<- ch] at jG ⊢;exact Ik (f0 n (by omega) fM) R4 jG);have skip : ∀fM,hB s (j:Int) fM n=0->b3 (n+1) (fun k=>z k*(hB s (j:Int) fM k:Rat))=b3 n (fun k=>z k*(hB s (j:Int) fM k:Rat)):=fun fM h0=>(by rw[b3,h0,show ((0:Int):Rat)=0 from rfl];grind);simp only;unfold xe;rw[fP (by omega)];refine ff (cN (aD (gt rfl aa) (aD (show rU ⟨s.cm,s.bs⟩ (n:Int)=_ from bB) ?_)));by_cases a:(j:Int)=s.bs[n].gy
    ·obtain⟨gN,hQ,nm⟩:=add 0 (iK s n).1 (by rw[yV,dw a];rfl);obtain⟨aT,bf,cb⟩:=add 1 (iK s n).2 (by rw[yV,dw a];rfl);exact eP (wm a) (cN (aD (x:=cQ (z n)) (by rw[dz];exact gX aV) (aD gN (aD hQ (aD nm (aD aT (aD bf (aD cb rfl))))))))
    refine hk (su a) ?_;by_cases b:(j:Int)=s.bs[n].gz
    ·obtain⟨gN,hQ,nm⟩:=add 0 (U (0-(iK s n).1)) (by rw[yV,dA a,dw b,cI (by omega) (by omega)];simp);obtain⟨aT,bf,cb⟩:=add 1 (U (0-(iK s n).2)) (by rw[yV,dA a,dw b,cI (by omega) (by omega)];simp);exact eP (wm b) (cN (aD (x:=cQ (z n)) (by rw[dz];exact gX aV) (aD gN (aD hQ (aD nm (aD aT (aD bf (aD cb rfl))))))))
    refine hk (su b) ?_;rw[skip 0 (by rw[yV,dA a,dA b]),skip 1 (by rw[yV,dA a,dA b])])
  (fun _ _=>by simp only;unfold xe;exact fY rfl) () trivial
 exact e
theorem XC {n:Nat}(aV:n<=40){y:Nat->Rat}(aP:∀k,k<n->gb (y k)):As (a4 n fun k=>lj (y k))=some (a4 n (fun k=>cQ (y k)),true):=by
 have aF:len_ gJ (a4 n fun k=>lj (y k))=((n:Nat):Int):=by rw[hf,eK]
 unfold As;rw[aF];refine cN (aD (x:= .inl (a4 n fun k=>cQ (y k))) ?_ rfl);unfold MC
 obtain⟨_,e,-⟩:=iv (f:=fun w:Int×afA=>xI (a4 n fun k=>lj (y k)) ((n:Nat):Int) w.1 w.2) (fun (k:Nat) (_:Unit)=>((k:Int),a4 n fun j=>if j<k then cQ (y j) else none)) n (fun _ _=>True) (fun _=>(.inl (a4 n fun k=>cQ (y k)):afA⊕Unit))
  (fun k aQ _ _=>by
    refine⟨(),?_,trivial⟩;unfold xI;simp only
    have ao:(a4 n fun j=>if j<k then cQ (y j) else none).set (0+((k:Nat):Int).toNat) (cQ (y k))=a4 n fun j=>if j<k+1 then cQ (y j) else none:=by
     rw[dz,dF,k2];refine fx fun j _=> ?_;by_cases bB:j=k
     ·subst bB;rw[dw rfl,dw (by omega)]
     rw[dA bB];by_cases cF:j<k
     ·rw[dw cF,dw (by omega)]
     rw[dA cF,dA (by omega)]
    refine ff (cN (aD (x:=lj (y k)) (by rw[dz];exact gX aQ) (aD (Y6 (aP k aQ)) (cN (cN ?_)))));rw[ao,fP (by omega)];refine aD (x:=cQ (y k)) (by rw[dz,dF,gX aQ,dw (by omega)]) ?_;rfl)
  (fun _ _=>by unfold xI;refine fY ?_;simp only;congr 3;exact fx fun j av=>by rw[dw av]) () trivial
 have e0:(a4 n fun j=>if j<0 then cQ (y j) else none)=List.replicate (((n:Nat):Int).toNat) none:=by rw[dz,n4];exact fx fun j _=>by rw[dA (by omega)]
 rw[<- e0];exact e
theorem GC (s:cp)(ok:ow s=some true)(bp:s.bs.length<=8){y:Nat->Rat}(aP:∀k,gb (y k)):u4 s (a4 s.bs.length fun k=>lj (y k))=some (a4 s.bs.length (fun k=>cQ (y k)),true):=by unfold u4;exact hk (by rw[hf,hf,eK];exact EX rfl) (aD ok (eP rfl (aD (XC (by omega) fun k _=>aP k) rfl)))
theorem Za (s:cp)(x:Nat->Rat)(i:Nat):b3 (cU s) (fun c=>(mZ s i c:Rat)*x c)=b3 s.bs.length (fun k=>i2 s x (cU s) k*(l3 s i k:Rat)):=by
 have e : ∀k,i2 s x (cU s) k*(l3 s i k:Rat)=b3 (cU s) fun c=>if hs s c=k then (ot s c:Rat)*x c*(l3 s i k:Rat) else 0:=fun k=>by unfold i2;rw[<- vd];exact ft fun c _=>by split<;>grind
 rw[ft (n:=s.bs.length) fun k _=>e k,pc];refine ft fun c aL=> ?_;obtain⟨-,J,-⟩:=t7 s aL;rw[jW J fun k _ cx=>dA (fun e=>cx e.symm),dw rfl];unfold mZ;rw[afv];grind
def Fi (s:cp)(l:ar)(z:Nat->Rat):Prop:= ∀i,i<2*fm s->b3 s.bs.length (fun k=>z k*(l3 s i k:Rat))=(ou s l i:Rat)
theorem Yl {s:cp}{l:ar}{x:Nat->Rat}(h:rF (2*fm s) (cU s) (mZ s) (ou s l) x):Fi s l (i2 s x (cU s)):=fun i ae=>by rw[<- Za];exact h.2 i ae
theorem Vh (s:cp)(ok:ow s=some true)(v:kd s){l:ar}(aF:l.length=2*s.cm.length)(aN:∀x∈l,-100<=x/\x<=100)(Km:sJ s l=some true){K:Nat}{z:Nat->Rat}{w:Rat}(h:mC K z w)(b5:Fi s l z):
 z0 s l (a4 s.bs.length fun k=>lj (z k))=some true:=by
 obtain⟨-,-,bC,bp⟩:=id v;have wK:=Bh s;unfold z0;refine aD (GC s ok bp h.BF) (eP rfl (aD Km (eP rfl (aD (Gy s (by omega)) ?_))));rw[Hv,gE,eK];refine aD (x:= .inl ()) ?_ rfl;unfold LA
 obtain⟨_,e,-⟩:=iv (f:=fun w:Int=>xk l (a4 s.bs.length fun k=>cQ (z k)) (a4 (fm s) fun q=>((hY s q:Nat):Int)) (fm s:Nat) s.cm s.bs w) (fun (n:Nat) (_:Unit)=>(n:Int)) (fm s) (fun _ _=>True) (fun _=>(.inl ():Unit⊕Unit))
  (fun n aV _ _=>by refine⟨(),?_,trivial⟩;have b0:=PJ s aV;have iI:U ((2:Int)*(hY s n:Int))=((2*hY s n:Nat):Int):=(by rw[cI (by omega) (by omega)];omega);have mY:U (((2*hY s n:Nat):Int)+1)=((2*hY s n+1:Nat):Int):=fP (by omega);have zero : ∀(fM:Nat),fM<2-> ∃y,l[2*hY s n+fM]? = some y/\l7 y=some (cQ (y:Rat))/\oC (cQ (b3 s.bs.length fun k=>z k*(hB s (hY s n:Int) fM k:Rat))) (cQ (y:Rat))=some (cQ 0):=fun fM bA=>(by have aP:=dx (show 2*hY s n+fM<l.length by omega);have aeY:=aN _ (dG aP);have i64:oP l[2*hY s n+fM]:=ms.2 (by omega);refine⟨_,aP,tX i64,?_⟩;have e0:b3 s.bs.length (fun k=>z k*(hB s (hY s n:Int) fM k:Rat))+((l[2*hY s n+fM]:Int):Rat)=0:=(by have:=b5 (2*n+fM) (by omega);unfold l3 ou at this;rw[show (2*n+fM) / 2=n by omega,show (2*n+fM) % 2=fM by omega,afc,aP] at this;rw[this];simp only[Option.getD_some];rw[Rat.intCast_neg];grind);have f1:gb (b3 s.bs.length fun k=>z k*(hB s (hY s n:Int) fM k:Rat)):=(by have:=h.fits bp (fun k=>yE s v (hY s n:Int) fM k) (f:=0) (by omega);rw[show ((0:Int):Rat)=0 from rfl,Rat.add_zero] at this;exact this);rw[<- e0];exact Ik f1 (yv i64) (by rw[e0];exact Xw));obtain⟨RW,gN,hQ,nm⟩:=zero 0 (by omega);obtain⟨fl,aT,bf,cb⟩:=zero 1 (by omega);have jm:Al (cQ 0)=some true:=aD (PL 0) rfl;unfold xk;refine ff (cN (aD (gt rfl (gX aV)) (aD (Yk s v h (hY s n)) ?_)));rw[iI,mY];refine cN (aD (gt rfl gN) (aD hQ (aD nm (aD jm (eP rfl (cN (aD (gt rfl aT) (aD bf (aD cb (aD jm (eP rfl ?_)))))))))));rw[fP (by omega)])
  (fun _ _=>by unfold xk;exact fY rfl) () trivial
 exact e
def Fj (s:cp)(z:Nat->Rat):Prop:= ∀k m,s.bs[k]? = some m->(m.jB=1->0<=z k)/\(m.jB=2->z k<=0)
theorem Zb {x:Rat}(h:0<=x): ¬mM (gD x).1<0:=by have:0<=(gD x).1:=Rat.num_nonneg.2 h;unfold mM;split<;>(try split)<;>omega
theorem Zc {x:Rat}(h:x<=0): ¬0<mM (gD x).1:=by
 have o:0<=(-x).num:=Rat.num_nonneg.2 (by grind);have:(gD x).1<=0:=by show x.num<=0;rw[Rat.neg_num] at o;omega
 unfold mM;split<;>(try split)<;>omega
theorem XD (s:cp)(ok:ow s=some true)(v:kd s){z:Nat->Rat}(b0:∀k,gb (z k))(b5:Fj s z):z7 s (a4 s.bs.length fun k=>lj (z k))=some true:=by
 have bp:=v.2.2.2;unfold z7;refine aD (GC s ok bp b0) (eP rfl (aD (x:= .inl ()) ?_ rfl));unfold L0;rw[hf]
 obtain⟨_,e,-⟩:=iv (f:=fun w:Int=>xo (a4 s.bs.length fun k=>cQ (z k)) s.bs (s.bs.length:Nat) w) (fun (n:Nat) (_:Unit)=>(n:Int)) s.bs.length (fun _ _=>True) (fun _=>(.inl ():Unit⊕Unit))
  (fun n aV _ _=>by
    refine⟨(),?_,trivial⟩;have aa:=dx aV;obtain⟨g1,g2⟩:=b5 n _ aa;unfold xo;rw[fP (by omega)];refine ff (cN (aD (gt rfl aa) (cN (aD (x:=cQ (z n)) (by rw[dz];exact gX aV) (aD (PL (z n)) ?_)))));by_cases a:s.bs[n].jB=1
    ·exact eP (wm a) (j4 (Zb (g1 a)) (hk (su (by omega)) rfl))
    refine hk (su a) ?_;by_cases b:s.bs[n].jB=2
    ·exact eP (wm b) (j4 (Zc (g2 b)) rfl)
    exact hk (su b) rfl)
  (fun _ _=>by unfold xo;exact fY rfl) () trivial
 exact e
theorem OA {fg:afD}{k:Nat}{x:bV}(aQ:fg[k]? = some x)(o:x.jB=2): ∀ {n:Nat} {c:fy},n<=fg.length->c∈kO fg n->c.hE=(k:Int)->c.sd = -1
 | 0,c,_,h,_=>by simp[kO] at h
 | n+1,c,aV,h,e=>by
  rw[kO,List.mem_append] at h;rcases h with h|h
  ·exact OA aQ o (by omega) h e
  rw[dx (by omega)] at h;simp only[ti,List.mem_append] at h;rcases h with h|h
  ·split at h
   ·simp at h
   rename_i cx;simp at h;subst h;simp only at e;have:n=k:=(by omega);subst this;rw[dx (by omega)] at aQ;exact absurd (by rw[dI aQ];exact o) cx
  split at h
  ·simp at h
  simp at h;subst h;rfl
theorem Ym (s:cp){x:Nat->Rat}(aa:∀j,j<cU s->0<=x j):Fj s (i2 s x (cU s)):=fun k m hm=>by
 refine⟨fun h=>VS s hm h aa,fun h=> ?_⟩
 have:0<= -i2 s x (cU s) k:=by
  unfold i2;rw[show -b3 (cU s) (fun j=>if hs s j=k then (ot s j:Rat)*x j else 0)=b3 (cU s) (fun j=>(-1:Rat)*(if hs s j=k then (ot s j:Rat)*x j else 0)) by rw[ik];grind];refine q9 fun j av=> ?_;have p:=aa j av;by_cases e:hs s j=k
  ·obtain⟨ao,-,-⟩:=t7 s av;have:=OA hm h (dE _) (dG (show (kO s.bs s.bs.length)[j]? = _ from ao)) (by simp only;rw[e]);simp only at this;rw[dw e,this,Rat.intCast_neg];grind
  rw[dA e];grind
 grind
theorem Yn (s:cp)(ok:ow s=some true)(v:kd s){l:ar}(aF:l.length=2*s.cm.length)(aN:∀x∈l,-100<=x/\x<=100)(Km:sJ s l=some true){K:Nat}{z:Nat->Rat}{w:Rat}(h:mC K z w)(b5:Fi s l z)(bO:Fj s z):
 CR s l (a4 s.bs.length fun k=>lj (z k))=some true:=aD (Vh s ok v aF aN Km h b5) (eP rfl (aD (XD s ok v h.BF bO) rfl))
@[irreducible] def l6:Nat:=16*j0 100 8
theorem Qi:16*j0 100 8=l6:=by unfold l6;rfl
theorem Zd:1000*l6<=21*100*(d6*d6):=by unfold l6;decide +kernel
theorem ZH:l6*l6*20000<=21*100*(d6*d6):=by unfold l6;decide +kernel
theorem nR.uF {s:cp}(d:nR s):s.cm.length<=4:=by have:=congrArg List.length d.R2;rw[aft,List.length_take] at this;have e:o4.length=4:=rfl;omega
structure wE (s:cp):Prop where
 v:kd s
 ok:ow s=some true
 uF:s.cm.length<=4
theorem nR.V {s:cp}(d:nR s):wE s:=⟨d.v,d.ok,d.uF⟩
theorem Ze {s:cp}(d:wE s){l:ar}{c x:Nat->Rat}{w:Rat}(q:IM (2*fm s) (cU s) (mZ s) (ou s l) c x w):mC l6 (i2 s x (cU s)) w:=by
 have bp:=d.v.2.2.2;have q6:=yM s;have wK:=Bh s;have aA:=d.uF;have gQ:j0 100 (2*fm s)<=j0 100 8:=yl (by omega) (by omega);refine⟨q.pos,q.oq.mono ?_,fun k=>(Qf q.R1 k (dE _)).mono ?_,Zd⟩
 ·rw[<- Qi];omega
 rw[<- Qi];exact Nat.mul_le_mul (by omega) gQ
def zt (s:cp)(k:Nat):Int:=(iK s k).1*(iK s k).1+(iK s k).2*(iK s k).2
def mm (s:cp)(z:Nat->Rat)(k:Nat):Rat:=z k*z k*(zt s k:Rat)
theorem PQ (s:cp)(v:kd s){k:Nat}(aQ:k<s.bs.length):0<=zt s k/\zt s k<=20000/\U (U ((iK s k).1*(iK s k).1)+U ((iK s k).2*(iK s k).2))=zt s k:=by obtain⟨-,a,b⟩:=AG s v k aQ;have p:=Ok a;have q:=Ok b;unfold zt;refine⟨by omega,by omega,?_⟩;rw[cI (x:=(iK s k).1*(iK s k).1) (by omega) (by omega),cI (x:=(iK s k).2*(iK s k).2) (by omega) (by omega),cI (by omega) (by omega)]
theorem PR {s:cp}{z:Nat->Rat}{w:Rat}(h:mC l6 z w){k:Nat}{e:Int}(he:e.natAbs<=20000):gb (z k*z k*(e:Rat)):=by
 have ah:=h.pos;have yW:0<w*w:=Rat.mul_pos ah ah;have gQ:=ZH;have o:l6*l6<=l6*l6*20000:=Nat.le_mul_of_pos_right _ (by omega);have ao:(z k*w)*(z k*w)*(e:Rat)=w*w*(z k*z k*(e:Rat)):=by grind
 have hj:dc (21*100*(d6*d6)) (w*w):=(h.oq.mul h.oq).mono (Nat.le_trans o gQ);have jx:dc (l6*l6*20000) ((z k*w)*(z k*w)*(e:Rat)):=((h.CB k).mul (h.CB k)).mul (dc.int (K:=20000) he);exact ug (K:=21*100*(d6*d6)) (d:=w*w) (y:=(z k*w)*(z k*w)*(e:Rat)) hj (jx.mono gQ) (by grind) ao.symm (sg (dE _))
theorem Pe {s:cp}(v:kd s){z:Nat->Rat}{w:Rat}(h:mC l6 z w){k:Nat}(aQ:k<s.bs.length):gb (mm s z k):=by have:=PQ s v aQ;exact PR (s:=s) h (by omega)
theorem Uo {s:cp}(v:kd s){z:Nat->Rat}{w:Rat}(h:mC l6 z w){k:Nat}(aQ:k<s.bs.length):zJ s (a4 s.bs.length fun k=>cQ (z k)) (k:Int)=some (cQ (mm s z k)):=by
 obtain⟨bB,-,-⟩:=AG s v k aQ;obtain⟨gH,h8,kU⟩:=PQ s v aQ;have f1:=h.BF k;have f2:gb (z k*z k):=by have:=PR (s:=s) h (k:=k) (e:=1) (by decide);rw[show ((1:Int):Rat)=1 from rfl,Rat.mul_one] at this;exact this
 have i64:oP (zt s k):=ms.2 (by omega);unfold zJ;refine aD bB (cN (aD (x:=cQ (z k)) (by rw[dz];exact gX aQ) (aD (Il f1 f1 f2) ?_)));rw[kU];exact aD (tX i64) (aD (Il f2 (yv i64) (Pe v h aQ)) rfl)
theorem Mw {s:cp}(d:wE s){z:Nat->Rat}{w:Rat}(h:mC l6 z w):zX s (a4 s.bs.length fun k=>lj (z k))=some (a4 s.bs.length (fun k=>cQ (mm s z k)),true):=by
 have v:=d.v;have bp:=v.2.2.2;have aF:len_ (cd 3 a8) (a4 s.bs.length fun k=>cQ (z k))=((s.bs.length:Nat):Int):=by rw[hf,eK]
 unfold zX;refine aD (GC s d.ok bp h.BF) (eP rfl ?_);simp only;rw[aF];refine cN (aD (x:= .inl (a4 s.bs.length fun k=>cQ (mm s z k))) ?_ rfl);unfold Ll
 obtain⟨_,e,-⟩:=iv (f:=fun u:Int×afA=>xh s.cm s.bs (a4 s.bs.length fun k=>cQ (z k)) ((s.bs.length:Nat):Int) u.1 u.2) (fun (k:Nat) (_:Unit)=>((k:Int),a4 s.bs.length fun j=>if j<k then cQ (mm s z j) else none)) s.bs.length (fun _ _=>True) (fun _=>(.inl (a4 s.bs.length fun k=>cQ (mm s z k)):afA⊕Unit))
  (fun k aQ _ _=>by
    refine⟨(),?_,trivial⟩;unfold xh;simp only
    have ao:(a4 s.bs.length fun j=>if j<k then cQ (mm s z j) else none).set (0+((k:Nat):Int).toNat) (cQ (mm s z k))=a4 s.bs.length fun j=>if j<k+1 then cQ (mm s z j) else none:=by
     rw[dz,dF,k2];refine fx fun j _=> ?_;by_cases bB:j=k
     ·subst bB;rw[dw rfl,dw (by omega)]
     rw[dA bB];by_cases cF:j<k
     ·rw[dw cF,dw (by omega)]
     rw[dA cF,dA (by omega)]
    refine ff (aD (Uo v h aQ) (cN (cN ?_)));rw[ao,fP (by omega)];exact aD (x:=cQ (mm s z k)) (by rw[dz,dF,gX aQ,dw (by omega)]) rfl)
  (fun _ _=>by unfold xh;refine fY ?_;simp only;congr 3;exact fx fun j av=>by rw[dw av]) () trivial
 have e0:(a4 s.bs.length fun j=>if j<0 then cQ (mm s z j) else none)=List.replicate (((s.bs.length:Nat):Int).toNat) none:=by rw[dz,n4];exact fx fun j _=>by rw[dA (by omega)]
 rw[<- e0];exact e
theorem OB (s:cp){W:Nat->Int}(bp:s.bs.length<=8)(hW:∀k,k<s.bs.length->0<=W k/\W k<=1000):tN s (a4 s.bs.length W)=some true:=by
 have o:zE (a4 s.bs.length W)=some (-1):=by
  unfold zE;rw[hf,eK];refine aD (x:= .inl ()) ?_ rfl;unfold KE
  obtain⟨_,e,-⟩:=iv (f:=fun u:Int=>wY (a4 s.bs.length W) ((s.bs.length:Nat):Int) u) (fun (k:Nat) (_:Unit)=>(k:Int)) s.bs.length (fun _ _=>True) (fun _=>(.inl ():Unit⊕Int))
   (fun k aQ _ _=>by
     refine⟨(),?_,trivial⟩;unfold wY;refine ff (cN (aD (x:=W k) (by rw[dz];exact gX aQ) (aD (x:=false) ?_ ?_)))
     ·unfold CY;exact aD (VH (W k)) (by rw[decide_eq_true (hW k aQ)];rfl)
     rw[fP (by omega)];exact hk rfl rfl)
   (fun _ _=>by unfold wY;exact fY rfl) () trivial
  exact e
 unfold tN;exact eP (by rw[hf,hf,eK];simp) (aD (aD o rfl) rfl)
def Fk (y:Rat)(x:Int):Prop:=x*x*(gD y).2<(gD y).1
theorem XE {y:Rat}(aP:gb y){x:Int}(aa:0<=x/\x<=1000): ∃c,l7 (U (x*x))=some (cQ ((x*x:Int):Rat))/\xU (cQ y) (cQ ((x*x:Int):Rat))=some c/\(0<c↔Fk y x):=by
 have bO:0<=x*x/\x*x<=1000000:=by have:=Int.mul_le_mul aa.2 aa.2 aa.1 (by omega);exact⟨Int.mul_nonneg aa.1 aa.1,by omega⟩
 have i64:oP (x*x):=ms.2 (by omega);have p:=aP.cY;have q:=(yv i64).cY;refine⟨_,by rw[cI (x:=x*x) (by omega) (by omega)];exact tX i64,UM p.pos q.pos p.num p.den q.num q.den (by omega) (by omega) (by omega) (by omega),?_⟩;rw[Xf];unfold Fk gD;simp only[Rat.num_intCast,Rat.den_intCast];rw[show ((1:Nat):Int)=1 from rfl,Int.mul_one]
theorem US {s:cp}(d:wE s){z:Nat->Rat}{w:Rat}(h:mC l6 z w){W:Nat->Int}(hW:∀k,k<s.bs.length->0<=W k/\W k<=1000){aH:Nat->ar}(nQ:aH 0=[])(aF:∀k,(aH k).length<=k)
 (cv : ∀k,k<s.bs.length->(Fk (mm s z k) (W k)/\aH (k+1)=aH k++[(k:Int)])\/(¬Fk (mm s z k) (W k)/\aH (k+1)=aH k)) :
 zZ s (a4 s.bs.length fun k=>lj (z k)) (a4 s.bs.length W)=some (aH s.bs.length,true):=by
 have v:=d.v;have bp:=v.2.2.2;have hlen:len_ (cd 3 a8) (a4 s.bs.length fun k=>cQ (mm s z k))=((s.bs.length:Nat):Int):=by rw[hf,eK]
 unfold zZ;refine aD (Mw d h) (eP rfl (aD (OB s bp hW) (eP rfl ?_)));simp only;rw[hlen];refine aD (x:=aH s.bs.length) ?_ rfl;unfold Ly
 obtain⟨_,e,-⟩:=iv (f:=fun u:Int×ar=>xj (a4 s.bs.length W) (a4 s.bs.length fun k=>cQ (mm s z k)) ((s.bs.length:Nat):Int) u.1 u.2) (fun (k:Nat) (_:Unit)=>((k:Int),aH k)) s.bs.length (fun _ _=>True) (fun _=>aH s.bs.length)
  (fun k aQ _ _=>by
    refine⟨(),?_,trivial⟩;obtain⟨c,bB,cF,l4⟩:=XE (Pe v h aQ) (hW k aQ);have:=aF k;unfold xj;simp only;rw[fP (by omega)];refine ff (cN (aD (x:=cQ (mm s z k)) (by rw[dz];exact gX aQ) (cN (aD (x:=W k) (by rw[dz];exact gX aQ) (aD bB (aD cF ?_))))));rcases cv k aQ with ⟨g,e⟩|⟨g,e⟩
    ·rw[e];exact lf (l4.2 g) (dX (by simp only[dH,List.length_singleton];omega) rfl)
    rw[e];exact j4 (fun x=>g (l4.1 x)) rfl)
  (fun _ _=>by unfold xj;exact fY rfl) () trivial
 rw[nQ] at e;exact e
theorem H8 {s:cp}(d:nR s)(list:ar):kd (rJ s list)/\ow (rJ s list)=some true:=by
 obtain⟨f1,f2,f3,f4⟩:=d.v;have v:kd (rJ s list):=⟨f1,fun n m h=>by obtain⟨k,aQ⟩:=afr (Pc (dG h));exact f2 k m aQ,f3,Nat.le_trans (HJ ..) f4⟩;have name : ∀(n:Nat) j,s.cm[n]? = some j->o4[n]? = some j.nw:=fun n j h=>by have aF:=fN h;have e:(s.cm.map (·.nw))[n]? = some j.nw:=(by rw[dJ,h];rfl);rw[d.R2,dR,dw aF] at e;exact e
 exact⟨v,PP _ v (fun n j h=>N0 (name n j h)) (fun i k x y aa aP cx=>Qg (name i x aa) (name k y aP) cx)⟩
theorem Eu (s:cp)(v:kd s)(ok:ow s=some true)(l:ar)(aF:l.length=2*s.cm.length)(aN:∀x∈l,-100<=x/\x<=100):sL s l=some true:=by
 have e:yL s.cm.length l=true:=by unfold yL;rw[decide_eq_true aF,Bool.true_and,List.all_eq_true];intro x aa;unfold sY;exact decide_eq_true (aN x aa)
 have f:=M1 s v.2.2.1 l (by rw[aF,Ha];have:=v.2.2.1;omega);rw[e] at f;exact aD ok (eP rfl (aD f rfl))
noncomputable def q8 (s:cp)(l:ar)(k:Nat):Bool:=(sD (rJ s [(k:Int)]) l).getD false
theorem Qj {s:cp}{l:ar}(d:nR s)(aF:l.length=2*s.cm.length)(aN:∀x∈l,-100<=x/\x<=100)(k:Nat):sD (rJ s [(k:Int)]) l=some (q8 s l k)/\z8 (rJ s [(k:Int)]) l=some (q8 s l k):=by
 obtain⟨v,ok⟩:=H8 d [(k:Int)];obtain⟨r,ad,-⟩:=GP _ v l aF aN;have:q8 s l k=r:=by unfold q8;rw[ad];rfl
 rw[this];exact⟨ad,aD (Eu _ v ok l aF aN) (eP rfl (aD ad rfl))⟩
theorem Qk {s:cp}(d:nR s)(k:Nat):uX s [(k:Int)]=some (rJ s [(k:Int)]):=by have o:=d.v.2.2.1;have J:=d.v.2.2.2;exact Vf s (by omega) (by omega) _ (by simp)
theorem Yo {s:cp}{l:ar}(d:nR s)(aF:l.length=2*s.cm.length)(aN:∀x∈l,-100<=x/\x<=100){k:Nat}(aQ:k<s.bs.length):Da s l (k:Int)=some (q8 s l k) :=
 aD (Eu s d.v d.ok l aF aN) (eP rfl (fY (j4 (by rw[hf];omega) (aD (Qk d k) (aD (Qj d aF aN k).1 rfl)))))
theorem Yp {s:cp}{l:ar}(d:nR s)(aF:l.length=2*s.cm.length)(aN:∀x∈l,-100<=x/\x<=100):zP s l=some (mB (fun k=> !q8 s l k) s.bs.length):=by
 have bp:=d.v.2.2.2;unfold zP;refine aD (Eu s d.v d.ok l aF aN) (eP rfl (aD ?_ rfl));unfold K6;rw[hf];refine Xz (fun k=> !q8 s l k) s.bs.length (fun n aV=> ?_) ?_
 ·have b0:=Hw (fun k=> !q8 s l k) n
  simp only;unfold zG;refine ff (aD (Yo d aF aN aV) ?_);rw[fP (by omega)]
  cases q8 s l n with
  | true=>exact eP rfl rfl
  | false=>exact hk rfl (dX (by rw[dH,List.length_singleton];omega) rfl)
 simp only;unfold zG;exact fY rfl
abbrev Kn (s:cp)(l:ar):Prop:=pp (2*fm s) (cU s) (mZ s) (ou s l)
theorem Wy {w:ar}{k:Nat}(aQ:k<w.length)(hw:w.length<=1048576): ∃n row,At (k:Int) ((k+1:Nat):Int) w=some (.inr (n,row))/\n<=row.length/\(row.drop 0).take n=w.take k++w.drop (k+1):=by
 have rL:(w.drop (0+(k+1))).take (w.length-(k+1))=w.drop (k+1):=by rw[dF,dT (by rw[List.length_drop];omega)]
 have pB:(((w.map R).drop (0+(k+1))).take (w.length-(k+1))).length=w.length-(k+1):=by rw[List.length_take,List.length_drop,aft];omega
 have J5:(w.drop (k+1)).length=w.length-(k+1):=List.length_drop ..;have ao:k-0+(w.length-(k+1))=w.length-1:=by omega
 have aB:((w.take k++w.drop (k+1))++w.drop (w.length-1)).length=w.length:=by simp only[dH,List.length_take,List.length_drop];omega
 have bT:(w.take k++w.drop (k+1)).length=w.length-1:=by simp only[dH,List.length_take,List.length_drop];omega
 refine⟨w.length-1,((w.take k++w.drop (k+1)++w.drop (w.length-1)).take (w.length-1)++(List.replicate (w.length-(w.length-1)) 0:ar))++(w.take k++w.drop (k+1)++w.drop (w.length-1)).drop (w.length-1+(w.length-(w.length-1))),?_,?_,?_⟩
 ·unfold At;simp only[dz,rL,pB,J5,Nat.sub_zero];rw[show k+(w.length-(k+1))=w.length-1 by omega];simp only[dF];refine cN (cN (cN (cN (hk (beq_false_of_ne (by omega)) (cN (cN (cN (cN (cN (cN (dX (by rw[aB];omega) (dX (by rw[aB];omega) ?_))))))))))));rfl
 ·simp only[dH,List.length_take,List.length_replicate,aB];omega
 have key : ∀(A aH D:ar) (n:Nat),n<=A.length->(A.take n++aH++D).take n=A.take n:=fun A aH D n h=>by rw[List.append_assoc,List.take_append_of_le_length (by rw[List.length_take];omega),List.take_take,Nat.min_self]
 rw[List.drop_zero,key _ _ _ _ (by rw[aB];omega),List.take_append_of_le_length (by rw[bT];omega),dT (by rw[bT];omega)]
theorem Zf {f:Int->Option (Int⊕(Unit⊕Unit))}{N:Nat}{B:Nat->Bool}(h:∀n,n<N->f (n:Int)=some (if B n then .inl ((n+1:Nat):Int) else .inr (.inr ())))(he:f (N:Int)=some (.inr (.inl ()))):
 iter f 0=some (if ∀n,n<N->B n=true then .inl () else .inr ()):=by
 obtain⟨r,e,q⟩:=rf (f:=f) (fun (n:Nat) (_:Unit)=>(n:Int)) N (fun n _=> ∀j,j<n->B j=true) (fun r=>r=if ∀n,n<N->B n=true then .inl () else .inr ())
  (fun n aV _ cT=>by
    cases b:B n with
    | true =>
     refine .inl ⟨(),by rw[h n aV,b];rfl,fun j av=> ?_⟩;by_cases c:j=n
     ·rw[c];exact b
     exact cT j (by omega)
    | false =>
     refine .inr ⟨.inr (),by rw[h n aV,b];rfl,?_⟩;rw[dA fun g=>by have:=g n aV;rw[b] at this;simp at this])
  (fun _ cT=>⟨.inl (),he,by rw[dw cT]⟩) () (fun j av=>absurd av (by omega))
 rw[<- q];exact e
theorem OC (w:ar):w=a4 w.length fun i=>w.getD i 0:=by
 apply afo;intro i;by_cases c:i<w.length
 ·rw[gX c,afc,dx c];rfl
 rw[dP (by omega),dP (by rw[eK];omega)]
theorem XF {s:cp}(d:wE s){z:Nat->Rat}{u:Rat}(h:mC l6 z u){w:ar}(hw:∀x∈w,0<=x/\x<=1000): ∃b,u5 s (a4 s.bs.length fun k=>lj (z k)) w=some b:=by
 have bp:=d.v.2.2.2;unfold u5;by_cases c:w.length=s.bs.length
 ·have e:=OC w
  rw[c] at e;have hW : ∀k,k<s.bs.length->0<=w.getD k 0/\w.getD k 0<=1000:=fun k aQ=>(by rw[afc,dx (by omega)];exact hw _ (List.getElem_mem _));rw[e]
  exact⟨_,aD (US d h hW (aH:=mB fun k=>decide (w.getD k 0*w.getD k 0*(gD (mm s z k)).2<(gD (mm s z k)).1)) rfl (Hw _) (fun k aQ=>by
   by_cases g:w.getD k 0*w.getD k 0*(gD (mm s z k)).2<(gD (mm s z k)).1
   ·exact .inl ⟨g,by rw[mB,dw (decide_eq_true g)]⟩
   exact .inr ⟨g,by rw[mB,dA (by simpa using g)]⟩)) (eP rfl rfl)⟩
 have b0:tN s w=some false:=by unfold tN;exact hk (by rw[hf,hf];exact su (by omega)) rfl
 exact⟨false,aD (x:=([],false)) (aD (Mw d h) (eP rfl (aD b0 (hk rfl rfl)))) (hk rfl rfl)⟩
theorem PS {s:cp}(d:wE s){l:ar}(aF:l.length=2*s.cm.length)(aN:∀x∈l,-100<=x/\x<=100){w:ar}(hw:∀x∈w,0<=x/\x<=1000):
 uY s l w=some ([],false)\/(Kn s l/\ ∃z u,mC l6 z u/\Fi s l z/\Fj s z/\uY s l w=some (a4 s.bs.length (fun k=>lj (z k)),true)/\u5 s (a4 s.bs.length fun k=>lj (z k)) w=some true):=by
 unfold uY;rcases Yf s d.v (Eu s d.v d.ok l aF aN) aF aN with ⟨-,e⟩|⟨x,u,q,e⟩
 ·exact .inl (aD e (hk rfl rfl))
 have D:=Ze d q;obtain⟨b,ob⟩:=XF d D hw
 cases b with
 | false=>exact .inl (aD e (eP rfl (aD ob (hk rfl rfl))))
 | true=>exact .inr ⟨⟨x,q.mf.1.1,q.mf.1.2⟩,_,_,D,Yl q.mf.1,Ym s q.mf.1.1,aD e (eP rfl (aD ob (eP rfl rfl))),ob⟩
theorem XG {s:cp}(d:wE s){l:ar}(aF:l.length=2*s.cm.length)(aN:∀x∈l,-100<=x/\x<=100){w:ar}(hw:∀x∈w,0<=x/\x<=1000): ∃b,r1 s l w=some b/\(b=true->Kn s l):=by
 rcases PS d aF aN hw with e|⟨h,z,u,-,-,-,e,-⟩
 ·exact⟨false,aD e rfl,fun h=>by cases h⟩
 exact⟨true,aD e rfl,fun _=>h⟩
theorem TZ (x0:ar)(i0:(fun l=>l.length<=maxLen/\ ∀x∈l,(fun _=>True) x) x0):Dm x0=some true:=by
 unfold Dm;by_cases h0:(1048576:Int)<len_ eU8 x0
 ·exact lf h0 rfl
 have aL:x0.length<=1048576:=by rw[hf] at h0;omega
 obtain⟨s,l,ao,d,FB⟩:=Vg x0 aL;have aF:=FB.1;have aN:=FB.df;have bp:=d.v.2.2.2;have gr:=d.gr;have fS:=hf c9 s.bs
 obtain⟨w,rQ,wl,hw⟩ : ∃w,Gq x0 l ((s.bs.length:Nat):Int) s.cm s.bs 0 []=some w/\w.length=s.bs.length/\ ∀x∈w,0<=x/\x<=1000:=by
  unfold Gq
  obtain⟨r,ad,bu⟩:=j9 (f:=fun w:Int×ar=>zT x0 l ((s.bs.length:Nat):Int) s.cm s.bs w.1 w.2) (fun w=> ∃k:Nat,w.1=(k:Int)/\k<=s.bs.length/\w.2.length=k/\ ∀x∈w.2,0<=x/\x<=1000) (fun w=>s.bs.length-w.1.toNat) (fun r=>r.length=s.bs.length/\ ∀x∈r,0<=x/\x<=1000)
   (fun w cT=>by
     obtain⟨i,I⟩:=w;obtain⟨k,rfl,jU,h1,jV⟩:=cT;simp only at h1 jV;simp only;unfold zT;by_cases c:k<s.bs.length
     ·have acU:U ((40:Int)+(k:Int))=((40+k:Nat):Int):=by rw[cI (by omega) (by omega)];omega
      obtain⟨r,g1,g2⟩:=VR x0 aL (40+k) (by omega);have g3:0<=r.tmod 4/\r.tmod 4<((4:Nat):Int):=(by rw[Int.tmod_eq_emod_of_nonneg g2];omega);obtain⟨x,aa⟩ : ∃x,([5,20,100,500]:ar)[0+(r.tmod 4).toNat]? = some x:=⟨_,dx (by simp only[dM,afp];omega)⟩;have wb:0<=x/\x<=1000:=(by have:=dG aa;simp only[dO,afg,or_false] at this;omega);refine .inl ⟨(((k+1:Nat):Int),I++[x]),?_,⟨k+1,rfl,by omega,by simp only[dH,List.length_singleton];omega,fun y aP=> ?_⟩,by simp only[dz];omega⟩
      ·rw[acU,fP (by omega)];exact ff (aD g1 (dX g3 (aD aa (dX (by simp only[dH,List.length_singleton];omega) rfl))))
      rw[List.mem_append,List.mem_singleton] at aP;rcases aP with aP|rfl
      ·exact jV y aP
      exact wb
     exact .inr ⟨I,fY rfl,by omega,jV⟩) (0,[]) ⟨0,rfl,by omega,rfl,by simp⟩
  exact⟨r,ad,bu⟩
 have um:z9 s w=some true:=by have e:=OC w;rw[wl] at e;rw[e];refine aD d.ok (eP rfl (aD (OB s bp fun k aQ=> ?_) rfl));rw[afc,dx (by omega)];exact hw _ (List.getElem_mem _)
 rw[<- fS] at rQ;refine j4 h0 (aD ao (aD rQ ?_));rcases PS d.V aF aN hw with e|⟨sA,z,u,D,b5,dt,e,RH⟩
 ·have bO:r1 s l w=some false:=aD e rfl;have bA:sF s l w=some false:=aD bO (hk rfl rfl);exact aD e (aD bO (eP rfl (hk rfl (aD bA (hk rfl (aD um rfl))))))
 have bO:r1 s l w=some true:=aD e rfl;obtain⟨p,bB,cF,l4⟩:=aaw s d l aF aN;have ah:p=true:=l4.2 sA;rw[ah] at bB;have vX:=Yn s d.ok d.v aF aN (Qh s d l aF aN).1 D b5 dt
 have gV : ∀n:Nat,∃b,r1 (rJ s [(n:Int)]) l (w.take n++w.drop (n+1))=some b/\(b=true->Kn (rJ s [(n:Int)]) l):=fun n=>by
  obtain⟨v,ok⟩:=H8 d [(n:Int)]
  exact XG (s:=rJ s [(n:Int)]) ⟨v,ok,d.uF⟩ aF aN (fun x aa=>by
   rw[List.mem_append] at aa;rcases aa with aa|aa
   ·exact hw x (List.mem_of_mem_take aa)
   exact hw x (List.mem_of_mem_drop aa))
 obtain⟨B,RI⟩:=Classical.axiomOfChoice gV
 have sp:FY l w ((s.bs.length:Nat):Int) s.cm s.bs 0=some (if ∀n,n<s.bs.length->B n=true then .inl () else .inr ()):=by
  unfold FY;refine Zf (fun n aV=> ?_) (by unfold zK;exact fY rfl);have wn:U ((n:Int)+(1:Int))=((n+1:Nat):Int):=fP (by omega);obtain⟨m,row,g1,g2,g3⟩:=Wy (w:=w) (k:=n) (by omega) (by omega);have hy:DD w=some w:=dX ⟨fun h=>by rw[h] at wl;simp at wl;omega,by omega⟩ rfl;unfold zK;rw[wn];refine ff (aD (Qk d n) (aD hy (aD g1 ?_)));simp only;rw[g3];refine cN (aD (RI n).1 ?_)
  cases B n with
  | true=>exact eP rfl rfl
  | false=>exact hk rfl rfl
 by_cases c : ∀n,n<s.bs.length->B n=true;rotate_left
 ·rw[dA c] at sp;have bA:sF s l w=some false:=(by unfold sF;rw[fS];exact aD bO (eP rfl (aD sp rfl)));exact aD e (aD bO (eP rfl (eP rfl (aD vX (eP rfl (aD RH (eP rfl (aD bA (hk rfl (aD um rfl))))))))))
 rw[dw c] at sp;have bA:sF s l w=some true:=by unfold sF;rw[fS];exact aD bO (eP rfl (aD sp rfl))
 have acn:=Yp d aF aN
 have aay:mB (fun k=> !q8 s l k) s.bs.length=[]:=by
  apply List.eq_nil_iff_forall_not_mem.2;intro x aa;have key : ∀k,k<s.bs.length->q8 s l k=true:=fun k aQ=>by obtain⟨v,ok⟩:=H8 d [(k:Int)];obtain⟨r,ad,bu⟩:=GP _ v l aF aN;have:=(Qj d aF aN k).1;rw[ad] at this;rw[<- dI this];exact bu.2 ((RI k).2 (c k aQ))
  have none : ∀n,n<=s.bs.length->mB (fun k=> !q8 s l k) n=[]:=fun n=>by
   induction n with
   | zero=>intro _;rfl
   | succ n ih=>intro aV;rw[mB,dA (by rw[key n (by omega)];simp)];exact ih (by omega)
  rw[none _ (dE _)] at aa;simp at aa
 have aj:Db s l=some true:=by refine aD bB (eP rfl (aD acn ?_));rw[aay];rfl
 exact aD e (aD bO (eP rfl (eP rfl (aD vX (eP rfl (aD RH (eP rfl (aD bA (eP rfl (aD aj rfl))))))))))
end Go.Proofs.YtopadgleejacdacGreat
