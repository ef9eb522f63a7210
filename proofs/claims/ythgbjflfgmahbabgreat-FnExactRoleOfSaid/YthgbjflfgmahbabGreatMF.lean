/- Lemmas, plain functions of the program, and what they answer. No condition. -/
import Derived.Test.YthgbjflfgmahbabGreatME
namespace Go.Proofs.YthgbjflfgmahbabGreat
set_option linter.unusedVariables false
set_option linter.unusedSimpArgs false
open Go Go.VL
structure lz (p:iK) (m n:Nat) (a:Nat->Nat->Int) (b:Nat->Int):Prop where
 rows:p.gn=m
 gQ:p.fk=n
 g9:p.d4.length=m*n
 Cs : ∀i,i<m-> ∀j,j<n->p.d4[i*n+j]? = some (a i j)
 xf:p.ee.length=m
 FD : ∀i,i<m->p.ee[i]? = some (b i)
 hm:m<=20
 aV:n<=40
 uR : ∀i,i<m-> ∀j,j<n-> -100<=a i j/\a i j<=100
 th : ∀i,i<m-> -100<=b i/\b i<=100
theorem vy {p:iK}{m n:Nat}{a:Nat->Nat->Int}{b:Nat->Int}(h:lz p m n a b){i:Nat}(ad:i<m)(j:Nat): -100<=lr m n a b i j/\lr m n a b i j<=100:=by
 have aU:=h.th i ad;unfold lr k2;by_cases c:j<n
 ·have bG:=h.uR i ad j c;rw[dw c];split<;>omega
 ·rw[dz c]
  split
  ·split<;>omega
  ·split<;>omega
theorem MP {p:iK}{m n:Nat}{a:Nat->Nat->Int}{b:Nat->Int}(h:lz p m n a b){i:Nat}(ad:i<m)(j:Nat):dX 100 (dh m n a b i j) :=
 ⟨lr m n a b i j,rfl,by have:=vy h ad j;omega⟩
theorem aft:(1000000000000000000:Int)<B 24:=by decide
theorem LJ {K:Nat}{x:Rat}(h:dX K x)(aX:K<=1000000000000000000):eN x:=by obtain⟨z,rfl,cD⟩:=h;have:=aft;exact TZ (n:=z) (d:=1) (by decide) (by rw[show ((1:Int):Rat)=1 from rfl];grind) (by omega) (by omega)
theorem Ve {p:iK}{m n:Nat}{a:Nat->Nat->Int}{b:Nat->Int}(h:lz p m n a b){i:Nat}(ad:i<m):Bt p i=some (aO n (a i)):=by
 have hm:=h.hm;have aV:=h.aV;have h1:i*n<=20*40:=Nat.mul_le_mul (by omega) aV;have h2:(i+1)*n<=20*40:=Nat.mul_le_mul (by omega) aV;have R:(i+1)*n<=m*n:=dL _ ad;have e1:U ((i:Int)*p.fk)=((i*n:Nat):Int):=by rw[h.gQ,<- Int.natCast_mul,cT (by omega) (by omega)]
 have e2:U (U ((i:Int)+1)*p.fk)=(((i+1)*n:Nat):Int):=by rw[h.gQ,fl (by omega),<- Int.natCast_mul,cT (by omega) (by omega)]
 have ah:(i+1)*n=i*n+n:=Nat.succ_mul i n;unfold Bt;rw[e1,e2,dx,dx,h.g9];refine bt (by omega) (bt (by omega) (bt (by omega) ?_));congr 1;apply List.ext_getElem?;intro j;rw[List.getElem?_take,List.getElem?_drop];by_cases c:j<n
 ·rw[dw (by omega),h.Cs i ad j c,f9 c]
 ·rw[dz (by omega)]
  symm
  rw[List.getElem?_eq_none_iff,cm];omega
def ir (m n:Nat)(a:Nat->Nat->Int)(b:Nat->Int)(i j:Nat):Rat:=if j<n\/j=n+m then cv i (fun k=>dh m n a b k j) else 0
theorem Vz {p:iK}{m n:Nat}{a:Nat->Nat->Int}{b:Nat->Int}(h:lz p m n a b){i:Nat}(ad:i<=m)(j:Nat):dX 2000 (ir m n a b i j):=by
 have hm:=h.hm;unfold ir;split
 ·exact(dX.sum fun k aX=>MP h (by omega) j).mono (by omega)
 ·exact⟨0,rfl,by omega⟩
theorem abG {p:iK}{m n:Nat}{a:Nat->Nat->Int}{b:Nat->Int}(h:lz p m n a b){i:Nat}(ad:i<m)(aU:b i<0)(x0:Int)(q2:List bR)(bN:List (List aE))(cu:ar)(dU:List aE):
 (Kj (i:Int) (aO n (a i)) (len_ eI (aO n (a i))) p.gn p.fk p.d4 p.ee p.hg x0 q2 bN cu dU 0 ([]:List aE) >>= fun ct=>Kk (i:Int) p.gn p.fk p.d4 p.ee p.hg x0 q2 bN cu dU 0 ct)=some (aO (n+m) fun j=>cb (dh m n a b i j)):=by
 have hm:=h.hm;have aV:=h.aV;have bJ:k2 (b i) = -1:=by unfold k2;rw[dw aU]
 obtain⟨s1,e1,-⟩:=hU (f:=fun w:Int×List aE=>Af (i:Int) (aO n (a i)) ((n:Nat):Int) p.gn p.fk p.d4 p.ee p.hg x0 q2 bN cu dU w.1 w.2)
  (fun (k:Nat) (_:Unit)=>((k:Int),aO k fun j=>cb (dh m n a b i j))) n (fun _ _=>True) (fun _=>aO n fun j=>cb (dh m n a b i j))
  (fun k aX _ _=>by
    refine⟨(),?_,trivial⟩;have bG:=h.uR i ad k aX;unfold Af;have e:U ((-1:Int)*a i k)=lr m n a b i k:=(by rw[cT (by omega) (by omega)];unfold lr;rw[dw aX,bJ]);refine dv (by simp only;omega) (bt (by rw[cm];simp only;omega) (av (x:=a i k) (by simp only;rw[dx];exact f9 aX) (av (x:=cb (dh m n a b i k)) ?_ (bt (by simp only[dF,cm,List.length_cons,List.length_nil];omega) ?_))))
    ·rw[e];exact rT (by have:=vy h ad k;rw[k7];omega)
    ·simp only;rw[fl (by omega),kW])
  (fun _ _=>by unfold Af;exact ea (by simp) rfl) () trivial
 refine av (x:=aO n fun j=>cb (dh m n a b i j)) (by unfold Kj;rw[fU,cm];exact e1) ?_
 obtain⟨s2,e2,-⟩:=hU (f:=fun w:Int×List aE=>Ag (i:Int) p.gn p.fk p.d4 p.ee p.hg x0 q2 bN cu dU w.1 w.2)
  (fun (k:Nat) (_:Unit)=>((k:Int),aO (n+k) fun j=>cb (dh m n a b i j))) m (fun _ _=>True) (fun _=>aO (n+m) fun j=>cb (dh m n a b i j))
  (fun k aX _ _=>by
    refine⟨(),?_,trivial⟩;unfold Ag
    have GL:lr m n a b i (n+k)=if k=i then 1 else 0:=by
     unfold lr;rw[dz (by omega),dz (by omega)];by_cases c:k=i
     ·rw[dw c,dw (by omega)]
     ·rw[dz c,dz (by omega)]
    refine dv (by simp only;rw[h.rows];omega) (qm (fun c=> ?_) (fun c=> ?_))
    ·have zn:k=i:=(by simp at c;omega);refine av (x:=cb (dh m n a b i (n+k))) (by unfold dh;rw[GL,dw zn];exact rT (by rw[k7];omega)) (bt (by simp only[dF,cm,List.length_cons,List.length_nil];omega) ?_);simp only;rw[fl (by omega),<- Nat.add_assoc,kW]
    ·have zn:k≠i:=(by simp at c;omega);refine av (x:=cb (dh m n a b i (n+k))) (by unfold dh;rw[GL,dz zn];exact rT (by rw[k7];omega)) (bt (by simp only[dF,cm,List.length_cons,List.length_nil];omega) ?_);simp only;rw[fl (by omega),<- Nat.add_assoc,kW])
  (fun _ _=>by unfold Ag;exact ea (by simp only;rw[h.rows];omega) rfl) () trivial
 unfold Kk;exact e2
theorem abH {p:iK}{m n:Nat}{a:Nat->Nat->Int}{b:Nat->Int}(h:lz p m n a b){i:Nat}(ad:i<m)(aU:¬b i<0)(x0:Int)(q2:List bR)(bN:List (List aE))(cu:ar)(dU:List aE):
 (J9 (i:Int) (aO n (a i)) (len_ eI (aO n (a i))) p.gn p.fk p.d4 p.ee p.hg x0 q2 bN cu dU 0 ([]:List aE) >>= fun ct=>Ka (i:Int) p.gn p.fk p.d4 p.ee p.hg x0 q2 bN cu dU 0 ct)=some (aO (n+m) fun j=>cb (dh m n a b i j)):=by
 have hm:=h.hm;have aV:=h.aV;have bJ:k2 (b i)=1:=by unfold k2;rw[dz aU]
 obtain⟨s1,e1,-⟩:=hU (f:=fun w:Int×List aE=>z3 (i:Int) (aO n (a i)) ((n:Nat):Int) p.gn p.fk p.d4 p.ee p.hg x0 q2 bN cu dU w.1 w.2)
  (fun (k:Nat) (_:Unit)=>((k:Int),aO k fun j=>cb (dh m n a b i j))) n (fun _ _=>True) (fun _=>aO n fun j=>cb (dh m n a b i j))
  (fun k aX _ _=>by
    refine⟨(),?_,trivial⟩;have bG:=h.uR i ad k aX;unfold z3;have e:U ((1:Int)*a i k)=lr m n a b i k:=(by rw[cT (by omega) (by omega)];unfold lr;rw[dw aX,bJ]);refine dv (by simp only;omega) (bt (by rw[cm];simp only;omega) (av (x:=a i k) (by simp only;rw[dx];exact f9 aX) (av (x:=cb (dh m n a b i k)) ?_ (bt (by simp only[dF,cm,List.length_cons,List.length_nil];omega) ?_))))
    ·rw[e];exact rT (by have:=vy h ad k;rw[k7];omega)
    ·simp only;rw[fl (by omega),kW])
  (fun _ _=>by unfold z3;exact ea (by simp) rfl) () trivial
 refine av (x:=aO n fun j=>cb (dh m n a b i j)) (by unfold J9;rw[fU,cm];exact e1) ?_
 obtain⟨s2,e2,-⟩:=hU (f:=fun w:Int×List aE=>z4 (i:Int) p.gn p.fk p.d4 p.ee p.hg x0 q2 bN cu dU w.1 w.2)
  (fun (k:Nat) (_:Unit)=>((k:Int),aO (n+k) fun j=>cb (dh m n a b i j))) m (fun _ _=>True) (fun _=>aO (n+m) fun j=>cb (dh m n a b i j))
  (fun k aX _ _=>by
    refine⟨(),?_,trivial⟩;unfold z4
    have GL:lr m n a b i (n+k)=if k=i then 1 else 0:=by
     unfold lr;rw[dz (by omega),dz (by omega)];by_cases c:k=i
     ·rw[dw c,dw (by omega)]
     ·rw[dz c,dz (by omega)]
    refine dv (by simp only;rw[h.rows];omega) (qm (fun c=> ?_) (fun c=> ?_))
    ·have zn:k=i:=(by simp at c;omega);refine av (x:=cb (dh m n a b i (n+k))) (by unfold dh;rw[GL,dw zn];exact rT (by rw[k7];omega)) (bt (by simp only[dF,cm,List.length_cons,List.length_nil];omega) ?_);simp only;rw[fl (by omega),<- Nat.add_assoc,kW]
    ·have zn:k≠i:=(by simp at c;omega);refine av (x:=cb (dh m n a b i (n+k))) (by unfold dh;rw[GL,dz zn];exact rT (by rw[k7];omega)) (bt (by simp only[dF,cm,List.length_cons,List.length_nil];omega) ?_);simp only;rw[fl (by omega),<- Nat.add_assoc,kW])
  (fun _ _=>by unfold z4;exact ea (by simp only;rw[h.rows];omega) rfl) () trivial
 unfold Ka;exact e2
theorem SS {p:iK}{m n:Nat}{a:Nat->Nat->Int}{b:Nat->Int}(h:lz p m n a b){i:Nat}(ad:i<m)(q2:List (List aE))(bN:List bR)(cu:ar)(a4:q2[i]? = some (aO (n+m+1) fun j=>cb (dh m n a b i j))):
 G0 (i:Int) i (n+m+1) (((n+m+1:Nat):Nat):Int) p.gn p.fk p.d4 p.ee p.hg ((n+m:Nat):Int) q2 bN cu 0 (aO (n+m+1) fun j=>cb (ir m n a b i j))=some (aO (n+m+1) fun j=>cb (ir m n a b (i+1) j)):=by
 have hm:=h.hm;have aV:=h.aV;have ajk : ∀j,eN (dh m n a b i j):=fun j=>LJ (MP h ad j) (by omega);have f1 : ∀j,eN (ir m n a b i j):=fun j=>LJ (Vz h (by omega) j) (by omega);have f2 : ∀j,eN (ir m n a b (i+1) j):=fun j=>LJ (Vz h (by omega) j) (by omega);have es : ∀j,(j<n\/j=n+m)->ir m n a b i j+dh m n a b i j=ir m n a b (i+1) j:=fun j au=>by unfold ir;rw[dw au,dw au,cv]
 have zB : ∀j,¬(j<n\/j=n+m)->ir m n a b i j=ir m n a b (i+1) j:=fun j au=>by unfold ir;rw[dz au,dz au]
 obtain⟨s,e,-⟩:=hU (f:=fun w:Int×List aE=>Ah (i:Int) i (n+m+1) (((n+m+1:Nat):Nat):Int) p.gn p.fk p.d4 p.ee p.hg ((n+m:Nat):Int) q2 bN cu w.1 w.2)
  (fun (k:Nat) (_:Unit)=>((k:Int),aO (n+m+1) fun j=>cb (if j<k then ir m n a b (i+1) j else ir m n a b i j))) (n+m+1) (fun _ _=>True) (fun _=>aO (n+m+1) fun j=>cb (ir m n a b (i+1) j))
  (fun k aX _ _=>by
    refine⟨(),?_,trivial⟩
    have fin : ∀r,r=ir m n a b (i+1) k->(U ((k:Int)+1),(aO (n+m+1) fun j=>cb (if j<k then ir m n a b (i+1) j else ir m n a b i j)).set (0+((k:Int)).toNat) (cb r))=(((k+1:Nat):Int),aO (n+m+1) fun j=>cb (if j<k+1 then ir m n a b (i+1) j else ir m n a b i j)):=by
     intro r ai;rw[fl (by omega),dx,dG,kJ];congr 1;refine eE fun j _=> ?_;by_cases c:j=k
     ·subst c;rw[dw rfl,dw (by omega),ai]
     ·rw[dz c]
      by_cases cr:j<k
      ·rw[dw cr,dw (by omega)]
      ·rw[dz cr,dz (by omega)]
    have Xu : ∀ {x:Option ((Int×List aE)⊕List aE)},(k<n\/k=n+m)->(∀r,(U ((k:Int)+1),(aO (n+m+1) fun j=>cb (if j<k then ir m n a b (i+1) j else ir m n a b i j)).set (0+((k:Int)).toNat) (cb r))=(((k+1:Nat):Int),aO (n+m+1) fun j=>cb (if j<k+1 then ir m n a b (i+1) j else ir m n a b i j))->some (Sum.inl (U ((k:Int)+1),(aO (n+m+1) fun j=>cb (if j<k then ir m n a b (i+1) j else ir m n a b i j)).set (0+((k:Int)).toNat) (cb r)))=x) ->
     (if 0<=(k:Int)/\(k:Int)<(((aO (n+m+1) fun j=>cb (if j<k then ir m n a b (i+1) j else ir m n a b i j)).length:Nat):Int) then
       (aO (n+m+1) fun j=>cb (if j<k then ir m n a b (i+1) j else ir m n a b i j))[(0+((k:Int)).toNat)]? >>= fun gi =>
       q2[i]? >>= fun oM =>
       if 0<=(k:Int)/\(k:Int)<((n+m+1:Nat):Int) then
       oM[(0+((k:Int)).toNat)]? >>= fun ef =>
       tk gi ef >>= fun bC =>
       if (0+((k:Int)).toNat)<(aO (n+m+1) fun j=>cb (if j<k then ir m n a b (i+1) j else ir m n a b i j)).length then
       some (.inl (U ((k:Int)+(1:Int)),(aO (n+m+1) fun j=>cb (if j<k then ir m n a b (i+1) j else ir m n a b i j)).set (0+((k:Int)).toNat) bC))
       else none
       else none
       else none)=x:=by
     intro x Jh ab;refine bt (by rw[cm];omega) (av (x:=cb (ir m n a b i k)) (by rw[dx,hn aX,dz (by omega)]) (av a4 (bt (by omega) (av (x:=cb (dh m n a b i k)) (by rw[dx];exact hn aX) (av (MB (f1 k) (ajk k) (by rw[es k Jh];exact f2 k)) (bt (by rw[cm,dx];omega) ?_))))));exact ab _ (fin _ (es k Jh))
    unfold Ah;refine dv (by simp only;omega) (qm (fun c=> ?_) (fun c=> ?_))
    ·have N5:k<n:=(by have:=of_decide_eq_true c;rw[h.gQ] at this;simp only at this;omega);exact Xu (.inl N5) fun r ai=>by rw[ai]
    ·have N5 : ¬k<n:=by have:=of_decide_eq_false c;rw[h.gQ] at this;simp only at this;omega
     refine qm (fun cr=> ?_) (fun cr=> ?_)
     ·have WY:k=n+m:=(by simp at cr;omega);exact Xu (.inr WY) fun r ai=>by rw[ai]
     ·have WY:k≠n+m:=by simp at cr;omega
      simp only;rw[fl (by omega)];congr 3;refine eE fun j _=> ?_;by_cases ku:j=k
      ·subst ku;rw[dz (by omega),dw (by omega),zB j (by omega)]
      ·by_cases sm:j<k
       ·rw[dw sm,dw (by omega)]
       ·rw[dz sm,dz (by omega)])
  (fun _ _=>by unfold Ah;refine ea (by simp) ?_;simp only;congr 2;exact eE fun j au=>by rw[dw au]) () trivial
 unfold G0;have bM:(aO (n+m+1) fun j=>cb (if j<0 then ir m n a b (i+1) j else ir m n a b i j))=aO (n+m+1) fun j=>cb (ir m n a b i j):=eE fun j _=>by rw[dz (by omega)]
 rw[bM] at e;exact e
theorem rZ {K:Nat}{d x y:Rat}(bF:dX K d)(aZ:dX K y)(h0:d≠0)(e:d*x=y)(iY:(K:Int)<B 24):eN x:=by obtain⟨z,rfl,cD⟩:=bF;obtain⟨w,rfl,hw⟩:=aZ;exact TZ (n:=w) (d:=z) (fun c=>h0 (by rw[c];rfl)) e (by omega) (by omega)
@[irreducible] def eS:Nat:=nY 100 20
theorem Fb:nY 100 20=eS:=by unfold eS;rfl
theorem af5:((21*100*(eS*eS):Nat):Int)<B 24:=by decide +kernel
theorem sO:0<eS:=by decide +kernel
structure lM (m N:Nat) (A:Nat->Nat->Rat) (t:bV):Prop where
 ok:gU m m N A t
 ld:t.mj m N
 ss:t.D m A≠0
structure Small (m N:Nat) (A:Nat->Nat->Rat):Prop where
 hm:m<=20
 qX : ∀c,c<m-> ∀j,j<=N->dX 100 (A c j)
theorem lM.zo {m N:Nat}{A:Nat->Nat->Rat}(s:Small m N A){t:bV}(h:lM m N A t):dX eS (t.D m A):=by refine dX.mono (wz fun i ad c a2=>s.qX c a2 _ (Nat.le_of_lt (h.ok.jr i ad))) (Fb▸BL (by omega) s.hm)
theorem lM.uK {m N:Nat}{A:Nat->Nat->Rat}(s:Small m N A){t:bV}(h:lM m N A t){i j:Nat}(ad:i<m)(au:j<=N):dX eS (t.T i j*t.D m A):=by
 rw[<- h.ok.xe ad au];refine dX.mono (wz fun k aX c a2=> ?_) (Fb▸BL (by omega) s.hm);simp only[hp];split
 ·exact s.qX c a2 j au
 ·exact s.qX c a2 _ (Nat.le_of_lt (h.ok.jr k aX))
theorem qE {k:Nat}(h:k<=21*100*(eS*eS)):((k:Nat):Int)<B 24:=by have:=af5;omega
theorem FE:eS<=21*100*(eS*eS):=by have h1:eS*1<=eS*eS:=Nat.mul_le_mul_left _ sO;omega
theorem lM.IY {m N:Nat}{A:Nat->Nat->Rat}(s:Small m N A){t:bV}(h:lM m N A t){i j:Nat}(ad:i<m)(au:j<=N):eN (t.T i j) :=
 rZ (h.zo s) (h.uK s ad au) h.ss (by grind) (qE FE)
theorem lM.V0 {m N:Nat}{A:Nat->Nat->Rat}(s:Small m N A){t:bV}(h:lM m N A t){i j:Nat}(ad:i<m)(au:j<=N)(ag:0<t.T i j):eN (t.T i N / t.T i j) :=
 rZ (h.uK s ad au) (h.uK s ad (dE _)) (fun c=>by have h1:=h.ss;have:t.T i j≠0:=(by grind);grind) (by grind) (qE FE)
theorem lM.WZ {m N:Nat}{A:Nat->Nat->Rat}(s:Small m N A){t:bV}(h:lM m N A t){o:Nat->Rat}(an:∀j,j<=N->dX 100 (o j)){j:Nat}(au:j<=N):dX (21*100*eS) (t.cq m o j*t.D m A):=by
 have hm:=s.hm;unfold bV.cq;have e:(o j-cv m (fun i=>o (t.B i)*t.T i j))*t.D m A=o j*t.D m A-cv m (fun i=>o (t.B i)*(t.T i j*t.D m A)):=by rw[gf (f:=fun i=>o (t.B i)*(t.T i j*t.D m A)) (g:=fun i=>(o (t.B i)*t.T i j)*t.D m A) (fun i _=>by grind),vb];grind
 rw[e];refine dX.mono (((an j au).mul (h.zo s)).sub (dX.sum fun i ad=>(an _ (Nat.le_of_lt (h.ok.jr i ad))).mul (h.uK s ad au))) ?_;have:m*(100*eS)<=20*(100*eS):=dL _ hm;omega
theorem wN:21*100*eS<=21*100*(eS*eS):=by have h1:eS*1<=eS*eS:=Nat.mul_le_mul_left _ sO;omega
theorem lM.wO {m N:Nat}{A:Nat->Nat->Rat}(s:Small m N A){t:bV}(h:lM m N A t){o:Nat->Rat}(an:∀j,j<=N->dX 100 (o j)){j:Nat}(au:j<=N):eN (t.cq m o j) :=
 rZ ((h.zo s).mono (Nat.le_trans (by omega:eS<=21*100*eS) (dE _))) (h.WZ s an au) h.ss (by grind) (qE wN)
theorem lM.hY {m N K:Nat}{A obj:Nat->Nat->Rat}{bL:Nat->Prop}{t:bV}(h:lM m N A t){r k:Nat}(b:oV m N K obj bL t r k):lM m N A (t.cl r k) :=
 ⟨b.ok h.ok,b.FA h.ld,by rw[h.ok.yI b.ai b.bJ];have h1:=b.pos;have h2:=h.ss;intro c;have:t.T r k≠0:=(by grind);grind⟩
theorem lM.FF {m N:Nat}{A:Nat->Nat->Rat}(s:Small m N A){t:bV}(h:lM m N A t){o:Nat->Rat}(an:∀j,j<=N->dX 100 (o j)){r k:Nat}(ai:r<m)(aX:k<N)(ag:t.T r k≠0)(cX:gU m m N A (t.cl r k)):IX m N t (t.cq m o) r k:=by
 have bF:=h.ss;have r8:(t.cl r k).D m A≠0:=by rw[h.ok.yI ai aX];grind
 have e5:(t.cl r k).D m A=t.T r k*t.D m A:=h.ok.yI ai aX;have i2:dX eS ((t.cl r k).D m A):=dX.mono (wz fun i ad c a2=>s.qX c a2 _ (Nat.le_of_lt (cX.jr i ad))) (Fb▸BL (by omega) s.hm)
 have zq : ∀i,i<m-> ∀j,j<=N->dX eS ((t.cl r k).T i j*(t.cl r k).D m A):=fun i ad j au=>by
  rw[<- cX.xe ad au];refine dX.mono (wz fun k aX c a2=> ?_) (Fb▸BL (by omega) s.hm);simp only[hp];split
  ·exact s.qX c a2 j au
  ·exact s.qX c a2 _ (Nat.le_of_lt (cX.jr k aX))
 have zC:dX (21*100*(eS*eS)) (t.D m A*(t.cl r k).D m A):=((h.zo s).mul i2).mono (by omega);have W0:t.D m A*(t.cl r k).D m A≠0:=by grind
 refine⟨fun i ad j au=>h.IY s ad au,fun i ad j au=>rZ i2 (zq i ad j au) r8 (by grind) (qE FE),fun i ad _ j au=> ?_,fun j au=>h.wO s an au,fun j au=> ?_,fun j au=> ?_⟩
 ·refine rZ zC (((h.uK s ad (Nat.le_of_lt aX)).mul (h.uK s ai au)).neg.mono (by omega)) W0 ?_ (qE (dE _));rw[e5];grind
 ·rw[<- h.ok.HS o ai aX ag];have g2:dX (21*100*eS) ((t.cl r k).cq m o j*(t.cl r k).D m A):=(by have hm:=s.hm;unfold bV.cq;have e:(o j-cv m (fun i=>o ((t.cl r k).B i)*(t.cl r k).T i j))*(t.cl r k).D m A=o j*(t.cl r k).D m A-cv m (fun i=>o ((t.cl r k).B i)*((t.cl r k).T i j*(t.cl r k).D m A)):=(by rw[gf (f:=fun i=>o ((t.cl r k).B i)*((t.cl r k).T i j*(t.cl r k).D m A)) (g:=fun i=>(o ((t.cl r k).B i)*(t.cl r k).T i j)*(t.cl r k).D m A) (fun i _=>by grind),vb];grind);rw[e];refine dX.mono (((an j au).mul i2).sub (dX.sum fun i ad=>(an _ (Nat.le_of_lt (cX.jr i ad))).mul (zq i ad j au))) ?_;have:m*(100*eS)<=20*(100*eS):=dL _ hm;omega);exact rZ (i2.mono (by omega)) g2 r8 (by grind) (qE wN)
 ·refine rZ zC (((h.WZ s an (Nat.le_of_lt aX)).mul (h.uK s ai au)).neg.mono (by
   rw[Nat.mul_assoc];exact dE _)) W0 ?_ (qE (dE _))
  rw[e5];grind
theorem T1 {p:iK}{m n:Nat}{a:Nat->Nat->Int}{b:Nat->Int}(h:lz p m n a b):
 Ba p=some (((n+m:Nat):Int),iq m (n+m),cR m (jx m n a b),hd (n+m) ((jx m n a b).cq m (gg m n)),gk m (n+m) (jx m n a b)):=by
 have hm:=h.hm;have aV:=h.aV;have gx:U (p.fk+p.gn)=((n+m:Nat):Int):=by rw[h.gQ,h.rows,<- Int.natCast_add,cT (by omega) (by omega)]
 unfold Ba;rw[gx]
 obtain⟨s1,e1,-⟩:=hU (f:=fun w:Int×List aE=>Ae p.gn p.fk p.d4 p.ee p.hg ((n+m:Nat):Int) w.1 w.2)
  (fun (k:Nat) (_:Unit)=>((k:Int),aO k fun j=>cb (0:Rat))) (n+m+1) (fun _ _=>True) (fun _=>aO (n+m+1) fun j=>cb (0:Rat))
  (fun k aX _ _=>by refine⟨(),?_,trivial⟩;unfold Ae;refine dv (by simp only;omega) (av (x:=cb (0:Rat)) (rT (n:=0) (by rw[k7];omega)) (bt (by simp only[dF,cm,List.length_cons,List.length_nil];omega) ?_));simp only;rw[fl (by omega),kW])
  (fun _ _=>by unfold Ae;exact ea (by simp only;omega) rfl) () trivial
 refine av (x:=aO (n+m+1) fun j=>cb (0:Rat)) (by unfold Qf;exact e1) ?_
 obtain⟨s2,e2,-⟩:=hU (f:=fun w:Int×(List bR)×(List (List aE))×ar×(List aE)=>z5 p.gn p.fk p.d4 p.ee p.hg ((n+m:Nat):Int) w.1 w.2.1 w.2.2.1 w.2.2.2.1 w.2.2.2.2)
  (fun (i:Nat) (_:Unit)=>((i:Int),aO i (fun k=>some (k,n+m+1)),aO i (hc (n+m) (jx m n a b)),aO i (fun k=>((n+k:Nat):Int)),aO (n+m+1) fun j=>cb (ir m n a b i j))) m (fun _ _=>True)
  (fun _=>(iq m (n+m),gk m (n+m) (jx m n a b),cR m (jx m n a b),aO (n+m+1) fun j=>cb (ir m n a b m j)))
  (fun i ad _ _=>by
    refine⟨(),?_,trivial⟩;have aU:=h.th i ad;have hlen:((aO (n+m) fun j=>cb (dh m n a b i j))++[cb (dh m n a b i (n+m))])=hc (n+m) (jx m n a b) i:=(kW ..).symm;have Gw:(hc (n+m) (jx m n a b) i).length=n+m+1:=cm ..;have hw:U (p.fk+(i:Int))=((n+i:Nat):Int):=(by rw[h.gQ,<- Int.natCast_add,cT (by omega) (by omega)]);have dt:(aO i (hc (n+m) (jx m n a b))++[hc (n+m) (jx m n a b) i])[i]? = some (hc (n+m) (jx m n a b) i):=(by rw[<- kW];exact f9 (by omega));have W1:(aO i (hc (n+m) (jx m n a b))).length=i:=cm ..;have sl:lr m n a b i (n+m)=k2 (b i)*b i:=by unfold lr;rw[dz (by omega),dw rfl]
    have fin:(some (Sum.inl (U ((i:Int)+1),(aO i (fun k=>(some (k,n+m+1):bR)))++[some (i,n+m+1)],aO i (hc (n+m) (jx m n a b))++[hc (n+m) (jx m n a b) i],(aO i fun k=>((n+k:Nat):Int))++[((n+i:Nat):Int)],aO (n+m+1) fun j=>cb (ir m n a b (i+1) j))):Option ((Int×(List bR)×(List (List aE))×ar×(List aE))⊕((List bR)×(List (List aE))×ar×(List aE)))) =
     some (Sum.inl (((i+1:Nat):Int),aO (i+1) (fun k=>some (k,n+m+1)),aO (i+1) (hc (n+m) (jx m n a b)),aO (i+1) (fun k=>((n+k:Nat):Int)),aO (n+m+1) fun j=>cb (ir m n a b (i+1) j))):=by
     rw[fl (by omega),kW i (fun k=>(some (k,n+m+1):bR)),kW i (hc (n+m) (jx m n a b)),kW i (fun k=>((n+k:Nat):Int))]
    unfold z5;refine dv (by simp only;rw[h.rows];omega) (bt (by simp only;rw[h.xf];omega) (av (x:=b i) (by simp only;rw[dx];exact h.FD i ad) (qm (fun c=> ?_) (fun c=> ?_))))
    ·have oX:b i<0:=of_decide_eq_true c;have bJ:k2 (b i) = -1:=(by unfold k2;rw[dw oX]);refine av (Ve h ad) ?_;have ai:=abG h ad oX ((n+m:Nat):Int) (aO i (fun k=>some (k,n+m+1))) (aO i (hc (n+m) (jx m n a b))) (aO i (fun k=>((n+k:Nat):Int))) (aO (n+m+1) fun j=>cb (ir m n a b i j));rw[dC,Option.bind_eq_some_iff] at ai;obtain⟨ct,jf,zi⟩:=ai;refine av jf (av zi (av (x:=cb (dh m n a b i (n+m))) (by have e:U ((-1:Int)*b i)=lr m n a b i (n+m):=(by rw[sl,bJ,cT (by omega) (by omega)]);rw[e];exact rT (by have:=vy h ad (n+m);rw[k7];omega)) ?_));simp only;rw[hlen,W1,Gw,hw];refine bt (by omega) (av dt (av (SS h ad _ _ _ dt) (bt (by simp only[dF,cm,List.length_cons,List.length_nil];omega) (bt (by simp only[dF,cm,List.length_cons,List.length_nil];omega) fin))))
    ·have oX : ¬b i<0:=of_decide_eq_false c;have bJ:k2 (b i)=1:=(by unfold k2;rw[dz oX]);refine av (Ve h ad) ?_;have ai:=abH h ad oX ((n+m:Nat):Int) (aO i (fun k=>some (k,n+m+1))) (aO i (hc (n+m) (jx m n a b))) (aO i (fun k=>((n+k:Nat):Int))) (aO (n+m+1) fun j=>cb (ir m n a b i j));rw[dC,Option.bind_eq_some_iff] at ai;obtain⟨ct,jf,zi⟩:=ai;refine av jf (av zi (av (x:=cb (dh m n a b i (n+m))) (by have e:U ((1:Int)*b i)=lr m n a b i (n+m):=(by rw[sl,bJ,cT (by omega) (by omega)]);rw[e];exact rT (by have:=vy h ad (n+m);rw[k7];omega)) ?_));simp only;rw[hlen,W1,Gw,hw];refine bt (by omega) (av dt (av (SS h ad _ _ _ dt) (bt (by simp only[dF,cm,List.length_cons,List.length_nil];omega) (bt (by simp only[dF,cm,List.length_cons,List.length_nil];omega) fin)))))
  (fun _ _=>by unfold z5;exact ea (by simp only;rw[h.rows];omega) rfl) () trivial
 have e0:(aO (n+m+1) fun j=>cb (ir m n a b 0 j))=aO (n+m+1) fun j=>cb (0:Rat):=eE fun j _=>by unfold ir;split<;>rfl
 rw[e0] at e2;refine av (x:=(iq m (n+m),gk m (n+m) (jx m n a b),cR m (jx m n a b),aO (n+m+1) fun j=>cb (ir m n a b m j))) (by unfold P3;exact e2) ?_;congr 1;refine Prod.ext rfl (Prod.ext rfl (Prod.ext rfl (Prod.ext ?_ rfl)));refine eE fun j au=> ?_;rw[ads];unfold ir gg;by_cases c:j<n\/j=n+m
 ·rw[dw c,dz (by omega)];congr 1;grind
 ·rw[dz c,dw (by omega)];obtain⟨k,rfl⟩ : ∃k,j=n+k:=⟨j-n,by omega⟩;rw[k6 (k:=k) (by omega) (fun i _ c9=>by rw[vn (by omega),dz (Ne.symm c9)]),vn (by omega),dw rfl,show (-1:Rat)+1=0 by grind]
theorem L2 (l:ar)(aS:l.length<=1000)(h:∀x∈l,-100<=x/\x<=100):xY l=some true:=by
 unfold xY RQ;rw[fU]
 obtain⟨s,e,-⟩:=hU (f:=fun w:Int=>AZ l (l.length:Nat) w) (fun (i:Nat) (_:Unit)=>(i:Int)) l.length (fun _ _=>True) (fun _=>(Sum.inl ():Unit⊕Unit))
  (fun i ad _ _=>by refine⟨(),?_,trivial⟩;have ab:=h l[i] (List.getElem_mem ad);unfold AZ;refine dv (by omega) (bt (by omega) (av (x:=l[i]) (by rw[dx];exact dy ad) (av (oQ _ _ _) (d9 (decide_eq_true (by omega)) ?_))));rw[fl (by omega)])
  (fun _ _=>by unfold AZ;exact ea (by omega) rfl) () trivial
 exact av e rfl
theorem abY {p:iK}{m n:Nat}{a:Nat->Nat->Int}{b:Nat->Int}(h:lz p m n a b)(JE:p.hg.length=n)(nN:∀x∈p.hg,-100<=x/\x<=100):DB p=some true:=by
 have hm:=h.hm;have aV:=h.aV;have w4:m*n<=20*40:=Nat.mul_le_mul hm aV
 have hA : ∀x∈p.d4,-100<=x/\x<=100:=fun x ab=>by
  obtain⟨k,aX,rfl⟩:=List.getElem_of_mem ab;rw[h.g9] at aX
  have FM:0<n:=by
   rcases Nat.eq_zero_or_pos n with c|c
   ·rw[c] at aX;omega
   ·exact c
  have h1:k / n<m:=Nat.div_lt_of_lt_mul (by rw[Nat.mul_comm];exact aX);have h2:k % n<n:=Nat.mod_lt _ FM;have R:=h.Cs (k / n) h1 (k % n) h2;have ah:k / n*n+k % n=k:=(by rw[Nat.mul_comm];exact Nat.div_add_mod k n);rw[ah,dy (by rw[h.g9];exact aX)] at R;rw[dI R];exact h.uR _ h1 _ h2
 have f6 : ∀x∈p.ee,-100<=x/\x<=100:=fun x ab=>by obtain⟨k,aX,rfl⟩:=List.getElem_of_mem ab;have R:=h.FD k (by rw[<- h.xf];exact aX);rw[dy aX] at R;rw[dI R];exact h.th _ (by rw[<- h.xf];exact aX)
 unfold DB;rw[h.rows,h.gQ];refine av (oQ _ _ _) (d9 (decide_eq_true (by omega)) (av (oQ _ _ _) (d9 (decide_eq_true (by omega)) ?_)));refine d9 (pD (by rw[fU,h.g9,<- Int.natCast_mul,cT (by omega) (by omega)])) (d9 (pD (by rw[fU,h.xf])) (d9 (pD (by rw[fU,JE])) ?_));exact av (L2 _ (by rw[h.g9];omega) hA) (d9 rfl (av (L2 _ (by rw[h.xf];omega) f6) (d9 rfl (av (L2 _ (by rw[JE];omega) nN) rfl))))
theorem ED (m n j:Nat):dX 100 (gg m n j):=by
 unfold gg;split
 ·exact⟨-1,rfl,by omega⟩
 ·exact⟨0,rfl,by omega⟩
theorem IZ {g:Nat->Rat}:iz 1 g↔0<g 0:=by
 constructor
 ·rintro⟨l,h1,h2,-⟩;rw[show l=0 by omega] at h2;exact h2
 ·intro h;exact⟨0,by omega,h,fun hD aS=>by omega⟩
theorem BG {p:iK}{m n:Nat}{a:Nat->Nat->Int}{b:Nat->Int}(h:lz p m n a b):Small m (n+m) (dh m n a b):=⟨h.hm,fun c a2 j _=>MP h a2 j⟩
theorem Tt {p:iK}{m n:Nat}{a:Nat->Nat->Int}{b:Nat->Int}(h:lz p m n a b):
 ∃t,ub false ((n+m:Nat):Int) (iq m (n+m)) (cR m (jx m n a b)) (hd (n+m) ((jx m n a b).cq m (gg m n))) (gk m (n+m) (jx m n a b))=some (true,cR m t,hd (n+m) (t.cq m (gg m n)),gk m (n+m) t) /\
  lM m (n+m) (dh m n a b) t/\(t.cq m (gg m n) (n+m)=0↔pv m n a b):=by
 have hm:=h.hm;have aV:=h.aV;have gA:=BG h
 obtain⟨q,t,e,cN,eJ⟩:=Vd (eQ:=m) (m:=m) (N:=n+m) (K:=1) (by omega) (by omega) (A:=dh m n a b) (obj:=fun _=>gg m n) false (lM m (n+m) (dh m n a b)) (fun t cj=>⟨cj.ok,cj.ld⟩) (fun t r s cj b=>cj.hY b)
  (fun t cj j au=>⟨jt (t.cq m (gg m n) j),afs (by omega) _ _ _ _ (by omega) (cj.wO gA (fun j _=>ED m n j) (by omega)),fun _=>by rw[sH];exact(IZ (g:=fun _=>t.cq m (gg m n) j)).symm⟩)
  (fun t cj i ad j au=>cj.IY gA ad au) (fun t cj i ad j au ag=>cj.V0 gA ad au ag)
  (fun t cj r k ai aX ag=>cj.FF gA (fun j _=>ED m n j) ai aX ag (cj.ok.cl ai aX ag)) (jx m n a b) ⟨Ur,Th,TR⟩
 rcases eJ with ⟨rfl,eJ⟩|⟨-,s,bJ,dt,hq⟩
 ·refine⟨t,e,cN,fun h0=>Sl cN.ok cN.ld (Lj cN.ld h0 cN.ok.jr),fun aiD=>SL cN.ok cN.ld (fun j au=> ?_) aiD⟩;have:=eJ j (by omega);have h2 : ¬0<t.cq m (gg m n) j:=fun c=>this (IZ.2 c);grind
 ·obtain⟨i,ad,ag⟩:=R0 cN.ok bJ (IZ.1 dt);exact(hq i ad ag).elim
theorem RO {p:iK}{m n:Nat}{a:Nat->Nat->Int}{b:Nat->Int}(h:lz p m n a b)(JE:p.hg.length=n)(nN:∀x∈p.hg,-100<=x/\x<=100): ∃r,xH p=some r/\(r=true↔pv m n a b):=by have hm:=h.hm;have aV:=h.aV;obtain⟨t,e,cN,bJ⟩:=Tt h;unfold xH;refine⟨_,av (abY h JE nN) (d9 rfl (av (T1 h) (av e (bt (by simp only;unfold hd;rw[cm];omega) (av (x:=cb (t.cq m (gg m n) (n+m))) (by simp only;rw[dx];exact hn (by omega)) (av (pg (cN.wO (BG h) (fun j _=>ED m n j) (dE _))) rfl)))))),?_⟩;rw[<- bJ,beq_iff_eq,oR]
def b8 (x:Rat):bx:=gC x.num
@[irreducible] def lC:Nat:=1000000000 ^ 40
theorem V1:((lC:Nat):Int)+((lC:Nat):Int)<B 50:=by decide +kernel
theorem MC {K:Nat}{x:Rat}(h:dX K x):((x.num:Int):Rat)=x/\x.num.natAbs<=K:=by obtain⟨z,rfl,cD⟩:=h;rw[Rat.num_intCast];exact⟨rfl,cD⟩
theorem qy (z:Int):b8 (z:Rat)=gC z:=by unfold b8;rw[Rat.num_intCast]
theorem B8 {x:Rat}(h:dX lC x):(L x.num.natAbs).length<=50:=by have:=V1;have h1:=(MC h).2;exact(hH (by omega)).2 (by omega)
theorem BO {x y:Rat}(ab:dX lC x)(aZ:dX lC y):qn (b8 x) (b8 y)=some (b8 (x*y)):=by have h1:=B8 ab;have h2:=B8 aZ;obtain⟨a,rfl,-⟩:=ab;obtain⟨b,rfl,-⟩:=aZ;rw[Rat.num_intCast] at h1 h2;rw[qy,qy,<- dN,qy];exact Tn (by omega) (by omega)
theorem T2 {x y:Rat}(ab:dX lC x)(aZ:dX lC y):xC (b8 x) (b8 y)=some (b8 (x-y)):=by have f6:=V1;obtain⟨a,rfl,bG⟩:=ab;obtain⟨b,rfl,aU⟩:=aZ;rw[qy,qy,<- Rat.intCast_sub,qy];exact adQ (by omega) (by omega)
theorem wy {x:Rat}(ab:dX lC x):qo (b8 x)=some (jt x):=by
 obtain⟨a,rfl,bG⟩:=ab;rw[qy];unfold qo jt;simp only[fU];have e:(((L a.natAbs).length:Nat):Int)=0↔a=0:=by rw[Cr (by omega)];omega
 show (if (((L a.natAbs).length:Int) == 0)=true then some 0 else if decide (a<0)=true then some (-1) else some 1)=_;by_cases h0:a=0
 ·rw[dw (by rw[beq_iff_eq,e];exact h0),dw (by rw[h0];rfl)]
 ·have aiE:(a:Rat)≠0:=fun c=>h0 (Rat.intCast_inj.1 (by rw[c];rfl))
  rw[dz (by rw[beq_iff_eq,e];exact h0),dz aiE];have e2:(a:Rat)<0↔a<0:=(by rw[show (0:Rat)=((0:Int):Rat) from rfl,Rat.intCast_lt_intCast]);by_cases h1:a<0
  ·rw[dw (decide_eq_true h1),dw (e2.2 h1)]
  ·rw[dz (by simpa using h1),dz (fun c=>h1 (e2.1 c))]
theorem ac3 {x y:Rat}(ab:dX lC x)(aZ:dX lC y):tZ (b8 x) (b8 y)=some (if x<y then -1 else if y<x then 1 else 0):=by have h1:=B8 ab;have h2:=B8 aZ;obtain⟨a,rfl,-⟩:=ab;obtain⟨b,rfl,-⟩:=aZ;rw[Rat.num_intCast] at h1 h2;rw[qy,qy,QM (by omega) (by omega)];unfold lx;simp only[Rat.intCast_lt_intCast]
theorem Sp {x:Rat}(ab:dX lC x):rH (b8 x)=some (b8 (-x)):=by obtain⟨a,rfl,-⟩:=ab;rw[qy,<- Rat.intCast_neg,qy];unfold rH;show (mR (!(decide (a<0))) (L a.natAbs)).bind _=_;rw[sF (by omega),Mz];rfl
theorem ve {n:Int}(h:m2 n):pR n=some (b8 (n:Rat)):=by rw[qy];exact SR h
theorem ac4 {x y:Rat}(ab:dX lC x)(aZ:dX lC y)(NE:dX lC (x*y))(h0:y≠0):wb (b8 (x*y)) (b8 y)=some (b8 x):=by
 have h1:=B8 NE;have h2:=B8 aZ;obtain⟨a,rfl,-⟩:=ab;obtain⟨b,rfl,-⟩:=aZ;rw[<- dN] at h1 ⊢;rw[Rat.num_intCast] at h1 h2;have aU:b≠0:=fun c=>h0 (by rw[c];rfl);rw[qy,qy,qy];unfold wb;show (vg (L (a*b).natAbs) (L b.natAbs)).bind _=_;rw[Ic (ix _) (ix _) (fun c=>by have:=sT.1 c;omega) (by omega) (by omega),eo (by omega),eo (by omega)];have e1:((a*b).natAbs:Int) / (b.natAbs:Int)=(a.natAbs:Int):=by rw[Int.natAbs_mul,Int.natCast_mul];exact Int.mul_ediv_cancel _ (by omega)
 simp only[dA];rw[e1];show (mR (!(decide (a*b<0) == decide (b<0))) (L a.natAbs)).bind _=_;rw[sF (by omega)];simp only[dA];congr 2;rcases Int.lt_or_gt_of_ne aU with c|c
 ·by_cases bG:a<0
  ·have : ¬a*b<0:=(by have:=Int.mul_pos_of_neg_of_neg bG c;omega);rw[decide_eq_false this,decide_eq_true c];simp only[eK,show (!(false == true))=true from rfl,if_true];omega
  ·by_cases cD:a=0
   ·subst cD;simp[eK]
   ·have:a*b<0:=Int.mul_neg_of_pos_of_neg (by omega) c;rw[decide_eq_true this,decide_eq_true c];simp only[eK,BEq.rfl,Bool.not_true,Bool.false_eq_true,if_false];omega
 ·by_cases bG:a<0
  ·have:a*b<0:=Int.mul_neg_of_neg_of_pos bG c;rw[decide_eq_true this,decide_eq_false (by omega)];simp only[eK,show (!(true == false))=true from rfl,if_true];omega
  ·have : ¬a*b<0:=(by have:=Int.mul_nonneg (show 0<=a by omega) (show 0<=b by omega);omega);rw[decide_eq_false this,decide_eq_false (by omega)];simp only[eK,BEq.rfl,Bool.not_true,Bool.false_eq_true,if_false];omega
def ie (N:Nat)(w:Rat)(t:bV)(i:Nat):List bx:=aO (N+1) fun j=>b8 (t.T i j*w)
structure p6 (m N:Nat) (w:Rat) (t:bV):Prop where
 pos:0<w
 hw:dX (21*100*eS) w
 h3 : ∀i,i<m-> ∀j,j<=N->dX eS (t.T i j*w)
 f6 : ∀i,i<m->t.B i<N
theorem Fc:21*100*eS*(21*100*eS)+21*100*eS*(21*100*eS)<=lC:=by decide +kernel
theorem ahp {q i:Nat}(a4:0<q)(ad:i<=20):21*100*q*100+i*(q*100)<=21*100*q*(21*100*q):=by have h1:i*(q*100)<=20*(q*100):=dL _ ad;have h2:21*100*q*2100<=21*100*q*(21*100*q):=Nat.mul_le_mul_left _ (by omega);generalize 21*100*q*(21*100*q)=z at *;omega
theorem ahq {i:Nat}(ad:i<=20):21*100*eS*100+i*(eS*100)<=lC :=
 Nat.le_trans (ahp sO ad) (Nat.le_trans (Nat.le_add_right _ _) Fc)
theorem vF {K:Nat}(h:K<=21*100*eS):K<=lC:=by have aiF:=Fc;have h1:21*100*eS*1<=21*100*eS*(21*100*eS):=Nat.mul_le_mul_left _ (by have:=sO;generalize eS=q at *;omega);rw[Nat.mul_one] at h1;exact Nat.le_trans h (Nat.le_trans h1 (Nat.le_trans (Nat.le_add_right _ _) aiF))
theorem Uz {m N:Nat}(hm:m<=20)(gx:N<1000){w:Rat}{t:bV}(h:p6 m N w t)(o:Nat->Int)(an:∀j,j<N-> -100<=o j/\o j<=100)(j2:bx)(Cu:j2=b8 w)(gQ:Int)(free:List Bool){k:Nat}(aX:k<N):
 A6 ⟨aO m (ie N w t),j2,cR m t,gQ,free⟩ (aO N o) (k:Int)=some (jt (t.cq m (fun j=>(o j:Rat)) k)):=by
 subst Cu;have ale:=sO;have small : ∀ {x:Rat} {K:Nat},dX K x->K<=21*100*eS->dX lC x:=fun h1 h2=>h1.mono (vF h2);have ak : ∀j,j<N->dX 100 ((o j:Int):Rat):=fun j au=>⟨o j,rfl,by have:=an j au;omega⟩;have W2 : ∀j,j<N->m2 (o j):=fun j au=>by have:=an j au;rw[k7];omega
 let S:Nat->Rat:=fun i=>w*(o k:Rat)-cv i (fun i=>(t.T i k*w)*(o (t.B i):Rat))
 have uS : ∀i,i<=m->dX lC (S i):=fun i ad=>by have e1:dX (21*100*eS*100) (w*(o k:Rat)):=h.hw.mul (ak k aX);have e2:dX (i*(eS*100)) (cv i (fun i=>(t.T i k*w)*(o (t.B i):Rat))):=dX.sum fun fo lO=>(h.h3 fo (by omega) k (by omega)).mul (ak _ (h.f6 fo (by omega)));exact(e1.sub e2).mono (ahq (by omega))
 unfold A6;refine bt (by rw[cm];omega) (av (x:=o k) (by rw[dx];exact f9 aX) (av (ve (W2 k aX)) (av (BO (small h.hw (dE _)) (small (ak k aX) (by omega))) ?_)))
 obtain⟨s,e,-⟩:=hU (f:=fun q:Int×Bool×ar=>z2 (aO m (ie N w t)) (b8 w).cz (b8 w).b9 (cR m t) gQ free (aO N o) (k:Int) ((m:Nat):Int) q.1 q.2.1 q.2.2)
  (fun (i:Nat) (_:Unit)=>((i:Int),(b8 (S i)).cz,(b8 (S i)).b9)) m (fun _ _=>True) (fun _=>((b8 (S m)).cz,(b8 (S m)).b9))
  (fun i ad _ _=>by
    refine⟨(),?_,trivial⟩;have Jy:=h.f6 i ad;have Gx:S (i+1)=S i-(t.T i k*w)*(o (t.B i):Rat):=(by simp only[S,cv];grind);unfold z2;refine dv (by simp only;omega) (bt (by unfold cR;rw[cm];simp only;omega) (av (x:=((t.B i:Nat):Int)) (by simp only;rw[dx];exact f9 ad) (bt (by rw[cm];omega) (av (x:=o (t.B i)) (by rw[dx];exact f9 Jy) (qm (fun c=> ?_) (fun c=> ?_))))))
    ·refine bt (by rw[cm];simp only;omega) (av (x:=ie N w t i) (by simp only;rw[dx];exact f9 ad) (bt (by unfold ie;rw[cm];omega) (av (x:=b8 (t.T i k*w)) (by rw[dx];exact f9 (by omega)) (av (wy (small (h.h3 i ad k (by omega)) (by omega))) (qm (fun cr=> ?_) (fun cr=> ?_))))))
     ·refine av (ve (W2 _ Jy)) (av (BO (small (h.h3 i ad k (by omega)) (by omega)) (small (ak _ Jy) (by omega))) (av (T2 (uS i (by omega)) (by
       exact small ((h.h3 i ad k (by omega)).mul (ak _ Jy)) (by omega))) ?_))
      simp only;rw[fl (by omega),Gx]
     ·have cD:t.T i k*w=0:=oR.1 (by simpa using cr);simp only;rw[fl (by omega),Gx,cD,show S i-0*(o (t.B i):Rat)=S i by grind]
    ·have cD:o (t.B i)=0:=(by simpa using c);simp only;rw[fl (by omega),Gx,cD,show S i-t.T i k*w*((0:Int):Rat)=S i by rw[show ((0:Int):Rat)=0 from rfl];grind])
  (fun _ _=>by unfold z2;exact ea (by simp) rfl) () trivial
 have e0:S 0=w*(o k:Rat):=by simp only[S,cv];grind
 rw[e0] at e;refine av (x:=((b8 (S m)).cz,(b8 (S m)).b9)) (by unfold P0;rw[fU,show (cR m t).length=m from cm ..];exact e) (av (x:=jt (S m)) (wy (uS m (dE _))) ?_);congr 1;have e2:S m=w*t.cq m (fun j=>(o j:Rat)) k:=by simp only[S];unfold bV.cq;rw[gf (f:=fun i=>t.T i k*w*(o (t.B i):Rat)) (g:=fun i=>w*((o (t.B i):Rat)*t.T i k)) (fun i _=>by grind),jK];grind
 rw[e2];have ag:=h.pos;unfold jt;by_cases c:t.cq m (fun j=>(o j:Rat)) k=0
 ·rw[dw c,dw (by rw[c];grind)]
 ·rw[dz c,dz (by grind)]
  by_cases cr:t.cq m (fun j=>(o j:Rat)) k<0
  ·rw[dw cr,dw];have:=Rat.mul_pos ag (show 0 < -(t.cq m (fun j=>(o j:Rat)) k) by grind);grind
  ·rw[dz cr,dz];have:=Rat.mul_pos ag (show 0<t.cq m (fun j=>(o j:Rat)) k by grind);grind
theorem T3 {x y z v w:Rat}(hw:0<w)(aZ:0<y)(bc:0<v):(x*w)*(v*w)<(z*w)*(y*w)↔x / y<z / v:=by
 have e1:(x*w)*(v*w)=(x / y)*((y*v)*(w*w)):=by grind
 have e2:(z*w)*(y*w)=(z / v)*((y*v)*(w*w)):=by grind
 have ag:0<(y*v)*(w*w):=Rat.mul_pos (Rat.mul_pos aZ bc) (Rat.mul_pos hw hw);rw[e1,e2];constructor
 ·intro h;apply Classical.byContradiction;intro c;have:z / v<=x / y:=(by grind);have:=Rat.mul_le_mul_of_nonneg_right this (Rat.le_of_lt ag);grind
 ·intro h;exact Rat.mul_lt_mul_of_pos_right h ag
theorem BX {x w:Rat}(hw:0<w):jt (x*w)=jt x:=by
 unfold jt;by_cases c:x=0
 ·rw[dw c,dw (by rw[c];grind)]
 ·rw[dz c,dz (by grind)]
  by_cases cr:x<0
  ·rw[dw cr,dw];have:=Rat.mul_pos (show 0 < -x by grind) hw;grind
  ·rw[dz cr,dz];have:=Rat.mul_pos (show 0<x by grind) hw;grind
theorem ac5 {m N:Nat}(hm:m<=20)(gx:N<1000){w:Rat}{t:bV}(h:p6 m N w t)(j2:bx)(free:List Bool){k:Nat}(aX:k<=N):
 ∃r,Dg ⟨aO m (ie N w t),j2,cR m t,(N:Int),free⟩ (k:Int)=some r/\Ih m N t k r:=by
 have hw:=h.pos;have pL : ∀i,i<m-> ∀j,j<=N->dX lC (t.T i j*w):=fun i ad j au=>(h.h3 i ad j au).mono (vF (by have:=sO;generalize eS=q at *;omega));have GM : ∀i,i<m-> ∀j,j<=N-> ∀fo,fo<m-> ∀i9,i9<=N->dX lC (t.T i j*w*(t.T fo i9*w)):=fun i ad j au fo lO i9 uF=>((h.h3 i ad j au).mul (h.h3 fo lO i9 uF)).mono (by refine Nat.le_trans ?_ (Nat.le_trans (Nat.le_add_right _ _) Fc);exact Nat.mul_le_mul (by generalize eS=q;omega) (by generalize eS=q;omega));unfold Dg
 obtain⟨r,e,ai⟩:=ra (f:=fun q:Int×Int=>zR (aO m (ie N w t)) j2.cz j2.b9 (cR m t) (N:Int) free (k:Int) ((m:Nat):Int) q.1 q.2)
  (fun (i:Nat) (s:Int)=>(s,(i:Int))) m
  (fun n s=>(s = -1/\ ∀i,i<n-> ¬0<t.T i k)\/ ∃b:Nat,s=b/\b<n/\0<t.T b k/\ ∀i,i<n->0<t.T i k->t.T b N / t.T b k<t.T i N / t.T i k\/(t.T b N / t.T b k=t.T i N / t.T i k/\t.B b<=t.B i))
  (fun r=>Ih m N t k r)
  (fun n aV s cN=>by
    left;unfold zR;have g1:0<=((n:Nat):Int)/\((n:Nat):Int)<((aO m (ie N w t)).length:Nat):=(by rw[cm];omega);have g2:(aO m (ie N w t))[((n:Nat):Int).toNat]? = some (ie N w t n):=(by rw[dx];exact f9 aV);have g3 : ∀b,0<=((k:Nat):Int)/\((k:Nat):Int)<((ie N w t b).length:Nat):=fun b=>(by unfold ie;rw[cm];omega);have g4 : ∀b,(ie N w t b)[((k:Nat):Int).toNat]? = some (b8 (t.T b k*w)):=fun b=>(by rw[dx];exact f9 (by omega));have g5 : ∀b,0<=((N:Nat):Int)/\((N:Nat):Int)<((ie N w t b).length:Nat):=fun b=>(by unfold ie;rw[cm];omega);have g6 : ∀b,(ie N w t b)[((N:Nat):Int).toNat]? = some (b8 (t.T b N*w)):=fun b=>(by rw[dx];exact f9 (by omega));have iT:U ((n:Int)+1)=((n+1:Nat):Int):=fl (by omega);have se:qo (b8 (t.T n k*w))=some (jt (t.T n k)):=(by rw[wy (pL n aV k aX),BX hw]);by_cases ag:0<t.T n k
    ·have bJ : ¬jt (t.T n k)<=0:=by have:=sH.2 ag;omega
     rcases cN with ⟨h1,h2⟩|⟨b,h1,aU,kG,R⟩
     ·refine⟨(n:Int),dv (by simp only;omega) (bt g1 (av g2 (bt (g3 n) (av (g4 n) (av se (ea bJ (dv (by simp only;omega) ?_))))))),.inr ⟨n,rfl,by omega,ag,fun i ad jh=> ?_⟩⟩
      ·simp only;rw[iT]
      ·by_cases c:i=n
       ·subst c;exact .inr ⟨rfl,dE _⟩
       ·exact(h2 i (by omega) jh).elim
     ·subst h1
      have Jv:0<=((b:Nat):Int)/\((b:Nat):Int)<((aO m (ie N w t)).length:Nat):=(by rw[cm];omega);have Jw:(aO m (ie N w t))[((b:Nat):Int).toNat]? = some (ie N w t b):=by rw[dx];exact f9 (by omega)
      have gc:tZ (b8 (t.T n N*w*(t.T b k*w))) (b8 (t.T b N*w*(t.T n k*w)))=some (if t.T n N / t.T n k<t.T b N / t.T b k then -1 else if t.T b N / t.T b k<t.T n N / t.T n k then 1 else 0):=by
       rw[ac3 (GM n aV N (by omega) b (by omega) k aX) (GM b (by omega) N (by omega) n aV k aX)];have r1:=T3 (x:=t.T n N) (y:=t.T n k) (z:=t.T b N) (v:=t.T b k) hw ag kG;have r2:=T3 (x:=t.T b N) (y:=t.T b k) (z:=t.T n N) (v:=t.T n k) hw kG ag;by_cases bl:t.T n N / t.T n k<t.T b N / t.T b k
       ·rw[dw bl,dw (r1.2 bl)]
       ·rw[dz bl,dz (fun c=>bl (r1.1 c))]
        by_cases cr:t.T b N / t.T b k<t.T n N / t.T n k
        ·rw[dw cr,dw (r2.2 cr)]
        ·rw[dz cr,dz (fun c=>cr (r2.1 c))]
      have lead : ∀ {x r:Option ((Int×Int)⊕Int)} {f:Int->Option ((Int×Int)⊕Int)} {q:Int},tZ (b8 (t.T n N*w*(t.T b k*w))) (b8 (t.T b N*w*(t.T n k*w)))=some q->f q=r ->
       (if 0<=((N:Nat):Int)/\((N:Nat):Int)<((ie N w t n).length:Nat) then
         (ie N w t n)[((N:Nat):Int).toNat]? >>= fun oF =>
         if 0<=((b:Nat):Int)/\((b:Nat):Int)<((aO m (ie N w t)).length:Nat) then
         (aO m (ie N w t))[((b:Nat):Int).toNat]? >>= fun n3 =>
         if 0<=((k:Nat):Int)/\((k:Nat):Int)<(n3.length:Nat) then
         n3[((k:Nat):Int).toNat]? >>= fun tO =>
         qn oF tO >>= fun mK =>
         if 0<=((N:Nat):Int)/\((N:Nat):Int)<(n3.length:Nat) then
         n3[((N:Nat):Int).toNat]? >>= fun vQ =>
         qn vQ (b8 (t.T n k*w)) >>= fun pG =>
         tZ mK pG >>= f
         else none else none else none else none)=r:=fun a4 cp =>
       bt (g5 n) (av (g6 n) (bt Jv (av Jw (bt (g3 b) (av (g4 b) (av (BO (pL n aV N (by omega)) (pL b (by omega) k aX)) (bt (g5 b) (av (g6 b) (av (BO (pL b (by omega) N (by omega)) (pL n aV k aX)) (av a4 cp))))))))))
      by_cases bl:t.T n N / t.T n k<t.T b N / t.T b k
      ·rw[dw bl] at gc
       refine⟨(n:Int),dv (by simp only;omega) (bt g1 (av g2 (bt (g3 n) (av (g4 n) (av se (ea bJ (ea (by simp only;omega) (lead (x:=none) gc (dv (by omega) ?_))))))))),.inr ⟨n,rfl,by omega,ag,fun i ad jh=> ?_⟩⟩
       ·simp only;rw[iT]
       ·by_cases c:i=n
        ·subst c;exact .inr ⟨rfl,dE _⟩
        ·rcases R i (by omega) jh with h|⟨h,-⟩
         ·left;grind
         ·left;rw[<- h];exact bl
      ·rw[dz bl] at gc
       by_cases cr:t.T b N / t.T b k<t.T n N / t.T n k
       ·rw[dw cr] at gc
        refine⟨(b:Int),dv (by simp only;omega) (bt g1 (av g2 (bt (g3 n) (av (g4 n) (av se (ea bJ (ea (by simp only;omega) (lead (x:=none) gc (ea (by omega) (e3 (by decide) ?_)))))))))),.inr ⟨b,rfl,by omega,kG,fun i ad jh=> ?_⟩⟩
        ·simp only;rw[iT]
        ·by_cases c:i=n
         ·subst c;exact .inl cr
         ·exact R i (by omega) jh
       ·rw[dz cr] at gc
        have N4:t.T b N / t.T b k=t.T n N / t.T n k:=(by grind);have W3:0<=((n:Nat):Int)/\((n:Nat):Int)<((cR m t).length:Nat):=(by unfold cR;rw[cm];omega);have W4:(cR m t)[((n:Nat):Int).toNat]? = some ((t.B n:Nat):Int):=(by rw[dx];exact f9 aV);have W5:0<=((b:Nat):Int)/\((b:Nat):Int)<((cR m t).length:Nat):=(by unfold cR;rw[cm];omega);have W6:(cR m t)[((b:Nat):Int).toNat]? = some ((t.B b:Nat):Int):=(by rw[dx];exact f9 (by omega));by_cases ku:t.B n<t.B b
        ·refine⟨(n:Int),dv (by simp only;omega) (bt g1 (av g2 (bt (g3 n) (av (g4 n) (av se (ea bJ (ea (by simp only;omega) (lead (x:=none) gc (ea (by omega) (d9 rfl (bt W3 (av W4 (bt W5 (av W6 (dv (by omega) ?_))))))))))))))),.inr ⟨n,rfl,by omega,ag,fun i ad jh=> ?_⟩⟩
         ·simp only;rw[iT]
         ·by_cases c:i=n
          ·subst c;exact .inr ⟨rfl,dE _⟩
          ·rcases R i (by omega) jh with h|⟨h,cX⟩
           ·left;grind
           ·right;exact⟨by grind,by omega⟩
        ·refine⟨(b:Int),dv (by simp only;omega) (bt g1 (av g2 (bt (g3 n) (av (g4 n) (av se (ea bJ (ea (by simp only;omega) (lead (x:=none) gc (ea (by omega) (d9 rfl (bt W3 (av W4 (bt W5 (av W6 (ea (by omega) ?_))))))))))))))),.inr ⟨b,rfl,by omega,kG,fun i ad jh=> ?_⟩⟩
         ·simp only;rw[iT]
         ·by_cases c:i=n
          ·subst c;exact .inr ⟨N4,by omega⟩
          ·exact R i (by omega) jh
    ·have bJ:jt (t.T n k)<=0:=by
      have : ¬0<jt (t.T n k):=fun c=>ag (sH.1 c);omega
     refine⟨s,dv (by simp only;omega) (bt g1 (av g2 (bt (g3 n) (av (g4 n) (av se (dv bJ ?_)))))),?_⟩
     ·simp only;rw[iT]
     ·rcases cN with ⟨h1,h2⟩|⟨b,h1,aU,kG,R⟩
      ·exact .inl ⟨h1,fun i ad=>if c:i=n then c▸ag else h2 i (by omega)⟩
      ·exact .inr ⟨b,h1,by omega,kG,fun i ad jh=>if c:i=n then (ag (c▸jh)).elim else R i (by omega) jh⟩)
  (fun s cN=>by
    refine⟨s,by unfold zR;exact ea (by simp only;omega) rfl,?_⟩;rcases cN with ⟨h1,h2⟩|⟨b,h1,aU,kG,R⟩
    ·exact .inl ⟨h1,h2⟩
    ·refine .inr ⟨b,h1,aU,kG,fun i ad jh=> ?_,fun i ad jh he=> ?_⟩
     ·rw[<- (HW kG jh).1]
      rcases R i ad jh with h|⟨h,-⟩
      ·exact Rat.le_of_lt h
      ·rw[h];exact Rat.le_refl
     ·rw[<- (HW kG jh).2] at he
      rcases R i ad jh with h|⟨-,h⟩
      ·rw[he] at h;grind
      ·exact h) (-1:Int) (.inl ⟨rfl,fun i ad=>by omega⟩)
 refine⟨r,av ?_ rfl,ai⟩;unfold Pk;rw[fH,cm];exact e
def hN (m N:Nat)(h:Nat->Nat):List bR:=aO m fun i=>some (h i,N+1)
structure l5 (m N M:Nat) (h:Nat->Nat) (w:Rat) (t:bV) (eO:List (List bx)):Prop where
 len:eO.length=M
 row : ∀i,i<m->eO[h i]? = some (ie N w t i)
theorem Hn {α:Type}{l:List α}{i:Nat}{x y:α}(h:l[i]? = some x):(l.set i y)[i]? = some y:=by rw[List.getElem?_set,dw rfl,dw (List.getElem?_eq_some_iff.1 h).1]
theorem Ly {α:Type}{l:List α}{i k:Nat}{y:α}(h:i≠k):(l.set i y)[k]? = l[k]? := by rw[List.getElem?_set,dz h]
theorem set_set {α:Type}(l:List α)(i:Nat)(x y:α):(l.set i x).set i y=l.set i y:=by rw[List.set_set]
structure vG (m N:Nat) (w:Rat) (t:bV) (r k:Nat):Prop where
 ai:r<m
 aX:k<N
 ag:t.T r k≠0
 CU : ∀i,i<m-> ∀j,j<=N->dX eS ((t.cl r k).T i j*(t.T r k*w))
theorem aeR {m N:Nat}(gx:N<1000){h:Nat->Nat}{w:Rat}{t:bV}{r k:Nat}(f:p6 m N w t)(g:vG m N w t r k){i:Nat}(ad:i<m)(CT:i≠r)(c9:h i≠h r){eO:List (List bx)}(h1:eO[h i]? = some (ie N w t i))(h2:eO[h r]? = some (ie N w t r))
 (x1 x2:Int) (az:Int) (q1:List bR) (q2:ar) (bN:List Bool) (v1 v2:Int) :
 JU v1 v2 (some (h r,N+1)) (some (h i,N+1)) x1 x2 (((N+1:Nat):Nat):Int) (b8 w).cz (b8 w).b9 az q1 q2 bN (b8 (t.T r k*w)).cz (b8 (t.T r k*w)).b9 (b8 (t.T i k*w)).cz (b8 (t.T i k*w)).b9 0 eO=some (eO.set (h i) (ie N (t.T r k*w) (t.cl r k) i)):=by
 have hw:=f.pos;have pL : ∀i,i<m-> ∀j,j<=N->dX lC (t.T i j*w):=fun i ad j au=>(f.h3 i ad j au).mono (vF (by have:=sO;generalize eS=q at *;omega));have ajl:dX lC w:=f.hw.mono (vF (dE _));have ajm : ∀i,i<m-> ∀j,j<=N->dX lC ((t.cl r k).T i j*(t.T r k*w)):=fun i ad j au=>(g.CU i ad j au).mono (vF (by have:=sO;generalize eS=q at *;omega));have GM : ∀i,i<m-> ∀j,j<=N-> ∀fo,fo<m-> ∀i9,i9<=N->dX lC (t.T i j*w*(t.T fo i9*w)):=fun i ad j au fo lO i9 uF=>((f.h3 i ad j au).mul (f.h3 fo lO i9 uF)).mono (by refine Nat.le_trans ?_ (Nat.le_trans (Nat.le_add_right _ _) Fc);exact Nat.mul_le_mul (by generalize eS=q;omega) (by generalize eS=q;omega));have aiG : ∀j,j<=N->dX lC ((t.cl r k).T i j*(t.T r k*w)*w):=fun j au=>((g.CU i ad j au).mul f.hw).mono (by refine Nat.le_trans ?_ (Nat.le_trans (Nat.le_add_right _ _) Fc);exact Nat.mul_le_mul (by generalize eS=q;omega) (dE _));have ai:=g.ai;have aX:=g.aX;have ag:=g.ag;have v5 : ∀j,(t.cl r k).T i j=t.T i j-t.T i k*(t.T r j / t.T r k):=fun j=>by simp[bV.cl,CT]
 have Nj:w≠0:=by grind
 unfold JU
 obtain⟨s,e,-⟩:=hU (f:=fun q:Int×List (List bx)=>zS v1 v2 (some (h r,N+1)) (some (h i,N+1)) x1 x2 (((N+1:Nat):Nat):Int) (b8 w).cz (b8 w).b9 az q1 q2 bN (b8 (t.T r k*w)).cz (b8 (t.T r k*w)).b9 (b8 (t.T i k*w)).cz (b8 (t.T i k*w)).b9 q.1 q.2)
  (fun (c:Nat) (_:Unit)=>((c:Int),eO.set (h i) (aO (N+1) fun j=>if j<c then b8 ((t.cl r k).T i j*(t.T r k*w)) else b8 (t.T i j*w)))) (N+1) (fun _ _=>True)
  (fun _=>eO.set (h i) (ie N (t.T r k*w) (t.cl r k) i))
  (fun c a2 _ _=>by
    refine⟨(),?_,trivial⟩
    have fin:(some (Sum.inl (U ((c:Int)+1),(eO.set (h i) (aO (N+1) fun j=>if j<c then b8 ((t.cl r k).T i j*(t.T r k*w)) else b8 (t.T i j*w))).set (h i) ((aO (N+1) fun j=>if j<c then b8 ((t.cl r k).T i j*(t.T r k*w)) else b8 (t.T i j*w)).set (0+((c:Int)).toNat) (b8 ((t.cl r k).T i c*(t.T r k*w)))))):Option ((Int×List (List bx))⊕List (List bx))) =
     some (Sum.inl (((c+1:Nat):Int),eO.set (h i) (aO (N+1) fun j=>if j<c+1 then b8 ((t.cl r k).T i j*(t.T r k*w)) else b8 (t.T i j*w)))):=by
     rw[fl (by omega),dx,dG,set_set,kJ];congr 4;refine eE fun j _=> ?_;by_cases bl:j=c
     ·subst bl;rw[dw rfl,dw (by omega)]
     ·rw[dz bl]
      by_cases cr:j<c
      ·rw[dw cr,dw (by omega)]
      ·rw[dz cr,dz (by omega)]
    have ja:wb (b8 ((t.cl r k).T i c*(t.T r k*w)*w)) (b8 w)=some (b8 ((t.cl r k).T i c*(t.T r k*w))):=ac4 (ajm i ad c (by omega)) ajl (aiG c (by omega)) Nj;unfold zS;refine dv (by simp only;omega) (av (x:=(h i,N+1)) rfl (av (x:=aO (N+1) fun j=>if j<c then b8 ((t.cl r k).T i j*(t.T r k*w)) else b8 (t.T i j*w)) (by simp only;exact Hn h1) (bt (by simp only;omega) (av (x:=b8 (t.T i c*w)) (by simp only;rw[dx,hn a2,dz (by omega)]) ?_))));refine av (BO (pL i ad c (by omega)) (pL r ai k (by omega))) (av (wy (pL i ad k (by omega))) (qm (fun d=> ?_) (fun d=> ?_)))
    ·refine av (x:=(h r,N+1)) rfl (av (x:=ie N w t r) (by simp only;rw[Ly c9];exact h2) (bt (by simp only;omega) (av (x:=b8 (t.T r c*w)) (by simp only;rw[dx];exact hn a2) (av (wy (pL r ai c (by omega))) (qm (fun d2=> ?_) (fun d2=> ?_))))))
     ·refine av (BO (pL i ad k (by omega)) (pL r ai c (by omega))) (av (T2 (GM i ad c (by omega) r ai k (by omega)) (GM i ad k (by omega) r ai c (by omega))) (av ?_ fin));rw[show t.T i c*w*(t.T r k*w)-t.T i k*w*(t.T r c*w)=(t.cl r k).T i c*(t.T r k*w)*w by rw[v5];grind];exact ja
     ·have cD:t.T r c=0:=(by have:=oR.1 (by simpa using d2);grind);refine av ?_ fin;rw[show t.T i c*w*(t.T r k*w)=(t.cl r k).T i c*(t.T r k*w)*w by rw[v5,cD];grind];exact ja
    ·have cD:t.T i k=0:=(by have:=oR.1 (by simpa using d);grind);refine av ?_ fin;rw[show t.T i c*w*(t.T r k*w)=(t.cl r k).T i c*(t.T r k*w)*w by rw[v5,cD];grind];exact ja)
  (fun _ _=>by unfold zS;refine ea (by simp) ?_;simp only;congr 3;exact eE fun j au=>by rw[dw au]) () trivial
 have e0:eO.set (h i) (aO (N+1) fun j=>if j<0 then b8 ((t.cl r k).T i j*(t.T r k*w)) else b8 (t.T i j*w))=eO:=by
  have:(aO (N+1) fun j=>if j<0 then b8 ((t.cl r k).T i j*(t.T r k*w)) else b8 (t.T i j*w))=ie N w t i:=eE fun j _=>(by rw[dz (by omega)]);rw[this];apply List.ext_getElem?;intro c;rw[List.getElem?_set];split
  ·rename_i e;subst e;rw[dw (List.getElem?_eq_some_iff.1 h1).1,h1]
  ·rfl
 rw[e0] at e;exact e
theorem aeS {m N:Nat}(gx:N<1000){h:Nat->Nat}{w:Rat}{t:bV}(h3:∀i,i<m-> ∀j,j<=N->dX eS (t.T i j*w)){i:Nat}(ad:i<m){eO:List (List bx)}(h1:eO[h i]? = some (ie N w t i))
 (x1 x2:Int) (iX:Bool) (j6:ar) (az:Int) (q1:List bR) (q2:ar) (bN:List Bool) :
 JW (some (h i,N+1)) x1 x2 (((N+1:Nat):Nat):Int) iX j6 az q1 q2 bN 0 eO=some (eO.set (h i) (ie N (-w) t i)):=by
 have pL : ∀j,j<=N->dX lC (t.T i j*w):=fun j au=>(h3 i ad j au).mono (vF (by have:=sO;generalize eS=q at *;omega));unfold JW
 obtain⟨s,e,-⟩:=hU (f:=fun q:Int×List (List bx)=>zU (some (h i,N+1)) x1 x2 (((N+1:Nat):Nat):Int) iX j6 az q1 q2 bN q.1 q.2)
  (fun (c:Nat) (_:Unit)=>((c:Int),eO.set (h i) (aO (N+1) fun j=>if j<c then b8 (t.T i j * -w) else b8 (t.T i j*w)))) (N+1) (fun _ _=>True)
  (fun _=>eO.set (h i) (ie N (-w) t i))
  (fun c a2 _ _=>by
    refine⟨(),?_,trivial⟩;unfold zU;refine dv (by simp only;omega) (av (x:=(h i,N+1)) rfl (av (x:=aO (N+1) fun j=>if j<c then b8 (t.T i j * -w) else b8 (t.T i j*w)) (by simp only;exact Hn h1) (bt (by simp only;omega) (av (x:=b8 (t.T i c*w)) (by simp only;rw[dx,hn a2,dz (by omega)]) (av (Sp (pL c (by omega))) ?_)))));simp only;rw[fl (by omega),dx,dG,set_set,kJ];congr 4;refine eE fun j _=> ?_;by_cases bl:j=c
    ·subst bl;rw[dw rfl,dw (by omega)];congr 1;grind
    ·rw[dz bl]
     by_cases cr:j<c
     ·rw[dw cr,dw (by omega)]
     ·rw[dz cr,dz (by omega)])
  (fun _ _=>by unfold zU;refine ea (by simp) ?_;simp only;congr 3;exact eE fun j au=>by rw[dw au]) () trivial
 have e0:eO.set (h i) (aO (N+1) fun j=>if j<0 then b8 (t.T i j * -w) else b8 (t.T i j*w))=eO:=by
  have:(aO (N+1) fun j=>if j<0 then b8 (t.T i j * -w) else b8 (t.T i j*w))=ie N w t i:=eE fun j _=>(by rw[dz (by omega)]);rw[this];apply List.ext_getElem?;intro c;rw[List.getElem?_set];split
  ·rename_i e;subst e;rw[dw (List.getElem?_eq_some_iff.1 h1).1,h1]
  ·rfl
 rw[e0] at e;exact e
def qK (w:Rat)(t:bV)(r k:Nat):Rat:=if 0<t.T r k then t.T r k*w else -(t.T r k*w)
theorem UA {m N M:Nat}(hm:m<=20)(gx:N<1000){h:Nat->Nat}(inj:∀i,i<m-> ∀k,k<m->h i=h k->i=k){w:Rat}{t:bV}{r k:Nat}(f:p6 m N w t)(g:vG m N w t r k){eO:List (List bx)}(f8:l5 m N M h w t eO)(gQ:Int)(free:List Bool):
 ∃kC,Az r k (b8 w).cz (b8 w).b9 gQ (hN m N h) eO (cR m t) free=some ((b8 (qK w t r k)).cz,(b8 (qK w t r k)).b9,kC,cR m (t.cl r k))/\l5 m N M h (qK w t r k) (t.cl r k) kC:=by
 have ai:=g.ai;have aX:=g.aX;have ag:=g.ag;have hw:=f.pos;have pL : ∀i,i<m-> ∀j,j<=N->dX lC (t.T i j*w):=fun i ad j au=>(f.h3 i ad j au).mono (vF (by have:=sO;generalize eS=q at *;omega));have tW:ie N (t.T r k*w) (t.cl r k) r=ie N w t r:=eE fun j _=>by simp only[bV.cl,if_true];congr 1;grind
 have CZ:(hN m N h).length=m:=cm ..;unfold Az
 obtain⟨p1,e1,kR,r1⟩:=hU (f:=fun q:Int×List (List bx)=>zT (r:Int) (k:Int) (some (h r,N+1)) ((m:Nat):Int) (b8 w).cz (b8 w).b9 gQ (hN m N h) (cR m t) free (b8 (t.T r k*w)).cz (b8 (t.T r k*w)).b9 q.1 q.2)
  (fun (i:Nat) (p:List (List bx))=>((i:Int),p)) m (fun n p=>p.length=M/\ ∀i,i<m->p[h i]? = some (if i=r\/i<n then ie N (t.T r k*w) (t.cl r k) i else ie N w t i)) (fun p=>p)
  (fun n aV p cN=>by
    obtain⟨aS,cN⟩:=cN;unfold zT;by_cases c:n=r
    ·subst c
     refine⟨p,dv (by simp only;omega) (bt (by rw[CZ];simp only;omega) (av (x:=some (h n,N+1)) (by simp only;rw[dx];exact hn aV) (d9 (by simp) ?_))),aS,fun i ad=> ?_⟩
     ·simp only;rw[fl (by omega)]
     ·rw[cN i ad]
      by_cases bl:i=n\/i<n
      ·rw[dw bl,dw (by omega)]
      ·rw[dz bl,dz (by omega)]
    ·have c9:h n≠h r:=fun e=>c (inj n aV r ai e)
     have h1:p[h n]? = some (ie N w t n):=(by rw[cN n aV,dz (by omega)]);have h2:p[h r]? = some (ie N w t r):=(by rw[cN r ai,dw (.inl rfl),tW]);refine⟨p.set (h n) (ie N (t.T r k*w) (t.cl r k) n),dv (by simp only;omega) (bt (by rw[CZ];simp only;omega) (av (x:=some (h n,N+1)) (by simp only;rw[dx];exact hn aV) (e3 (by simp;omega) (av (x:=(h n,N+1)) rfl (av h1 (bt (by simp only;omega) (av (x:=b8 (t.T n k*w)) (by rw[dx];exact hn (by omega)) (av (aeR gx f g aV c c9 h1 h2 _ _ _ _ _ _ _ _) ?_)))))))),by rw[List.length_set];exact aS,fun i ad=> ?_⟩
     ·simp only;rw[fl (by omega)]
     ·by_cases bl:i=n
      ·subst bl;rw[Hn h1,dw (.inr (by omega))]
      ·rw[Ly (fun e=>bl (inj i ad n aV e.symm)),cN i ad]
       by_cases cr:i=r\/i<n
       ·rw[dw cr,dw (by omega)]
       ·rw[dz cr,dz (by omega)])
  (fun p _=>by unfold zT;exact ea (by simp) rfl) eO ⟨f8.len,fun i ad=>by
    rw[f8.row i ad];by_cases c:i=r
    ·rw[dw (.inl c),c,tW]
    ·rw[dz (by omega)]⟩
 have Ju : ∀i,i<m->p1[h i]? = some (ie N (t.T r k*w) (t.cl r k) i):=fun i ad=>by rw[r1 i ad,dw (.inr ad)]
 have ahr:(cR m t).set (0+((r:Int)).toNat) (k:Int)=cR m (t.cl r k):=by rw[dx,dG];unfold cR;rw[kJ];exact eE fun i _=>by simp only[bV.cl];split<;>rfl
 have lead :
  (if 0<=(r:Int)/\(r:Int)<((hN m N h).length:Nat) then
    (hN m N h)[(0+((r:Int)).toNat)]? >>= fun x2 =>
    x2 >>= fun j7 =>
    eO[j7.1]? >>= fun oM =>
    if 0<=(k:Int)/\(k:Int)<(j7.2:Nat) then
    oM[(0+((k:Int)).toNat)]? >>= fun ef =>
    JV (r:Int) (k:Int) x2 (((hN m N h).length:Nat):Int) (b8 w).cz (b8 w).b9 gQ (hN m N h) (cR m t) free ef.cz ef.b9 0 eO >>= fun bC =>
    if 0<=(r:Int)/\(r:Int)<((cR m t).length:Nat) then
    if (0+((r:Int)).toNat)<(cR m t).length then
    qo ef >>= fun fG =>
    if (decide ((0:Int)<fG))=true then
     some (ef.cz,ef.b9,bC,(cR m t).set (0+((r:Int)).toNat) (k:Int))
    else
     rH ef >>= fun e7 =>
     GY (((hN m N h).length:Nat):Int) e7.cz e7.b9 gQ (hN m N h) ((cR m t).set (0+((r:Int)).toNat) (k:Int)) free 0 bC >>= fun kh =>
     some (e7.cz,e7.b9,kh,(cR m t).set (0+((r:Int)).toNat) (k:Int))
    else none else none else none else none)=(if (decide ((0:Int)<jt (t.T r k)))=true then
     some ((b8 (t.T r k*w)).cz,(b8 (t.T r k*w)).b9,p1,cR m (t.cl r k))
    else
     rH (b8 (t.T r k*w)) >>= fun e7 =>
     GY ((m:Nat):Int) e7.cz e7.b9 gQ (hN m N h) (cR m (t.cl r k)) free 0 p1 >>= fun kh =>
     some (e7.cz,e7.b9,kh,cR m (t.cl r k))):=by
  refine bt (by rw[CZ];omega) (av (x:=some (h r,N+1)) (by rw[dx];exact hn ai) (av (x:=(h r,N+1)) rfl (av (f8.row r ai) (bt (by simp only;omega) (av (x:=b8 (t.T r k*w)) (by rw[dx];exact hn (by omega)) (av (x:=p1) (by unfold JV;rw[CZ];exact e1) (bt (by unfold cR;rw[cm];omega) (bt (by unfold cR;rw[cm,dx];omega) (av (wy (pL r ai k (by omega))) ?_)))))))));rw[BX hw,ahr,CZ]
 by_cases kN:0<t.T r k
 ·have xg:qK w t r k=t.T r k*w:=dw kN;refine⟨p1,lead.trans ?_,kR,fun i ad=>by rw[xg];exact Ju i ad⟩;rw[xg];exact dv (sH.2 kN) rfl
 ·have xg:qK w t r k = -(t.T r k*w):=dz kN
  obtain⟨p2,e2,kS,r2⟩:=hU (f:=fun q:Int×List (List bx)=>zV ((m:Nat):Int) (b8 (-(t.T r k*w))).cz (b8 (-(t.T r k*w))).b9 gQ (hN m N h) (cR m (t.cl r k)) free q.1 q.2)
   (fun (i:Nat) (p:List (List bx))=>((i:Int),p)) m (fun n p=>p.length=M/\ ∀i,i<m->p[h i]? = some (if i<n then ie N (-(t.T r k*w)) (t.cl r k) i else ie N (t.T r k*w) (t.cl r k) i)) (fun p=>p)
   (fun n aV p cN=>by
     obtain⟨aS,cN⟩:=cN;have h1:p[h n]? = some (ie N (t.T r k*w) (t.cl r k) n):=(by rw[cN n aV,dz (by omega)]);unfold zV;refine⟨p.set (h n) (ie N (-(t.T r k*w)) (t.cl r k) n),dv (by simp only;omega) (bt (by rw[CZ];simp only;omega) (av (x:=some (h n,N+1)) (by simp only;rw[dx];exact hn aV) (av (x:=(h n,N+1)) rfl (av h1 (av (aeS gx g.CU aV h1 _ _ _ _ _ _ _ _) ?_))))),by rw[List.length_set];exact aS,fun i ad=> ?_⟩
     ·simp only;rw[fl (by omega)]
     ·by_cases bl:i=n
      ·subst bl;rw[Hn h1,dw (by omega)]
      ·rw[Ly (fun e=>bl (inj i ad n aV e.symm)),cN i ad]
       by_cases cr:i<n
       ·rw[dw cr,dw (by omega)]
       ·rw[dz cr,dz (by omega)])
   (fun p _=>by unfold zV;exact ea (by simp) rfl) p1 ⟨kR,fun i ad=>by rw[Ju i ad,dz (by omega)]⟩
  refine⟨p2,lead.trans ?_,kS,fun i ad=>by rw[xg,r2 i ad,dw ad]⟩;rw[xg];exact ea (fun c=>kN (sH.1 c)) (av (Sp (pL r ai k (by omega))) (av (x:=p2) (by unfold GY;exact e2) rfl))
theorem R7 {m:Nat}(hm:m<=1000)(t:bV)(j:Nat): ∃b,vc (cR m t) (j:Int)=some b/\(b=true↔ ∃i,i<m/\t.B i=j):=by
 unfold vc EB Ls
 obtain⟨r,e,h⟩:=ra (f:=fun w:Int=>u0 (cR m t) (j:Int) ((m:Nat):Int) w) (fun (i:Nat) (_:Unit)=>(i:Int)) m (fun i _=> ∀k,k<i->t.B k≠j)
  (fun r=>(∃i:Nat,r = .inr (i:Int)/\i<m/\t.B i=j)\/(r = .inl ()/\ ¬∃i,i<m/\t.B i=j))
  (fun i ad _ cN=>by
    unfold u0;by_cases c:t.B i=j
    ·right;exact⟨_,dv (by omega) (bt (by unfold cR;rw[cm];omega) (av (x:=((t.B i:Nat):Int)) (by rw[dx];exact f9 ad) (d9 (by simp[c]) rfl))),.inl ⟨i,rfl,ad,c⟩⟩
    ·left
     refine⟨(),dv (by omega) (bt (by unfold cR;rw[cm];omega) (av (x:=((t.B i:Nat):Int)) (by rw[dx];exact f9 ad) (e3 (by simp;omega) (by rw[fl (by omega)])))),fun k aX=> ?_⟩;by_cases e:k=i
     ·rw[e];exact c
     ·exact cN k (by omega))
  (fun _ cN=>⟨_,by unfold u0;exact ea (by omega) rfl,.inr ⟨rfl,fun ⟨i,ad,e⟩=>cN i ad e⟩⟩) () (fun k aX=>by omega)
 rw[fU,show (cR m t).length=m from cm ..];rcases h with ⟨i,rfl,h1,h2⟩|⟨rfl,h⟩
 ·exact⟨true,av (x:=(i:Int)) (av e rfl) (by simp),by simp only[true_iff];exact⟨i,h1,h2⟩⟩
 ·exact⟨false,av (x:=(-1:Int)) (av e rfl) rfl,by simp[h]⟩
theorem EE {m N M:Nat}{h:Nat->Nat}{w:Rat}{t:bV}{eO:List (List bx)}(f8:l5 m N M h w t eO):(hN m N h).all (tL eO)=true:=by
 rw[List.all_eq_true];intro x ab;obtain⟨i,ad,rfl⟩:=Ia.1 ab;simp only[tL];have h1:=f8.row i ad;have h2:eO.getD (h i) []=ie N w t i:=by rw[List.getD_eq_getElem?_getD,h1];rfl
 rw[h2,show (ie N w t i).length=N+1 from cm ..];simp[(List.getElem?_eq_some_iff.1 h1).1]
theorem yn {m N M:Nat}{h:Nat->Nat}{w:Rat}{t:bV}{eO:List (List bx)}(f8:l5 m N M h w t eO):(hN m N h).map (jE eO)=aO m (ie N w t):=by unfold hN;rw[Uq];exact eE fun i ad=>by have h2:eO.getD (h i) []=ie N w t i:=(by rw[List.getD_eq_getElem?_getD,f8.row i ad];rfl);simp only[jE];rw[h2];exact List.take_of_length_le (Nat.le_of_eq (cm ..))
theorem W7 {m:Nat}{o:Nat->Rat}{t:bV}{j:Nat}:t.qW m 1 (fun _=>o) j↔0<t.cq m o j:=IZ (g:=fun _=>t.cq m o j)
theorem ac6 {eQ m N M:Nat}{A:Nat->Nat->Rat}(hm:m<=20)(gx:N<1000){h:Nat->Nat}(inj:∀i,i<m-> ∀k,k<m->h i=h k->i=k){w:Rat}{t:bV}(ok:gU eQ m N A t)(f:p6 m N w t)(o:Nat->Int)(an:∀j,j<N-> -100<=o j/\o j<=100)(df:Nat->Bool)
 (ajn : ∀r s,oV m N 1 (fun _ j=>(o j:Rat)) (fun j=>df j=true) t r s->vG m N w t r s) {eO:List (List bx)} (f8:l5 m N M h w t eO) :
 ∃x,C8 (N:Int) (b8 w).cz (b8 w).b9 (hN m N h) eO (cR m t) (aO N df) (aO N o) 0=some x /\
  ((x = .inl (false,(b8 w).cz,(b8 w).b9,eO,cR m t)/\ ∀j,j<N->df j=true-> ¬0<t.cq m (fun j=>(o j:Rat)) j) \/
   (∃r s kC,x = .inl (true,(b8 (qK w t r s)).cz,(b8 (qK w t r s)).b9,kC,cR m (t.cl r s))/\oV m N 1 (fun _ j=>(o j:Rat)) (fun j=>df j=true) t r s/\l5 m N M h (qK w t r s) (t.cl r s) kC) \/
   (x = .inr ()/\ ∃s,s<N/\df s=true/\0<t.cq m (fun j=>(o j:Rat)) s/\ ∀i,i<m-> ¬0<t.T i s)):=by
 unfold C8
 refine ra (f:=fun q:Int=>zO (N:Int) (b8 w).cz (b8 w).b9 (hN m N h) eO (cR m t) (aO N df) (aO N o) q) (fun (i:Nat) (_:Unit)=>(i:Int)) N
  (fun n _=> ∀j,j<n->df j=true-> ¬0<t.cq m (fun j=>(o j:Rat)) j) _ (fun n aV _ cN=> ?_) (fun _ cN=> ?_) () (fun j au=>by omega)
 ·have next : ∀(hq:df n=true-> ¬0<t.cq m (fun j=>(o j:Rat)) n),∀j,j<n+1->df j=true-> ¬0<t.cq m (fun j=>(o j:Rat)) j:=fun hq j au=>by
   by_cases c:j=n
   ·subst c;exact hq
   ·exact cN j (by omega)
  have g1:0<=((n:Nat):Int)/\((n:Nat):Int)<((aO N df).length:Nat):=(by rw[cm];omega);have g2:(aO N df)[(0+((n:Nat):Int).toNat)]? = some (df n):=(by rw[dx];exact hn aV);have iT:U ((n:Int)+1)=((n+1:Nat):Int):=fl (by omega);unfold zO;by_cases st:df n=true
  ·obtain⟨b,iX,j6⟩:=R7 (m:=m) (by omega) t n
   cases b with
   | true =>
    obtain⟨i,ad,f6⟩:=j6.1 rfl;left;refine⟨(),dv (by omega) (bt g1 (av g2 (d9 st (av iX (d9 rfl (by rw[iT])))))),next fun _=> ?_⟩
    rw[<- f6,ok.xX _ ad];grind
   | false =>
    have dt:=Uz hm gx f o an ((⟨(b8 w).cz,(b8 w).b9⟩:bx)) rfl (N:Int) (aO N df) aV;by_cases uT:0<t.cq m (fun j=>(o j:Rat)) n
    ·obtain⟨q,q1,q2⟩:=ac5 hm gx f ((⟨(b8 w).cz,(b8 w).b9⟩:bx)) (aO N df) (k:=n) (by omega)
     have bJ : ¬jt (t.cq m (fun j=>(o j:Rat)) n)<=0:=(by have:=sH.2 uT;omega);right;rcases q2 with ⟨rfl,h2⟩|⟨b,rfl,aU,kG,R,ah⟩
     ·exact⟨_,dv (by omega) (bt g1 (av g2 (d9 st (av iX (e3 rfl (bt (EE f8) (av (by rw[yn f8];exact dt) (ea bJ (av (by rw[yn f8];exact q1) (dv (by decide) rfl)))))))))),.inr (.inr ⟨rfl,n,aV,st,uT,h2⟩)⟩
     ·have cZ:oV m N 1 (fun _ j=>(o j:Rat)) (fun j=>df j=true) t b n:=⟨aV,st,W7.2 uT,fun j au cp dt=>cN j au cp (W7.1 dt),aU,kG,R,ah⟩;obtain⟨kC,e1,e2⟩:=UA hm gx inj f (ajn b n cZ) f8 (N:Int) (aO N df);exact⟨_,dv (by omega) (bt g1 (av g2 (d9 st (av iX (e3 rfl (bt (EE f8) (av (by rw[yn f8];exact dt) (ea bJ (av (by rw[yn f8];exact q1) (ea (by omega) (av e1 rfl))))))))))),.inr (.inl ⟨b,n,kC,rfl,cZ,e2⟩)⟩
    ·left;have bJ:jt (t.cq m (fun j=>(o j:Rat)) n)<=0:=(by have : ¬0<jt (t.cq m (fun j=>(o j:Rat)) n):=fun c=>uT (sH.1 c);omega);exact⟨(),dv (by omega) (bt g1 (av g2 (d9 st (av iX (e3 rfl (bt (EE f8) (av (by rw[yn f8];exact dt) (dv bJ (by rw[iT]))))))))),next fun _=>uT⟩
  ·left;have Jz:df n=false:=(by simpa using st);exact⟨(),dv (by omega) (bt g1 (av g2 (e3 Jz (by rw[iT])))),next fun c=>(st c).elim⟩
 ·exact⟨_,by unfold zO;exact ea (by omega) rfl,.inl ⟨rfl,cN⟩⟩
def wP (N:Int)(sZ:List bR)(free:List Bool)(obj:ar)(s:Bool×ar×List (List bx)×ar):Option ((Bool×ar×List (List bx)×ar)⊕((Bool×ar×List (List bx)×ar)⊕(Bool×ar×List (List bx)×ar))) :=
 match C8 N s.1 s.2.1 sZ s.2.2.1 s.2.2.2 free obj 0 with
 | none=>none
 | some (.inl (true,b4))=>some (.inl b4)
 | some (.inl (false,b4))=>some (.inr (.inl b4))
 | some (.inr ())=>some (.inr (.inr s))
theorem aeT {N:Int}{sZ:List bR}{free:List Bool}{obj:ar}: ∀s r,iter (wP N sZ free obj) s=some r->JO N sZ free obj true s.1 s.2.1 s.2.2.1 s.2.2.2=some r:=by
 unfold JO;apply iter.partial_correctness (wP N sZ free obj) (fun s r=>iter (fun w:Bool×Bool×ar×(List (List bx))×ar=>xi N sZ free obj w.1 w.2.1 w.2.2.1 w.2.2.2.1 w.2.2.2.2) (true,s.1,s.2.1,s.2.2.1,s.2.2.2)=some r);intro it ih s r ai
 cases ab:C8 N s.1 s.2.1 sZ s.2.2.1 s.2.2.2 free obj 0 with
 | none=>unfold wP at ai;rw[ab] at ai;simp at ai
 | some x =>
  have hm:xi N sZ free obj true s.1 s.2.1 s.2.2.1 s.2.2.2=match x with
   | .inl gE=>(some (.inl (gE.1,gE.2.1,gE.2.2.1,gE.2.2.2.1,gE.2.2.2.2)))
   | .inr gE=>(some (.inr (.inr (s.1,s.2.1,s.2.2.1,s.2.2.2)))):=by
   unfold xi;refine d9 rfl ?_
   cases x with
   | inl a=>exact av ab rfl
   | inr a=>exact av ab rfl
  unfold wP at ai;rw[ab] at ai;rw[iter];simp only;rw[hm]
  match x,ai with
  | .inl (true,b4),ai=>exact ih _ _ ai
  | .inl (false,b4),ai =>
   simp at ai;subst ai;show iter _ (false,b4.1,b4.2.1,b4.2.2.1,b4.2.2.2)=_;rw[iter];simp only;unfold xi;rfl
  | .inr (),ai =>
   simp at ai;subst ai;rfl
theorem aeU {eQ m N M:Nat}{A:Nat->Nat->Rat}(hm:m<=20)(gx:N<1000){h:Nat->Nat}{w:Rat}{t:bV}(ok:gU eQ m N A t)(f:p6 m N w t)(o:Nat->Int)(an:∀j,j<N-> -100<=o j/\o j<=100)(df:Nat->Bool){eO:List (List bx)}(f8:l5 m N M h w t eO):
 JP (N:Int) (b8 w).cz (b8 w).b9 (hN m N h) eO (cR m t) (aO N o) 0 (aO N df)=some (aO N fun j=>df j && !decide (t.cq m (fun j=>(o j:Rat)) j<0)):=by
 unfold JP
 obtain⟨s,e,-⟩:=hU (f:=fun q:Int×List Bool=>zP (N:Int) (b8 w).cz (b8 w).b9 (hN m N h) eO (cR m t) (aO N o) q.1 q.2)
  (fun (i:Nat) (_:Unit)=>((i:Int),aO N fun j=>if j<i then df j && !decide (t.cq m (fun j=>(o j:Rat)) j<0) else df j)) N (fun _ _=>True) (fun _=>aO N fun j=>df j && !decide (t.cq m (fun j=>(o j:Rat)) j<0))
  (fun n aV _ _=>by
    refine⟨(),?_,trivial⟩
    have same:df n=(df n && !decide (t.cq m (fun j=>(o j:Rat)) n<0))->(U ((n:Int)+1),aO N fun j=>if j<n then df j && !decide (t.cq m (fun j=>(o j:Rat)) j<0) else df j)=(((n+1:Nat):Int),aO N fun j=>if j<n+1 then df j && !decide (t.cq m (fun j=>(o j:Rat)) j<0) else df j):=fun he=>by
     rw[fl (by omega)];congr 1;refine eE fun j _=> ?_;by_cases c:j=n
     ·subst c;rw[dz (by omega),dw (by omega)];exact he
     ·by_cases cr:j<n
      ·rw[dw cr,dw (by omega)]
      ·rw[dz cr,dz (by omega)]
    have g1 : ∀F:Nat->Bool,0<=((n:Nat):Int)/\((n:Nat):Int)<((aO N F).length:Nat):=fun F=>(by rw[cm];omega);have g2:(aO N fun j=>if j<n then df j && !decide (t.cq m (fun j=>(o j:Rat)) j<0) else df j)[(0+((n:Nat):Int).toNat)]? = some (df n):=(by rw[dx,hn aV,dz (by omega)]);unfold zP;by_cases st:df n=true
    ·obtain⟨b,iX,j6⟩:=R7 (m:=m) (by omega) t n
     cases b with
     | true =>
      obtain⟨i,ad,f6⟩:=j6.1 rfl;refine dv (by simp only;omega) (bt (g1 _) (av g2 (d9 st (av iX (d9 rfl ?_)))));simp only;rw[same];rw[<- f6,ok.xX _ ad,decide_eq_false (by grind)];simp
     | false =>
      have dt:=Uz hm gx f o an ((⟨(b8 w).cz,(b8 w).b9⟩:bx)) rfl (N:Int) (aO N fun j=>if j<n then df j && !decide (t.cq m (fun j=>(o j:Rat)) j<0) else df j) aV
      have bJ:jt (t.cq m (fun j=>(o j:Rat)) n)<0↔t.cq m (fun j=>(o j:Rat)) n<0:=by
       unfold jt;by_cases c:t.cq m (fun j=>(o j:Rat)) n=0
       ·rw[dw c,c];constructor
        ·intro h;omega
        ·intro h;grind
       ·rw[dz c]
        by_cases cr:t.cq m (fun j=>(o j:Rat)) n<0
        ·rw[dw cr];simp[cr]
        ·rw[dz cr];constructor
         ·intro h;omega
         ·intro h;exact(cr h).elim
      by_cases uT:t.cq m (fun j=>(o j:Rat)) n<0
      ·refine dv (by simp only;omega) (bt (g1 _) (av g2 (d9 st (av iX (e3 rfl (bt (EE f8) (av (by rw[yn f8];exact dt) (dv (bJ.2 uT) (bt (by rw[cm,dx];omega) ?_)))))))))
       simp only;rw[fl (by omega),dx,dG,kJ];congr 3;refine eE fun j _=> ?_;by_cases c:j=n
       ·subst c;rw[dw rfl,dw (by omega),decide_eq_true uT];simp
       ·rw[dz c]
        by_cases cr:j<n
        ·rw[dw cr,dw (by omega)]
        ·rw[dz cr,dz (by omega)]
      ·refine dv (by simp only;omega) (bt (g1 _) (av g2 (d9 st (av iX (e3 rfl (bt (EE f8) (av (by rw[yn f8];exact dt) (ea (fun c=>uT (bJ.1 c)) ?_))))))));simp only;rw[same];rw[decide_eq_false uT];simp
    ·have Jz:df n=false:=(by simpa using st);refine dv (by simp only;omega) (bt (g1 _) (av g2 (e3 Jz ?_)));simp only;rw[same];rw[Jz];simp)
  (fun _ _=>by unfold zP;refine ea (by simp) ?_;simp only;congr 2;exact eE fun j au=>by rw[dw au]) () trivial
 have e0:(aO N fun j=>if j<0 then df j && !decide (t.cq m (fun j=>(o j:Rat)) j<0) else df j)=aO N df:=eE fun j _=>by rw[dz (by omega)]
 rw[e0] at e;exact e
theorem Sq {eQ m N M:Nat}{A:Nat->Nat->Rat}(hm:m<=20)(gx:N<1000){h:Nat->Nat}(inj:∀i,i<m-> ∀k,k<m->h i=h k->i=k)(o:Nat->Int)(an:∀j,j<N-> -100<=o j/\o j<=100)(df:Nat->Bool)
 (Inv:Rat->bV->Prop) (inv : ∀w t,Inv w t->gU eQ m N A t/\t.mj m N/\p6 m N w t)
 (hY : ∀w t r s,Inv w t->oV m N 1 (fun _ j=>(o j:Rat)) (fun j=>df j=true) t r s->vG m N w t r s/\Inv (qK w t r s) (t.cl r s)) {w:Rat} {t:bV} (cN:Inv w t) {eO:List (List bx)} (f8:l5 m N M h w t eO) :
 ∃b bT cF kC l7,uU (b8 w).cz (b8 w).b9 (N:Int) (hN m N h) eO (cR m t) (aO N df) (aO N o)=some (b,(b8 bT).cz,(b8 bT).b9,kC,cR m cF,aO N l7)/\Inv bT cF/\l5 m N M h bT cF kC /\
  ((b=true/\(∀j,j<N->df j=true-> ¬0<cF.cq m (fun j=>(o j:Rat)) j)/\l7=fun j=>df j && !decide (cF.cq m (fun j=>(o j:Rat)) j<0))\/(b=false/\ ∃s,s<N/\df s=true/\0<cF.cq m (fun j=>(o j:Rat)) s/\ ∀i,i<m-> ¬0<cF.T i s)):=by
 obtain⟨ok,ld,GA⟩:=inv w t cN
 obtain⟨x,ej,cF,e,-,-,-,bT,kC,h1,h2,R⟩:=SK (eQ:=eQ) (m:=m) (N:=N) (K:=1) (A:=A) (obj:=fun _ j=>(o j:Rat)) (bL:=fun j=>df j=true)
  (f:=wP (N:Int) (hN m N h) (aO N df) (aO N o))
  (fun s t=> ∃w eO,s=((b8 w).cz,(b8 w).b9,eO,cR m t)/\Inv w t/\l5 m N M h w t eO)
  (fun s x t=> ∃w eO,Inv w t/\l5 m N M h w t eO/\((x = .inl ((b8 w).cz,(b8 w).b9,eO,cR m t)/\ ∀j,j<N->df j=true-> ¬0<t.cq m (fun j=>(o j:Rat)) j) \/
    (x = .inr ((b8 w).cz,(b8 w).b9,eO,cR m t)/\ ∃s,s<N/\df s=true/\0<t.cq m (fun j=>(o j:Rat)) s/\ ∀i,i<m-> ¬0<t.T i s)))
  (fun s t dk ok _=>by
    obtain⟨w,eO,rfl,cN,f8⟩:=dk;obtain⟨x,e,ab⟩:=ac6 hm gx inj ok (inv w t cN).2.2 o an df (fun r s b=>(hY w t r s cN b).1) f8;rcases ab with ⟨rfl,ab⟩|⟨r,s,kC,rfl,cZ,Gy⟩|⟨rfl,ab⟩
    ·left;exact⟨_,by unfold wP;simp only;rw[e],w,eO,cN,f8,.inl ⟨rfl,ab⟩⟩
    ·right;exact⟨_,r,s,by unfold wP;simp only;rw[e],cZ,qK w t r s,kC,rfl,(hY w t r s cN cZ).2,Gy⟩
    ·left;exact⟨_,by unfold wP;simp only;rw[e],w,eO,cN,f8,.inr ⟨rfl,ab⟩⟩)
  (a:=((b8 w).cz,(b8 w).b9,eO,cR m t)) (t:=t) ⟨w,eO,rfl,cN,f8⟩ ok ld
 have e2:=aeT _ _ e;obtain⟨l6,alf,aiH⟩:=inv bT cF h1;rcases R with ⟨rfl,R⟩|⟨rfl,R⟩
 ·refine⟨true,bT,cF,kC,_,?_,h1,h2,.inl ⟨rfl,R,rfl⟩⟩;unfold uU;exact av e2 (av (aeU hm gx l6 aiH o an df h2) rfl)
 ·refine⟨false,bT,cF,kC,df,?_,h1,h2,.inr ⟨rfl,R⟩⟩;unfold uU;exact av e2 rfl
def iv (m:Nat)(A:Nat->Nat->Rat)(t:bV):Rat:=if 0<t.D m A then t.D m A else -(t.D m A)
theorem af6 {m N:Nat}{A:Nat->Nat->Rat}{t:bV}(h:t.D m A≠0):0<iv m A t:=by unfold iv;split<;>grind
theorem IE {m K:Nat}{A:Nat->Nat->Rat}{t:bV}{x:Rat}(h:dX K (x*t.D m A)):dX K (x*iv m A t):=by
 unfold iv;split
 ·exact h
 ·have:=h.neg;rw[show x * -(t.D m A) = -(x*t.D m A) by grind];exact this
theorem lM.sX {m N:Nat}{A:Nat->Nat->Rat}(s:Small m N A){t:bV}(h:lM m N A t):p6 m N (iv m A t) t where
 pos:=af6 (N:=N) h.ss
 hw:=by have h1:dX eS (1*t.D m A):=(by rw[Rat.one_mul];exact h.zo s);have:=IE h1;rw[Rat.one_mul] at this;exact this.mono (by generalize eS=q;omega)
 h3:=fun i ad j au=>IE (h.uK s ad au)
 f6:=h.ok.jr
theorem lM.yX {m N:Nat}{A:Nat->Nat->Rat}(s:Small m N A){t:bV}(h:lM m N A t){r k:Nat}(ai:r<m)(aX:k<N)(ag:t.T r k≠0):vG m N (iv m A t) t r k where
 ai:=ai
 aX:=aX
 ag:=ag
 CU:=fun i ad j au=>by
  have l6:=h.ok.cl ai aX ag
  have h1:dX eS ((t.cl r k).T i j*(t.cl r k).D m A):=by
   rw[<- l6.xe ad au];refine dX.mono (wz fun ey ox c a2=> ?_) (Fb▸BL (by omega) s.hm);simp only[hp];split
   ·exact s.qX c a2 j au
   ·exact s.qX c a2 _ (Nat.le_of_lt (l6.jr ey ox))
  rw[h.ok.yI ai aX] at h1;unfold iv;split
  ·exact h1
  ·have:=h1.neg;rw[show (t.cl r k).T i j*(t.T r k * -(t.D m A)) = -((t.cl r k).T i j*(t.T r k*t.D m A)) by grind];exact this
theorem MD {m N:Nat}{A:Nat->Nat->Rat}{t:bV}(h:gU m m N A t)(bF:t.D m A≠0){r k:Nat}(ai:r<m)(aX:k<N)(ag:t.T r k≠0):qK (iv m A t) t r k=iv m A (t.cl r k):=by
 have e:=h.yI ai aX;unfold qK iv;rw[e];by_cases bl:0<t.T r k<;>by_cases cr:0<t.D m A
 ·rw[dw bl,dw cr,dw (Rat.mul_pos bl cr)]
 ·have:=Rat.mul_pos bl (show 0 < -(t.D m A) by grind);rw[dw bl,dz cr,dz (by grind)];grind
 ·have:=Rat.mul_pos (show 0 < -(t.T r k) by grind) cr;rw[dz bl,dw cr,dz (by grind)]
 ·have:=Rat.mul_pos (show 0 < -(t.T r k) by grind) (show 0 < -(t.D m A) by grind);rw[dz bl,dz cr,dw (by grind)];grind
def h7 (h:Nat->Nat)(t:bV):bV:=⟨fun i j=>t.T (h i) j,fun i=>t.B (h i)⟩
theorem Eu {h:Nat->Nat}{t:bV}{r k i:Nat}(gL:h i=h r->i=r):(∀j,((h7 h t).cl r k).T i j=(h7 h (t.cl (h r) k)).T i j)/\((h7 h t).cl r k).B i=(h7 h (t.cl (h r) k)).B i:=by
 simp only[bV.cl,h7];by_cases c:i=r
 ·subst c;simp
 ·have:h i≠h r:=fun e=>c (gL e);simp[c,this]
theorem SU {α:Type}{m i:Nat}(ad:i<m)(f:Nat->α):(aO m f).take (i-0)++((aO m f).drop (0+(i+1))).take (m-(i+1))=aO (m-1) (skip i f):=by
 apply List.ext_getElem?;intro j;rw[Nat.sub_zero,dG];have aS:((aO m f).take i).length=i:=by rw[List.length_take,cm];omega
 by_cases c:j<i
 ·rw[List.getElem?_append_left (by omega),List.getElem?_take,dw c,f9 (by omega),f9 (by omega)];simp only[skip];rw[dw c]
 ·rw[List.getElem?_append_right (by omega),aS,List.getElem?_take,List.getElem?_drop]
  by_cases cr:j<m-1
  ·rw[dw (by omega),f9 (by omega),f9 cr];simp only[skip];rw[dz c];congr 2;omega
  ·rw[dz (by omega)]
   symm
   rw[List.getElem?_eq_none_iff,cm];omega
theorem acr {m N M n:Nat}(gx:N<1000)(aV:n<=N){h:Nat->Nat}{w:Rat}{t:bV}(f:p6 m N w t){eO:List (List bx)}(f8:l5 m N M h w t eO){i:Nat}(ad:i<m)(iX:Bool)(j6:ar)(az:Int)(q2:ar)(bN:List Bool):
 ∃k:Nat,JX (n:Int) (i:Int) iX j6 az (hN m N h) eO q2 bN 0=some (k:Int)/\k<=n/\(k<n->t.T i k≠0)/\ ∀j,j<k->t.T i j=0:=by
 unfold JX
 obtain⟨r,e,k,rfl,h1,h2,R⟩:=ra (f:=fun q:Int=>zW (n:Int) (i:Int) iX j6 az (hN m N h) eO q2 bN q) (fun (c:Nat) (_:Unit)=>(c:Int)) n (fun c _=> ∀j,j<c->t.T i j=0)
  (fun r=> ∃k:Nat,r=(k:Int)/\k<=n/\(k<n->t.T i k≠0)/\ ∀j,j<k->t.T i j=0)
  (fun c a2 _ cN=>by
    have hw:=f.pos;have bJ:=wy ((f.h3 i ad c (by omega)).mono (vF (by have:=sO;generalize eS=q at *;omega)));unfold zW;by_cases JF:t.T i c=0
    ·left
     refine⟨(),dv (by omega) (bt (by unfold hN;rw[cm];omega) (av (x:=some (h i,N+1)) (by rw[dx];exact hn ad) (av (x:=(h i,N+1)) rfl (av (f8.row i ad) (bt (by simp only;omega) (av (x:=b8 (t.T i c*w)) (by rw[dx];exact hn (by omega)) (av bJ (d9 (by rw[BX hw,oR.2 JF];rfl) (by rw[fl (by omega)]))))))))),fun j au=> ?_⟩;by_cases e:j=c
     ·rw[e];exact JF
     ·exact cN j (by omega)
    ·right;exact⟨_,dv (by omega) (bt (by unfold hN;rw[cm];omega) (av (x:=some (h i,N+1)) (by rw[dx];exact hn ad) (av (x:=(h i,N+1)) rfl (av (f8.row i ad) (bt (by simp only;omega) (av (x:=b8 (t.T i c*w)) (by rw[dx];exact hn (by omega)) (av bJ (e3 (by rw[BX hw];exact rz (fun c=>JF (oR.1 c))) rfl)))))))),c,rfl,by omega,fun _=>JF,cN⟩)
  (fun _ cN=>⟨_,by unfold zW;exact ea (by omega) rfl,n,rfl,dE _,fun c=>by omega,cN⟩) () (fun j au=>by omega)
 exact⟨k,e,h1,h2,R⟩
structure ng (m n N:Nat) (A:Nat->Nat->Rat) (t:bV) (aI:Nat) (h:Nat->Nat):Prop where
 inv:lM m N A t
 z : ∀i,i<m->n<=t.B i->t.T i N=0
 le:aI<=m
 lt : ∀i,i<aI->h i<m
 inj : ∀i,i<aI-> ∀k,k<aI->h i=h k->i=k
 dead : ∀d,d<m->(∀i,i<aI->h i≠d)->n<=t.B d/\ ∀j,j<n->t.T d j=0
theorem ng.sX {m n N aI:Nat}{A:Nat->Nat->Rat}{t:bV}{h:Nat->Nat}(s:Small m N A)(a:ng m n N A t aI h):p6 aI N (iv m A t) (h7 h t) :=
 have f:=a.inv.sX s
 ⟨f.pos,f.hw,fun i ad j au=>f.h3 (h i) (a.lt i ad) j au,fun i ad=>f.f6 (h i) (a.lt i ad)⟩
theorem ng.yX {m n N aI:Nat}{A:Nat->Nat->Rat}{t:bV}{h:Nat->Nat}(s:Small m N A)(a:ng m n N A t aI h){r k:Nat}(ai:r<aI)(aX:k<N)(ag:t.T (h r) k≠0):vG aI N (iv m A t) (h7 h t) r k :=
 have f:=a.inv.yX s (a.lt r ai) aX ag
 ⟨ai,aX,ag,fun i ad j au=>by rw[(Eu (t:=t) (k:=k) (a.inj i ad r ai)).1 j];exact f.CU (h i) (a.lt i ad) j au⟩
theorem ng.cl {m n N aI:Nat}{A:Nat->Nat->Rat}{t:bV}{h:Nat->Nat}(N6:n<=N)(a:ng m n N A t aI h){r k:Nat}(ai:r<aI)(aX:k<n)(aU:n<=t.B (h r))(ag:t.T (h r) k≠0):ng m n N A (t.cl (h r) k) aI h:=by
 have cD:=a.z (h r) (a.lt r ai) aU
 have d5 : ∀i,(t.cl (h r) k).T i N=t.T i N:=fun i=>by
  simp only[bV.cl];split
  ·rename_i e;rw[e,cD];grind
  ·rw[cD];grind
 refine⟨⟨a.inv.ok.cl (a.lt r ai) (by omega) ag,fun i ad=>by rw[d5];exact a.inv.ld i ad,?_⟩,fun i ad f6=> ?_,a.le,a.lt,a.inj,fun d bF hq=> ?_⟩
 ·rw[a.inv.ok.yI (a.lt r ai) (by omega)];have:=a.inv.ss;grind
 ·rw[d5]
  simp only[bV.cl] at f6;by_cases c:i=h r
  ·rw[dw c] at f6;omega
  ·rw[dz c] at f6;exact a.z i ad f6
 ·obtain⟨h1,h2⟩:=a.dead d bF hq;have c9:d≠h r:=fun e=>hq r ai e.symm;simp only[bV.cl,dz c9];refine⟨h1,fun j au=> ?_⟩;rw[h2 j au,h2 k aX];grind
theorem adV {m n N:Nat}{A:Nat->Nat->Rat}(s:Small m N A)(gx:N<1000)(N6:n<=N)(free:List Bool){t:bV}(cj:lM m N A t)(cD:∀i,i<m->n<=t.B i->t.T i N=0){eO:List (List bx)}(f8:l5 m N m (fun i=>i) (iv m A t) t eO):
 ∃cF aI h kC,Dh (n:Int) (b8 (iv m A t)).cz (b8 (iv m A t)).b9 (N:Int) (hN m N fun i=>i) eO (cR m t) free=some ((b8 (iv m A cF)).cz,(b8 (iv m A cF)).b9,hN aI N h,kC,cR aI (h7 h cF)) /\
  ng m n N A cF aI h/\(∀i,i<aI->cF.B (h i)<n)/\l5 aI N m h (iv m A cF) (h7 h cF) kC:=by
 have hm:=s.hm;unfold Dh Pm
 obtain⟨x,e,cF,aI,h,kC,rfl,h1,h2,R⟩:=kz (f:=fun w:Int×Bool×ar×(List bR)×(List (List bx))×ar=>C6 (n:Int) (N:Int) free w.1 w.2.1 w.2.2.1 w.2.2.2.1 w.2.2.2.2.1 w.2.2.2.2.2)
  (fun w=> ∃(i aI:Nat) (h:Nat->Nat) (t:bV) (p:List (List bx)),w=((i:Int),(b8 (iv m A t)).cz,(b8 (iv m A t)).b9,hN aI N h,p,cR aI (h7 h t))/\i<=aI/\ng m n N A t aI h/\(∀q,q<i->t.B (h q)<n)/\l5 aI N m h (iv m A t) (h7 h t) p)
  (fun w=>w.2.2.2.1.length-w.1.toNat)
  (fun x=> ∃cF aI h kC,x=((b8 (iv m A cF)).cz,(b8 (iv m A cF)).b9,hN aI N h,kC,cR aI (h7 h cF))/\ng m n N A cF aI h/\(∀i,i<aI->cF.B (h i)<n)/\l5 aI N m h (iv m A cF) (h7 h cF) kC)
  (fun w hw=>by
    obtain⟨i,aI,h,t,p,rfl,ad,bG,a4,ag⟩:=hw;have lc:=bG.le;have vS:(hN aI N h).length=aI:=cm ..;have N7:(cR aI (h7 h t)).length=aI:=cm ..;simp only;unfold C6;by_cases c:i<aI
    ·left
     have g1:0<=(i:Int)/\(i:Int)<((cR aI (h7 h t)).length:Nat):=(by rw[N7];omega);have g2:(cR aI (h7 h t))[(0+((i:Int)).toNat)]? = some ((t.B (h i):Nat):Int):=(by rw[dx];exact hn c);by_cases JG:t.B (h i)<n
     ·refine⟨(((i+1:Nat):Int),(b8 (iv m A t)).cz,(b8 (iv m A t)).b9,hN aI N h,p,cR aI (h7 h t)),dv (by rw[vS];omega) (bt g1 (av g2 (dv (by omega) (by rw[fl (by omega)])))),⟨i+1,aI,h,t,p,rfl,by omega,bG,fun q o1=> ?_,ag⟩,by simp only[vS];omega⟩
      by_cases e:q=i
      ·rw[e];exact JG
      ·exact a4 q (by omega)
     ·obtain⟨k,lT,k4,mQ,On⟩:=acr gx N6 (bG.sX s) ag c (b8 (iv m A t)).cz (b8 (iv m A t)).b9 (N:Int) (cR aI (h7 h t)) free
      by_cases Oo:k<n
      ·have N8:t.T (h i) k≠0:=mQ Oo
       obtain⟨lp,e1,e2⟩:=UA (by omega) gx bG.inj (bG.sX s) (bG.yX s c (by omega) N8) ag (N:Int) free;have xg:qK (iv m A t) (h7 h t) i k=iv m A (t.cl (h i) k):=MD bG.inv.ok bG.inv.ss (bG.lt i c) (by omega) N8;have ajo:cR aI ((h7 h t).cl i k)=cR aI (h7 h (t.cl (h i) k)):=eE fun q o1=>(by have:=(Eu (t:=t) (k:=k) (bG.inj q o1 i c)).2;rw[this]);rw[xg,ajo] at e1;rw[xg] at e2;refine⟨(((i+1:Nat):Int),(b8 (iv m A (t.cl (h i) k))).cz,(b8 (iv m A (t.cl (h i) k))).b9,hN aI N h,lp,cR aI (h7 h (t.cl (h i) k))),dv (by rw[vS];omega) (bt g1 (av g2 (ea (by omega) (av lT (dv (by omega) (av e1 (by rw[fl (by omega)]))))))),⟨i+1,aI,h,t.cl (h i) k,lp,rfl,by omega,bG.cl N6 c Oo (by omega) N8,fun q o1=> ?_,e2.len,fun q o1=> ?_⟩,by simp only[vS];omega⟩
       ·simp only[bV.cl]
        split
        ·exact Oo
        ·rename_i c9;have:q≠i:=fun e=>c9 (by rw[e]);exact a4 q (by omega)
       ·rw[e2.row q o1];congr 1;exact eE fun j _=>by rw[(Eu (t:=t) (k:=k) (bG.inj q o1 i c)).1 j]
      ·have N5:k=n:=by omega
       have Gs:U ((i:Int)+1)=((i+1:Nat):Int):=fl (by omega);have Jr:(((hN aI N h).drop (0+(i+1))).take (aI-(i+1))).length=aI-(i+1):=(by rw[List.length_take,List.length_drop,vS];omega);have F7:(((cR aI (h7 h t)).drop (0+(i+1))).take (aI-(i+1))).length=aI-(i+1):=(by rw[List.length_take,List.length_drop,N7];omega);have bH:(hN aI N h).take (i-0)++((hN aI N h).drop (0+(i+1))).take (aI-(i+1))=hN (aI-1) N (skip i h):=SU c _;have fS:(cR aI (h7 h t)).take (i-0)++((cR aI (h7 h t)).drop (0+(i+1))).take (aI-(i+1))=cR (aI-1) (h7 (skip i h) t):=SU c _;refine⟨((i:Int),(b8 (iv m A t)).cz,(b8 (iv m A t)).b9,hN (aI-1) N (skip i h),p,cR (aI-1) (h7 (skip i h) t)),dv (by rw[vS];omega) (bt g1 (av g2 (ea (by omega) (av lT (ea (by omega) ?_))))),⟨i,aI-1,skip i h,t,p,rfl,by omega,⟨bG.inv,bG.z,by omega,fun q o1=> ?_,fun q o1 q2 Ct e=> ?_,fun d bF hq=> ?_⟩,fun q o1=> ?_,ag.len,fun q o1=> ?_⟩,?_⟩
       ·rw[Gs,dx,dx,vS,N7,Jr,F7,bH,fS];exact bt (by omega) (bt (by omega) (bt (by omega) (bt (by omega) (bt (by omega) (bt (by omega) (bt (by omega) (bt (by omega) (bt (by omega) (bt (by omega) (bt (by omega) (bt (by omega) rfl)))))))))))
       ·simp only[skip];split<;>exact bG.lt _ (by omega)
       ·simp only[skip] at e;have:=bG.inj _ (by split<;>omega) _ (by split<;>omega) e;split at this<;>split at this<;>omega
       ·by_cases Xv:d=h i
        ·rw[Xv];exact⟨by omega,fun j au=>On j (by omega)⟩
        ·refine bG.dead d bF fun q o1=> ?_
         by_cases bl:q<i
         ·have:=hq q (by omega);simp only[skip] at this;rw[dw bl] at this;exact this
         ·by_cases cr:q=i
          ·rw[cr];exact fun e=>Xv e.symm
          ·have:=hq (q-1) (by omega);simp only[skip] at this;rw[dz (by omega),show q-1+1=q by omega] at this;exact this
       ·simp only[skip];rw[dw o1];exact a4 q o1
       ·simp only[skip]
        by_cases bl:q<i
        ·rw[dw bl,ag.row q (by omega)];congr 1;exact eE fun j _=>by simp only[h7,skip];rw[dw bl]
        ·rw[dz bl,ag.row (q+1) (by omega)];congr 1;exact eE fun j _=>by simp only[h7,skip];rw[dz bl]
       ·simp only[vS,show (hN (aI-1) N (skip i h)).length=aI-1 from cm ..];omega
    ·right;have aiI:i=aI:=(by omega);subst aiI;exact⟨_,ea (by rw[vS];omega) rfl,t,i,h,p,rfl,bG,a4,ag⟩)
  ((0:Int),(b8 (iv m A t)).cz,(b8 (iv m A t)).b9,hN m N (fun i=>i),eO,cR m t)
  ⟨0,m,fun i=>i,t,eO,rfl,by omega,⟨cj,cD,dE _,fun i ad=>ad,fun i _ k _ e=>e,fun d bF hq=>(hq d bF rfl).elim⟩,fun q a4=>by omega,f8.len,f8.row⟩
 exact⟨cF,aI,h,kC,av e rfl,h1,h2,R⟩
theorem UB:(⟨false,([]:ar)⟩:bx)=b8 0:=by show _=gC (0:Rat).num;rw[show (0:Rat).num=0 from rfl];unfold gC;rw[show L ((0:Int).natAbs:Int)=[] from sT.2 (by simp)];rfl
theorem Mg {α:Type}(l:List α)(x:α):(l++[x])[l.length]? = some x:=by simp
theorem BZ {α:Type}(l:List α)(x y:α):(l++[x]).set l.length y=l++[y]:=by simp
theorem UC {p:iK}{m n:Nat}{a:Nat->Nat->Int}{b:Nat->Int}(h:lz p m n a b){i:Nat}(ad:i<m):A2 i p.gn p.fk p.d4 p.ee p.hg=some (i*n,n):=by
 have hm:=h.hm;have aV:=h.aV;have h1:i*n<=20*40:=Nat.mul_le_mul (by omega) aV;have h2:(i+1)*n<=20*40:=Nat.mul_le_mul (by omega) aV;have R:(i+1)*n<=m*n:=dL _ ad;have e1:U ((i:Int)*p.fk)=((i*n:Nat):Int):=by rw[h.gQ,<- Int.natCast_mul,cT (by omega) (by omega)]
 have e2:U (U ((i:Int)+1)*p.fk)=(((i+1)*n:Nat):Int):=by rw[h.gQ,fl (by omega),<- Int.natCast_mul,cT (by omega) (by omega)]
 have ah:(i+1)*n=i*n+n:=Nat.succ_mul i n;unfold A2;rw[e1,e2,dx,dx,h.g9];refine bt (by omega) (bt (by omega) (bt ⟨by omega,R⟩ ?_));rw[show 0+i*n=i*n by omega,show (i+1)*n-i*n=n by omega]
theorem abZ {p:iK}{m n:Nat}{a:Nat->Nat->Int}{b:Nat->Int}(h:lz p m n a b){i:Nat}(ad:i<m)(aU:b i<0)(x0:Int)(fr:Bool)(eR:ar)(q2:List bR)(cu:ar)(dU:List Bool)(P:List (List bx)):
 KF x0 (i:Int) P.length (n+m+1) p.gn (i*n) n ((n:Nat):Int) p.fk p.d4 p.ee p.hg fr eR q2 cu dU 0 (P++[aO (n+m+1) fun _=>b8 0])=some (P++[aO (n+m+1) fun j=>if j<n then b8 (dh m n a b i j) else b8 0]):=by
 have hm:=h.hm;have aV:=h.aV;have bJ:k2 (b i) = -1:=by unfold k2;rw[dw aU]
 unfold KF
 obtain⟨s1,e1,-⟩:=hU (f:=fun w:Int×List (List bx)=>AA x0 (i:Int) P.length (n+m+1) p.gn (i*n) n ((n:Nat):Int) p.fk p.d4 p.ee p.hg fr eR q2 cu dU w.1 w.2)
  (fun (k:Nat) (_:Unit)=>((k:Int),P++[aO (n+m+1) fun j=>if j<k then b8 (dh m n a b i j) else b8 0])) n (fun _ _=>True) (fun _=>P++[aO (n+m+1) fun j=>if j<n then b8 (dh m n a b i j) else b8 0])
  (fun k aX _ _=>by
    refine⟨(),?_,trivial⟩;have bG:=h.uR i ad k aX;have e:U ((-1:Int)*a i k)=lr m n a b i k:=(by rw[cT (by omega) (by omega)];unfold lr;rw[dw aX,bJ]);unfold AA;refine dv (by simp only;omega) (bt (by simp only;omega) (av (x:=a i k) (by simp only;rw[dx];exact h.Cs i ad k aX) (av (x:=b8 (dh m n a b i k)) (by rw[e];exact ve (by have:=vy h ad k;rw[k7];omega)) (av (Mg _ _) (bt (by simp only;omega) (av (by simp only;rw[dx];exact hn (by omega)) ?_))))));simp only;rw[fl (by omega),dx,dG,kJ,BZ];congr 5;refine eE fun j _=> ?_;by_cases bl:j=k
    ·subst bl;rw[dw rfl,dw (by omega)]
    ·rw[dz bl]
     by_cases cr:j<k
     ·rw[dw cr,dw (by omega)]
     ·rw[dz cr,dz (by omega)])
  (fun _ _=>by unfold AA;exact ea (by simp) rfl) () trivial
 have e0:(aO (n+m+1) fun j=>if j<0 then b8 (dh m n a b i j) else b8 0)=aO (n+m+1) fun _=>b8 0:=eE fun j _=>by rw[dz (by omega)]
 rw[e0] at e1;exact e1
theorem ab0 {p:iK}{m n:Nat}{a:Nat->Nat->Int}{b:Nat->Int}(h:lz p m n a b){i:Nat}(ad:i<m)(aU:¬b i<0)(x0:Int)(fr:Bool)(eR:ar)(q2:List bR)(cu:ar)(dU:List Bool)(P:List (List bx)):
 KG x0 (i:Int) P.length (n+m+1) p.gn (i*n) n ((n:Nat):Int) p.fk p.d4 p.ee p.hg fr eR q2 cu dU 0 (P++[aO (n+m+1) fun _=>b8 0])=some (P++[aO (n+m+1) fun j=>if j<n then b8 (dh m n a b i j) else b8 0]):=by
 have hm:=h.hm;have aV:=h.aV;have bJ:k2 (b i)=1:=by unfold k2;rw[dz aU]
 unfold KG
 obtain⟨s1,e1,-⟩:=hU (f:=fun w:Int×List (List bx)=>AB x0 (i:Int) P.length (n+m+1) p.gn (i*n) n ((n:Nat):Int) p.fk p.d4 p.ee p.hg fr eR q2 cu dU w.1 w.2)
  (fun (k:Nat) (_:Unit)=>((k:Int),P++[aO (n+m+1) fun j=>if j<k then b8 (dh m n a b i j) else b8 0])) n (fun _ _=>True) (fun _=>P++[aO (n+m+1) fun j=>if j<n then b8 (dh m n a b i j) else b8 0])
  (fun k aX _ _=>by
    refine⟨(),?_,trivial⟩;have bG:=h.uR i ad k aX;have e:U ((1:Int)*a i k)=lr m n a b i k:=(by rw[cT (by omega) (by omega)];unfold lr;rw[dw aX,bJ]);unfold AB;refine dv (by simp only;omega) (bt (by simp only;omega) (av (x:=a i k) (by simp only;rw[dx];exact h.Cs i ad k aX) (av (x:=b8 (dh m n a b i k)) (by rw[e];exact ve (by have:=vy h ad k;rw[k7];omega)) (av (Mg _ _) (bt (by simp only;omega) (av (by simp only;rw[dx];exact hn (by omega)) ?_))))));simp only;rw[fl (by omega),dx,dG,kJ,BZ];congr 5;refine eE fun j _=> ?_;by_cases bl:j=k
    ·subst bl;rw[dw rfl,dw (by omega)]
    ·rw[dz bl]
     by_cases cr:j<k
     ·rw[dw cr,dw (by omega)]
     ·rw[dz cr,dz (by omega)])
  (fun _ _=>by unfold AB;exact ea (by simp) rfl) () trivial
 have e0:(aO (n+m+1) fun j=>if j<0 then b8 (dh m n a b i j) else b8 0)=aO (n+m+1) fun _=>b8 0:=eE fun j _=>by rw[dz (by omega)]
 rw[e0] at e1;exact e1
theorem rR {α:Type}(n:Nat)(x:α):List.replicate n x=aO n fun _=>x:=by
 apply List.ext_getElem?;intro i;by_cases c:i<n
 ·rw[f9 c];simp[c]
 ·rw[List.getElem?_eq_none_iff.2 (by simp;omega),List.getElem?_eq_none_iff.2 (by rw[cm];omega)]
theorem R8 {p:iK}{m n:Nat}{a:Nat->Nat->Int}{b:Nat->Int}(h:lz p m n a b)(fr:Bool)(eR:ar)(dU:List Bool):
 KH ((n+m:Nat):Int) p.gn p.fk p.d4 p.ee p.hg fr eR dU 0 ([]:List bR) ([]:List (List bx)) ([]:ar)=some (hN m (n+m) (fun i=>i),aO m (fun i=>aO (n+m+1) fun j=>b8 (dh m n a b i j)),cR m (jx m n a b)):=by
 have hm:=h.hm;have aV:=h.aV;unfold KH
 obtain⟨s,e,-⟩:=hU (f:=fun w:Int×(List bR)×(List (List bx))×ar=>AD ((n+m:Nat):Int) p.gn p.fk p.d4 p.ee p.hg fr eR dU w.1 w.2.1 w.2.2.1 w.2.2.2)
  (fun (i:Nat) (_:Unit)=>((i:Int),aO i (fun k=>(some (k,n+m+1):bR)),aO i (fun i=>aO (n+m+1) fun j=>b8 (dh m n a b i j)),aO i (fun k=>((n+k:Nat):Int)))) m (fun _ _=>True)
  (fun _=>(hN m (n+m) (fun i=>i),aO m (fun i=>aO (n+m+1) fun j=>b8 (dh m n a b i j)),cR m (jx m n a b)))
  (fun i ad _ _=>by
    refine⟨(),?_,trivial⟩;have aU:=h.th i ad;have iT:U (((n+m:Nat):Int)+1)=((n+m+1:Nat):Int):=fl (by omega);have hw:U (p.fk+(i:Int))=((n+i:Nat):Int):=(by rw[h.gQ,<- Int.natCast_add,cT (by omega) (by omega)]);have W8:(aO i (fun i=>aO (n+m+1) fun j=>b8 (dh m n a b i j))).length=i:=cm ..;have sl:lr m n a b i (n+m)=k2 (b i)*b i:=by unfold lr;rw[dz (by omega),dw rfl]
    have el:((aO (n+m+1) fun j=>if j<n then b8 (dh m n a b i j) else b8 0).set (n+i) (b8 ((1:Int):Rat))).set (n+m) (b8 (dh m n a b i (n+m)))=aO (n+m+1) fun j=>b8 (dh m n a b i j):=by
     rw[kJ,kJ];refine eE fun j au=> ?_;by_cases bl:j=n+m
     ·rw[dw bl,bl]
     ·rw[dz bl]
      by_cases cr:j=n+i
      ·rw[dw cr,cr,vn ad,dw rfl];rfl
      ·rw[dz cr]
       by_cases ku:j<n
       ·rw[dw ku]
       ·rw[dz ku];obtain⟨k,rfl⟩ : ∃k,j=n+k:=⟨j-n,by omega⟩;rw[vn (by omega),dz (by omega)]
    unfold AD;rw[iT,hw,dx];refine dv (by simp only;rw[h.rows];omega) (bt (by omega) (bt (by simp only;rw[h.xf];omega) (av (x:=b i) (by simp only[dx,dG];exact h.FD i ad) ?_)))
    have fin:(some (Sum.inl (U ((i:Int)+1),(aO i (fun k=>(some (k,n+m+1):bR)))++[some (i,n+m+1)],(aO i (fun i=>aO (n+m+1) fun j=>b8 (dh m n a b i j)))++[aO (n+m+1) fun j=>b8 (dh m n a b i j)],(aO i fun k=>((n+k:Nat):Int))++[((n+i:Nat):Int)])):Option ((Int×(List bR)×(List (List bx))×ar)⊕((List bR)×(List (List bx))×ar))) =
     some (Sum.inl (((i+1:Nat):Int),aO (i+1) (fun k=>(some (k,n+m+1):bR)),aO (i+1) (fun i=>aO (n+m+1) fun j=>b8 (dh m n a b i j)),aO (i+1) (fun k=>((n+k:Nat):Int)))):=by
     rw[fl (by omega),kW i (fun k=>(some (k,n+m+1):bR)),kW i (fun i=>aO (n+m+1) fun j=>b8 (dh m n a b i j)),kW i (fun k=>((n+k:Nat):Int))]
    have ab : ∀(P:List (List bx)) (F:List bx->Option ((Int×(List bR)×(List (List bx))×ar)⊕((List bR)×(List (List bx))×ar))) (x:List bx) r,F x=r->(P++[x])[P.length]? >>= F=r:=fun P F x r w9=>av (Mg P x) w9;refine qm (fun c=> ?_) (fun c=> ?_)
    ·have oX:b i<0:=of_decide_eq_true c;have bJ:k2 (b i) = -1:=(by unfold k2;rw[dw oX]);refine av (UC h ad) (av (by rw[UB,rR];exact abZ h ad oX _ _ _ _ _ _ _) (av (ve (n:=1) (by rw[k7];omega)) (ab _ _ _ _ ?_)));refine bt (by omega) (av (x:=b8 0) (by rw[dx,hn (by omega),dz (by omega)]) (av (x:=b8 (dh m n a b i (n+m))) (by have e:U ((-1:Int)*b i)=lr m n a b i (n+m):=(by rw[sl,bJ,cT (by omega) (by omega)]);rw[e];exact ve (by have:=vy h ad (n+m);rw[k7];omega)) ?_));rw[BZ,dx,dG,dx,dG];refine ab _ _ _ _ (bt (by omega) ?_);obtain⟨v,bc⟩ : ∃v,((aO (n+m+1) fun j=>if j<n then b8 (dh m n a b i j) else b8 0).set (n+i) (b8 ((1:Int):Rat)))[n+m]? = some v:=(by rw[kJ,f9 (by omega)];exact⟨_,rfl⟩);refine av bc (bt (by simp only[dF,cm,List.length_cons,List.length_nil];omega) (bt (by simp only[dF,cm,List.length_cons,List.length_nil];omega) ?_));rw[BZ];simp only[dx,dG];rw[el,W8];exact fin
    ·have oX : ¬b i<0:=of_decide_eq_false c;have bJ:k2 (b i)=1:=(by unfold k2;rw[dz oX]);refine av (UC h ad) (av (by rw[UB,rR];exact ab0 h ad oX _ _ _ _ _ _ _) (av (ve (n:=1) (by rw[k7];omega)) (ab _ _ _ _ ?_)));refine bt (by omega) (av (x:=b8 0) (by rw[dx,hn (by omega),dz (by omega)]) (av (x:=b8 (dh m n a b i (n+m))) (by have e:U ((1:Int)*b i)=lr m n a b i (n+m):=(by rw[sl,bJ,cT (by omega) (by omega)]);rw[e];exact ve (by have:=vy h ad (n+m);rw[k7];omega)) ?_));rw[BZ,dx,dG,dx,dG];refine ab _ _ _ _ (bt (by omega) ?_);obtain⟨v,bc⟩ : ∃v,((aO (n+m+1) fun j=>if j<n then b8 (dh m n a b i j) else b8 0).set (n+i) (b8 ((1:Int):Rat)))[n+m]? = some v:=(by rw[kJ,f9 (by omega)];exact⟨_,rfl⟩);refine av bc (bt (by simp only[dF,cm,List.length_cons,List.length_nil];omega) (bt (by simp only[dF,cm,List.length_cons,List.length_nil];omega) ?_));rw[BZ];simp only[dx,dG];rw[el,W8];exact fin)
  (fun _ _=>by unfold AD;exact ea (by simp only;rw[h.rows];omega) rfl) () trivial
 exact e
def su (n j:Nat):Int:=if n<=j then -1 else 0
theorem Vf {m n j:Nat}(au:j<n+m):((su n j:Int):Rat)=gg m n j:=by
 unfold su gg;by_cases c:n<=j
 ·rw[dw c,dw ⟨c,au⟩];rfl
 ·rw[dz c,dz (by omega)];rfl
theorem UD {m n:Nat}{t:bV}(f6:∀i,i<m->t.B i<n+m){j:Nat}(au:j<n+m):t.cq m (fun j=>((su n j:Int):Rat)) j=t.cq m (gg m n) j:=by unfold bV.cq;simp only;rw[Vf au,gf (g:=fun i=>gg m n (t.B i)*t.T i j) fun i ad=>by rw[Vf (f6 i ad)]]
theorem Sr {p:iK}{m n:Nat}{a:Nat->Nat->Int}{b:Nat->Int}(h:lz p m n a b)(x0:Int)(fr:Bool)(eR:ar)(q2:List bR)(bN:List (List bx))(cu:ar):
 KI x0 ((n+m:Nat):Int) p.gn p.fk p.d4 p.ee p.hg fr eR q2 bN cu 0 (aO (n+m) fun _=>(0:Int)) (aO (n+m) fun _=>false)=some (aO (n+m) (su n),aO (n+m) fun j=>decide (j<n)):=by
 have hm:=h.hm;have aV:=h.aV;unfold KI
 obtain⟨s,e,-⟩:=hU (f:=fun w:Int×ar×List Bool=>AE x0 ((n+m:Nat):Int) p.gn p.fk p.d4 p.ee p.hg fr eR q2 bN cu w.1 w.2.1 w.2.2)
  (fun (k:Nat) (_:Unit)=>((k:Int),(aO (n+m) fun j=>if j<k then su n j else 0),aO (n+m) fun j=>if j<k then decide (j<n) else false)) (n+m) (fun _ _=>True) (fun _=>(aO (n+m) (su n),aO (n+m) fun j=>decide (j<n)))
  (fun k aX _ _=>by
    refine⟨(),?_,trivial⟩
    have e2:(aO (n+m) fun j=>if j<k then decide (j<n) else false).set (0+((k:Int)).toNat) (decide (k<n))=aO (n+m) fun j=>if j<k+1 then decide (j<n) else false:=by
     rw[dx,dG,kJ];refine eE fun j _=> ?_;by_cases c:j=k
     ·subst c;rw[dw rfl,dw (by omega)]
     ·rw[dz c]
      by_cases cr:j<k
      ·rw[dw cr,dw (by omega)]
      ·rw[dz cr,dz (by omega)]
    have Oq:decide ((k:Int)<p.fk)=decide (k<n):=(by rw[h.gQ];simp);unfold AE;simp only;rw[Oq,e2,fl (by omega)];refine dv (by omega) (bt (by rw[cm];omega) (bt (by rw[cm,dx];omega) ?_));by_cases c:n<=k
    ·refine dv (by rw[h.gQ];omega) (bt (by rw[cm];omega) (bt (by rw[cm,dx];omega) ?_))
     rw[dx,dG,kJ];congr 4;refine eE fun j _=> ?_;by_cases bl:j=k
     ·subst bl;rw[dw rfl,dw (by omega)];unfold su;rw[dw c]
     ·rw[dz bl]
      by_cases cr:j<k
      ·rw[dw cr,dw (by omega)]
      ·rw[dz cr,dz (by omega)]
    ·refine ea (by rw[h.gQ];omega) ?_
     congr 4;refine eE fun j _=> ?_;by_cases bl:j=k
     ·subst bl;rw[dz (by omega),dw (by omega)];unfold su;rw[dz c]
     ·by_cases cr:j<k
      ·rw[dw cr,dw (by omega)]
      ·rw[dz cr,dz (by omega)])
  (fun _ _=>by
    unfold AE;refine ea (by simp) ?_;simp only;congr 3
    ·exact eE fun j au=>by rw[dw au]
    ·exact eE fun j au=>by rw[dw au]) () trivial
 have lW:(aO (n+m) fun j=>if j<0 then su n j else 0)=aO (n+m) fun _=>(0:Int):=eE fun j _=>by rw[dz (by omega)]
 have sv:(aO (n+m) fun j=>if j<0 then decide (j<n) else false)=aO (n+m) fun _=>false:=eE fun j _=>by rw[dz (by omega)]
 rw[lW,sv] at e;exact e
theorem ab1 {p:iK}{m n:Nat}{a:Nat->Nat->Int}{b:Nat->Int}(h:lz p m n a b){w:Rat}{t:bV}(f:p6 m (n+m) w t){eO:List (List bx)}(f8:l5 m (n+m) m (fun i=>i) w t eO)(fr:Bool)(eR:ar)(x0:Int)(q:List Bool):
 ∃r,KJ ((n+m:Nat):Int) ((m:Nat):Int) p.gn p.fk p.d4 p.ee p.hg fr eR x0 (cR m t) (hN m (n+m) fun i=>i) eO q 0=some r/\((r = .inr ()/\ ∃i,i<m/\n<=t.B i/\0<t.T i (n+m))\/(r = .inl ()/\ ∀i,i<m->n<=t.B i-> ¬0<t.T i (n+m))):=by
 have hm:=h.hm;have aV:=h.aV;have hw:=f.pos;unfold KJ
 exact ra (f:=fun w:Int=>AF ((n+m:Nat):Int) ((m:Nat):Int) p.gn p.fk p.d4 p.ee p.hg fr eR x0 (cR m t) (hN m (n+m) fun i=>i) eO q w) (fun (i:Nat) (_:Unit)=>(i:Int)) m (fun k _=> ∀i,i<k->n<=t.B i-> ¬0<t.T i (n+m)) _
  (fun i ad _ cN=>by
    have bJ:=wy ((f.h3 i ad (n+m) (dE _)).mono (vF (by have:=sO;generalize eS=q at *;omega)));have g1:0<=(i:Int)/\(i:Int)<((cR m t).length:Nat):=(by unfold cR;rw[cm];omega);have g2:(cR m t)[(0+((i:Int)).toNat)]? = some ((t.B i:Nat):Int):=(by rw[dx];exact hn ad);have g3:0<=(i:Int)/\(i:Int)<((hN m (n+m) fun i=>i).length:Nat):=(by unfold hN;rw[cm];omega);have g4:(hN m (n+m) fun i=>i)[(0+((i:Int)).toNat)]? = some (some (i,n+m+1)):=(by rw[dx];exact hn ad);unfold AF;by_cases JG:n<=t.B i
    ·by_cases lB:0<t.T i (n+m)
     ·right;exact⟨_,dv (by omega) (bt g1 (av g2 (dv (by rw[h.gQ];omega) (bt g3 (av g4 (av (x:=(i,n+m+1)) rfl (av (f8.row i ad) (bt (by simp only;omega) (av (x:=b8 (t.T i (n+m)*w)) (by rw[dx];exact hn (by omega)) (av bJ (dv (by rw[BX hw];exact sH.2 lB) rfl))))))))))),.inl ⟨rfl,i,ad,JG,lB⟩⟩
     ·left
      refine⟨(),dv (by omega) (bt g1 (av g2 (dv (by rw[h.gQ];omega) (bt g3 (av g4 (av (x:=(i,n+m+1)) rfl (av (f8.row i ad) (bt (by simp only;omega) (av (x:=b8 (t.T i (n+m)*w)) (by rw[dx];exact hn (by omega)) (av bJ (ea (by rw[BX hw];exact fun c=>lB (sH.1 c)) (by rw[fl (by omega)])))))))))))),fun k aX=> ?_⟩;by_cases e:k=i
      ·rw[e];exact fun _=>lB
      ·exact cN k (by omega)
    ·left
     refine⟨(),dv (by omega) (bt g1 (av g2 (ea (by rw[h.gQ];omega) (by rw[fl (by omega)])))),fun k aX=> ?_⟩;by_cases e:k=i
     ·rw[e];exact fun c=>(JG c).elim
     ·exact cN k (by omega))
  (fun _ cN=>⟨_,by unfold AF;exact ea (by omega) rfl,.inr ⟨rfl,cN⟩⟩) () (fun k aX=>by omega)
theorem ab2 {p:iK}{m n:Nat}{a:Nat->Nat->Int}{b:Nat->Int}(h:lz p m n a b)(F:Nat->Bool)(fr:Bool)(eR:ar)(x0:Int)(q2:List bR)(bN:List (List bx))(cu:ar):
 KK ((n+m:Nat):Int) p.gn p.fk p.d4 p.ee p.hg fr eR x0 q2 bN cu 0 (aO (n+m) F)=some (aO (n+m) fun j=>decide (j<n)):=by
 have hm:=h.hm;have aV:=h.aV;unfold KK
 obtain⟨s,e,-⟩:=hU (f:=fun w:Int×List Bool=>AG ((n+m:Nat):Int) p.gn p.fk p.d4 p.ee p.hg fr eR x0 q2 bN cu w.1 w.2)
  (fun (k:Nat) (_:Unit)=>((k:Int),aO (n+m) fun j=>if j<k then decide (j<n) else F j)) (n+m) (fun _ _=>True) (fun _=>aO (n+m) fun j=>decide (j<n))
  (fun k aX _ _=>by
    refine⟨(),?_,trivial⟩;have Oq:decide ((k:Int)<p.fk)=decide (k<n):=(by rw[h.gQ];simp);unfold AG;simp only;rw[Oq,fl (by omega)];refine dv (by omega) (bt (by rw[cm];omega) (bt (by rw[cm,dx];omega) ?_));rw[dx,dG,kJ];congr 3;refine eE fun j _=> ?_;by_cases c:j=k
    ·subst c;rw[dw rfl,dw (by omega)]
    ·rw[dz c]
     by_cases cr:j<k
     ·rw[dw cr,dw (by omega)]
     ·rw[dz cr,dz (by omega)])
  (fun _ _=>by unfold AG;refine ea (by simp) ?_;simp only;congr 2;exact eE fun j au=>by rw[dw au]) () trivial
 have lW:(aO (n+m) fun j=>if j<0 then decide (j<n) else F j)=aO (n+m) F:=eE fun j _=>by rw[dz (by omega)]
 rw[lW] at e;exact e
theorem W9 {m n:Nat}{a:Nat->Nat->Int}{b:Nat->Int}:iv m (dh m n a b) (jx m n a b)=1:=by unfold iv;rw[U6,dw (by grind)]
theorem T4 {p:iK}{m n:Nat}{a:Nat->Nat->Int}{b:Nat->Int}(h:lz p m n a b):
 ∃r,Bq p.gn p.fk p.d4 p.ee p.hg=some r/\((pv m n a b/\ ∃t aI g eO,r = .inl ((b8 (iv m (dh m n a b) t)).cz,(b8 (iv m (dh m n a b) t)).b9,((n+m:Nat):Int),hN aI (n+m) g,cR aI (h7 g t),aO (n+m) (fun j=>decide (j<n)),eO) /\
  ng m n (n+m) (dh m n a b) t aI g/\(∀i,i<aI->t.B (g i)<n)/\l5 aI (n+m) m g (iv m (dh m n a b) t) (h7 g t) eO)\/(¬pv m n a b/\r = .inr ())):=by
 have hm:=h.hm;have aV:=h.aV;have gA:=BG h;have gx:U (p.fk+p.gn)=((n+m:Nat):Int):=by rw[h.gQ,h.rows,<- Int.natCast_add,cT (by omega) (by omega)]
 have aiJ:l5 m (n+m) m (fun i=>i) (iv m (dh m n a b) (jx m n a b)) (jx m n a b) (aO m (fun i=>aO (n+m+1) fun j=>b8 (dh m n a b i j))):=⟨cm ..,fun i ad=>by rw[f9 ad,W9];congr 1;exact eE fun j _=>by show b8 (dh m n a b i j)=b8 (dh m n a b i j*1);congr 1;grind⟩
 obtain⟨q,bT,t,eO,l7,e,⟨cN,rfl⟩,f8,eJ⟩:=Sq (eQ:=m) (m:=m) (N:=n+m) (M:=m) (A:=dh m n a b) hm (by omega) (h:=fun i=>i) (fun i _ k _ e=>e) (su n) (fun j _=>by unfold su;split<;>omega) (fun j=>decide (j<n))
  (fun w t=>lM m (n+m) (dh m n a b) t/\w=iv m (dh m n a b) t) (fun w t cN=>⟨cN.1.ok,cN.1.ld,cN.2▸cN.1.sX gA⟩)
  (fun w t r s cN b=>by obtain⟨h1,rfl⟩:=cN;have ag:t.T r s≠0:=(by have:=b.pos;grind);exact⟨h1.yX gA b.ai b.bJ ag,h1.hY b,MD h1.ok h1.ss b.ai b.bJ ag⟩)
  (w:=iv m (dh m n a b) (jx m n a b)) (t:=jx m n a b) ⟨⟨Ur,Th,TR⟩,rfl⟩ aiJ
 rw[W9] at e
 have M9 : ∀j,j<n->t.cq m (gg m n) j<=0:=by
  rcases eJ with ⟨-,eJ,-⟩|⟨-,s,bJ,-,dt,hq⟩
  ·intro j au;have:=eJ j (by omega) (by simpa using au);rw[UD cN.ok.jr (by omega)] at this;grind
  ·rw[UD cN.ok.jr bJ] at dt;obtain⟨i,ad,ag⟩:=R0 cN.ok bJ dt;exact(hq i ad ag).elim
 have e1:pR 1=some (b8 1):=by have:=ve (n:=1) (by rw[k7];omega);rw[show ((1:Int):Rat)=1 from rfl] at this;exact this
 obtain⟨r,r1,r2⟩:=ab1 h (cN.sX gA) f8 (b8 (iv m (dh m n a b) t)).cz (b8 (iv m (dh m n a b) t)).b9 ((n+m:Nat):Int) (aO (n+m) l7);unfold Bq;rw[gx];rcases r2 with ⟨rfl,i,ad,f6,h3⟩|⟨rfl,hq⟩
 ·have FJ : ¬pv m n a b:=fun bJ=>by
   have:=Lj cN.ld (SL cN.ok cN.ld M9 bJ) cN.ok.jr i ad f6;grind
  refine⟨_,av e1 (bt (by omega) (av (R8 h _ _ _) (bt (by omega) (av (x:=(aO (n+m) (su n),aO (n+m) fun j=>decide (j<n))) (by rw[dx,rR,rR];exact Sr h _ _ _ _ _ _) (av e ?_))))),.inr ⟨FJ,rfl⟩⟩;refine av (x:= .inr ()) ?_ rfl;simp only;rw[show ((cR m t).length:Nat)=m from cm ..];exact r1
 ·have cD : ∀i,i<m->n<=t.B i->t.T i (n+m)=0:=fun i ad f6=>by
   have h1:=hq i ad f6;have h2:=cN.ld i ad;grind
  have bJ:pv m n a b:=Sl cN.ok cN.ld cD;obtain⟨cF,aI,g,kC,kR,kS,CY,kU⟩:=adV (n:=n) gA (by omega) (by omega) (aO (n+m) fun j=>decide (j<n)) cN cD f8;refine⟨_,av e1 (bt (by omega) (av (R8 h _ _ _) (bt (by omega) (av (x:=(aO (n+m) (su n),aO (n+m) fun j=>decide (j<n))) (by rw[dx,rR,rR];exact Sr h _ _ _ _ _ _) (av e ?_))))),.inl ⟨bJ,cF,aI,g,kC,rfl,kS,CY,kU⟩⟩;refine av (x:= .inl ()) ?_ ?_
  ·simp only;rw[show ((cR m t).length:Nat)=m from cm ..];exact r1
  ·simp only;rw[show ((aO (n+m) l7).length:Nat)=n+m from cm ..];refine av (ab2 h l7 _ _ _ _ _ _) ?_;rw[h.gQ];exact av kR rfl
structure qU (m:Nat) (u v:bV):Prop where
 T : ∀i,i<m-> ∀j,u.T i j=v.T i j
 B : ∀i,i<m->u.B i=v.B i
theorem qU.sX {m N:Nat}{w:Rat}{u v:bV}(s:qU m u v)(h:p6 m N w v):p6 m N w u :=
 ⟨h.pos,h.hw,fun i ad j au=>by rw[s.T i ad];exact h.h3 i ad j au,fun i ad=>by rw[s.B i ad];exact h.f6 i ad⟩
theorem qU.cl {m:Nat}{u v:bV}(s:qU m u v){r:Nat}(ai:r<m)(k:Nat):qU m (u.cl r k) (v.cl r k) where
 T:=fun i ad j=>by simp only[bV.cl,s.T i ad,s.T r ai]
 B:=fun i ad=>by simp only[bV.cl,s.B i ad]
theorem qU.yX {m N:Nat}{w:Rat}{u v:bV}(s:qU m u v){r k:Nat}(h:vG m N w v r k):vG m N w u r k :=
 ⟨h.ai,h.aX,by rw[s.T r h.ai];exact h.ag,fun i ad j au=>by rw[(s.cl h.ai k).T i ad,s.T r h.ai];exact h.CU i ad j au⟩
theorem qU.trans {m:Nat}{u v t:bV}(a:qU m u v)(b:qU m v t):qU m u t:=⟨fun i ad j=>(a.T i ad j).trans (b.T i ad j),fun i ad=>(a.B i ad).trans (b.B i ad)⟩
theorem afu {aI:Nat}{g:Nat->Nat}(inj:∀i,i<aI-> ∀k,k<aI->g i=g k->i=k)(t:bV){r:Nat}(ai:r<aI)(k:Nat):qU aI ((h7 g t).cl r k) (h7 g (t.cl (g r) k)) :=
 ⟨fun i ad j=>(Eu (t:=t) (k:=k) (inj i ad r ai)).1 j,fun i ad=>(Eu (t:=t) (k:=k) (inj i ad r ai)).2⟩
theorem Vg {m n:Nat}{a:Nat->Nat->Int}{b:Nat->Int}{x:Nat->Rat}{c:Nat}:cv n (fun j=>dh m n a b c j*x j)=((k2 (b c):Int):Rat)*cv n (fun j=>(a c j:Rat)*x j):=by rw[<- jK];exact gf fun j au=>by rw[Mt au];grind
theorem ng.Vh {m n:Nat}{a:Nat->Nat->Int}{b:Nat->Int}{t:bV}{aI:Nat}{g:Nat->Nat}(h:ng m n (n+m) (dh m n a b) t aI g)(f6:∀i,i<aI->t.B (g i)<n):LT m n a b aI (n+m) (h7 g t) where
 eqv:=fun x=>by
  have key:(∀i,i<m->cv n (fun j=>(a i j:Rat)*x j)=(b i:Rat))↔ ∀i,i<m->cv n (fun j=>dh m n a b i j*x j)=dh m n a b i (n+m):=by
   constructor
   ·intro ab i ad;rw[Vg,It,ab i ad]
   ·intro ab i ad
    have:=ab i ad;rw[Vg,It] at this;have h0:=U5 (b i);have e:((k2 (b i):Int):Rat)*(cv n (fun j=>(a i j:Rat)*x j)-(b i:Rat))=0:=(by grind);rcases Rat.mul_eq_zero.1 e with e|e
    ·exact(h0 e).elim
    ·grind
  rw[key];constructor
  ·intro ab i ad;obtain⟨W,hW⟩:=h.inv.ok.row;show cv n (fun j=>t.T (g i) j*x j)=t.T (g i) (n+m);rw[hW (g i) (h.lt i ad) (n+m) (dE _),gf (g:=fun j=>cv m (fun c=>W (g i) c*(dh m n a b c j*x j))) (fun j au=>by rw[hW (g i) (h.lt i ad) j (by omega),<- vb];exact gf fun c _=>by grind),q7];exact gf fun c a2=>by rw[jK,ab c a2]
  ·intro ab c a2
   have row : ∀i,i<m->cv n (fun j=>t.T i j*x j)=t.T i (n+m):=fun i ad=>by
    by_cases bL : ∃q,q<aI/\g q=i
    ·obtain⟨q,a4,rfl⟩:=bL;exact ab q a4
    ·obtain⟨d1,d2⟩:=h.dead i ad fun q a4 e=>bL ⟨q,a4,e⟩;rw[h.z i ad d1];exact oe fun j au=>by rw[d2 j au];grind
   rw[h.inv.ok.s8 c a2 (n+m) (dE _),gf (g:=fun j=>cv m (fun i=>dh m n a b c (t.B i)*(t.T i j*x j))) (fun j au=>by rw[h.inv.ok.s8 c a2 j (by omega),<- vb];exact gf fun i _=>by grind),q7];exact gf fun i ad=>by rw[jK,row i ad]
 unit:=fun i ad k aX=>by
  show t.T (g i) (t.B (g k))=_;rw[h.inv.ok.unit _ (h.lt i ad) _ (h.lt k aX)];by_cases c:i=k
  ·rw[dw c,dw (by rw[c])]
  ·rw[dz c,dz fun e=>c (h.inj i ad k aX e)]
 jr:=f6
 ld:=fun i ad=>h.inv.ld _ (h.lt i ad)
 Ok:=by omega
theorem ng.step {m n:Nat}{a:Nat->Nat->Int}{b:Nat->Int}{t:bV}{aI:Nat}{g:Nat->Nat}{K:Nat}{obj:Nat->Nat->Rat}{bL:Nat->Prop}(h:ng m n (n+m) (dh m n a b) t aI g)(f6:∀i,i<aI->t.B (g i)<n){u:bV}(bJ:qU aI u (h7 g t)){r s:Nat}(cZ:oV aI (n+m) K obj bL u r s)(y8:s<n):
 ng m n (n+m) (dh m n a b) (t.cl (g r) s) aI g/\(∀i,i<aI->(t.cl (g r) s).B (g i)<n)/\qU aI (u.cl r s) (h7 g (t.cl (g r) s)):=by
 have ai:=cZ.ai;have ag:0<t.T (g r) s:=by have:=cZ.pos;rw[bJ.T r ai] at this;exact this
 have Gl:t.T (g r) s≠0:=by grind
 have V2:=(bJ.cl ai s).trans (afu h.inj t ai s);have zC : ∀d,d<m->(∀i,i<aI->g i≠d)-> ∀j,(t.cl (g r) s).T d j=t.T d j/\(t.cl (g r) s).B d=t.B d:=fun d bF hq j=>by obtain⟨d1,d2⟩:=h.dead d bF hq;simp only[bV.cl];rw[dz fun e=>hq r ai e.symm,dz fun e=>hq r ai e.symm,d2 s y8];exact⟨by grind,rfl⟩
 have m5 : ∀i,i<aI->(t.cl (g r) s).B (g i)<n:=fun i ad=>by
  simp only[bV.cl];split
  ·exact y8
  ·exact f6 i ad
 have aiK:(u.cl r s).mj aI (n+m):=cZ.FA fun i ad=>by rw[bJ.T i ad];exact h.inv.ld _ (h.lt i ad)
 refine⟨⟨⟨h.inv.ok.cl (h.lt r ai) (by omega) Gl,fun i ad=> ?_,?_⟩,fun i ad aV=> ?_,h.le,h.lt,h.inj,fun d bF hq=> ?_⟩,m5,V2⟩
 ·by_cases bL : ∃q,q<aI/\g q=i
  ·obtain⟨q,a4,rfl⟩:=bL;have:=aiK q a4;rw[V2.T q a4] at this;exact this
  ·rw[(zC i ad (fun q a4 e=>bL ⟨q,a4,e⟩) _).1];exact h.inv.ld i ad
 ·rw[h.inv.ok.yI (h.lt r ai) (by omega)];have:=h.inv.ss;grind
 ·by_cases bL : ∃q,q<aI/\g q=i
  ·obtain⟨q,a4,rfl⟩:=bL;have:=m5 q a4;omega
  ·have hq : ∀q,q<aI->g q≠i:=fun q a4 e=>bL ⟨q,a4,e⟩;obtain⟨e1,e2⟩:=zC i ad hq (n+m);rw[e1];rw[e2] at aV;exact h.z i ad aV
 ·obtain⟨d1,d2⟩:=h.dead d bF hq;refine⟨by rw[(zC d bF hq 0).2];exact d1,fun j au=>by rw[(zC d bF hq j).1];exact d2 j au⟩
structure qV (m n:Nat) (a:Nat->Nat->Int) (b:Nat->Int) (aI:Nat) (g:Nat->Nat) (hx:Nat->Nat->Rat) (df:Nat->Bool) (w:Rat) (u:bV):Prop where
 bL : ∃t,ng m n (n+m) (dh m n a b) t aI g/\(∀i,i<aI->t.B (g i)<n)/\qU aI u (h7 g t)/\w=iv m (dh m n a b) t
 lt:LT m n a b aI (n+m) u
 ok:gU aI aI (n+m) hx u
 Ot : ∀i,i<aI->df (u.B i)=true
theorem qV.sX {m n:Nat}{a:Nat->Nat->Int}{b:Nat->Int}{aI:Nat}{g:Nat->Nat}{hx:Nat->Nat->Rat}{df:Nat->Bool}{w:Rat}{u:bV}(gA:Small m (n+m) (dh m n a b))(h:qV m n a b aI g hx df w u):p6 aI (n+m) w u:=by obtain⟨t,h1,h2,R,rfl⟩:=h.bL;exact R.sX (h1.sX gA)
theorem qV.hY {m n:Nat}{a:Nat->Nat->Int}{b:Nat->Int}{aI:Nat}{g:Nat->Nat}{hx:Nat->Nat->Rat}{df l7:Nat->Bool}{w:Rat}{u:bV}{obj:Nat->Nat->Rat}{K:Nat}(gA:Small m (n+m) (dh m n a b))(h:qV m n a b aI g hx l7 w u)(rA:∀j,j<n+m->df j=true->j<n)(aiL:∀j,df j=true->l7 j=true){r s:Nat}(cZ:oV aI (n+m) K obj (fun j=>df j=true) u r s):
 vG aI (n+m) w u r s/\qV m n a b aI g hx l7 (qK w u r s) (u.cl r s):=by
 obtain⟨t,h1,h2,R,ah⟩:=h.bL;have y8:=rA s cZ.bJ cZ.F6;obtain⟨g1,g2,g3⟩:=h1.step h2 R cZ y8;have ag:=cZ.pos;have Xa:t.T (g r) s≠0:=by rw[R.T r cZ.ai] at ag;show t.T (g r) s≠0;have:0<t.T (g r) s:=ag;grind
 refine⟨ah▸R.yX (h1.yX gA cZ.ai (by omega) Xa),⟨t.cl (g r) s,g1,g2,g3,?_⟩,h.lt.cl cZ.ai y8 (by grind) (cZ.FA h.lt.ld),cZ.ok h.ok,fun i ad=> ?_⟩
 ·rw[<- MD h1.inv.ok h1.inv.ss (h1.lt r cZ.ai) (show s<n+m by omega) Xa,ah];unfold qK;rw[R.T r cZ.ai];rfl
 ·simp only[bV.cl]
  split
  ·exact aiL s cZ.F6
  ·exact h.Ot i ad
theorem T5 {m n:Nat}{a:Nat->Nat->Int}{b:Nat->Int}{aI:Nat}{g:Nat->Nat}(hm:m<=20)(aV:n<=40)(gA:Small m (n+m) (dh m n a b)){hx:Nat->Nat->Rat}{df:Nat->Bool}{w:Rat}{u:bV}(h:qV m n a b aI g hx df w u)(rA:∀j,j<n+m->df j=true->j<n)(inj:∀i,i<aI-> ∀k,k<aI->g i=g k->i=k)(lc:aI<=m)
 (o:Nat->Int) (an : ∀j,-100<=o j/\o j<=100) {c:Nat->Rat} {l:Nat} {V:Nat->Rat} (aiM : ∀j,((o j:Int):Rat)=hI c l j) (s:qN m n a b c l df V) {eO:List (List bx)} (f8:l5 aI (n+m) m g w u eO) :
 ∃ok bT mu kC l7,uU (b8 w).cz (b8 w).b9 ((n+m:Nat):Int) (hN aI (n+m) g) eO (cR aI u) (aO (n+m) df) (aO (n+m) o)=some (ok,(b8 bT).cz,(b8 bT).b9,kC,cR aI mu,aO (n+m) l7)/\l5 aI (n+m) m g bT mu kC /\
  ((ok=true/\qV m n a b aI g hx l7 bT mu/\(∀j,j<n+m->l7 j=true->j<n)/\ ∃GH,qN m n a b c (l+1) l7 GH)\/(ok=false/\LT m n a b aI (n+m) mu/\ ∃q,q<n/\0<mu.cq aI (hI c l) q/\ ∀i,i<aI-> ¬0<mu.T i q)):=by
 have aiN:(fun j=>((o j:Int):Rat))=hI c l:=funext aiM
 obtain⟨ok,bT,mu,kC,l7,e,cN,Gy,eJ⟩:=Sq (eQ:=aI) (m:=aI) (N:=n+m) (M:=m) (A:=hx) (h:=g) (by omega) (by omega) inj o (fun j _=>an j) df
  (fun w u=>qV m n a b aI g hx df w u) (fun w u eu=>⟨eu.ok,eu.lt.ld,eu.sX gA⟩)
  (fun w u r q eu cZ=>eu.hY gA rA (fun j au=>au) cZ) h f8
 rw[aiN] at eJ;refine⟨ok,bT,mu,kC,l7,e,Gy,?_⟩;rcases eJ with ⟨h1,h2,R⟩|⟨h1,q,h2,cp,R,ah⟩
 ·left;have Na : ∀j,l7 j=true->df j=true:=fun j au=>(by rw[R,dM] at au;exact au.1);refine⟨h1,⟨cN.bL,cN.lt,cN.ok,fun i ad=> ?_⟩,fun j au uF=>rA j au (Na j uF),qN.next cN.lt s (fun j au cp=>h2 j (by omega) cp) (fun j au=>by rw[R])⟩;rw[R];simp only;rw[cN.Ot i ad,cN.lt.xX _ ad,decide_eq_false (by grind)];rfl
 ·right;exact⟨h1,cN.lt,q,rA q h2 cp,R,ah⟩
def hk (x:Rat):Option eY:=some (l9 (ep x))
theorem af7 {n d:Int}{x:Rat}(bF:0<d)(e:(d:Rat)*x=n):(n / (Int.gcd n d:Int),d / (Int.gcd n d:Int))=ep x:=by
 have r8:(d:Rat)≠0:=fun c=>by have:d=0:=Rat.intCast_inj.1 (by rw[c];rfl);omega
 have ab:x=Rat.divInt n d:=by rw[Rat.divInt_eq_div,<- e];grind
 have e1:(Rat.divInt n d).num=n / (Int.gcd n d:Int):=by rw[Rat.num_divInt,Int.sign_eq_one_of_pos bF,Int.one_mul,Int.gcd_comm]
 have e2:((Rat.divInt n d).den:Int)=d / (Int.gcd n d:Int):=by rw[Rat.den_divInt,dz (by omega),Int.gcd_comm];rw[Int.natCast_ediv,Int.natAbs_of_nonneg (by omega)]
 rw[ab];unfold ep;rw[e1,e2]
theorem L3 {n d:Int}{x:Rat}(bF:0<d)(e:(d:Rat)*x=n)(aV:(n.natAbs:Int)<B 50)(y5:d<B 50):tl (gC n) (L d)=some (hk x):=by have kR:=(hH (k:=50) (by omega)).2 aV;have kS:=(hH (k:=50) (by omega)).2 y5;rw[adJ bF (by omega) (by omega),af7 bF e];rfl
theorem Ii {n:Int}(h:m2 n):vd n=some (hk (n:Rat)):=by rw[aeI h];unfold hk ep;rw[Rat.num_intCast,Rat.den_intCast];rfl
theorem L4 {a b:Int}(bG:0<=a)(aU:0<=b)(h1:a<B 24)(h2:b<B 24):a*b<B 48:=by
 have e:B 48=B 24*B 24:=by decide +kernel
 rw[e];exact Int.lt_of_le_of_lt (dK (Int.le_of_lt h2) bG) (Int.mul_lt_mul_of_pos_right h1 (by omega))
theorem afv {x y:Rat}(ab:eN x)(aZ:eN y):Dr (hk x) (hk y)=some (hk (x*y)):=by
 have p:=ab.df;have q:=aZ.df;have h1:=p.oY;have h2:=p.oq;have R:=q.oY;have ah:=q.oq;have ax:=p.pos;have aQ:=q.pos;have f6:=MA;have VY:=pk 48;have ji:=L4 (by omega) (by omega) p.num q.num;have ig:=L4 (by omega) (by omega) p.den q.den;have sn:(((ep x).1*(ep y).1).natAbs:Int)<B 48:=by rw[Int.natAbs_mul];exact ji
 have bJ:Dr (some (l9 (ep x))) (some (l9 (ep y)))=((qn (gC (ep x).1) (gC (ep y).1)).bind fun aJ=>(sD (L (ep x).2) (L (ep y).2)).bind fun bz=>(tl aJ bz).bind fun bp=>some bp):=rfl;unfold hk;rw[bJ,Tn (by omega) (by omega),dA,HT (hK _) (hK _) (by omega) (by omega),eo (by omega),eo (by omega),dA,L3 (x:=x*y) (Int.mul_pos ax aQ) ?_ (by omega) (by omega)]
 ·rfl
 ·have:=ur x;have:=ur y;simp only[ep,dN];grind
theorem af8 {x y:Rat}(ab:eN x)(aZ:eN y):Dx (hk x) (hk y)=some (hk (x+y)):=by
 have p:=ab.df;have q:=aZ.df;have h1:=p.oY;have h2:=p.oq;have R:=q.oY;have ah:=q.oq;have ax:=p.pos;have aQ:=q.pos;have f6:=MA;have VY:=pk 48;obtain⟨bl,-,-⟩:=HV p q;obtain⟨d1,-,-⟩:=HV q p;have ig:=L4 (by omega) (by omega) p.den q.den;have bJ:Dx (some (l9 (ep x))) (some (l9 (ep y)))=((sw (some (l9 (ep x))) (L (ep y).2)).bind fun aL=>(sw (some (l9 (ep y))) (L (ep x).2)).bind fun bz=>(wc aL bz).bind fun bp=>(sD (L (ep x).2) (L (ep y).2)).bind fun bC=>(tl bp bC).bind fun cS=>some cS):=rfl;unfold hk;rw[bJ,HI (by omega) (by omega) (by omega),dA,HI (by omega) (by omega) (by omega),dA,TX (by omega) (by omega),dA,HT (hK _) (hK _) (by omega) (by omega),eo (by omega),eo (by omega),dA,L3 (x:=x+y) (Int.mul_pos ax aQ) ?_ (by omega) (by omega)]
 ·rfl
 ·have:=ur x;have:=ur y;simp only[ep,dN,Rat.intCast_add];grind
theorem IF {x:Rat}(h:eN x):wo (hk x)=some (hk x):=by have:=h.df;unfold hk;rw[show l9 (ep x)=l9 ((ep x).1,(ep x).2) from rfl,af2 (Int.le_of_lt this.pos),dw ⟨this.num,this.den⟩];rfl
def oZ (n:Nat)(c:Nat->Int)(l j:Nat):Int:=match l with
 | 0=>if j<n then c j else 0
 | l+1=>if j=l then -1 else 0
def hy (n:Nat)(c:Nat->Int)(j:Nat):Rat:=((oZ n c 0 j:Int):Rat)
theorem T6 (n:Nat)(c:Nat->Int)(l j:Nat):((oZ n c l j:Int):Rat)=hI (hy n c) l j:=by
 cases l with
 | zero=>rfl
 | succ l=>simp only[oZ,hI];split<;>rfl
theorem UE {n:Nat}{c:Nat->Int}(h:∀j,j<n-> -100<=c j/\c j<=100)(l j:Nat): -100<=oZ n c l j/\oZ n c l j<=100:=by
 cases l with
 | zero =>
  simp only[oZ];split
  ·exact h j ‹_›
  ·omega
 | succ l=>simp only[oZ];split<;>omega
def Nb (m n:Nat)(a:Nat->Nat->Int)(b c:Nat->Int)(aI:Nat)(g:Nat->Nat)(hx:Nat->Nat->Rat)(l:Nat)(s:Bool×ar×ar×List (List bx)×ar×List Bool):Prop :=
 ∃w u eO df V o,s=((b8 w).cz,(b8 w).b9,aO (n+m) o,eO,cR aI u,aO (n+m) df)/\qV m n a b aI g hx df w u/\(∀j,j<n+m->df j=true->j<n)/\l5 aI (n+m) m g w u eO/\qN m n a b (hy n c) l df V
theorem ac7 {m n:Nat}{a:Nat->Nat->Int}{b c:Nat->Int}{aI:Nat}{g:Nat->Nat}{hx:Nat->Nat->Rat}(hm:m<=20)(aV:n<=40)(gA:Small m (n+m) (dh m n a b))(a2:∀j,j<n-> -100<=c j/\c j<=100)(x0:Int)(fr eR k5:ar)(k:Nat)(aX:k<n)(s:Bool×ar×ar×List (List bx)×ar×List Bool)(bJ:Nb m n a b c aI g hx (k+1) s):
 ∃b4,xv (n:Int) x0 fr eR k5 ((n+m:Nat):Int) (hN aI (n+m) g) (k:Int) s.1 s.2.1 s.2.2.1 s.2.2.2.1 s.2.2.2.2.1 s.2.2.2.2.2=some (.inl (((k+1:Nat):Int),b4))/\Nb m n a b c aI g hx (k+2) b4:=by
 obtain⟨w,u,eO,df,V,o,rfl,eu,rA,f8,uS⟩:=bJ;obtain⟨t,bL,-⟩:=eu.bL;obtain⟨ok,bT,mu,kC,l7,e,Gy,eJ⟩:=T5 hm aV gA eu rA bL.inj bL.le (oZ n c (k+1)) (UE a2 (k+1)) (T6 n c (k+1)) uS f8;rcases eJ with ⟨rfl,CE,Na,GH,aiO⟩|⟨-,rD,q,a4,dt,hq⟩
 ·refine⟨((b8 bT).cz,(b8 bT).b9,aO (n+m) (oZ n c (k+1)),kC,cR aI mu,aO (n+m) l7),?_,bT,mu,kC,l7,GH,_,rfl,CE,Na,Gy,aiO⟩;have zB:(List.replicate (aO (n+m) o).length 0:ar).set (0+((k:Int)).toNat) (-1)=aO (n+m) (oZ n c (k+1)):=(by rw[cm,rR,dx,dG,kJ];exact eE fun j _=>rfl);unfold xv;simp only;rw[zB];refine dv (by omega) (bt (by rw[cm];omega) (bt (by rw[List.length_replicate,cm,dx];omega) (av e ?_)));rw[fl (by omega)]
 ·obtain⟨i,ad,ag⟩:=rD.Ti dt;exact(hq i ad ag).elim
theorem aeV {m n:Nat}{a:Nat->Nat->Int}{b c:Nat->Int}{aI:Nat}{g:Nat->Nat}{hx:Nat->Nat->Rat}(hm:m<=20)(aV:n<=40)(gA:Small m (n+m) (dh m n a b))(a2:∀j,j<n-> -100<=c j/\c j<=100)(x0:Int)(fr eR k5:ar){w:Rat}{u:bV}{eO:List (List bx)}{df:Nat->Bool}{V:Nat->Rat}{o:Nat->Int}(eu:qV m n a b aI g hx df w u)(rA:∀j,j<n+m->df j=true->j<n)(f8:l5 aI (n+m) m g w u eO)(uS:qN m n a b (hy n c) 1 df V):
 ∃iT jR jV uL,KL (n:Int) x0 fr eR k5 ((n+m:Nat):Int) (hN aI (n+m) g) 0 (b8 w).cz (b8 w).b9 (aO (n+m) o) eO (cR aI u) (aO (n+m) df)=some ((b8 iT).cz,(b8 iT).b9,jV,cR aI jR,aO (n+m) uL)/\qV m n a b aI g hx uL iT jR/\l5 aI (n+m) m g iT jR jV/\ ∃V,qN m n a b (hy n c) (n+1) uL V:=by
 unfold KL
 obtain⟨r,e,ai⟩:=ra (f:=fun w:Int×Bool×ar×ar×(List (List bx))×ar×(List Bool)=>xv (n:Int) x0 fr eR k5 ((n+m:Nat):Int) (hN aI (n+m) g) w.1 w.2.1 w.2.2.1 w.2.2.2.1 w.2.2.2.2.1 w.2.2.2.2.2.1 w.2.2.2.2.2.2)
  (fun (k:Nat) (s:Bool×ar×ar×List (List bx)×ar×List Bool)=>((k:Int),s)) n (fun k s=>Nb m n a b c aI g hx (k+1) s)
  (fun r=> ∃iT jR jV uL,r=((b8 iT).cz,(b8 iT).b9,jV,cR aI jR,aO (n+m) uL)/\qV m n a b aI g hx uL iT jR/\l5 aI (n+m) m g iT jR jV/\ ∃V,qN m n a b (hy n c) (n+1) uL V)
  (fun k aX s bJ=> .inl (ac7 hm aV gA a2 x0 fr eR k5 k aX s bJ))
  (fun s bJ=>by obtain⟨w,u,eO,df,V,o,rfl,eu,rA,f8,uS⟩:=bJ;exact⟨_,by unfold xv;exact ea (by simp) rfl,w,u,eO,df,rfl,eu,f8,V,uS⟩)
  ((b8 w).cz,(b8 w).b9,aO (n+m) o,eO,cR aI u,aO (n+m) df) ⟨w,u,eO,df,V,o,rfl,eu,rA,f8,uS⟩
 obtain⟨iT,jR,jV,uL,rfl,h1,h2,R⟩:=ai;exact⟨iT,jR,jV,uL,e,h1,h2,R⟩
theorem af9:B 24<=B 50:=by decide +kernel
theorem aga:2<=eS:=by decide +kernel
theorem V3:40*(eS*100)<=21*100*(eS*eS):=by have:=Nat.mul_le_mul_left eS aga;omega
theorem aeW {n:Nat}(x0 x1:Int)(fr eR k5:ar)(lW:Bool)(sv:ar)(Xw:Int)(q1:List bR)(q2:List (List bx))(bN:ar)(cu:List Bool)(aV:n<=40):
 KM (n:Int) x0 x1 fr eR k5 lW sv Xw q1 q2 bN cu 0 (List.replicate n (none:Option eY))=some (aO n fun _=>hk 0):=by
 unfold KM
 obtain⟨s,e,-⟩:=hU (f:=fun w:Int×(List (Option eY))=>AJ (n:Int) x0 x1 fr eR k5 lW sv Xw q1 q2 bN cu w.1 w.2)
  (fun (k:Nat) (_:Unit)=>((k:Int),aO n fun j=>if j<k then hk 0 else none)) n (fun _ _=>True) (fun _=>aO n fun _=>hk 0)
  (fun k aX _ _=>by
    refine⟨(),?_,trivial⟩;unfold AJ;refine dv (by simp only;omega) (av (x:=hk 0) (Ii (n:=0) (by rw[k7];omega)) (bt (by simp only;rw[cm];omega) (bt (by simp only;rw[cm,dx];omega) ?_)));simp only;rw[fl (by omega),dx,dG,kJ];congr 3;refine eE fun j _=> ?_;by_cases bl:j=k
    ·subst bl;rw[dw rfl,dw (by omega)]
    ·rw[dz bl]
     by_cases cr:j<k
     ·rw[dw cr,dw (by omega)]
     ·rw[dz cr,dz (by omega)])
  (fun _ _=>by unfold AJ;refine ea (by simp) ?_;simp only;congr 2;exact eE fun j au=>by rw[dw au]) () trivial
 have e0:(aO n fun j=>if j<0 then hk 0 else none)=List.replicate n none:=by rw[rR];exact eE fun j _=>by rw[dz (by omega)]
 rw[<- e0];exact e
theorem L5 {t:bV}{N i j:Nat}:t.hf (i+1) N j=t.hf i N j+if t.B i=j then t.T i N else 0:=rfl
theorem ME {m n:Nat}{a:Nat->Nat->Int}{b:Nat->Int}{aI N:Nat}{u:bV}(h:LT m n a b aI N u){i k:Nat}(ad:i<aI)(aX:k<aI)(e:u.B i=u.B k):i=k:=by
 by_cases c:i=k
 ·exact c
 ·have h1:=h.unit i ad k aX;rw[<- e,h.unit i ad i ad,dw rfl,dz c] at h1;grind
theorem adW {m n aI N:Nat}{a:Nat->Nat->Int}{b:Nat->Int}{g:Nat->Nat}{w:Rat}{u:bV}(x0 x1:Int)(fr eR k5:ar)(lW:Bool)(cu:List Bool)(hm:aI<=20)(gx:N<=1000)(aS:LT m n a b aI N u)(f:p6 aI N w u){M:Nat}{eO:List (List bx)}(f8:l5 aI N M g w u eO)(aV:n<=40):
 KN (aI:Int) x0 x1 fr eR k5 lW (b8 w).b9 (N:Int) (cR aI u) (hN aI N g) eO cu 0 (aO n fun _=>hk 0)=some (aO n fun j=>hk (u.hf aI N j)):=by
 have hw:=MC f.hw;have aiP:0<w.num:=by have:(0:Rat)<((w.num:Int):Rat):=(by rw[hw.1];exact f.pos);exact Rat.intCast_lt_intCast.1 (by rw[show ((0:Int):Rat)=0 from rfl];exact this)
 have ahs:(b8 w).b9=L w.num:=by show L (w.num.natAbs:Int)=_;rw[Int.natAbs_of_nonneg (by omega)]
 have k4:=qE wN;have lT:=qE FE;have alg:=af9;rw[ahs];unfold KN
 obtain⟨s,e,-⟩:=hU (f:=fun v:Int×(List (Option eY))=>AK (aI:Int) x0 x1 fr eR k5 lW (L w.num) (N:Int) (cR aI u) (hN aI N g) eO cu v.1 v.2)
  (fun (k:Nat) (_:Unit)=>((k:Int),aO n fun j=>hk (u.hf k N j))) aI (fun _ _=>True) (fun _=>aO n fun j=>hk (u.hf aI N j))
  (fun k aX _ _=>by
    refine⟨(),?_,trivial⟩;have f6:=aS.jr k aX;have h3:=MC (f.h3 k aX N (dE _));have cD:u.hf k N (u.B k)=0:=bV.K9 fun i ad e=>(by have:=ME aS (by omega) aX e;omega);have yV:tl (b8 (u.T k N*w)) (L w.num)=some (hk (u.T k N)):=(by refine L3 aiP ?_ (by omega) (by omega);rw[hw.1,h3.1];grind);unfold AK;simp only;refine dv (by omega) (bt (by unfold cR;rw[cm];omega) (av (x:=((u.B k:Nat):Int)) (by rw[dx];exact hn aX) (bt (by unfold hN;rw[cm];omega) (av (x:=some (g k,N+1)) (by rw[dx];exact hn aX) (av (x:=(g k,N+1)) rfl (av (f8.row k aX) (bt (by simp only;omega) (av (x:=b8 (u.T k N*w)) (by rw[dx];exact hn (by omega)) (av yV (bt (by rw[cm];omega) (bt (by rw[cm,dx];omega) ?_)))))))))));rw[fl (by omega),dx,dG,kJ];congr 3;refine eE fun j _=> ?_;rw[L5];by_cases bl:j=u.B k
    ·subst bl;rw[dw rfl,dw rfl,cD];congr 1;grind
    ·rw[dz bl,dz (fun e=>bl e.symm)];congr 1;grind)
  (fun _ _=>by unfold AK;exact ea (by simp) rfl) () trivial
 exact e
theorem UF {m n:Nat}{a:Nat->Nat->Int}{b:Nat->Int}{aI N:Nat}{w:Rat}{u:bV}{K:Nat}(aS:LT m n a b aI N u)(f:∀i,i<aI->dX K (u.T i N*w))(j:Nat):dX K (u.hf aI N j*w):=by
 by_cases c : ∃i,i<aI/\u.B i=j
 ·obtain⟨i,ad,rfl⟩:=c;have:u.hf aI N (u.B i)=u.T i N:=(by unfold bV.hf;rw[k6 ad (f:=fun k=>if u.B k=u.B i then u.T k N else 0) (fun k aX c9=>dz fun e=>c9 (ME aS aX ad e)),dw rfl]);rw[this];exact f i ad
 ·rw[bV.K9 fun i ad e=>c ⟨i,ad,e⟩];exact⟨0,by rw[Rat.zero_mul];rfl,by simp⟩
theorem agb {m n:Nat}{a:Nat->Nat->Int}{b:Nat->Int}{aI N:Nat}{w:Rat}{u:bV}(aS:LT m n a b aI N u)(f:p6 aI N w u)(j:Nat):dX eS (u.hf aI N j*w):=UF aS (fun i ad=>f.h3 i ad N (dE _)) j
theorem qV.V4 {m n:Nat}{a:Nat->Nat->Int}{b:Nat->Int}{aI:Nat}{g:Nat->Nat}{w:Rat}{u:bV}{hx:Nat->Nat->Rat}{df:Nat->Bool}(gA:Small m (n+m) (dh m n a b))(h:qV m n a b aI g hx df w u):dX (nY 100 m) w/\ ∀i,i<aI->dX (nY 100 m) (u.T i (n+m)*w):=by
 obtain⟨t,bL,-,bJ,rfl⟩:=h.bL;have tc:dX (nY 100 m) (1*t.D m (dh m n a b)):=by rw[Rat.one_mul];exact wz fun i ad c a2=>gA.qX c a2 _ (Nat.le_of_lt (bL.inv.ok.jr i ad))
 refine⟨by have:=IE tc;rw[Rat.one_mul] at this;exact this,fun i ad=> ?_⟩;rw[bJ.T i ad];refine IE ?_;show dX (nY 100 m) (t.T (g i) (n+m)*_);rw[<- bL.inv.ok.xe (bL.lt i ad) (dE _)];refine wz fun k aX c a2=> ?_;simp only[hp];split
 ·exact gA.qX c a2 _ (dE _)
 ·exact gA.qX c a2 _ (Nat.le_of_lt (bL.inv.ok.jr k aX))
theorem UG {n:Nat}{w:Rat}{x:Nat->Rat}{c:Nat->Int}(hw:dX (21*100*eS) w)(ag:0<w)(ab:∀j,dX eS (x j*w))(a2:∀j,j<n-> -100<=c j/\c j<=100){k:Nat}(aX:k<=n)(aV:n<=40):eN (cv k fun j=>x j*(c j:Rat)):=by have h1:dX (k*(eS*100)) (cv k fun j=>x j*w*(c j:Rat)):=dX.sum fun j au=>(ab j).mul ⟨c j,rfl,by have:=a2 j (by omega);omega⟩;have h2:k*(eS*100)<=40*(eS*100):=dL _ (by omega);refine rZ (K:=21*100*(eS*eS)) (hw.mono wN) (h1.mono (Nat.le_trans h2 V3)) (by grind) ?_ (qE (dE _));rw[<- jK];exact gf fun j _=>by grind
theorem VA {w x:Rat}(hw:dX (21*100*eS) w)(ag:0<w)(ab:dX eS (x*w)):eN x :=
 rZ (K:=21*100*(eS*eS)) (hw.mono wN) (ab.mono FE) (by grind) (by grind) (qE (dE _))
theorem agc {w x:Rat}{c:Int}(hw:dX (21*100*eS) w)(ag:0<w)(ab:dX eS (x*w))(a2:-100<=c/\c<=100):eN (x*(c:Rat)):=by have:=ab.mul (show dX 100 (c:Rat) from ⟨c,rfl,by omega⟩);exact rZ (K:=21*100*(eS*eS)) (hw.mono wN) (this.mono (by have:=V3;omega)) (by grind) (by grind) (qE (dE _))
theorem afw {n:Nat}{w:Rat}(x0 x1:Int)(fr eR k5:ar){x:Nat->Rat}{c:Nat->Int}(aZ:k5=aO n c)(hw:dX (21*100*eS) w)(ag:0<w)(ab:∀j,dX eS (x j*w))(a2:∀j,j<n-> -100<=c j/\c j<=100)(aV:n<=40):
 KO (n:Int) x0 x1 fr eR k5 (aO n fun j=>hk (x j)) (hk 0) 0=some (hk (cv n fun j=>x j*(c j:Rat))):=by
 subst aZ;unfold KO
 obtain⟨s,e,-⟩:=hU (f:=fun v:(Option eY)×Int=>AL (n:Int) x0 x1 fr eR (aO n c) (aO n fun j=>hk (x j)) v.1 v.2)
  (fun (k:Nat) (_:Unit)=>(hk (cv k fun j=>x j*(c j:Rat)),(k:Int))) n (fun _ _=>True) (fun _=>hk (cv n fun j=>x j*(c j:Rat)))
  (fun k aX _ _=>by refine⟨(),?_,trivial⟩;have aiQ:=a2 k aX;have ad:m2 (c k):=(by rw[k7];omega);unfold AL;simp only;refine dv (by omega) (bt (by rw[cm];omega) (av (x:=hk (x k)) (by rw[dx];exact hn aX) (bt (by rw[cm];omega) (av (x:=c k) (by rw[dx];exact hn aX) (av (Ii ad) (av (afv (VA hw ag (ab k)) (Mf ad)) (av (af8 (UG hw ag ab a2 (Nat.le_of_lt aX) aV) (agc hw ag (ab k) aiQ)) ?_)))))));rw[fl (by omega)];rfl)
  (fun _ _=>by unfold AL;exact ea (by simp) rfl) () trivial
 exact e
theorem agd {m n:Nat}{a:Nat->Nat->Int}{b:Nat->Int}{aI N:Nat}{u:bV}(h:LT m n a b aI N u)(aV:n<=N):gU aI aI N u.T u where
 s8:=fun c a2 j _=>by rw[k6 a2 (f:=fun i=>u.T c (u.B i)*u.T i j) (fun i ad c9=>by rw[h.unit c a2 i ad,dz (fun e=>c9 e.symm)];grind),h.unit c a2 c a2,dw rfl];grind
 row:=⟨fun i c=>if i=c then 1 else 0,fun i ad j _=>by rw[k6 ad (f:=fun c=>(if i=c then (1:Rat) else 0)*u.T c j) (fun c _ c9=>by rw[dz (Ne.symm c9)];grind),dw rfl];grind⟩
 unit:=h.unit
 jr:=fun i ad=>Nat.lt_of_lt_of_le (h.jr i ad) aV
theorem aeX {p:iK}{m n:Nat}{a:Nat->Nat->Int}{b:Nat->Int}(h:lz p m n a b){c:Nat->Int}(nN:p.hg=aO n c)(a2:∀j,j<n-> -100<=c j/\c j<=100):
 ∃r,ue p.gn p.fk p.d4 p.ee p.hg=some r/\((¬pv m n a b/\r=(2,[],none))\/(pv m n a b/\ ¬Bounded m n a b (hy n c)/\r=(3,[],none)) \/
  (∃x w,uu m n a b (hy n c) x/\(0<w/\dX (nY 100 m) w/\ ∀j,dX (nY 100 m) (x j*w))/\(∀j,eN (x j))/\eN (val n (hy n c) x)/\r=(0,aO n (fun j=>hk (x j)),hk (val n (hy n c) x)))):=by
 have hm:=h.hm;have aV:=h.aV;have gA:=BG h;obtain⟨r,e,ai⟩:=T4 h;unfold ue;rcases ai with ⟨bJ,t,aI,g,eO,rfl,bL,f6,f8⟩|⟨bJ,rfl⟩
 ·have aS:=bL.Vh f6
  have eu:qV m n a b aI g (h7 g t).T (fun j=>decide (j<n)) (iv m (dh m n a b) t) (h7 g t) :=
   ⟨⟨t,bL,f6,⟨fun _ _ _=>rfl,fun _ _=>rfl⟩,rfl⟩,aS,agd aS (by omega),fun i ad=>decide_eq_true (f6 i ad)⟩
  obtain⟨ok,iT,jR,jV,uL,e1,aiR,eJ⟩:=T5 hm aV gA eu (fun j _ au=>of_decide_eq_true au) bL.inj bL.le (oZ n c 0) (UE a2 0) (T6 n c 0) (qN.zero (c:=hy n c) (fun j au=>decide_eq_true au) (fun _=>0)) f8
  have zB:p.hg++(List.replicate (n+m) 0:ar).drop p.hg.length=aO (n+m) (oZ n c 0):=by
   rw[nN,cm];apply List.ext_getElem?;intro i;by_cases ci:i<n
   ·rw[List.getElem?_append_left (by rw[cm];exact ci),f9 ci,f9 (by omega)];simp only[oZ];rw[dw ci]
   ·rw[List.getElem?_append_right (by rw[cm];omega),cm,List.getElem?_drop,show n+(i-n)=i by omega]
    by_cases N9:i<n+m
    ·rw[List.getElem?_replicate,dw N9,f9 N9];simp only[oZ];rw[dz ci]
    ·rw[List.getElem?_replicate,dz N9,List.getElem?_eq_none_iff.2 (by rw[cm];omega)]
  have Xb:p.hg.length=n:=(by rw[nN,cm]);rcases eJ with ⟨rfl,ry,aht,als,Gx⟩|⟨rfl,rD,q,a4,dt,hq⟩
  ·obtain⟨pK,mb,b1,alh,e2,uJ,aiS,alt,aiT⟩:=aeV (o:=oZ n c 0) hm aV gA a2 p.gn p.d4 p.ee p.hg ry aht aiR Gx
   have f2:=uJ.sX gA;have M9:=aiT.np uJ.lt uJ.Ot;have ab:=agb uJ.lt f2;have bc:cv n (fun j=>mb.hf aI (n+m) j*(c j:Rat))=val n (hy n c) (mb.hf aI (n+m)):=gf fun j au=>(by have:hy n c j=(c j:Rat):=(by unfold hy oZ;simp only;rw[dw au]);rw[this];exact Rat.mul_comm _ _);refine⟨_,av e ?_,.inr (.inr ⟨mb.hf aI (n+m),pK,M9,⟨f2.pos,(uJ.V4 gA).1,fun j=>UF uJ.lt (uJ.V4 gA).2 j⟩,fun j=>VA f2.hw f2.pos (ab j),?_,rfl⟩)⟩
   ·simp only
    refine bt (by omega) (bt (by rw[Xb,dx];omega) (av (by rw[dx,zB];exact e1) (d9 rfl ?_)));rw[h.gQ,dx,dx,zB];refine av e2 (bt (by omega) (av (aeW _ _ _ _ _ _ _ _ _ _ _ _ aV) (av (x:=aO n fun j=>hk (mb.hf aI (n+m) j)) ?_ (av (x:=hk 0) (Ii (n:=0) (by rw[k7];omega)) (av (x:=hk (val n (hy n c) (mb.hf aI (n+m)))) ?_ rfl)))))
    ·simp only;rw[show ((cR aI mb).length:Nat)=aI from cm ..];exact adW _ _ _ _ _ _ _ (by have:=bL.le;omega) (by omega) uJ.lt f2 aiS aV
    ·rw[cm,<- bc];exact afw _ _ _ _ _ nN f2.hw f2.pos ab a2 aV
   ·rw[<- bc];exact UG f2.hw f2.pos ab a2 (dE _) aV
  ·refine⟨_,av e ?_,.inr (.inl ⟨bJ,rD.Ji _ a4 dt hq,rfl⟩)⟩;simp only;exact bt (by omega) (bt (by rw[Xb,dx];omega) (av (by rw[dx,zB];exact e1) (e3 rfl rfl)))
 ·exact⟨_,av e rfl,.inl ⟨bJ,rfl⟩⟩
def m8 (n N j:Nat):Nat:=if j=n then N else j
theorem yC {n N j:Nat}(h:j<n):m8 n N j=j:=by unfold m8;rw[dz (by omega)]
theorem Ci {n N:Nat}:m8 n N n=N:=by unfold m8;rw[dw rfl]
theorem B9 {n N j:Nat}(aV:n<=N)(h:j<=n):m8 n N j<=N:=by unfold m8;split<;>omega
def pw (n N:Nat)(g:Nat->Nat)(t:bV):bV:=⟨fun i j=>t.T (g i) (m8 n N j),fun i=>t.B (g i)⟩
structure p7 (m n:Nat) (a:Nat->Nat->Int) (b:Nat->Int) (aI:Nat) (g:Nat->Nat) (hx:Nat->Nat->Rat) (u:bV):Prop where
 ok:gU aI aI n hx u
 bL : ∃t,ng m n (n+m) (dh m n a b) t aI g/\(∀i,i<aI->t.B (g i)<n)/\ ∀i,i<aI->(∀j,j<=n->u.T i j=t.T (g i) (m8 n (n+m) j))/\u.B i=t.B (g i)
theorem UH {m n:Nat}{a:Nat->Nat->Int}{b:Nat->Int}{aI:Nat}{g:Nat->Nat}{u t:bV}(h1:ng m n (n+m) (dh m n a b) t aI g)(h2:∀i,i<aI->t.B (g i)<n)(R:∀i,i<aI->(∀j,j<=n->u.T i j=t.T (g i) (m8 n (n+m) j))/\u.B i=t.B (g i)):LT m n a b aI n u:=by
 have L:=h1.Vh h2;refine⟨fun x=> ?_,fun i ad k aX=> ?_,fun i ad=>by rw[(R i ad).2];exact h2 i ad,fun i ad=> ?_,dE _⟩
 ·rw[L.eqv x]
  constructor<;>intro ab i ad
  ·have:=ab i ad;rw[(R i ad).1 n (dE _),Ci,gf (g:=fun j=>(h7 g t).T i j*x j) fun j au=>by rw[(R i ad).1 j (by omega),yC au];rfl];exact this
  ·have:=ab i ad;rw[(R i ad).1 n (dE _),Ci,gf (g:=fun j=>(h7 g t).T i j*x j) fun j au=>by rw[(R i ad).1 j (by omega),yC au];rfl] at this;exact this
 ·have aU:t.B (g k)<n:=h2 k aX;rw[(R k aX).2,(R i ad).1 _ (by omega),yC aU];exact L.unit i ad k aX
 ·show 0<=u.T i n;rw[(R i ad).1 n (dE _),Ci];exact L.ld i ad
theorem p7.lt {m n:Nat}{a:Nat->Nat->Int}{b:Nat->Int}{aI:Nat}{g:Nat->Nat}{hx:Nat->Nat->Rat}{u:bV}(h:p7 m n a b aI g hx u):LT m n a b aI n u:=by obtain⟨t,h1,h2,R⟩:=h.bL;exact UH h1 h2 R
theorem aeY {m aI:Nat}{g:Nat->Nat}(lt:∀i,i<aI->g i<m)(inj:∀i,i<aI-> ∀k,k<aI->g i=g k->i=k){F:Nat->Rat}(cD:∀d,d<m->(∀i,i<aI->g i≠d)->F d=0):cv m F=cv aI (fun i=>F (g i)):=by
 have e : ∀i,i<m->F i=cv aI (fun q=>if g q=i then F (g q) else 0):=fun i ad=>by
  by_cases bL : ∃q,q<aI/\g q=i
  ·obtain⟨q,a4,rfl⟩:=bL;rw[k6 a4 (f:=fun p=>if g p=g q then F (g p) else 0) fun p ag c9=>dz fun e=>c9 (inj p ag q a4 e),dw rfl]
  ·rw[cD i ad fun q a4 e=>bL ⟨q,a4,e⟩];exact(oe fun q a4=>dz fun e=>bL ⟨q,a4,e⟩).symm
 rw[gf e,q7];exact gf fun q a4=>by rw[k6 (lt q a4) (f:=fun i=>if g q=i then F (g q) else 0) fun i _ c9=>dz fun e=>c9 e.symm,dw rfl]
theorem Tu {m n:Nat}{a:Nat->Nat->Int}{b:Nat->Int}{aI:Nat}{g:Nat->Nat}{t u:bV}(h1:ng m n (n+m) (dh m n a b) t aI g)(R:∀i,i<aI->(∀j,j<=n->u.T i j=t.T (g i) (m8 n (n+m) j))/\u.B i=t.B (g i)){o:Nat->Rat}(an:∀j,n<=j->o j=0){j:Nat}(au:j<=n):u.cq aI o j=t.cq m o (m8 n (n+m) j):=by
 unfold bV.cq
 have e0:o (m8 n (n+m) j)=o j:=by
  unfold m8;by_cases c:j=n
  ·rw[dw c,an _ (by omega),an _ (by omega)]
  ·rw[dz c]
 rw[e0,aeY h1.lt h1.inj (F:=fun i=>o (t.B i)*t.T i (m8 n (n+m) j)) fun d bF hq=>by rw[an _ (h1.dead d bF hq).1];grind];congr 1;exact gf fun i ad=>by rw[(R i ad).1 j au,(R i ad).2]
theorem adX {m n:Nat}{a:Nat->Nat->Int}{b:Nat->Int}{aI:Nat}{g:Nat->Nat}{hx:Nat->Nat->Rat}{u:bV}{K:Nat}{obj:Nat->Nat->Rat}{bL:Nat->Prop}(h:p7 m n a b aI g hx u){r s:Nat}(cZ:oV aI n K obj bL u r s):p7 m n a b aI g hx (u.cl r s):=by
 obtain⟨t,h1,h2,R⟩:=h.bL;have bJ:=cZ.bJ;have h4 : ∀i,i<aI-> ∀j,j<n->u.T i j=(h7 g t).T i j:=fun i ad j au=>by rw[(R i ad).1 j (by omega),yC au];rfl
 have JH : ∀i,i<aI->u.T i n=(h7 g t).T i (n+m):=fun i ad=>by rw[(R i ad).1 n (dE _),Ci];rfl
 have te : ∀i,i<aI->u.B i=(h7 g t).B i:=fun i ad=>(R i ad).2;have Xx : ∀j,j<n->(u.qW aI K obj j↔(h7 g t).qW aI K obj j):=fun j au=>by have e : ∀l,u.cq aI (obj l) j=(h7 g t).cq aI (obj l) j:=fun l=>(by unfold bV.cq;congr 1;exact gf fun i ad=>by rw[h4 i ad j au,te i ad]);exact⟨fun x=>iz.congr x fun l _=>e l,fun x=>iz.congr x fun l _=>(e l).symm⟩
 have aiU:oV aI (n+m) K obj (fun j=>j<n/\bL j) (h7 g t) r s:=by
  refine⟨by omega,⟨bJ,cZ.F6⟩,(Xx s bJ).1 cZ.gs,fun j au bG dt=>cZ.least j au bG.2 ((Xx j bG.1).2 dt),cZ.ai,?_,fun i ad ag=> ?_,fun i ad ag e=> ?_⟩
  ·rw[<- h4 r cZ.ai s bJ];exact cZ.pos
  ·rw[<- JH r cZ.ai,<- JH i ad,<- h4 i ad s bJ,<- h4 r cZ.ai s bJ];exact cZ.ratio i ad (by rw[h4 i ad s bJ];exact ag)
  ·rw[<- JH r cZ.ai,<- JH i ad,<- h4 i ad s bJ,<- h4 r cZ.ai s bJ] at e;rw[<- te r cZ.ai,<- te i ad];exact cZ.tie i ad (by rw[h4 i ad s bJ];exact ag) e
 obtain⟨g1,g2,g3⟩:=h1.step h2 ⟨fun _ _ _=>rfl,fun _ _=>rfl⟩ aiU bJ;refine⟨cZ.ok h.ok,t.cl (g r) s,g1,g2,fun i ad=>⟨fun j au=> ?_,?_⟩⟩
 ·rw[show (t.cl (g r) s).T (g i) (m8 n (n+m) j)=(h7 g (t.cl (g r) s)).T i (m8 n (n+m) j) from rfl,<- g3.T i ad];have xd : ∀q,q<aI->u.T q j=(h7 g t).T q (m8 n (n+m) j):=fun q a4=>(R q a4).1 j au;simp only[bV.cl];rw[xd i ad,xd r cZ.ai,h4 r cZ.ai s bJ,h4 i ad s bJ]
 ·rw[show (t.cl (g r) s).B (g i)=(h7 g (t.cl (g r) s)).B i from rfl,<- g3.B i ad];simp only[bV.cl];rw[te i ad]
theorem p7.fits {m n:Nat}{a:Nat->Nat->Int}{b:Nat->Int}{aI:Nat}{g:Nat->Nat}{hx:Nat->Nat->Rat}{u:bV}(gA:Small m (n+m) (dh m n a b))(h:p7 m n a b aI g hx u):
 (∀i,i<aI-> ∀j,j<=n->eN (u.T i j))/\(∀i,i<aI-> ∀j,j<=n->0<u.T i j->eN (u.T i n / u.T i j)):=by
 obtain⟨t,h1,h2,R⟩:=h.bL;refine⟨fun i ad j au=> ?_,fun i ad j au ag=> ?_⟩
 ·rw[(R i ad).1 j au];exact h1.inv.IY gA (h1.lt i ad) (B9 (by omega) au)
 ·rw[(R i ad).1 j au] at ag ⊢;rw[(R i ad).1 n (dE _),Ci];exact h1.inv.V0 gA (h1.lt i ad) (B9 (by omega) au) ag
theorem p7.wO {m n:Nat}{a:Nat->Nat->Int}{b:Nat->Int}{aI:Nat}{g:Nat->Nat}{hx:Nat->Nat->Rat}{u:bV}(gA:Small m (n+m) (dh m n a b))(h:p7 m n a b aI g hx u){o:Nat->Rat}(an:∀j,n<=j->o j=0)(hw:∀j,dX 100 (o j)){j:Nat}(au:j<=n):eN (u.cq aI o j):=by obtain⟨t,h1,h2,R⟩:=h.bL;rw[Tu h1 R an au];exact h1.inv.wO gA (fun j _=>hw j) (B9 (by omega) au)
theorem p7.FF {m n:Nat}{a:Nat->Nat->Int}{b:Nat->Int}{aI:Nat}{g:Nat->Nat}{hx:Nat->Nat->Rat}{u:bV}(gA:Small m (n+m) (dh m n a b))(h:p7 m n a b aI g hx u){o:Nat->Rat}(an:∀j,n<=j->o j=0)(hw:∀j,dX 100 (o j)){r k:Nat}(ai:r<aI)(aX:k<n)(ag:u.T r k≠0):IX aI n u (u.cq aI o) r k:=by
 obtain⟨t,h1,h2,R⟩:=h.bL;have uO : ∀i,i<aI->u.T i k=t.T (g i) k:=fun i ad=>by rw[(R i ad).1 k (by omega),yC aX]
 have ml:t.T (g r) k≠0:=by rw[<- uO r ai];exact ag
 have P:=h1.inv.FF gA (o:=o) (fun j _=>hw j) (h1.lt r ai) (show k<n+m by omega) ml (h1.inv.ok.cl (h1.lt r ai) (by omega) ml);have Ou : ∀j,j<=n->u.cq aI o j=t.cq m o (m8 n (n+m) j):=fun j au=>Tu h1 R an au;have Xy:u.cq aI o k=t.cq m o k:=by rw[Ou k (by omega),yC aX]
 have pl : ∀j,j<=n->m8 n (n+m) j<=n+m:=fun j au=>B9 (by omega) au;refine⟨fun i ad j au=> ?_,fun i ad j au=> ?_,fun i ad c9 j au=> ?_,fun j au=> ?_,fun j au=> ?_,fun j au=> ?_⟩
 ·rw[(R i ad).1 j au];exact P.T _ (h1.lt i ad) _ (pl j au)
 ·have e:(u.cl r k).T i j=(t.cl (g r) k).T (g i) (m8 n (n+m) j):=by
   simp only[bV.cl];by_cases c:i=r
   ·subst c;rw[dw rfl,dw rfl,(R i ad).1 j au,uO i ad]
   ·rw[dz c,dz fun e=>c (h1.inj i ad r ai e),(R i ad).1 j au,(R r ai).1 j au,uO i ad,uO r ai]
  rw[e];exact P.h4 _ (h1.lt i ad) _ (pl j au)
 ·rw[uO i ad,uO r ai,(R r ai).1 j au];exact P.M _ (h1.lt i ad) (fun e=>c9 (h1.inj i ad r ai e)) _ (pl j au)
 ·rw[Ou j au];exact P.a2 _ (pl j au)
 ·rw[Ou j au,Xy,uO r ai,(R r ai).1 j au];exact P.uE _ (pl j au)
 ·rw[Xy,uO r ai,(R r ai).1 j au];exact P.hm _ (pl j au)
def h6 (m n:Nat)(t:bV):List Nat:=(List.range m).filter fun i=>decide (t.B i<n)
def km (m n:Nat)(t:bV)(i:Nat):Nat:=(h6 m n t).getD i 0
theorem Ev {m n:Nat}{t:bV}{i:Nat}(h:i<(h6 m n t).length):(h6 m n t)[i]? = some (km m n t i):=by unfold km;rw[List.getD_eq_getElem?_getD,dy h];rfl
theorem T7 {m n:Nat}{t:bV}{i:Nat}(h:i<(h6 m n t).length):km m n t i<m/\t.B (km m n t i)<n:=by have:=dH (Ev h);unfold h6 at this;rw[List.mem_filter,List.mem_range] at this;exact⟨this.1,of_decide_eq_true this.2⟩
theorem aeZ {m n:Nat}{t:bV}{i k:Nat}(ad:i<(h6 m n t).length)(aX:k<(h6 m n t).length)(e:km m n t i=km m n t k):i=k:=by have ajp:(h6 m n t).Nodup:=List.nodup_range.filter _;have h1:=Ev ad;have h2:=Ev aX;rw[e,<- h2] at h1;exact(List.getElem?_inj ad ajp).1 h1
theorem ae0 {m n:Nat}{t:bV}{d:Nat}(bF:d<m)(f6:t.B d<n): ∃i,i<(h6 m n t).length/\km m n t i=d:=by
 have:d∈h6 m n t:=by unfold h6;rw[List.mem_filter,List.mem_range];exact⟨bF,decide_eq_true f6⟩
 obtain⟨i,ad⟩:=List.getElem?_of_mem this;have aS:=gF ad;refine⟨i,aS,?_⟩;rw[Ev aS] at ad;exact dI ad
theorem ac8 {m n N:Nat}{A:Nat->Nat->Rat}{t:bV}(ad:lM m N A t)(cD:∀i,i<m->n<=t.B i->t.T i N=0)(bF:∀i,i<m->t.B i<n\/ ∀j,j<n->t.T i j=0):ng m n N A t (h6 m n t).length (km m n t) where
 inv:=ad
 z:=cD
 le:=by unfold h6;exact Nat.le_trans (List.length_filter_le ..) (by rw[List.length_range];exact dE _)
 lt:=fun i h=>(T7 h).1
 inj:=fun i h k aX e=>aeZ h aX e
 dead:=fun d h hq=>by have : ¬t.B d<n:=fun c=>(by obtain⟨i,h1,h2⟩:=ae0 h c;exact hq i h1 h2);exact⟨by omega,(bF d h).resolve_left this⟩
theorem age {α:Type}{T n:Nat}(f:Nat->α)(h:n<=T):(aO T f).take n=aO n f:=by
 apply List.ext_getElem?;intro i;by_cases c:i<n
 ·rw[List.getElem?_take,dw c,f9 (by omega),f9 c]
 ·rw[List.getElem?_take,dz c,List.getElem?_eq_none_iff.2 (by rw[cm];omega)]
structure sY (m n:Nat) (a:Nat->Nat->Int) (b:Nat->Int) (i:Nat) (t:bV):Prop where
 bL:ng m n (n+m) (dh m n a b) t m fun q=>q
 GN : ∀q,q<i->t.B q<n\/ ∀j,j<n->t.T q j=0
theorem sY.cl {m n:Nat}{a:Nat->Nat->Int}{b:Nat->Int}{i:Nat}{t:bV}(h:sY m n a b i t){k:Nat}(ad:i<m)(aX:k<n)(aU:n<=t.B i)(ag:t.T i k≠0):sY m n a b i (t.cl i k) where
 bL:=h.bL.cl (by omega) ad aX aU ag
 GN:=fun q a4=>by
  simp only[bV.cl];rw[dz (by omega)];rcases h.GN q a4 with d|d
  ·exact .inl d
  ·exact .inr fun j au=>by rw[dz (by omega),d j au,d k aX];grind
theorem adY {m n:Nat}{a:Nat->Nat->Int}{b:Nat->Int}(gA:Small m (n+m) (dh m n a b))(hm:m<=20)(aV:n<=40){i:Nat}(ad:i<m)(x0 x1:Int)(fr eR k5:ar)(fp:Int){t:bV}(h:sY m n a b i t):
 ∃cF,Kc (i:Int) fp ((n+m:Nat):Int) (iq m (n+m)) x0 (n:Int) fr eR k5 0 (cR m t) (hd (n+m) (t.cq m (gg m n))) (gk m (n+m) t)=some (cR m cF,hd (n+m) (cF.cq m (gg m n)),gk m (n+m) cF)/\sY m n a b (i+1) cF:=by
 unfold Kc
 obtain⟨r,e,cF,rfl,cX⟩:=ra (f:=fun w:Int×ar×(List aE)×(List (List aE))=>v8 (i:Int) fp ((n+m:Nat):Int) (iq m (n+m)) x0 (n:Int) fr eR k5 w.1 w.2.1 w.2.2.1 w.2.2.2)
  (fun (j:Nat) (t:bV)=>((j:Int),cR m t,hd (n+m) (t.cq m (gg m n)),gk m (n+m) t)) n (fun j t=>sY m n a b i t/\(t.B i<n\/ ∀q,q<j->t.T i q=0))
  (fun r=> ∃cF,r=(cR m cF,hd (n+m) (cF.cq m (gg m n)),gk m (n+m) cF)/\sY m n a b (i+1) cF)
  (fun j au t cN=>by
    obtain⟨f8,bF⟩:=cN;have hlen:(cR m t).length=m:=cm ..;simp only;by_cases c:t.B i<n
    ·refine .inr ⟨_,?_,t,rfl,f8.bL,fun q a4=> ?_⟩
     ·unfold v8;exact dv (by omega) (bt (by rw[hlen];omega) (av (x:=((t.B i:Nat):Int)) (by rw[dx];exact hn ad) (ea (by omega) rfl)))
     ·by_cases e:q=i
      ·rw[e];exact .inl c
      ·exact f8.GN q (by omega)
    ·have cD : ∀q,q<j->t.T i q=0:=bF.resolve_left c
     have pre : ∀o,(mx (cb (t.T i j)) >>= fun da=>if (da != (0:Int))=true then xJ (i:Int) (j:Int) ((n+m:Nat):Int) (iq m (n+m)) (cR m t) (hd (n+m) (t.cq m (gg m n))) (gk m (n+m) t) >>= fun gV=>some (.inl (U ((j:Int)+1),gV.1,gV.2.1,gV.2.2)) else some (.inl (U ((j:Int)+1),cR m t,hd (n+m) (t.cq m (gg m n)),gk m (n+m) t)))=some o->v8 (i:Int) fp ((n+m:Nat):Int) (iq m (n+m)) x0 (n:Int) fr eR k5 (j:Int) (cR m t) (hd (n+m) (t.cq m (gg m n))) (gk m (n+m) t)=some o:=fun o an=>(by unfold v8;exact dv (by omega) (bt (by rw[hlen];omega) (av (x:=((t.B i:Nat):Int)) (by rw[dx];exact hn ad) (dv (by omega) (bt (by unfold iq;rw[cm];omega) (av (x:=some (i,n+m+1)) (by rw[dx];exact hn ad) (av (x:=(i,n+m+1)) rfl (av (x:=hc (n+m) t i) (f9 ad) (bt (by simp only;omega) (av (x:=cb (t.T i j)) (by rw[dx];exact hn (by omega)) an))))))))));have i6:eN (t.T i j):=f8.bL.inv.IY gA ad (by omega);by_cases d:t.T i j=0
     ·refine .inl ⟨t,pre _ (av (pg i6) (e3 ?_ (by rw[fl (by omega)]))),f8,.inr fun q a4=> ?_⟩
      ·rw[oR.2 d];rfl
      ·by_cases e:q=j
       ·rw[e];exact d
       ·exact cD q (by omega)
     ·have P:=f8.bL.inv.FF gA (o:=gg m n) (fun j _=>ED m n j) ad (show j<n+m by omega) d (f8.bL.inv.ok.cl ad (by omega) d)
      have ajq:=T0 (N:=n+m) (by omega) (by omega) ad (show j<=n+m by omega) d P ((n+m:Nat):Int);refine .inl ⟨t.cl i j,pre _ (av (pg i6) (d9 (wX fun e=>d (oR.1 e)) (av ajq ?_))),f8.cl ad au (by omega) d,.inl ?_⟩
      ·rw[fl (by omega)];congr 3;refine Prod.ext rfl (Prod.ext ?_ rfl);exact eE fun q a4=>by rw[f8.bL.inv.ok.HS (gg m n) ad (by omega) d]
      ·simp only[bV.cl,if_true];exact au)
  (fun t cN=>by
    obtain⟨f8,bF⟩:=cN;refine⟨_,?_,t,rfl,f8.bL,fun q a4=> ?_⟩
    ·simp only;unfold v8;exact ea (by omega) rfl
    ·by_cases e:q=i
     ·rw[e];exact bF
     ·exact f8.GN q (by omega)) t ⟨h,.inr fun q a4=>by omega⟩
 exact⟨cF,e,cX⟩
theorem ac9 {m n:Nat}{a:Nat->Nat->Int}{b:Nat->Int}(gA:Small m (n+m) (dh m n a b))(hm:m<=20)(aV:n<=40)(x0:Int)(fr eR k5:ar){t:bV}(h:sY m n a b 0 t):
 ∃cF,Kd (m:Int) ((n+m:Nat):Int) (iq m (n+m)) x0 (n:Int) fr eR k5 0 (cR m t) (hd (n+m) (t.cq m (gg m n))) (gk m (n+m) t)=some (cR m cF,hd (n+m) (cF.cq m (gg m n)),gk m (n+m) cF)/\sY m n a b m cF:=by
 unfold Kd
 obtain⟨cF,e,cX⟩:=hU (f:=fun w:Int×ar×(List aE)×(List (List aE))=>z6 (m:Int) ((n+m:Nat):Int) (iq m (n+m)) x0 (n:Int) fr eR k5 w.1 w.2.1 w.2.2.1 w.2.2.2)
  (fun (i:Nat) (t:bV)=>((i:Int),cR m t,hd (n+m) (t.cq m (gg m n)),gk m (n+m) t)) m (fun i t=>sY m n a b i t) (fun t=>(cR m t,hd (n+m) (t.cq m (gg m n)),gk m (n+m) t))
  (fun i ad t f8=>by obtain⟨cF,e,cX⟩:=adY gA hm aV ad x0 x0 fr eR k5 (m:Int) f8;refine⟨cF,?_,cX⟩;simp only;unfold z6;exact dv (by omega) (av e (by rw[fl (by omega)])))
  (fun t _=>by simp only;unfold z6;exact ea (by omega) rfl) t h
 exact⟨cF,e,cX⟩
theorem ada {n:Nat}(aV:n<=40){c:Nat->Int}(a2:∀j,j<n-> -100<=c j/\c j<=100)(fp lW:Int)(q1:List bR)(q2:ar)(bN:List aE)(cu:List (List aE))(fr eR:ar):
 Ke fp q1 q2 bN cu lW (n:Int) fr eR (aO n c) 0 []=some (aO n fun j=>cb (c j:Rat)):=by
 unfold Ke
 obtain⟨_,e,-⟩:=hU (f:=fun w:Int×(List aE)=>z7 fp q1 q2 bN cu lW (n:Int) fr eR (aO n c) w.1 w.2) (fun (j:Nat) (_:Unit)=>((j:Int),aO j fun j=>cb (c j:Rat))) n (fun _ _=>True) (fun _=>aO n fun j=>cb (c j:Rat))
  (fun j au _ _=>by refine⟨(),?_,trivial⟩;have:=a2 j au;simp only;unfold z7;refine dv (by omega) (bt (by rw[cm];omega) (av (gt rfl (f9 au)) (av (rT (k7.2 (by omega))) (bt (by simp only[dF,cm,List.length_singleton];omega) ?_))));rw[fl (by omega),kW])
  (fun _ _=>by simp only;unfold z7;exact ea (by omega) rfl) () trivial
 exact e
theorem Tv (n:Nat)(t:bV)(i:Nat):h6 (i+1) n t=h6 i n t++(if t.B i<n then [i] else []):=by
 unfold h6;rw[List.range_succ,List.filter_append];congr 1;by_cases c:t.B i<n
 ·rw[dw c];simp[c]
 ·rw[dz c];simp[c]
theorem UI (n:Nat)(t:bV){i:Nat}(f6:t.B i<n): ∀m,i<m->(h6 m n t)[(h6 i n t).length]? = some i
 | 0,h=>by omega
 | m+1,h=>by
  rw[Tv];by_cases c:i<m
  ·have:=UI n t f6 m c;rw[List.getElem?_append_left (gF this)];exact this
  ·obtain rfl:i=m:=(by omega);rw[dw f6,List.getElem?_append_right (dE _),Nat.sub_self];rfl
theorem agf (n:Nat)(t:bV){i m:Nat}(f6:t.B i<n)(h:i<m):km m n t (h6 i n t).length=i:=by have:=UI n t f6 m h;have aS:=gF this;rw[Ev aS] at this;exact dI this
theorem UJ (n:Nat)(t:bV)(i:Nat):(h6 i n t).length<=i:=by unfold h6;exact Nat.le_trans (List.length_filter_le ..) (by rw[List.length_range];exact dE _)
theorem adZ {m n:Nat}(hm:m<=20)(aV:n<=40)(t:bV)(x0:Int)(fr eR k5:ar)(bN eh:List aE):
 Kf (m:Int) ((n+m:Nat):Int) (iq m (n+m)) (cR m t) bN (gk m (n+m) t) x0 (n:Int) fr eR k5 eh 0 [] [] [] =
  some (iq (h6 m n t).length n,gk (h6 m n t).length n (pw n (n+m) (km m n t) t),cR (h6 m n t).length (pw n (n+m) (km m n t) t)):=by
 unfold Kf
 obtain⟨_,e,-⟩:=hU (f:=fun w:Int×(List bR)×(List (List aE))×ar=>z8 (m:Int) ((n+m:Nat):Int) (iq m (n+m)) (cR m t) bN (gk m (n+m) t) x0 (n:Int) fr eR k5 eh w.1 w.2.1 w.2.2.1 w.2.2.2)
  (fun (i:Nat) (_:Unit)=>((i:Int),iq (h6 i n t).length n,gk (h6 i n t).length n (pw n (n+m) (km m n t) t),cR (h6 i n t).length (pw n (n+m) (km m n t) t))) m (fun _ _=>True)
  (fun _=>(iq (h6 m n t).length n,gk (h6 m n t).length n (pw n (n+m) (km m n t) t),cR (h6 m n t).length (pw n (n+m) (km m n t) t)))
  (fun i ad _ _=>by
    refine⟨(),?_,trivial⟩;have hle:=UJ n t i;have h1:(iq m (n+m)).length=m:=cm ..;have h2:(cR m t).length=m:=cm ..;have bJ:=Tv n t i;simp only;unfold z8;refine dv (by omega) (bt (by rw[h1];omega) (av (x:=some (i,n+m+1)) (by rw[dx];exact hn ad) (bt (by rw[h2];omega) (av (x:=((t.B i:Nat):Int)) (by rw[dx];exact hn ad) ?_))));by_cases c:t.B i<n;rotate_left
    ·refine ea (by omega) ?_;rw[dz c,List.append_nil] at bJ;rw[bJ,fl (by omega)]
    rw[dw c] at bJ;have dt:=agf n t c ad
    have el:([]++((hc (n+m) t i).drop 0).take (((n:Nat):Int).toNat-0))++[cb (t.T i (n+m))]=hc n (pw n (n+m) (km m n t) t) (h6 i n t).length:=by
     rw[dx,List.drop_zero,Nat.sub_zero,List.nil_append];unfold hc;rw[age _ (by omega),kW n];congr 1
     ·exact eE fun j au=>by show _=cb (t.T (km m n t (h6 i n t).length) (m8 n (n+m) j));rw[dt,yC au]
     ·show _=[cb (t.T (km m n t (h6 i n t).length) (m8 n (n+m) n))];rw[dt,Ci]
    have tQ:(hc n (pw n (n+m) (km m n t) t) (h6 i n t).length).length=n+1:=cm ..;have Ni:(gk (h6 i n t).length n (pw n (n+m) (km m n t) t)).length=(h6 i n t).length:=cm ..;refine dv (by omega) (av (x:=(i,n+m+1)) rfl (av (x:=hc (n+m) t i) (f9 ad) (bt (by omega) (bt (by simp only[dx];omega) (bt (by unfold hc;rw[cm,dx];omega) (bt (by rw[dx,List.nil_append,List.length_take,List.length_drop];omega) (bt (by simp only;omega) (av (x:=cb (t.T i (n+m))) (by rw[dx];exact hn (by omega)) ?_))))))));rw[el,tQ,Ni];refine bt (by omega) (bt (by simp only[dF,List.length_singleton];unfold iq;rw[cm];omega) (bt (by simp only[dF,List.length_singleton];unfold cR;rw[cm];omega) ?_));have rD:(h6 (i+1) n t).length=(h6 i n t).length+1:=(by rw[bJ,dF];rfl);rw[rD,fl (by omega)];unfold iq gk cR;rw[kW (h6 i n t).length fun q=>(some (q,n+1):bR),kW (h6 i n t).length (hc n (pw n (n+m) (km m n t) t)),kW (h6 i n t).length fun q=>(((pw n (n+m) (km m n t) t).B q:Nat):Int)];have aU:(pw n (n+m) (km m n t) t).B (h6 i n t).length=t.B i:=(by show t.B (km m n t (h6 i n t).length)=_;rw[dt]);rw[aU])
  (fun _ _=>by simp only;unfold z8;exact ea (by omega) rfl) () trivial
 exact e
theorem adb {Ov:Nat}{eO:List (List aE)}{row:List aE}(h:eO[Ov]? = some row)(k:Int)(bW len:Nat)(Ow:List aE):Dm k Ov bW len Ow eO=xG k bW len Ow row:=by
 have e : ∀t iX j6 td,(fun w:Int×(List aE)=>C9 Ov bW len t eO iX j6 td w.1 w.2)=fun w:Int×(List aE)=>v7 bW len t row iX j6 td w.1 w.2:=fun t iX j6 td=>by funext w;unfold C9 v7;rw[h];rfl
 unfold Dm xG PX Kb;simp only[e]
theorem Ij {n:Nat}{c:Nat->Int}{j:Nat}(h:n<=j):hy n c j=0:=by unfold hy oZ;simp only;rw[dz (by omega)];rfl
theorem VB {n:Nat}{c:Nat->Int}{j:Nat}(h:j<n):hy n c j=(c j:Rat):=by unfold hy oZ;simp only;rw[dw h]
theorem IG {n:Nat}{c:Nat->Int}(a2:∀j,j<n-> -100<=c j/\c j<=100)(j:Nat):dX 100 (hy n c j):=by
 by_cases h:j<n
 ·rw[VB h];have:=a2 j h;exact⟨c j,rfl,by omega⟩
 ·rw[Ij (by omega)];exact⟨0,rfl,by omega⟩
theorem L6 {m n:Nat}{a:Nat->Nat->Int}{b:Nat->Int}{aI:Nat}{g:Nat->Nat}{hx:Nat->Nat->Rat}{u:bV}(gA:Small m (n+m) (dh m n a b))(h:p7 m n a b aI g hx u){o:Nat->Rat}(hw:∀j,dX 100 (o j)){i j:Nat}(ad:i<=aI)(au:j<=n):eN (o j-cv i (fun q=>o (u.B q)*u.T q j)):=by
 obtain⟨t,h1,h2,R⟩:=h.bL;have hm:=gA.hm;have lc:=h1.le;have Xz:=h1.inv.zo gA;have e:(o j-cv i (fun q=>o (u.B q)*u.T q j))*t.D m (dh m n a b)=o j*t.D m (dh m n a b)-cv i (fun q=>o (u.B q)*(u.T q j*t.D m (dh m n a b))):=by rw[gf (f:=fun q=>o (u.B q)*(u.T q j*t.D m (dh m n a b))) (g:=fun q=>(o (u.B q)*u.T q j)*t.D m (dh m n a b)) (fun q _=>by grind),vb];grind
 have w:dX (21*100*eS) ((o j-cv i (fun q=>o (u.B q)*u.T q j))*t.D m (dh m n a b)):=by
  rw[e];refine dX.mono (((hw j).mul Xz).sub (dX.sum fun q a4=>(hw _).mul (tf:=eS) ?_)) ?_
  ·rw[(R q (by omega)).1 j au];exact h1.inv.uK gA (h1.lt q (by omega)) (B9 (by omega) au)
  ·have:i*(100*eS)<=20*(100*eS):=dL _ (by omega);omega
 exact rZ (Xz.mono (Nat.le_trans (by omega:eS<=21*100*eS) (dE _))) w h1.inv.ss (by grind) (qE wN)
theorem acs {m n:Nat}{a:Nat->Nat->Int}{b:Nat->Int}{aI:Nat}{g:Nat->Nat}{hx:Nat->Nat->Rat}{u:bV}(gA:Small m (n+m) (dh m n a b))(aV:n<=40)(h:p7 m n a b aI g hx u){o:Nat->Rat}(hw:∀j,dX 100 (o j))(fp lW:Int)(q1:List bR)(q2:ar)(bN:List aE)(cu:List (List aE)):
 Kg (aI:Int) fp q1 q2 bN cu lW (iq aI n) (gk aI n u) (cR aI u) 0 (hd n o)=some (hd n (u.cq aI o)):=by
 have lc:aI<=20:=by obtain⟨t,h1,-,-⟩:=h.bL;have:=h1.le;have:=gA.hm;omega
 obtain⟨GO,-⟩:=h.fits gA;have L:=h.lt;unfold Kg
 obtain⟨_,e,-⟩:=hU (f:=fun w:Int×(List aE)=>z9 (aI:Int) fp q1 q2 bN cu lW (iq aI n) (gk aI n u) (cR aI u) w.1 w.2) (fun (i:Nat) (_:Unit)=>((i:Int),hd n fun j=>o j-cv i (fun q=>o (u.B q)*u.T q j))) aI (fun _ _=>True) (fun _=>hd n (u.cq aI o))
  (fun i ad _ _=>by
    refine⟨(),?_,trivial⟩;have aU:=L.jr i ad;have kR:(iq aI n).length=aI:=cm ..;have kS:(cR aI u).length=aI:=cm ..;have XA:o (u.B i)-cv i (fun q=>o (u.B q)*u.T q (u.B i))=o (u.B i):=(by rw[oe fun q a4=>by rw[L.unit q (by omega) i ad,dz (by omega)];grind];grind);have rF : ∀j,o j-cv i (fun q=>o (u.B q)*u.T q j)-(o (u.B i)-cv i (fun q=>o (u.B q)*u.T q (u.B i)))*u.T i j=o j-cv (i+1) (fun q=>o (u.B q)*u.T q j):=fun j=>by rw[XA,cv];grind
    have ajr:=Ts (n+1) (by omega) (u.B i) (by omega) (fun j=>o j-cv i (fun q=>o (u.B q)*u.T q j)) (fun j=>u.T i j) (fun j au=>L6 gA h hw (by omega) (by omega)) (fun j au=>GO i ad j (by omega)) (fun j au=>by
     have f1:=L6 gA h hw (i:=i+1) (j:=j) (by omega) (by omega);rw[XA];obtain⟨t,h1,h2,R⟩:=h.bL;have w:=((hw (u.B i)).neg).mul (h1.inv.uK gA (h1.lt i ad) (B9 (n:=n) (N:=n+m) (j:=j) (by omega) (by omega)));rw[<- (R i ad).1 j (by omega)] at w;exact rZ (K:=21*100*eS) ((h1.inv.zo gA).mono (by omega)) (w.mono (by omega)) h1.inv.ss (by grind) (qE wN)) (fun j au=>by
     rw[rF];exact L6 gA h hw (by omega) (by omega))
    simp only;unfold z9;refine dv (by omega) (bt (by rw[kR];omega) (av (x:=some (i,n+1)) (by rw[dx];exact hn ad) (bt (by rw[kS];omega) (av (x:=((u.B i:Nat):Int)) (by rw[dx];exact hn ad) (av (x:=(i,n+1)) rfl (av (x:=hc n u i) (f9 ad) (av (x:=hd n fun j=>o j-cv (i+1) (fun q=>o (u.B q)*u.T q j)) ?_ (bt (by unfold hd;rw[cm,cm]) (by rw[fl (by omega)])))))))));refine Eq.trans (adb (eO:=gk aI n u) (row:=hc n u i) (f9 ad) _ _ _ _) (Eq.trans ajr ?_);congr 1;exact eE fun j _=>by rw[rF])
  (fun _ _=>by simp only;unfold z9;exact ea (by omega) rfl) () trivial
 have e0:(hd n fun j=>o j-cv 0 (fun q=>o (u.B q)*u.T q j))=hd n o:=eE fun j _=>by show cb (o j-0)=_;congr 1;grind
 rw[e0] at e;exact e
theorem ad0 {aI n:Nat}(hm:aI<=20)(aV:n<=40){u:bV}(inj:∀i,i<aI-> ∀k,k<aI->u.B i=u.B k->i=k)(GO:∀i,i<aI-> ∀j,j<=n->eN (u.T i j))(z:Int)(q:List aE){j:Nat}(au:j<n)(k:Nat):KC z (gk aI n u) (cR aI u) q (j:Int) true (k:Int) (aI:Int) 0 0=some (jt (cv aI fun i=>if u.B i=k then u.T i j else 0)):=by
 unfold KC
 obtain⟨_,e,-⟩:=hU (f:=fun w:Int×Int=>Ax z (gk aI n u) (cR aI u) q (j:Int) true (k:Int) (aI:Int) w.1 w.2) (fun (i:Nat) (_:Unit)=>(jt (cv i fun i=>if u.B i=k then u.T i j else 0),(i:Int))) aI (fun _ _=>True) (fun _=>jt (cv aI fun i=>if u.B i=k then u.T i j else 0))
  (fun i ad _ _=>by
    refine⟨(),?_,trivial⟩;have kR:(cR aI u).length=aI:=cm ..;have kS:(gk aI n u).length=aI:=cm ..;have CY:(hc n u i).length=n+1:=cm ..;simp only;unfold Ax;refine dv (by omega) (bt (by rw[kR];omega) (av (x:=((u.B i:Nat):Int)) (by rw[dx];exact f9 ad) ?_));by_cases c:u.B i=k
    ·refine d9 (pD (by omega)) (bt (by rw[kS];omega) (av (x:=hc n u i) (by rw[dx];exact f9 ad) (bt (by rw[CY];omega) (av (x:=cb (u.T i j)) (by rw[dx];exact f9 (by omega)) (av (pg (GO i ad j (by omega))) ?_)))));rw[fl (by omega),cv,dw c,oe fun q a4=>dz fun e=>by have:=inj q (by omega) i ad (by omega);omega];congr 4;grind
    ·refine e3 (rz (by omega)) ?_;rw[fl (by omega),cv,dz c,Rat.add_zero])
  (fun _ _=>by simp only;unfold Ax;exact ea (by omega) rfl) () trivial
 have e0:jt (cv 0 fun i=>if u.B i=k then u.T i j else 0)=0:=oR.2 rfl;rw[e0] at e;exact e
theorem T8 {aI:Nat}{c:Nat->Rat}{u:bV}{j k:Nat}:u.cq aI (hI c (k+1)) j=(if j=k then -1 else 0)+cv aI (fun i=>if u.B i=k then u.T i j else 0):=by
 unfold bV.cq;have:cv aI (fun i=>hI c (k+1) (u.B i)*u.T i j)=cv aI (fun i=>(-1:Rat)*(if u.B i=k then u.T i j else 0)):=gf fun i _=>by simp only[hI];split<;>grind
 rw[this,jK];simp only[hI];grind
theorem acu {aI n:Nat}(hm:aI<=20)(aV:n<=40){c:Nat->Rat}{u:bV}(inj:∀i,i<aI-> ∀k,k<aI->u.B i=u.B k->i=k)(GO:∀i,i<aI-> ∀j,j<=n->eN (u.T i j))(ajs:∀j,j<=n->eN (u.cq aI c j)){j:Nat}(au:j<n):
 ∃g,u6 ⟨(n:Int),gk aI n u,cR aI u,hd n (u.cq aI c)⟩ (j:Int) true=some g/\((∀i,i<aI->u.B i≠j)->(0<g↔u.qW aI (n+1) (hI c) j)):=by
 have kR:(hd n (u.cq aI c)).length=n+1:=cm ..;have th:len_ eI (cR aI u)=((aI:Nat):Int):=by rw[fU];show ((aO aI _).length:Int)=_;rw[cm]
 obtain⟨r,e,ai⟩:=ra (f:=fun w:Int×Int=>xr (n:Int) (gk aI n u) (cR aI u) (hd n (u.cq aI c)) (j:Int) true w.1 w.2)
  (fun (k:Nat) (_:Unit)=>(jt (u.cq aI (hI c k) j),(k:Int))) n (fun k _=>k<=j/\ ∀l,l<k->u.cq aI (hI c l) j=0)
  (fun r=> ∃g,(r = .inl g\/(r = .inr ()/\g = -1))/\((∀i,i<aI->u.B i≠j)->(0<g↔u.qW aI (n+1) (hI c) j)))
  (fun k aX _ cN=>by
    obtain⟨alu,cD⟩:=cN;simp only;unfold xr;by_cases z:u.cq aI (hI c k) j=0
    ·have fp:jt (u.cq aI (hI c k) j)=0:=oR.2 z
     have uG : ∀l,l<k+1->u.cq aI (hI c l) j=0:=fun l aS=>by
      by_cases e:l=k
      ·rw[e];exact z
      ·exact cD l (by omega)
     by_cases e:k=j
     ·refine .inr ⟨.inr (),?_,-1,.inr ⟨rfl,rfl⟩,fun GG=>⟨fun h=>absurd h (by omega),fun dt=> ?_⟩⟩
      ·rw[fp];exact d9 rfl (d9 rfl (dv (by omega) (d9 (pD (by omega)) rfl)))
      ·exfalso
       have neg:u.cq aI (hI c (k+1)) j = -1:=(by rw[T8,dw e.symm,oe fun i ad=>dz fun x=>GG i ad (by omega)];grind);obtain⟨l,gM,gX,bB⟩:=dt;simp only at gX bB;by_cases bl:l<k+1
       ·rw[uG l bl] at gX;grind
       ·by_cases cr:l=k+1
        ·rw[cr,neg] at gX;grind
        ·have:=bB (k+1) (by omega);rw[neg] at this;grind
     ·refine .inl ⟨(),?_,by omega,uG⟩;rw[fp,th];refine d9 rfl (d9 rfl (dv (by omega) (e3 (rz (by omega)) (av (ad0 hm aV inj GO (n:Int) (hd n (u.cq aI c)) au k) ?_))));rw[fl (by omega),T8,dz (fun x=>e x.symm),Rat.zero_add]
    ·refine .inr ⟨.inl (jt (u.cq aI (hI c k) j)),?_,_,.inl rfl,fun GG=> ?_⟩
     ·exact e3 (rz fun x=>z (oR.1 x)) rfl
     ·rw[sH]
      constructor
      ·intro h;exact⟨k,by omega,h,cD⟩
      ·rintro⟨l,gM,gX,bB⟩
       simp only at gX bB;by_cases bl:l<k
       ·rw[cD l bl] at gX;grind
       ·by_cases cr:l=k
        ·rw[cr] at gX;exact gX
        ·exact absurd (bB k (by omega)) z)
  (fun _ cN=>absurd cN.1 (by omega)) () ⟨by omega,fun l aS=>by omega⟩
 obtain⟨g,dt,a4⟩:=ai;refine⟨g,?_,a4⟩;unfold u6;refine bt (by simp only;rw[kR];omega) (av (x:=cb (u.cq aI c j)) (by simp only;rw[dx];exact f9 (by omega)) (av (pg (ajs j (by omega))) (av (x:=r) e ?_)));rcases dt with rfl|⟨rfl,rfl⟩<;>rfl
theorem afx {x:Rat}(ab:eN x):DW (cb x)=some (cb x):=by
 have p:=ab.df;have h1:=p.oY;have h2:=p.oq;have e1:(cb x).dn.b9.length<=100:=by show (L (ep x).1.natAbs).length<=100;omega
 have e2:(cb x).eM.length<=100:=by show (L (ep x).2).length<=100;omega
 unfold DW;rw[List.nil_append,List.nil_append];exact bt (by omega) (bt (by omega) rfl)
theorem HX {aI n:Nat}{u:bV}(inj:∀i,i<aI-> ∀k,k<aI->u.B i=u.B k->i=k)(j:Nat): ∀i,i<=aI->(∃q,q<i/\u.B q=j/\u.hf i n j=u.T q n)\/((∀q,q<i->u.B q≠j)/\u.hf i n j=0)
 | 0,_=> .inr ⟨fun q a4=>by omega,rfl⟩
 | i+1,ad=>by
  rw[L5];by_cases c:u.B i=j
  ·rw[dw c]
   rcases HX inj j i (by omega) with ⟨q,h1,h2,-⟩|⟨-,h2⟩
   ·have:=inj q (by omega) i (by omega) (by omega);omega
   ·exact .inl ⟨i,by omega,c,by rw[h2];grind⟩
  ·rw[dz c,Rat.add_zero]
   rcases HX inj j i (by omega) with ⟨q,h1,h2,R⟩|⟨h1,h2⟩
   ·exact .inl ⟨q,by omega,h2,R⟩
   ·refine .inr ⟨fun q a4=> ?_,h2⟩
    by_cases e:q=i
    ·rw[e];exact c
    ·exact h1 q (by omega)
theorem ad1 {p:iK}{m n:Nat}{a:Nat->Nat->Int}{b:Nat->Int}(h:lz p m n a b){c:Nat->Int}(nN:p.hg=aO n c)(a2:∀j,j<n-> -100<=c j/\c j<=100){t:bV}(cj:sY m n a b 0 t):
 ∃aI g u q1 q2 bN,aI<=20/\p7 m n a b aI g u.T u/\A8 p ((n+m:Nat):Int) (iq m (n+m)) (cR m t) (hd (n+m) (t.cq m (gg m n))) (gk m (n+m) t)=some (q1,q2,bN,(n:Int),iq aI n,cR aI u,hd n (u.cq aI (hy n c)),gk aI n u):=by
 have hm:=h.hm;have aV:=h.aV;have gA:=BG h;obtain⟨cF,bM,nH⟩:=ac9 gA hm aV p.gn p.d4 p.ee p.hg cj;have bL:=ac8 nH.bL.inv nH.bL.z nH.GN;have f6 : ∀i,i<(h6 m n cF).length->cF.B (km m n cF i)<n:=fun i ad=>(T7 ad).2;have R : ∀i,i<(h6 m n cF).length->(∀j,j<=n->(pw n (n+m) (km m n cF) cF).T i j=cF.T (km m n cF i) (m8 n (n+m) j))/\(pw n (n+m) (km m n cF) cF).B i=cF.B (km m n cF i):=fun i ad=>⟨fun _ _=>rfl,rfl⟩;have L:=UH bL f6 R;have hle:=UJ n cF m
 have fj:p7 m n a b (h6 m n cF).length (km m n cF) (pw n (n+m) (km m n cF) cF).T (pw n (n+m) (km m n cF) cF):=by
  refine⟨?_,cF,bL,f6,R⟩;by_cases z:(h6 m n cF).length=0
  ·rw[z];exact⟨fun c a2=>by omega,⟨fun _ _=>0,fun i ad=>by omega⟩,fun i ad=>by omega,fun i ad=>by omega⟩
  ·have:=f6 0 (by omega);exact L.tok (dE _) (by omega)
 have kR:((iq m (n+m)).length:Int)=(m:Int):=by unfold iq;rw[cm]
 have kS:((iq (h6 m n cF).length n).length:Int)=(((h6 m n cF).length:Nat):Int):=by unfold iq;rw[cm]
 have aiV:(aO n fun j=>cb (c j:Rat))++[cb 0]=hd n (hy n c):=by
  unfold hd;rw[kW];congr 1
  ·exact eE fun j au=>by rw[VB au]
  ·rw[Ij (dE _)]
 refine⟨(h6 m n cF).length,km m n cF,pw n (n+m) (km m n cF) cF,cR m cF,hd (n+m) (cF.cq m (gg m n)),gk m (n+m) cF,by omega,fj,?_⟩;unfold A8;rw[kR,h.gQ];refine av bM ?_;simp only;rw[nN];refine av (ada aV a2 _ _ _ _ _ _ _ _) (av (rT (n:=0) (k7.2 (by omega))) ?_);rw[show ((0:Int):Rat)=0 from rfl,aiV];refine bt (by unfold hd;rw[cm];omega) (av (adZ hm aV cF _ _ _ _ _ _) ?_);simp only;rw[kS];exact av (acs gA aV fj (IG a2) _ _ _ _ _ _) rfl
theorem ad2 {p:iK}{m n:Nat}{a:Nat->Nat->Int}{b:Nat->Int}(h:lz p m n a b){c:Nat->Int}(nN:p.hg=aO n c)(a2:∀j,j<n-> -100<=c j/\c j<=100):
 ∃r,uc p=some r/\((¬pv m n a b/\r=⟨2,[],⟨⟨false,[]⟩,[]⟩⟩)\/(pv m n a b/\ ¬Bounded m n a b (hy n c)/\r=⟨3,[],⟨⟨false,[]⟩,[]⟩⟩) \/
  ∃x,uu m n a b (hy n c) x/\(∀j,eN (x j))/\eN (val n (hy n c) x)/\r=⟨0,aO n (fun j=>cb (x j)),cb (val n (hy n c) x)⟩):=by
 have hm:=h.hm;have aV:=h.aV;have gA:=BG h;obtain⟨t,e1,cN,bJ⟩:=Tt h;have ajt:=cN.wO gA (fun j _=>ED m n j) (dE (n+m));have aju:(hd (n+m) (t.cq m (gg m n))).length=n+m+1:=cm ..
 have pre : ∀r,(if (jt (t.cq m (gg m n) (n+m)) != (0:Int))=true then some (⟨2,[],⟨⟨false,[]⟩,[]⟩⟩:wu) else
  A8 p ((n+m:Nat):Int) (iq m (n+m)) (cR m t) (hd (n+m) (t.cq m (gg m n))) (gk m (n+m) t) >>= fun bC =>
  ub true bC.2.2.2.1 bC.2.2.2.2.1 bC.2.2.2.2.2.1 bC.2.2.2.2.2.2.1 bC.2.2.2.2.2.2.2 >>= fun cS =>
  if cS.1=true then
   if 0<=bC.2.2.2.1/\bC.2.2.2.1<(cS.2.2.1.length:Nat) then
   cS.2.2.1[(0+bC.2.2.2.1.toNat)]? >>= fun Gc =>
   sC Gc >>= fun gV =>
   Ky p.gn p.fk p.d4 p.ee p.hg bC.2.2.2.1 bC.2.2.2.2.1 cS.2.1 cS.2.2.1 cS.2.2.2 gV.dn.cz gV.dn.b9 gV.eM 0 ([]:List aE) >>= fun mK =>
   Kz ((cS.2.1.length:Nat):Int) bC.2.2.2.1 bC.2.2.2.2.1 cS.2.1 cS.2.2.1 cS.2.2.2 gV.dn.cz gV.dn.b9 gV.eM 0 mK >>= fun vO =>
   some (⟨0,vO,gV⟩:wu)
   else none
  else some (⟨3,([]:List aE),(⟨(⟨false,([]:ar)⟩:bx),([]:ar)⟩:aE)⟩:wu))=some r->uc p=some r:=fun r ai=>by
  unfold uc;exact av (T1 h) (av e1 (bt (by simp only;rw[aju];omega) (av (x:=cb (t.cq m (gg m n) (n+m))) (by simp only;rw[dx];exact hn (by omega)) (av (pg ajt) ai))))
 by_cases z:t.cq m (gg m n) (n+m)=0;rotate_left
 ·exact⟨_,pre _ (d9 (wX fun e=>z (oR.1 e)) rfl),.inl ⟨fun s=>z (bJ.2 s),rfl⟩⟩
 have ajv:=bJ.1 z;have ajw:sY m n a b 0 t:=⟨⟨cN,Lj cN.ld z cN.ok.jr,dE _,fun i ad=>ad,fun i _ k _ e=>e,fun d bF hq=>(hq d bF rfl).elim⟩,fun q a4=>by omega⟩;obtain⟨aI,g,u,q1,q2,bN,lc,fj,e2⟩:=ad1 h nN a2 ajw;have an : ∀j,n<=j->hy n c j=0:=fun j au=>Ij au;have inj : ∀ {v:bV},p7 m n a b aI g u.T v-> ∀i,i<aI-> ∀k,k<aI->v.B i=v.B k->i=k:=fun bc i ad k aX e=>ME bc.lt ad aX e
 obtain⟨q,v,bM,zD,eJ⟩:=Vd (eQ:=aI) (m:=aI) (N:=n) (K:=n+1) (by omega) (by omega) (A:=u.T) (obj:=hI (hy n c)) true (p7 m n a b aI g u.T)
  (fun t cj=>⟨cj.ok,cj.lt.ld⟩) (fun t r s cj cZ=>adX cj cZ)
  (fun t cj j au=>acu lc aV (inj cj) (fun i ad j au=>(cj.fits gA).1 i ad j au) (fun j au=>cj.wO gA an (IG a2) au) au)
  (fun t cj i ad j au=>(cj.fits gA).1 i ad j au) (fun t cj i ad j au ag=>(cj.fits gA).2 i ad j au ag)
  (fun t cj r k ai aX ag=>cj.FF gA an (IG a2) ai aX ag) u fj
 have wS:ub true (n:Int) (iq aI n) (cR aI u) (hd n (u.cq aI (hy n c))) (gk aI n u)=some (q,cR aI v,hd n (v.cq aI (hy n c)),gk aI n v):=bM;have GP:=zD.lt;rcases eJ with ⟨rfl,eJ⟩|⟨rfl,s,vR,dt,hq⟩;rotate_left
 ·refine⟨_,pre _ (e3 (by rw[oR.2 z];rfl) (av e2 (av wS (e3 rfl rfl)))),.inr (.inl ⟨ajv,?_,rfl⟩)⟩
  obtain⟨l,aS,ag,-⟩:=dt
  cases l with
  | zero=>exact GP.Ji (hy n c) vR ag hq
  | succ k =>
   obtain⟨i,ad,jh⟩:=GP.Ti (c:=hy n c) ag;exact(hq i ad jh).elim
 have np:=GP.np eJ
 have Ox : ∀i,i<=aI-> ∀j,eN (v.hf i n j):=fun i ad j=>by
  rcases HX (inj zD) (n:=n) j i ad with ⟨q,h1,-,R⟩|⟨-,h2⟩
  ·rw[R];exact(zD.fits gA).1 q (by omega) n (dE _)
  ·rw[h2];exact Mf (n:=0) (k7.2 (by omega))
 have bc:v.cq aI (hy n c) n = -val n (hy n c) (v.hf aI n):=by unfold val;rw[GP.EA (hy n c)];unfold bV.cq;rw[Ij (dE _)];grind
 have Xc:=zD.wO gA an (IG a2) (dE n);have ahu:eN (val n (hy n c) (v.hf aI n)):=by have:=Xc.neg;rw[bc,Rat.neg_neg] at this;exact this
 refine⟨_,pre _ (e3 (by rw[oR.2 z];rfl) (av e2 (av wS (d9 rfl (bt ?_ (av (x:=cb (v.cq aI (hy n c) n)) ?_ (av (ET Xc) (av (x:=aO n fun _=>cb 0) ?_ (av (x:=aO n fun j=>cb (v.hf aI n j)) ?_ rfl))))))))),.inr (.inr ⟨_,np,fun j=>Ox aI (dE _) j,ahu,?_⟩)⟩
 ·simp only;unfold hd;rw[cm];omega
 ·simp only;rw[dx];exact hn (by omega)
 ·unfold Ky
  rw[h.gQ]
  obtain⟨_,e,-⟩:=hU (f:=fun w:Int×(List aE)=>As p.gn (n:Int) p.d4 p.ee p.hg (n:Int) (iq aI n) (cR aI v) (hd n (v.cq aI (hy n c))) (gk aI n v) (cb (-v.cq aI (hy n c) n)).dn.cz (cb (-v.cq aI (hy n c) n)).dn.b9 (cb (-v.cq aI (hy n c) n)).eM w.1 w.2) (fun (j:Nat) (_:Unit)=>((j:Int),aO j fun _=>cb (0:Rat))) n (fun _ _=>True) (fun _=>aO n fun _=>cb (0:Rat))
   (fun j au _ _=>by refine⟨(),?_,trivial⟩;simp only;unfold As;refine dv (by omega) (av (rT (n:=0) (k7.2 (by omega))) (bt (by simp only[dF,cm,List.length_singleton];omega) ?_));rw[fl (by omega),kW];rfl)
   (fun _ _=>by simp only;unfold As;exact ea (by omega) rfl) () trivial
  exact e
 ·have th:(((cR aI v).length:Nat):Int)=(aI:Int):=by unfold cR;rw[cm]
  simp only;rw[th];unfold Kz
  obtain⟨_,e,-⟩:=hU (f:=fun w:Int×(List aE)=>At (aI:Int) (n:Int) (iq aI n) (cR aI v) (hd n (v.cq aI (hy n c))) (gk aI n v) (cb (-v.cq aI (hy n c) n)).dn.cz (cb (-v.cq aI (hy n c) n)).dn.b9 (cb (-v.cq aI (hy n c) n)).eM w.1 w.2) (fun (i:Nat) (_:Unit)=>((i:Int),aO n fun j=>cb (v.hf i n j))) aI (fun _ _=>True) (fun _=>aO n fun j=>cb (v.hf aI n j))
   (fun i ad _ _=>by
     refine⟨(),?_,trivial⟩;have aU:=GP.jr i ad;have kR:(cR aI v).length=aI:=cm ..;have kS:(iq aI n).length=aI:=cm ..;simp only;unfold At;refine dv (by omega) (bt (by rw[kR];omega) (av (x:=((v.B i:Nat):Int)) (by rw[dx];exact hn ad) (bt (by rw[kS];omega) (av (x:=some (i,n+1)) (by rw[dx];exact hn ad) (av (x:=(i,n+1)) rfl (av (x:=hc n v i) (f9 ad) (bt (by omega) (av (x:=cb (v.T i n)) (by rw[dx];exact hn (by omega)) (av (afx ((zD.fits gA).1 i ad n (dE _))) (bt (by rw[cm];omega) (bt (by rw[cm,dx];omega) ?_)))))))))));rw[fl (by omega),dx,dG,kJ];congr 3;refine eE fun j _=> ?_;rw[L5];by_cases e:j=v.B i
     ·rw[dw e,dw e.symm]
      rcases HX (inj zD) (n:=n) j i (by omega) with ⟨q,h1,h2,-⟩|⟨-,h2⟩
      ·have:=inj zD q (by omega) i ad (by omega);omega
      ·rw[h2,Rat.zero_add]
     ·rw[dz e,dz fun x=>e x.symm,Rat.add_zero])
   (fun _ _=>by simp only;unfold At;exact ea (by omega) rfl) () trivial
  exact e
 ·rw[bc,Rat.neg_neg]
def wQ (k:Nat)(x:dg):List fA:=(if x.jN=2 then [] else [⟨(k:Int),1⟩])++(if x.jN=1 then [] else [⟨(k:Int),-1⟩])
def m4 (eX:List dg):Nat->List fA
 | 0=>[]
 | n+1=>m4 eX n++(match eX[n]? with
  | some x=>wQ n x
  | none=>[])
theorem HY (eX:List dg): ∀n,(m4 eX n).length<=2*n
 | 0=>by simp[m4]
 | n+1=>by
  have:=HY eX n;rw[m4,dF]
  have h2:(match eX[n]? with
   | some x=>wQ n x
   | none=>[]).length<=2:=by
   split
   ·rename_i x _;unfold wQ;rw[dF];split<;>split<;>simp
   ·simp
  omega
theorem T9 {eX:List dg}: ∀ {n:Nat} {c:fA},n<=eX.length->c∈m4 eX n-> ∃k:Nat,c.nQ=k/\k<n/\(c.rk=1\/c.rk = -1)
 | 0,c,_,h=>by simp[m4] at h
 | n+1,c,aV,h=>by
  rw[m4,List.mem_append] at h;rcases h with h|h
  ·obtain⟨k,h1,h2,R⟩:=T9 (by omega) h;exact⟨k,h1,by omega,R⟩
  ·rw[dy (by omega)] at h
   simp only[wQ,List.mem_append] at h;rcases h with h|h
   ·split at h
    ·simp at h
    ·simp at h;subst h;exact⟨n,rfl,by omega,.inl rfl⟩
   ·split at h
    ·simp at h
    ·simp at h;subst h;exact⟨n,rfl,by omega,.inr rfl⟩
theorem SV (s:dc)(eu:s.bI.length<=1000):Al s=some (m4 s.bI s.bI.length):=by
 unfold Al O0;rw[fH]
 obtain⟨x,e,-⟩:=hU (f:=fun w:Int×List fA=>zQ s.bI (s.bI.length:Nat) w.1 w.2) (fun (n:Nat) (_:Unit)=>((n:Int),m4 s.bI n)) s.bI.length (fun _ _=>True) (fun _=>m4 s.bI s.bI.length)
  (fun n aV _ _=>by
    refine⟨(),?_,trivial⟩;have ab:=dy aV;have aS:=HY s.bI n;have e1:m4 s.bI (n+1)=m4 s.bI n++wQ n s.bI[n]:=(by rw[m4,ab]);unfold zQ;refine dv (by simp only;omega) (bt (by simp only;omega) (av (x:=s.bI[n]) (by simp only;rw[dx];exact ab) ?_));simp only;rw[fl (by omega),e1];unfold wQ;by_cases bl:s.bI[n].jN=2
    ·rw[dw bl];refine e3 (Jg bl) (d9 (wX (by omega)) (bt (by simp only[dF,List.length_cons,List.length_nil];omega) ?_));rw[dz (by omega)];simp
    ·rw[dz bl]
     refine d9 (wX bl) (bt (by simp only[dF,List.length_cons,List.length_nil];omega) ?_);by_cases cr:s.bI[n].jN=1
     ·refine e3 (Jg cr) ?_;rw[dw cr];simp
     ·refine d9 (wX cr) (bt (by simp only[dF,List.length_cons,List.length_nil];omega) ?_);rw[dz cr];simp)
  (fun _ _=>by unfold zQ;exact ea (by simp) rfl) () trivial
 exact av e rfl
theorem RY (s:dc)(eu:s.bI.length<=1000):uX s=some ((m4 s.bI s.bI.length).map fA.nQ,(m4 s.bI s.bI.length).map fA.rk):=by
 unfold uX P9;rw[fH]
 obtain⟨x,e,-⟩:=hU (f:=fun w:Int×ar×ar=>Ab s.bI (s.bI.length:Nat) w.1 w.2.1 w.2.2) (fun (n:Nat) (_:Unit)=>((n:Int),(m4 s.bI n).map fA.nQ,(m4 s.bI n).map fA.rk)) s.bI.length (fun _ _=>True) (fun _=>((m4 s.bI s.bI.length).map fA.nQ,(m4 s.bI s.bI.length).map fA.rk))
  (fun n aV _ _=>by
    refine⟨(),?_,trivial⟩;have ab:=dy aV;have aS:=HY s.bI n;have e1:m4 s.bI (n+1)=m4 s.bI n++wQ n s.bI[n]:=(by rw[m4,ab]);unfold Ab;refine dv (by simp only;omega) (bt (by simp only;omega) (av (x:=s.bI[n]) (by simp only;rw[dx];exact ab) ?_));simp only;rw[fl (by omega),e1];unfold wQ;by_cases bl:s.bI[n].jN=2
    ·rw[dw bl];refine e3 (Jg bl) (d9 (wX (by omega)) (bt (by simp only[dF,List.length_map,List.length_cons,List.length_nil];omega) (bt (by simp only[dF,List.length_map,List.length_cons,List.length_nil];omega) ?_)));rw[dz (by omega)];simp
    ·rw[dz bl]
     refine d9 (wX bl) (bt (by simp only[dF,List.length_map,List.length_cons,List.length_nil];omega) (bt (by simp only[dF,List.length_map,List.length_cons,List.length_nil];omega) ?_));by_cases cr:s.bI[n].jN=1
     ·refine e3 (Jg cr) ?_;rw[dw cr];simp
     ·refine d9 (wX cr) (bt (by simp only[dF,List.length_map,List.length_cons,List.length_nil];omega) (bt (by simp only[dF,List.length_map,List.length_cons,List.length_nil];omega) ?_));rw[dz cr];simp)
  (fun _ _=>by unfold Ab;exact ea (by simp) rfl) () trivial
 exact av e rfl
theorem afy {α:Type}(a b:Nat)(f:Nat->α):aO (a+b) f=aO a f++aO b (fun j=>f (a+j)):=by
 induction b with
 | zero=>simp[aO]
 | succ b ih=>rw[<- Nat.add_assoc,kW,ih,kW,List.append_assoc]
def nD (s:dc)(k:Nat):Int×Int:=(tY s k).getD (0,0)
theorem L7 (s:dc)(h:oH s)(k:Nat)(aX:k<s.bI.length):tY s k=some (nD s k)/\(-100<=(nD s k).1/\(nD s k).1<=100)/\(-100<=(nD s k).2/\(nD s k).2<=100):=by
 obtain⟨x,y,h1,R,ah⟩:=afo s h k (by omega) (by omega);have e:nD s k=(x,y):=by unfold nD;rw[h1];rfl
 rw[e];exact⟨h1,R,ah⟩
def jG (s:dc)(j:Int)(kk k:Nat):Int :=
 match s.bI[k]? with
 | none=>0
 | some x=>if j=x.d4 then (if kk=0 then (nD s k).1 else (nD s k).2) else if j=x.ee then -(if kk=0 then (nD s k).1 else (nD s k).2) else 0
theorem agh (s:dc)(h:oH s)(j:Int)(kk k:Nat): -100<=jG s j kk k/\jG s j kk k<=100:=by
 unfold jG;split
 ·omega
 ·rename_i x ab
  obtain⟨-,R,ah⟩:=L7 s h k (gF ab);split
  ·split<;>omega
  ·split
   ·split<;>omega
   ·omega
theorem afz (s:dc)(h:oH s)(j:Int)(q1:ar)(q2 bN:Int)(cu:ar):
 KB j q1 q2 bN s.bI (len_ b7 s.bI) s.ca cu 0 ([]:ar) ([]:ar)=some (aO s.bI.length (jG s j 0),aO s.bI.length (jG s j 1)):=by
 obtain⟨-,-,f3,f4⟩:=id h;unfold KB;rw[fH]
 obtain⟨x,e,-⟩:=hU (f:=fun w:Int×ar×ar=>Av j q1 q2 bN s.bI (s.bI.length:Nat) s.ca cu w.1 w.2.1 w.2.2) (fun (n:Nat) (_:Unit)=>((n:Int),aO n (jG s j 0),aO n (jG s j 1))) s.bI.length (fun _ _=>True) (fun _=>(aO s.bI.length (jG s j 0),aO s.bI.length (jG s j 1)))
  (fun n aV _ _=>by
    refine⟨(),?_,trivial⟩;have ab:=dy aV;obtain⟨v1,v3,v4⟩:=L7 s h n aV;have v2:=afp s h n (by omega) (by omega) v1;unfold Av;refine dv (by simp only;omega) (bt (by simp only;omega) (av (x:=s.bI[n]) (by simp only;rw[dx];exact ab) (av (x:=nD s n) v2 ?_)));simp only;rw[fl (by omega),kW,kW];have g : ∀(F:Nat->Int) (v:Int),(aO n F++[v]).length*8<=140737488355328:=fun F v=>(by simp only[dF,cm,List.length_cons,List.length_nil];omega);by_cases bl:j=s.bI[n].d4
    ·have e0 : ∀kk,jG s j kk n=if kk=0 then (nD s n).1 else (nD s n).2:=fun kk=>(by unfold jG;rw[ab];simp only[dw bl]);refine d9 (pD bl) (bt (g _ _) (bt (g _ _) ?_));rw[e0,e0];rfl
    ·refine e3 (rz bl) ?_
     by_cases cr:j=s.bI[n].ee
     ·have e0 : ∀kk,jG s j kk n = -(if kk=0 then (nD s n).1 else (nD s n).2):=fun kk=>(by unfold jG;rw[ab];simp only[dz bl,dw cr]);refine d9 (pD cr) (bt (g _ _) (bt (g _ _) ?_));rw[e0,e0,cT (by omega) (by omega),cT (by omega) (by omega)];simp
     ·have e0 : ∀kk,jG s j kk n=0:=fun kk=>(by unfold jG;rw[ab];simp only[dz bl,dz cr]);refine e3 (rz cr) (bt (g _ _) (bt (g _ _) ?_));rw[e0,e0])
  (fun _ _=>by unfold Av;exact ea (by simp) rfl) () trivial
 exact e
theorem afA (s:dc)(h:oH s)(j:Int)(q1:ar)(q2 bN:Int)(cu:List ar):
 JL s.ca s.bI j q1 q2 bN (len_ b7 s.bI) cu 0 (aO s.bI.length fun _=>(0:Int)) (aO s.bI.length fun _=>(0:Int))=some (aO s.bI.length (jG s j 0),aO s.bI.length (jG s j 1)):=by
 obtain⟨-,-,f3,f4⟩:=id h;unfold JL;rw[fH]
 obtain⟨x,e,-⟩:=hU (f:=fun w:Int×ar×ar=>zK s.ca s.bI j q1 q2 bN (s.bI.length:Nat) cu w.1 w.2.1 w.2.2) (fun (n:Nat) (_:Unit)=>((n:Int),(aO s.bI.length fun k=>if k<n then jG s j 0 k else 0),aO s.bI.length fun k=>if k<n then jG s j 1 k else 0)) s.bI.length (fun _ _=>True) (fun _=>(aO s.bI.length (jG s j 0),aO s.bI.length (jG s j 1)))
  (fun n aV _ _=>by
    refine⟨(),?_,trivial⟩;have ab:=dy aV;obtain⟨v1,v3,v4⟩:=L7 s h n aV
    have cZ : ∀kk v,v=jG s j kk n->(aO s.bI.length fun k=>if k<n then jG s j kk k else 0).set n v=aO s.bI.length fun k=>if k<n+1 then jG s j kk k else 0:=fun kk v bc=>by
     rw[kJ];refine eE fun k _=> ?_;by_cases c:k=n
     ·subst c;rw[dw rfl,dw (by omega)];exact bc
     ·rw[dz c]
      by_cases cr:k<n
      ·rw[dw cr,dw (by omega)]
      ·rw[dz cr,dz (by omega)]
    have g1 : ∀F:Nat->Int,0<=((n:Nat):Int)/\((n:Nat):Int)<((aO s.bI.length F).length:Nat):=fun F=>(by rw[cm];omega);have g2 : ∀F:Nat->Int,0+((n:Nat):Int).toNat<(aO s.bI.length F).length:=fun F=>(by rw[cm,dx];omega);unfold zK;refine dv (by simp only;omega) (bt (by simp only;omega) (av (x:=s.bI[n]) (by simp only;rw[dx];exact ab) (av (x:=nD s n) v1 ?_)));simp only;by_cases bl:j=s.bI[n].d4
    ·have e0 : ∀kk,jG s j kk n=if kk=0 then (nD s n).1 else (nD s n).2:=fun kk=>(by unfold jG;rw[ab];simp only[dw bl]);refine d9 (pD bl) (bt (g1 _) (bt (g2 _) (bt (g1 _) (bt (g2 _) ?_))));rw[fl (by omega),dx,dG,cZ 0 _ (by rw[e0];rfl),cZ 1 _ (by rw[e0];rfl)]
    ·refine e3 (rz bl) ?_
     by_cases cr:j=s.bI[n].ee
     ·have e0 : ∀kk,jG s j kk n = -(if kk=0 then (nD s n).1 else (nD s n).2):=fun kk=>(by unfold jG;rw[ab];simp only[dz bl,dw cr]);refine d9 (pD cr) (bt (g1 _) (bt (g2 _) (bt (g1 _) (bt (g2 _) ?_))));rw[fl (by omega),dx,dG,cT (by omega) (by omega),cT (by omega) (by omega),cZ 0 _ (by rw[e0];simp),cZ 1 _ (by rw[e0];simp)]
     ·have e0 : ∀kk,jG s j kk n=0:=fun kk=>by unfold jG;rw[ab];simp only[dz bl,dz cr]
      refine e3 (rz cr) ?_;rw[fl (by omega)];congr 4
      ·refine eE fun k _=> ?_
       by_cases c:k=n
       ·subst c;rw[dz (by omega),dw (by omega),e0]
       ·by_cases cr:k<n
        ·rw[dw cr,dw (by omega)]
        ·rw[dz cr,dz (by omega)]
      ·refine eE fun k _=> ?_
       by_cases c:k=n
       ·subst c;rw[dz (by omega),dw (by omega),e0]
       ·by_cases cr:k<n
        ·rw[dw cr,dw (by omega)]
        ·rw[dz cr,dz (by omega)])
  (fun _ _=>by
    unfold zK;refine ea (by simp) ?_;simp only;congr 3
    ·exact eE fun k aX=>by rw[dw aX]
    ·exact eE fun k aX=>by rw[dw aX]) () trivial
 have z : ∀kk,(aO s.bI.length fun k=>if k<0 then jG s j kk k else 0)=aO s.bI.length fun _=>(0:Int):=fun kk=>eE fun k _=>by rw[dz (by omega)]
 rw[z,z] at e;exact e
def iJ (s:dc)(q:Nat):Nat:=(l3 s.ca 0).getD q 0
def fq (s:dc):Nat:=(l3 s.ca 0).length
def lA (s:dc)(r k:Nat):Int:=jG s (iJ s (r / 2)) (r % 2) k
theorem Ew (s:dc):(l3 s.ca 0).map (fun n:Nat=>(n:Int))=aO (fq s) fun q=>((iJ s q:Nat):Int):=by
 apply List.ext_getElem?;intro q;rw[dJ];by_cases c:q<fq s
 ·rw[f9 c];have h:(l3 s.ca 0)[q]? = some (l3 s.ca 0)[q]:=dy c;unfold iJ;rw[List.getD_eq_getElem?_getD,h];rfl
 ·rw[List.getElem?_eq_none_iff.2 (by unfold fq at c;omega),List.getElem?_eq_none_iff.2 (by rw[cm];omega)];rfl
theorem Vi (s:dc){q:Nat}(h:q<fq s):iJ s q<s.ca.length:=by
 have h1:(l3 s.ca 0)[q]? = some (l3 s.ca 0)[q]:=dy h;have h2:iJ s q=(l3 s.ca 0)[q]:=by unfold iJ;rw[List.getD_eq_getElem?_getD,h1];rfl
 have:=L0 s.ca 0 _ (dH h1);omega
theorem Cj (s:dc):fq s<=s.ca.length:=TY s.ca 0
theorem Mh {α:Type}(r n:Nat)(e:Nat->Nat->α):(aO (r*n) fun x=>e (x / n) (x % n))++aO n (e r)=aO ((r+1)*n) fun x=>e (x / n) (x % n):=by
 rw[Nat.succ_mul,afy];congr 1;refine eE fun j au=> ?_;have h1:(r*n+j) / n=r:=by rw[Nat.mul_comm,Nat.mul_add_div (by omega),Nat.div_eq_of_lt au];rfl
 have h2:(r*n+j) % n=j:=by rw[Nat.mul_comm,Nat.mul_add_mod,Nat.mod_eq_of_lt au]
 rw[h1,h2]
theorem ade (s:dc)(h:oH s):xO s=some (aO (2*fq s*s.bI.length) fun x=>lA s (x / s.bI.length) (x % s.bI.length)):=by
 obtain⟨-,-,f3,f4⟩:=id h;have w9:=Cj s;unfold xO;refine av (Lx s (by omega)) ?_;rw[Ew,fU,cm];unfold Ra
 obtain⟨x,e,-⟩:=hU (f:=fun w:Int×ar=>Aw (aO (fq s) fun q=>((iJ s q:Nat):Int)) ((fq s:Nat):Int) s.ca s.bI w.1 w.2) (fun (n:Nat) (_:Unit)=>((n:Int),aO (2*n*s.bI.length) fun x=>lA s (x / s.bI.length) (x % s.bI.length))) (fq s) (fun _ _=>True) (fun _=>aO (2*fq s*s.bI.length) fun x=>lA s (x / s.bI.length) (x % s.bI.length))
  (fun n aV _ _=>by refine⟨(),?_,trivial⟩;have aU:2*n*s.bI.length<=12*8:=Nat.mul_le_mul (by omega) f4;unfold Aw;refine dv (by simp only;omega) (bt (by rw[cm];simp only;omega) (av (x:=((iJ s n:Nat):Int)) (by simp only;rw[dx];exact f9 aV) (av (afz s h _ _ _ _ _) ?_)));refine bt (by simp only[dF,cm];omega) (bt (by simp only[dF,cm];omega) ?_);simp only;rw[fl (by omega)];have r1:aO s.bI.length (jG s (iJ s n) 0)=aO s.bI.length (lA s (2*n)):=eE fun k _=>(by unfold lA;rw[show 2*n / 2=n by omega,show 2*n % 2=0 by omega]);have r2:aO s.bI.length (jG s (iJ s n) 1)=aO s.bI.length (lA s (2*n+1)):=eE fun k _=>(by unfold lA;rw[show (2*n+1) / 2=n by omega,show (2*n+1) % 2=1 by omega]);rw[r1,r2,Mh (2*n),Mh (2*n+1),show 2*n+1+1=2*(n+1) by omega])
  (fun _ _=>by unfold Aw;exact ea (by simp) rfl) () trivial
 have z:(aO (2*0*s.bI.length) fun x=>lA s (x / s.bI.length) (x % s.bI.length))=[]:=by simp[aO]
 rw[z] at e;exact av e rfl
theorem abo (s:dc)(h:oH s):C7 s=some (aO (2*fq s) fun r=>aO s.bI.length (lA s r)):=by
 obtain⟨-,-,f3,f4⟩:=id h;have w9:=Cj s;unfold C7;refine av (RX s (by omega)) ?_;rw[Ew,fU,cm];unfold OQ
 obtain⟨x,e,-⟩:=hU (f:=fun w:Int×List ar=>zL s.ca s.bI (aO (fq s) fun q=>((iJ s q:Nat):Int)) ((fq s:Nat):Int) w.1 w.2) (fun (n:Nat) (_:Unit)=>((n:Int),aO (2*n) fun r=>aO s.bI.length (lA s r))) (fq s) (fun _ _=>True) (fun _=>aO (2*fq s) fun r=>aO s.bI.length (lA s r))
  (fun n aV _ _=>by refine⟨(),?_,trivial⟩;unfold zL;refine dv (by simp only;omega) (bt (by rw[cm];simp only;omega) (av (x:=((iJ s n:Nat):Int)) (by simp only;rw[dx];exact f9 aV) (bt (by rw[fH];omega) ?_)));refine av (x:=(aO s.bI.length (jG s (iJ s n) 0),aO s.bI.length (jG s (iJ s n) 1))) (by rw[show (len_ b7 s.bI).toNat=s.bI.length by rw[fH,dx],rR];exact afA s h _ _ _ _ _) (bt (by simp only[dF,cm,List.length_cons,List.length_nil];omega) ?_);simp only;rw[fl (by omega),show 2*(n+1)=2*n+1+1 by omega,kW (2*n+1),kW (2*n)];have r1:aO s.bI.length (jG s (iJ s n) 0)=aO s.bI.length (lA s (2*n)):=eE fun k _=>(by unfold lA;rw[show 2*n / 2=n by omega,show 2*n % 2=0 by omega]);have r2:aO s.bI.length (jG s (iJ s n) 1)=aO s.bI.length (lA s (2*n+1)):=eE fun k _=>(by unfold lA;rw[show (2*n+1) / 2=n by omega,show (2*n+1) % 2=1 by omega]);rw[r1,r2];simp)
  (fun _ _=>by unfold zL;exact ea (by simp) rfl) () trivial
 exact av e rfl
def gQ (s:dc):List fA:=m4 s.bI s.bI.length
def c0 (s:dc):Nat:=(gQ s).length
def mf (s:dc)(c:Nat):Nat:=((gQ s).getD c ⟨0,0⟩).nQ.toNat
def n9 (s:dc)(c:Nat):Int:=((gQ s).getD c ⟨0,0⟩).rk
def lX (s:dc)(i c:Nat):Int:=n9 s c*lA s i (mf s c)
def nO (s:dc)(l:ar)(i:Nat):Int:= -(l.getD (2*iJ s (i / 2)+i % 2) 0)
theorem wD (s:dc){c:Nat}(a2:c<c0 s):(gQ s)[c]? = some ⟨(mf s c:Int),n9 s c⟩/\mf s c<s.bI.length/\(n9 s c=1\/n9 s c = -1):=by
 have h1:(gQ s)[c]? = some (gQ s)[c]:=dy a2;have h2:(gQ s).getD c ⟨0,0⟩=(gQ s)[c]:=by rw[List.getD_eq_getElem?_getD,h1];rfl
 obtain⟨k,e1,e2,bM⟩:=T9 (dE _) (dH h1);have db:mf s c=k:=by unfold mf;rw[h2,e1];rfl
 have dW:n9 s c=((gQ s)[c]).rk:=by unfold n9;rw[h2]
 refine⟨?_,by omega,by rw[dW];exact bM⟩;rw[h1,db,dW,<- e1]
theorem Ck (s:dc):c0 s<=2*s.bI.length:=HY _ _
theorem UK (s:dc):(gQ s).map fA.nQ=aO (c0 s) fun c=>((mf s c:Nat):Int):=by
 apply List.ext_getElem?;intro c;rw[dJ];by_cases h:c<c0 s
 ·rw[(wD s h).1,f9 h];rfl
 ·rw[List.getElem?_eq_none_iff.2 (by unfold c0 at h;omega),List.getElem?_eq_none_iff.2 (by rw[cm];omega)];rfl
theorem UL (s:dc):(gQ s).map fA.rk=aO (c0 s) (n9 s):=by
 apply List.ext_getElem?;intro c;rw[dJ];by_cases h:c<c0 s
 ·rw[(wD s h).1,f9 h];rfl
 ·rw[List.getElem?_eq_none_iff.2 (by unfold c0 at h;omega),List.getElem?_eq_none_iff.2 (by rw[cm];omega)];rfl
theorem MQ (s:dc)(h:oH s)(i:Nat){c:Nat}(a2:c<c0 s): -100<=lX s i c/\lX s i c<=100:=by have h1:=agh s h (iJ s (i / 2)) (i % 2) (mf s c);unfold lX lA;rcases(wD s a2).2.2 with e|e<;>rw[e]<;>omega
theorem ae1 (s:dc)(h:oH s)(l:ar)(aS:l.length=2*s.ca.length)(aU:∀x∈l,-100<=x/\x<=100):we s l=some (aO (2*fq s) (nO s l)):=by
 obtain⟨-,-,f3,f4⟩:=id h;have w9:=Cj s;unfold we;refine av (Lx s (by omega)) ?_;rw[Ew,fU,cm];unfold QP
 obtain⟨x,e,-⟩:=hU (f:=fun w:Int×ar=>An l (aO (fq s) fun q=>((iJ s q:Nat):Int)) ((fq s:Nat):Int) w.1 w.2) (fun (n:Nat) (_:Unit)=>((n:Int),aO (2*n) (nO s l))) (fq s) (fun _ _=>True) (fun _=>aO (2*fq s) (nO s l))
  (fun n aV _ _=>by refine⟨(),?_,trivial⟩;have cp:=Vi s aV;have pK:U ((2:Int)*((iJ s n:Nat):Int))=((2*iJ s n:Nat):Int):=(by rw[cT (by omega) (by omega)];omega);have uP:U (((2*iJ s n:Nat):Int)+1)=((2*iJ s n+1:Nat):Int):=fl (by omega);have x1:=aU l[2*iJ s n] (List.getElem_mem (by omega));have x2:=aU l[2*iJ s n+1] (List.getElem_mem (by omega));have p1:nO s l (2*n) = -l[2*iJ s n]:=(by unfold nO;rw[show 2*n / 2=n by omega,show 2*n % 2=0 by omega,Nat.add_zero,List.getD_eq_getElem?_getD,dy (by omega)];rfl);have p2:nO s l (2*n+1) = -l[2*iJ s n+1]:=(by unfold nO;rw[show (2*n+1) / 2=n by omega,show (2*n+1) % 2=1 by omega,List.getD_eq_getElem?_getD,dy (by omega)];rfl);unfold An;refine dv (by simp only;omega) (bt (by rw[cm];simp only;omega) (av (x:=((iJ s n:Nat):Int)) (by simp only;rw[dx];exact f9 aV) ?_));rw[pK,uP];refine bt (by omega) (av (x:=l[2*iJ s n]) (by rw[dx];exact dy (by omega)) (bt (by omega) (av (x:=l[2*iJ s n+1]) (by rw[dx];exact dy (by omega)) (bt (by simp only[dF,cm,List.length_cons,List.length_nil];omega) ?_))));simp only;rw[fl (by omega),cT (by omega) (by omega),cT (by omega) (by omega),show 2*(n+1)=2*n+1+1 by omega,kW (2*n+1),kW (2*n),p1,p2];simp)
  (fun _ _=>by unfold An;exact ea (by simp) rfl) () trivial
 exact av e rfl
def pM (s:dc)(l:ar):iK:=⟨((2*fq s:Nat):Int),(c0 s:Int),aO (2*fq s*c0 s) (fun x=>lX s (x / c0 s) (x % c0 s)),aO (2*fq s) (nO s l),aO (c0 s) fun _=>0⟩
theorem MF (s:dc)(h:oH s)(l:ar)(aU:∀x∈l,-100<=x/\x<=100):lz (pM s l) (2*fq s) (c0 s) (lX s) (nO s l) where
 rows:=rfl
 gQ:=rfl
 g9:=cm ..
 Cs:=fun i ad j au=>by have h1:i*c0 s+j<2*fq s*c0 s:=(by have:(i+1)*c0 s<=2*fq s*c0 s:=dL _ ad;rw[Nat.succ_mul] at this;omega);show (aO _ _)[_]? = _;rw[f9 h1];have h2:(i*c0 s+j) / c0 s=i:=(by rw[Nat.mul_comm,Nat.mul_add_div (by omega),Nat.div_eq_of_lt au];rfl);have R:(i*c0 s+j) % c0 s=j:=(by rw[Nat.mul_comm,Nat.mul_add_mod,Nat.mod_eq_of_lt au]);rw[h2,R]
 xf:=cm ..
 FD:=fun i ad=>f9 ad
 hm:=by obtain⟨-,-,f3,f4⟩:=id h;have:=Cj s;omega
 aV:=by obtain⟨-,-,f3,f4⟩:=id h;have:=Ck s;omega
 uR:=fun i _ j au=>MQ s h i au
 th:=fun i _=>by
  unfold nO;rw[List.getD_eq_getElem?_getD]
  cases c:l[2*iJ s (i / 2)+i % 2]? with
  | none=>simp
  | some x =>
   have:=aU x (dH c);simp only[Option.getD_some];omega
theorem K7 (s:dc)(h:oH s)(l:ar)(aS:l.length=2*s.ca.length)(aU:∀x∈l,-100<=x/\x<=100):uY s l=some (pM s l):=by
 obtain⟨-,-,f3,f4⟩:=id h;have w9:=Cj s;have nN:=Ck s;unfold uY;refine av (RY s (by omega)) (av (ade s h) (av (Lx s (by omega)) (av (ae1 s h l aS aU) ?_)));show (if 0<=len_ eI ((gQ s).map fA.nQ)/\_ then _ else none)=_;rw[Ew]
 show (if 0<=len_ eI ((gQ s).map fA.nQ)/\(8:Int)*len_ eI ((gQ s).map fA.nQ)<=281474976710656/\len_ eI ((gQ s).map fA.nQ)<9223372036854775808 then
  AY ((gQ s).map fA.nQ) ((gQ s).map fA.rk) (len_ b7 s.bI) _ (U ((2:Int)*len_ eI (aO (fq s) fun q=>((iJ s q:Nat):Int)))) (len_ eI ((gQ s).map fA.nQ)) (aO (2*fq s) (nO s l)) (List.replicate (len_ eI ((gQ s).map fA.nQ)).toNat 0) 0 [] >>= fun c5=>some (⟨U ((2:Int)*len_ eI (aO (fq s) fun q=>((iJ s q:Nat):Int))),len_ eI ((gQ s).map fA.nQ),c5,aO (2*fq s) (nO s l),List.replicate (len_ eI ((gQ s).map fA.nQ)).toNat 0⟩:iK) else none)=_
 rw[UK,UL,fU,cm,fU,cm,dx,fH,show U ((2:Int)*(fq s:Nat))=((2*fq s:Nat):Int) by rw[cT (by omega) (by omega)];omega,rR];refine bt (by omega) (av (x:=aO (2*fq s*c0 s) (fun x=>lX s (x / c0 s) (x % c0 s))) ?_ rfl);unfold AY
 obtain⟨x,e,-⟩:=hU (f:=fun w:Int×ar=>Ad (aO (c0 s) fun c=>((mf s c:Nat):Int)) (aO (c0 s) (n9 s)) (s.bI.length:Nat) (aO (2*fq s*s.bI.length) fun x=>lA s (x / s.bI.length) (x % s.bI.length)) ((2*fq s:Nat):Int) ((c0 s:Nat):Int) (aO (2*fq s) (nO s l)) (aO (c0 s) fun _=>0) w.1 w.2) (fun (i:Nat) (_:Unit)=>((i:Int),aO (i*c0 s) (fun x=>lX s (x / c0 s) (x % c0 s)))) (2*fq s) (fun _ _=>True) (fun _=>aO (2*fq s*c0 s) (fun x=>lX s (x / c0 s) (x % c0 s)))
  (fun i ad _ _=>by
    refine⟨(),?_,trivial⟩;have WH:i*c0 s<=12*16:=Nat.mul_le_mul (by omega) (by omega);have nl:i*s.bI.length<=12*8:=Nat.mul_le_mul (by omega) f4
    obtain⟨y,e2,-⟩:=hU (f:=fun w:Int×ar=>Ac (aO (c0 s) fun c=>((mf s c:Nat):Int)) (aO (c0 s) (n9 s)) (s.bI.length:Nat) (aO (2*fq s*s.bI.length) fun x=>lA s (x / s.bI.length) (x % s.bI.length)) (i:Int) ((c0 s:Nat):Int) ((2*fq s:Nat):Int) ((c0 s:Nat):Int) (aO (2*fq s) (nO s l)) (aO (c0 s) fun _=>0) w.1 w.2)
     (fun (c:Nat) (_:Unit)=>((c:Int),(aO (i*c0 s) fun x=>lX s (x / c0 s) (x % c0 s))++aO c (lX s i))) (c0 s) (fun _ _=>True) (fun _=>(aO (i*c0 s) fun x=>lX s (x / c0 s) (x % c0 s))++aO (c0 s) (lX s i))
     (fun c a2 _ _=>by refine⟨(),?_,trivial⟩;obtain⟨-,k4,mQ⟩:=wD s a2;have rB:(i+1)*s.bI.length<=2*fq s*s.bI.length:=dL _ ad;rw[Nat.succ_mul] at rB;have iT:U (U ((i:Int)*((s.bI.length:Nat):Int))+((mf s c:Nat):Int))=((i*s.bI.length+mf s c:Nat):Int):=(by rw[<- Int.natCast_mul,cT (x:=((i*s.bI.length:Nat):Int)) (by omega) (by omega),cT (by omega) (by omega)];omega);have h2:(i*s.bI.length+mf s c) / s.bI.length=i:=(by rw[Nat.mul_comm,Nat.mul_add_div (by omega),Nat.div_eq_of_lt k4];rfl);have R:(i*s.bI.length+mf s c) % s.bI.length=mf s c:=(by rw[Nat.mul_comm,Nat.mul_add_mod,Nat.mod_eq_of_lt k4]);have aiW:=MQ s h i a2;unfold Ac;refine dv (by simp only;omega) (bt (by rw[cm];simp only;omega) (av (x:=((mf s c:Nat):Int)) (by simp only;rw[dx];exact f9 a2) (bt (by rw[cm];simp only;omega) (av (x:=n9 s c) (by simp only;rw[dx];exact f9 a2) ?_))));rw[iT];refine bt (by rw[cm];omega) (av (x:=lA s i (mf s c)) (by rw[dx,f9 (by omega),h2,R]) (bt (by simp only[dF,cm,List.length_cons,List.length_nil];omega) ?_));simp only;rw[fl (by omega),kW,show n9 s c*lA s i (mf s c)=lX s i c from rfl,cT (by omega) (by omega),List.append_assoc])
     (fun _ _=>by unfold Ac;exact ea (by simp) rfl) () trivial
    have z:(aO (i*c0 s) fun x=>lX s (x / c0 s) (x % c0 s))++aO 0 (lX s i)=aO (i*c0 s) fun x=>lX s (x / c0 s) (x % c0 s):=(by simp[aO]);rw[z] at e2;unfold Ad;refine dv (by simp only;omega) (av (x:=(aO (i*c0 s) fun x=>lX s (x / c0 s) (x % c0 s))++aO (c0 s) (lX s i)) (by unfold Qb;rw[fU,cm];exact e2) ?_);simp only;rw[fl (by omega),Mh])
  (fun _ _=>by unfold Ad;exact ea (by simp) rfl) () trivial
 have z:(aO (0*c0 s) fun x=>lX s (x / c0 s) (x % c0 s))=[]:=by simp[aO]
 rw[z] at e;exact e
def xh (s:dc)(r c:Nat):Int:=if r<2*fq s/\c<c0 s then lX s r c else 0
def pN (s:dc)(l:ar)(r:Nat):Int:=if r<2*fq s then nO s l r else 0
def rG (s:dc)(N i c x:Nat):Int:=if (x / N<i\/(x / N=i/\x % N<c))/\x % N<c0 s then lX s (x / N) (x % N) else 0
theorem agi (s:dc){T N i c:Nat}(a2:c<c0 s)(gx:c0 s<=N)(h3:i*N+c<T){v:Int}(bc:v=lX s i c):(aO T (rG s N i c)).set (i*N+c) v=aO T (rG s N i (c+1)):=by
 have h2:(i*N+c) / N=i:=by rw[Nat.mul_comm,Nat.mul_add_div (by omega),Nat.div_eq_of_lt (by omega)];rfl
 have R:(i*N+c) % N=c:=by rw[Nat.mul_comm,Nat.mul_add_mod,Nat.mod_eq_of_lt (by omega)]
 rw[kJ];refine eE fun x _=> ?_;unfold rG;by_cases e:x=i*N+c
 ·rw[dw e,e,h2,R,dw ⟨.inr ⟨rfl,by omega⟩,a2⟩,bc]
 ·rw[dz e]
  have c9 : ¬(x / N=i/\x % N=c):=fun ⟨a,b⟩=>e (by rw[<- Nat.div_add_mod x N,a,b,Nat.mul_comm]);by_cases d:(x / N<i\/(x / N=i/\x % N<c))/\x % N<c0 s
  ·rw[dw d,dw ⟨by omega,d.2⟩]
  ·rw[dz d,dz (fun zz=>d ⟨by omega,zz.2⟩)]
theorem agj (s:dc)(T N i:Nat):aO T (rG s N i (c0 s))=aO T (rG s N (i+1) 0):=by
 refine eE fun x _=> ?_;unfold rG;by_cases d:(x / N<i\/(x / N=i/\x % N<c0 s))/\x % N<c0 s
 ·rw[dw d,dw ⟨by omega,d.2⟩]
 ·rw[dz d,dz (fun zz=>d ⟨by omega,zz.2⟩)]
theorem afB (s:dc)(T N:Nat):aO T (rG s N 0 0)=aO T fun _=>0:=eE fun x _=>by unfold rG;rw[dz (fun h=>by rcases h.1 with h|h;exact Nat.not_lt_zero _ h;exact Nat.not_lt_zero _ h.2)]
theorem agk (s:dc)(T N:Nat):aO T (rG s N (2*fq s) 0)=aO T fun x=>xh s (x / N) (x % N):=eE fun x _=>by
 unfold rG xh;by_cases d:x / N<2*fq s/\x % N<c0 s
 ·rw[dw d,dw ⟨.inl d.1,d.2⟩]
 ·rw[dz d,dz (fun zz=>d ⟨by omega,zz.2⟩)]
theorem afC (s:dc)(l:ar)(M:Nat):(aO M fun x=>if x<0 then pN s l x else 0)=aO M fun _=>0:=eE fun j _=>by rw[dz (by omega)]
theorem agl (s:dc)(l:ar)(M:Nat):(aO M fun x=>if x<2*fq s then pN s l x else 0)=aO M (pN s l):=eE fun j _=>by
 by_cases c:j<2*fq s
 ·rw[dw c]
 ·rw[dz c];unfold pN;rw[dz c]
theorem ad3 (s:dc)(h:oH s)(l:ar)(aS:l.length=2*s.ca.length)(aU:∀x∈l,-100<=x/\x<=100)(eQ lD:Nat)(ali:eQ<=100)(alj:lD<=100):
 xj s l (eQ:Int) (lD:Int)=some (((2*fq s+lD:Nat):Int),((c0 s+eQ:Nat):Int),aO ((2*fq s+lD)*(c0 s+eQ)) (fun x=>xh s (x / (c0 s+eQ)) (x % (c0 s+eQ))),aO (2*fq s+lD) (pN s l),aO (c0 s+eQ) fun _=>0):=by
 obtain⟨-,-,f3,f4⟩:=id h;have w9:=Cj s;have nN:=Ck s;have alk:(2*fq s+lD)*(c0 s+eQ)<=112*116:=Nat.mul_le_mul (by omega) (by omega);unfold xj;refine av (abo s h) (av (x:=gQ s) (SV s (by omega)) ?_);have iT:U ((len_ (fi 1 eI) (aO (2*fq s) fun r=>aO s.bI.length (lA s r)))+(lD:Int))=((2*fq s+lD:Nat):Int):=by rw[fH,cm,cT (by omega) (by omega)];omega
 have pK:U ((len_ gT (gQ s))+(eQ:Int))=((c0 s+eQ:Nat):Int):=by rw[fH];show U (((c0 s:Nat):Int)+(eQ:Int))=_;rw[cT (by omega) (by omega)];omega
 have uP:U (((2*fq s+lD:Nat):Int)*((c0 s+eQ:Nat):Int))=(((2*fq s+lD)*(c0 s+eQ):Nat):Int):=by rw[<- Int.natCast_mul,cT (by omega) (by omega)]
 rw[iT,pK,uP,dx,dx,dx,rR,rR,rR,fH,cm];refine bt (by omega) (bt (by omega) (bt (by omega) ?_));refine av (x:=aO ((2*fq s+lD)*(c0 s+eQ)) (fun x=>xh s (x / (c0 s+eQ)) (x % (c0 s+eQ)))) ?_ ?_
 ·unfold OK
  obtain⟨x,e,-⟩:=hU (f:=fun w:Int×ar=>zH s.ca s.bI l (gQ s) (aO (2*fq s) fun r=>aO s.bI.length (lA s r)) ((2*fq s:Nat):Int) ((2*fq s+lD:Nat):Int) ((c0 s+eQ:Nat):Int) (aO (2*fq s+lD) fun _=>0) (aO (c0 s+eQ) fun _=>0) w.1 w.2) (fun (i:Nat) (_:Unit)=>((i:Int),aO ((2*fq s+lD)*(c0 s+eQ)) (rG s (c0 s+eQ) i 0))) (2*fq s) (fun _ _=>True) (fun _=>aO ((2*fq s+lD)*(c0 s+eQ)) (fun x=>xh s (x / (c0 s+eQ)) (x % (c0 s+eQ))))
   (fun i ad _ _=>by
     refine⟨(),?_,trivial⟩;have F1:(i+1)*(c0 s+eQ)<=(2*fq s+lD)*(c0 s+eQ):=dL _ (by omega);rw[Nat.succ_mul] at F1
     obtain⟨y,e2,-⟩:=hU (f:=fun w:Int×ar=>zG s.ca s.bI l (gQ s) (i:Int) (aO s.bI.length (lA s i)) (aO (2*fq s) fun r=>aO s.bI.length (lA s r)) ((2*fq s:Nat):Int) ((c0 s:Nat):Int) ((2*fq s+lD:Nat):Int) ((c0 s+eQ:Nat):Int) (aO (2*fq s+lD) fun _=>0) (aO (c0 s+eQ) fun _=>0) w.1 w.2) (fun (c:Nat) (_:Unit)=>((c:Int),aO ((2*fq s+lD)*(c0 s+eQ)) (rG s (c0 s+eQ) i c))) (c0 s) (fun _ _=>True) (fun _=>aO ((2*fq s+lD)*(c0 s+eQ)) (rG s (c0 s+eQ) i (c0 s)))
      (fun c a2 _ _=>by refine⟨(),?_,trivial⟩;obtain⟨lT,k4,mQ⟩:=wD s a2;have aiW:=MQ s h i a2;have ajx:U (U ((i:Int)*((c0 s+eQ:Nat):Int))+((c:Nat):Int))=((i*(c0 s+eQ)+c:Nat):Int):=(by rw[<- Int.natCast_mul,cT (x:=((i*(c0 s+eQ):Nat):Int)) (by omega) (by omega),cT (by omega) (by omega)];omega);unfold zG;refine dv (by simp only;omega) (bt (by show _/\((c:Nat):Int)<((c0 s:Nat):Int);simp only;omega) (av (x:=⟨(mf s c:Int),n9 s c⟩) (by simp only;rw[dx];exact lT) (bt (by rw[cm];simp only;omega) (av (x:=lA s i (mf s c)) (by simp only;rw[dx];exact f9 k4) ?_))));simp only;rw[ajx];refine bt (by rw[cm];omega) (bt (by rw[cm,dx];omega) ?_);rw[fl (by omega),dx,dG,show n9 s c*lA s i (mf s c)=lX s i c from rfl,cT (by omega) (by omega),agi s a2 (by omega) (by omega) rfl])
      (fun _ _=>by unfold zG;exact ea (by simp) rfl) () trivial
     unfold zH;refine dv (by simp only;omega) (bt (by rw[cm];simp only;omega) (av (x:=aO s.bI.length (lA s i)) (by simp only;rw[dx];exact f9 ad) (av (x:=aO ((2*fq s+lD)*(c0 s+eQ)) (rG s (c0 s+eQ) i (c0 s))) (by unfold OJ;rw[fH];exact e2) ?_)));simp only;rw[fl (by omega),agj])
   (fun _ _=>by unfold zH;refine ea (by simp) ?_;simp only;rw[agk]) () trivial
  rw[afB] at e;exact e
 refine av (RX s (by omega)) ?_;rw[Ew,fU,cm];refine av (x:=aO (2*fq s+lD) (pN s l)) ?_ rfl;unfold OL
 obtain⟨x,e,-⟩:=hU (f:=fun w:Int×ar=>zI l (aO (fq s) fun q=>((iJ s q:Nat):Int)) ((fq s:Nat):Int) ((2*fq s+lD:Nat):Int) ((c0 s+eQ:Nat):Int) (aO ((2*fq s+lD)*(c0 s+eQ)) (fun x=>xh s (x / (c0 s+eQ)) (x % (c0 s+eQ)))) (aO (c0 s+eQ) fun _=>0) w.1 w.2) (fun (n:Nat) (_:Unit)=>((n:Int),aO (2*fq s+lD) fun x=>if x<2*n then pN s l x else 0)) (fq s) (fun _ _=>True) (fun _=>aO (2*fq s+lD) (pN s l))
  (fun n aV _ _=>by
    refine⟨(),?_,trivial⟩;have cp:=Vi s aV;have pK : ∀a:Nat,a<=1000->U ((2:Int)*((a:Nat):Int))=((2*a:Nat):Int):=fun a bG=>(by rw[cT (by omega) (by omega)];omega);have x1:=aU l[2*iJ s n] (List.getElem_mem (by omega));have x2:=aU l[2*iJ s n+1] (List.getElem_mem (by omega));have p1:pN s l (2*n) = -l[2*iJ s n]:=(by unfold pN nO;rw[dw (by omega),show 2*n / 2=n by omega,show 2*n % 2=0 by omega,Nat.add_zero,List.getD_eq_getElem?_getD,dy (by omega)];rfl);have p2:pN s l (2*n+1) = -l[2*iJ s n+1]:=by unfold pN nO;rw[dw (by omega),show (2*n+1) / 2=n by omega,show (2*n+1) % 2=1 by omega,List.getD_eq_getElem?_getD,dy (by omega)];rfl
    have cZ : ∀k v,v=pN s l k->(aO (2*fq s+lD) fun x=>if x<k then pN s l x else 0).set k v=aO (2*fq s+lD) fun x=>if x<k+1 then pN s l x else 0:=fun k v bc=>by
     rw[kJ];refine eE fun j _=> ?_;by_cases c:j=k
     ·subst c;rw[dw rfl,dw (by omega)];exact bc
     ·rw[dz c]
      by_cases cr:j<k
      ·rw[dw cr,dw (by omega)]
      ·rw[dz cr,dz (by omega)]
    unfold zI;refine dv (by simp only;omega) (bt (by rw[cm];simp only;omega) (av (x:=((iJ s n:Nat):Int)) (by simp only;rw[dx];exact f9 aV) ?_));simp only;rw[pK (iJ s n) (by omega),pK n (by omega),fl (n:=2*iJ s n) (by omega),fl (n:=2*n) (by omega)];refine bt (by omega) (av (x:=l[2*iJ s n]) (by rw[dx];exact dy (by omega)) (bt (by omega) (av (x:=l[2*iJ s n+1]) (by rw[dx];exact dy (by omega)) ?_)));refine bt (by rw[cm];omega) (bt (by rw[cm,dx];omega) (bt (by rw[cm];omega) (bt (by rw[List.length_set,cm,dx];omega) ?_)));rw[fl (by omega),cT (x:=0-l[2*iJ s n]) (by omega) (by omega),cT (x:=0-l[2*iJ s n+1]) (by omega) (by omega),dx,dx,dG,dG,cZ _ _ (by rw[p1];omega),cZ _ _ (by rw[p2];omega),show 2*(n+1)=2*n+1+1 by omega])
  (fun _ _=>by unfold zI;refine ea (by simp) ?_;simp only;rw[agl]) () trivial
 rw[Nat.mul_zero,afC] at e;exact e
theorem Tw (s:dc)(h:oH s)(l:ar)(aS:l.length=2*s.ca.length)(aU:∀x∈l,-100<=x/\x<=100):
 xj s l 0 0=some ((pM s l).gn,(pM s l).fk,(pM s l).d4,(pM s l).ee,(pM s l).hg):=by
 have e:=ad3 s h l aS aU 0 0 (by omega) (by omega);rw[show ((0:Nat):Int)=0 from rfl] at e
 have hA:aO (2*fq s*c0 s) (fun x=>xh s (x / c0 s) (x % c0 s))=aO (2*fq s*c0 s) (fun x=>lX s (x / c0 s) (x % c0 s)):=eE fun x ab=>by
  have nN:0<c0 s:=by
   rcases Nat.eq_zero_or_pos (c0 s) with c|c
   ·rw[c,Nat.mul_zero] at ab;omega
   ·exact c
  unfold xh;rw[dw ⟨Nat.div_lt_of_lt_mul (by rw[Nat.mul_comm];exact ab),Nat.mod_lt _ nN⟩]
 have f6:aO (2*fq s) (pN s l)=aO (2*fq s) (nO s l):=eE fun x ab=>by unfold pN;rw[dw ab]
 rw[e];simp only[Nat.add_zero,pM];rw[hA,f6]
theorem ae2 {x:Rat}(h:eN x):BB (cb x)=some true:=by have p:=h.df;have h1:=p.oY;have h2:=p.oq;obtain⟨o,-,e,k⟩:=Lw (r:=cb x) (show (L (ep x).1.natAbs).length<=_ by omega) (show (L (ep x).2).length<=_ by omega);rw[e,k.2 ⟨ep x,p,rfl⟩]
theorem Ca {x:Rat}(h:eN x):tn (cb x)=some (hk x):=av (ae2 h) (d9 rfl rfl)
theorem EV (x:Rat):u1 (hk x)=some (mn (ep x).1):=adU
theorem Tx {x:Rat}(h:eN x):xR (cb x)=some (mn (ep x).1):=av (Ca h) (av (EV x) rfl)
theorem agM {x y:Rat}(ab:eN x)(aZ:eN y): ∃c,Bg (hk x) (hk y)=some c:=by have p:=ab.df;have q:=aZ.df;have h1:=p.oY;have h2:=p.oq;have R:=q.oY;have ah:=q.oq;exact⟨_,abV p.pos q.pos p.num p.den q.num q.den (by omega) (by omega) (by omega) (by omega)⟩
theorem EF {x:Rat}(h:eN x):xZ (hk x)=some (cb x):=by have p:=h.df;have h1:=p.oY;have h2:=p.oq;refine av (o:=Dn (l9 (ep x)).r7) (x:=gC (ep x).1) ?_ (av (x:=L (ep x).2) (LZ (a:=L (ep x).2) (by omega)) rfl);unfold Dn;exact ea (by rw[fU];show ¬(60:Int)<((L ((ep x).1.natAbs:Int)).length:Nat);omega) (av (x:=L ((ep x).1.natAbs:Int)) (LZ (a:=L ((ep x).1.natAbs:Int)) (by omega)) rfl)
theorem VC (x:Rat):Er (hk x)=some (hk (-x)):=by
 have e:rH (gC x.num)=some (gC (-x.num)):=by
  have:rH (gC x.num)=(mR (!(decide (x.num<0))) (L (x.num.natAbs:Int))).bind fun r=>some r:=rfl;rw[this,sF (by omega)]
  have:eK (!(decide (x.num<0))) (x.num.natAbs:Int) = -x.num:=by
   unfold eK;by_cases c:x.num<0
   ·rw[decide_eq_true c];simp;omega
   ·rw[decide_eq_false c];simp;omega
  rw[this];rfl
 refine av (o:=rH (gC x.num)) e ?_;unfold hk ep;rw[Rat.neg_num,Rat.neg_den];rfl
theorem wq:eN 0:=Mf (n:=0) (by rw[k7];omega)
theorem Nc:Dy 0=some (cb 0):=av (Ii (n:=0) (by rw[k7];omega)) (av (EF wq) rfl)
def iW (s:dc)(k sign:Int)(c:Nat):Int:=if (mf s c:Int)=k then sign*n9 s c else 0
theorem afD (s:dc)(k:Int){sign:Int}(h:sign=1\/sign = -1){c:Nat}(a2:c<c0 s): -1<=iW s k sign c/\iW s k sign c<=1:=by
 obtain⟨-,-,mQ⟩:=wD s a2;unfold iW;split
 ·rcases h with rfl|rfl<;>rcases mQ with e|e<;>rw[e]<;>omega
 ·omega
theorem agN {p:iK}{m n:Nat}{a:Nat->Nat->Int}{b:Nat->Int}(h:lz p m n a b)(C:ar):lz ⟨p.gn,p.fk,p.d4,p.ee,C⟩ m n a b :=
 ⟨h.rows,h.gQ,h.g9,h.Cs,h.xf,h.FD,h.hm,h.aV,h.uR,h.th⟩
structure ahv (m n:Nat) (a:Nat->Nat->Int) (b:Nat->Int) (c:Nat->Rat) (x:Nat->Rat) (w:Rat):Prop where
 np:uu m n a b c x
 pos:0<w
 qX:dX (nY 100 m) w
 alv : ∀j,dX (nY 100 m) (x j*w)
 fit : ∀j,eN (x j)
theorem R9 (s:dc)(i0:od s)(h:oa s=some true)(l:ar)(aS:l.length=2*s.ca.length)(aU:∀x∈l,-100<=x/\x<=100):
 ∃r,(uY s l >>= fun p=>xH p)=some r/\v9 s l=some r:=by
 have bc:=G6 s i0 h;have ag:=MF s bc l aU;obtain⟨r,e1,e2⟩:=RO ag (cm ..) (fun x ab=>by obtain⟨i,-,rfl⟩:=Ia.1 ab;omega);obtain⟨q,q1,q2⟩:=T4 ag;refine⟨r,av (K7 s bc l aS aU) e1,?_⟩;unfold v9;refine av (Tw s bc l aS aU) (av q1 ?_);rcases q2 with ⟨bJ,t,aI,g,eO,rfl,-⟩|⟨bJ,rfl⟩
 ·rw[e2.2 bJ]
 ·have:r=false:=by
   cases r
   ·rfl
   ·exact(bJ (e2.1 rfl)).elim
  rw[this]
theorem abp (ik:List cV)(n:Int)(eX aiX:List dg):uV ik n aiX 0=uV ik n eX 0:=by unfold uV;congr 1
theorem aa3 (s:dc)(i0:od s)(h:oa s=some true)(eX:List dg)(bJ:∀m∈eX,m∈s.bI)(aS:eX.length<=s.bI.length):oa ⟨s.ca,eX⟩=some true:=by
 obtain⟨-,f2,f3,f4⟩:=A7 s i0 h;obtain⟨r,ai⟩:=Kq s i0;have d1:decide ((6:Int)<len_ bZ s.ca)=false:=by rw[fH];exact decide_eq_false (by omega)
 have d2:decide ((8:Int)<len_ b7 s.bI)=false:=by rw[fH];exact decide_eq_false (by omega)
 have d3:decide ((8:Int)<len_ b7 eX)=false:=by rw[fH];exact decide_eq_false (by omega)
 have tQ:r = .inl ():=by
  cases r with
  | inl a=>rfl
  | inr a =>
   unfold oa at h;rw[d1,d2,ai] at h;simp at h
 subst tQ;have sW : ∀m∈eX,rQ s.ca m=true:=fun m hm=>by obtain⟨n,aV⟩:=List.getElem?_of_mem (bJ m hm);exact f2 n m aV
 have a4:zM eX s.ca eX (len_ b7 eX) 0=some (.inl ()):=by
  unfold zM;rw[fH]
  obtain⟨x,e,-⟩:=hU (f:=fun w:Int=>pO eX s.ca eX (eX.length:Nat) w) (fun (i:Nat) (_:Unit)=>(i:Int)) eX.length (fun _ _=>True) (fun _=>(Sum.inl ():Unit⊕Int))
   (fun i ad _ _=>by
     refine⟨(),?_,trivial⟩;have ab:=dy ad;have aU:=sW eX[i] (List.getElem_mem ad);unfold pO xA;refine dv (by omega) (bt (by omega) (av (x:=eX[i]) (by rw[dx];exact ab) (av (x:=false) (av (Ht _ _) (by simp[aU])) (e3 rfl (by rw[fl (by omega)])))))
     )
   (fun _ _=>by unfold pO;exact ea (by omega) rfl) () trivial
  exact e
 have N1:J8 (U (len_ bZ s.ca-1)) eX (len_ b7 eX) s.ca 0=some (Sum.map id (fun _=>()) (Sum.inl ():Unit⊕Int)) :=
  TM (f:=fun w=>pO eX s.ca eX (len_ b7 eX) w) (Sum.map id fun _=>()) (fun _=>True) (fun _ _ _ _=>trivial)
   (fun i _=>RN s.ca eX (by omega) (by omega) i) 0 _ a4 trivial
 unfold oa;simp only[d1,d3,Bool.false_eq_true,if_false];rw[abp s.ca _ s.bI eX,ai];exact av rfl (av N1 rfl)
def o8 (eX:List dg)(list:ar):Nat->List dg
 | 0=>[]
 | n+1=>o8 eX list n++(match eX[n]? with
  | some x=>if (n:Int)∈list then [] else [x]
  | none=>[])
theorem EG (eX:List dg)(list:ar): ∀n,(o8 eX list n).length<=n
 | 0=>by simp[o8]
 | n+1=>by
  have:=EG eX list n;rw[o8,dF]
  have h2:(match eX[n]? with
   | some x=>if (n:Int)∈list then [] else [x]
   | none=>[]).length<=1:=by
   split
   ·split<;>simp
   ·simp
  omega
theorem Mi {eX:List dg}{list:ar}: ∀ {n:Nat} {m:dg},m∈o8 eX list n->m∈eX
 | 0,m,h=>by simp[o8] at h
 | n+1,m,h=>by
  rw[o8,List.mem_append] at h;rcases h with h|h
  ·exact Mi h
  ·split at h
   ·rename_i x ab
    split at h
    ·simp at h
    ·simp at h;subst h;exact dH ab
   ·simp at h
def vT (s:dc)(list:ar):dc:=⟨s.ca,o8 s.bI list s.bI.length⟩
theorem V5 {n:Nat}(h:n<1000000000000):U ((n:Int)+1)=((n+1:Nat):Int):=by rw[cT (by omega) (by omega)];omega
theorem agm (list:ar)(aS:list.length<=1048576)(k:Int):D7 list k=some (decide (k∈list)):=by
 unfold D7 RD;rw[fU]
 obtain⟨r,e,h⟩:=ra (f:=fun w:Int=>AQ k list (list.length:Nat) w) (fun (i:Nat) (_:Unit)=>(i:Int)) list.length (fun i _=> ∀j,j<i->list[j]? ≠ some k) (fun r=>(r = .inr ()/\k∈list)\/(r = .inl ()/\k ∉ list))
  (fun i ad _ cN=>by
    have ab:=dy ad;unfold AQ;by_cases c:list[i]=k
    ·right;exact⟨_,dv (by omega) (bt (by omega) (av (x:=list[i]) (by rw[dx];exact ab) (d9 (pD c) rfl))),.inl ⟨rfl,c▸List.getElem_mem ad⟩⟩
    ·left
     refine⟨(),dv (by omega) (bt (by omega) (av (x:=list[i]) (by rw[dx];exact ab) (e3 (rz c) (by rw[V5 (by omega)])))),fun j au=> ?_⟩;by_cases e:j=i
     ·rw[e,ab];exact fun h=>c (dI h)
     ·exact cN j (by omega))
  (fun _ cN=>⟨_,by unfold AQ;exact ea (by omega) rfl,.inr ⟨rfl,fun aX=>by obtain⟨j,au,e⟩:=List.getElem_of_mem aX;exact cN j au (by rw[dy au,e])⟩⟩) () (fun j au=>by omega)
 rcases h with ⟨rfl,h⟩|⟨rfl,h⟩
 ·exact av e (by rw[decide_eq_true h])
 ·exact av e (by rw[decide_eq_false h])
theorem acv (list:ar)(aS:list.length<=1048576)(k:Int):vc list k=some (decide (k∈list)):=by
 unfold vc EB Ls;rw[fU]
 obtain⟨r,e,h⟩:=ra (f:=fun w:Int=>u0 list k (list.length:Nat) w) (fun (i:Nat) (_:Unit)=>(i:Int)) list.length (fun i _=> ∀j,j<i->list[j]? ≠ some k) (fun r=>(∃i:Nat,r = .inr (i:Int)/\k∈list)\/(r = .inl ()/\k ∉ list))
  (fun i ad _ cN=>by
    have ab:=dy ad;unfold u0;by_cases c:list[i]=k
    ·right;exact⟨_,dv (by omega) (bt (by omega) (av (x:=list[i]) (by rw[dx];exact ab) (d9 (pD c.symm) rfl))),.inl ⟨i,rfl,c▸List.getElem_mem ad⟩⟩
    ·left
     refine⟨(),dv (by omega) (bt (by omega) (av (x:=list[i]) (by rw[dx];exact ab) (e3 (rz (Ne.symm c)) (by rw[V5 (by omega)])))),fun j au=> ?_⟩;by_cases e:j=i
     ·rw[e,ab];exact fun h=>c (dI h)
     ·exact cN j (by omega))
  (fun _ cN=>⟨_,by unfold u0;exact ea (by omega) rfl,.inr ⟨rfl,fun aX=>by obtain⟨j,au,e⟩:=List.getElem_of_mem aX;exact cN j au (by rw[dy au,e])⟩⟩) () (fun j au=>by omega)
 rcases h with ⟨i,rfl,h⟩|⟨rfl,h⟩
 ·exact av (x:=(i:Int)) (av e rfl) (by rw[decide_eq_true h];simp)
 ·exact av (x:=(-1:Int)) (av e rfl) (by rw[decide_eq_false h];rfl)
theorem acw (s:dc)(au:s.ca.length<=1000)(hm:s.bI.length<=1000)(list:ar)(aS:list.length<=1048576):AR s list=some (vT s list):=by
 unfold AR Pu;rw[fH,List.nil_append]
 obtain⟨x,e,-⟩:=hU (f:=fun w:Int×List dg=>zY list s.bI (s.bI.length:Nat) s.ca w.1 w.2) (fun (i:Nat) (_:Unit)=>((i:Int),o8 s.bI list i)) s.bI.length (fun _ _=>True) (fun _=>o8 s.bI list s.bI.length)
  (fun i ad _ _=>by
    refine⟨(),?_,trivial⟩;have ab:=dy ad;have hw:=EG s.bI list i;have e1:o8 s.bI list (i+1)=o8 s.bI list i++(if (i:Int)∈list then [] else [s.bI[i]]):=(by rw[o8,ab]);unfold zY;refine dv (by simp only;omega) (bt (by simp only;omega) (av (x:=s.bI[i]) (by simp only;rw[dx];exact ab) (av (agm list aS _) ?_)));simp only;rw[fl (by omega),e1];by_cases c:(i:Int)∈list
    ·rw[dw c];exact d9 (decide_eq_true c) (by rw[List.append_nil])
    ·rw[dz c];exact e3 (decide_eq_false c) (bt (by simp only[dF,List.length_cons,List.length_nil];omega) rfl))
  (fun _ _=>by unfold zY;exact ea (by simp) rfl) () trivial
 exact bt (by omega) (av e rfl)
theorem acx (s:dc)(au:s.ca.length<=1000)(hm:s.bI.length<=1000)(list:ar)(aS:list.length<=1048576):AW s list=some (vT s list):=by
 unfold AW Py Hd;rw[fH];refine av (x:=s.ca) (bt (by omega) rfl) ?_
 obtain⟨x,e,-⟩:=hU (f:=fun w:Int×List dg=>zZ list s.bI (s.bI.length:Nat) s.ca w.1 w.2) (fun (i:Nat) (_:Unit)=>((i:Int),o8 s.bI list i)) s.bI.length (fun _ _=>True) (fun _=>o8 s.bI list s.bI.length)
  (fun i ad _ _=>by
    refine⟨(),?_,trivial⟩;have ab:=dy ad;have hw:=EG s.bI list i;have e1:o8 s.bI list (i+1)=o8 s.bI list i++(if (i:Int)∈list then [] else [s.bI[i]]):=(by rw[o8,ab]);unfold zZ;refine dv (by simp only;omega) (bt (by simp only;omega) (av (x:=s.bI[i]) (by simp only;rw[dx];exact ab) (av (acv list aS _) ?_)));simp only;rw[fl (by omega),e1];by_cases c:(i:Int)∈list
    ·rw[dw c];exact d9 (decide_eq_true c) (by rw[List.append_nil])
    ·rw[dz c];exact e3 (decide_eq_false c) (bt (by simp only[dF,List.length_cons,List.length_nil];omega) rfl))
  (fun _ _=>by unfold zZ;exact ea (by simp) rfl) () trivial
 exact av e rfl
theorem Lm {zE:Nat}{l:ar}(h:sV zE l=true):l.length=2*zE/\ ∀x∈l,-100<=x/\x<=100:=by unfold sV at h;rw[dM,decide_eq_true_eq,List.all_eq_true] at h;exact⟨h.1,fun x ab=>by have:=h.2 x ab;unfold sN at this;simpa using this⟩
theorem LK (s:dc)(i0:od s)(l:ar)(aS:l.length<=maxLen):
 (ti s l=some true/\wi s l=some true/\oa s=some true/\sV s.ca.length l=true)\/(ti s l=some false/\wi s l=some false):=by
 obtain⟨p,p1,p2⟩:=Q7 s i0;have tV:p=true->s.ca.length<=6:=fun h=>(A7 s i0 (h▸p1)).2.2.1;have e:=Tq s p p1 tV l aS
 cases p with
 | false=>exact .inr ⟨e,av p2 (e3 rfl rfl)⟩
 | true =>
  rw[Bool.true_and] at e;have e2:wi s l=some (sV s.ca.length l):=av p2 (d9 rfl (av (aco s (tV rfl) l aS) rfl));by_cases c:sV s.ca.length l=true
  ·rw[c] at e e2;exact .inl ⟨e,e2,p1,c⟩
  ·rw[Bool.not_eq_true] at c;rw[c] at e e2;exact .inr ⟨e,e2⟩
theorem agn (s:dc)(i0:od s)(l:ar)(aS:l.length<=maxLen)(h:oa s=some true)(aU:sV s.ca.length l=true):
 ∃r,u4 s l=some r/\v9 s l=some r:=by
 obtain⟨f1,f2⟩:=Lm aU;obtain⟨r,r1,r2⟩:=R9 s i0 h l f1 f2;have e:=Tq s true h (fun _=>(A7 s i0 h).2.2.1) l aS;rw[aU] at e;refine⟨r,av e (d9 rfl ?_),r2⟩
 cases ag:uY s l with
 | none=>rw[ag] at r1;cases r1
 | some p =>
  rw[ag] at r1;exact av rfl (av (show xH p=some r from r1) rfl)
theorem ae3 (s:dc)(i0:od s)(h:oa s=some true)(list:ar):
 od (vT s list)/\oa (vT s list)=some true:=by
 refine⟨⟨i0.1,?_⟩,aa3 s i0 h _ (fun m hm=>Mi hm) (EG ..)⟩;refine⟨?_,fun m hm=>i0.2.2 m (Mi hm)⟩;exact Nat.le_trans (EG ..) i0.2.1
theorem ae4 (s:dc)(i0:od s)(l:ar)(aS:l.length<=maxLen)(h:oa s=some true)(aU:sV s.ca.length l=true)(list:ar)(Gw:list.length<=1048576):
 ∃r,(AR s list=some (vT s list)/\u4 (vT s list) l=some r)/\AW s list=some (vT s list)/\v9 (vT s list) l=some r:=by
 obtain⟨-,-,aQ,bb⟩:=A7 s i0 h;obtain⟨iT,pK⟩:=ae3 s i0 h list;obtain⟨r,r1,r2⟩:=agn (vT s list) iT l aS pK aU;exact⟨r,⟨acw s (by omega) (by omega) list Gw,r1⟩,acx s (by omega) (by omega) list Gw,r2⟩
theorem abI (s:dc)(i0:od s)(l:ar)(aS:l.length<=maxLen)(k:Int)(alw:m2 k): ∃r,Bj s l k=some r/\Bl s l k=some r:=by
 rcases LK s i0 l aS with ⟨e1,e2,h,aU⟩|⟨e1,e2⟩
 ·obtain⟨-,-,aQ,bb⟩:=A7 s i0 h
  obtain⟨r,⟨iT,pK⟩,uP,Xr⟩:=ae4 s i0 l aS h aU [k] (by simp);have hw:U (len_ b7 s.bI-1)=(s.bI.length:Int)-1:=(by rw[fH,cT (by omega) (by omega)]);by_cases c:0<=k/\k<s.bI.length
  ·refine⟨r,?_,?_⟩
   ·unfold Bj;refine av e1 (d9 rfl (av (by rw[hw,oQ]) (d9 (decide_eq_true (by omega)) (av iT (av pK rfl)))))
   ·unfold Bl;refine av e2 (d9 rfl (ea (by omega) (ea (by rw[fH];omega) (av uP (av Xr rfl)))))
  ·refine⟨false,?_,?_⟩
   ·unfold Bj;refine av e1 (d9 rfl (av (by rw[hw,oQ]) (e3 (decide_eq_false (by omega)) rfl)))
   ·unfold Bl
    refine av e2 (d9 rfl ?_);by_cases cM:k<0
    ·exact dv cM rfl
    ·exact ea cM (dv (by rw[fH];omega) rfl)
 ·exact⟨false,av e1 (e3 rfl rfl),av e2 (e3 rfl rfl)⟩
theorem Oy {α β:Type}{f:α->Option (α⊕β)}{a ej:α}{r:Option β}(h:f a=some (.inl ej))(k:iter f ej=r):iter f a=r:=by rw[iter,h];exact k
structure I0 (K:Nat) (z:Nat->Rat) (w:Rat):Prop where
 pos:0<w
 qX:dX K w
 ajy : ∀k,dX K (z k*w)
 aiY:1000*K<=21*100*(eS*eS)
theorem I0.fit {K:Nat}{z:Nat->Rat}{w x:Rat}(h:I0 K z w){a:Nat}(bG:a<=1000)(ab:dX (a*K) (x*w)):eN x:=by have ag:=h.pos;have h1:=h.aiY;have h2:a*K<=1000*K:=dL _ bG;exact rZ (K:=21*100*(eS*eS)) (h.qX.mono (by omega)) (ab.mono (by omega)) (by grind) (by grind) (qE (dE _))
theorem dX.int {z:Int}{K:Nat}(h:z.natAbs<=K):dX K (z:Rat):=⟨z,rfl,h⟩
theorem I0.fits {K:Nat}{z:Nat->Rat}{w:Rat}(h:I0 K z w){n:Nat}(aV:n<=8){e:Nat->Int}(he:∀k,-100<=e k/\e k<=100){f:Int}(cp:-100<=f/\f<=100):eN (cv n (fun k=>z k*(e k:Rat))+(f:Rat)):=h.fit (a:=n*100+100) (by omega) (by
 have e1:(cv n (fun k=>z k*(e k:Rat))+(f:Rat))*w=cv n (fun k=>(e k:Rat)*(z k*w))+(f:Rat)*w:=by rw[Rat.add_mul,<- vb];congr 1;exact gf fun k _=>by grind
 rw[e1,Nat.add_mul];refine dX.add ?_ ((dX.int (by omega)).mul h.qX);rw[Nat.mul_assoc];exact dX.sum fun k _=>(dX.int (by have:=he k;omega)).mul (h.ajy k))
theorem afE (s:dc){j:Nat}(h:c0 s<=j):n9 s j=0:=by unfold n9;rw[List.getD_eq_getElem?_getD,List.getElem?_eq_none h];rfl
theorem HK (s:dc)(k sign:Int){j:Nat}(h:c0 s<=j):iW s k sign j=0:=by unfold iW;rw[afE s h,Int.mul_zero,ite_self]
theorem Ua (s:dc)(k:Int){sign:Int}(h:sign=1\/sign = -1)(c:Nat): -1<=iW s k sign c/\iW s k sign c<=1:=by
 by_cases a2:c<c0 s
 ·exact afD s k h a2
 ·rw[HK s k sign (by omega)];omega
theorem UM (s:dc)(v:oH s){N:Nat}(gx:c0 s<=N)(k sign:Int)(bJ:sign=1\/sign = -1)(x0 x1:Int)(fr eR:ar)(f:Nat->Int)(cp:∀j,c0 s<=j->f j=0):xu s k sign x0 x1 fr eR (aO N f)=some (aO N (iW s k sign)):=by
 have nN:=Ck s;have v4:=v.2.2.2;unfold xu;refine av (x:=gQ s) (SV s (by omega)) (av ?_ rfl);unfold Po;have aS:len_ gT (gQ s)=((c0 s:Nat):Int):=fH ..;rw[aS]
 obtain⟨x,e,-⟩:=hU (f:=fun w:Int×ar=>zX k sign (gQ s) ((c0 s:Nat):Int) x0 x1 fr eR w.1 w.2) (fun (n:Nat) (_:Unit)=>((n:Int),aO N fun j=>if j<n then iW s k sign j else f j)) (c0 s) (fun _ _=>True) (fun _=>aO N (iW s k sign))
  (fun n aV _ _=>by
    refine⟨(),?_,trivial⟩;obtain⟨lT,k4,mQ⟩:=wD s aV;have cZ : ∀a,(aO N fun j=>if j<n then iW s k sign j else f j).set n a=aO N fun j=>if j=n then a else if j<n then iW s k sign j else f j:=fun a=>kJ ..
    have fin : ∀a,a=iW s k sign n->(aO N fun j=>if j=n then a else if j<n then iW s k sign j else f j)=aO N fun j=>if j<n+1 then iW s k sign j else f j:=fun a bG=>eE fun j _=>by
     by_cases c:j=n
     ·subst c;rw[dw rfl,dw (by omega),bG]
     ·rw[dz c]
      by_cases d:j<n
      ·rw[dw d,dw (by omega)]
      ·rw[dz d,dz (by omega)]
    unfold zX;simp only;rw[fl (by omega),dx,dG,cZ];refine dv (by omega) (bt (by show _/\((n:Nat):Int)<((c0 s:Nat):Int);omega) (av lT (bt (by rw[cm];omega) (bt (by rw[cm];omega) ?_))));by_cases c:(mf s n:Int)=k
    ·refine d9 (by simp only;rw[c];simp) (bt (by rw[cm];omega) ?_)
     rw[kJ,cT (by rcases bJ with rfl|rfl<;>rcases mQ with e|e<;>simp only[e]<;>omega) (by rcases bJ with rfl|rfl<;>rcases mQ with e|e<;>simp only[e]<;>omega)];congr 3;rw[<- fin (sign*n9 s n) (by unfold iW;rw[dw c])]
     exact eE fun j _=>by
      by_cases d:j=n
      ·rw[dw d,dw d]
      ·rw[dz d,dz d,dz d]
    ·refine e3 (by simp only;exact beq_false_of_ne c) ?_;rw[fin 0 (by unfold iW;rw[dz c])])
  (fun _ _=>by
    unfold zX;refine ea (by simp) ?_;simp only;congr 2
    exact eE fun j au=>by
     by_cases c:j<c0 s
     ·rw[dw c]
     ·rw[dz c,cp j (by omega),HK s k sign (by omega)]) () trivial
 have e0:(aO N fun j=>if j<0 then iW s k sign j else f j)=aO N f:=eE fun j _=>by rw[dz (by omega)]
 rw[<- e0];exact e
def Ow (m:dg):Int:=if m.jN=1 then 1 else if m.jN=2 then -1 else 0
theorem SW {p:iK}{m n:Nat}{a:Nat->Nat->Int}{b:Nat->Int}(h:lz p m n a b){c:Nat->Int}(a2:∀j,j<n-> -100<=c j/\c j<=100):
 (¬pv m n a b/\uc ⟨p.gn,p.fk,p.d4,p.ee,aO n c⟩=some ⟨2,[],⟨⟨false,[]⟩,[]⟩⟩/\ue p.gn p.fk p.d4 p.ee (aO n c)=some (2,[],none)) \/
 (pv m n a b/\ ¬Bounded m n a b (hy n c)/\uc ⟨p.gn,p.fk,p.d4,p.ee,aO n c⟩=some ⟨3,[],⟨⟨false,[]⟩,[]⟩⟩/\ue p.gn p.fk p.d4 p.ee (aO n c)=some (3,[],none)) \/
 ∃x w,ahv m n a b (hy n c) x w/\eN (val n (hy n c) x)/\uc ⟨p.gn,p.fk,p.d4,p.ee,aO n c⟩=some ⟨0,aO n (fun j=>cb (x j)),cb (val n (hy n c) x)⟩/\ue p.gn p.fk p.d4 p.ee (aO n c)=some (0,aO n (fun j=>hk (x j)),hk (val n (hy n c) x)):=by
 have cX:=agN h (aO n c);obtain⟨r,e,ai⟩:=aeX cX (c:=c) rfl a2;obtain⟨q,f,a4⟩:=ad2 cX (c:=c) rfl a2;rcases ai with ⟨s1,rfl⟩|⟨s1,s2,rfl⟩|⟨x,w,np,⟨iT,pK,uP⟩,Ox,ajz,rfl⟩
 ·rcases a4 with ⟨-,rfl⟩|⟨t1,-⟩|⟨y,aN,-⟩
  ·exact .inl ⟨s1,f,e⟩
  ·exact(s1 t1).elim
  ·exact(s1 ⟨y,aN.1⟩).elim
 ·rcases a4 with ⟨t1,-⟩|⟨-,-,rfl⟩|⟨y,aN,-⟩
  ·exact(t1 s1).elim
  ·exact .inr (.inl ⟨s1,s2,f,e⟩)
  ·exact(s2 ⟨_,fun z cD=>aN.VT cD⟩).elim
 ·rcases a4 with ⟨t1,-⟩|⟨-,t2,-⟩|⟨y,aN,-,-,rfl⟩
  ·exact(t1 ⟨x,np.1⟩).elim
  ·exact(t2 ⟨_,fun z cD=>np.VT cD⟩).elim
  ·obtain⟨jR,mb⟩:=aN.unique np;have e5:(aO n fun j=>cb (y j))=aO n fun j=>cb (x j):=eE fun j au=>(by rw[jR j au]);rw[e5,mb] at f;exact .inr (.inr ⟨x,w,⟨np,iT,pK,uP,Ox⟩,ajz,f,e⟩)
def VD (r:nU)(ok:Bool)(C:ar):Bool×ar×ar×Bool×ar×ar×Bool×Bool×Bool×ar :=
 (r.om.dn.cz,r.om.dn.b9,r.om.eM,r.nf.dn.cz,r.nf.dn.b9,r.nf.eM,r.sL,r.pV,ok,C)
theorem Fe:ob 0=some (cb 0):=rT (n:=0) (k7.2 (by omega))
theorem adf (s:dc)(v:oH s){p:iK}{m n:Nat}{a:Nat->Nat->Int}{b:Nat->Int}(h:lz p m n a b)(aV:c0 s<=n)(nN:p.hg=aO n fun _=>0)(k:Int):
 ∃r ok C,C.length=n/\(ok=false->r=⟨⟨⟨false,[]⟩,[]⟩,⟨⟨false,[]⟩,[]⟩,false,false⟩)/\(ok=true->(∃bW ad,eN bW/\eN ad/\r.om=cb bW/\r.nf=cb ad)/\(r.sL=true->r.om=cb 0)/\(r.pV=true->r.nf=cb 0))/\(ok=true->r.pV=false-> ∃x,s9 m n a b x/\r.nf=cb (val n (hy n (iW s k 1)) x)/\eN (val n (hy n (iW s k 1)) x))/\(ok=true↔pv m n a b) /\
  DO ⟨p.gn,p.fk,p.d4,p.ee,aO n (iW s k 1)⟩ ⟨p.gn,p.fk,p.d4,p.ee,aO n (iW s k (-1))⟩=some (r,ok) /\
  Dc s k p.gn p.fk p.d4 p.ee p.hg=some (VD r ok C):=by
 have iX:=SW h (c:=iW s k 1) (fun j _=>by have:=Ua s k (sign:=1) (.inl rfl) j;omega);have j6:=SW h (c:=iW s k (-1)) (fun j _=>by have:=Ua s k (sign:= -1) (.inr rfl) j;omega);have gM:=UM s v aV k 1 (.inl rfl) p.gn p.fk p.d4 p.ee (fun _=>0) (fun _ _=>rfl);have gX:=UM s v aV k (-1) (.inr rfl) p.gn p.fk p.d4 p.ee (iW s k 1) (fun j au=>HK s k 1 au);have aS : ∀f:Nat->Int,(aO n f).length=n:=fun f=>cm ..;rw[nN];unfold Dc DO;rcases iX with ⟨n1,s1,i1⟩|⟨n1,-,s1,i1⟩|⟨x,w,bO,f1,s1,i1⟩<;>rcases j6 with ⟨n2,s2,i2⟩|⟨n2,-,s2,i2⟩|⟨y,u,aN,f2,s2,i2⟩
 ·refine⟨⟨⟨⟨false,[]⟩,[]⟩,⟨⟨false,[]⟩,[]⟩,false,false⟩,false,aO n (iW s k 1),aS _,fun _=>rfl,fun e=>by simp at e,fun e=>by simp at e,⟨fun e=>by simp at e,fun e=>(n1 e).elim⟩,?_,?_⟩
  ·exact av Fe (av s1 (av s2 (d9 rfl rfl)))
  ·exact av gM (av i1 (d9 rfl rfl))
 ·exact(n1 n2).elim
 ·exact(n1 ⟨y,aN.np.1⟩).elim
 ·exact(n2 n1).elim
 ·refine⟨⟨cb 0,cb 0,true,true⟩,true,aO n (iW s k (-1)),aS _,fun e=>by simp at e,fun _=>⟨⟨0,0,wq,wq,rfl,rfl⟩,fun _=>rfl,fun _=>rfl⟩,fun _ e=>by simp at e,⟨fun _=>n1,fun _=>rfl⟩,?_,?_⟩
  ·exact av Fe (av s1 (av s2 (e3 rfl (d9 rfl (d9 rfl rfl)))))
  ·exact av gM (av i1 (e3 rfl (d9 rfl (av Nc (av gX (av i2 (d9 rfl rfl)))))))
 ·refine⟨⟨cb (-(val n (hy n (iW s k (-1))) y)),cb 0,false,true⟩,true,aO n (iW s k (-1)),aS _,fun e=>by simp at e,fun _=>⟨⟨_,0,f2.neg,wq,rfl,rfl⟩,fun e=>by simp at e,fun _=>rfl⟩,fun _ e=>by simp at e,⟨fun _=>n1,fun _=>rfl⟩,?_,?_⟩
  ·exact av Fe (av s1 (av s2 (e3 rfl (d9 rfl (e3 rfl (av (ET f2) rfl))))))
  ·exact av gM (av i1 (e3 rfl (d9 rfl (av Nc (av gX (av i2 (e3 rfl (av (VC _) (av (IF f2.neg) (av (EF f2.neg) rfl))))))))))
 ·exact(n2 ⟨x,bO.np.1⟩).elim
 ·refine⟨⟨cb 0,cb (val n (hy n (iW s k 1)) x),true,false⟩,true,aO n (iW s k (-1)),aS _,fun e=>by simp at e,fun _=>⟨⟨0,_,wq,f1,rfl,rfl⟩,fun _=>rfl,fun e=>by simp at e⟩,fun _ _=>⟨x,bO.np.1,rfl,f1⟩,⟨fun _=>n2,fun _=>rfl⟩,?_,?_⟩
  ·exact av Fe (av s1 (av s2 (e3 rfl (e3 rfl (d9 rfl rfl)))))
  ·exact av gM (av i1 (e3 rfl (e3 rfl (av (IF f1) (av (EF f1) (av gX (av i2 (d9 rfl (av Nc rfl)))))))))
 ·refine⟨⟨cb (-(val n (hy n (iW s k (-1))) y)),cb (val n (hy n (iW s k 1)) x),false,false⟩,true,aO n (iW s k (-1)),aS _,fun e=>by simp at e,fun _=>⟨⟨_,_,f2.neg,f1,rfl,rfl⟩,fun e=>by simp at e,fun e=>by simp at e⟩,fun _ _=>⟨x,bO.np.1,rfl,f1⟩,⟨fun _=>⟨x,bO.np.1⟩,fun _=>rfl⟩,?_,?_⟩
  ·exact av Fe (av s1 (av s2 (e3 rfl (e3 rfl (e3 rfl (av (ET f2) rfl))))))
  ·exact av gM (av i1 (e3 rfl (e3 rfl (av (IF f1) (av (EF f1) (av gX (av i2 (e3 rfl (av (VC _) (av (IF f2.neg) (av (EF f2.neg) rfl)))))))))))
theorem abq (s:dc)(l:ar):uY s l=(xB s l).bind fun r=>some ⟨r.1,r.2.1,r.2.2.1,r.2.2.2.1,r.2.2.2.2⟩:=by
 unfold uY xB
 cases uX s with
 | none=>rfl
 | some r1 =>
 cases xO s with
 | none=>rfl
 | some aL =>
 cases ud s with
 | none=>rfl
 | some aJ =>
 show (we s l).bind _=((we s l).bind _).bind _
 cases we s l with
 | none=>rfl
 | some bz =>
 show (if _ then (Option.bind (AY r1.1 r1.2 (len_ b7 s.bI) aL (U ((2:Int)*(len_ eI aJ))) (len_ eI r1.1) bz (List.replicate (len_ eI r1.1).toNat 0:ar) 0 ([]:ar)) _) else none)=(if _ then (Option.bind (AY r1.1 r1.2 (len_ b7 s.bI) aL (U ((2:Int)*(len_ eI aJ))) (len_ eI r1.1) bz (List.replicate (len_ eI r1.1).toNat 0:ar) 0 ([]:ar)) _) else none).bind _;split
 ·cases AY r1.1 r1.2 (len_ b7 s.bI) aL (U ((2:Int)*(len_ eI aJ))) (len_ eI r1.1) bz (List.replicate (len_ eI r1.1).toNat 0:ar) 0 ([]:ar)<;>rfl
 ·rfl
theorem abr (s:dc)(h:oH s)(l:ar)(aS:l.length=2*s.ca.length)(aU:∀x∈l,-100<=x/\x<=100):xB s l=some ((pM s l).gn,(pM s l).fk,(pM s l).d4,(pM s l).ee,(pM s l).hg):=by
 have e:=abq s l;rw[K7 s h l aS aU] at e
 cases q:xB s l with
 | none=>rw[q] at e;simp at e
 | some r =>
  rw[q] at e;have:=dI e;rw[this]
theorem adg (s:dc){N:Nat}(gx:c0 s<=N)(nN:c0 s<=16)(k sign:Int)(bJ:sign=1\/sign = -1)(x0 x1:Int)(fr eR:ar):
 KW k sign (aO (c0 s) (n9 s)) (aO (c0 s) fun c=>((mf s c:Nat):Int)) ((c0 s:Nat):Int) x0 x1 fr eR 0 (aO N fun _=>0)=some (aO N (iW s k sign)):=by
 unfold KW
 obtain⟨x,e,-⟩:=hU (f:=fun w:Int×ar=>AS k sign (aO (c0 s) (n9 s)) (aO (c0 s) fun c=>((mf s c:Nat):Int)) ((c0 s:Nat):Int) x0 x1 fr eR w.1 w.2) (fun (n:Nat) (_:Unit)=>((n:Int),aO N fun j=>if j<n then iW s k sign j else 0)) (c0 s) (fun _ _=>True) (fun _=>aO N (iW s k sign))
  (fun n aV _ _=>by
    refine⟨(),?_,trivial⟩;obtain⟨-,-,mQ⟩:=wD s aV;unfold AS;simp only;refine dv (by omega) (bt (by rw[cm];omega) (av (gt rfl (f9 aV)) ?_));by_cases c:(mf s n:Int)=k
    ·refine d9 (by rw[c];simp) (bt (by rw[cm];omega) (av (gt rfl (f9 aV)) (bt (by rw[cm];omega) (bt (by rw[cm];omega) ?_))))
     rw[fl (by omega),dx,dG,kJ,cT (by rcases bJ with rfl|rfl<;>rcases mQ with e|e<;>rw[e]<;>omega) (by rcases bJ with rfl|rfl<;>rcases mQ with e|e<;>rw[e]<;>omega)];congr 3
     exact eE fun j _=>by
      by_cases d:j=n
      ·subst d;rw[dw rfl,dw (by omega)];unfold iW;rw[dw c]
      ·rw[dz d]
       by_cases f:j<n
       ·rw[dw f,dw (by omega)]
       ·rw[dz f,dz (by omega)]
    ·refine e3 (beq_false_of_ne c) ?_
     rw[fl (by omega)];congr 3
     exact eE fun j _=>by
      by_cases d:j=n
      ·subst d;rw[dz (by omega),dw (by omega)];unfold iW;rw[dz c]
      ·by_cases f:j<n
       ·rw[dw f,dw (by omega)]
       ·rw[dz f,dz (by omega)])
  (fun _ _=>by
    unfold AS;refine ea (by simp) ?_;simp only;congr 2
    exact eE fun j au=>by
     by_cases d:j<c0 s
     ·rw[dw d]
     ·rw[dz d,HK s k sign (by omega)]) () trivial
 have e0:(aO N fun j=>if j<0 then iW s k sign j else 0)=aO N fun _=>0:=eE fun j _=>by rw[dz (by omega)]
 rw[<- e0];exact e
theorem UN (s:dc)(v:oH s)(l:ar)(aS:l.length=2*s.ca.length)(aU:∀x∈l,-100<=x/\x<=100)(k:Int){sign:Int}(bJ:sign=1\/sign = -1):
 Bw s l k sign=some ⟨(pM s l).gn,(pM s l).fk,(pM s l).d4,(pM s l).ee,aO (c0 s) (iW s k sign)⟩:=by
 have bb:=v.2.2.2;have nN:=Ck s;have hw:uX s=some (aO (c0 s) (fun c=>((mf s c:Nat):Int)),aO (c0 s) (n9 s)):=by rw[<- UK,<- UL];exact RY s (by omega)
 unfold Bw;refine av (abr s v l aS aU) (av hw ?_);simp only;rw[fU,cm];exact av (adg s (dE _) (by omega) k sign bJ _ _ _ _) rfl
theorem ab3 (s:dc)(i0:od s)(l:ar)(aS:l.length<=maxLen)(k:Int):
 ∃r ok,DX s l k=some (r,ok)/\D1 s l k=some (r,ok)/\(ok=false->r=⟨⟨⟨false,[]⟩,[]⟩,⟨⟨false,[]⟩,[]⟩,false,false⟩)/\(ok=true->((∃bW ad,eN bW/\eN ad/\r.om=cb bW/\r.nf=cb ad)/\(r.sL=true->r.om=cb 0)/\(r.pV=true->r.nf=cb 0))/\(r.pV=false-> ∃x,s9 (2*fq s) (c0 s) (lX s) (nO s l) x/\r.nf=cb (val (c0 s) (hy (c0 s) (iW s k 1)) x)/\eN (val (c0 s) (hy (c0 s) (iW s k 1)) x)))/\(0<=k->k<s.bI.length->ti s l=some true->pv (2*fq s) (c0 s) (lX s) (nO s l)->ok=true):=by
 unfold DX D1;rcases LK s i0 l aS with ⟨e1,e2,h,aU⟩|⟨e1,e2⟩;rotate_left
 ·exact⟨_,false,av e1 (e3 rfl rfl),av e2 (e3 rfl rfl),fun _=>rfl,fun e=>by simp at e,fun _ _ h _=>by rw[e1] at h;simp at h⟩
 have v:=G6 s i0 h;have bb:=v.2.2.2;have nN:=Ck s;obtain⟨C0,m5⟩:=Lm aU;have wl:U ((len_ b7 s.bI)-(1:Int))=(s.bI.length:Nat)-(1:Int):=by rw[fH,cT (by omega) (by omega)]
 rw[wl,fH];by_cases bl:k<0
 ·exact⟨_,false,av e1 (d9 rfl (av (oQ _ _ _) (e3 (decide_eq_false (by omega)) rfl))),av e2 (d9 rfl (dv bl rfl)),fun _=>rfl,fun e=>by simp at e,fun h _ _ _=>absurd h (by omega)⟩
 by_cases cr:((s.bI.length:Nat):Int)<=k
 ·exact⟨_,false,av e1 (d9 rfl (av (oQ _ _ _) (e3 (decide_eq_false (by omega)) rfl))),av e2 (d9 rfl (ea bl (dv cr rfl))),fun _=>rfl,fun e=>by simp at e,fun _ h _ _=>absurd h (by omega)⟩
 obtain⟨r,ok,C,a2,g1,g2,g3,g6,g4,g5⟩:=adf s v (MF s v l m5) (dE _) rfl k;refine⟨r,ok,av e1 (d9 rfl (av (oQ _ _ _) (d9 (decide_eq_true (by omega)) (av (UN s v l C0 m5 k (.inl rfl)) (av (UN s v l C0 m5 k (.inr rfl)) (av g4 rfl)))))),av e2 (d9 rfl (ea bl (ea cr (av (Tw s v l C0 m5) (av g5 (bt (by simp only;unfold VD;simp only;rw[a2];exact cm ..) rfl)))))),g1,fun e=>⟨g2 e,g3 e⟩,fun _ _ _ h=>g6.2 h⟩
theorem abJ (s:dc)(i0:od s)(l:ar)(aS:l.length<=maxLen):
 ∃r,u4 s l=some r/\Bk s l=some r/\(r=true->ti s l=some true/\oa s=some true/\sV s.ca.length l=true/\pv (2*fq s) (c0 s) (lX s) (nO s l)):=by
 unfold u4 Bk;rcases LK s i0 l aS with ⟨e1,e2,h,aU⟩|⟨e1,e2⟩;rotate_left
 ·exact⟨false,av e1 (e3 rfl rfl),av e2 (e3 rfl rfl),fun e=>by simp at e⟩
 have v:=G6 s i0 h;obtain⟨C0,m5⟩:=Lm aU;obtain⟨r,r1,r2⟩:=R9 s i0 h l C0 m5;obtain⟨q,q1,q2⟩:=RO (MF s v l m5) (cm ..) (fun x ab=>by obtain⟨i,-,rfl⟩:=Ia.1 ab;omega);have XB:=K7 s v l C0 m5;have e:r=q:=by rw[XB] at r1;have:some q=some r:=q1.symm.trans r1;exact(dI this).symm
 subst e;exact⟨r,av e1 (d9 rfl (av XB (av q1 rfl))),av e2 (d9 rfl (av r2 rfl)),fun e=>⟨e1,h,aU,q2.1 e⟩⟩
theorem SX {x:Rat}(h:eN x):mx (cb x)=some (mn (ep x).1):=adT h.df
theorem ae5 {r:nU}{bW ad:Rat}(C1:eN bW)(C2:eN ad)(b2:r.om=cb bW)(GQ:r.nf=cb ad)(fR:r.sL=true->r.om=cb 0)(JI:r.pV=true->r.nf=cb 0):Hs r=some (r.sL || r.pV):=by
 have kR:tn r.om=some (hk bW):=by rw[b2];exact Ca C1
 have kS:tn r.nf=some (hk ad):=by rw[GQ];exact Ca C2
 cases a:r.sL with
 | true =>
  have lW:tn r.om=some (hk 0):=by rw[fR a];exact Ca wq
  cases b:r.pV with
  | true =>
   have sv:tn r.nf=some (hk 0):=(by rw[JI b];exact Ca wq);have he:xL r=some (hk 0,hk 0,true):=av lW (av sv (d9 a (av (EV 0) (e3 rfl (d9 b (av (EV 0) (e3 rfl rfl)))))));exact av (av he rfl) (d9 rfl (d9 a rfl))
  | false =>
   have he:xL r=some (hk 0,hk ad,true):=av lW (av kS (d9 a (av (EV 0) (e3 rfl (e3 b rfl)))));exact av (av he rfl) (d9 rfl (d9 a rfl))
 | false =>
  cases b:r.pV with
  | true =>
   have sv:tn r.nf=some (hk 0):=(by rw[JI b];exact Ca wq);have he:xL r=some (hk bW,hk 0,true):=av kR (av sv (e3 a (d9 b (av (EV 0) (e3 rfl rfl)))));exact av (av he rfl) (d9 rfl (e3 a (by rw[b];rfl)))
  | false =>
   obtain⟨c,a2⟩:=agM C1 C2;have he:xL r=some (hk bW,hk ad,decide (c<=0)):=av kR (av kS (e3 a (e3 b (av a2 rfl))));refine av (av he rfl) ?_
   cases decide (c<=0) with
   | true=>exact d9 rfl (e3 a (by rw[b];rfl))
   | false=>exact e3 rfl rfl
theorem acy (s:dc)(i0:od s)(l:ar)(aS:l.length<=maxLen)(k:Int)(aX:m2 k): ∃r,D8 s l k=some r/\Ec s l k=some r:=by
 unfold D8 Ec;obtain⟨r,r1,r2,aL⟩:=abJ s i0 l aS
 cases r with
 | false=>exact⟨_,av r1 (e3 rfl rfl),av r2 (e3 rfl rfl)⟩
 | true =>
 obtain⟨h1,h2,R,uS⟩:=aL rfl;have bb:=(G6 s i0 h2).2.2.2;have wl:U ((len_ b7 s.bI)-(1:Int))=(s.bI.length:Nat)-(1:Int):=by rw[fH,cT (by omega) (by omega)]
 rw[wl,fH];by_cases bl:k<0
 ·exact⟨_,av r1 (d9 rfl (av (oQ _ _ _) (e3 (decide_eq_false (by omega)) rfl))),av r2 (d9 rfl (dv bl rfl))⟩
 by_cases cr:((s.bI.length:Nat):Int)<=k
 ·exact⟨_,av r1 (d9 rfl (av (oQ _ _ _) (e3 (decide_eq_false (by omega)) rfl))),av r2 (d9 rfl (ea bl (dv cr rfl)))⟩
 obtain⟨q,q1,q2⟩:=abI s i0 l aS k aX;have Oy : ∀ {α:Type} {x:Bool->Option α} {y:Option α},x true=y->(mS k 0 ((s.bI.length:Nat)-(1:Int)) >>= x)=y:=fun h=>av (oQ _ _ _) (by rw[decide_eq_true (by omega)];exact h)
 cases q with
 | false=>exact⟨_,av r1 (d9 rfl (Oy (d9 rfl (av q1 (e3 rfl rfl))))),av r2 (d9 rfl (ea bl (ea cr (av q2 (e3 rfl rfl)))))⟩
 | true =>
 obtain⟨g,ok,e1,e2,-,g1,g2⟩:=ab3 s i0 l aS k;obtain⟨⟨⟨bW,ad,C1,C2,b2,GQ⟩,fR,JI⟩,-⟩:=g1 (g2 (by omega) (by omega) h1 uS);have op:=ae5 C1 C2 b2 GQ fR JI;have s1:mx g.om=some (mn (ep bW).1):=by rw[b2];exact SX C1
 have s2:mx g.nf=some (mn (ep ad).1):=by rw[GQ];exact SX C2
 have t1:xR g.om=some (mn (ep bW).1):=by rw[b2];exact Tx C1
 have t2:xR g.nf=some (mn (ep ad).1):=by rw[GQ];exact Tx C2
 have fin : ∀ {x y:Option ByteArray},(∃z,x=some z/\y=some z)-> ∃r,(u4 s l >>= fun r1=>if r1=true then mS k 0 ((s.bI.length:Nat)-(1:Int)) >>= fun a8=>if a8=true then x else some ⟨#[]⟩ else some ⟨#[]⟩)=some r/\(Bk s l >>= fun r1=>if r1=true then (if decide (k<0)=true then some ⟨#[]⟩ else if decide (((s.bI.length:Nat):Int)<=k)=true then some ⟨#[]⟩ else y) else some ⟨#[]⟩)=some r:=fun ⟨z,h,cX⟩=>⟨z,av r1 (d9 rfl (Oy (d9 rfl h))),av r2 (d9 rfl (ea bl (ea cr cX)))⟩;refine fin ?_
 cases a:g.sL with
 | true=>exact⟨_,av q1 (d9 rfl (av e1 (d9 a rfl))),av q2 (d9 rfl (av e2 (av op (d9 (by rw[a];rfl) rfl))))⟩
 | false =>
 cases b:g.pV with
 | true=>exact⟨_,av q1 (d9 rfl (av e1 (e3 a (d9 b rfl)))),av q2 (d9 rfl (av e2 (av op (d9 (by rw[a,b];rfl) rfl))))⟩
 | false =>
 have of:(g.sL || g.pV)=false:=by rw[a,b];rfl
 by_cases lW:mn (ep bW).1=0
 ·by_cases sv:mn (ep ad).1=0
  ·exact⟨_,av q1 (d9 rfl (av e1 (e3 a (e3 b (av s1 (d9 (pD lW) (av s2 (d9 (pD sv) rfl)))))))),av q2 (d9 rfl (av e2 (av op (e3 of (av t1 (d9 (pD lW) (av t2 (d9 (pD sv) rfl))))))))⟩
  ·exact⟨_,av q1 (d9 rfl (av e1 (e3 a (e3 b (av s1 (d9 (pD lW) (av s2 (e3 (rz sv) rfl)))))))),av q2 (d9 rfl (av e2 (av op (e3 of (av t1 (d9 (pD lW) (av t2 (e3 (rz sv) rfl))))))))⟩
 ·exact⟨_,av q1 (d9 rfl (av e1 (e3 a (e3 b (av s1 (e3 (rz lW) rfl)))))),av q2 (d9 rfl (av e2 (av op (e3 of (av t1 (e3 (rz lW) rfl))))))⟩
theorem Y7 (x0:dc)(x1:ar)(x2:Int)(i0:od x0)(i1:(fun l=>l.length<=maxLen/\ ∀x∈l,m2 x) x1)(i2:m2 x2):G2 x0 x1 x2=some true:=by
 unfold G2;rw[fU];by_cases h1:(1048576:Int)<(x1.length:Nat)
 ·exact dv h1 rfl
 refine ea h1 ?_;obtain⟨r,r1,r2⟩:=aaF x0 i0 1048576 (by omega) (by omega);refine av r1 ?_;by_cases R:r<0
 ·exact dv R rfl
 obtain⟨gM,gX⟩:=r2 (by omega);obtain⟨q,q1,q2⟩:=acy x0 i0 x1 i1.1 x2 i2;exact ea R (av (aaG x0 gM gX) (av (acp x1 (by omega)) (av q1 (av q2 (e3 (by simp) (av (aaE x0 gM gX) (d9 rfl (av (acj x1 (by omega)) (d9 rfl rfl)))))))))
end Go.Proofs.YthgbjflfgmahbabGreat
