/- Lemmas, plain functions of the program, and what they answer. No condition. -/
import Derived.Test.YthgbjflfgmahbafGreatME
namespace Go.Proofs.YthgbjflfgmahbafGreat
set_option linter.unusedVariables false
set_option linter.unusedSimpArgs false
open Go Go.VL
theorem tJ {n:Int}(h:nV n):qo n=some (cl (n:Rat)):=by rw[agu h];unfold cl fg;rw[Rat.num_intCast,Rat.den_intCast];rfl
theorem YP {n:Int}(h:nV n):e5 (n:Rat):=by have:=alw h;unfold e5;rw[Rat.num_intCast,Rat.den_intCast];exact⟨this.num,this.den⟩
theorem Yb {n d:Int}{x:Rat}(h0:d≠0)(e:(d:Rat)*x=n)(a2:(n.natAbs:Int)<B 24)(bI:(d.natAbs:Int)<B 24):e5 x:=by
 have tV:(d:Rat)≠0:=fun c=>h0 (Rat.intCast_inj.1 (by rw[c];rfl));have U:x=Rat.divInt n d:=by rw[Rat.divInt_eq_div,<- e];grind
 rw[U];unfold e5;rw[Rat.num_divInt,Rat.den_divInt,dB h0];constructor
 ·have h1:(d.sign*n / (d.gcd n:Int)).natAbs<=(d.sign*n).natAbs:=Int.natAbs_ediv_le_natAbs _ _;have h2:(d.sign*n).natAbs<=n.natAbs:=(by rw[Int.natAbs_mul];have:d.sign.natAbs<=1:=(by rw[Int.natAbs_sign];split<;>omega);exact Nat.le_trans (arn _ this) (by omega));omega
 have:d.natAbs / d.gcd n<=d.natAbs:=Nat.div_le_self _ _;omega
theorem qP {x:Rat}:kC x=0↔x=0:=by
 unfold kC;split
 ·simp_all
 split<;>simp_all
theorem uK {x:Rat}:0<kC x↔0<x:=by
 unfold kC;split
 ·rename_i h;rw[h];simp
 split
 ·rename_i h1 h2;constructor
  ·intro h;omega
  intro h;grind
 rename_i h1 h2;constructor
 ·intro h;grind
 intro h;omega
theorem aj3 (n:Nat)(a2:n<=1000)(k:Nat)(a4:k<n)(a b:Nat->Rat)(bH:∀j,j<n->e5 (a j))(aO:∀j,j<n->e5 (b j))(hm:∀j,j<n->e5 (-(a k)*b j))(bS:∀j,j<n->e5 (a j-a k*b j)):
 GK k 0 n 0 n (aC n fun j=>cl (a j)) (aC n fun j=>cl (b j))=some (aC n fun j=>cl (a j-a k*b j)):=by
 unfold GK;refine c8 (az (x:=cl (a k)) (by rw[dw];exact ie a4) (az (rE (bH k a4)) ?_));refine sb (fun h=> ?_) (fun h=> ?_)
 ·have h0:=qP.1 (by simpa using h);congr 1;exact eW fun j _=>by rw[h0];congr 1;grind
 refine az (LS (bH k a4)) ?_
 obtain⟨s,e1,e2⟩:=ic (f:=fun w:Int×arI=>C3 0 n 0 n (n:Int) (aC n fun j=>cl (b j)) (cl (-(a k))).bQ.cQ (cl (-(a k))).bQ.bZ (cl (-(a k))).cC w.1 w.2)
  (fun (i:Nat) (_:Unit)=>((i:Int),aC n fun j=>if j<i then cl (a j-a k*b j) else cl (a j))) n (fun _ _=>True) (fun _=>aC n fun j=>cl (a j-a k*b j))
  (fun i aa _ _=>by
    refine⟨(),?_,trivial⟩;unfold C3;refine fb (c8 (az (x:=cl (b i)) (by simp only;rw[dw];exact ie aa) (az (rE (aO i aa)) ?_)));refine sb (fun h=> ?_) (fun h=> ?_)
    ·refine c8 (az (x:=cl (a i)) (by simp only;rw[dw,ie aa,eR]) ?_)
     refine az (Zs (bH k a4).neg (aO i aa) (hm i aa)) (az (H5 (bH i aa) (hm i aa) (by have:=bS i aa;rw[show a i + -(a k)*b i=a i-a k*b i by grind];exact this)) ?_);refine c8 ?_;simp only;rw[fW,dw,dG,ld];congr 3
     exact eW fun j _=>by
      by_cases c:j=i
      ·subst c;rw[dz rfl,cL];congr 1;grind
      rw[dB c];by_cases cw:j<i
      ·rw[dz cw,cL]
      rw[dB cw,eR]
    have h0:b i=0:=qP.1 (by simpa using h);simp only;rw[fW];congr 3
    exact eW fun j _=>by
     by_cases c:j=i
     ·subst c;rw[eR,cL,h0];congr 1;grind
     by_cases cw:j<i
     ·rw[dz cw,cL]
     rw[dB cw,eR])
  (fun _ _=>by unfold C3;refine fp ?_;simp only;congr 2;exact eW fun j ap=>dz ap) () trivial
 refine az (x:=aC n fun j=>cl (a j-a k*b j)) ?_ rfl;unfold T6;have bG:(aC n fun j=>if j<0 then cl (a j-a k*b j) else cl (a j))=aC n fun j=>cl (a j):=eW fun j _=>dB (by omega);rw[bG] at e1;exact e1
theorem XF (n:Nat)(a2:n<=1000)(k:Nat)(a4:k<n)(a b:Nat->Rat)(bH:∀j,j<n->e5 (a j))(aO:∀j,j<n->e5 (b j))(hm:∀j,j<n->e5 (-(a k)*b j))(bS:∀j,j<n->e5 (a j-a k*b j)):
 Ad k 0 n (aC n fun j=>cl (a j)) (aC n fun j=>cl (b j))=some (aC n fun j=>cl (a j-a k*b j)):=by
 unfold Ad;rw[c2];refine c8 (az (x:=cl (a k)) (by rw[dw];exact ie a4) (az (rE (bH k a4)) ?_));refine sb (fun h=> ?_) (fun h=> ?_)
 ·have h0:=qP.1 (by simpa using h);congr 1;exact eW fun j _=>by rw[h0];congr 1;grind
 refine az (LS (bH k a4)) ?_
 obtain⟨s,e1,e2⟩:=ic (f:=fun w:Int×arI=>yn 0 n (n:Int) (aC n fun j=>cl (b j)) (cl (-(a k))).bQ.cQ (cl (-(a k))).bQ.bZ (cl (-(a k))).cC w.1 w.2)
  (fun (i:Nat) (_:Unit)=>((i:Int),aC n fun j=>if j<i then cl (a j-a k*b j) else cl (a j))) n (fun _ _=>True) (fun _=>aC n fun j=>cl (a j-a k*b j))
  (fun i aa _ _=>by
    refine⟨(),?_,trivial⟩;unfold yn;refine fb (c8 (az (x:=cl (b i)) (by simp only;rw[dw];exact ie aa) (az (rE (aO i aa)) ?_)));refine sb (fun h=> ?_) (fun h=> ?_)
    ·refine c8 (az (x:=cl (a i)) (by simp only;rw[dw,ie aa,eR]) ?_)
     refine az (Zs (bH k a4).neg (aO i aa) (hm i aa)) (az (H5 (bH i aa) (hm i aa) (by have:=bS i aa;rw[show a i + -(a k)*b i=a i-a k*b i by grind];exact this)) ?_);refine c8 ?_;simp only;rw[fW,dw,dG,ld];congr 3
     exact eW fun j _=>by
      by_cases c:j=i
      ·subst c;rw[dz rfl,cL];congr 1;grind
      rw[dB c];by_cases cw:j<i
      ·rw[dz cw,cL]
      rw[dB cw,eR]
    have h0:b i=0:=qP.1 (by simpa using h);simp only;rw[fW];congr 3
    exact eW fun j _=>by
     by_cases c:j=i
     ·subst c;rw[eR,cL,h0];congr 1;grind
     by_cases cw:j<i
     ·rw[dz cw,cL]
     rw[dB cw,eR])
  (fun _ _=>by unfold yn;refine fp ?_;simp only;congr 2;exact eW fun j ap=>dz ap) () trivial
 refine az (x:=aC n fun j=>cl (a j-a k*b j)) ?_ rfl;unfold NC;have bG:(aC n fun j=>if j<0 then cl (a j-a k*b j) else cl (a j))=aC n fun j=>cl (a j):=eW fun j _=>dB (by omega);rw[bG] at e1;exact e1
def jt (m N:Nat):arL:=aC m fun i=>some (i,N+1)
def db (m:Nat)(t:b8):ar:=aC m fun i=>(t.B i:Int)
def h8 (N:Nat)(t:b8)(i:Nat):arI:=aC (N+1) fun j=>cl (t.T i j)
def hj (m N:Nat)(t:b8):arM:=aC m (h8 N t)
def ij (N:Nat)(c:Nat->Rat):arI:=aC (N+1) fun j=>cl (c j)
structure Mj (m N:Nat) (t:b8) (c:Nat->Rat) (r k:Nat):Prop where
 T : ∀i,i<m-> ∀j,j<=N->e5 (t.T i j)
 i5 : ∀i,i<m-> ∀j,j<=N->e5 ((t.cA r k).T i j)
 M : ∀i,i<m->i≠r-> ∀j,j<=N->e5 (-(t.T i k)*(t.T r j / t.T r k))
 a1 : ∀j,j<=N->e5 (c j)
 wN : ∀j,j<=N->e5 (c j-c k*(t.T r j / t.T r k))
 hm : ∀j,j<=N->e5 (-(c k)*(t.T r j / t.T r k))
theorem Yc {m N:Nat}(hm:m<=1000)(fY:N<1000){t:b8}{c:Nat->Rat}{r k:Nat}(ak:r<m)(a4:k<=N)(ai:t.T r k≠0)(h:Mj m N t c r k)(na:Int):
 Ag r k na (jt m N) (db m t) (ij N c) (hj m N t)=some (db m (t.cA r k),ij N (fun j=>c j-c k*(t.T r j / t.T r k)),hj m N (t.cA r k)):=by
 have wa : ∀j,(t.cA r k).T r j=t.T r j / t.T r k:=fun j=>by simp[b8.cA]
 have ym : ∀i j,i≠r->(t.cA r k).T i j=t.T i j-t.T i k*(t.T r j / t.T r k):=fun i j aa=>by simp[b8.cA,aa]
 unfold Ag;refine cE (by unfold jt;rw[c2];omega) (az (x:=some (r,N+1)) (by rw[dw];exact ie ak) (az (x:=(r,N+1)) rfl (az (x:=h8 N t r) (ho ak) ?_)));refine c8 (az (x:=cl (t.T r k)) (by rw[dw];exact ie (by omega)) ?_)
 obtain⟨s1,e1,-⟩:=ic (f:=fun w:Int×arM=>C4 r k (((N+1:Nat):Nat):Int) na (jt m N) (db m t) (ij N c) (cl (t.T r k)).bQ.cQ (cl (t.T r k)).bQ.bZ (cl (t.T r k)).cC w.1 w.2)
  (fun (i:Nat) (_:Unit)=>((i:Int),aC m fun fU=>if fU=r then aC (N+1) (fun j=>if j<i then cl (t.T r j / t.T r k) else cl (t.T r j)) else h8 N t fU)) (N+1) (fun _ _=>True)
  (fun _=>aC m fun fU=>if fU=r then h8 N (t.cA r k) r else h8 N t fU)
  (fun i aa _ _=>by
    refine⟨(),?_,trivial⟩;unfold C4;refine fb (cE (by unfold jt;rw[c2];omega) (az (x:=some (r,N+1)) (by rw[dw];exact ie ak) (az (x:=(r,N+1)) rfl ?_)));refine az (x:=aC (N+1) (fun j=>if j<i then cl (t.T r j / t.T r k) else cl (t.T r j))) (by simp only;rw[ho ak,dz rfl]) ?_;refine c8 (az (x:=cl (t.T r i)) (by simp only;rw[dw,ie aa,eR]) ?_);refine az (Zt (h.T r ak i (by omega)) (h.T r ak k a4) ai (by have:=h.i5 r ak i (by omega);rw[wa] at this;exact this)) ?_;simp only;rw[fW,dw,dG,ld,ld];congr 3;refine eW fun fU _=> ?_;by_cases a6:fU=r
    ·rw[dz a6,dz a6]
     exact eW fun j _=>by
      by_cases cw:j=i
      ·subst cw;rw[dz rfl,cL]
      rw[dB cw];by_cases j8:j<i
      ·rw[dz j8,cL]
      rw[dB j8,eR]
    rw[dB a6,dB a6,dB a6])
  (fun _ _=>by
    unfold C4;refine fp ?_;simp only;congr 2;refine eW fun fU _=> ?_;by_cases a6:fU=r
    ·rw[dz a6,dz a6];exact eW fun j ap=>by rw[dz ap,wa]
    rw[dB a6,dB a6]) () trivial
 refine az (x:=aC m fun fU=>if fU=r then h8 N (t.cA r k) r else h8 N t fU) ?_ ?_
 ·unfold T7
  have bG:(aC m fun fU=>if fU=r then aC (N+1) (fun j=>if j<0 then cl (t.T r j / t.T r k) else cl (t.T r j)) else h8 N t fU)=hj m N t:=eW fun fU _=>by
   by_cases a6:fU=r
   ·rw[dz a6,a6];exact eW fun j _=>dB (by omega)
   rw[dB a6]
  rw[bG] at e1;exact e1
 obtain⟨s2,e2,-⟩:=ic (f:=fun w:Int×arM=>C5 r k (m:Int) na (jt m N) (db m t) (ij N c) w.1 w.2)
  (fun (i:Nat) (_:Unit)=>((i:Int),aC m fun fU=>if fU=r\/fU<i then h8 N (t.cA r k) fU else h8 N t fU)) m (fun _ _=>True)
  (fun _=>hj m N (t.cA r k))
  (fun i aa _ _=>by
    refine⟨(),?_,trivial⟩;unfold C5;refine fb (sb (fun dX=> ?_) (fun Fp=> ?_))
    ·have FV:i≠r:=by intro c;subst c;simp at dX
     refine cE (by unfold jt;rw[c2];simp only;omega) (az (x:=some (i,N+1)) (by simp only;rw[dw];exact ie aa) ?_);refine cE (by unfold jt;rw[c2];omega) (az (x:=some (r,N+1)) (by rw[dw];exact ie ak) ?_);refine az (x:=(i,N+1)) rfl (az (x:=(r,N+1)) rfl ?_);refine az (x:=h8 N t i) (by simp only;rw[ho aa,eR]) (az (x:=h8 N (t.cA r k) r) (by simp only;rw[ho ak,dz (.inl rfl)]) ?_);refine c8 ?_;refine az (aj3 (N+1) (by omega) k (by omega) (fun j=>t.T i j) (fun j=>(t.cA r k).T r j) (fun j ap=>h.T i aa j (by omega)) (fun j ap=>h.i5 r ak j (by omega)) (fun j ap=>by rw[wa];exact h.M i aa FV j (by omega)) (fun j ap=>by have:=h.i5 i aa j (by omega);rw[ym i j FV] at this;rw[wa];exact this)) ?_;simp only;rw[fW,ld,ld];congr 3;refine eW fun fU _=> ?_;by_cases a6:fU=r
     ·rw[dz a6,dz (.inl a6),a6]
     rw[dB a6];by_cases cw:fU=i
     ·subst cw;rw[dz rfl,dz (.inr (by omega))];exact eW fun j _=>by rw[ym fU j FV,wa]
     rw[dB cw];by_cases j8:fU<i
     ·rw[dz (.inr j8),dz (.inr (by omega))]
     rw[eR,eR]
    have FV:i=r:=(by simp at Fp;omega);simp only;rw[fW];congr 3;refine eW fun fU _=> ?_;by_cases a6:fU=r\/fU<i
    ·rw[dz a6,cL]
    rw[dB a6,eR])
  (fun _ _=>by unfold C5;refine fp ?_;simp only;congr 2;exact eW fun fU lj=>dz (.inr lj)) () trivial
 refine az (x:=hj m N (t.cA r k)) ?_ ?_
 ·unfold T8
  rw[show ((jt m N).length:Nat)=m from c2 ..]
  have bG:(aC m fun fU=>if fU=r\/fU<0 then h8 N (t.cA r k) fU else h8 N t fU)=aC m fun fU=>if fU=r then h8 N (t.cA r k) r else h8 N t fU:=eW fun fU _=>by
   by_cases a6:fU=r
   ·rw[dz (.inl a6),dz a6,a6]
   rw[eR,dB a6]
  rw[bG] at e2;exact e2
 refine az (x:=h8 N (t.cA r k) r) (ho ak) (c8 ?_);refine az (XF (N+1) (by omega) k (by omega) c (fun j=>(t.cA r k).T r j) (fun j ap=>h.a1 j (by omega)) (fun j ap=>h.i5 r ak j (by omega)) (fun j ap=>by rw[wa];exact h.hm j (by omega)) (fun j ap=>by rw[wa];exact h.wN j (by omega))) ?_;refine cE (by unfold ij;rw[c2,c2]) (cE (by unfold db;rw[c2];omega) (cE (by unfold db;rw[c2,dw];omega) ?_));congr 1;rw[dw,dG];congr 1
 ·unfold db;rw[ld];exact eW fun i _=>by simp only[b8.cA];split<;>rfl
 congr 1
 ·exact eW fun j _=>by rw[wa]
 unfold hj;rw[ld]
 exact eW fun i _=>by
  split
  ·rename_i a6;rw[a6]
  rfl
theorem aj4 {m:Nat}(hm:m<=1000)(t:b8)(na:Int)(rows:arM)(cost:arI)(j:Nat): ∃b,G1 ⟨na,rows,db m t,cost⟩ (j:Int)=some b/\(b=true↔ ∃i,i<m/\t.B i=j):=by
 unfold G1
 obtain⟨r,e,h⟩:=uH (f:=fun w:Int=>Gj j (db m t) (m:Int) w) (fun (i:Nat) (_:Unit)=>(i:Int)) m (fun i _=> ∀k,k<i->t.B k≠j) (fun r=>(r = .inr ()/\ ∃i,i<m/\t.B i=j)\/(r = .inl ()/\ ¬∃i,i<m/\t.B i=j))
  (fun i aa _ dh=>by
    unfold Gj;by_cases c:t.B i=j
    ·right;refine⟨_,fb (cE (by unfold db;rw[c2];omega) (az (x:=(t.B i:Int)) (by rw[dw];exact ho aa) (gd (by simp[c]) rfl))),.inl ⟨rfl,i,aa,c⟩⟩
    left;refine⟨(),fb (cE (by unfold db;rw[c2];omega) (az (x:=(t.B i:Int)) (by rw[dw];exact ho aa) (iQ (by simp;omega) (by rw[fW])))),fun k a4=> ?_⟩;by_cases e:k=i
    ·rw[e];exact c
    exact dh k (by omega))
  (fun _ dh=>⟨_,fp rfl,.inr ⟨rfl,fun ⟨i,aa,e⟩=>dh i aa e⟩⟩) () (fun k a4=>by omega)
 have fA:NZ j (db m t) (aE eI (db m t)) 0=some r:=by unfold NZ;rw[hS,show (db m t).length=m from c2 ..];exact e
 rcases h with ⟨rfl,h⟩|⟨rfl,h⟩
 ·exact⟨true,az fA rfl,by simp[h]⟩
 exact⟨false,az fA rfl,by simp[h]⟩
theorem akL {N:Nat}(fY:N<1000)(na:Int)(rows:arM)(kA:ar)(c:Nat->Rat){j:Nat}(ap:j<=N)(a1:e5 (c j)):xh ⟨na,rows,kA,ij N c⟩ (j:Int) false=some (kC (c j)):=by
 unfold xh;refine cE (by unfold ij;rw[c2];omega) (az (x:=cl (c j)) (by rw[dw];exact tm) (az (rE a1) ?_));refine az (x:= .inl (kC (c j))) ?_ rfl;unfold Vn;rw[iter];have:z1 na rows kA (ij N c) (j:Int) false (kC (c j)) 0=some (.inr (.inl (kC (c j)))):=by unfold z1;exact sb (fun _=>rfl) (fun _=>rfl)
 simp only;rw[this];rfl
theorem Lg {x y z w:Rat}(aY:0<y)(hw:0<w):(x / y<=z / w↔x*w<=z*y)/\(x / y=z / w↔x*w=z*y):=by
 have e1:x*w=(x / y)*(y*w):=by grind
 have e2:z*y=(z / w)*(y*w):=by grind
 have ai:0<y*w:=Rat.mul_pos aY hw;constructor
 ·rw[e1,e2]
  constructor
  ·intro h;exact Rat.mul_le_mul_of_nonneg_right h (Rat.le_of_lt ai)
  intro h;apply Classical.byContradiction;intro c;have:z / w<x / y:=(by grind);have:=Rat.mul_lt_mul_of_pos_right this ai;grind
 rw[e1,e2];constructor
 ·intro h;rw[h]
 intro h;have dX:y*w≠0:=by grind
 grind
def LA (m N:Nat)(t:b8)(j:Nat)(r:Int):Prop :=
 (r = -1/\ ∀i,i<m-> ¬0<t.T i j)\/ ∃b:Nat,r=b/\b<m/\0<t.T b j/\(∀i,i<m->0<t.T i j->t.T b N*t.T i j<=t.T i N*t.T b j)/\(∀i,i<m->0<t.T i j->t.T b N*t.T i j=t.T i N*t.T b j->t.B b<=t.B i)
theorem aj5 {m N:Nat}(hm:m<=1000)(fY:N<1000)(t:b8)(na:Int)(cost:arI){j:Nat}(ap:j<=N)(iz:∀i,i<m-> ∀j,j<=N->e5 (t.T i j))(a0:∀i,i<m->0<t.T i j->e5 (t.T i N / t.T i j)):
 ∃r,G3 ⟨na,hj m N t,db m t,cost⟩ (j:Int)=some r/\LA m N t j r:=by
 unfold G3
 obtain⟨r,e,h⟩:=uH (f:=fun w:Int×Int×Bool×ar×ar=>Dg na (hj m N t) (db m t) cost j (m:Int) w.1 w.2.1 w.2.2.1 w.2.2.2.1 w.2.2.2.2)
  (fun (i:Nat) (s:Int×au)=>(s.1,(i:Int),s.2.bQ.cQ,s.2.bQ.bZ,s.2.cC)) m
  (fun n s=>(s.1 = -1/\ ∀i,i<n-> ¬0<t.T i j)\/ ∃b:Nat,s.1=b/\b<n/\0<t.T b j/\s.2=cl (t.T b N / t.T b j)/\ ∀i,i<n->0<t.T i j->t.T b N / t.T b j<t.T i N / t.T i j\/(t.T b N / t.T b j=t.T i N / t.T i j/\t.B b<=t.B i))
  (fun r=>LA m N t j r)
  (fun n a2 s dh=>by
    left;unfold Dg;have g1:0<=(n:Int)/\(n:Int)<((hj m N t).length:Nat):=(by unfold hj;rw[c2];omega);have g2:(hj m N t)[(n:Int).toNat]? = some (h8 N t n):=(by rw[dw];exact ho a2);have g3:0<=(j:Int)/\(j:Int)<((h8 N t n).length:Nat):=(by unfold h8;rw[c2];omega);have g4:(h8 N t n)[(j:Int).toNat]? = some (cl (t.T n j)):=(by rw[dw];exact ho (by omega));have iW:J ((n:Int)+1)=((n+1:Nat):Int):=xR (by omega);have wl:J (aE aG (h8 N t n)-1)=(N:Int):=(by rw[fh,show (h8 N t n).length=N+1 from c2 ..,c7];omega);by_cases ai:0<t.T n j
    ·have bS : ¬kC (t.T n j)<=0:=by have:=uK.2 ai;omega
     have g5:0<=J (aE aG (h8 N t n)-1)/\J (aE aG (h8 N t n)-1)<((h8 N t n).length:Nat):=(by rw[wl];unfold h8;rw[c2];omega);have g6:(h8 N t n)[(J (aE aG (h8 N t n)-1)).toNat]? = some (cl (t.T n N)):=(by rw[wl,dw];exact ho (by omega));have g7:At (cl (t.T n N)) (cl (t.T n j))=some (cl (t.T n N / t.T n j)):=Zt (iz n a2 N (by omega)) (iz n a2 j ap) (by grind) (a0 n a2 ai);rcases dh with ⟨h1,h2⟩|⟨b,h1,aO,l5,h2,R⟩
     ·refine⟨((n:Int),cl (t.T n N / t.T n j)),fb (cE g1 (az g2 (cE g3 (az g4 (az (rE (iz n a2 j ap)) (la bS (cE g5 (az g6 (az g7 (fb ?_)))))))))),.inr ⟨n,rfl,by omega,ai,rfl,fun i aa kr=> ?_⟩⟩
      ·simp only;rw[iW]
      by_cases c:i=n
      ·subst c;exact .inr ⟨rfl,dE _⟩
      exact(h2 i (by omega) kr).elim
     have g8:Au (cl (t.T n N / t.T n j)) (⟨(⟨s.2.bQ.cQ,s.2.bQ.bZ⟩:bK),s.2.cC⟩:au)=some (if t.T n N / t.T n j<t.T b N / t.T b j then -1 else if t.T b N / t.T b j<t.T n N / t.T n j then 1 else 0):=(by have:(⟨(⟨s.2.bQ.cQ,s.2.bQ.bZ⟩:bK),s.2.cC⟩:au)=cl (t.T b N / t.T b j):=h2;rw[this];exact aly (a0 n a2 ai) (a0 b (by omega) l5));by_cases a6:t.T n N / t.T n j<t.T b N / t.T b j
     ·rw[dz a6] at g8
      refine⟨((n:Int),cl (t.T n N / t.T n j)),fb (cE g1 (az g2 (cE g3 (az g4 (az (rE (iz n a2 j ap)) (la bS (cE g5 (az g6 (az g7 (fp (az g8 (fb ?_)))))))))))),.inr ⟨n,rfl,by omega,ai,rfl,fun i aa kr=> ?_⟩⟩
      ·simp only;rw[iW]
      by_cases c:i=n
      ·subst c;exact .inr ⟨rfl,dE _⟩
      rcases R i (by omega) kr with h|⟨h,-⟩
      ·left;grind
      left;rw[<- h];exact a6
     rw[dB a6] at g8;by_cases cw:t.T b N / t.T b j<t.T n N / t.T n j
     ·rw[dz cw] at g8
      refine⟨s,fb (cE g1 (az g2 (cE g3 (az g4 (az (rE (iz n a2 j ap)) (la bS (cE g5 (az g6 (az g7 (fp (az g8 (fp (iQ (by decide) ?_))))))))))))),.inr ⟨b,h1,by omega,l5,h2,fun i aa kr=> ?_⟩⟩
      ·simp only;rw[iW]
      by_cases c:i=n
      ·subst c;exact .inl cw
      exact R i (by omega) kr
     rw[dB cw] at g8;have Rx:t.T b N / t.T b j=t.T n N / t.T n j:=(by grind);have MW:0<=(n:Int)/\(n:Int)<((db m t).length:Nat):=(by unfold db;rw[c2];omega);have MX:(db m t)[(n:Int).toNat]? = some (t.B n:Int):=(by rw[dw];exact ho a2);have aa5:0<=s.1/\s.1<((db m t).length:Nat):=(by unfold db;rw[c2];omega);have aa6:(db m t)[s.1.toNat]? = some (t.B b:Int):=(by rw[h1,dw];exact ho (by omega));by_cases j8:t.B n<t.B b
     ·refine⟨((n:Int),cl (t.T n N / t.T n j)),fb (cE g1 (az g2 (cE g3 (az g4 (az (rE (iz n a2 j ap)) (la bS (cE g5 (az g6 (az g7 (fp (az g8 (fp (gd rfl (cE MW (az MX (cE aa5 (az aa6 (fb ?_)))))))))))))))))),.inr ⟨n,rfl,by omega,ai,rfl,fun i aa kr=> ?_⟩⟩
      ·simp only;rw[iW]
      by_cases c:i=n
      ·subst c;exact .inr ⟨rfl,dE _⟩
      rcases R i (by omega) kr with h|⟨h,dc⟩
      ·left;grind
      right;exact⟨by grind,by omega⟩
     refine⟨s,fb (cE g1 (az g2 (cE g3 (az g4 (az (rE (iz n a2 j ap)) (la bS (cE g5 (az g6 (az g7 (fp (az g8 (fp (gd rfl (cE MW (az MX (cE aa5 (az aa6 (fp ?_)))))))))))))))))),.inr ⟨b,h1,by omega,l5,h2,fun i aa kr=> ?_⟩⟩
     ·simp only;rw[iW]
     by_cases c:i=n
     ·subst c;exact .inr ⟨Rx,by omega⟩
     exact R i (by omega) kr
    have bS:kC (t.T n j)<=0:=(by have : ¬0<kC (t.T n j):=fun c=>ai (uK.1 c);omega);refine⟨s,fb (cE g1 (az g2 (cE g3 (az g4 (az (rE (iz n a2 j ap)) (lT bS ?_)))))),?_⟩
    ·simp only;rw[iW]
    rcases dh with ⟨h1,h2⟩|⟨b,h1,aO,l5,h2,R⟩
    ·exact .inl ⟨h1,fun i aa=>if c:i=n then c▸ai else h2 i (by omega)⟩
    exact .inr ⟨b,h1,by omega,l5,h2,fun i aa kr=>if c:i=n then (ai (c▸kr)).elim else R i (by omega) kr⟩)
  (fun s dh=>by
    refine⟨s.1,by unfold Dg;exact fp rfl,?_⟩;rcases dh with ⟨h1,h2⟩|⟨b,h1,aO,l5,h2,R⟩
    ·exact .inl ⟨h1,h2⟩
    refine .inr ⟨b,h1,aO,l5,fun i aa kr=> ?_,fun i aa kr he=> ?_⟩
    ·rw[<- (Lg l5 kr).1]
     rcases R i aa kr with h|⟨h,-⟩
     ·exact Rat.le_of_lt h
     rw[h];exact Rat.le_refl
    rw[<- (Lg l5 kr).2] at he;rcases R i aa kr with h|⟨-,h⟩
    ·rw[he] at h;grind
    exact h) ((-1:Int),(⟨⟨false,[]⟩,[]⟩:au)) (.inl ⟨rfl,fun i aa=>by omega⟩)
 refine⟨r,az ?_ rfl,h⟩;unfold UY;rw[fh,show (hj m N t).length=m from c2 ..];exact e
theorem H6 {m N:Nat}(t:b8):(jt m N).all (rW (hj m N t))=true:=by
 rw[List.all_eq_true];intro x U;obtain⟨i,aa,rfl⟩:=PF.1 U;simp only[rW];have h1:(hj m N t).length=m:=c2 ..;have h2:(hj m N t).getD i []=h8 N t i:=by rw[dN,show (hj m N t)[i]? = some (h8 N t i) from ho aa];rfl
 rw[h1,h2,show (h8 N t i).length=N+1 from c2 ..];simp[aa]
theorem A9 {m N:Nat}(t:b8):(jt m N).map (jg (hj m N t))=hj m N t:=by unfold jt;rw[YF];exact eW fun i aa=>by have h2:(hj m N t).getD i []=h8 N t i:=(by rw[dN,show (hj m N t)[i]? = some (h8 N t i) from ho aa];rfl);simp only[jg];rw[h2];exact arp (Nat.le_of_eq (c2 ..))
theorem aj6 {m N:Nat}(hm:m<=1000)(fY:N<1000)(t:b8)(c:Nat->Rat)(deep:Bool)(G:Nat->Prop)(aoZ:∀j,G j-> ∀i,i<m->t.B i≠j)
 (bS : ∀j,j<N-> ∃g,xh ⟨N,hj m N t,db m t,ij N c⟩ (j:Int) deep=some g/\((∀i,i<m->t.B i≠j)->(0<g↔G j))) :
 ∃r,N0 deep N (jt m N) (db m t) (ij N c) (hj m N t) (-1) 0=some r/\((r = -1/\ ∀j,j<N-> ¬G j)\/ ∃s:Nat,r=s/\s<N/\G s/\ ∀j,j<s-> ¬G j):=by
 unfold N0
 refine uH (f:=fun w:Int×Int=>zZ deep N (jt m N) (db m t) (ij N c) (hj m N t) w.1 w.2) (fun (i:Nat) (e:Int)=>(e,(i:Int))) N
  (fun n e=>(e = -1/\ ∀j,j<n-> ¬G j)\/ ∃s:Nat,e=s/\s<N/\G s/\ ∀j,j<s-> ¬G j) _ (fun n a2 e dh=> ?_) (fun e dh=> ?_) (-1) (.inl ⟨rfl,fun j ap=>by omega⟩)
 ·rcases dh with ⟨rfl,h⟩|⟨s,rfl,yc,xX,aoh⟩
  ·left
   obtain⟨b,e1,e2⟩:=aj4 hm t (N:Int) (hj m N t) (ij N c) n;obtain⟨g,g1,g2⟩:=bS n a2;unfold zZ
   cases b with
   | true =>
    obtain⟨i,aa,Mz⟩:=e2.1 rfl;refine⟨-1,fb (lT (by simp) (cE (H6 t) (az (by rw[A9];exact e1) (gd rfl ?_)))),.inl ⟨rfl,fun j ap d6=> ?_⟩⟩
    ·simp only;rw[fW]
    by_cases c:j=n
    ·subst c;exact aoZ j d6 i aa Mz
    exact h j (by omega) d6
   | false =>
    have aa7 : ∀i,i<m->t.B i≠n:=fun i aa e=>(by have:=e2.2 ⟨i,aa,e⟩;simp at this);by_cases d6:G n
    ·refine⟨(n:Int),fb (lT (by simp) (cE (H6 t) (az (by rw[A9];exact e1) (iQ rfl (az (by rw[A9];exact g1) (lT ((g2 aa7).2 d6) ?_)))))),.inr ⟨n,rfl,a2,d6,h⟩⟩;simp only;rw[fW]
    refine⟨-1,fb (lT (by simp) (cE (H6 t) (az (by rw[A9];exact e1) (iQ rfl (az (by rw[A9];exact g1) (la (fun x=>d6 ((g2 aa7).1 x)) ?_)))))),.inl ⟨rfl,fun j ap=>if c:j=n then c▸d6 else h j (by omega)⟩⟩;simp only;rw[fW]
  right;exact⟨(s:Int),by unfold zZ;exact fb (fp rfl),.inr ⟨s,rfl,yc,xX,aoh⟩⟩
 exact⟨e,by unfold zZ;exact fp rfl,dh⟩
theorem b8.ahs {ft m N K:Nat}{A obj:Nat->Nat->Rat}{t:b8}(h:hZ ft m N A t){j:Nat}(g:t.sP m K obj j): ∀i,i<m->t.B i≠j :=
 fun i aa e=>jD.not_zero g fun l _=>by rw[<- e];exact h.Ax (obj l) aa
theorem Zu {ft m N K:Nat}(hm:m<=1000)(fY:N<1000){A obj:Nat->Nat->Rat}(deep:Bool)(Inv:b8->Prop)
 (inv : ∀t,Inv t->hZ ft m N A t/\t.nW m N) (i3 : ∀t r s,Inv t->qy m N K obj (fun _=>True) t r s->Inv (t.cA r s))
 (bS : ∀t,Inv t-> ∀j,j<N-> ∃g,xh ⟨N,hj m N t,db m t,ij N (t.cF m (obj 0))⟩ (j:Int) deep=some g/\((∀i,i<m->t.B i≠j)->(0<g↔t.sP m K obj j)))
 (iz : ∀t,Inv t-> ∀i,i<m-> ∀j,j<=N->e5 (t.T i j)) (a0 : ∀t,Inv t-> ∀i,i<m-> ∀j,j<=N->0<t.T i j->e5 (t.T i N / t.T i j))
 (ai : ∀t,Inv t-> ∀r k,r<m->k<N->t.T r k≠0->Mj m N t (t.cF m (obj 0)) r k) (t:b8) (cv:Inv t) :
 ∃b cW,xe deep N (jt m N) (db m t) (ij N (t.cF m (obj 0))) (hj m N t)=some (b,db m cW,ij N (cW.cF m (obj 0)),hj m N cW)/\Inv cW /\
  ((b=true/\ ∀j,j<N-> ¬cW.sP m K obj j)\/(b=false/\ ∃s,s<N/\cW.sP m K obj s/\ ∀i,i<m-> ¬0<cW.T i s)):=by
 obtain⟨x,eK,cW,e,⟨aaD,dh⟩,-,-,fl⟩:=WX (ft:=ft) (m:=m) (N:=N) (K:=K) (A:=A) (obj:=obj) (bN:=fun _=>True)
  (f:=fun w:ar×arI×arM=>Gk deep N (jt m N) w.1 w.2.1 w.2.2)
  (fun a t=>a=(db m t,ij N (t.cF m (obj 0)),hj m N t)/\Inv t)
  (fun a x t=> ∃b,x=(b,db m t,ij N (t.cF m (obj 0)),hj m N t)/\((b=true/\ ∀j,j<N-> ¬t.sP m K obj j)\/(b=false/\ ∃s,s<N/\t.sP m K obj s/\ ∀i,i<m-> ¬0<t.T i s)))
  (fun a t ee ok mI=>by
    obtain⟨rfl,dh⟩:=ee;obtain⟨r,e1,e2⟩:=aj6 hm fY t (t.cF m (obj 0)) deep (t.sP m K obj) (fun j d6=>b8.ahs ok d6) (bS t dh);simp only;unfold Gk;rcases e2 with ⟨rfl,h⟩|⟨s,rfl,MY,d6,aZ⟩
    ·left;exact⟨_,az e1 (lT (by decide) rfl),true,rfl,.inl ⟨rfl,h⟩⟩
    obtain⟨q,q1,q2⟩:=aj5 hm fY t (N:Int) (ij N (t.cF m (obj 0))) (j:=s) (by omega) (iz t dh) (fun i aa kr=>a0 t dh i aa s (by omega) kr);rcases q2 with ⟨rfl,h⟩|⟨b,rfl,aO,l5,h1,h2⟩
    ·left;exact⟨_,az e1 (fp (cE (H6 t) (az (by rw[A9];exact q1) (lT (by decide) rfl)))),false,rfl,.inr ⟨rfl,s,MY,d6,h⟩⟩
    right;have du:qy m N K obj (fun _=>True) t b s:=⟨MY,trivial,d6,fun j ap _=>aZ j ap,aO,l5,h1,h2⟩;refine⟨_,b,s,az e1 (fp (cE (H6 t) (az (by rw[A9];exact q1) (fp (az (Yc hm fY aO (by omega) (by grind) (ai t dh b s aO MY (by grind)) N) rfl))))),du,?_,i3 t b s dh du⟩;refine Prod.ext rfl (Prod.ext ?_ rfl);exact eW fun j _=>by rw[ok.Lb (obj 0) aO MY (by grind)])
  (a:=(db m t,ij N (t.cF m (obj 0)),hj m N t)) (t:=t) ⟨rfl,cv⟩ (inv t cv).1 (inv t cv).2
 obtain⟨b,rfl,aO⟩:=fl;refine⟨b,cW,?_,dh,aO⟩;unfold xe;exact az (x:=(b,db m cW,ij N (cW.cF m (obj 0)),hj m N cW)) (by unfold UZ;exact e) rfl
structure nA (p:kk) (m n:Nat) (a:Nat->Nat->Int) (b:Nat->Int):Prop where
 rows:p.gC=m
 gQ:p.fi=n
 iu:p.bR.length=m*n
 IJ : ∀i,i<m-> ∀j,j<n->p.bR[i*n+j]? = some (a i j)
 Cf:p.bP.length=m
 Mk : ∀i,i<m->p.bP[i]? = some (b i)
 hm:m<=20
 a2:n<=40
 mw : ∀i,i<m-> ∀j,j<n-> -100<=a i j/\a i j<=100
 m1 : ∀i,i<m-> -100<=b i/\b i<=100
theorem xM {p:kk}{m n:Nat}{a:Nat->Nat->Int}{b:Nat->Int}(h:nA p m n a b){i:Nat}(aa:i<m)(j:Nat): -100<=mZ m n a b i j/\mZ m n a b i j<=100:=by
 have aO:=h.m1 i aa;unfold mZ mu;by_cases c:j<n
 ·have bH:=h.mw i aa j c;rw[dz c];split<;>omega
 rw[dB c];split
 ·split<;>omega
 split<;>omega
theorem Qj {p:kk}{m n:Nat}{a:Nat->Nat->Int}{b:Nat->Int}(h:nA p m n a b){i:Nat}(aa:i<m)(j:Nat):ei 100 (eb m n a b i j) :=
 ⟨mZ m n a b i j,rfl,by have:=xM h aa j;omega⟩
theorem akM:(1000000000000000000:Int)<B 24:=by decide
theorem Pa {K:Nat}{x:Rat}(h:ei K x)(a4:K<=1000000000000000000):e5 x:=by obtain⟨z,rfl,cK⟩:=h;have:=akM;exact Yb (n:=z) (d:=1) (by decide) (by rw[show ((1:Int):Rat)=1 from rfl];grind) (by omega) (by omega)
theorem Zv {p:kk}{m n:Nat}{a:Nat->Nat->Int}{b:Nat->Int}(h:nA p m n a b){i:Nat}(aa:i<m):Es p i=some (aC n (a i)):=by
 have hm:=h.hm;have a2:=h.a2;have h1:i*n<=20*40:=Nat.mul_le_mul (by omega) a2;have h2:(i+1)*n<=20*40:=Nat.mul_le_mul (by omega) a2;have R:(i+1)*n<=m*n:=arn _ aa;have e1:J ((i:Int)*p.fi)=((i*n:Nat):Int):=by rw[h.gQ,<- Int.natCast_mul,c7]
 have e2:J (J ((i:Int)+1)*p.fi)=(((i+1)*n:Nat):Int):=by rw[h.gQ,fW,<- Int.natCast_mul,c7]
 have aj:(i+1)*n=i*n+n:=Nat.succ_mul i n;unfold Es;rw[e1,e2,dw,dw,h.iu];refine c8 (c8 (c8 ?_));congr 1;apply arw;intro j;rw[dS,arz];by_cases c:j<n
 ·rw[cL,h.IJ i aa j c,ho c]
 rw[eR]
 symm
 rw[List.getElem?_eq_none_iff,c2];omega
def jv (m n:Nat)(a:Nat->Nat->Int)(b:Nat->Int)(i j:Nat):Rat:=if j<n\/j=n+m then cH i (fun k=>eb m n a b k j) else 0
theorem ZU {p:kk}{m n:Nat}{a:Nat->Nat->Int}{b:Nat->Int}(h:nA p m n a b){i:Nat}(aa:i<=m)(j:Nat):ei 2000 (jv m n a b i j):=by
 have hm:=h.hm;unfold jv;split
 ·exact(ei.sum fun k a4=>Qj h (by omega) j).mono (by omega)
 exact⟨0,rfl,by omega⟩
theorem agD {p:kk}{m n:Nat}{a:Nat->Nat->Int}{b:Nat->Int}(h:nA p m n a b){i:Nat}(aa:i<m)(aO:b i<0)(x0:Int)(q2:arL)(bB:arM)(cu:ar)(dn:arI):
 (NO (i:Int) (aC n (a i)) (aE eI (aC n (a i))) p.gC p.fi p.bR p.bP p.h3 x0 q2 bB cu dn 0 ([]:arI) >>= fun a9=>NP (i:Int) p.gC p.fi p.bR p.bP p.h3 x0 q2 bB cu dn 0 a9)=some (aC (n+m) fun j=>cl (eb m n a b i j)):=by
 have hm:=h.hm;have a2:=h.a2;have bS:mu (b i) = -1:=by unfold mu;rw[dz aO]
 obtain⟨s1,e1,-⟩:=ic (f:=fun w:Int×arI=>C0 (i:Int) (aC n (a i)) (n:Int) p.gC p.fi p.bR p.bP p.h3 x0 q2 bB cu dn w.1 w.2)
  (fun (k:Nat) (_:Unit)=>((k:Int),aC k fun j=>cl (eb m n a b i j))) n (fun _ _=>True) (fun _=>aC n fun j=>cl (eb m n a b i j))
  (fun k a4 _ _=>by
    refine⟨(),?_,trivial⟩;have bH:=h.mw i aa k a4;unfold C0;have e:J ((-1:Int)*a i k)=mZ m n a b i k:=(by rw[c7];unfold mZ;rw[dz a4,bS]);refine fb (c8 (az (x:=a i k) (by simp only;rw[dw];exact ho a4) (az (x:=cl (eb m n a b i k)) ?_ (cE (by simp only[dD,c2,dI,dQ];omega) ?_))))
    ·rw[e];exact tJ (by have:=xM h aa k;rw[m2];omega)
    simp only;rw[fW,lW])
  (fun _ _=>by unfold C0;exact fp rfl) () trivial
 refine az (x:=aC n fun j=>cl (eb m n a b i j)) (by unfold NO;rw[hS,c2];exact e1) ?_
 obtain⟨s2,e2,-⟩:=ic (f:=fun w:Int×arI=>C1 (i:Int) p.gC p.fi p.bR p.bP p.h3 x0 q2 bB cu dn w.1 w.2)
  (fun (k:Nat) (_:Unit)=>((k:Int),aC (n+k) fun j=>cl (eb m n a b i j))) m (fun _ _=>True) (fun _=>aC (n+m) fun j=>cl (eb m n a b i j))
  (fun k a4 _ _=>by
    refine⟨(),?_,trivial⟩;unfold C1
    have JY:mZ m n a b i (n+k)=if k=i then 1 else 0:=by
     unfold mZ;rw[eR,eR];by_cases c:k=i
     ·rw[dz c,cL]
     rw[dB c,eR]
    refine lT (by simp only;rw[h.rows];omega) (sb (fun c=> ?_) (fun c=> ?_))
    ·have B2:k=i:=(by simp at c;omega);refine az (x:=cl (eb m n a b i (n+k))) (by unfold eb;rw[JY,dz B2];exact tJ (by rw[m2];omega)) (cE (by simp only[dD,c2,dI,dQ];omega) ?_);simp only;rw[fW,<- Nat.add_assoc,lW]
    have B2:k≠i:=(by simp at c;omega);refine az (x:=cl (eb m n a b i (n+k))) (by unfold eb;rw[JY,dB B2];exact tJ (by rw[m2];omega)) (cE (by simp only[dD,c2,dI,dQ];omega) ?_);simp only;rw[fW,<- Nat.add_assoc,lW])
  (fun _ _=>by unfold C1;exact la (by simp only;rw[h.rows];omega) rfl) () trivial
 unfold NP;exact e2
theorem agE {p:kk}{m n:Nat}{a:Nat->Nat->Int}{b:Nat->Int}(h:nA p m n a b){i:Nat}(aa:i<m)(aO:¬b i<0)(x0:Int)(q2:arL)(bB:arM)(cu:ar)(dn:arI):
 (NA (i:Int) (aC n (a i)) (aE eI (aC n (a i))) p.gC p.fi p.bR p.bP p.h3 x0 q2 bB cu dn 0 ([]:arI) >>= fun a9=>NB (i:Int) p.gC p.fi p.bR p.bP p.h3 x0 q2 bB cu dn 0 a9)=some (aC (n+m) fun j=>cl (eb m n a b i j)):=by
 have hm:=h.hm;have a2:=h.a2;have bS:mu (b i)=1:=by unfold mu;rw[dB aO]
 obtain⟨s1,e1,-⟩:=ic (f:=fun w:Int×arI=>CK (i:Int) (aC n (a i)) (n:Int) p.gC p.fi p.bR p.bP p.h3 x0 q2 bB cu dn w.1 w.2)
  (fun (k:Nat) (_:Unit)=>((k:Int),aC k fun j=>cl (eb m n a b i j))) n (fun _ _=>True) (fun _=>aC n fun j=>cl (eb m n a b i j))
  (fun k a4 _ _=>by
    refine⟨(),?_,trivial⟩;have bH:=h.mw i aa k a4;unfold CK;have e:J ((1:Int)*a i k)=mZ m n a b i k:=(by rw[c7];unfold mZ;rw[dz a4,bS]);refine fb (c8 (az (x:=a i k) (by simp only;rw[dw];exact ho a4) (az (x:=cl (eb m n a b i k)) ?_ (cE (by simp only[dD,c2,dI,dQ];omega) ?_))))
    ·rw[e];exact tJ (by have:=xM h aa k;rw[m2];omega)
    simp only;rw[fW,lW])
  (fun _ _=>by unfold CK;exact fp rfl) () trivial
 refine az (x:=aC n fun j=>cl (eb m n a b i j)) (by unfold NA;rw[hS,c2];exact e1) ?_
 obtain⟨s2,e2,-⟩:=ic (f:=fun w:Int×arI=>CL (i:Int) p.gC p.fi p.bR p.bP p.h3 x0 q2 bB cu dn w.1 w.2)
  (fun (k:Nat) (_:Unit)=>((k:Int),aC (n+k) fun j=>cl (eb m n a b i j))) m (fun _ _=>True) (fun _=>aC (n+m) fun j=>cl (eb m n a b i j))
  (fun k a4 _ _=>by
    refine⟨(),?_,trivial⟩;unfold CL
    have JY:mZ m n a b i (n+k)=if k=i then 1 else 0:=by
     unfold mZ;rw[eR,eR];by_cases c:k=i
     ·rw[dz c,cL]
     rw[dB c,eR]
    refine lT (by simp only;rw[h.rows];omega) (sb (fun c=> ?_) (fun c=> ?_))
    ·have B2:k=i:=(by simp at c;omega);refine az (x:=cl (eb m n a b i (n+k))) (by unfold eb;rw[JY,dz B2];exact tJ (by rw[m2];omega)) (cE (by simp only[dD,c2,dI,dQ];omega) ?_);simp only;rw[fW,<- Nat.add_assoc,lW]
    have B2:k≠i:=(by simp at c;omega);refine az (x:=cl (eb m n a b i (n+k))) (by unfold eb;rw[JY,dB B2];exact tJ (by rw[m2];omega)) (cE (by simp only[dD,c2,dI,dQ];omega) ?_);simp only;rw[fW,<- Nat.add_assoc,lW])
  (fun _ _=>by unfold CL;exact la (by simp only;rw[h.rows];omega) rfl) () trivial
 unfold NB;exact e2
theorem W7 {p:kk}{m n:Nat}{a:Nat->Nat->Int}{b:Nat->Int}(h:nA p m n a b){i:Nat}(aa:i<m)(q2:arM)(bB:arL)(cu:ar)(a0:q2[i]? = some (aC (n+m+1) fun j=>cl (eb m n a b i j))):
 Kk (i:Int) i (n+m+1) (((n+m+1:Nat):Nat):Int) p.gC p.fi p.bR p.bP p.h3 ((n+m:Nat):Int) q2 bB cu 0 (aC (n+m+1) fun j=>cl (jv m n a b i j))=some (aC (n+m+1) fun j=>cl (jv m n a b (i+1) j)):=by
 have hm:=h.hm;have a2:=h.a2;have ao0 : ∀j,e5 (eb m n a b i j):=fun j=>Pa (Qj h aa j) (by omega);have f1 : ∀j,e5 (jv m n a b i j):=fun j=>Pa (ZU h (by omega) j) (by omega);have f2 : ∀j,e5 (jv m n a b (i+1) j):=fun j=>Pa (ZU h (by omega) j) (by omega);have es : ∀j,(j<n\/j=n+m)->jv m n a b i j+eb m n a b i j=jv m n a b (i+1) j:=fun j ap=>by unfold jv;rw[dz ap,dz ap,cH]
 have Cg : ∀j,¬(j<n\/j=n+m)->jv m n a b i j=jv m n a b (i+1) j:=fun j ap=>by unfold jv;rw[dB ap,dB ap]
 obtain⟨s,e,-⟩:=ic (f:=fun w:Int×arI=>C2 (i:Int) i (n+m+1) (((n+m+1:Nat):Nat):Int) p.gC p.fi p.bR p.bP p.h3 ((n+m:Nat):Int) q2 bB cu w.1 w.2)
  (fun (k:Nat) (_:Unit)=>((k:Int),aC (n+m+1) fun j=>cl (if j<k then jv m n a b (i+1) j else jv m n a b i j))) (n+m+1) (fun _ _=>True) (fun _=>aC (n+m+1) fun j=>cl (jv m n a b (i+1) j))
  (fun k a4 _ _=>by
    refine⟨(),?_,trivial⟩
    have fin : ∀r,r=jv m n a b (i+1) k->(J ((k:Int)+1),(aC (n+m+1) fun j=>cl (if j<k then jv m n a b (i+1) j else jv m n a b i j)).set (0+((k:Int)).toNat) (cl r))=(((k+1:Nat):Int),aC (n+m+1) fun j=>cl (if j<k+1 then jv m n a b (i+1) j else jv m n a b i j)):=by
     intro r ak;rw[fW,dw,dG,ld];congr 1;refine eW fun j _=> ?_;by_cases c:j=k
     ·subst c;rw[dz rfl,cL,ak]
     rw[dB c];by_cases cw:j<k
     ·rw[dz cw,cL]
     rw[dB cw,eR]
    have abP : ∀ {x:Option ((Int×arI)⊕arI)},(k<n\/k=n+m)->(∀r,(J ((k:Int)+1),(aC (n+m+1) fun j=>cl (if j<k then jv m n a b (i+1) j else jv m n a b i j)).set (0+((k:Int)).toNat) (cl r))=(((k+1:Nat):Int),aC (n+m+1) fun j=>cl (if j<k+1 then jv m n a b (i+1) j else jv m n a b i j))->some (Sum.inl (J ((k:Int)+1),(aC (n+m+1) fun j=>cl (if j<k then jv m n a b (i+1) j else jv m n a b i j)).set (0+((k:Int)).toNat) (cl r)))=x) ->
     (if 0<=(k:Int)/\(k:Int)<(((aC (n+m+1) fun j=>cl (if j<k then jv m n a b (i+1) j else jv m n a b i j)).length:Nat):Int) then
       (aC (n+m+1) fun j=>cl (if j<k then jv m n a b (i+1) j else jv m n a b i j))[(0+((k:Int)).toNat)]? >>= fun hb =>
       q2[i]? >>= fun ql =>
       if 0<=(k:Int)/\(k:Int)<((n+m+1:Nat):Int) then
       ql[(0+((k:Int)).toNat)]? >>= fun d5 =>
       ty hb d5 >>= fun b2 =>
       if (0+((k:Int)).toNat)<(aC (n+m+1) fun j=>cl (if j<k then jv m n a b (i+1) j else jv m n a b i j)).length then
       some (.inl (J ((k:Int)+(1:Int)),(aC (n+m+1) fun j=>cl (if j<k then jv m n a b (i+1) j else jv m n a b i j)).set (0+((k:Int)).toNat) b2))
       else none
       else none
       else none)=x:=by
     intro x ME U;refine c8 (az (x:=cl (jv m n a b i k)) (by rw[dw,ie a4,eR]) (az a0 (c8 (az (x:=cl (eb m n a b i k)) (by rw[dw];exact ie a4) (az (H5 (f1 k) (ao0 k) (by rw[es k ME];exact f2 k)) (c8 ?_))))));exact U _ (fin _ (es k ME))
    unfold C2;refine fb (sb (fun c=> ?_) (fun c=> ?_))
    ·have Ry:k<n:=(by have:=of_decide_eq_true c;rw[h.gQ] at this;simp only at this;omega);exact abP (.inl Ry) fun r ak=>by rw[ak]
    have Ry : ¬k<n:=(by have:=of_decide_eq_false c;rw[h.gQ] at this;simp only at this;omega);refine sb (fun cw=> ?_) (fun cw=> ?_)
    ·have aa8:k=n+m:=(by simp at cw;omega);exact abP (.inr aa8) fun r ak=>by rw[ak]
    have aa8:k≠n+m:=(by simp at cw;omega);simp only;rw[fW];congr 3;refine eW fun j _=> ?_;by_cases j8:j=k
    ·subst j8;rw[eR,cL,Cg j (by omega)]
    by_cases uk:j<k
    ·rw[dz uk,cL]
    rw[dB uk,eR])
  (fun _ _=>by unfold C2;refine fp ?_;simp only;congr 2;exact eW fun j ap=>by rw[dz ap]) () trivial
 unfold Kk;have bG:(aC (n+m+1) fun j=>cl (if j<0 then jv m n a b (i+1) j else jv m n a b i j))=aC (n+m+1) fun j=>cl (jv m n a b i j):=eW fun j _=>by rw[eR]
 rw[bG] at e;exact e
theorem s8 {K:Nat}{d x y:Rat}(bI:ei K d)(aY:ei K y)(h0:d≠0)(e:d*x=y)(jI:(K:Int)<B 24):e5 x:=by obtain⟨z,rfl,cK⟩:=bI;obtain⟨w,rfl,hw⟩:=aY;exact Yb (n:=w) (d:=z) (fun c=>h0 (by rw[c];rfl)) e (by omega) (by omega)
@[irreducible] def fe:Nat:=ov 100 20
theorem Fe:ov 100 20=fe:=by unfold fe;rfl
theorem alz:((21*100*(fe*fe):Nat):Int)<B 24:=by decide +kernel
theorem uQ:0<fe:=by decide +kernel
structure nu (m N:Nat) (A:Nat->Nat->Rat) (t:b8):Prop where
 ok:hZ m m N A t
 mI:t.nW m N
 us:t.D m A≠0
structure Small (m N:Nat) (A:Nat->Nat->Rat):Prop where
 hm:m<=20
 sc : ∀c,c<m-> ∀j,j<=N->ei 100 (A c j)
theorem nu.B3 {m N:Nat}{A:Nat->Nat->Rat}(s:Small m N A){t:b8}(h:nu m N A t):ei fe (t.D m A):=by refine ei.mono (yU fun i aa c a1=>s.sc c a1 _ (Nat.le_of_lt (h.ok.kA i aa))) (Fe▸AN (by omega) s.hm)
theorem nu.w0 {m N:Nat}{A:Nat->Nat->Rat}(s:Small m N A){t:b8}(h:nu m N A t){i j:Nat}(aa:i<m)(ap:j<=N):ei fe (t.T i j*t.D m A):=by
 rw[<- h.ok.zL aa ap];refine ei.mono (yU fun k a4 c a1=> ?_) (Fe▸AN (by omega) s.hm);simp only[iq];split
 ·exact s.sc c a1 j ap
 exact s.sc c a1 _ (Nat.le_of_lt (h.ok.kA k a4))
theorem rJ {k:Nat}(h:k<=21*100*(fe*fe)):(k:Int)<B 24:=by have:=alz;omega
theorem Fl:fe<=21*100*(fe*fe):=by have h1:fe*1<=fe*fe:=Nat.mul_le_mul_left _ uQ;omega
theorem nu.Ml {m N:Nat}{A:Nat->Nat->Rat}(s:Small m N A){t:b8}(h:nu m N A t){i j:Nat}(aa:i<m)(ap:j<=N):e5 (t.T i j) :=
 s8 (h.B3 s) (h.w0 s aa ap) h.us (by grind) (rJ Fl)
theorem nu.aai {m N:Nat}{A:Nat->Nat->Rat}(s:Small m N A){t:b8}(h:nu m N A t){i j:Nat}(aa:i<m)(ap:j<=N)(ai:0<t.T i j):e5 (t.T i N / t.T i j) :=
 s8 (h.w0 s aa ap) (h.w0 s aa (dE _)) (fun c=>by have h1:=h.us;have:t.T i j≠0:=(by grind);grind) (by grind) (rJ Fl)
theorem nu.aa9 {m N:Nat}{A:Nat->Nat->Rat}(s:Small m N A){t:b8}(h:nu m N A t){o:Nat->Rat}(an:∀j,j<=N->ei 100 (o j)){j:Nat}(ap:j<=N):ei (21*100*fe) (t.cF m o j*t.D m A):=by
 have hm:=s.hm;unfold b8.cF;have e:(o j-cH m (fun i=>o (t.B i)*t.T i j))*t.D m A=o j*t.D m A-cH m (fun i=>o (t.B i)*(t.T i j*t.D m A)):=by rw[gT (f:=fun i=>o (t.B i)*(t.T i j*t.D m A)) (g:=fun i=>(o (t.B i)*t.T i j)*t.D m A) (fun i _=>by grind),xm];grind
 rw[e];refine ei.mono (((an j ap).mul (h.B3 s)).sub (ei.sum fun i aa=>(an _ (Nat.le_of_lt (h.ok.kA i aa))).mul (h.w0 s aa ap))) ?_;have:m*(100*fe)<=20*(100*fe):=arn _ hm;omega
theorem zh:21*100*fe<=21*100*(fe*fe):=by have h1:fe*1<=fe*fe:=Nat.mul_le_mul_left _ uQ;omega
theorem nu.Bw {m N:Nat}{A:Nat->Nat->Rat}(s:Small m N A){t:b8}(h:nu m N A t){o:Nat->Rat}(an:∀j,j<=N->ei 100 (o j)){j:Nat}(ap:j<=N):e5 (t.cF m o j) :=
 s8 ((h.B3 s).mono (Nat.le_trans (by omega:fe<=21*100*fe) (dE _))) (h.aa9 s an ap) h.us (by grind) (rJ zh)
theorem nu.i3 {m N K:Nat}{A obj:Nat->Nat->Rat}{bN:Nat->Prop}{t:b8}(h:nu m N A t){r k:Nat}(b:qy m N K obj bN t r k):nu m N A (t.cA r k) :=
 ⟨b.ok h.ok,b.IF h.mI,by rw[h.ok.Bg b.ak b.bS];have h1:=b.pos;have h2:=h.us;intro c;have:t.T r k≠0:=(by grind);grind⟩
theorem nu.IK {m N:Nat}{A:Nat->Nat->Rat}(s:Small m N A){t:b8}(h:nu m N A t){o:Nat->Rat}(an:∀j,j<=N->ei 100 (o j)){r k:Nat}(ak:r<m)(a4:k<N)(ai:t.T r k≠0)(dc:hZ m m N A (t.cA r k)):Mj m N t (t.cF m o) r k:=by
 have bI:=h.us;have tV:(t.cA r k).D m A≠0:=by rw[h.ok.Bg ak a4];grind
 have fA:(t.cA r k).D m A=t.T r k*t.D m A:=h.ok.Bg ak a4;have i2:ei fe ((t.cA r k).D m A):=ei.mono (yU fun i aa c a1=>s.sc c a1 _ (Nat.le_of_lt (dc.kA i aa))) (Fe▸AN (by omega) s.hm)
 have rn : ∀i,i<m-> ∀j,j<=N->ei fe ((t.cA r k).T i j*(t.cA r k).D m A):=fun i aa j ap=>by
  rw[<- dc.zL aa ap];refine ei.mono (yU fun k a4 c a1=> ?_) (Fe▸AN (by omega) s.hm);simp only[iq];split
  ·exact s.sc c a1 j ap
  exact s.sc c a1 _ (Nat.le_of_lt (dc.kA k a4))
 have Ch:ei (21*100*(fe*fe)) (t.D m A*(t.cA r k).D m A):=((h.B3 s).mul i2).mono (by omega);have aba:t.D m A*(t.cA r k).D m A≠0:=by grind
 refine⟨fun i aa j ap=>h.Ml s aa ap,fun i aa j ap=>s8 i2 (rn i aa j ap) tV (by grind) (rJ Fl),fun i aa _ j ap=> ?_,fun j ap=>h.Bw s an ap,fun j ap=> ?_,fun j ap=> ?_⟩
 ·refine s8 Ch (((h.w0 s aa (Nat.le_of_lt a4)).mul (h.w0 s ak ap)).neg.mono (by omega)) aba ?_ (rJ (dE _));rw[fA];grind
 ·rw[<- h.ok.Lb o ak a4 ai];have g2:ei (21*100*fe) ((t.cA r k).cF m o j*(t.cA r k).D m A):=(by have hm:=s.hm;unfold b8.cF;have e:(o j-cH m (fun i=>o ((t.cA r k).B i)*(t.cA r k).T i j))*(t.cA r k).D m A=o j*(t.cA r k).D m A-cH m (fun i=>o ((t.cA r k).B i)*((t.cA r k).T i j*(t.cA r k).D m A)):=(by rw[gT (f:=fun i=>o ((t.cA r k).B i)*((t.cA r k).T i j*(t.cA r k).D m A)) (g:=fun i=>(o ((t.cA r k).B i)*(t.cA r k).T i j)*(t.cA r k).D m A) (fun i _=>by grind),xm];grind);rw[e];refine ei.mono (((an j ap).mul i2).sub (ei.sum fun i aa=>(an _ (Nat.le_of_lt (dc.kA i aa))).mul (rn i aa j ap))) ?_;have:m*(100*fe)<=20*(100*fe):=arn _ hm;omega);exact s8 (i2.mono (by omega)) g2 tV (by grind) (rJ zh)
 refine s8 Ch (((h.aa9 s an (Nat.le_of_lt a4)).mul (h.w0 s ak ap)).neg.mono (by rw[Nat.mul_assoc];exact dE _)) aba ?_ (rJ (dE _));rw[fA];grind
theorem aj7 {p:kk}{m n:Nat}{a:Nat->Nat->Int}{b:Nat->Int}(h:nA p m n a b):
 GJ p=some (((n+m:Nat):Int),jt m (n+m),db m (kL m n a b),ij (n+m) ((kL m n a b).cF m (hk m n)),hj m (n+m) (kL m n a b)):=by
 have hm:=h.hm;have a2:=h.a2;have fY:J (p.fi+p.gC)=((n+m:Nat):Int):=by rw[h.gQ,h.rows,<- Int.natCast_add,c7]
 unfold GJ;rw[fY]
 obtain⟨s1,e1,-⟩:=ic (f:=fun w:Int×arI=>CZ p.gC p.fi p.bR p.bP p.h3 ((n+m:Nat):Int) w.1 w.2)
  (fun (k:Nat) (_:Unit)=>((k:Int),aC k fun j=>cl (0:Rat))) (n+m+1) (fun _ _=>True) (fun _=>aC (n+m+1) fun j=>cl (0:Rat))
  (fun k a4 _ _=>by refine⟨(),?_,trivial⟩;unfold CZ;refine fb (az (x:=cl (0:Rat)) (tJ (n:=0) (by rw[m2];omega)) (cE (by simp only[dD,c2,dI,dQ];omega) ?_));simp only;rw[fW,lW])
  (fun _ _=>by unfold CZ;exact fp rfl) () trivial
 refine az (x:=aC (n+m+1) fun j=>cl (0:Rat)) (by unfold T5;exact e1) ?_
 obtain⟨s2,e2,-⟩:=ic (f:=fun w:Int×arL×arM×ar×arI=>CM p.gC p.fi p.bR p.bP p.h3 ((n+m:Nat):Int) w.1 w.2.1 w.2.2.1 w.2.2.2.1 w.2.2.2.2)
  (fun (i:Nat) (_:Unit)=>((i:Int),aC i (fun k=>some (k,n+m+1)),aC i (h8 (n+m) (kL m n a b)),aC i (fun k=>((n+k:Nat):Int)),aC (n+m+1) fun j=>cl (jv m n a b i j))) m (fun _ _=>True)
  (fun _=>(jt m (n+m),hj m (n+m) (kL m n a b),db m (kL m n a b),aC (n+m+1) fun j=>cl (jv m n a b m j)))
  (fun i aa _ _=>by
    refine⟨(),?_,trivial⟩;have aO:=h.m1 i aa;have hlen:((aC (n+m) fun j=>cl (eb m n a b i j))++[cl (eb m n a b i (n+m))])=h8 (n+m) (kL m n a b) i:=(lW ..).symm;have abb:(h8 (n+m) (kL m n a b) i).length=n+m+1:=c2 ..;have hw:J (p.fi+(i:Int))=((n+i:Nat):Int):=(by rw[h.gQ,<- Int.natCast_add,c7]);have d6:(aC i (h8 (n+m) (kL m n a b))++[h8 (n+m) (kL m n a b) i])[i]? = some (h8 (n+m) (kL m n a b) i):=(by rw[<- lW];exact ho (by omega));have abc:(aC i (h8 (n+m) (kL m n a b))).length=i:=c2 ..;have uj:mZ m n a b i (n+m)=mu (b i)*b i:=by unfold mZ;rw[eR,dz rfl]
    have fin:(some (Sum.inl (J ((i:Int)+1),(aC i (fun k=>(some (k,n+m+1):bF)))++[some (i,n+m+1)],aC i (h8 (n+m) (kL m n a b))++[h8 (n+m) (kL m n a b) i],(aC i fun k=>((n+k:Nat):Int))++[((n+i:Nat):Int)],aC (n+m+1) fun j=>cl (jv m n a b (i+1) j))):Option ((Int×arL×arM×ar×arI)⊕(arL×arM×ar×arI))) =
     some (Sum.inl (((i+1:Nat):Int),aC (i+1) (fun k=>some (k,n+m+1)),aC (i+1) (h8 (n+m) (kL m n a b)),aC (i+1) (fun k=>((n+k:Nat):Int)),aC (n+m+1) fun j=>cl (jv m n a b (i+1) j))):=by
     rw[fW,lW i (fun k=>(some (k,n+m+1):bF)),lW i (h8 (n+m) (kL m n a b)),lW i (fun k=>((n+k:Nat):Int))]
    unfold CM;refine lT (by simp only;rw[h.rows];omega) (cE (by simp only;rw[h.Cf];omega) (az (x:=b i) (by simp only;rw[dw];exact h.Mk i aa) (sb (fun c=> ?_) (fun c=> ?_))))
    ·have qB:b i<0:=of_decide_eq_true c;have bS:mu (b i) = -1:=(by unfold mu;rw[dz qB]);refine az (Zv h aa) ?_;have ak:=agD h aa qB ((n+m:Nat):Int) (aC i (fun k=>some (k,n+m+1))) (aC i (h8 (n+m) (kL m n a b))) (aC i (fun k=>((n+k:Nat):Int))) (aC (n+m+1) fun j=>cl (jv m n a b i j));rw[dC,Option.bind_eq_some_iff] at ak;obtain⟨a9,kq,BW⟩:=ak;refine az kq (az BW (az (x:=cl (eb m n a b i (n+m))) (by have e:J ((-1:Int)*b i)=mZ m n a b i (n+m):=(by rw[uj,bS,c7]);rw[e];exact tJ (by have:=xM h aa (n+m);rw[m2];omega)) ?_));simp only;rw[hlen,abc,abb,hw];refine c8 (az d6 (az (W7 h aa _ _ _ d6) (cE (by simp only[dD,c2,dI,dQ];omega) (cE (by simp only[dD,c2,dI,dQ];omega) fin))))
    have qB : ¬b i<0:=of_decide_eq_false c;have bS:mu (b i)=1:=(by unfold mu;rw[dB qB]);refine az (Zv h aa) ?_;have ak:=agE h aa qB ((n+m:Nat):Int) (aC i (fun k=>some (k,n+m+1))) (aC i (h8 (n+m) (kL m n a b))) (aC i (fun k=>((n+k:Nat):Int))) (aC (n+m+1) fun j=>cl (jv m n a b i j));rw[dC,Option.bind_eq_some_iff] at ak;obtain⟨a9,kq,BW⟩:=ak;refine az kq (az BW (az (x:=cl (eb m n a b i (n+m))) (by have e:J ((1:Int)*b i)=mZ m n a b i (n+m):=(by rw[uj,bS,c7]);rw[e];exact tJ (by have:=xM h aa (n+m);rw[m2];omega)) ?_));simp only;rw[hlen,abc,abb,hw];refine c8 (az d6 (az (W7 h aa _ _ _ d6) (cE (by simp only[dD,c2,dI,dQ];omega) (cE (by simp only[dD,c2,dI,dQ];omega) fin)))))
  (fun _ _=>by unfold CM;exact la (by simp only;rw[h.rows];omega) rfl) () trivial
 have e0:(aC (n+m+1) fun j=>cl (jv m n a b 0 j))=aC (n+m+1) fun j=>cl (0:Rat):=eW fun j _=>by unfold jv;split<;>rfl
 rw[e0] at e2;refine az (x:=(jt m (n+m),hj m (n+m) (kL m n a b),db m (kL m n a b),aC (n+m+1) fun j=>cl (jv m n a b m j))) (by unfold TP;exact e2) ?_;congr 1;refine Prod.ext rfl (Prod.ext rfl (Prod.ext rfl (Prod.ext ?_ rfl)));refine eW fun j ap=> ?_;rw[aiw];unfold jv hk;by_cases c:j<n\/j=n+m
 ·rw[dz c,eR];congr 1;grind
 rw[dB c,cL];obtain⟨k,rfl⟩ : ∃k,j=n+k:=⟨j-n,by omega⟩;rw[mx (k:=k) (by omega) (fun i _ dX=>by rw[xx (by omega),dB (Ne.symm dX)]),xx (by omega),dz rfl,show (-1:Rat)+1=0 by grind]
theorem LB (m n j:Nat):ei 100 (hk m n j):=by
 unfold hk;split
 ·exact⟨-1,rfl,by omega⟩
 exact⟨0,rfl,by omega⟩
theorem Mm {g:Nat->Rat}:jD 1 g↔0<g 0:=by
 constructor
 ·rintro⟨l,h1,h2,-⟩;rw[show l=0 by omega] at h2;exact h2
 intro h;exact⟨0,by omega,h,fun gW aZ=>by omega⟩
theorem Hz {p:kk}{m n:Nat}{a:Nat->Nat->Int}{b:Nat->Int}(h:nA p m n a b):Small m (n+m) (eb m n a b):=⟨h.hm,fun c a1 j _=>Qj h a1 j⟩
theorem ai2 {p:kk}{m n:Nat}{a:Nat->Nat->Int}{b:Nat->Int}(h:nA p m n a b):
 ∃t,xe false ((n+m:Nat):Int) (jt m (n+m)) (db m (kL m n a b)) (ij (n+m) ((kL m n a b).cF m (hk m n))) (hj m (n+m) (kL m n a b))=some (true,db m t,ij (n+m) (t.cF m (hk m n)),hj m (n+m) t) /\
  nu m (n+m) (eb m n a b) t/\(t.cF m (hk m n) (n+m)=0↔sy m n a b):=by
 have hm:=h.hm;have a2:=h.a2;have hF:=Hz h
 obtain⟨q,t,e,dh,fl⟩:=Zu (ft:=m) (m:=m) (N:=n+m) (K:=1) (by omega) (by omega) (A:=eb m n a b) (obj:=fun _=>hk m n) false (nu m (n+m) (eb m n a b)) (fun t cv=>⟨cv.ok,cv.mI⟩) (fun t r s cv b=>cv.i3 b)
  (fun t cv j ap=>⟨kC (t.cF m (hk m n) j),akL (by omega) _ _ _ _ (by omega) (cv.Bw hF (fun j _=>LB m n j) (by omega)),fun _=>by rw[uK];exact(Mm (g:=fun _=>t.cF m (hk m n) j)).symm⟩)
  (fun t cv i aa j ap=>cv.Ml hF aa ap) (fun t cv i aa j ap ai=>cv.aai hF aa ap ai)
  (fun t cv r k ak a4 ai=>cv.IK hF (fun j _=>LB m n j) ak a4 ai (cv.ok.cA ak a4 ai)) (kL m n a b) ⟨YG,Xs,X1⟩
 rcases fl with ⟨rfl,fl⟩|⟨-,s,bS,d6,iD⟩
 ·refine⟨t,e,dh,fun h0=>Wu dh.ok dh.mI (OO dh.mI h0 dh.ok.kA),fun aoi=>WY dh.ok dh.mI (fun j ap=> ?_) aoi⟩;have:=fl j (by omega);have h2 : ¬0<t.cF m (hk m n) j:=fun c=>this (Mm.2 c);grind
 obtain⟨i,aa,ai⟩:=Wa dh.ok bS (Mm.1 d6);exact(iD i aa ai).elim
def cm (x:Rat):bK:=hM x.num
@[irreducible] def nc:Nat:=1000000000 ^ 40
theorem aaj:(nc:Int)+(nc:Int)<B 50:=by decide +kernel
theorem P6 {K:Nat}{x:Rat}(h:ei K x):((x.num:Int):Rat)=x/\x.num.natAbs<=K:=by obtain⟨z,rfl,cK⟩:=h;rw[Rat.num_intCast];exact⟨rfl,cK⟩
theorem so (z:Int):cm (z:Rat)=hM z:=by unfold cm;rw[Rat.num_intCast]
theorem E3 {x:Rat}(h:ei nc x):(L x.num.natAbs).length<=50:=by have:=aaj;have h1:=(P6 h).2;exact(jW (by omega)).2 (by omega)
theorem EN {x y:Rat}(U:ei nc x)(aY:ei nc y):se (cm x) (cm y)=some (cm (x*y)):=by have h1:=E3 U;have h2:=E3 aY;obtain⟨a,rfl,-⟩:=U;obtain⟨b,rfl,-⟩:=aY;rw[Rat.num_intCast] at h1 h2;rw[so,so,<- arG,so];exact Xz (by omega) (by omega)
theorem Yd {x y:Rat}(U:ei nc x)(aY:ei nc y):z9 (cm x) (cm y)=some (cm (x-y)):=by have gx:=aaj;obtain⟨a,rfl,bH⟩:=U;obtain⟨b,rfl,aO⟩:=aY;rw[so,so,<- Rat.intCast_sub,so];exact aiV (by omega) (by omega)
theorem yS {x:Rat}(U:ei nc x):sR (cm x)=some (kC x):=by
 obtain⟨a,rfl,bH⟩:=U;rw[so];unfold sR kC;simp only[hS];have e:(((L a.natAbs).length:Nat):Int)=0↔a=0:=by rw[II (by omega)];omega
 show (if (((L a.natAbs).length:Int) == 0)=true then some 0 else if decide (a<0)=true then some (-1) else some 1)=_;by_cases h0:a=0
 ·rw[dz (by rw[beq_iff_eq,e];exact h0),dz (by rw[h0];rfl)]
 have aoj:(a:Rat)≠0:=fun c=>h0 (Rat.intCast_inj.1 (by rw[c];rfl));rw[dB (by rw[beq_iff_eq,e];exact h0),dB aoj];have e2:(a:Rat)<0↔a<0:=by rw[show (0:Rat)=((0:Int):Rat) from rfl,Rat.intCast_lt_intCast]
 by_cases h1:a<0
 ·rw[dz (decide_eq_true h1),dz (e2.2 h1)]
 rw[dB (by simpa using h1),dB (fun c=>h1 (e2.1 c))]
theorem ah5 {x y:Rat}(U:ei nc x)(aY:ei nc y):xa (cm x) (cm y)=some (if x<y then -1 else if y<x then 1 else 0):=by have h1:=E3 U;have h2:=E3 aY;obtain⟨a,rfl,-⟩:=U;obtain⟨b,rfl,-⟩:=aY;rw[Rat.num_intCast] at h1 h2;rw[so,so,ae1 (by omega) (by omega)];unfold nt;simp only[Rat.intCast_lt_intCast]
theorem WA {x:Rat}(U:ei nc x):tt (cm x)=some (cm (-x)):=by obtain⟨a,rfl,-⟩:=U;rw[so,<- Rat.intCast_neg,so];unfold tt;show (oD (!(decide (a<0))) (L a.natAbs)).bind _=_;rw[uF (by omega),P4];rfl
theorem xo {n:Int}(h:nV n):rA n=some (cm (n:Rat)):=by rw[so];exact W5 h
theorem ah6 {x y:Rat}(U:ei nc x)(aY:ei nc y)(Q7:ei nc (x*y))(h0:y≠0):ys (cm (x*y)) (cm y)=some (cm x):=by
 have h1:=E3 Q7;have h2:=E3 aY;obtain⟨a,rfl,-⟩:=U;obtain⟨b,rfl,-⟩:=aY;rw[<- arG] at h1 ⊢;rw[Rat.num_intCast] at h1 h2;have aO:b≠0:=fun c=>h0 (by rw[c];rfl);rw[so,so,so];unfold ys;show (xq (L (a*b).natAbs) (L b.natAbs)).bind _=_;rw[Lx (kc _) (kc _) (fun c=>by have:=wH.1 c;omega) (by omega) (by omega),gP,gP];have e1:((a*b).natAbs:Int) / (b.natAbs:Int)=(a.natAbs:Int):=by rw[Int.natAbs_mul,Int.natCast_mul];exact Int.mul_ediv_cancel _ (by omega)
 simp only[dx];rw[e1];show (oD (!(decide (a*b<0) == decide (b<0))) (L a.natAbs)).bind _=_;rw[uF (by omega)];simp only[dx];congr 2;rcases Int.lt_or_gt_of_ne aO with c|c
 ·by_cases bH:a<0
  ·have : ¬a*b<0:=(by have:=Int.mul_pos_of_neg_of_neg bH c;omega);rw[decide_eq_false this,decide_eq_true c];simp only[fs,show (!(false == true))=true from rfl,if_true];omega
  by_cases cK:a=0
  ·subst cK;simp[fs]
  have:a*b<0:=Int.mul_neg_of_pos_of_neg (by omega) c;rw[decide_eq_true this,decide_eq_true c];simp only[fs,BEq.rfl,Bool.not_true,arA,if_false];omega
 by_cases bH:a<0
 ·have:a*b<0:=Int.mul_neg_of_neg_of_pos bH c;rw[decide_eq_true this,decide_eq_false (by omega)];simp only[fs,show (!(true == false))=true from rfl,if_true];omega
 have : ¬a*b<0:=by have:=Int.mul_nonneg (show 0<=a by omega) (show 0<=b by omega);omega
 rw[decide_eq_false this,decide_eq_false (by omega)];simp only[fs,BEq.rfl,Bool.not_true,arA,if_false];omega
def jm (N:Nat)(w:Rat)(t:b8)(i:Nat):arJ:=aC (N+1) fun j=>cm (t.T i j*w)
structure rQ (m N:Nat) (w:Rat) (t:b8):Prop where
 pos:0<w
 hw:ei (21*100*fe) w
 iz : ∀i,i<m-> ∀j,j<=N->ei fe (t.T i j*w)
 gx : ∀i,i<m->t.B i<N
theorem Il:21*100*fe*(21*100*fe)+21*100*fe*(21*100*fe)<=nc:=by decide +kernel
theorem amU {q i:Nat}(a0:0<q)(aa:i<=20):21*100*q*100+i*(q*100)<=21*100*q*(21*100*q):=by have h1:i*(q*100)<=20*(q*100):=arn _ aa;have h2:21*100*q*2100<=21*100*q*(21*100*q):=Nat.mul_le_mul_left _ (by omega);generalize 21*100*q*(21*100*q)=z at *;omega
theorem amV {i:Nat}(aa:i<=20):21*100*fe*100+i*(fe*100)<=nc :=
 Nat.le_trans (amU uQ aa) (Nat.le_trans (Nat.le_add_right _ _) Il)
theorem xT {K:Nat}(h:K<=21*100*fe):K<=nc:=by have aok:=Il;have h1:21*100*fe*1<=21*100*fe*(21*100*fe):=Nat.mul_le_mul_left _ (by have:=uQ;generalize fe=q at *;omega);rw[Nat.mul_one] at h1;exact Nat.le_trans h (Nat.le_trans h1 (Nat.le_trans (Nat.le_add_right _ _) aok))
theorem YQ {m N:Nat}(hm:m<=20)(fY:N<1000){w:Rat}{t:b8}(h:rQ m N w t)(o:Nat->Int)(an:∀j,j<N-> -100<=o j/\o j<=100)(lm:bK)(Fo:lm=cm w)(gQ:Int)(free:arO){k:Nat}(a4:k<N):
 D0 ⟨aC m (jm N w t),lm,db m t,gQ,free⟩ (aC N o) (k:Int)=some (kC (t.cF m (fun j=>(o j:Rat)) k)):=by
 subst Fo;have aqZ:=uQ;have small : ∀ {x:Rat} {K:Nat},ei K x->K<=21*100*fe->ei nc x:=fun h1 h2=>h1.mono (xT h2);have al : ∀j,j<N->ei 100 ((o j:Int):Rat):=fun j ap=>⟨o j,rfl,by have:=an j ap;omega⟩;have abd : ∀j,j<N->nV (o j):=fun j ap=>by have:=an j ap;rw[m2];omega
 let S:Nat->Rat:=fun i=>w*(o k:Rat)-cH i (fun i=>(t.T i k*w)*(o (t.B i):Rat))
 have zO : ∀i,i<=m->ei nc (S i):=fun i aa=>by have e1:ei (21*100*fe*100) (w*(o k:Rat)):=h.hw.mul (al k a4);have e2:ei (i*(fe*100)) (cH i (fun i=>(t.T i k*w)*(o (t.B i):Rat))):=ei.sum fun fU lj=>(h.iz fU (by omega) k (by omega)).mul (al _ (h.gx fU (by omega)));exact(e1.sub e2).mono (amV (by omega))
 unfold D0;refine c8 (az (x:=o k) (by rw[dw];exact ho a4) (az (xo (abd k a4)) (az (EN (small h.hw (dE _)) (small (al k a4) (by omega))) ?_)))
 obtain⟨s,e,-⟩:=ic (f:=fun q:Int×Bool×ar=>CJ (aC m (jm N w t)) (cm w).cQ (cm w).bZ (db m t) gQ free (aC N o) (k:Int) (m:Int) q.1 q.2.1 q.2.2)
  (fun (i:Nat) (_:Unit)=>((i:Int),(cm (S i)).cQ,(cm (S i)).bZ)) m (fun _ _=>True) (fun _=>((cm (S m)).cQ,(cm (S m)).bZ))
  (fun i aa _ _=>by
    refine⟨(),?_,trivial⟩;have MZ:=h.gx i aa;have JH:S (i+1)=S i-(t.T i k*w)*(o (t.B i):Rat):=(by simp only[S,cH];grind);unfold CJ;refine fb (cE (by unfold db;rw[c2];simp only;omega) (az (x:=(t.B i:Int)) (by simp only;rw[dw];exact ho aa) (c8 (az (x:=o (t.B i)) (by rw[dw];exact ho MZ) (sb (fun c=> ?_) (fun c=> ?_))))))
    ·refine c8 (az (x:=jm N w t i) (by simp only;rw[dw];exact ho aa) (cE (by unfold jm;rw[c2];omega) (az (x:=cm (t.T i k*w)) (by rw[dw];exact tm) (az (yS (small (h.iz i aa k (by omega)) (by omega))) (sb (fun cw=> ?_) (fun cw=> ?_))))))
     ·refine az (xo (abd _ MZ)) (az (EN (small (h.iz i aa k (by omega)) (by omega)) (small (al _ MZ) (by omega))) (az (Yd (zO i (by omega)) (by
       exact small ((h.iz i aa k (by omega)).mul (al _ MZ)) (by omega))) ?_))
      simp only;rw[fW,JH]
     have cK:t.T i k*w=0:=qP.1 (by simpa using cw);simp only;rw[fW,JH,cK,show S i-0*(o (t.B i):Rat)=S i by grind]
    have cK:o (t.B i)=0:=(by simpa using c);simp only;rw[fW,JH,cK,show S i-t.T i k*w*((0:Int):Rat)=S i by rw[show ((0:Int):Rat)=0 from rfl];grind])
  (fun _ _=>by unfold CJ;exact fp rfl) () trivial
 have e0:S 0=w*(o k:Rat):=by simp only[S,cH];grind
 rw[e0] at e;refine az (x:=((cm (S m)).cQ,(cm (S m)).bZ)) (by unfold TF;rw[hS,show (db m t).length=m from c2 ..];exact e) (az (x:=kC (S m)) (yS (zO m (dE _))) ?_);congr 1;have e2:S m=w*t.cF m (fun j=>(o j:Rat)) k:=by simp only[S];unfold b8.cF;rw[gT (f:=fun i=>t.T i k*w*(o (t.B i):Rat)) (g:=fun i=>w*((o (t.B i):Rat)*t.T i k)) (fun i _=>by grind),kQ];grind
 rw[e2];have ai:=h.pos;unfold kC;by_cases c:t.cF m (fun j=>(o j:Rat)) k=0
 ·rw[dz c,dz (by rw[c];grind)]
 rw[dB c,dB (by grind)];by_cases cw:t.cF m (fun j=>(o j:Rat)) k<0
 ·rw[dz cw,dz];have:=Rat.mul_pos ai (show 0 < -(t.cF m (fun j=>(o j:Rat)) k) by grind);grind
 rw[dB cw,dB];have:=Rat.mul_pos ai (show 0<t.cF m (fun j=>(o j:Rat)) k by grind);grind
theorem Ye {x y z v w:Rat}(hw:0<w)(aY:0<y)(bh:0<v):(x*w)*(v*w)<(z*w)*(y*w)↔x / y<z / v:=by
 have e1:(x*w)*(v*w)=(x / y)*((y*v)*(w*w)):=by grind
 have e2:(z*w)*(y*w)=(z / v)*((y*v)*(w*w)):=by grind
 have ai:0<(y*v)*(w*w):=Rat.mul_pos (Rat.mul_pos aY bh) (Rat.mul_pos hw hw);rw[e1,e2];constructor
 ·intro h;apply Classical.byContradiction;intro c;have:z / v<=x / y:=(by grind);have:=Rat.mul_le_mul_of_nonneg_right this (Rat.le_of_lt ai);grind
 intro h;exact Rat.mul_lt_mul_of_pos_right h ai
theorem EW {x w:Rat}(hw:0<w):kC (x*w)=kC x:=by
 unfold kC;by_cases c:x=0
 ·rw[dz c,dz (by rw[c];grind)]
 rw[dB c,dB (by grind)];by_cases cw:x<0
 ·rw[dz cw,dz];have:=Rat.mul_pos (show 0 < -x by grind) hw;grind
 rw[dB cw,dB];have:=Rat.mul_pos (show 0<x by grind) hw;grind
theorem ah7 {m N:Nat}(hm:m<=20)(fY:N<1000){w:Rat}{t:b8}(h:rQ m N w t)(lm:bK)(free:arO){k:Nat}(a4:k<=N):
 ∃r,Gn ⟨aC m (jm N w t),lm,db m t,(N:Int),free⟩ (k:Int)=some r/\LA m N t k r:=by
 have hw:=h.pos;have rs : ∀i,i<m-> ∀j,j<=N->ei nc (t.T i j*w):=fun i aa j ap=>(h.iz i aa j ap).mono (xT (by have:=uQ;generalize fe=q at *;omega));have Ci : ∀i,i<m-> ∀j,j<=N-> ∀fU,fU<m-> ∀jZ,jZ<=N->ei nc (t.T i j*w*(t.T fU jZ*w)):=fun i aa j ap fU lj jZ wO=>((h.iz i aa j ap).mul (h.iz fU lj jZ wO)).mono (by refine Nat.le_trans ?_ (Nat.le_trans (Nat.le_add_right _ _) Il);exact Nat.mul_le_mul (by generalize fe=q;omega) (by generalize fe=q;omega));unfold Gn
 obtain⟨r,e,ak⟩:=uH (f:=fun q:Int×Int=>Cz (aC m (jm N w t)) lm.cQ lm.bZ (db m t) (N:Int) free (k:Int) (m:Int) q.1 q.2)
  (fun (i:Nat) (s:Int)=>(s,(i:Int))) m
  (fun n s=>(s = -1/\ ∀i,i<n-> ¬0<t.T i k)\/ ∃b:Nat,s=b/\b<n/\0<t.T b k/\ ∀i,i<n->0<t.T i k->t.T b N / t.T b k<t.T i N / t.T i k\/(t.T b N / t.T b k=t.T i N / t.T i k/\t.B b<=t.B i))
  (fun r=>LA m N t k r)
  (fun n a2 s dh=>by
    left;unfold Cz;have g1:0<=(n:Int)/\(n:Int)<((aC m (jm N w t)).length:Nat):=(by rw[c2];omega);have g2:(aC m (jm N w t))[(n:Int).toNat]? = some (jm N w t n):=(by rw[dw];exact ho a2);have g3 : ∀b,0<=(k:Int)/\(k:Int)<((jm N w t b).length:Nat):=fun b=>(by unfold jm;rw[c2];omega);have g4 : ∀b,(jm N w t b)[(k:Int).toNat]? = some (cm (t.T b k*w)):=fun b=>(by rw[dw];exact ho (by omega));have g5 : ∀b,0<=(N:Int)/\(N:Int)<((jm N w t b).length:Nat):=fun b=>(by unfold jm;rw[c2];omega);have g6 : ∀b,(jm N w t b)[(N:Int).toNat]? = some (cm (t.T b N*w)):=fun b=>(by rw[dw];exact ho (by omega));have iW:J ((n:Int)+1)=((n+1:Nat):Int):=xR (by omega);have t0:sR (cm (t.T n k*w))=some (kC (t.T n k)):=(by rw[yS (rs n a2 k a4),EW hw]);by_cases ai:0<t.T n k
    ·have bS : ¬kC (t.T n k)<=0:=by have:=uK.2 ai;omega
     rcases dh with ⟨h1,h2⟩|⟨b,h1,aO,l5,R⟩
     ·refine⟨(n:Int),fb (cE g1 (az g2 (cE (g3 n) (az (g4 n) (az t0 (la bS (fb ?_))))))),.inr ⟨n,rfl,by omega,ai,fun i aa kr=> ?_⟩⟩
      ·simp only;rw[iW]
      by_cases c:i=n
      ·subst c;exact .inr ⟨rfl,dE _⟩
      exact(h2 i (by omega) kr).elim
     subst h1;have MW:0<=(b:Int)/\(b:Int)<((aC m (jm N w t)).length:Nat):=(by rw[c2];omega);have MX:(aC m (jm N w t))[(b:Int).toNat]? = some (jm N w t b):=by rw[dw];exact ho (by omega)
     have gc:xa (cm (t.T n N*w*(t.T b k*w))) (cm (t.T b N*w*(t.T n k*w)))=some (if t.T n N / t.T n k<t.T b N / t.T b k then -1 else if t.T b N / t.T b k<t.T n N / t.T n k then 1 else 0):=by
      rw[ah5 (Ci n a2 N (by omega) b (by omega) k a4) (Ci b (by omega) N (by omega) n a2 k a4)];have r1:=Ye (x:=t.T n N) (y:=t.T n k) (z:=t.T b N) (v:=t.T b k) hw ai l5;have r2:=Ye (x:=t.T b N) (y:=t.T b k) (z:=t.T n N) (v:=t.T n k) hw l5 ai;by_cases a6:t.T n N / t.T n k<t.T b N / t.T b k
      ·rw[dz a6,dz (r1.2 a6)]
      rw[dB a6,dB (fun c=>a6 (r1.1 c))];by_cases cw:t.T b N / t.T b k<t.T n N / t.T n k
      ·rw[dz cw,dz (r2.2 cw)]
      rw[dB cw,dB (fun c=>cw (r2.1 c))]
     have lead : ∀ {x r:Option ((Int×Int)⊕Int)} {f:Int->Option ((Int×Int)⊕Int)} {q:Int},xa (cm (t.T n N*w*(t.T b k*w))) (cm (t.T b N*w*(t.T n k*w)))=some q->f q=r ->
      (if 0<=(N:Int)/\(N:Int)<((jm N w t n).length:Nat) then
        (jm N w t n)[(N:Int).toNat]? >>= fun ny =>
        if 0<=(b:Int)/\(b:Int)<((aC m (jm N w t)).length:Nat) then
        (aC m (jm N w t))[(b:Int).toNat]? >>= fun pM =>
        if 0<=(k:Int)/\(k:Int)<pM.length then
        pM[(k:Int).toNat]? >>= fun vW =>
        se ny vW >>= fun oy =>
        if 0<=(N:Int)/\(N:Int)<pM.length then
        pM[(N:Int).toNat]? >>= fun x8 =>
        se x8 (cm (t.T n k*w)) >>= fun mH =>
        xa oy mH >>= f
        else none else none else none else none)=r:=fun a0 cp =>
      cE (g5 n) (az (g6 n) (cE MW (az MX (cE (g3 b) (az (g4 b) (az (EN (rs n a2 N (by omega)) (rs b (by omega) k a4)) (cE (g5 b) (az (g6 b) (az (EN (rs b (by omega) N (by omega)) (rs n a2 k a4)) (az a0 cp))))))))))
     by_cases a6:t.T n N / t.T n k<t.T b N / t.T b k
     ·rw[dz a6] at gc
      refine⟨(n:Int),fb (cE g1 (az g2 (cE (g3 n) (az (g4 n) (az t0 (la bS (fp (lead (x:=none) gc (fb ?_))))))))),.inr ⟨n,rfl,by omega,ai,fun i aa kr=> ?_⟩⟩
      ·simp only;rw[iW]
      by_cases c:i=n
      ·subst c;exact .inr ⟨rfl,dE _⟩
      rcases R i (by omega) kr with h|⟨h,-⟩
      ·left;grind
      left;rw[<- h];exact a6
     rw[dB a6] at gc;by_cases cw:t.T b N / t.T b k<t.T n N / t.T n k
     ·rw[dz cw] at gc
      refine⟨(b:Int),fb (cE g1 (az g2 (cE (g3 n) (az (g4 n) (az t0 (la bS (fp (lead (x:=none) gc (fp (iQ (by decide) ?_)))))))))),.inr ⟨b,rfl,by omega,l5,fun i aa kr=> ?_⟩⟩
      ·simp only;rw[iW]
      by_cases c:i=n
      ·subst c;exact .inl cw
      exact R i (by omega) kr
     rw[dB cw] at gc;have Rx:t.T b N / t.T b k=t.T n N / t.T n k:=(by grind);have abe:0<=(n:Int)/\(n:Int)<((db m t).length:Nat):=(by unfold db;rw[c2];omega);have abf:(db m t)[(n:Int).toNat]? = some (t.B n:Int):=(by rw[dw];exact ho a2);have abg:0<=(b:Int)/\(b:Int)<((db m t).length:Nat):=(by unfold db;rw[c2];omega);have abh:(db m t)[(b:Int).toNat]? = some (t.B b:Int):=(by rw[dw];exact ho (by omega));by_cases j8:t.B n<t.B b
     ·refine⟨(n:Int),fb (cE g1 (az g2 (cE (g3 n) (az (g4 n) (az t0 (la bS (fp (lead (x:=none) gc (fp (gd rfl (cE abe (az abf (cE abg (az abh (fb ?_))))))))))))))),.inr ⟨n,rfl,by omega,ai,fun i aa kr=> ?_⟩⟩
      ·simp only;rw[iW]
      by_cases c:i=n
      ·subst c;exact .inr ⟨rfl,dE _⟩
      rcases R i (by omega) kr with h|⟨h,dc⟩
      ·left;grind
      right;exact⟨by grind,by omega⟩
     refine⟨(b:Int),fb (cE g1 (az g2 (cE (g3 n) (az (g4 n) (az t0 (la bS (fp (lead (x:=none) gc (fp (gd rfl (cE abe (az abf (cE abg (az abh (fp ?_))))))))))))))),.inr ⟨b,rfl,by omega,l5,fun i aa kr=> ?_⟩⟩
     ·simp only;rw[iW]
     by_cases c:i=n
     ·subst c;exact .inr ⟨Rx,by omega⟩
     exact R i (by omega) kr
    have bS:kC (t.T n k)<=0:=(by have : ¬0<kC (t.T n k):=fun c=>ai (uK.1 c);omega);refine⟨s,fb (cE g1 (az g2 (cE (g3 n) (az (g4 n) (az t0 (lT bS ?_)))))),?_⟩
    ·simp only;rw[iW]
    rcases dh with ⟨h1,h2⟩|⟨b,h1,aO,l5,R⟩
    ·exact .inl ⟨h1,fun i aa=>if c:i=n then c▸ai else h2 i (by omega)⟩
    exact .inr ⟨b,h1,by omega,l5,fun i aa kr=>if c:i=n then (ai (c▸kr)).elim else R i (by omega) kr⟩)
  (fun s dh=>by
    refine⟨s,by unfold Cz;exact fp rfl,?_⟩;rcases dh with ⟨h1,h2⟩|⟨b,h1,aO,l5,R⟩
    ·exact .inl ⟨h1,h2⟩
    refine .inr ⟨b,h1,aO,l5,fun i aa kr=> ?_,fun i aa kr he=> ?_⟩
    ·rw[<- (Lg l5 kr).1]
     rcases R i aa kr with h|⟨h,-⟩
     ·exact Rat.le_of_lt h
     rw[h];exact Rat.le_refl
    rw[<- (Lg l5 kr).2] at he;rcases R i aa kr with h|⟨-,h⟩
    ·rw[he] at h;grind
    exact h) (-1:Int) (.inl ⟨rfl,fun i aa=>by omega⟩)
 refine⟨r,az ?_ rfl,ak⟩;unfold SR;rw[fh,c2];exact e
def iT (m N:Nat)(h:Nat->Nat):arL:=aC m fun i=>some (h i,N+1)
structure nJ (m N M:Nat) (h:Nat->Nat) (w:Rat) (t:b8) (fr:arK):Prop where
 len:fr.length=M
 row : ∀i,i<m->fr[h i]? = some (jm N w t i)
theorem KK {α:Type}{l:List α}{i:Nat}{x y:α}(h:l[i]? = some x):(l.set i y)[i]? = some y:=by rw[art,dz rfl,dz (arr.1 h).1]
theorem OZ {α:Type}{l:List α}{i k:Nat}{y:α}(h:i≠k):(l.set i y)[k]? = l[k]? := by rw[art,dB h]
theorem set_set {α:Type}(l:List α)(i:Nat)(x y:α):(l.set i x).set i y=l.set i y:=by rw[List.set_set]
structure xU (m N:Nat) (w:Rat) (t:b8) (r k:Nat):Prop where
 ak:r<m
 a4:k<N
 ai:t.T r k≠0
 FW : ∀i,i<m-> ∀j,j<=N->ei fe ((t.cA r k).T i j*(t.T r k*w))
theorem aj8 {m N:Nat}(fY:N<1000){h:Nat->Nat}{w:Rat}{t:b8}{r k:Nat}(f:rQ m N w t)(g:xU m N w t r k){i:Nat}(aa:i<m)(FV:i≠r)(dX:h i≠h r){fr:arK}(h1:fr[h i]? = some (jm N w t i))(h2:fr[h r]? = some (jm N w t r))
 (x1 x2:Int) (ag:Int) (q1:arL) (q2:ar) (bB:arO) (v1 v2:Int) :
 Nn v1 v2 (some (h r,N+1)) (some (h i,N+1)) x1 x2 (((N+1:Nat):Nat):Int) (cm w).cQ (cm w).bZ ag q1 q2 bB (cm (t.T r k*w)).cQ (cm (t.T r k*w)).bZ (cm (t.T i k*w)).cQ (cm (t.T i k*w)).bZ 0 fr=some (fr.set (h i) (jm N (t.T r k*w) (t.cA r k) i)):=by
 have hw:=f.pos;have rs : ∀i,i<m-> ∀j,j<=N->ei nc (t.T i j*w):=fun i aa j ap=>(f.iz i aa j ap).mono (xT (by have:=uQ;generalize fe=q at *;omega));have ao1:ei nc w:=f.hw.mono (xT (dE _));have ao2 : ∀i,i<m-> ∀j,j<=N->ei nc ((t.cA r k).T i j*(t.T r k*w)):=fun i aa j ap=>(g.FW i aa j ap).mono (xT (by have:=uQ;generalize fe=q at *;omega));have Ci : ∀i,i<m-> ∀j,j<=N-> ∀fU,fU<m-> ∀jZ,jZ<=N->ei nc (t.T i j*w*(t.T fU jZ*w)):=fun i aa j ap fU lj jZ wO=>((f.iz i aa j ap).mul (f.iz fU lj jZ wO)).mono (by refine Nat.le_trans ?_ (Nat.le_trans (Nat.le_add_right _ _) Il);exact Nat.mul_le_mul (by generalize fe=q;omega) (by generalize fe=q;omega));have aol : ∀j,j<=N->ei nc ((t.cA r k).T i j*(t.T r k*w)*w):=fun j ap=>((g.FW i aa j ap).mul f.hw).mono (by refine Nat.le_trans ?_ (Nat.le_trans (Nat.le_add_right _ _) Il);exact Nat.mul_le_mul (by generalize fe=q;omega) (dE _));have ak:=g.ak;have a4:=g.a4;have ai:=g.ai;have ym : ∀j,(t.cA r k).T i j=t.T i j-t.T i k*(t.T r j / t.T r k):=fun j=>by simp[b8.cA,FV]
 have QM:w≠0:=by grind
 unfold Nn
 obtain⟨s,e,-⟩:=ic (f:=fun q:Int×arK=>CA v1 v2 (some (h r,N+1)) (some (h i,N+1)) x1 x2 (((N+1:Nat):Nat):Int) (cm w).cQ (cm w).bZ ag q1 q2 bB (cm (t.T r k*w)).cQ (cm (t.T r k*w)).bZ (cm (t.T i k*w)).cQ (cm (t.T i k*w)).bZ q.1 q.2)
  (fun (c:Nat) (_:Unit)=>((c:Int),fr.set (h i) (aC (N+1) fun j=>if j<c then cm ((t.cA r k).T i j*(t.T r k*w)) else cm (t.T i j*w)))) (N+1) (fun _ _=>True)
  (fun _=>fr.set (h i) (jm N (t.T r k*w) (t.cA r k) i))
  (fun c a1 _ _=>by
    refine⟨(),?_,trivial⟩
    have fin:(some (Sum.inl (J ((c:Int)+1),(fr.set (h i) (aC (N+1) fun j=>if j<c then cm ((t.cA r k).T i j*(t.T r k*w)) else cm (t.T i j*w))).set (h i) ((aC (N+1) fun j=>if j<c then cm ((t.cA r k).T i j*(t.T r k*w)) else cm (t.T i j*w)).set (0+((c:Int)).toNat) (cm ((t.cA r k).T i c*(t.T r k*w)))))):Option ((Int×arK)⊕arK)) =
     some (Sum.inl (((c+1:Nat):Int),fr.set (h i) (aC (N+1) fun j=>if j<c+1 then cm ((t.cA r k).T i j*(t.T r k*w)) else cm (t.T i j*w)))):=by
     rw[fW,dw,dG,set_set,ld];congr 4;refine eW fun j _=> ?_;by_cases a6:j=c
     ·subst a6;rw[dz rfl,cL]
     rw[dB a6];by_cases cw:j<c
     ·rw[dz cw,cL]
     rw[dB cw,eR]
    have j1:ys (cm ((t.cA r k).T i c*(t.T r k*w)*w)) (cm w)=some (cm ((t.cA r k).T i c*(t.T r k*w))):=ah6 (ao2 i aa c (by omega)) ao1 (aol c (by omega)) QM;unfold CA;refine fb (az (x:=(h i,N+1)) rfl (az (x:=aC (N+1) fun j=>if j<c then cm ((t.cA r k).T i j*(t.T r k*w)) else cm (t.T i j*w)) (by simp only;exact KK h1) (c8 (az (x:=cm (t.T i c*w)) (by simp only;rw[dw,ie a1,eR]) ?_))));refine az (EN (rs i aa c (by omega)) (rs r ak k (by omega))) (az (yS (rs i aa k (by omega))) (sb (fun d=> ?_) (fun d=> ?_)))
    ·refine az (x:=(h r,N+1)) rfl (az (x:=jm N w t r) (by simp only;rw[OZ dX];exact h2) (c8 (az (x:=cm (t.T r c*w)) (by simp only;rw[dw];exact ie a1) (az (yS (rs r ak c (by omega))) (sb (fun d2=> ?_) (fun d2=> ?_))))))
     ·refine az (EN (rs i aa k (by omega)) (rs r ak c (by omega))) (az (Yd (Ci i aa c (by omega) r ak k (by omega)) (Ci i aa k (by omega) r ak c (by omega))) (az ?_ fin));rw[show t.T i c*w*(t.T r k*w)-t.T i k*w*(t.T r c*w)=(t.cA r k).T i c*(t.T r k*w)*w by rw[ym];grind];exact j1
     have cK:t.T r c=0:=(by have:=qP.1 (by simpa using d2);grind);refine az ?_ fin;rw[show t.T i c*w*(t.T r k*w)=(t.cA r k).T i c*(t.T r k*w)*w by rw[ym,cK];grind];exact j1
    have cK:t.T i k=0:=(by have:=qP.1 (by simpa using d);grind);refine az ?_ fin;rw[show t.T i c*w*(t.T r k*w)=(t.cA r k).T i c*(t.T r k*w)*w by rw[ym,cK];grind];exact j1)
  (fun _ _=>by unfold CA;refine fp ?_;simp only;congr 3;exact eW fun j ap=>by rw[dz ap]) () trivial
 have e0:fr.set (h i) (aC (N+1) fun j=>if j<0 then cm ((t.cA r k).T i j*(t.T r k*w)) else cm (t.T i j*w))=fr:=by
  have:(aC (N+1) fun j=>if j<0 then cm ((t.cA r k).T i j*(t.T r k*w)) else cm (t.T i j*w))=jm N w t i:=eW fun j _=>(by rw[eR]);rw[this];apply arw;intro c;rw[art];split
  ·rename_i e;subst e;rw[dz (arr.1 h1).1,h1]
  rfl
 rw[e0] at e;exact e
theorem aj9 {m N:Nat}(fY:N<1000){h:Nat->Nat}{w:Rat}{t:b8}(iz:∀i,i<m-> ∀j,j<=N->ei fe (t.T i j*w)){i:Nat}(aa:i<m){fr:arK}(h1:fr[h i]? = some (jm N w t i))
 (x1 x2:Int) (jw:Bool) (kE:ar) (ag:Int) (q1:arL) (q2:ar) (bB:arO) :
 Nq (some (h i,N+1)) x1 x2 (((N+1:Nat):Nat):Int) jw kE ag q1 q2 bB 0 fr=some (fr.set (h i) (jm N (-w) t i)):=by
 have rs : ∀j,j<=N->ei nc (t.T i j*w):=fun j ap=>(iz i aa j ap).mono (xT (by have:=uQ;generalize fe=q at *;omega));unfold Nq
 obtain⟨s,e,-⟩:=ic (f:=fun q:Int×arK=>CC (some (h i,N+1)) x1 x2 (((N+1:Nat):Nat):Int) jw kE ag q1 q2 bB q.1 q.2)
  (fun (c:Nat) (_:Unit)=>((c:Int),fr.set (h i) (aC (N+1) fun j=>if j<c then cm (t.T i j * -w) else cm (t.T i j*w)))) (N+1) (fun _ _=>True)
  (fun _=>fr.set (h i) (jm N (-w) t i))
  (fun c a1 _ _=>by
    refine⟨(),?_,trivial⟩;unfold CC;refine fb (az (x:=(h i,N+1)) rfl (az (x:=aC (N+1) fun j=>if j<c then cm (t.T i j * -w) else cm (t.T i j*w)) (by simp only;exact KK h1) (c8 (az (x:=cm (t.T i c*w)) (by simp only;rw[dw,ie a1,eR]) (az (WA (rs c (by omega))) ?_)))));simp only;rw[fW,dw,dG,set_set,ld];congr 4;refine eW fun j _=> ?_;by_cases a6:j=c
    ·subst a6;rw[dz rfl,cL];congr 1;grind
    rw[dB a6];by_cases cw:j<c
    ·rw[dz cw,cL]
    rw[dB cw,eR])
  (fun _ _=>by unfold CC;refine fp ?_;simp only;congr 3;exact eW fun j ap=>by rw[dz ap]) () trivial
 have e0:fr.set (h i) (aC (N+1) fun j=>if j<0 then cm (t.T i j * -w) else cm (t.T i j*w))=fr:=by
  have:(aC (N+1) fun j=>if j<0 then cm (t.T i j * -w) else cm (t.T i j*w))=jm N w t i:=eW fun j _=>(by rw[eR]);rw[this];apply arw;intro c;rw[art];split
  ·rename_i e;subst e;rw[dz (arr.1 h1).1,h1]
  rfl
 rw[e0] at e;exact e
def sC (w:Rat)(t:b8)(r k:Nat):Rat:=if 0<t.T r k then t.T r k*w else -(t.T r k*w)
theorem YR {m N M:Nat}(hm:m<=20)(fY:N<1000){h:Nat->Nat}(inj:∀i,i<m-> ∀k,k<m->h i=h k->i=k){w:Rat}{t:b8}{r k:Nat}(f:rQ m N w t)(g:xU m N w t r k){fr:arK}(gZ:nJ m N M h w t fr)(gQ:Int)(free:arO):
 ∃l2,Dw r k (cm w).cQ (cm w).bZ gQ (iT m N h) fr (db m t) free=some ((cm (sC w t r k)).cQ,(cm (sC w t r k)).bZ,l2,db m (t.cA r k))/\nJ m N M h (sC w t r k) (t.cA r k) l2:=by
 have ak:=g.ak;have a4:=g.a4;have ai:=g.ai;have hw:=f.pos;have rs : ∀i,i<m-> ∀j,j<=N->ei nc (t.T i j*w):=fun i aa j ap=>(f.iz i aa j ap).mono (xT (by have:=uQ;generalize fe=q at *;omega));have wa:jm N (t.T r k*w) (t.cA r k) r=jm N w t r:=eW fun j _=>by simp only[b8.cA,if_true];congr 1;grind
 have F5:(iT m N h).length=m:=c2 ..;unfold Dw
 obtain⟨p1,e1,lo,r1⟩:=ic (f:=fun q:Int×arK=>CB (r:Int) (k:Int) (some (h r,N+1)) (m:Int) (cm w).cQ (cm w).bZ gQ (iT m N h) (db m t) free (cm (t.T r k*w)).cQ (cm (t.T r k*w)).bZ q.1 q.2)
  (fun (i:Nat) (p:arK)=>((i:Int),p)) m (fun n p=>p.length=M/\ ∀i,i<m->p[h i]? = some (if i=r\/i<n then jm N (t.T r k*w) (t.cA r k) i else jm N w t i)) (fun p=>p)
  (fun n a2 p dh=>by
    obtain⟨aZ,dh⟩:=dh;unfold CB;by_cases c:n=r
    ·subst c
     refine⟨p,fb (cE (by rw[F5];simp only;omega) (az (x:=some (h n,N+1)) (by simp only;rw[dw];exact ie a2) (gd (by simp) ?_))),aZ,fun i aa=> ?_⟩
     ·simp only;rw[fW]
     rw[dh i aa];by_cases a6:i=n\/i<n
     ·rw[dz a6,cL]
     rw[dB a6,eR]
    have dX:h n≠h r:=fun e=>c (inj n a2 r ak e);have h1:p[h n]? = some (jm N w t n):=(by rw[dh n a2,eR]);have h2:p[h r]? = some (jm N w t r):=(by rw[dh r ak,dz (.inl rfl),wa]);refine⟨p.set (h n) (jm N (t.T r k*w) (t.cA r k) n),fb (cE (by rw[F5];simp only;omega) (az (x:=some (h n,N+1)) (by simp only;rw[dw];exact ie a2) (iQ (by simp;omega) (az (x:=(h n,N+1)) rfl (az h1 (c8 (az (x:=cm (t.T n k*w)) (by rw[dw];exact ie (by omega)) (az (aj8 fY f g a2 c dX h1 h2 _ _ _ _ _ _ _ _) ?_)))))))),by rw[List.length_set];exact aZ,fun i aa=> ?_⟩
    ·simp only;rw[fW]
    by_cases a6:i=n
    ·subst a6;rw[KK h1,dz (.inr (by omega))]
    rw[OZ (fun e=>a6 (inj i aa n a2 e.symm)),dh i aa];by_cases cw:i=r\/i<n
    ·rw[dz cw,cL]
    rw[dB cw,eR])
  (fun p _=>by unfold CB;exact fp rfl) fr ⟨gZ.len,fun i aa=>by
    rw[gZ.row i aa];by_cases c:i=r
    ·rw[dz (.inl c),c,wa]
    rw[eR]⟩
 have MV : ∀i,i<m->p1[h i]? = some (jm N (t.T r k*w) (t.cA r k) i):=fun i aa=>by rw[r1 i aa,dz (.inr aa)]
 have amW:(db m t).set (0+((r:Int)).toNat) (k:Int)=db m (t.cA r k):=by rw[dw,dG];unfold db;rw[ld];exact eW fun i _=>by simp only[b8.cA];split<;>rfl
 have lead :
  (if 0<=(r:Int)/\(r:Int)<((iT m N h).length:Nat) then
    (iT m N h)[(0+((r:Int)).toNat)]? >>= fun x2 =>
    x2 >>= fun jy =>
    fr[jy.1]? >>= fun ql =>
    if 0<=(k:Int)/\(k:Int)<jy.2 then
    ql[(0+((k:Int)).toNat)]? >>= fun d5 =>
    Np (r:Int) (k:Int) x2 (((iT m N h).length:Nat):Int) (cm w).cQ (cm w).bZ gQ (iT m N h) (db m t) free d5.cQ d5.bZ 0 fr >>= fun b2 =>
    if 0<=(r:Int)/\(r:Int)<((db m t).length:Nat) then
    if (0+((r:Int)).toNat)<(db m t).length then
    sR d5 >>= fun eu =>
    if (decide ((0:Int)<eu))=true then
     some (d5.cQ,d5.bZ,b2,(db m t).set (0+((r:Int)).toNat) (k:Int))
    else
     tt d5 >>= fun gk =>
     Kg (((iT m N h).length:Nat):Int) gk.cQ gk.bZ gQ (iT m N h) ((db m t).set (0+((r:Int)).toNat) (k:Int)) free 0 b2 >>= fun ju =>
     some (gk.cQ,gk.bZ,ju,(db m t).set (0+((r:Int)).toNat) (k:Int))
    else none else none else none else none)=(if (decide ((0:Int)<kC (t.T r k)))=true then
     some ((cm (t.T r k*w)).cQ,(cm (t.T r k*w)).bZ,p1,db m (t.cA r k))
    else
     tt (cm (t.T r k*w)) >>= fun gk =>
     Kg (m:Int) gk.cQ gk.bZ gQ (iT m N h) (db m (t.cA r k)) free 0 p1 >>= fun ju =>
     some (gk.cQ,gk.bZ,ju,db m (t.cA r k))):=by
  refine cE (by rw[F5];omega) (az (x:=some (h r,N+1)) (by rw[dw];exact ie ak) (az (x:=(h r,N+1)) rfl (az (gZ.row r ak) (c8 (az (x:=cm (t.T r k*w)) (by rw[dw];exact ie (by omega)) (az (x:=p1) (by unfold Np;rw[F5];exact e1) (cE (by unfold db;rw[c2];omega) (cE (by unfold db;rw[c2,dw];omega) (az (yS (rs r ak k (by omega))) ?_)))))))));rw[EW hw,amW,F5]
 by_cases mC:0<t.T r k
 ·have zP:sC w t r k=t.T r k*w:=dz mC;refine⟨p1,lead.trans ?_,lo,fun i aa=>by rw[zP];exact MV i aa⟩;rw[zP];exact lT (uK.2 mC) rfl
 have zP:sC w t r k = -(t.T r k*w):=dB mC
 obtain⟨p2,e2,lQ,r2⟩:=ic (f:=fun q:Int×arK=>CD (m:Int) (cm (-(t.T r k*w))).cQ (cm (-(t.T r k*w))).bZ gQ (iT m N h) (db m (t.cA r k)) free q.1 q.2)
  (fun (i:Nat) (p:arK)=>((i:Int),p)) m (fun n p=>p.length=M/\ ∀i,i<m->p[h i]? = some (if i<n then jm N (-(t.T r k*w)) (t.cA r k) i else jm N (t.T r k*w) (t.cA r k) i)) (fun p=>p)
  (fun n a2 p dh=>by
    obtain⟨aZ,dh⟩:=dh;have h1:p[h n]? = some (jm N (t.T r k*w) (t.cA r k) n):=(by rw[dh n a2,eR]);unfold CD;refine⟨p.set (h n) (jm N (-(t.T r k*w)) (t.cA r k) n),fb (cE (by rw[F5];simp only;omega) (az (x:=some (h n,N+1)) (by simp only;rw[dw];exact ie a2) (az (x:=(h n,N+1)) rfl (az h1 (az (aj9 fY g.FW a2 h1 _ _ _ _ _ _ _ _) ?_))))),by rw[List.length_set];exact aZ,fun i aa=> ?_⟩
    ·simp only;rw[fW]
    by_cases a6:i=n
    ·subst a6;rw[KK h1,cL]
    rw[OZ (fun e=>a6 (inj i aa n a2 e.symm)),dh i aa];by_cases cw:i<n
    ·rw[dz cw,cL]
    rw[dB cw,eR])
  (fun p _=>by unfold CD;exact fp rfl) p1 ⟨lo,fun i aa=>by rw[MV i aa,eR]⟩
 refine⟨p2,lead.trans ?_,lQ,fun i aa=>by rw[zP,r2 i aa,dz aa]⟩;rw[zP];exact la (fun c=>mC (uK.1 c)) (az (WA (rs r ak k (by omega))) (az (x:=p2) (by unfold Kg;exact e2) rfl))
theorem Wh {m:Nat}(hm:m<=1000)(t:b8)(j:Nat): ∃b,EA (db m t) (j:Int)=some b/\(b=true↔ ∃i,i<m/\t.B i=j):=by
 unfold EA Lu W0
 obtain⟨r,e,h⟩:=uH (f:=fun w:Int=>D7 (db m t) (j:Int) (m:Int) w) (fun (i:Nat) (_:Unit)=>(i:Int)) m (fun i _=> ∀k,k<i->t.B k≠j)
  (fun r=>(∃i:Nat,r = .inr (i:Int)/\i<m/\t.B i=j)\/(r = .inl ()/\ ¬∃i,i<m/\t.B i=j))
  (fun i aa _ dh=>by
    unfold D7;by_cases c:t.B i=j
    ·right;exact⟨_,fb (cE (by unfold db;rw[c2];omega) (az (x:=(t.B i:Int)) (by rw[dw];exact ho aa) (gd (by simp[c]) rfl))),.inl ⟨i,rfl,aa,c⟩⟩
    left;refine⟨(),fb (cE (by unfold db;rw[c2];omega) (az (x:=(t.B i:Int)) (by rw[dw];exact ho aa) (iQ (by simp;omega) (by rw[fW])))),fun k a4=> ?_⟩;by_cases e:k=i
    ·rw[e];exact c
    exact dh k (by omega))
  (fun _ dh=>⟨_,by unfold D7;exact fp rfl,.inr ⟨rfl,fun ⟨i,aa,e⟩=>dh i aa e⟩⟩) () (fun k a4=>by omega)
 rw[hS,show (db m t).length=m from c2 ..];rcases h with ⟨i,rfl,h1,h2⟩|⟨rfl,h⟩
 ·exact⟨true,az (x:=(i:Int)) (az e rfl) (by simp),by simp only[true_iff];exact⟨i,h1,h2⟩⟩
 exact⟨false,az (x:=(-1:Int)) (az e rfl) rfl,by simp[h]⟩
theorem HR {m N M:Nat}{h:Nat->Nat}{w:Rat}{t:b8}{fr:arK}(gZ:nJ m N M h w t fr):(iT m N h).all (rW fr)=true:=by
 rw[List.all_eq_true];intro x U;obtain⟨i,aa,rfl⟩:=PF.1 U;simp only[rW];have h1:=gZ.row i aa;have h2:fr.getD (h i) []=jm N w t i:=by rw[dN,h1];rfl
 rw[h2,show (jm N w t i).length=N+1 from c2 ..];simp[(arr.1 h1).1]
theorem AX {m N M:Nat}{h:Nat->Nat}{w:Rat}{t:b8}{fr:arK}(gZ:nJ m N M h w t fr):(iT m N h).map (jg fr)=aC m (jm N w t):=by unfold iT;rw[YF];exact eW fun i aa=>by have h2:fr.getD (h i) []=jm N w t i:=(by rw[dN,gZ.row i aa];rfl);simp only[jg];rw[h2];exact arp (Nat.le_of_eq (c2 ..))
theorem abi {m:Nat}{o:Nat->Rat}{t:b8}{j:Nat}:t.sP m 1 (fun _=>o) j↔0<t.cF m o j:=Mm (g:=fun _=>t.cF m o j)
theorem ah8 {ft m N M:Nat}{A:Nat->Nat->Rat}(hm:m<=20)(fY:N<1000){h:Nat->Nat}(inj:∀i,i<m-> ∀k,k<m->h i=h k->i=k){w:Rat}{t:b8}(ok:hZ ft m N A t)(f:rQ m N w t)(o:Nat->Int)(an:∀j,j<N-> -100<=o j/\o j<=100)(ec:Nat->Bool)
 (ao3 : ∀r s,qy m N 1 (fun _ j=>(o j:Rat)) (fun j=>ec j=true) t r s->xU m N w t r s) {fr:arK} (gZ:nJ m N M h w t fr) :
 ∃x,Gd (N:Int) (cm w).cQ (cm w).bZ (iT m N h) fr (db m t) (aC N ec) (aC N o) 0=some x /\
  ((x = .inl (false,(cm w).cQ,(cm w).bZ,fr,db m t)/\ ∀j,j<N->ec j=true-> ¬0<t.cF m (fun j=>(o j:Rat)) j) \/
   (∃r s l2,x = .inl (true,(cm (sC w t r s)).cQ,(cm (sC w t r s)).bZ,l2,db m (t.cA r s))/\qy m N 1 (fun _ j=>(o j:Rat)) (fun j=>ec j=true) t r s/\nJ m N M h (sC w t r s) (t.cA r s) l2) \/
   (x = .inr ()/\ ∃s,s<N/\ec s=true/\0<t.cF m (fun j=>(o j:Rat)) s/\ ∀i,i<m-> ¬0<t.T i s)):=by
 unfold Gd
 refine uH (f:=fun q:Int=>Cv (N:Int) (cm w).cQ (cm w).bZ (iT m N h) fr (db m t) (aC N ec) (aC N o) q) (fun (i:Nat) (_:Unit)=>(i:Int)) N
  (fun n _=> ∀j,j<n->ec j=true-> ¬0<t.cF m (fun j=>(o j:Rat)) j) _ (fun n a2 _ dh=> ?_) (fun _ dh=> ?_) () (fun j ap=>by omega)
 ·have next : ∀(iD:ec n=true-> ¬0<t.cF m (fun j=>(o j:Rat)) n),∀j,j<n+1->ec j=true-> ¬0<t.cF m (fun j=>(o j:Rat)) j:=fun iD j ap=>by
   by_cases c:j=n
   ·subst c;exact iD
   ·exact dh j (by omega)
  have g1:0<=(n:Int)/\(n:Int)<((aC N ec).length:Nat):=(by rw[c2];omega);have g2:(aC N ec)[(0+(n:Int).toNat)]? = some (ec n):=(by rw[dw];exact ie a2);have iW:J ((n:Int)+1)=((n+1:Nat):Int):=xR (by omega);unfold Cv;by_cases uu:ec n=true;rotate_left
  ·left;have M0:ec n=false:=(by simpa using uu);exact⟨(),fb (cE g1 (az g2 (iQ M0 (by rw[iW])))),next fun c=>(uu c).elim⟩
  obtain⟨b,jw,kE⟩:=Wh (m:=m) (by omega) t n
  cases b with
  | true =>
   obtain⟨i,aa,gx⟩:=kE.1 rfl;left;refine⟨(),fb (cE g1 (az g2 (gd uu (az jw (gd rfl (by rw[iW])))))),next fun _=> ?_⟩
   rw[<- gx,ok.Ax _ aa];grind
  | false =>
   have d6:=YQ hm fY f o an ((⟨(cm w).cQ,(cm w).bZ⟩:bK)) rfl (N:Int) (aC N ec) a2;by_cases w7:0<t.cF m (fun j=>(o j:Rat)) n
   ·obtain⟨q,q1,q2⟩:=ah7 hm fY f ((⟨(cm w).cQ,(cm w).bZ⟩:bK)) (aC N ec) (k:=n) (by omega)
    have bS : ¬kC (t.cF m (fun j=>(o j:Rat)) n)<=0:=(by have:=uK.2 w7;omega);right;rcases q2 with ⟨rfl,h2⟩|⟨b,rfl,aO,l5,R,aj⟩
    ·exact⟨_,fb (cE g1 (az g2 (gd uu (az jw (iQ rfl (cE (HR gZ) (az (by rw[AX gZ];exact d6) (la bS (az (by rw[AX gZ];exact q1) (lT (by decide) rfl)))))))))),.inr (.inr ⟨rfl,n,a2,uu,w7,h2⟩)⟩
    have du:qy m N 1 (fun _ j=>(o j:Rat)) (fun j=>ec j=true) t b n:=⟨a2,uu,abi.2 w7,fun j ap cp d6=>dh j ap cp (abi.1 d6),aO,l5,R,aj⟩;obtain⟨l2,e1,e2⟩:=YR hm fY inj f (ao3 b n du) gZ (N:Int) (aC N ec);exact⟨_,fb (cE g1 (az g2 (gd uu (az jw (iQ rfl (cE (HR gZ) (az (by rw[AX gZ];exact d6) (la bS (az (by rw[AX gZ];exact q1) (fp (az e1 rfl))))))))))),.inr (.inl ⟨b,n,l2,rfl,du,e2⟩)⟩
   left;have bS:kC (t.cF m (fun j=>(o j:Rat)) n)<=0:=(by have : ¬0<kC (t.cF m (fun j=>(o j:Rat)) n):=fun c=>w7 (uK.1 c);omega);exact⟨(),fb (cE g1 (az g2 (gd uu (az jw (iQ rfl (cE (HR gZ) (az (by rw[AX gZ];exact d6) (lT bS (by rw[iW]))))))))),next fun _=>w7⟩
 exact⟨_,by unfold Cv;exact fp rfl,.inl ⟨rfl,dh⟩⟩
def zi (N:Int)(u1:arL)(free:arO)(obj:ar)(s:Bool×ar×arK×ar):Option ((Bool×ar×arK×ar)⊕((Bool×ar×arK×ar)⊕(Bool×ar×arK×ar))) :=
 match Gd N s.1 s.2.1 u1 s.2.2.1 s.2.2.2 free obj 0 with
 | none=>none
 | some (.inl (true,cg))=>some (.inl cg)
 | some (.inl (false,cg))=>some (.inr (.inl cg))
 | some (.inr ())=>some (.inr (.inr s))
theorem aka {N:Int}{u1:arL}{free:arO}{obj:ar}: ∀s r,iter (zi N u1 free obj) s=some r->Nk N u1 free obj true s.1 s.2.1 s.2.2.1 s.2.2.2=some r:=by
 unfold Nk;apply iter.partial_correctness (zi N u1 free obj) (fun s r=>iter (fun w:Bool×Bool×ar×arK×ar=>zQ N u1 free obj w.1 w.2.1 w.2.2.1 w.2.2.2.1 w.2.2.2.2) (true,s.1,s.2.1,s.2.2.1,s.2.2.2)=some r);intro it ih s r ak
 cases U:Gd N s.1 s.2.1 u1 s.2.2.1 s.2.2.2 free obj 0 with
 | none=>unfold zi at ak;rw[U] at ak;simp at ak
 | some x =>
  have hm:zQ N u1 free obj true s.1 s.2.1 s.2.2.1 s.2.2.2=match x with
   | .inl eE=>(some (.inl (eE.1,eE.2.1,eE.2.2.1,eE.2.2.2.1,eE.2.2.2.2)))
   | .inr eE=>(some (.inr (.inr (s.1,s.2.1,s.2.2.1,s.2.2.2)))):=by
   unfold zQ;refine gd rfl ?_
   cases x with
   | inl a=>exact az U rfl
   | inr a=>exact az U rfl
  unfold zi at ak;rw[U] at ak;rw[iter];simp only;rw[hm]
  match x,ak with
  | .inl (true,cg),ak=>exact ih _ _ ak
  | .inl (false,cg),ak =>
   simp at ak;subst ak;show iter _ (false,cg.1,cg.2.1,cg.2.2.1,cg.2.2.2)=_;rw[iter];simp only;unfold zQ;rfl
  | .inr (),ak =>
   simp at ak;subst ak;rfl
theorem akb {ft m N M:Nat}{A:Nat->Nat->Rat}(hm:m<=20)(fY:N<1000){h:Nat->Nat}{w:Rat}{t:b8}(ok:hZ ft m N A t)(f:rQ m N w t)(o:Nat->Int)(an:∀j,j<N-> -100<=o j/\o j<=100)(ec:Nat->Bool){fr:arK}(gZ:nJ m N M h w t fr):
 Nl (N:Int) (cm w).cQ (cm w).bZ (iT m N h) fr (db m t) (aC N o) 0 (aC N ec)=some (aC N fun j=>ec j && !decide (t.cF m (fun j=>(o j:Rat)) j<0)):=by
 unfold Nl
 obtain⟨s,e,-⟩:=ic (f:=fun q:Int×arO=>Cw (N:Int) (cm w).cQ (cm w).bZ (iT m N h) fr (db m t) (aC N o) q.1 q.2)
  (fun (i:Nat) (_:Unit)=>((i:Int),aC N fun j=>if j<i then ec j && !decide (t.cF m (fun j=>(o j:Rat)) j<0) else ec j)) N (fun _ _=>True) (fun _=>aC N fun j=>ec j && !decide (t.cF m (fun j=>(o j:Rat)) j<0))
  (fun n a2 _ _=>by
    refine⟨(),?_,trivial⟩
    have same:ec n=(ec n && !decide (t.cF m (fun j=>(o j:Rat)) n<0))->(J ((n:Int)+1),aC N fun j=>if j<n then ec j && !decide (t.cF m (fun j=>(o j:Rat)) j<0) else ec j)=(((n+1:Nat):Int),aC N fun j=>if j<n+1 then ec j && !decide (t.cF m (fun j=>(o j:Rat)) j<0) else ec j):=fun he=>by
     rw[fW];congr 1;refine eW fun j _=> ?_;by_cases c:j=n
     ·subst c;rw[eR,cL];exact he
     by_cases cw:j<n
     ·rw[dz cw,cL]
     rw[dB cw,eR]
    have g1 : ∀F:Nat->Bool,0<=(n:Int)/\(n:Int)<((aC N F).length:Nat):=fun F=>(by rw[c2];omega);have g2:(aC N fun j=>if j<n then ec j && !decide (t.cF m (fun j=>(o j:Rat)) j<0) else ec j)[(0+(n:Int).toNat)]? = some (ec n):=(by rw[dw,ie a2,eR]);unfold Cw;by_cases uu:ec n=true
    ·obtain⟨b,jw,kE⟩:=Wh (m:=m) (by omega) t n
     cases b with
     | true =>
      obtain⟨i,aa,gx⟩:=kE.1 rfl;refine fb (cE (g1 _) (az g2 (gd uu (az jw (gd rfl ?_)))));simp only;rw[same];rw[<- gx,ok.Ax _ aa,decide_eq_false (by grind)];simp
     | false =>
      have d6:=YQ hm fY f o an ((⟨(cm w).cQ,(cm w).bZ⟩:bK)) rfl (N:Int) (aC N fun j=>if j<n then ec j && !decide (t.cF m (fun j=>(o j:Rat)) j<0) else ec j) a2
      have bS:kC (t.cF m (fun j=>(o j:Rat)) n)<0↔t.cF m (fun j=>(o j:Rat)) n<0:=by
       unfold kC;by_cases c:t.cF m (fun j=>(o j:Rat)) n=0
       ·rw[dz c,c];constructor
        ·intro h;omega
        intro h;grind
       rw[dB c];by_cases cw:t.cF m (fun j=>(o j:Rat)) n<0
       ·rw[dz cw];simp[cw]
       rw[dB cw];constructor
       ·intro h;omega
       intro h;exact(cw h).elim
      by_cases w7:t.cF m (fun j=>(o j:Rat)) n<0
      ·refine fb (cE (g1 _) (az g2 (gd uu (az jw (iQ rfl (cE (HR gZ) (az (by rw[AX gZ];exact d6) (lT (bS.2 w7) (c8 ?_)))))))))
       simp only;rw[fW,dw,dG,ld];congr 3;refine eW fun j _=> ?_;by_cases c:j=n
       ·subst c;rw[dz rfl,cL,decide_eq_true w7];simp
       rw[dB c];by_cases cw:j<n
       ·rw[dz cw,cL]
       rw[dB cw,eR]
      refine fb (cE (g1 _) (az g2 (gd uu (az jw (iQ rfl (cE (HR gZ) (az (by rw[AX gZ];exact d6) (la (fun c=>w7 (bS.1 c)) ?_))))))));simp only;rw[same];rw[decide_eq_false w7];simp
    have M0:ec n=false:=(by simpa using uu);refine fb (cE (g1 _) (az g2 (iQ M0 ?_)));simp only;rw[same];rw[M0];simp)
  (fun _ _=>by unfold Cw;refine fp ?_;simp only;congr 2;exact eW fun j ap=>by rw[dz ap]) () trivial
 have e0:(aC N fun j=>if j<0 then ec j && !decide (t.cF m (fun j=>(o j:Rat)) j<0) else ec j)=aC N ec:=eW fun j _=>by rw[eR]
 rw[e0] at e;exact e
theorem WB {ft m N M:Nat}{A:Nat->Nat->Rat}(hm:m<=20)(fY:N<1000){h:Nat->Nat}(inj:∀i,i<m-> ∀k,k<m->h i=h k->i=k)(o:Nat->Int)(an:∀j,j<N-> -100<=o j/\o j<=100)(ec:Nat->Bool)
 (Inv:Rat->b8->Prop) (inv : ∀w t,Inv w t->hZ ft m N A t/\t.nW m N/\rQ m N w t)
 (i3 : ∀w t r s,Inv w t->qy m N 1 (fun _ j=>(o j:Rat)) (fun j=>ec j=true) t r s->xU m N w t r s/\Inv (sC w t r s) (t.cA r s)) {w:Rat} {t:b8} (dh:Inv w t) {fr:arK} (gZ:nJ m N M h w t fr) :
 ∃b b5 cW l2 nN,w8 (cm w).cQ (cm w).bZ (N:Int) (iT m N h) fr (db m t) (aC N ec) (aC N o)=some (b,(cm b5).cQ,(cm b5).bZ,l2,db m cW,aC N nN)/\Inv b5 cW/\nJ m N M h b5 cW l2 /\
  ((b=true/\(∀j,j<N->ec j=true-> ¬0<cW.cF m (fun j=>(o j:Rat)) j)/\nN=fun j=>ec j && !decide (cW.cF m (fun j=>(o j:Rat)) j<0))\/(b=false/\ ∃s,s<N/\ec s=true/\0<cW.cF m (fun j=>(o j:Rat)) s/\ ∀i,i<m-> ¬0<cW.T i s)):=by
 obtain⟨ok,mI,JJ⟩:=inv w t dh
 obtain⟨x,eK,cW,e,-,-,-,b5,l2,h1,h2,R⟩:=WX (ft:=ft) (m:=m) (N:=N) (K:=1) (A:=A) (obj:=fun _ j=>(o j:Rat)) (bN:=fun j=>ec j=true)
  (f:=zi (N:Int) (iT m N h) (aC N ec) (aC N o))
  (fun s t=> ∃w fr,s=((cm w).cQ,(cm w).bZ,fr,db m t)/\Inv w t/\nJ m N M h w t fr)
  (fun s x t=> ∃w fr,Inv w t/\nJ m N M h w t fr/\((x = .inl ((cm w).cQ,(cm w).bZ,fr,db m t)/\ ∀j,j<N->ec j=true-> ¬0<t.cF m (fun j=>(o j:Rat)) j) \/
    (x = .inr ((cm w).cQ,(cm w).bZ,fr,db m t)/\ ∃s,s<N/\ec s=true/\0<t.cF m (fun j=>(o j:Rat)) s/\ ∀i,i<m-> ¬0<t.T i s)))
  (fun s t ee ok _=>by
    obtain⟨w,fr,rfl,dh,gZ⟩:=ee;obtain⟨x,e,U⟩:=ah8 hm fY inj ok (inv w t dh).2.2 o an ec (fun r s b=>(i3 w t r s dh b).1) gZ;rcases U with ⟨rfl,U⟩|⟨r,s,l2,rfl,du,JI⟩|⟨rfl,U⟩
    ·left;exact⟨_,by unfold zi;simp only;rw[e],w,fr,dh,gZ,.inl ⟨rfl,U⟩⟩
    ·right;exact⟨_,r,s,by unfold zi;simp only;rw[e],du,sC w t r s,l2,rfl,(i3 w t r s dh du).2,JI⟩
    left;exact⟨_,by unfold zi;simp only;rw[e],w,fr,dh,gZ,.inr ⟨rfl,U⟩⟩)
  (a:=((cm w).cQ,(cm w).bZ,fr,db m t)) (t:=t) ⟨w,fr,rfl,dh,gZ⟩ ok mI
 have e2:=aka _ _ e;obtain⟨nL,aq0,aom⟩:=inv b5 cW h1;rcases R with ⟨rfl,R⟩|⟨rfl,R⟩
 ·refine⟨true,b5,cW,l2,_,?_,h1,h2,.inl ⟨rfl,R,rfl⟩⟩;unfold w8;exact az e2 (az (akb hm fY nL aom o an ec h2) rfl)
 refine⟨false,b5,cW,l2,ec,?_,h1,h2,.inr ⟨rfl,R⟩⟩;unfold w8;exact az e2 rfl
def jz (m:Nat)(A:Nat->Nat->Rat)(t:b8):Rat:=if 0<t.D m A then t.D m A else -(t.D m A)
theorem alA {m N:Nat}{A:Nat->Nat->Rat}{t:b8}(h:t.D m A≠0):0<jz m A t:=by unfold jz;split<;>grind
theorem L5 {m K:Nat}{A:Nat->Nat->Rat}{t:b8}{x:Rat}(h:ei K (x*t.D m A)):ei K (x*jz m A t):=by
 unfold jz;split
 ·exact h
 have:=h.neg;rw[show x * -(t.D m A) = -(x*t.D m A) by grind];exact this
theorem nu.uY {m N:Nat}{A:Nat->Nat->Rat}(s:Small m N A){t:b8}(h:nu m N A t):rQ m N (jz m A t) t where
 pos:=alA (N:=N) h.us
 hw:=by have h1:ei fe (1*t.D m A):=(by rw[Rat.one_mul];exact h.B3 s);have:=L5 h1;rw[Rat.one_mul] at this;exact this.mono (by generalize fe=q;omega)
 iz:=fun i aa j ap=>L5 (h.w0 s aa ap)
 gx:=h.ok.kA
theorem nu.Bx {m N:Nat}{A:Nat->Nat->Rat}(s:Small m N A){t:b8}(h:nu m N A t){r k:Nat}(ak:r<m)(a4:k<N)(ai:t.T r k≠0):xU m N (jz m A t) t r k where
 ak:=ak
 a4:=a4
 ai:=ai
 FW:=fun i aa j ap=>by
  have nL:=h.ok.cA ak a4 ai
  have h1:ei fe ((t.cA r k).T i j*(t.cA r k).D m A):=by
   rw[<- nL.zL aa ap];refine ei.mono (yU fun eh p6 c a1=> ?_) (Fe▸AN (by omega) s.hm);simp only[iq];split
   ·exact s.sc c a1 j ap
   exact s.sc c a1 _ (Nat.le_of_lt (nL.kA eh p6))
  rw[h.ok.Bg ak a4] at h1;unfold jz;split
  ·exact h1
  have:=h1.neg;rw[show (t.cA r k).T i j*(t.T r k * -(t.D m A)) = -((t.cA r k).T i j*(t.T r k*t.D m A)) by grind];exact this
theorem P7 {m N:Nat}{A:Nat->Nat->Rat}{t:b8}(h:hZ m m N A t)(bI:t.D m A≠0){r k:Nat}(ak:r<m)(a4:k<N)(ai:t.T r k≠0):sC (jz m A t) t r k=jz m A (t.cA r k):=by
 have e:=h.Bg ak a4;unfold sC jz;rw[e];by_cases a6:0<t.T r k<;>by_cases cw:0<t.D m A
 ·rw[dz a6,dz cw,dz (Rat.mul_pos a6 cw)]
 ·have:=Rat.mul_pos a6 (show 0 < -(t.D m A) by grind);rw[dz a6,dB cw,dB (by grind)];grind
 ·have:=Rat.mul_pos (show 0 < -(t.T r k) by grind) cw;rw[dB a6,dz cw,dB (by grind)]
 have:=Rat.mul_pos (show 0 < -(t.T r k) by grind) (show 0 < -(t.D m A) by grind);rw[dB a6,dB cw,dz (by grind)];grind
def je (h:Nat->Nat)(t:b8):b8:=⟨fun i j=>t.T (h i) j,fun i=>t.B (h i)⟩
theorem HG {h:Nat->Nat}{t:b8}{r k i:Nat}(hn:h i=h r->i=r):(∀j,((je h t).cA r k).T i j=(je h (t.cA (h r) k)).T i j)/\((je h t).cA r k).B i=(je h (t.cA (h r) k)).B i:=by
 simp only[b8.cA,je];by_cases c:i=r
 ·subst c;simp
 have:h i≠h r:=fun e=>c (hn e);simp[c,this]
theorem W8 {α:Type}{m i:Nat}(aa:i<m)(f:Nat->α):(aC m f).take (i-0)++((aC m f).drop (0+(i+1))).take (m-(i+1))=aC (m-1) (skip i f):=by
 apply arw;intro j;rw[Nat.sub_zero,dG];have aZ:((aC m f).take i).length=i:=by rw[List.length_take,c2];omega
 by_cases c:j<i
 ·rw[ars (by omega),dS,dz c,tm,tm];simp only[skip];rw[dz c]
 rw[arx (by omega),aZ,dS,arz];by_cases cw:j<m-1
 ·rw[cL,tm,ho cw];simp only[skip];rw[dB c];congr 2;omega
 rw[eR]
 symm
 rw[List.getElem?_eq_none_iff,c2];omega
theorem aht {m N M n:Nat}(fY:N<1000)(a2:n<=N){h:Nat->Nat}{w:Rat}{t:b8}(f:rQ m N w t){fr:arK}(gZ:nJ m N M h w t fr){i:Nat}(aa:i<m)(jw:Bool)(kE:ar)(ag:Int)(q2:ar)(bB:arO):
 ∃k:Nat,Nr (n:Int) (i:Int) jw kE ag (iT m N h) fr q2 bB 0=some (k:Int)/\k<=n/\(k<n->t.T i k≠0)/\ ∀j,j<k->t.T i j=0:=by
 unfold Nr
 obtain⟨r,e,k,rfl,h1,h2,R⟩:=uH (f:=fun q:Int=>CE (n:Int) (i:Int) jw kE ag (iT m N h) fr q2 bB q) (fun (c:Nat) (_:Unit)=>(c:Int)) n (fun c _=> ∀j,j<c->t.T i j=0)
  (fun r=> ∃k:Nat,r=(k:Int)/\k<=n/\(k<n->t.T i k≠0)/\ ∀j,j<k->t.T i j=0)
  (fun c a1 _ dh=>by
    have hw:=f.pos;have bS:=yS ((f.iz i aa c (by omega)).mono (xT (by have:=uQ;generalize fe=q at *;omega)));unfold CE;by_cases M8:t.T i c=0
    ·left
     refine⟨(),fb (cE (by unfold iT;rw[c2];omega) (az (x:=some (h i,N+1)) (by rw[dw];exact ie aa) (az (x:=(h i,N+1)) rfl (az (gZ.row i aa) (c8 (az (x:=cm (t.T i c*w)) (by rw[dw];exact ie (by omega)) (az bS (gd (by rw[EW hw,qP.2 M8];rfl) (by rw[fW]))))))))),fun j ap=> ?_⟩;by_cases e:j=c
     ·rw[e];exact M8
     exact dh j (by omega)
    right;exact⟨_,fb (cE (by unfold iT;rw[c2];omega) (az (x:=some (h i,N+1)) (by rw[dw];exact ie aa) (az (x:=(h i,N+1)) rfl (az (gZ.row i aa) (c8 (az (x:=cm (t.T i c*w)) (by rw[dw];exact ie (by omega)) (az bS (iQ (by rw[EW hw];exact zs (fun c=>M8 (qP.1 c))) rfl)))))))),c,rfl,by omega,fun _=>M8,dh⟩)
  (fun _ dh=>⟨_,by unfold CE;exact fp rfl,n,rfl,dE _,fun c=>by omega,dh⟩) () (fun j ap=>by omega)
 exact⟨k,e,h1,h2,R⟩
structure oZ (m n N:Nat) (A:Nat->Nat->Rat) (t:b8) (aF:Nat) (h:Nat->Nat):Prop where
 inv:nu m N A t
 z : ∀i,i<m->n<=t.B i->t.T i N=0
 le:aF<=m
 lt : ∀i,i<aF->h i<m
 inj : ∀i,i<aF-> ∀k,k<aF->h i=h k->i=k
 dead : ∀d,d<m->(∀i,i<aF->h i≠d)->n<=t.B d/\ ∀j,j<n->t.T d j=0
theorem oZ.uY {m n N aF:Nat}{A:Nat->Nat->Rat}{t:b8}{h:Nat->Nat}(s:Small m N A)(a:oZ m n N A t aF h):rQ aF N (jz m A t) (je h t) :=
 have f:=a.inv.uY s
 ⟨f.pos,f.hw,fun i aa j ap=>f.iz (h i) (a.lt i aa) j ap,fun i aa=>f.gx (h i) (a.lt i aa)⟩
theorem oZ.Bx {m n N aF:Nat}{A:Nat->Nat->Rat}{t:b8}{h:Nat->Nat}(s:Small m N A)(a:oZ m n N A t aF h){r k:Nat}(ak:r<aF)(a4:k<N)(ai:t.T (h r) k≠0):xU aF N (jz m A t) (je h t) r k :=
 have f:=a.inv.Bx s (a.lt r ak) a4 ai
 ⟨ak,a4,ai,fun i aa j ap=>by rw[(HG (t:=t) (k:=k) (a.inj i aa r ak)).1 j];exact f.FW (h i) (a.lt i aa) j ap⟩
theorem oZ.cA {m n N aF:Nat}{A:Nat->Nat->Rat}{t:b8}{h:Nat->Nat}(Rz:n<=N)(a:oZ m n N A t aF h){r k:Nat}(ak:r<aF)(a4:k<n)(aO:n<=t.B (h r))(ai:t.T (h r) k≠0):oZ m n N A (t.cA (h r) k) aF h:=by
 have cK:=a.z (h r) (a.lt r ak) aO
 have eN : ∀i,(t.cA (h r) k).T i N=t.T i N:=fun i=>by
  simp only[b8.cA];split
  ·rename_i e;rw[e,cK];grind
  rw[cK];grind
 refine⟨⟨a.inv.ok.cA (a.lt r ak) (by omega) ai,fun i aa=>by rw[eN];exact a.inv.mI i aa,?_⟩,fun i aa gx=> ?_,a.le,a.lt,a.inj,fun d bI iD=> ?_⟩
 ·rw[a.inv.ok.Bg (a.lt r ak) (by omega)];have:=a.inv.us;grind
 ·rw[eN]
  simp only[b8.cA] at gx;by_cases c:i=h r
  ·rw[dz c] at gx;omega
  rw[dB c] at gx;exact a.z i aa gx
 obtain⟨h1,h2⟩:=a.dead d bI iD;have dX:d≠h r:=fun e=>iD r ak e.symm;simp only[b8.cA,dB dX];refine⟨h1,fun j ap=> ?_⟩;rw[h2 j ap,h2 k a4];grind
theorem ai3 {m n N:Nat}{A:Nat->Nat->Rat}(s:Small m N A)(fY:N<1000)(Rz:n<=N)(free:arO){t:b8}(cv:nu m N A t)(cK:∀i,i<m->n<=t.B i->t.T i N=0){fr:arK}(gZ:nJ m N m (fun i=>i) (jz m A t) t fr):
 ∃cW aF h l2,Gp (n:Int) (cm (jz m A t)).cQ (cm (jz m A t)).bZ (N:Int) (iT m N fun i=>i) fr (db m t) free=some ((cm (jz m A cW)).cQ,(cm (jz m A cW)).bZ,iT aF N h,l2,db aF (je h cW)) /\
  oZ m n N A cW aF h/\(∀i,i<aF->cW.B (h i)<n)/\nJ aF N m h (jz m A cW) (je h cW) l2:=by
 have hm:=s.hm;unfold Gp SU
 obtain⟨x,e,cW,aF,h,l2,rfl,h1,h2,R⟩:=kR (f:=fun w:Int×Bool×ar×arL×arK×ar=>Gb (n:Int) (N:Int) free w.1 w.2.1 w.2.2.1 w.2.2.2.1 w.2.2.2.2.1 w.2.2.2.2.2)
  (fun w=> ∃(i aF:Nat) (h:Nat->Nat) (t:b8) (p:arK),w=((i:Int),(cm (jz m A t)).cQ,(cm (jz m A t)).bZ,iT aF N h,p,db aF (je h t))/\i<=aF/\oZ m n N A t aF h/\(∀q,q<i->t.B (h q)<n)/\nJ aF N m h (jz m A t) (je h t) p)
  (fun w=>w.2.2.2.1.length-w.1.toNat)
  (fun x=> ∃cW aF h l2,x=((cm (jz m A cW)).cQ,(cm (jz m A cW)).bZ,iT aF N h,l2,db aF (je h cW))/\oZ m n N A cW aF h/\(∀i,i<aF->cW.B (h i)<n)/\nJ aF N m h (jz m A cW) (je h cW) l2)
  (fun w hw=>by
    obtain⟨i,aF,h,t,p,rfl,aa,bH,a0,ai⟩:=hw;have mE:=bH.le;have yf:(iT aF N h).length=aF:=c2 ..;have RA:(db aF (je h t)).length=aF:=c2 ..;simp only;unfold Gb;by_cases c:i<aF
    ·left
     have g1:0<=(i:Int)/\(i:Int)<((db aF (je h t)).length:Nat):=(by rw[RA];omega);have g2:(db aF (je h t))[(0+((i:Int)).toNat)]? = some ((t.B (h i):Nat):Int):=(by rw[dw];exact ie c);by_cases JZ:t.B (h i)<n
     ·refine⟨(((i+1:Nat):Int),(cm (jz m A t)).cQ,(cm (jz m A t)).bZ,iT aF N h,p,db aF (je h t)),lT (by rw[yf];omega) (cE g1 (az g2 (fb (by rw[fW])))),⟨i+1,aF,h,t,p,rfl,by omega,bH,fun q qE=> ?_,ai⟩,by simp only[yf];omega⟩
      by_cases e:q=i
      ·rw[e];exact JZ
      exact a0 q (by omega)
     obtain⟨k,k0,kh,pB,JU⟩:=aht fY Rz (bH.uY s) ai c (cm (jz m A t)).cQ (cm (jz m A t)).bZ (N:Int) (db aF (je h t)) free;by_cases RT:k<n
     ·have RB:t.T (h i) k≠0:=pB RT
      obtain⟨mX,e1,e2⟩:=YR (by omega) fY bH.inj (bH.uY s) (bH.Bx s c (by omega) RB) ai (N:Int) free;have zP:sC (jz m A t) (je h t) i k=jz m A (t.cA (h i) k):=P7 bH.inv.ok bH.inv.us (bH.lt i c) (by omega) RB;have ao4:db aF ((je h t).cA i k)=db aF (je h (t.cA (h i) k)):=eW fun q qE=>(by have:=(HG (t:=t) (k:=k) (bH.inj q qE i c)).2;rw[this]);rw[zP,ao4] at e1;rw[zP] at e2;refine⟨(((i+1:Nat):Int),(cm (jz m A (t.cA (h i) k))).cQ,(cm (jz m A (t.cA (h i) k))).bZ,iT aF N h,mX,db aF (je h (t.cA (h i) k))),lT (by rw[yf];omega) (cE g1 (az g2 (fp (az k0 (fb (az e1 (by rw[fW]))))))),⟨i+1,aF,h,t.cA (h i) k,mX,rfl,by omega,bH.cA Rz c RT (by omega) RB,fun q qE=> ?_,e2.len,fun q qE=> ?_⟩,by simp only[yf];omega⟩
      ·simp only[b8.cA]
       split
       ·exact RT
       rename_i dX;have:q≠i:=fun e=>dX (by rw[e]);exact a0 q (by omega)
      rw[e2.row q qE];congr 1;exact eW fun j _=>by rw[(HG (t:=t) (k:=k) (bH.inj q qE i c)).1 j]
     have Ry:k=n:=(by omega);have ye:J ((i:Int)+1)=((i+1:Nat):Int):=xR (by omega);have MT:(((iT aF N h).drop (0+(i+1))).take (aF-(i+1))).length=aF-(i+1):=(by rw[List.length_take,List.length_drop,yf];omega);have Jf:(((db aF (je h t)).drop (0+(i+1))).take (aF-(i+1))).length=aF-(i+1):=(by rw[List.length_take,List.length_drop,RA];omega);have bT:(iT aF N h).take (i-0)++((iT aF N h).drop (0+(i+1))).take (aF-(i+1))=iT (aF-1) N (skip i h):=W8 c _;have gX:(db aF (je h t)).take (i-0)++((db aF (je h t)).drop (0+(i+1))).take (aF-(i+1))=db (aF-1) (je (skip i h) t):=W8 c _;refine⟨((i:Int),(cm (jz m A t)).cQ,(cm (jz m A t)).bZ,iT (aF-1) N (skip i h),p,db (aF-1) (je (skip i h) t)),lT (by rw[yf];omega) (cE g1 (az g2 (fp (az k0 (fp ?_))))),⟨i,aF-1,skip i h,t,p,rfl,by omega,⟨bH.inv,bH.z,by omega,fun q qE=> ?_,fun q qE q2 Fm e=> ?_,fun d bI iD=> ?_⟩,fun q qE=> ?_,ai.len,fun q qE=> ?_⟩,?_⟩
     ·rw[ye,dw,dw,yf,RA,MT,Jf,bT,gX];exact c8 (c8 (c8 (c8 (c8 (c8 (c8 (c8 (c8 (c8 (c8 (c8 rfl)))))))))))
     ·simp only[skip];split<;>exact bH.lt _ (by omega)
     ·simp only[skip] at e;have:=bH.inj _ (by split<;>omega) _ (by split<;>omega) e;split at this<;>split at this<;>omega
     ·by_cases abQ:d=h i
      ·rw[abQ];exact⟨by omega,fun j ap=>JU j (by omega)⟩
      refine bH.dead d bI fun q qE=> ?_;by_cases a6:q<i
      ·have:=iD q (by omega);simp only[skip] at this;rw[dz a6] at this;exact this
      by_cases cw:q=i
      ·rw[cw];exact fun e=>abQ e.symm
      have:=iD (q-1) (by omega);simp only[skip] at this;rw[eR,show q-1+1=q by omega] at this;exact this
     ·simp only[skip];rw[dz qE];exact a0 q qE
     ·simp only[skip]
      by_cases a6:q<i
      ·rw[dz a6,ai.row q (by omega)];congr 1;exact eW fun j _=>by simp only[je,skip];rw[dz a6]
      rw[dB a6,ai.row (q+1) (by omega)];congr 1;exact eW fun j _=>by simp only[je,skip];rw[dB a6]
     simp only[yf,show (iT (aF-1) N (skip i h)).length=aF-1 from c2 ..];omega
    right;have aon:i=aF:=(by omega);subst aon;exact⟨_,la (by rw[yf];omega) rfl,t,i,h,p,rfl,bH,a0,ai⟩)
  ((0:Int),(cm (jz m A t)).cQ,(cm (jz m A t)).bZ,iT m N (fun i=>i),fr,db m t)
  ⟨0,m,fun i=>i,t,fr,rfl,by omega,⟨cv,cK,dE _,fun i aa=>aa,fun i _ k _ e=>e,fun d bI iD=>(iD d bI rfl).elim⟩,fun q a0=>by omega,gZ.len,gZ.row⟩
 exact⟨cW,aF,h,l2,az e rfl,h1,h2,R⟩
theorem YS:(⟨false,([]:ar)⟩:bK)=cm 0:=by show _=hM (0:Rat).num;rw[show (0:Rat).num=0 from rfl];unfold hM;rw[show L ((0:Int).natAbs:Int)=[] from wH.2 (by simp)];rfl
theorem PK {α:Type}(l:List α)(x:α):(l++[x])[l.length]? = some x:=by simp
theorem EX {α:Type}(l:List α)(x y:α):(l++[x]).set l.length y=l++[y]:=by simp
theorem YT {p:kk}{m n:Nat}{a:Nat->Nat->Int}{b:Nat->Int}(h:nA p m n a b){i:Nat}(aa:i<m):z8 i p.gC p.fi p.bR p.bP p.h3=some (i*n,n):=by
 have hm:=h.hm;have a2:=h.a2;have h1:i*n<=20*40:=Nat.mul_le_mul (by omega) a2;have h2:(i+1)*n<=20*40:=Nat.mul_le_mul (by omega) a2;have R:(i+1)*n<=m*n:=arn _ aa;have e1:J ((i:Int)*p.fi)=((i*n:Nat):Int):=by rw[h.gQ,<- Int.natCast_mul,c7]
 have e2:J (J ((i:Int)+1)*p.fi)=(((i+1)*n:Nat):Int):=by rw[h.gQ,fW,<- Int.natCast_mul,c7]
 have aj:(i+1)*n=i*n+n:=Nat.succ_mul i n;unfold z8;rw[e1,e2,dw,dw,h.iu];refine c8 (c8 (cE ⟨by omega,R⟩ ?_));rw[show 0+i*n=i*n by omega,show (i+1)*n-i*n=n by omega]
theorem agZ {p:kk}{m n:Nat}{a:Nat->Nat->Int}{b:Nat->Int}(h:nA p m n a b){i:Nat}(aa:i<m)(aO:b i<0)(x0:Int)(fu:Bool)(ev:ar)(q2:arL)(cu:ar)(dn:arO)(P:arK):
 Oc x0 (i:Int) P.length (n+m+1) p.gC (i*n) n (n:Int) p.fi p.bR p.bP p.h3 fu ev q2 cu dn 0 (P++[aC (n+m+1) fun _=>cm 0])=some (P++[aC (n+m+1) fun j=>if j<n then cm (eb m n a b i j) else cm 0]):=by
 have hm:=h.hm;have a2:=h.a2;have bS:mu (b i) = -1:=by unfold mu;rw[dz aO]
 unfold Oc
 obtain⟨s1,e1,-⟩:=ic (f:=fun w:Int×arK=>Dx x0 (i:Int) P.length (n+m+1) p.gC (i*n) n (n:Int) p.fi p.bR p.bP p.h3 fu ev q2 cu dn w.1 w.2)
  (fun (k:Nat) (_:Unit)=>((k:Int),P++[aC (n+m+1) fun j=>if j<k then cm (eb m n a b i j) else cm 0])) n (fun _ _=>True) (fun _=>P++[aC (n+m+1) fun j=>if j<n then cm (eb m n a b i j) else cm 0])
  (fun k a4 _ _=>by
    refine⟨(),?_,trivial⟩;have bH:=h.mw i aa k a4;have e:J ((-1:Int)*a i k)=mZ m n a b i k:=(by rw[c7];unfold mZ;rw[dz a4,bS]);unfold Dx;refine fb (c8 (az (x:=a i k) (by simp only;rw[dw];exact h.IJ i aa k a4) (az (x:=cm (eb m n a b i k)) (by rw[e];exact xo (by have:=xM h aa k;rw[m2];omega)) (az (PK _ _) (c8 (az (by simp only;rw[dw];exact ie (by omega)) ?_))))));simp only;rw[fW,dw,dG,ld,EX];congr 5;refine eW fun j _=> ?_;by_cases a6:j=k
    ·subst a6;rw[dz rfl,cL]
    rw[dB a6];by_cases cw:j<k
    ·rw[dz cw,cL]
    rw[dB cw,eR])
  (fun _ _=>by unfold Dx;exact fp rfl) () trivial
 have e0:(aC (n+m+1) fun j=>if j<0 then cm (eb m n a b i j) else cm 0)=aC (n+m+1) fun _=>cm 0:=eW fun j _=>by rw[eR]
 rw[e0] at e1;exact e1
theorem ag0 {p:kk}{m n:Nat}{a:Nat->Nat->Int}{b:Nat->Int}(h:nA p m n a b){i:Nat}(aa:i<m)(aO:¬b i<0)(x0:Int)(fu:Bool)(ev:ar)(q2:arL)(cu:ar)(dn:arO)(P:arK):
 Od x0 (i:Int) P.length (n+m+1) p.gC (i*n) n (n:Int) p.fi p.bR p.bP p.h3 fu ev q2 cu dn 0 (P++[aC (n+m+1) fun _=>cm 0])=some (P++[aC (n+m+1) fun j=>if j<n then cm (eb m n a b i j) else cm 0]):=by
 have hm:=h.hm;have a2:=h.a2;have bS:mu (b i)=1:=by unfold mu;rw[dB aO]
 unfold Od
 obtain⟨s1,e1,-⟩:=ic (f:=fun w:Int×arK=>Dy x0 (i:Int) P.length (n+m+1) p.gC (i*n) n (n:Int) p.fi p.bR p.bP p.h3 fu ev q2 cu dn w.1 w.2)
  (fun (k:Nat) (_:Unit)=>((k:Int),P++[aC (n+m+1) fun j=>if j<k then cm (eb m n a b i j) else cm 0])) n (fun _ _=>True) (fun _=>P++[aC (n+m+1) fun j=>if j<n then cm (eb m n a b i j) else cm 0])
  (fun k a4 _ _=>by
    refine⟨(),?_,trivial⟩;have bH:=h.mw i aa k a4;have e:J ((1:Int)*a i k)=mZ m n a b i k:=(by rw[c7];unfold mZ;rw[dz a4,bS]);unfold Dy;refine fb (c8 (az (x:=a i k) (by simp only;rw[dw];exact h.IJ i aa k a4) (az (x:=cm (eb m n a b i k)) (by rw[e];exact xo (by have:=xM h aa k;rw[m2];omega)) (az (PK _ _) (c8 (az (by simp only;rw[dw];exact ie (by omega)) ?_))))));simp only;rw[fW,dw,dG,ld,EX];congr 5;refine eW fun j _=> ?_;by_cases a6:j=k
    ·subst a6;rw[dz rfl,cL]
    rw[dB a6];by_cases cw:j<k
    ·rw[dz cw,cL]
    rw[dB cw,eR])
  (fun _ _=>by unfold Dy;exact fp rfl) () trivial
 have e0:(aC (n+m+1) fun j=>if j<0 then cm (eb m n a b i j) else cm 0)=aC (n+m+1) fun _=>cm 0:=eW fun j _=>by rw[eR]
 rw[e0] at e1;exact e1
theorem qT {α:Type}(n:Nat)(x:α):List.replicate n x=aC n fun _=>x:=by
 apply arw;intro i;by_cases c:i<n
 ·rw[ho c];simp[c]
 rw[List.getElem?_eq_none_iff.2 (by simp;omega),List.getElem?_eq_none_iff.2 (by rw[c2];omega)]
theorem Wi {p:kk}{m n:Nat}{a:Nat->Nat->Int}{b:Nat->Int}(h:nA p m n a b)(fu:Bool)(ev:ar)(dn:arO):
 Oe ((n+m:Nat):Int) p.gC p.fi p.bR p.bP p.h3 fu ev dn 0 ([]:arL) ([]:arK) ([]:ar)=some (iT m (n+m) (fun i=>i),aC m (fun i=>aC (n+m+1) fun j=>cm (eb m n a b i j)),db m (kL m n a b)):=by
 have hm:=h.hm;have a2:=h.a2;unfold Oe
 obtain⟨s,e,-⟩:=ic (f:=fun w:Int×arL×arK×ar=>Dz ((n+m:Nat):Int) p.gC p.fi p.bR p.bP p.h3 fu ev dn w.1 w.2.1 w.2.2.1 w.2.2.2)
  (fun (i:Nat) (_:Unit)=>((i:Int),aC i (fun k=>(some (k,n+m+1):bF)),aC i (fun i=>aC (n+m+1) fun j=>cm (eb m n a b i j)),aC i (fun k=>((n+k:Nat):Int)))) m (fun _ _=>True)
  (fun _=>(iT m (n+m) (fun i=>i),aC m (fun i=>aC (n+m+1) fun j=>cm (eb m n a b i j)),db m (kL m n a b)))
  (fun i aa _ _=>by
    refine⟨(),?_,trivial⟩;have aO:=h.m1 i aa;have iW:J (((n+m:Nat):Int)+1)=((n+m+1:Nat):Int):=xR (by omega);have hw:J (p.fi+(i:Int))=((n+i:Nat):Int):=(by rw[h.gQ,<- Int.natCast_add,c7]);have abj:(aC i (fun i=>aC (n+m+1) fun j=>cm (eb m n a b i j))).length=i:=c2 ..;have uj:mZ m n a b i (n+m)=mu (b i)*b i:=by unfold mZ;rw[eR,dz rfl]
    have eP:((aC (n+m+1) fun j=>if j<n then cm (eb m n a b i j) else cm 0).set (n+i) (cm ((1:Int):Rat))).set (n+m) (cm (eb m n a b i (n+m)))=aC (n+m+1) fun j=>cm (eb m n a b i j):=by
     rw[ld,ld];refine eW fun j ap=> ?_;by_cases a6:j=n+m
     ·rw[dz a6,a6]
     rw[dB a6];by_cases cw:j=n+i
     ·rw[dz cw,cw,xx aa,dz rfl];rfl
     rw[dB cw];by_cases j8:j<n
     ·rw[dz j8]
     rw[dB j8];obtain⟨k,rfl⟩ : ∃k,j=n+k:=⟨j-n,by omega⟩;rw[xx (by omega),eR]
    unfold Dz;rw[iW,hw,dw];refine lT (by simp only;rw[h.rows];omega) (c8 (cE (by simp only;rw[h.Cf];omega) (az (x:=b i) (by simp only[dw,dG];exact h.Mk i aa) ?_)))
    have fin:(some (Sum.inl (J ((i:Int)+1),(aC i (fun k=>(some (k,n+m+1):bF)))++[some (i,n+m+1)],(aC i (fun i=>aC (n+m+1) fun j=>cm (eb m n a b i j)))++[aC (n+m+1) fun j=>cm (eb m n a b i j)],(aC i fun k=>((n+k:Nat):Int))++[((n+i:Nat):Int)])):Option ((Int×arL×arK×ar)⊕(arL×arK×ar))) =
     some (Sum.inl (((i+1:Nat):Int),aC (i+1) (fun k=>(some (k,n+m+1):bF)),aC (i+1) (fun i=>aC (n+m+1) fun j=>cm (eb m n a b i j)),aC (i+1) (fun k=>((n+k:Nat):Int)))):=by
     rw[fW,lW i (fun k=>(some (k,n+m+1):bF)),lW i (fun i=>aC (n+m+1) fun j=>cm (eb m n a b i j)),lW i (fun k=>((n+k:Nat):Int))]
    have U : ∀(P:arK) (F:arJ->Option ((Int×arL×arK×ar)⊕(arL×arK×ar))) (x:arJ) r,F x=r->(P++[x])[P.length]? >>= F=r:=fun P F x r ul=>az (PK P x) ul;refine sb (fun c=> ?_) (fun c=> ?_)
    ·have qB:b i<0:=of_decide_eq_true c;have bS:mu (b i) = -1:=(by unfold mu;rw[dz qB]);refine az (YT h aa) (az (by rw[YS,qT];exact agZ h aa qB _ _ _ _ _ _ _) (az (xo (n:=1) (by rw[m2];omega)) (U _ _ _ _ ?_)));refine c8 (az (x:=cm 0) (by rw[dw,ie (by omega),eR]) (az (x:=cm (eb m n a b i (n+m))) (by have e:J ((-1:Int)*b i)=mZ m n a b i (n+m):=(by rw[uj,bS,c7]);rw[e];exact xo (by have:=xM h aa (n+m);rw[m2];omega)) ?_));rw[EX,dw,dG,dw,dG];refine U _ _ _ _ (c8 ?_);obtain⟨v,bh⟩ : ∃v,((aC (n+m+1) fun j=>if j<n then cm (eb m n a b i j) else cm 0).set (n+i) (cm ((1:Int):Rat)))[n+m]? = some v:=(by rw[ld,tm];exact⟨_,rfl⟩);refine az bh (cE (by simp only[dD,c2,dI,dQ];omega) (cE (by simp only[dD,c2,dI,dQ];omega) ?_));rw[EX];simp only[dw,dG];rw[eP,abj];exact fin
    have qB : ¬b i<0:=of_decide_eq_false c;have bS:mu (b i)=1:=(by unfold mu;rw[dB qB]);refine az (YT h aa) (az (by rw[YS,qT];exact ag0 h aa qB _ _ _ _ _ _ _) (az (xo (n:=1) (by rw[m2];omega)) (U _ _ _ _ ?_)));refine c8 (az (x:=cm 0) (by rw[dw,ie (by omega),eR]) (az (x:=cm (eb m n a b i (n+m))) (by have e:J ((1:Int)*b i)=mZ m n a b i (n+m):=(by rw[uj,bS,c7]);rw[e];exact xo (by have:=xM h aa (n+m);rw[m2];omega)) ?_));rw[EX,dw,dG,dw,dG];refine U _ _ _ _ (c8 ?_);obtain⟨v,bh⟩ : ∃v,((aC (n+m+1) fun j=>if j<n then cm (eb m n a b i j) else cm 0).set (n+i) (cm ((1:Int):Rat)))[n+m]? = some v:=(by rw[ld,tm];exact⟨_,rfl⟩);refine az bh (cE (by simp only[dD,c2,dI,dQ];omega) (cE (by simp only[dD,c2,dI,dQ];omega) ?_));rw[EX];simp only[dw,dG];rw[eP,abj];exact fin)
  (fun _ _=>by unfold Dz;exact la (by simp only;rw[h.rows];omega) rfl) () trivial
 exact e
def uv (n j:Nat):Int:=if n<=j then -1 else 0
theorem Zw {m n j:Nat}(ap:j<n+m):((uv n j:Int):Rat)=hk m n j:=by
 unfold uv hk;by_cases c:n<=j
 ·rw[dz c,dz ⟨c,ap⟩];rfl
 rw[dB c,eR];rfl
theorem YU {m n:Nat}{t:b8}(gx:∀i,i<m->t.B i<n+m){j:Nat}(ap:j<n+m):t.cF m (fun j=>((uv n j:Int):Rat)) j=t.cF m (hk m n) j:=by unfold b8.cF;simp only;rw[Zw ap,gT (g:=fun i=>hk m n (t.B i)*t.T i j) fun i aa=>by rw[Zw (gx i aa)]]
theorem WC {p:kk}{m n:Nat}{a:Nat->Nat->Int}{b:Nat->Int}(h:nA p m n a b)(x0:Int)(fu:Bool)(ev:ar)(q2:arL)(bB:arK)(cu:ar):
 Of x0 ((n+m:Nat):Int) p.gC p.fi p.bR p.bP p.h3 fu ev q2 bB cu 0 (aC (n+m) fun _=>(0:Int)) (aC (n+m) fun _=>false)=some (aC (n+m) (uv n),aC (n+m) fun j=>decide (j<n)):=by
 have hm:=h.hm;have a2:=h.a2;unfold Of
 obtain⟨s,e,-⟩:=ic (f:=fun w:Int×ar×arO=>DA x0 ((n+m:Nat):Int) p.gC p.fi p.bR p.bP p.h3 fu ev q2 bB cu w.1 w.2.1 w.2.2)
  (fun (k:Nat) (_:Unit)=>((k:Int),(aC (n+m) fun j=>if j<k then uv n j else 0),aC (n+m) fun j=>if j<k then decide (j<n) else false)) (n+m) (fun _ _=>True) (fun _=>(aC (n+m) (uv n),aC (n+m) fun j=>decide (j<n)))
  (fun k a4 _ _=>by
    refine⟨(),?_,trivial⟩
    have e2:(aC (n+m) fun j=>if j<k then decide (j<n) else false).set (0+((k:Int)).toNat) (decide (k<n))=aC (n+m) fun j=>if j<k+1 then decide (j<n) else false:=by
     rw[dw,dG,ld];refine eW fun j _=> ?_;by_cases c:j=k
     ·subst c;rw[dz rfl,cL]
     rw[dB c];by_cases cw:j<k
     ·rw[dz cw,cL]
     rw[dB cw,eR]
    have J0:decide ((k:Int)<p.fi)=decide (k<n):=(by rw[h.gQ];simp);unfold DA;simp only;rw[J0,e2,fW];refine fb (c8 (c8 ?_));by_cases c:n<=k
    ·refine lT (by rw[h.gQ];omega) (c8 (c8 ?_))
     rw[dw,dG,ld];congr 4;refine eW fun j _=> ?_;by_cases a6:j=k
     ·subst a6;rw[dz rfl,cL];unfold uv;rw[dz c]
     rw[dB a6];by_cases cw:j<k
     ·rw[dz cw,cL]
     rw[dB cw,eR]
    refine la (by rw[h.gQ];omega) ?_;congr 4;refine eW fun j _=> ?_;by_cases a6:j=k
    ·subst a6;rw[eR,cL];unfold uv;rw[dB c]
    by_cases cw:j<k
    ·rw[dz cw,cL]
    rw[dB cw,eR])
  (fun _ _=>by
    unfold DA;refine fp ?_;simp only;congr 3
    ·exact eW fun j ap=>by rw[dz ap]
    exact eW fun j ap=>by rw[dz ap]) () trivial
 have mn:(aC (n+m) fun j=>if j<0 then uv n j else 0)=aC (n+m) fun _=>(0:Int):=eW fun j _=>by rw[eR]
 have ur:(aC (n+m) fun j=>if j<0 then decide (j<n) else false)=aC (n+m) fun _=>false:=eW fun j _=>by rw[eR]
 rw[mn,ur] at e;exact e
theorem ag1 {p:kk}{m n:Nat}{a:Nat->Nat->Int}{b:Nat->Int}(h:nA p m n a b){w:Rat}{t:b8}(f:rQ m (n+m) w t){fr:arK}(gZ:nJ m (n+m) m (fun i=>i) w t fr)(fu:Bool)(ev:ar)(x0:Int)(q:arO):
 ∃r,Og ((n+m:Nat):Int) (m:Int) p.gC p.fi p.bR p.bP p.h3 fu ev x0 (db m t) (iT m (n+m) fun i=>i) fr q 0=some r/\((r = .inr ()/\ ∃i,i<m/\n<=t.B i/\0<t.T i (n+m))\/(r = .inl ()/\ ∀i,i<m->n<=t.B i-> ¬0<t.T i (n+m))):=by
 have hm:=h.hm;have a2:=h.a2;have hw:=f.pos;unfold Og
 exact uH (f:=fun w:Int=>DB ((n+m:Nat):Int) (m:Int) p.gC p.fi p.bR p.bP p.h3 fu ev x0 (db m t) (iT m (n+m) fun i=>i) fr q w) (fun (i:Nat) (_:Unit)=>(i:Int)) m (fun k _=> ∀i,i<k->n<=t.B i-> ¬0<t.T i (n+m)) _
  (fun i aa _ dh=>by
    have bS:=yS ((f.iz i aa (n+m) (dE _)).mono (xT (by have:=uQ;generalize fe=q at *;omega)));have g1:0<=(i:Int)/\(i:Int)<((db m t).length:Nat):=(by unfold db;rw[c2];omega);have g2:(db m t)[(0+((i:Int)).toNat)]? = some (t.B i:Int):=(by rw[dw];exact ie aa);have g3:0<=(i:Int)/\(i:Int)<((iT m (n+m) fun i=>i).length:Nat):=(by unfold iT;rw[c2];omega);have g4:(iT m (n+m) fun i=>i)[(0+((i:Int)).toNat)]? = some (some (i,n+m+1)):=(by rw[dw];exact ie aa);unfold DB;by_cases JZ:n<=t.B i
    ·by_cases nb:0<t.T i (n+m)
     ·right;exact⟨_,fb (cE g1 (az g2 (lT (by rw[h.gQ];omega) (cE g3 (az g4 (az (x:=(i,n+m+1)) rfl (az (gZ.row i aa) (c8 (az (x:=cm (t.T i (n+m)*w)) (by rw[dw];exact ie (by omega)) (az bS (lT (by rw[EW hw];exact uK.2 nb) rfl))))))))))),.inl ⟨rfl,i,aa,JZ,nb⟩⟩
     left;refine⟨(),fb (cE g1 (az g2 (lT (by rw[h.gQ];omega) (cE g3 (az g4 (az (x:=(i,n+m+1)) rfl (az (gZ.row i aa) (c8 (az (x:=cm (t.T i (n+m)*w)) (by rw[dw];exact ie (by omega)) (az bS (la (by rw[EW hw];exact fun c=>nb (uK.1 c)) (by rw[fW])))))))))))),fun k a4=> ?_⟩;by_cases e:k=i
     ·rw[e];exact fun _=>nb
     exact dh k (by omega)
    left;refine⟨(),fb (cE g1 (az g2 (la (by rw[h.gQ];omega) (by rw[fW])))),fun k a4=> ?_⟩;by_cases e:k=i
    ·rw[e];exact fun c=>(JZ c).elim
    exact dh k (by omega))
  (fun _ dh=>⟨_,by unfold DB;exact fp rfl,.inr ⟨rfl,dh⟩⟩) () (fun k a4=>by omega)
theorem ag2 {p:kk}{m n:Nat}{a:Nat->Nat->Int}{b:Nat->Int}(h:nA p m n a b)(F:Nat->Bool)(fu:Bool)(ev:ar)(x0:Int)(q2:arL)(bB:arK)(cu:ar):
 Oh ((n+m:Nat):Int) p.gC p.fi p.bR p.bP p.h3 fu ev x0 q2 bB cu 0 (aC (n+m) F)=some (aC (n+m) fun j=>decide (j<n)):=by
 have hm:=h.hm;have a2:=h.a2;unfold Oh
 obtain⟨s,e,-⟩:=ic (f:=fun w:Int×arO=>DC ((n+m:Nat):Int) p.gC p.fi p.bR p.bP p.h3 fu ev x0 q2 bB cu w.1 w.2)
  (fun (k:Nat) (_:Unit)=>((k:Int),aC (n+m) fun j=>if j<k then decide (j<n) else F j)) (n+m) (fun _ _=>True) (fun _=>aC (n+m) fun j=>decide (j<n))
  (fun k a4 _ _=>by
    refine⟨(),?_,trivial⟩;have J0:decide ((k:Int)<p.fi)=decide (k<n):=(by rw[h.gQ];simp);unfold DC;simp only;rw[J0,fW];refine fb (c8 (c8 ?_));rw[dw,dG,ld];congr 3;refine eW fun j _=> ?_;by_cases c:j=k
    ·subst c;rw[dz rfl,cL]
    rw[dB c];by_cases cw:j<k
    ·rw[dz cw,cL]
    rw[dB cw,eR])
  (fun _ _=>by unfold DC;refine fp ?_;simp only;congr 2;exact eW fun j ap=>by rw[dz ap]) () trivial
 have mn:(aC (n+m) fun j=>if j<0 then decide (j<n) else F j)=aC (n+m) F:=eW fun j _=>by rw[eR]
 rw[mn] at e;exact e
theorem abk {m n:Nat}{a:Nat->Nat->Int}{b:Nat->Int}:jz m (eb m n a b) (kL m n a b)=1:=by unfold jz;rw[Zm,dz (by grind)]
theorem akc {p:kk}{m n:Nat}{a:Nat->Nat->Int}{b:Nat->Int}(h:nA p m n a b):
 ∃r,Hh p.gC p.fi p.bR p.bP p.h3=some r/\((sy m n a b/\ ∃t aF g fr,r = .inl ((cm (jz m (eb m n a b) t)).cQ,(cm (jz m (eb m n a b) t)).bZ,((n+m:Nat):Int),iT aF (n+m) g,db aF (je g t),aC (n+m) (fun j=>decide (j<n)),fr) /\
  oZ m n (n+m) (eb m n a b) t aF g/\(∀i,i<aF->t.B (g i)<n)/\nJ aF (n+m) m g (jz m (eb m n a b) t) (je g t) fr)\/(¬sy m n a b/\r = .inr ())):=by
 have hm:=h.hm;have a2:=h.a2;have hF:=Hz h;have fY:J (p.fi+p.gC)=((n+m:Nat):Int):=by rw[h.gQ,h.rows,<- Int.natCast_add,c7]
 have aoo:nJ m (n+m) m (fun i=>i) (jz m (eb m n a b) (kL m n a b)) (kL m n a b) (aC m (fun i=>aC (n+m+1) fun j=>cm (eb m n a b i j))):=⟨c2 ..,fun i aa=>by rw[ho aa,abk];congr 1;exact eW fun j _=>by show cm (eb m n a b i j)=cm (eb m n a b i j*1);congr 1;grind⟩
 obtain⟨q,b5,t,fr,nN,e,⟨dh,rfl⟩,gZ,fl⟩:=WB (ft:=m) (m:=m) (N:=n+m) (M:=m) (A:=eb m n a b) hm (by omega) (h:=fun i=>i) (fun i _ k _ e=>e) (uv n) (fun j _=>by unfold uv;split<;>omega) (fun j=>decide (j<n))
  (fun w t=>nu m (n+m) (eb m n a b) t/\w=jz m (eb m n a b) t) (fun w t dh=>⟨dh.1.ok,dh.1.mI,dh.2▸dh.1.uY hF⟩)
  (fun w t r s dh b=>by obtain⟨h1,rfl⟩:=dh;have ai:t.T r s≠0:=(by have:=b.pos;grind);exact⟨h1.Bx hF b.ak b.bS ai,h1.i3 b,P7 h1.ok h1.us b.ak b.bS ai⟩)
  (w:=jz m (eb m n a b) (kL m n a b)) (t:=kL m n a b) ⟨⟨YG,Xs,X1⟩,rfl⟩ aoo
 rw[abk] at e
 have QD : ∀j,j<n->t.cF m (hk m n) j<=0:=by
  rcases fl with ⟨-,fl,-⟩|⟨-,s,bS,-,d6,iD⟩
  ·intro j ap;have:=fl j (by omega) (by simpa using ap);rw[YU dh.ok.kA (by omega)] at this;grind
  rw[YU dh.ok.kA bS] at d6;obtain⟨i,aa,ai⟩:=Wa dh.ok bS d6;exact(iD i aa ai).elim
 have e1:rA 1=some (cm 1):=by have:=xo (n:=1) (by rw[m2];omega);rw[show ((1:Int):Rat)=1 from rfl] at this;exact this
 obtain⟨r,r1,r2⟩:=ag1 h (dh.uY hF) gZ (cm (jz m (eb m n a b) t)).cQ (cm (jz m (eb m n a b) t)).bZ ((n+m:Nat):Int) (aC (n+m) nN);unfold Hh;rw[fY];rcases r2 with ⟨rfl,i,aa,gx,iz⟩|⟨rfl,iD⟩
 ·have IQ : ¬sy m n a b:=fun bS=>by
   have:=OO dh.mI (WY dh.ok dh.mI QD bS) dh.ok.kA i aa gx;grind
  refine⟨_,az e1 (c8 (az (Wi h _ _ _) (c8 (az (x:=(aC (n+m) (uv n),aC (n+m) fun j=>decide (j<n))) (by rw[dw,qT,qT];exact WC h _ _ _ _ _ _) (az e ?_))))),.inr ⟨IQ,rfl⟩⟩;refine az (x:= .inr ()) ?_ rfl;simp only;rw[show ((db m t).length:Nat)=m from c2 ..];exact r1
 have cK : ∀i,i<m->n<=t.B i->t.T i (n+m)=0:=fun i aa gx=>by have h1:=iD i aa gx;have h2:=dh.mI i aa;grind
 have bS:sy m n a b:=Wu dh.ok dh.mI cK;obtain⟨cW,aF,g,l2,lo,lQ,zM,mv⟩:=ai3 (n:=n) hF (by omega) (by omega) (aC (n+m) fun j=>decide (j<n)) dh cK gZ;refine⟨_,az e1 (c8 (az (Wi h _ _ _) (c8 (az (x:=(aC (n+m) (uv n),aC (n+m) fun j=>decide (j<n))) (by rw[dw,qT,qT];exact WC h _ _ _ _ _ _) (az e ?_))))),.inl ⟨bS,cW,aF,g,l2,rfl,lQ,zM,mv⟩⟩;refine az (x:= .inl ()) ?_ ?_
 ·simp only;rw[show ((db m t).length:Nat)=m from c2 ..];exact r1
 simp only;rw[show ((aC (n+m) nN).length:Nat)=n+m from c2 ..];refine az (ag2 h nN _ _ _ _ _ _) ?_;rw[h.gQ];exact az lo rfl
structure sN (m:Nat) (u v:b8):Prop where
 T : ∀i,i<m-> ∀j,u.T i j=v.T i j
 B : ∀i,i<m->u.B i=v.B i
theorem sN.uY {m N:Nat}{w:Rat}{u v:b8}(s:sN m u v)(h:rQ m N w v):rQ m N w u :=
 ⟨h.pos,h.hw,fun i aa j ap=>by rw[s.T i aa];exact h.iz i aa j ap,fun i aa=>by rw[s.B i aa];exact h.gx i aa⟩
theorem sN.cA {m:Nat}{u v:b8}(s:sN m u v){r:Nat}(ak:r<m)(k:Nat):sN m (u.cA r k) (v.cA r k) where
 T:=fun i aa j=>by simp only[b8.cA,s.T i aa,s.T r ak]
 B:=fun i aa=>by simp only[b8.cA,s.B i aa]
theorem sN.Bx {m N:Nat}{w:Rat}{u v:b8}(s:sN m u v){r k:Nat}(h:xU m N w v r k):xU m N w u r k :=
 ⟨h.ak,h.a4,by rw[s.T r h.ak];exact h.ai,fun i aa j ap=>by rw[(s.cA h.ak k).T i aa,s.T r h.ak];exact h.FW i aa j ap⟩
theorem sN.trans {m:Nat}{u v t:b8}(a:sN m u v)(b:sN m v t):sN m u t:=⟨fun i aa j=>(a.T i aa j).trans (b.T i aa j),fun i aa=>(a.B i aa).trans (b.B i aa)⟩
theorem akN {aF:Nat}{g:Nat->Nat}(inj:∀i,i<aF-> ∀k,k<aF->g i=g k->i=k)(t:b8){r:Nat}(ak:r<aF)(k:Nat):sN aF ((je g t).cA r k) (je g (t.cA (g r) k)) :=
 ⟨fun i aa j=>(HG (t:=t) (k:=k) (inj i aa r ak)).1 j,fun i aa=>(HG (t:=t) (k:=k) (inj i aa r ak)).2⟩
theorem Zx {m n:Nat}{a:Nat->Nat->Int}{b:Nat->Int}{x:Nat->Rat}{c:Nat}:cH n (fun j=>eb m n a b c j*x j)=((mu (b c):Int):Rat)*cH n (fun j=>(a c j:Rat)*x j):=by rw[<- kQ];exact gT fun j ap=>by rw[PX ap];grind
theorem oZ.Zy {m n:Nat}{a:Nat->Nat->Int}{b:Nat->Int}{t:b8}{aF:Nat}{g:Nat->Nat}(h:oZ m n (n+m) (eb m n a b) t aF g)(gx:∀i,i<aF->t.B (g i)<n):LT m n a b aF (n+m) (je g t) where
 eqv:=fun x=>by
  have key:(∀i,i<m->cH n (fun j=>(a i j:Rat)*x j)=(b i:Rat))↔ ∀i,i<m->cH n (fun j=>eb m n a b i j*x j)=eb m n a b i (n+m):=by
   constructor
   ·intro U i aa;rw[Zx,LN,U i aa]
   intro U i aa;have:=U i aa;rw[Zx,LN] at this;have h0:=Zl (b i);have e:((mu (b i):Int):Rat)*(cH n (fun j=>(a i j:Rat)*x j)-(b i:Rat))=0:=(by grind);rcases Rat.mul_eq_zero.1 e with e|e
   ·exact(h0 e).elim
   grind
  rw[key];constructor
  ·intro U i aa;obtain⟨W,hW⟩:=h.inv.ok.row;show cH n (fun j=>t.T (g i) j*x j)=t.T (g i) (n+m);rw[hW (g i) (h.lt i aa) (n+m) (dE _),gT (g:=fun j=>cH m (fun c=>W (g i) c*(eb m n a b c j*x j))) (fun j ap=>by rw[hW (g i) (h.lt i aa) j (by omega),<- xm];exact gT fun c _=>by grind),sV];exact gT fun c a1=>by rw[kQ,U c a1]
  intro U c a1
  have row : ∀i,i<m->cH n (fun j=>t.T i j*x j)=t.T i (n+m):=fun i aa=>by
   by_cases bN : ∃q,q<aF/\g q=i
   ·obtain⟨q,a0,rfl⟩:=bN;exact U q a0
   obtain⟨d1,d2⟩:=h.dead i aa fun q a0 e=>bN ⟨q,a0,e⟩;rw[h.z i aa d1];exact pC fun j ap=>by rw[d2 j ap];grind
  rw[h.inv.ok.u7 c a1 (n+m) (dE _),gT (g:=fun j=>cH m (fun i=>eb m n a b c (t.B i)*(t.T i j*x j))) (fun j ap=>by rw[h.inv.ok.u7 c a1 j (by omega),<- xm];exact gT fun i _=>by grind),sV];exact gT fun i aa=>by rw[kQ,row i aa]
 unit:=fun i aa k a4=>by
  show t.T (g i) (t.B (g k))=_;rw[h.inv.ok.unit _ (h.lt i aa) _ (h.lt k a4)];by_cases c:i=k
  ·rw[dz c,dz (by rw[c])]
  rw[dB c,dB fun e=>c (h.inj i aa k a4 e)]
 kA:=gx
 mI:=fun i aa=>h.inv.mI _ (h.lt i aa)
 RQ:=by omega
theorem oZ.step {m n:Nat}{a:Nat->Nat->Int}{b:Nat->Int}{t:b8}{aF:Nat}{g:Nat->Nat}{K:Nat}{obj:Nat->Nat->Rat}{bN:Nat->Prop}(h:oZ m n (n+m) (eb m n a b) t aF g)(gx:∀i,i<aF->t.B (g i)<n){u:b8}(bS:sN aF u (je g t)){r s:Nat}(du:qy aF (n+m) K obj bN u r s)(BJ:s<n):
 oZ m n (n+m) (eb m n a b) (t.cA (g r) s) aF g/\(∀i,i<aF->(t.cA (g r) s).B (g i)<n)/\sN aF (u.cA r s) (je g (t.cA (g r) s)):=by
 have ak:=du.ak;have ai:0<t.T (g r) s:=by have:=du.pos;rw[bS.T r ak] at this;exact this
 have BT:t.T (g r) s≠0:=by grind
 have aak:=(bS.cA ak s).trans (akN h.inj t ak s);have Ch : ∀d,d<m->(∀i,i<aF->g i≠d)-> ∀j,(t.cA (g r) s).T d j=t.T d j/\(t.cA (g r) s).B d=t.B d:=fun d bI iD j=>by obtain⟨d1,d2⟩:=h.dead d bI iD;simp only[b8.cA];rw[dB fun e=>iD r ak e.symm,dB fun e=>iD r ak e.symm,d2 s BJ];exact⟨by grind,rfl⟩
 have p3 : ∀i,i<aF->(t.cA (g r) s).B (g i)<n:=fun i aa=>by
  simp only[b8.cA];split
  ·exact BJ
  exact gx i aa
 have aop:(u.cA r s).nW aF (n+m):=du.IF fun i aa=>by rw[bS.T i aa];exact h.inv.mI _ (h.lt i aa)
 refine⟨⟨⟨h.inv.ok.cA (h.lt r ak) (by omega) BT,fun i aa=> ?_,?_⟩,fun i aa a2=> ?_,h.le,h.lt,h.inj,fun d bI iD=> ?_⟩,p3,aak⟩
 ·by_cases bN : ∃q,q<aF/\g q=i
  ·obtain⟨q,a0,rfl⟩:=bN;have:=aop q a0;rw[aak.T q a0] at this;exact this
  rw[(Ch i aa (fun q a0 e=>bN ⟨q,a0,e⟩) _).1];exact h.inv.mI i aa
 ·rw[h.inv.ok.Bg (h.lt r ak) (by omega)];have:=h.inv.us;grind
 ·by_cases bN : ∃q,q<aF/\g q=i
  ·obtain⟨q,a0,rfl⟩:=bN;have:=p3 q a0;omega
  have iD : ∀q,q<aF->g q≠i:=fun q a0 e=>bN ⟨q,a0,e⟩;obtain⟨e1,e2⟩:=Ch i aa iD (n+m);rw[e1];rw[e2] at a2;exact h.z i aa a2
 obtain⟨d1,d2⟩:=h.dead d bI iD;refine⟨by rw[(Ch d bI iD 0).2];exact d1,fun j ap=>by rw[(Ch d bI iD j).1];exact d2 j ap⟩
structure sO (m n:Nat) (a:Nat->Nat->Int) (b:Nat->Int) (aF:Nat) (g:Nat->Nat) (iA:Nat->Nat->Rat) (ec:Nat->Bool) (w:Rat) (u:b8):Prop where
 bN : ∃t,oZ m n (n+m) (eb m n a b) t aF g/\(∀i,i<aF->t.B (g i)<n)/\sN aF u (je g t)/\w=jz m (eb m n a b) t
 lt:LT m n a b aF (n+m) u
 ok:hZ aF aF (n+m) iA u
 RU : ∀i,i<aF->ec (u.B i)=true
theorem sO.uY {m n:Nat}{a:Nat->Nat->Int}{b:Nat->Int}{aF:Nat}{g:Nat->Nat}{iA:Nat->Nat->Rat}{ec:Nat->Bool}{w:Rat}{u:b8}(hF:Small m (n+m) (eb m n a b))(h:sO m n a b aF g iA ec w u):rQ aF (n+m) w u:=by obtain⟨t,h1,h2,R,rfl⟩:=h.bN;exact R.uY (h1.uY hF)
theorem sO.i3 {m n:Nat}{a:Nat->Nat->Int}{b:Nat->Int}{aF:Nat}{g:Nat->Nat}{iA:Nat->Nat->Rat}{ec nN:Nat->Bool}{w:Rat}{u:b8}{obj:Nat->Nat->Rat}{K:Nat}(hF:Small m (n+m) (eb m n a b))(h:sO m n a b aF g iA nN w u)(ti:∀j,j<n+m->ec j=true->j<n)(aoq:∀j,ec j=true->nN j=true){r s:Nat}(du:qy aF (n+m) K obj (fun j=>ec j=true) u r s):
 xU aF (n+m) w u r s/\sO m n a b aF g iA nN (sC w u r s) (u.cA r s):=by
 obtain⟨t,h1,h2,R,aj⟩:=h.bN;have BJ:=ti s du.bS du.Je;obtain⟨g1,g2,g3⟩:=h1.step h2 R du BJ;have ai:=du.pos;have abl:t.T (g r) s≠0:=by rw[R.T r du.ak] at ai;show t.T (g r) s≠0;have:0<t.T (g r) s:=ai;grind
 refine⟨aj▸R.Bx (h1.Bx hF du.ak (by omega) abl),⟨t.cA (g r) s,g1,g2,g3,?_⟩,h.lt.cA du.ak BJ (by grind) (du.IF h.lt.mI),du.ok h.ok,fun i aa=> ?_⟩
 ·rw[<- P7 h1.inv.ok h1.inv.us (h1.lt r du.ak) (show s<n+m by omega) abl,aj];unfold sC;rw[R.T r du.ak];rfl
 simp only[b8.cA];split
 ·exact aoq s du.Je
 exact h.RU i aa
theorem Yf {m n:Nat}{a:Nat->Nat->Int}{b:Nat->Int}{aF:Nat}{g:Nat->Nat}(hm:m<=20)(a2:n<=40)(hF:Small m (n+m) (eb m n a b)){iA:Nat->Nat->Rat}{ec:Nat->Bool}{w:Rat}{u:b8}(h:sO m n a b aF g iA ec w u)(ti:∀j,j<n+m->ec j=true->j<n)(inj:∀i,i<aF-> ∀k,k<aF->g i=g k->i=k)(mE:aF<=m)
 (o:Nat->Int) (an : ∀j,-100<=o j/\o j<=100) {c:Nat->Rat} {l:Nat} {V:Nat->Rat} (aor : ∀j,((o j:Int):Rat)=iO c l j) (s:sF m n a b c l ec V) {fr:arK} (gZ:nJ aF (n+m) m g w u fr) :
 ∃ok b5 oc l2 nN,w8 (cm w).cQ (cm w).bZ ((n+m:Nat):Int) (iT aF (n+m) g) fr (db aF u) (aC (n+m) ec) (aC (n+m) o)=some (ok,(cm b5).cQ,(cm b5).bZ,l2,db aF oc,aC (n+m) nN)/\nJ aF (n+m) m g b5 oc l2 /\
  ((ok=true/\sO m n a b aF g iA nN b5 oc/\(∀j,j<n+m->nN j=true->j<n)/\ ∃JO,sF m n a b c (l+1) nN JO)\/(ok=false/\LT m n a b aF (n+m) oc/\ ∃q,q<n/\0<oc.cF aF (iO c l) q/\ ∀i,i<aF-> ¬0<oc.T i q)):=by
 have aos:(fun j=>((o j:Int):Rat))=iO c l:=funext aor
 obtain⟨ok,b5,oc,l2,nN,e,dh,JI,fl⟩:=WB (ft:=aF) (m:=aF) (N:=n+m) (M:=m) (A:=iA) (h:=g) (by omega) (by omega) inj o (fun j _=>an j) ec
  (fun w u=>sO m n a b aF g iA ec w u) (fun w u eY=>⟨eY.ok,eY.lt.mI,eY.uY hF⟩)
  (fun w u r q eY du=>eY.i3 hF ti (fun j ap=>ap) du) h gZ
 rw[aos] at fl;refine⟨ok,b5,oc,l2,nN,e,JI,?_⟩;rcases fl with ⟨h1,h2,R⟩|⟨h1,q,h2,cp,R,aj⟩
 ·left;have QE : ∀j,nN j=true->ec j=true:=fun j ap=>(by rw[R,dO] at ap;exact ap.1);refine⟨h1,⟨dh.bN,dh.lt,dh.ok,fun i aa=> ?_⟩,fun j ap wO=>ti j ap (QE j wO),sF.next dh.lt s (fun j ap cp=>h2 j (by omega) cp) (fun j ap=>by rw[R])⟩;rw[R];simp only;rw[dh.RU i aa,dh.lt.Ax _ aa,decide_eq_false (by grind)];rfl
 right;exact⟨h1,dh.lt,q,ti q h2 cp,R,aj⟩
def hi (x:Rat):arN:=some (o8 (fg x))
theorem alB {n d:Int}{x:Rat}(bI:0<d)(e:(d:Rat)*x=n):(n / (Int.gcd n d:Int),d / (Int.gcd n d:Int))=fg x:=by
 have tV:(d:Rat)≠0:=fun c=>by have:d=0:=Rat.intCast_inj.1 (by rw[c];rfl);omega
 have U:x=Rat.divInt n d:=by rw[Rat.divInt_eq_div,<- e];grind
 have e1:(Rat.divInt n d).num=n / (Int.gcd n d:Int):=by rw[Rat.num_divInt,Int.sign_eq_one_of_pos bI,Int.one_mul,Int.gcd_comm]
 have e2:((Rat.divInt n d).den:Int)=d / (Int.gcd n d:Int):=by rw[Rat.den_divInt,eR,Int.gcd_comm];rw[Int.natCast_ediv,Int.natAbs_of_nonneg (by omega)]
 rw[U];unfold fg;rw[e1,e2]
theorem Pv {n d:Int}{x:Rat}(bI:0<d)(e:(d:Rat)*x=n)(a2:(n.natAbs:Int)<B 50)(BH:d<B 50):vt (hM n) (L d)=some (hi x):=by have lo:=(jW (k:=50) (by omega)).2 a2;have lQ:=(jW (k:=50) (by omega)).2 BH;rw[aiN bI (by omega) (by omega),alB bI e];rfl
theorem PL {n:Int}(h:nV n):yJ n=some (hi (n:Rat)):=by rw[ajW h];unfold hi fg;rw[Rat.num_intCast,Rat.den_intCast];rfl
theorem Pw {a b:Int}(bH:0<=a)(aO:0<=b)(h1:a<B 24)(h2:b<B 24):a*b<B 48:=by
 have e:B 48=B 24*B 24:=by decide +kernel
 rw[e];exact Int.lt_of_le_of_lt (dL (Int.le_of_lt h2) bH) (Int.mul_lt_mul_of_pos_right h1 (by omega))
theorem akO {x y:Rat}(U:e5 x)(aY:e5 y):GF (hi x) (hi y)=some (hi (x*y)):=by
 have p:=U.ec;have q:=aY.ec;have h1:=p.rP;have h2:=p.rc;have R:=q.rP;have aj:=q.rc;have aq:=p.pos;have aM:=q.pos;have gx:=P5;have aag:=qZ 48;have jS:=Pw (by omega) (by omega) p.num q.num;have iV:=Pw (by omega) (by omega) p.den q.den;have tp:(((fg x).1*(fg y).1).natAbs:Int)<B 48:=by rw[Int.natAbs_mul];exact jS
 have bS:GF (some (o8 (fg x))) (some (o8 (fg y)))=((se (hM (fg x).1) (hM (fg y).1)).bind fun aQ=>(uC (L (fg x).2) (L (fg y).2)).bind fun bx=>(vt aQ bx).bind fun bz=>some bz):=rfl;unfold hi;rw[bS,Xz (by omega) (by omega),dx,Ld (iS _) (iS _) (by omega) (by omega),gP,gP,dx,Pv (x:=x*y) (Int.mul_pos aq aM) ?_ (by omega) (by omega)]
 ·rfl
 have:=wv x;have:=wv y;simp only[fg,arG];grind
theorem Zz {x y:Rat}(U:e5 x)(aY:e5 y):D8 (hi x) (hi y)=some (hi (x+y)):=by
 have p:=U.ec;have q:=aY.ec;have h1:=p.rP;have h2:=p.rc;have R:=q.rP;have aj:=q.rc;have aq:=p.pos;have aM:=q.pos;have gx:=P5;have aag:=qZ 48;obtain⟨a6,-,-⟩:=Lf p q;obtain⟨d1,-,-⟩:=Lf q p;have iV:=Pw (by omega) (by omega) p.den q.den;have bS:D8 (some (o8 (fg x))) (some (o8 (fg y)))=((yt (some (o8 (fg x))) (L (fg y).2)).bind fun aX=>(yt (some (o8 (fg y))) (L (fg x).2)).bind fun bx=>(yu aX bx).bind fun bz=>(uC (L (fg x).2) (L (fg y).2)).bind fun b2=>(vt bz b2).bind fun c3=>some c3):=rfl;unfold hi;rw[bS,XA (by omega) (by omega) (by omega),dx,XA (by omega) (by omega) (by omega),dx,X8 (by omega) (by omega),dx,Ld (iS _) (iS _) (by omega) (by omega),gP,gP,dx,Pv (x:=x+y) (Int.mul_pos aq aM) ?_ (by omega) (by omega)]
 ·rfl
 have:=wv x;have:=wv y;simp only[fg,arG,Rat.intCast_add];grind
theorem amf {x:Rat}(h:e5 x):EL (hi x)=some (hi x):=by have:=h.ec;unfold hi;rw[show o8 (fg x)=o8 ((fg x).1,(fg x).2) from rfl,alv (Int.le_of_lt this.pos),dz ⟨this.num,this.den⟩];rfl
def qC (n:Nat)(c:Nat->Int)(l j:Nat):Int:=match l with
 | 0=>if j<n then c j else 0
 | l+1=>if j=l then -1 else 0
def iX (n:Nat)(c:Nat->Int)(j:Nat):Rat:=((qC n c 0 j:Int):Rat)
theorem Yg (n:Nat)(c:Nat->Int)(l j:Nat):((qC n c l j:Int):Rat)=iO (iX n c) l j:=by
 cases l with
 | zero=>rfl
 | succ l=>simp only[qC,iO];split<;>rfl
theorem YV {n:Nat}{c:Nat->Int}(h:∀j,j<n-> -100<=c j/\c j<=100)(l j:Nat): -100<=qC n c l j/\qC n c l j<=100:=by
 cases l with
 | zero =>
  simp only[qC];split
  ·exact h j ‹_›
  omega
 | succ l=>simp only[qC];split<;>omega
def QF (m n:Nat)(a:Nat->Nat->Int)(b c:Nat->Int)(aF:Nat)(g:Nat->Nat)(iA:Nat->Nat->Rat)(l:Nat)(s:Bool×ar×ar×arK×ar×arO):Prop :=
 ∃w u fr ec V o,s=((cm w).cQ,(cm w).bZ,aC (n+m) o,fr,db aF u,aC (n+m) ec)/\sO m n a b aF g iA ec w u/\(∀j,j<n+m->ec j=true->j<n)/\nJ aF (n+m) m g w u fr/\sF m n a b (iX n c) l ec V
theorem ah9 {m n:Nat}{a:Nat->Nat->Int}{b c:Nat->Int}{aF:Nat}{g:Nat->Nat}{iA:Nat->Nat->Rat}(hm:m<=20)(a2:n<=40)(hF:Small m (n+m) (eb m n a b))(a1:∀j,j<n-> -100<=c j/\c j<=100)(x0:Int)(fu ev j9:ar)(k:Nat)(a4:k<n)(s:Bool×ar×ar×arK×ar×arO)(bS:QF m n a b c aF g iA (k+1) s):
 ∃cg,z3 (n:Int) x0 fu ev j9 ((n+m:Nat):Int) (iT aF (n+m) g) (k:Int) s.1 s.2.1 s.2.2.1 s.2.2.2.1 s.2.2.2.2.1 s.2.2.2.2.2=some (.inl (((k+1:Nat):Int),cg))/\QF m n a b c aF g iA (k+2) cg:=by
 obtain⟨w,u,fr,ec,V,o,rfl,eY,ti,gZ,zO⟩:=bS;obtain⟨t,bN,-⟩:=eY.bN;obtain⟨ok,b5,oc,l2,nN,e,JI,fl⟩:=Yf hm a2 hF eY ti bN.inj bN.le (qC n c (k+1)) (YV a1 (k+1)) (Yg n c (k+1)) zO gZ;rcases fl with ⟨rfl,Fy,QE,JO,aot⟩|⟨-,r9,q,a0,d6,iD⟩
 ·refine⟨((cm b5).cQ,(cm b5).bZ,aC (n+m) (qC n c (k+1)),l2,db aF oc,aC (n+m) nN),?_,b5,oc,l2,nN,JO,_,rfl,Fy,QE,JI,aot⟩;have Cg:(List.replicate (aC (n+m) o).length 0:ar).set (0+((k:Int)).toNat) (-1)=aC (n+m) (qC n c (k+1)):=(by rw[c2,qT,dw,dG,ld];exact eW fun j _=>rfl);unfold z3;simp only;rw[Cg];refine fb (c8 (cE (by rw[List.length_replicate,c2,dw];omega) (az e ?_)));rw[fW]
 obtain⟨i,aa,ai⟩:=r9.Xt d6;exact(iD i aa ai).elim
theorem akd {m n:Nat}{a:Nat->Nat->Int}{b c:Nat->Int}{aF:Nat}{g:Nat->Nat}{iA:Nat->Nat->Rat}(hm:m<=20)(a2:n<=40)(hF:Small m (n+m) (eb m n a b))(a1:∀j,j<n-> -100<=c j/\c j<=100)(x0:Int)(fu ev j9:ar){w:Rat}{u:b8}{fr:arK}{ec:Nat->Bool}{V:Nat->Rat}{o:Nat->Int}(eY:sO m n a b aF g iA ec w u)(ti:∀j,j<n+m->ec j=true->j<n)(gZ:nJ aF (n+m) m g w u fr)(zO:sF m n a b (iX n c) 1 ec V):
 ∃iW k9 lg w1,Oi (n:Int) x0 fu ev j9 ((n+m:Nat):Int) (iT aF (n+m) g) 0 (cm w).cQ (cm w).bZ (aC (n+m) o) fr (db aF u) (aC (n+m) ec)=some ((cm iW).cQ,(cm iW).bZ,lg,db aF k9,aC (n+m) w1)/\sO m n a b aF g iA w1 iW k9/\nJ aF (n+m) m g iW k9 lg/\ ∃V,sF m n a b (iX n c) (n+1) w1 V:=by
 unfold Oi
 obtain⟨r,e,ak⟩:=uH (f:=fun w:Int×Bool×ar×ar×arK×ar×arO=>z3 (n:Int) x0 fu ev j9 ((n+m:Nat):Int) (iT aF (n+m) g) w.1 w.2.1 w.2.2.1 w.2.2.2.1 w.2.2.2.2.1 w.2.2.2.2.2.1 w.2.2.2.2.2.2)
  (fun (k:Nat) (s:Bool×ar×ar×arK×ar×arO)=>((k:Int),s)) n (fun k s=>QF m n a b c aF g iA (k+1) s)
  (fun r=> ∃iW k9 lg w1,r=((cm iW).cQ,(cm iW).bZ,lg,db aF k9,aC (n+m) w1)/\sO m n a b aF g iA w1 iW k9/\nJ aF (n+m) m g iW k9 lg/\ ∃V,sF m n a b (iX n c) (n+1) w1 V)
  (fun k a4 s bS=> .inl (ah9 hm a2 hF a1 x0 fu ev j9 k a4 s bS))
  (fun s bS=>by obtain⟨w,u,fr,ec,V,o,rfl,eY,ti,gZ,zO⟩:=bS;exact⟨_,by unfold z3;exact fp rfl,w,u,fr,ec,rfl,eY,gZ,V,zO⟩)
  ((cm w).cQ,(cm w).bZ,aC (n+m) o,fr,db aF u,aC (n+m) ec) ⟨w,u,fr,ec,V,o,rfl,eY,ti,gZ,zO⟩
 obtain⟨iW,k9,lg,w1,rfl,h1,h2,R⟩:=ak;exact⟨iW,k9,lg,w1,e,h1,h2,R⟩
theorem alC:B 24<=B 50:=by decide +kernel
theorem alD:2<=fe:=by decide +kernel
theorem QG:40*(fe*100)<=21*100*(fe*fe):=by have:=Nat.mul_le_mul_left fe alD;omega
theorem ake {n:Nat}(x0 x1:Int)(fu ev j9:ar)(mn:Bool)(ur:ar)(zN:Int)(q1:arL)(q2:arK)(bB:ar)(cu:arO)(a2:n<=40):
 Oj (n:Int) x0 x1 fu ev j9 mn ur zN q1 q2 bB cu 0 (List.replicate n (none:arN))=some (aC n fun _=>hi 0):=by
 unfold Oj
 obtain⟨s,e,-⟩:=ic (f:=fun w:Int×arU=>DE (n:Int) x0 x1 fu ev j9 mn ur zN q1 q2 bB cu w.1 w.2)
  (fun (k:Nat) (_:Unit)=>((k:Int),aC n fun j=>if j<k then hi 0 else none)) n (fun _ _=>True) (fun _=>aC n fun _=>hi 0)
  (fun k a4 _ _=>by
    refine⟨(),?_,trivial⟩;unfold DE;refine fb (az (x:=hi 0) (PL (n:=0) (by rw[m2];omega)) (c8 (cE (by simp only;rw[c2,dw];omega) ?_)));simp only;rw[fW,dw,dG,ld];congr 3;refine eW fun j _=> ?_;by_cases a6:j=k
    ·subst a6;rw[dz rfl,cL]
    rw[dB a6];by_cases cw:j<k
    ·rw[dz cw,cL]
    rw[dB cw,eR])
  (fun _ _=>by unfold DE;refine fp ?_;simp only;congr 2;exact eW fun j ap=>by rw[dz ap]) () trivial
 have e0:(aC n fun j=>if j<0 then hi 0 else none)=List.replicate n none:=by rw[qT];exact eW fun j _=>by rw[eR]
 rw[<- e0];exact e
theorem Px {t:b8}{N i j:Nat}:t.ia (i+1) N j=t.ia i N j+if t.B i=j then t.T i N else 0:=rfl
theorem P8 {m n:Nat}{a:Nat->Nat->Int}{b:Nat->Int}{aF N:Nat}{u:b8}(h:LT m n a b aF N u){i k:Nat}(aa:i<aF)(a4:k<aF)(e:u.B i=u.B k):i=k:=by
 by_cases c:i=k
 ·exact c
 have h1:=h.unit i aa k a4;rw[<- e,h.unit i aa i aa,dz rfl,dB c] at h1;grind
theorem ai4 {m n aF N:Nat}{a:Nat->Nat->Int}{b:Nat->Int}{g:Nat->Nat}{w:Rat}{u:b8}(x0 x1:Int)(fu ev j9:ar)(mn:Bool)(cu:arO)(hm:aF<=20)(fY:N<=1000)(aZ:LT m n a b aF N u)(f:rQ aF N w u){M:Nat}{fr:arK}(gZ:nJ aF N M g w u fr)(a2:n<=40):
 Ok (aF:Int) x0 x1 fu ev j9 mn (cm w).bZ (N:Int) (db aF u) (iT aF N g) fr cu 0 (aC n fun _=>hi 0)=some (aC n fun j=>hi (u.ia aF N j)):=by
 have hw:=P6 f.hw;have aou:0<w.num:=by have:(0:Rat)<((w.num:Int):Rat):=(by rw[hw.1];exact f.pos);exact Rat.intCast_lt_intCast.1 (by rw[show ((0:Int):Rat)=0 from rfl];exact this)
 have amX:(cm w).bZ=L w.num:=by show L (w.num.natAbs:Int)=_;rw[Int.natAbs_of_nonneg (by omega)]
 have kh:=rJ zh;have k0:=rJ Fl;have aq1:=alC;rw[amX];unfold Ok
 obtain⟨s,e,-⟩:=ic (f:=fun v:Int×arU=>DF (aF:Int) x0 x1 fu ev j9 mn (L w.num) (N:Int) (db aF u) (iT aF N g) fr cu v.1 v.2)
  (fun (k:Nat) (_:Unit)=>((k:Int),aC n fun j=>hi (u.ia k N j))) aF (fun _ _=>True) (fun _=>aC n fun j=>hi (u.ia aF N j))
  (fun k a4 _ _=>by
    refine⟨(),?_,trivial⟩;have gx:=aZ.kA k a4;have iz:=P6 (f.iz k a4 N (dE _));have cK:u.ia k N (u.B k)=0:=b8.OD fun i aa e=>(by have:=P8 aZ (by omega) a4 e;omega);have Bu:vt (cm (u.T k N*w)) (L w.num)=some (hi (u.T k N)):=(by refine Pv aou ?_ (by omega) (by omega);rw[hw.1,iz.1];grind);unfold DF;simp only;refine fb (cE (by unfold db;rw[c2];omega) (az (x:=(u.B k:Int)) (by rw[dw];exact ie a4) (cE (by unfold iT;rw[c2];omega) (az (x:=some (g k,N+1)) (by rw[dw];exact ie a4) (az (x:=(g k,N+1)) rfl (az (gZ.row k a4) (c8 (az (x:=cm (u.T k N*w)) (by rw[dw];exact ie (by omega)) (az Bu (c8 (c8 ?_)))))))))));rw[fW,dw,dG,ld];congr 3;refine eW fun j _=> ?_;rw[Px];by_cases a6:j=u.B k
    ·subst a6;rw[dz rfl,dz rfl,cK];congr 1;grind
    rw[dB a6,dB (fun e=>a6 e.symm)];congr 1;grind)
  (fun _ _=>by unfold DF;exact fp rfl) () trivial
 exact e
theorem YW {m n:Nat}{a:Nat->Nat->Int}{b:Nat->Int}{aF N:Nat}{w:Rat}{u:b8}{K:Nat}(aZ:LT m n a b aF N u)(f:∀i,i<aF->ei K (u.T i N*w))(j:Nat):ei K (u.ia aF N j*w):=by
 by_cases c : ∃i,i<aF/\u.B i=j
 ·obtain⟨i,aa,rfl⟩:=c;have:u.ia aF N (u.B i)=u.T i N:=(by unfold b8.ia;rw[mx aa (f:=fun k=>if u.B k=u.B i then u.T k N else 0) (fun k a4 dX=>dB fun e=>dX (P8 aZ a4 aa e)),dz rfl]);rw[this];exact f i aa
 rw[b8.OD fun i aa e=>c ⟨i,aa,e⟩];exact⟨0,by rw[Rat.zero_mul];rfl,by simp⟩
theorem alE {m n:Nat}{a:Nat->Nat->Int}{b:Nat->Int}{aF N:Nat}{w:Rat}{u:b8}(aZ:LT m n a b aF N u)(f:rQ aF N w u)(j:Nat):ei fe (u.ia aF N j*w):=YW aZ (fun i aa=>f.iz i aa N (dE _)) j
theorem sO.aal {m n:Nat}{a:Nat->Nat->Int}{b:Nat->Int}{aF:Nat}{g:Nat->Nat}{w:Rat}{u:b8}{iA:Nat->Nat->Rat}{ec:Nat->Bool}(hF:Small m (n+m) (eb m n a b))(h:sO m n a b aF g iA ec w u):ei (ov 100 m) w/\ ∀i,i<aF->ei (ov 100 m) (u.T i (n+m)*w):=by
 obtain⟨t,bN,-,bS,rfl⟩:=h.bN;have vf:ei (ov 100 m) (1*t.D m (eb m n a b)):=by rw[Rat.one_mul];exact yU fun i aa c a1=>hF.sc c a1 _ (Nat.le_of_lt (bN.inv.ok.kA i aa))
 refine⟨by have:=L5 vf;rw[Rat.one_mul] at this;exact this,fun i aa=> ?_⟩;rw[bS.T i aa];refine L5 ?_;show ei (ov 100 m) (t.T (g i) (n+m)*_);rw[<- bN.inv.ok.zL (bN.lt i aa) (dE _)];refine yU fun k a4 c a1=> ?_;simp only[iq];split
 ·exact hF.sc c a1 _ (dE _)
 exact hF.sc c a1 _ (Nat.le_of_lt (bN.inv.ok.kA k a4))
theorem YX {n:Nat}{w:Rat}{x:Nat->Rat}{c:Nat->Int}(hw:ei (21*100*fe) w)(ai:0<w)(U:∀j,ei fe (x j*w))(a1:∀j,j<n-> -100<=c j/\c j<=100){k:Nat}(a4:k<=n)(a2:n<=40):e5 (cH k fun j=>x j*(c j:Rat)):=by have h1:ei (k*(fe*100)) (cH k fun j=>x j*w*(c j:Rat)):=ei.sum fun j ap=>(U j).mul ⟨c j,rfl,by have:=a1 j (by omega);omega⟩;have h2:k*(fe*100)<=40*(fe*100):=arn _ (by omega);refine s8 (K:=21*100*(fe*fe)) (hw.mono zh) (h1.mono (Nat.le_trans h2 QG)) (by grind) ?_ (rJ (dE _));rw[<- kQ];exact gT fun j _=>by grind
theorem ZV {w x:Rat}(hw:ei (21*100*fe) w)(ai:0<w)(U:ei fe (x*w)):e5 x :=
 s8 (K:=21*100*(fe*fe)) (hw.mono zh) (U.mono Fl) (by grind) (by grind) (rJ (dE _))
theorem alF {w x:Rat}{c:Int}(hw:ei (21*100*fe) w)(ai:0<w)(U:ei fe (x*w))(a1:-100<=c/\c<=100):e5 (x*(c:Rat)):=by have:=U.mul (show ei 100 (c:Rat) from ⟨c,rfl,by omega⟩);exact s8 (K:=21*100*(fe*fe)) (hw.mono zh) (this.mono (by have:=QG;omega)) (by grind) (by grind) (rJ (dE _))
theorem akP {n:Nat}{w:Rat}(x0 x1:Int)(fu ev j9:ar){x:Nat->Rat}{c:Nat->Int}(aY:j9=aC n c)(hw:ei (21*100*fe) w)(ai:0<w)(U:∀j,ei fe (x j*w))(a1:∀j,j<n-> -100<=c j/\c j<=100)(a2:n<=40):
 Ol (n:Int) x0 x1 fu ev j9 (aC n fun j=>hi (x j)) (hi 0) 0=some (hi (cH n fun j=>x j*(c j:Rat))):=by
 subst aY;unfold Ol
 obtain⟨s,e,-⟩:=ic (f:=fun v:arN×Int=>DG (n:Int) x0 x1 fu ev (aC n c) (aC n fun j=>hi (x j)) v.1 v.2)
  (fun (k:Nat) (_:Unit)=>(hi (cH k fun j=>x j*(c j:Rat)),(k:Int))) n (fun _ _=>True) (fun _=>hi (cH n fun j=>x j*(c j:Rat)))
  (fun k a4 _ _=>by refine⟨(),?_,trivial⟩;have aov:=a1 k a4;have aa:nV (c k):=(by rw[m2];omega);unfold DG;simp only;refine fb (c8 (az (x:=hi (x k)) (by rw[dw];exact ie a4) (c8 (az (x:=c k) (by rw[dw];exact ie a4) (az (PL aa) (az (akO (ZV hw ai (U k)) (YP aa)) (az (Zz (YX hw ai U a1 (Nat.le_of_lt a4) a2) (alF hw ai (U k) aov)) ?_)))))));rw[fW];rfl)
  (fun _ _=>by unfold DG;exact fp rfl) () trivial
 exact e
theorem alG {m n:Nat}{a:Nat->Nat->Int}{b:Nat->Int}{aF N:Nat}{u:b8}(h:LT m n a b aF N u)(a2:n<=N):hZ aF aF N u.T u where
 u7:=fun c a1 j _=>by rw[mx a1 (f:=fun i=>u.T c (u.B i)*u.T i j) (fun i aa dX=>by rw[h.unit c a1 i aa,dB (fun e=>dX e.symm)];grind),h.unit c a1 c a1,dz rfl];grind
 row:=⟨fun i c=>if i=c then 1 else 0,fun i aa j _=>by rw[mx aa (f:=fun c=>(if i=c then (1:Rat) else 0)*u.T c j) (fun c _ dX=>by rw[dB (Ne.symm dX)];grind),dz rfl];grind⟩
 unit:=h.unit
 kA:=fun i aa=>Nat.lt_of_lt_of_le (h.kA i aa) a2
theorem Yh {p:kk}{m n:Nat}{a:Nat->Nat->Int}{b:Nat->Int}(h:nA p m n a b){c:Nat->Int}(oS:p.h3=aC n c)(a1:∀j,j<n-> -100<=c j/\c j<=100):
 ∃r,yC p.gC p.fi p.bR p.bP p.h3=some r/\((¬sy m n a b/\r=(2,[],none))\/(sy m n a b/\ ¬Bounded m n a b (iX n c)/\r=(3,[],none)) \/
  (∃x w,wy m n a b (iX n c) x/\(0<w/\ei (ov 100 m) w/\ ∀j,ei (ov 100 m) (x j*w))/\(∀j,e5 (x j))/\e5 (val n (iX n c) x)/\r=(0,aC n (fun j=>hi (x j)),hi (val n (iX n c) x)))):=by
 have hm:=h.hm;have a2:=h.a2;have hF:=Hz h;obtain⟨r,e,ak⟩:=akc h;unfold yC;rcases ak with ⟨bS,t,aF,g,fr,rfl,bN,gx,gZ⟩|⟨bS,rfl⟩;rotate_left
 ·exact⟨_,az e rfl,.inl ⟨bS,rfl⟩⟩
 have aZ:=bN.Zy gx
 have eY:sO m n a b aF g (je g t).T (fun j=>decide (j<n)) (jz m (eb m n a b) t) (je g t) :=
  ⟨⟨t,bN,gx,⟨fun _ _ _=>rfl,fun _ _=>rfl⟩,rfl⟩,aZ,alG aZ (by omega),fun i aa=>decide_eq_true (gx i aa)⟩
 obtain⟨ok,iW,k9,lg,w1,e1,aow,fl⟩:=Yf hm a2 hF eY (fun j _ ap=>of_decide_eq_true ap) bN.inj bN.le (qC n c 0) (YV a1 0) (Yg n c 0) (sF.zero (c:=iX n c) (fun j ap=>decide_eq_true ap) (fun _=>0)) gZ
 have Cg:p.h3++(List.replicate (n+m) 0:ar).drop p.h3.length=aC (n+m) (qC n c 0):=by
  rw[oS,c2];apply arw;intro i;by_cases ci:i<n
  ·rw[ars (by rw[c2];exact ci),ho ci,tm];simp only[qC];rw[dz ci]
  rw[arx (by rw[c2];omega),c2,arz,show n+(i-n)=i by omega];by_cases RC:i<n+m
  ·rw[List.getElem?_replicate,dz RC,ho RC];simp only[qC];rw[dB ci]
  rw[List.getElem?_replicate,dB RC,List.getElem?_eq_none_iff.2 (by rw[c2];omega)]
 have abm:p.h3.length=n:=by rw[oS,c2]
 rcases fl with ⟨rfl,tg,amY,ari,JH⟩|⟨rfl,r9,q,a0,d6,iD⟩;rotate_left
 ·refine⟨_,az e ?_,.inr (.inl ⟨bS,r9.MF _ a0 d6 iD,rfl⟩)⟩;simp only;exact c8 (cE (by rw[abm,dw];omega) (az (by rw[dw,Cg];exact e1) (iQ rfl rfl)))
 obtain⟨nR,nP,cd,aq2,e2,wS,aox,arj,aoy⟩:=akd (o:=qC n c 0) hm a2 hF a1 p.gC p.bR p.bP p.h3 tg amY aow JH;have f2:=wS.uY hF;have QD:=aoy.m6 wS.lt wS.RU;have U:=alE wS.lt f2;have bh:cH n (fun j=>nP.ia aF (n+m) j*(c j:Rat))=val n (iX n c) (nP.ia aF (n+m)):=gT fun j ap=>by have:iX n c j=(c j:Rat):=(by unfold iX qC;simp only;rw[dz ap]);rw[this];exact Rat.mul_comm _ _
 refine⟨_,az e ?_,.inr (.inr ⟨nP.ia aF (n+m),nR,QD,⟨f2.pos,(wS.aal hF).1,fun j=>YW wS.lt (wS.aal hF).2 j⟩,fun j=>ZV f2.hw f2.pos (U j),?_,rfl⟩)⟩
 ·simp only
  refine c8 (cE (by rw[abm,dw];omega) (az (by rw[dw,Cg];exact e1) (gd rfl ?_)));rw[h.gQ,dw,dw,Cg];refine az e2 (c8 (az (ake _ _ _ _ _ _ _ _ _ _ _ _ a2) (az (x:=aC n fun j=>hi (nP.ia aF (n+m) j)) ?_ (az (x:=hi 0) (PL (n:=0) (by rw[m2];omega)) (az (x:=hi (val n (iX n c) (nP.ia aF (n+m)))) ?_ rfl)))))
  ·simp only;rw[show ((db aF nP).length:Nat)=aF from c2 ..];exact ai4 _ _ _ _ _ _ _ (by have:=bN.le;omega) (by omega) wS.lt f2 aox a2
  rw[c2,<- bh];exact akP _ _ _ _ _ oS f2.hw f2.pos U a1 a2
 rw[<- bh];exact YX f2.hw f2.pos U a1 (dE _) a2
def oQ (n N j:Nat):Nat:=if j=n then N else j
theorem Ba {n N j:Nat}(h:j<n):oQ n N j=j:=by unfold oQ;rw[eR]
theorem Ff {n N:Nat}:oQ n N n=N:=by unfold oQ;rw[dz rfl]
theorem E4 {n N j:Nat}(a2:n<=N)(h:j<=n):oQ n N j<=N:=by unfold oQ;split<;>omega
def re (n N:Nat)(g:Nat->Nat)(t:b8):b8:=⟨fun i j=>t.T (g i) (oQ n N j),fun i=>t.B (g i)⟩
structure rR (m n:Nat) (a:Nat->Nat->Int) (b:Nat->Int) (aF:Nat) (g:Nat->Nat) (iA:Nat->Nat->Rat) (u:b8):Prop where
 ok:hZ aF aF n iA u
 bN : ∃t,oZ m n (n+m) (eb m n a b) t aF g/\(∀i,i<aF->t.B (g i)<n)/\ ∀i,i<aF->(∀j,j<=n->u.T i j=t.T (g i) (oQ n (n+m) j))/\u.B i=t.B (g i)
theorem YY {m n:Nat}{a:Nat->Nat->Int}{b:Nat->Int}{aF:Nat}{g:Nat->Nat}{u t:b8}(h1:oZ m n (n+m) (eb m n a b) t aF g)(h2:∀i,i<aF->t.B (g i)<n)(R:∀i,i<aF->(∀j,j<=n->u.T i j=t.T (g i) (oQ n (n+m) j))/\u.B i=t.B (g i)):LT m n a b aF n u:=by
 have L:=h1.Zy h2;refine⟨fun x=> ?_,fun i aa k a4=> ?_,fun i aa=>by rw[(R i aa).2];exact h2 i aa,fun i aa=> ?_,dE _⟩
 ·rw[L.eqv x]
  constructor<;>intro U i aa
  ·have:=U i aa;rw[(R i aa).1 n (dE _),Ff,gT (g:=fun j=>(je g t).T i j*x j) fun j ap=>by rw[(R i aa).1 j (by omega),Ba ap];rfl];exact this
  have:=U i aa;rw[(R i aa).1 n (dE _),Ff,gT (g:=fun j=>(je g t).T i j*x j) fun j ap=>by rw[(R i aa).1 j (by omega),Ba ap];rfl] at this;exact this
 ·have aO:t.B (g k)<n:=h2 k a4;rw[(R k a4).2,(R i aa).1 _ (by omega),Ba aO];exact L.unit i aa k a4
 show 0<=u.T i n;rw[(R i aa).1 n (dE _),Ff];exact L.mI i aa
theorem rR.lt {m n:Nat}{a:Nat->Nat->Int}{b:Nat->Int}{aF:Nat}{g:Nat->Nat}{iA:Nat->Nat->Rat}{u:b8}(h:rR m n a b aF g iA u):LT m n a b aF n u:=by obtain⟨t,h1,h2,R⟩:=h.bN;exact YY h1 h2 R
theorem akf {m aF:Nat}{g:Nat->Nat}(lt:∀i,i<aF->g i<m)(inj:∀i,i<aF-> ∀k,k<aF->g i=g k->i=k){F:Nat->Rat}(cK:∀d,d<m->(∀i,i<aF->g i≠d)->F d=0):cH m F=cH aF (fun i=>F (g i)):=by
 have e : ∀i,i<m->F i=cH aF (fun q=>if g q=i then F (g q) else 0):=fun i aa=>by
  by_cases bN : ∃q,q<aF/\g q=i
  ·obtain⟨q,a0,rfl⟩:=bN;rw[mx a0 (f:=fun p=>if g p=g q then F (g p) else 0) fun p ai dX=>dB fun e=>dX (inj p ai q a0 e),dz rfl]
  rw[cK i aa fun q a0 e=>bN ⟨q,a0,e⟩];exact(pC fun q a0=>dB fun e=>bN ⟨q,a0,e⟩).symm
 rw[gT e,sV];exact gT fun q a0=>by rw[mx (lt q a0) (f:=fun i=>if g q=i then F (g q) else 0) fun i _ dX=>dB fun e=>dX e.symm,dz rfl]
theorem XG {m n:Nat}{a:Nat->Nat->Int}{b:Nat->Int}{aF:Nat}{g:Nat->Nat}{t u:b8}(h1:oZ m n (n+m) (eb m n a b) t aF g)(R:∀i,i<aF->(∀j,j<=n->u.T i j=t.T (g i) (oQ n (n+m) j))/\u.B i=t.B (g i)){o:Nat->Rat}(an:∀j,n<=j->o j=0){j:Nat}(ap:j<=n):u.cF aF o j=t.cF m o (oQ n (n+m) j):=by
 unfold b8.cF
 have e0:o (oQ n (n+m) j)=o j:=by
  unfold oQ;by_cases c:j=n
  ·rw[dz c,an _ (by omega),an _ (by omega)]
  rw[dB c]
 rw[e0,akf h1.lt h1.inj (F:=fun i=>o (t.B i)*t.T i (oQ n (n+m) j)) fun d bI iD=>by rw[an _ (h1.dead d bI iD).1];grind];congr 1;exact gT fun i aa=>by rw[(R i aa).1 j ap,(R i aa).2]
theorem ai5 {m n:Nat}{a:Nat->Nat->Int}{b:Nat->Int}{aF:Nat}{g:Nat->Nat}{iA:Nat->Nat->Rat}{u:b8}{K:Nat}{obj:Nat->Nat->Rat}{bN:Nat->Prop}(h:rR m n a b aF g iA u){r s:Nat}(du:qy aF n K obj bN u r s):rR m n a b aF g iA (u.cA r s):=by
 obtain⟨t,h1,h2,R⟩:=h.bN;have bS:=du.bS;have i5 : ∀i,i<aF-> ∀j,j<n->u.T i j=(je g t).T i j:=fun i aa j ap=>by rw[(R i aa).1 j (by omega),Ba ap];rfl
 have M9 : ∀i,i<aF->u.T i n=(je g t).T i (n+m):=fun i aa=>by rw[(R i aa).1 n (dE _),Ff];rfl
 have vg : ∀i,i<aF->u.B i=(je g t).B i:=fun i aa=>(R i aa).2;have abR : ∀j,j<n->(u.sP aF K obj j↔(je g t).sP aF K obj j):=fun j ap=>by have e : ∀l,u.cF aF (obj l) j=(je g t).cF aF (obj l) j:=fun l=>(by unfold b8.cF;congr 1;exact gT fun i aa=>by rw[i5 i aa j ap,vg i aa]);exact⟨fun x=>jD.congr x fun l _=>e l,fun x=>jD.congr x fun l _=>(e l).symm⟩
 have aoz:qy aF (n+m) K obj (fun j=>j<n/\bN j) (je g t) r s:=by
  refine⟨by omega,⟨bS,du.Je⟩,(abR s bS).1 du.gs,fun j ap bH d6=>du.least j ap bH.2 ((abR j bH.1).2 d6),du.ak,?_,fun i aa ai=> ?_,fun i aa ai e=> ?_⟩
  ·rw[<- i5 r du.ak s bS];exact du.pos
  ·rw[<- M9 r du.ak,<- M9 i aa,<- i5 i aa s bS,<- i5 r du.ak s bS];exact du.ratio i aa (by rw[i5 i aa s bS];exact ai)
  rw[<- M9 r du.ak,<- M9 i aa,<- i5 i aa s bS,<- i5 r du.ak s bS] at e;rw[<- vg r du.ak,<- vg i aa];exact du.tie i aa (by rw[i5 i aa s bS];exact ai) e
 obtain⟨g1,g2,g3⟩:=h1.step h2 ⟨fun _ _ _=>rfl,fun _ _=>rfl⟩ aoz bS;refine⟨du.ok h.ok,t.cA (g r) s,g1,g2,fun i aa=>⟨fun j ap=> ?_,?_⟩⟩
 ·rw[show (t.cA (g r) s).T (g i) (oQ n (n+m) j)=(je g (t.cA (g r) s)).T i (oQ n (n+m) j) from rfl,<- g3.T i aa];have zK : ∀q,q<aF->u.T q j=(je g t).T q (oQ n (n+m) j):=fun q a0=>(R q a0).1 j ap;simp only[b8.cA];rw[zK i aa,zK r du.ak,i5 r du.ak s bS,i5 i aa s bS]
 rw[show (t.cA (g r) s).B (g i)=(je g (t.cA (g r) s)).B i from rfl,<- g3.B i aa];simp only[b8.cA];rw[vg i aa]
theorem rR.fits {m n:Nat}{a:Nat->Nat->Int}{b:Nat->Int}{aF:Nat}{g:Nat->Nat}{iA:Nat->Nat->Rat}{u:b8}(hF:Small m (n+m) (eb m n a b))(h:rR m n a b aF g iA u):
 (∀i,i<aF-> ∀j,j<=n->e5 (u.T i j))/\(∀i,i<aF-> ∀j,j<=n->0<u.T i j->e5 (u.T i n / u.T i j)):=by
 obtain⟨t,h1,h2,R⟩:=h.bN;refine⟨fun i aa j ap=> ?_,fun i aa j ap ai=> ?_⟩
 ·rw[(R i aa).1 j ap];exact h1.inv.Ml hF (h1.lt i aa) (E4 (by omega) ap)
 rw[(R i aa).1 j ap] at ai ⊢;rw[(R i aa).1 n (dE _),Ff];exact h1.inv.aai hF (h1.lt i aa) (E4 (by omega) ap) ai
theorem rR.Bw {m n:Nat}{a:Nat->Nat->Int}{b:Nat->Int}{aF:Nat}{g:Nat->Nat}{iA:Nat->Nat->Rat}{u:b8}(hF:Small m (n+m) (eb m n a b))(h:rR m n a b aF g iA u){o:Nat->Rat}(an:∀j,n<=j->o j=0)(hw:∀j,ei 100 (o j)){j:Nat}(ap:j<=n):e5 (u.cF aF o j):=by obtain⟨t,h1,h2,R⟩:=h.bN;rw[XG h1 R an ap];exact h1.inv.Bw hF (fun j _=>hw j) (E4 (by omega) ap)
theorem rR.IK {m n:Nat}{a:Nat->Nat->Int}{b:Nat->Int}{aF:Nat}{g:Nat->Nat}{iA:Nat->Nat->Rat}{u:b8}(hF:Small m (n+m) (eb m n a b))(h:rR m n a b aF g iA u){o:Nat->Rat}(an:∀j,n<=j->o j=0)(hw:∀j,ei 100 (o j)){r k:Nat}(ak:r<aF)(a4:k<n)(ai:u.T r k≠0):Mj aF n u (u.cF aF o) r k:=by
 obtain⟨t,h1,h2,R⟩:=h.bN;have w5 : ∀i,i<aF->u.T i k=t.T (g i) k:=fun i aa=>by rw[(R i aa).1 k (by omega),Ba a4]
 have nX:t.T (g r) k≠0:=by rw[<- w5 r ak];exact ai
 have P:=h1.inv.IK hF (o:=o) (fun j _=>hw j) (h1.lt r ak) (show k<n+m by omega) nX (h1.inv.ok.cA (h1.lt r ak) (by omega) nX);have RV : ∀j,j<=n->u.cF aF o j=t.cF m o (oQ n (n+m) j):=fun j ap=>XG h1 R an ap;have abS:u.cF aF o k=t.cF m o k:=by rw[RV k (by omega),Ba a4]
 have pl : ∀j,j<=n->oQ n (n+m) j<=n+m:=fun j ap=>E4 (by omega) ap;refine⟨fun i aa j ap=> ?_,fun i aa j ap=> ?_,fun i aa dX j ap=> ?_,fun j ap=> ?_,fun j ap=> ?_,fun j ap=> ?_⟩
 ·rw[(R i aa).1 j ap];exact P.T _ (h1.lt i aa) _ (pl j ap)
 ·have e:(u.cA r k).T i j=(t.cA (g r) k).T (g i) (oQ n (n+m) j):=by
   simp only[b8.cA];by_cases c:i=r
   ·subst c;rw[dz rfl,dz rfl,(R i aa).1 j ap,w5 i aa]
   ·rw[dB c,dB fun e=>c (h1.inj i aa r ak e),(R i aa).1 j ap,(R r ak).1 j ap,w5 i aa,w5 r ak]
  rw[e];exact P.i5 _ (h1.lt i aa) _ (pl j ap)
 ·rw[w5 i aa,w5 r ak,(R r ak).1 j ap];exact P.M _ (h1.lt i aa) (fun e=>dX (h1.inj i aa r ak e)) _ (pl j ap)
 ·rw[RV j ap];exact P.a1 _ (pl j ap)
 ·rw[RV j ap,abS,w5 r ak,(R r ak).1 j ap];exact P.wN _ (pl j ap)
 rw[abS,w5 r ak,(R r ak).1 j ap];exact P.hm _ (pl j ap)
def jd (m n:Nat)(t:b8):List Nat:=(List.range m).filter fun i=>decide (t.B i<n)
def lH (m n:Nat)(t:b8)(i:Nat):Nat:=(jd m n t).getD i 0
theorem HH {m n:Nat}{t:b8}{i:Nat}(h:i<(jd m n t).length):(jd m n t)[i]? = some (lH m n t i):=by unfold lH;rw[dN,dy h];rfl
theorem Yi {m n:Nat}{t:b8}{i:Nat}(h:i<(jd m n t).length):lH m n t i<m/\t.B (lH m n t i)<n:=by have:=dH (HH h);unfold jd at this;rw[List.mem_filter,List.mem_range] at this;exact⟨this.1,of_decide_eq_true this.2⟩
theorem akg {m n:Nat}{t:b8}{i k:Nat}(aa:i<(jd m n t).length)(a4:k<(jd m n t).length)(e:lH m n t i=lH m n t k):i=k:=by have M7:(jd m n t).Nodup:=List.nodup_range.filter _;have h1:=HH aa;have h2:=HH a4;rw[e,<- h2] at h1;exact(List.getElem?_inj aa M7).1 h1
theorem akh {m n:Nat}{t:b8}{d:Nat}(bI:d<m)(gx:t.B d<n): ∃i,i<(jd m n t).length/\lH m n t i=d:=by
 have:d∈jd m n t:=by unfold jd;rw[List.mem_filter,List.mem_range];exact⟨bI,decide_eq_true gx⟩
 obtain⟨i,aa⟩:=arB this;have aZ:=gD aa;refine⟨i,aZ,?_⟩;rw[HH aZ] at aa;exact dJ aa
theorem aia {m n N:Nat}{A:Nat->Nat->Rat}{t:b8}(aa:nu m N A t)(cK:∀i,i<m->n<=t.B i->t.T i N=0)(bI:∀i,i<m->t.B i<n\/ ∀j,j<n->t.T i j=0):oZ m n N A t (jd m n t).length (lH m n t) where
 inv:=aa
 z:=cK
 le:=by unfold jd;exact Nat.le_trans (List.length_filter_le ..) (by rw[List.length_range];exact dE _)
 lt:=fun i h=>(Yi h).1
 inj:=fun i h k a4 e=>akg h a4 e
 dead:=fun d h iD=>by have : ¬t.B d<n:=fun c=>(by obtain⟨i,h1,h2⟩:=akh h c;exact iD i h1 h2);exact⟨by omega,(bI d h).resolve_left this⟩
theorem alH {α:Type}{T n:Nat}(f:Nat->α)(h:n<=T):(aC T f).take n=aC n f:=by
 apply arw;intro i;by_cases c:i<n
 ·rw[dS,dz c,tm,ho c]
 rw[dS,dB c,List.getElem?_eq_none_iff.2 (by rw[c2];omega)]
structure uZ (m n:Nat) (a:Nat->Nat->Int) (b:Nat->Int) (i:Nat) (t:b8):Prop where
 bN:oZ m n (n+m) (eb m n a b) t m fun q=>q
 J1 : ∀q,q<i->t.B q<n\/ ∀j,j<n->t.T q j=0
theorem uZ.cA {m n:Nat}{a:Nat->Nat->Int}{b:Nat->Int}{i:Nat}{t:b8}(h:uZ m n a b i t){k:Nat}(aa:i<m)(a4:k<n)(aO:n<=t.B i)(ai:t.T i k≠0):uZ m n a b i (t.cA i k) where
 bN:=h.bN.cA (by omega) aa a4 aO ai
 J1:=fun q a0=>by
  simp only[b8.cA];rw[eR];rcases h.J1 q a0 with d|d
  ·exact .inl d
  exact .inr fun j ap=>by rw[eR,d j ap,d k a4];grind
theorem ai6 {m n:Nat}{a:Nat->Nat->Int}{b:Nat->Int}(hF:Small m (n+m) (eb m n a b))(hm:m<=20)(a2:n<=40){i:Nat}(aa:i<m)(x0 x1:Int)(fu ev j9:ar)(fH:Int){t:b8}(h:uZ m n a b i t):
 ∃cW,ND (i:Int) fH ((n+m:Nat):Int) (jt m (n+m)) x0 (n:Int) fu ev j9 0 (db m t) (ij (n+m) (t.cF m (hk m n))) (hj m (n+m) t)=some (db m cW,ij (n+m) (cW.cF m (hk m n)),hj m (n+m) cW)/\uZ m n a b (i+1) cW:=by
 unfold ND
 obtain⟨r,e,cW,rfl,dc⟩:=uH (f:=fun w:Int×ar×arI×arM=>yo (i:Int) fH ((n+m:Nat):Int) (jt m (n+m)) x0 (n:Int) fu ev j9 w.1 w.2.1 w.2.2.1 w.2.2.2)
  (fun (j:Nat) (t:b8)=>((j:Int),db m t,ij (n+m) (t.cF m (hk m n)),hj m (n+m) t)) n (fun j t=>uZ m n a b i t/\(t.B i<n\/ ∀q,q<j->t.T i q=0))
  (fun r=> ∃cW,r=(db m cW,ij (n+m) (cW.cF m (hk m n)),hj m (n+m) cW)/\uZ m n a b (i+1) cW)
  (fun j ap t dh=>by
    obtain⟨gZ,bI⟩:=dh;have hlen:(db m t).length=m:=c2 ..;simp only;by_cases c:t.B i<n
    ·refine .inr ⟨_,?_,t,rfl,gZ.bN,fun q a0=> ?_⟩
     ·unfold yo;exact fb (cE (by rw[hlen];omega) (az (x:=(t.B i:Int)) (by rw[dw];exact ie aa) (fp rfl)))
     by_cases e:q=i
     ·rw[e];exact .inl c
     exact gZ.J1 q (by omega)
    have cK : ∀q,q<j->t.T i q=0:=bI.resolve_left c;have pre : ∀o,(rz (cl (t.T i j)) >>= fun ef=>if (ef != (0:Int))=true then Ag (i:Int) (j:Int) ((n+m:Nat):Int) (jt m (n+m)) (db m t) (ij (n+m) (t.cF m (hk m n))) (hj m (n+m) t) >>= fun gL=>some (.inl (J ((j:Int)+1),gL.1,gL.2.1,gL.2.2)) else some (.inl (J ((j:Int)+1),db m t,ij (n+m) (t.cF m (hk m n)),hj m (n+m) t)))=some o->yo (i:Int) fH ((n+m:Nat):Int) (jt m (n+m)) x0 (n:Int) fu ev j9 (j:Int) (db m t) (ij (n+m) (t.cF m (hk m n))) (hj m (n+m) t)=some o:=fun o an=>(by unfold yo;exact fb (cE (by rw[hlen];omega) (az (x:=(t.B i:Int)) (by rw[dw];exact ie aa) (fb (cE (by unfold jt;rw[c2];omega) (az (x:=some (i,n+m+1)) (by rw[dw];exact ie aa) (az (x:=(i,n+m+1)) rfl (az (x:=h8 (n+m) t i) (ho aa) (c8 (az (x:=cl (t.T i j)) (by rw[dw];exact ie (by omega)) an))))))))));have ke:e5 (t.T i j):=gZ.bN.inv.Ml hF aa (by omega);by_cases d:t.T i j=0
    ·refine .inl ⟨t,pre _ (az (rE ke) (iQ ?_ (by rw[fW]))),gZ,.inr fun q a0=> ?_⟩
     ·rw[qP.2 d];rfl
     by_cases e:q=j
     ·rw[e];exact d
     exact cK q (by omega)
    have P:=gZ.bN.inv.IK hF (o:=hk m n) (fun j _=>LB m n j) aa (show j<n+m by omega) d (gZ.bN.inv.ok.cA aa (by omega) d);have ao5:=Yc (N:=n+m) (by omega) (by omega) aa (show j<=n+m by omega) d P ((n+m:Nat):Int);refine .inl ⟨t.cA i j,pre _ (az (rE ke) (gd (x4 fun e=>d (qP.1 e)) (az ao5 ?_))),gZ.cA aa ap (by omega) d,.inl ?_⟩
    ·rw[fW];congr 3;refine Prod.ext rfl (Prod.ext ?_ rfl);exact eW fun q a0=>by rw[gZ.bN.inv.ok.Lb (hk m n) aa (by omega) d]
    simp only[b8.cA,if_true];exact ap)
  (fun t dh=>by
    obtain⟨gZ,bI⟩:=dh;refine⟨_,?_,t,rfl,gZ.bN,fun q a0=> ?_⟩
    ·simp only;unfold yo;exact fp rfl
    by_cases e:q=i
    ·rw[e];exact bI
    exact gZ.J1 q (by omega)) t ⟨h,.inr fun q a0=>by omega⟩
 exact⟨cW,e,dc⟩
theorem aib {m n:Nat}{a:Nat->Nat->Int}{b:Nat->Int}(hF:Small m (n+m) (eb m n a b))(hm:m<=20)(a2:n<=40)(x0:Int)(fu ev j9:ar){t:b8}(h:uZ m n a b 0 t):
 ∃cW,NE (m:Int) ((n+m:Nat):Int) (jt m (n+m)) x0 (n:Int) fu ev j9 0 (db m t) (ij (n+m) (t.cF m (hk m n))) (hj m (n+m) t)=some (db m cW,ij (n+m) (cW.cF m (hk m n)),hj m (n+m) cW)/\uZ m n a b m cW:=by
 unfold NE
 obtain⟨cW,e,dc⟩:=ic (f:=fun w:Int×ar×arI×arM=>CN (m:Int) ((n+m:Nat):Int) (jt m (n+m)) x0 (n:Int) fu ev j9 w.1 w.2.1 w.2.2.1 w.2.2.2)
  (fun (i:Nat) (t:b8)=>((i:Int),db m t,ij (n+m) (t.cF m (hk m n)),hj m (n+m) t)) m (fun i t=>uZ m n a b i t) (fun t=>(db m t,ij (n+m) (t.cF m (hk m n)),hj m (n+m) t))
  (fun i aa t gZ=>by obtain⟨cW,e,dc⟩:=ai6 hF hm a2 aa x0 x0 fu ev j9 (m:Int) gZ;refine⟨cW,?_,dc⟩;simp only;unfold CN;exact fb (az e (by rw[fW])))
  (fun t _=>by simp only;unfold CN;exact fp rfl) t h
 exact⟨cW,e,dc⟩
theorem aic {n:Nat}(a2:n<=40){c:Nat->Int}(a1:∀j,j<n-> -100<=c j/\c j<=100)(fH mn:Int)(q1:arL)(q2:ar)(bB:arI)(cu:arM)(fu ev:ar):
 NF fH q1 q2 bB cu mn (n:Int) fu ev (aC n c) 0 []=some (aC n fun j=>cl (c j:Rat)):=by
 unfold NF
 obtain⟨_,e,-⟩:=ic (f:=fun w:Int×arI=>CO fH q1 q2 bB cu mn (n:Int) fu ev (aC n c) w.1 w.2) (fun (j:Nat) (_:Unit)=>((j:Int),aC j fun j=>cl (c j:Rat))) n (fun _ _=>True) (fun _=>aC n fun j=>cl (c j:Rat))
  (fun j ap _ _=>by refine⟨(),?_,trivial⟩;have:=a1 j ap;simp only;unfold CO;refine fb (c8 (az (gt rfl (ho ap)) (az (tJ (m2.2 (by omega))) (cE (by simp only[dD,c2,List.length_singleton];omega) ?_))));rw[fW,lW])
  (fun _ _=>by simp only;unfold CO;exact fp rfl) () trivial
 exact e
theorem XH (n:Nat)(t:b8)(i:Nat):jd (i+1) n t=jd i n t++(if t.B i<n then [i] else []):=by
 unfold jd;rw[List.range_succ,List.filter_append];congr 1;by_cases c:t.B i<n
 ·rw[dz c];simp[c]
 rw[dB c];simp[c]
theorem YZ (n:Nat)(t:b8){i:Nat}(gx:t.B i<n): ∀m,i<m->(jd m n t)[(jd i n t).length]? = some i
 | 0,h=>by omega
 | m+1,h=>by
  rw[XH];by_cases c:i<m
  ·have:=YZ n t gx m c;rw[ars (gD this)];exact this
  obtain rfl:i=m:=(by omega);rw[dz gx,arx (dE _),Nat.sub_self];rfl
theorem alI (n:Nat)(t:b8){i m:Nat}(gx:t.B i<n)(h:i<m):lH m n t (jd i n t).length=i:=by have:=YZ n t gx m h;have aZ:=gD this;rw[HH aZ] at this;exact dJ this
theorem Y0 (n:Nat)(t:b8)(i:Nat):(jd i n t).length<=i:=by unfold jd;exact Nat.le_trans (List.length_filter_le ..) (by rw[List.length_range];exact dE _)
theorem ai7 {m n:Nat}(hm:m<=20)(a2:n<=40)(t:b8)(x0:Int)(fu ev j9:ar)(bB e3:arI):
 NG (m:Int) ((n+m:Nat):Int) (jt m (n+m)) (db m t) bB (hj m (n+m) t) x0 (n:Int) fu ev j9 e3 0 [] [] [] =
  some (jt (jd m n t).length n,hj (jd m n t).length n (re n (n+m) (lH m n t) t),db (jd m n t).length (re n (n+m) (lH m n t) t)):=by
 unfold NG
 obtain⟨_,e,-⟩:=ic (f:=fun w:Int×arL×arM×ar=>CP (m:Int) ((n+m:Nat):Int) (jt m (n+m)) (db m t) bB (hj m (n+m) t) x0 (n:Int) fu ev j9 e3 w.1 w.2.1 w.2.2.1 w.2.2.2)
  (fun (i:Nat) (_:Unit)=>((i:Int),jt (jd i n t).length n,hj (jd i n t).length n (re n (n+m) (lH m n t) t),db (jd i n t).length (re n (n+m) (lH m n t) t))) m (fun _ _=>True)
  (fun _=>(jt (jd m n t).length n,hj (jd m n t).length n (re n (n+m) (lH m n t) t),db (jd m n t).length (re n (n+m) (lH m n t) t)))
  (fun i aa _ _=>by
    refine⟨(),?_,trivial⟩;have hle:=Y0 n t i;have h1:(jt m (n+m)).length=m:=c2 ..;have h2:(db m t).length=m:=c2 ..;have bS:=XH n t i;simp only;unfold CP;refine fb (cE (by rw[h1];omega) (az (x:=some (i,n+m+1)) (by rw[dw];exact ie aa) (cE (by rw[h2];omega) (az (x:=(t.B i:Int)) (by rw[dw];exact ie aa) ?_))));by_cases c:t.B i<n;rotate_left
    ·refine fp ?_;rw[dB c,List.append_nil] at bS;rw[bS,fW]
    rw[dz c] at bS;have d6:=alI n t c aa
    have eP:([]++((h8 (n+m) t i).drop 0).take ((n:Int).toNat-0))++[cl (t.T i (n+m))]=h8 n (re n (n+m) (lH m n t) t) (jd i n t).length:=by
     rw[dw,List.drop_zero,Nat.sub_zero,List.nil_append];unfold h8;rw[alH _ (by omega),lW n];congr 1
     ·exact eW fun j ap=>by show _=cl (t.T (lH m n t (jd i n t).length) (oQ n (n+m) j));rw[d6,Ba ap]
     show _=[cl (t.T (lH m n t (jd i n t).length) (oQ n (n+m) n))];rw[d6,Ff]
    have yb:(h8 n (re n (n+m) (lH m n t) t) (jd i n t).length).length=n+1:=c2 ..;have QL:(hj (jd i n t).length n (re n (n+m) (lH m n t) t)).length=(jd i n t).length:=c2 ..;refine fb (az (x:=(i,n+m+1)) rfl (az (x:=h8 (n+m) t i) (ho aa) (c8 (cE (by simp only[dw];omega) (cE (by unfold h8;rw[c2,dw];omega) (cE (by rw[dw,List.nil_append,List.length_take,List.length_drop];omega) (c8 (az (x:=cl (t.T i (n+m))) (by rw[dw];exact ie (by omega)) ?_))))))));rw[eP,yb,QL];refine c8 (cE (by simp only[dD,List.length_singleton];unfold jt;rw[c2];omega) (cE (by simp only[dD,List.length_singleton];unfold db;rw[c2];omega) ?_));have r9:(jd (i+1) n t).length=(jd i n t).length+1:=(by rw[bS,dD];rfl);rw[r9,fW];unfold jt hj db;rw[lW (jd i n t).length fun q=>(some (q,n+1):bF),lW (jd i n t).length (h8 n (re n (n+m) (lH m n t) t)),lW (jd i n t).length fun q=>(((re n (n+m) (lH m n t) t).B q:Nat):Int)];have aO:(re n (n+m) (lH m n t) t).B (jd i n t).length=t.B i:=(by show t.B (lH m n t (jd i n t).length)=_;rw[d6]);rw[aO])
  (fun _ _=>by simp only;unfold CP;exact fp rfl) () trivial
 exact e
theorem aid {RW:Nat}{fr:arM}{row:arI}(h:fr[RW]? = some row)(k:Int)(cj len:Nat)(RX:arI):Gy k RW cj len RX fr=Ad k cj len RX row:=by
 have e : ∀t jw kE sa,(fun w:Int×arI=>Ge RW cj len t fr jw kE sa w.1 w.2)=fun w:Int×arI=>yn cj len t row jw kE sa w.1 w.2:=fun t jw kE sa=>by funext w;unfold Ge yn;rw[h];rfl
 unfold Gy Ad Tz NC;simp only[e]
theorem LC {n:Nat}{c:Nat->Int}{j:Nat}(h:n<=j):iX n c j=0:=by unfold iX qC;simp only;rw[eR];rfl
theorem ZW {n:Nat}{c:Nat->Int}{j:Nat}(h:j<n):iX n c j=(c j:Rat):=by unfold iX qC;simp only;rw[dz h]
theorem L6 {n:Nat}{c:Nat->Int}(a1:∀j,j<n-> -100<=c j/\c j<=100)(j:Nat):ei 100 (iX n c j):=by
 by_cases h:j<n
 ·rw[ZW h];have:=a1 j h;exact⟨c j,rfl,by omega⟩
 rw[LC (by omega)];exact⟨0,rfl,by omega⟩
theorem Py {m n:Nat}{a:Nat->Nat->Int}{b:Nat->Int}{aF:Nat}{g:Nat->Nat}{iA:Nat->Nat->Rat}{u:b8}(hF:Small m (n+m) (eb m n a b))(h:rR m n a b aF g iA u){o:Nat->Rat}(hw:∀j,ei 100 (o j)){i j:Nat}(aa:i<=aF)(ap:j<=n):e5 (o j-cH i (fun q=>o (u.B q)*u.T q j)):=by
 obtain⟨t,h1,h2,R⟩:=h.bN;have hm:=hF.hm;have mE:=h1.le;have abT:=h1.inv.B3 hF;have e:(o j-cH i (fun q=>o (u.B q)*u.T q j))*t.D m (eb m n a b)=o j*t.D m (eb m n a b)-cH i (fun q=>o (u.B q)*(u.T q j*t.D m (eb m n a b))):=by rw[gT (f:=fun q=>o (u.B q)*(u.T q j*t.D m (eb m n a b))) (g:=fun q=>(o (u.B q)*u.T q j)*t.D m (eb m n a b)) (fun q _=>by grind),xm];grind
 have w:ei (21*100*fe) ((o j-cH i (fun q=>o (u.B q)*u.T q j))*t.D m (eb m n a b)):=by
  rw[e];refine ei.mono (((hw j).mul abT).sub (ei.sum fun q a0=>(hw _).mul (vh:=fe) ?_)) ?_
  ·rw[(R q (by omega)).1 j ap];exact h1.inv.w0 hF (h1.lt q (by omega)) (E4 (by omega) ap)
  have:i*(100*fe)<=20*(100*fe):=arn _ (by omega);omega
 exact s8 (abT.mono (Nat.le_trans (by omega:fe<=21*100*fe) (dE _))) w h1.inv.us (by grind) (rJ zh)
theorem ahu {m n:Nat}{a:Nat->Nat->Int}{b:Nat->Int}{aF:Nat}{g:Nat->Nat}{iA:Nat->Nat->Rat}{u:b8}(hF:Small m (n+m) (eb m n a b))(a2:n<=40)(h:rR m n a b aF g iA u){o:Nat->Rat}(hw:∀j,ei 100 (o j))(fH mn:Int)(q1:arL)(q2:ar)(bB:arI)(cu:arM):
 NH (aF:Int) fH q1 q2 bB cu mn (jt aF n) (hj aF n u) (db aF u) 0 (ij n o)=some (ij n (u.cF aF o)):=by
 have mE:aF<=20:=by obtain⟨t,h1,-,-⟩:=h.bN;have:=h1.le;have:=hF.hm;omega
 obtain⟨J2,-⟩:=h.fits hF;have L:=h.lt;unfold NH
 obtain⟨_,e,-⟩:=ic (f:=fun w:Int×arI=>CQ (aF:Int) fH q1 q2 bB cu mn (jt aF n) (hj aF n u) (db aF u) w.1 w.2) (fun (i:Nat) (_:Unit)=>((i:Int),ij n fun j=>o j-cH i (fun q=>o (u.B q)*u.T q j))) aF (fun _ _=>True) (fun _=>ij n (u.cF aF o))
  (fun i aa _ _=>by
    refine⟨(),?_,trivial⟩;have aO:=L.kA i aa;have lo:(jt aF n).length=aF:=c2 ..;have lQ:(db aF u).length=aF:=c2 ..;have abU:o (u.B i)-cH i (fun q=>o (u.B q)*u.T q (u.B i))=o (u.B i):=(by rw[pC fun q a0=>by rw[L.unit q (by omega) i aa,eR];grind];grind);have rq : ∀j,o j-cH i (fun q=>o (u.B q)*u.T q j)-(o (u.B i)-cH i (fun q=>o (u.B q)*u.T q (u.B i)))*u.T i j=o j-cH (i+1) (fun q=>o (u.B q)*u.T q j):=fun j=>by rw[abU,cH];grind
    have ao6:=XF (n+1) (by omega) (u.B i) (by omega) (fun j=>o j-cH i (fun q=>o (u.B q)*u.T q j)) (fun j=>u.T i j) (fun j ap=>Py hF h hw (by omega) (by omega)) (fun j ap=>J2 i aa j (by omega)) (fun j ap=>by
     have f1:=Py hF h hw (i:=i+1) (j:=j) (by omega) (by omega);rw[abU];obtain⟨t,h1,h2,R⟩:=h.bN;have w:=((hw (u.B i)).neg).mul (h1.inv.w0 hF (h1.lt i aa) (E4 (n:=n) (N:=n+m) (j:=j) (by omega) (by omega)));rw[<- (R i aa).1 j (by omega)] at w;exact s8 (K:=21*100*fe) ((h1.inv.B3 hF).mono (by omega)) (w.mono (by omega)) h1.inv.us (by grind) (rJ zh)) (fun j ap=>by
     rw[rq];exact Py hF h hw (by omega) (by omega))
    simp only;unfold CQ;refine fb (cE (by rw[lo];omega) (az (x:=some (i,n+1)) (by rw[dw];exact ie aa) (cE (by rw[lQ];omega) (az (x:=(u.B i:Int)) (by rw[dw];exact ie aa) (az (x:=(i,n+1)) rfl (az (x:=h8 n u i) (ho aa) (az (x:=ij n fun j=>o j-cH (i+1) (fun q=>o (u.B q)*u.T q j)) ?_ (cE (by unfold ij;rw[c2,c2]) (by rw[fW])))))))));refine Eq.trans (aid (fr:=hj aF n u) (row:=h8 n u i) (ho aa) _ _ _ _) (Eq.trans ao6 ?_);congr 1;exact eW fun j _=>by rw[rq])
  (fun _ _=>by simp only;unfold CQ;exact fp rfl) () trivial
 have e0:(ij n fun j=>o j-cH 0 (fun q=>o (u.B q)*u.T q j))=ij n o:=eW fun j _=>by show cl (o j-0)=_;congr 1;grind
 rw[e0] at e;exact e
theorem ai8 {aF n:Nat}(hm:aF<=20)(a2:n<=40){u:b8}(inj:∀i,i<aF-> ∀k,k<aF->u.B i=u.B k->i=k)(J2:∀i,i<aF-> ∀j,j<=n->e5 (u.T i j))(z:Int)(q:arI){j:Nat}(ap:j<n)(k:Nat):Oa z (hj aF n u) (db aF u) q (j:Int) true (k:Int) (aF:Int) 0 0=some (kC (cH aF fun i=>if u.B i=k then u.T i j else 0)):=by
 unfold Oa
 obtain⟨_,e,-⟩:=ic (f:=fun w:Int×Int=>Du z (hj aF n u) (db aF u) q (j:Int) true (k:Int) (aF:Int) w.1 w.2) (fun (i:Nat) (_:Unit)=>(kC (cH i fun i=>if u.B i=k then u.T i j else 0),(i:Int))) aF (fun _ _=>True) (fun _=>kC (cH aF fun i=>if u.B i=k then u.T i j else 0))
  (fun i aa _ _=>by
    refine⟨(),?_,trivial⟩;have lo:(db aF u).length=aF:=c2 ..;have lQ:(hj aF n u).length=aF:=c2 ..;have zM:(h8 n u i).length=n+1:=c2 ..;simp only;unfold Du;refine fb (cE (by rw[lo];omega) (az (x:=(u.B i:Int)) (by rw[dw];exact ho aa) ?_));by_cases c:u.B i=k
    ·refine gd (FG (by omega)) (cE (by rw[lQ];omega) (az (x:=h8 n u i) (by rw[dw];exact ho aa) (cE (by rw[zM];omega) (az (x:=cl (u.T i j)) (by rw[dw];exact tm) (az (rE (J2 i aa j (by omega))) ?_)))));rw[fW,cH,dz c,pC fun q a0=>dB fun e=>by have:=inj q (by omega) i aa (by omega);omega];congr 4;grind
    refine iQ (zs (by omega)) ?_;rw[fW,cH,dB c,Rat.add_zero])
  (fun _ _=>by simp only;unfold Du;exact fp rfl) () trivial
 have e0:kC (cH 0 fun i=>if u.B i=k then u.T i j else 0)=0:=qP.2 rfl;rw[e0] at e;exact e
theorem Yj {aF:Nat}{c:Nat->Rat}{u:b8}{j k:Nat}:u.cF aF (iO c (k+1)) j=(if j=k then -1 else 0)+cH aF (fun i=>if u.B i=k then u.T i j else 0):=by
 unfold b8.cF;have:cH aF (fun i=>iO c (k+1) (u.B i)*u.T i j)=cH aF (fun i=>(-1:Rat)*(if u.B i=k then u.T i j else 0)):=gT fun i _=>by simp only[iO];split<;>grind
 rw[this,kQ];simp only[iO];grind
theorem ahv {aF n:Nat}(hm:aF<=20)(a2:n<=40){c:Nat->Rat}{u:b8}(inj:∀i,i<aF-> ∀k,k<aF->u.B i=u.B k->i=k)(J2:∀i,i<aF-> ∀j,j<=n->e5 (u.T i j))(ao7:∀j,j<=n->e5 (u.cF aF c j)){j:Nat}(ap:j<n):
 ∃g,xh ⟨(n:Int),hj aF n u,db aF u,ij n (u.cF aF c)⟩ (j:Int) true=some g/\((∀i,i<aF->u.B i≠j)->(0<g↔u.sP aF (n+1) (iO c) j)):=by
 have lo:(ij n (u.cF aF c)).length=n+1:=c2 ..;have m1:aE eI (db aF u)=(aF:Int):=by rw[hS];show ((aC aF _).length:Int)=_;rw[c2]
 obtain⟨r,e,ak⟩:=uH (f:=fun w:Int×Int=>z1 (n:Int) (hj aF n u) (db aF u) (ij n (u.cF aF c)) (j:Int) true w.1 w.2)
  (fun (k:Nat) (_:Unit)=>(kC (u.cF aF (iO c k) j),(k:Int))) n (fun k _=>k<=j/\ ∀l,l<k->u.cF aF (iO c l) j=0)
  (fun r=> ∃g,(r = .inl g\/(r = .inr ()/\g = -1))/\((∀i,i<aF->u.B i≠j)->(0<g↔u.sP aF (n+1) (iO c) j)))
  (fun k a4 _ dh=>by
    obtain⟨ark,cK⟩:=dh;simp only;unfold z1;by_cases z:u.cF aF (iO c k) j=0
    ·have fH:kC (u.cF aF (iO c k) j)=0:=qP.2 z
     have wP : ∀l,l<k+1->u.cF aF (iO c l) j=0:=fun l aZ=>by
      by_cases e:l=k
      ·rw[e];exact z
      exact cK l (by omega)
     by_cases e:k=j
     ·refine .inr ⟨.inr (),?_,-1,.inr ⟨rfl,rfl⟩,fun zI=>⟨fun h=>absurd h (by omega),fun d6=> ?_⟩⟩
      ·rw[fH];exact gd rfl (gd rfl (fb (gd (FG (by omega)) rfl)))
      exfalso;have neg:u.cF aF (iO c (k+1)) j = -1:=(by rw[Yj,dz e.symm,pC fun i aa=>dB fun x=>zI i aa (by omega)];grind);obtain⟨l,fw,fo,bA⟩:=d6;simp only at fo bA;by_cases a6:l<k+1
      ·rw[wP l a6] at fo;grind
      by_cases cw:l=k+1
      ·rw[cw,neg] at fo;grind
      have:=bA (k+1) (by omega);rw[neg] at this;grind
     refine .inl ⟨(),?_,by omega,wP⟩;rw[fH,m1];refine gd rfl (gd rfl (fb (iQ (zs (by omega)) (az (ai8 hm a2 inj J2 (n:Int) (ij n (u.cF aF c)) ap k) ?_))));rw[fW,Yj,dB (fun x=>e x.symm),Rat.zero_add]
    refine .inr ⟨.inl (kC (u.cF aF (iO c k) j)),?_,_,.inl rfl,fun zI=> ?_⟩
    ·exact iQ (zs fun x=>z (qP.1 x)) rfl
    rw[uK];constructor
    ·intro h;exact⟨k,by omega,h,cK⟩
    rintro⟨l,fw,fo,bA⟩;simp only at fo bA;by_cases a6:l<k
    ·rw[cK l a6] at fo;grind
    by_cases cw:l=k
    ·rw[cw] at fo;exact fo
    exact absurd (bA k (by omega)) z)
  (fun _ dh=>absurd dh.1 (by omega)) () ⟨by omega,fun l aZ=>by omega⟩
 obtain⟨g,d6,a0⟩:=ak;refine⟨g,?_,a0⟩;unfold xh;refine cE (by simp only;rw[lo];omega) (az (x:=cl (u.cF aF c j)) (by simp only;rw[dw];exact tm) (az (rE (ao7 j (by omega))) (az (x:=r) e ?_)));rcases d6 with rfl|⟨rfl,rfl⟩<;>rfl
theorem akQ {x:Rat}(U:e5 x):Hd (cl x)=some (cl x):=by
 have p:=U.ec;have h1:=p.rP;have h2:=p.rc;have e1:(cl x).bQ.bZ.length<=100:=by show (L (fg x).1.natAbs).length<=100;omega
 have e2:(cl x).cC.length<=100:=by show (L (fg x).2).length<=100;omega
 unfold Hd;rw[List.nil_append,List.nil_append];exact c8 (c8 rfl)
theorem Lh {aF n:Nat}{u:b8}(inj:∀i,i<aF-> ∀k,k<aF->u.B i=u.B k->i=k)(j:Nat): ∀i,i<=aF->(∃q,q<i/\u.B q=j/\u.ia i n j=u.T q n)\/((∀q,q<i->u.B q≠j)/\u.ia i n j=0)
 | 0,_=> .inr ⟨fun q a0=>by omega,rfl⟩
 | i+1,aa=>by
  rw[Px];by_cases c:u.B i=j
  ·rw[dz c]
   rcases Lh inj j i (by omega) with ⟨q,h1,h2,-⟩|⟨-,h2⟩
   ·have:=inj q (by omega) i (by omega) (by omega);omega
   exact .inl ⟨i,by omega,c,by rw[h2];grind⟩
  rw[dB c,Rat.add_zero];rcases Lh inj j i (by omega) with ⟨q,h1,h2,R⟩|⟨h1,h2⟩
  ·exact .inl ⟨q,by omega,h2,R⟩
  refine .inr ⟨fun q a0=> ?_,h2⟩;by_cases e:q=i
  ·rw[e];exact c
  exact h1 q (by omega)
theorem ai9 {p:kk}{m n:Nat}{a:Nat->Nat->Int}{b:Nat->Int}(h:nA p m n a b){c:Nat->Int}(oS:p.h3=aC n c)(a1:∀j,j<n-> -100<=c j/\c j<=100){t:b8}(cv:uZ m n a b 0 t):
 ∃aF g u q1 q2 bB,aF<=20/\rR m n a b aF g u.T u/\D3 p ((n+m:Nat):Int) (jt m (n+m)) (db m t) (ij (n+m) (t.cF m (hk m n))) (hj m (n+m) t)=some (q1,q2,bB,(n:Int),jt aF n,db aF u,ij n (u.cF aF (iX n c)),hj aF n u):=by
 have hm:=h.hm;have a2:=h.a2;have hF:=Hz h;obtain⟨cW,bG,pt⟩:=aib hF hm a2 p.gC p.bR p.bP p.h3 cv;have bN:=aia pt.bN.inv pt.bN.z pt.J1;have gx : ∀i,i<(jd m n cW).length->cW.B (lH m n cW i)<n:=fun i aa=>(Yi aa).2;have R : ∀i,i<(jd m n cW).length->(∀j,j<=n->(re n (n+m) (lH m n cW) cW).T i j=cW.T (lH m n cW i) (oQ n (n+m) j))/\(re n (n+m) (lH m n cW) cW).B i=cW.B (lH m n cW i):=fun i aa=>⟨fun _ _=>rfl,rfl⟩;have L:=YY bN gx R;have hle:=Y0 n cW m
 have fG:rR m n a b (jd m n cW).length (lH m n cW) (re n (n+m) (lH m n cW) cW).T (re n (n+m) (lH m n cW) cW):=by
  refine⟨?_,cW,bN,gx,R⟩;by_cases z:(jd m n cW).length=0
  ·rw[z];exact⟨fun c a1=>by omega,⟨fun _ _=>0,fun i aa=>by omega⟩,fun i aa=>by omega,fun i aa=>by omega⟩
  have:=gx 0 (by omega);exact L.tok (dE _) (by omega)
 have lo:((jt m (n+m)).length:Int)=(m:Int):=by unfold jt;rw[c2]
 have lQ:((jt (jd m n cW).length n).length:Int)=(((jd m n cW).length:Nat):Int):=by unfold jt;rw[c2]
 have aoA:(aC n fun j=>cl (c j:Rat))++[cl 0]=ij n (iX n c):=by
  unfold ij;rw[lW];congr 1
  ·exact eW fun j ap=>by rw[ZW ap]
  rw[LC (dE _)]
 refine⟨(jd m n cW).length,lH m n cW,re n (n+m) (lH m n cW) cW,db m cW,ij (n+m) (cW.cF m (hk m n)),hj m (n+m) cW,by omega,fG,?_⟩;unfold D3;rw[lo,h.gQ];refine az bG ?_;simp only;rw[oS];refine az (aic a2 a1 _ _ _ _ _ _ _ _) (az (tJ (n:=0) (m2.2 (by omega))) ?_);rw[show ((0:Int):Rat)=0 from rfl,aoA];refine cE (by unfold ij;rw[c2];omega) (az (ai7 hm a2 cW _ _ _ _ _ _) ?_);simp only;rw[lQ];exact az (ahu hF a2 fG (L6 a1) _ _ _ _ _ _) rfl
theorem aja {p:kk}{m n:Nat}{a:Nat->Nat->Int}{b:Nat->Int}(h:nA p m n a b){c:Nat->Int}(oS:p.h3=aC n c)(a1:∀j,j<n-> -100<=c j/\c j<=100):
 ∃r,tv p=some r/\((¬sy m n a b/\r=⟨2,[],⟨⟨false,[]⟩,[]⟩⟩)\/(sy m n a b/\ ¬Bounded m n a b (iX n c)/\r=⟨3,[],⟨⟨false,[]⟩,[]⟩⟩) \/
  ∃x,wy m n a b (iX n c) x/\(∀j,e5 (x j))/\e5 (val n (iX n c) x)/\r=⟨0,aC n (fun j=>cl (x j)),cl (val n (iX n c) x)⟩):=by
 have hm:=h.hm;have a2:=h.a2;have hF:=Hz h;obtain⟨t,e1,dh,bS⟩:=ai2 h;have ao8:=dh.Bw hF (fun j _=>LB m n j) (dE (n+m));have ao9:(ij (n+m) (t.cF m (hk m n))).length=n+m+1:=c2 ..
 have pre : ∀r,(if (kC (t.cF m (hk m n) (n+m)) != (0:Int))=true then some (⟨2,[],⟨⟨false,[]⟩,[]⟩⟩:yN) else
  D3 p ((n+m:Nat):Int) (jt m (n+m)) (db m t) (ij (n+m) (t.cF m (hk m n))) (hj m (n+m) t) >>= fun b2 =>
  xe true b2.2.2.2.1 b2.2.2.2.2.1 b2.2.2.2.2.2.1 b2.2.2.2.2.2.2.1 b2.2.2.2.2.2.2.2 >>= fun c3 =>
  if c3.1=true then
   if 0<=b2.2.2.2.1/\b2.2.2.2.1<c3.2.2.1.length then
   c3.2.2.1[(0+b2.2.2.2.1.toNat)]? >>= fun Ji =>
   vr Ji >>= fun gL =>
   N1 p.gC p.fi p.bR p.bP p.h3 b2.2.2.2.1 b2.2.2.2.2.1 c3.2.1 c3.2.2.1 c3.2.2.2 gL.bQ.cQ gL.bQ.bZ gL.cC 0 ([]:arI) >>= fun oy =>
   N2 (c3.2.1.length:Int) b2.2.2.2.1 b2.2.2.2.2.1 c3.2.1 c3.2.2.1 c3.2.2.2 gL.bQ.cQ gL.bQ.bZ gL.cC 0 oy >>= fun m8 =>
   some (⟨0,m8,gL⟩:yN)
   else none
  else some (⟨3,([]:arI),(⟨(⟨false,([]:ar)⟩:bK),([]:ar)⟩:au)⟩:yN))=some r->tv p=some r:=fun r ak=>by
  unfold tv;exact az (aj7 h) (az e1 (cE (by simp only;rw[ao9];omega) (az (x:=cl (t.cF m (hk m n) (n+m))) (by simp only;rw[dw];exact ie (by omega)) (az (rE ao8) ak))))
 by_cases z:t.cF m (hk m n) (n+m)=0;rotate_left
 ·exact⟨_,pre _ (gd (x4 fun e=>z (qP.1 e)) rfl),.inl ⟨fun s=>z (bS.2 s),rfl⟩⟩
 have apa:=bS.1 z;have apb:uZ m n a b 0 t:=⟨⟨dh,OO dh.mI z dh.ok.kA,dE _,fun i aa=>aa,fun i _ k _ e=>e,fun d bI iD=>(iD d bI rfl).elim⟩,fun q a0=>by omega⟩;obtain⟨aF,g,u,q1,q2,bB,mE,fG,e2⟩:=ai9 h oS a1 apb;have an : ∀j,n<=j->iX n c j=0:=fun j ap=>LC ap;have inj : ∀ {v:b8},rR m n a b aF g u.T v-> ∀i,i<aF-> ∀k,k<aF->v.B i=v.B k->i=k:=fun bh i aa k a4 e=>P8 bh.lt aa a4 e
 obtain⟨q,v,bG,Cj,fl⟩:=Zu (ft:=aF) (m:=aF) (N:=n) (K:=n+1) (by omega) (by omega) (A:=u.T) (obj:=iO (iX n c)) true (rR m n a b aF g u.T)
  (fun t cv=>⟨cv.ok,cv.lt.mI⟩) (fun t r s cv du=>ai5 cv du)
  (fun t cv j ap=>ahv mE a2 (inj cv) (fun i aa j ap=>(cv.fits hF).1 i aa j ap) (fun j ap=>cv.Bw hF an (L6 a1) ap) ap)
  (fun t cv i aa j ap=>(cv.fits hF).1 i aa j ap) (fun t cv i aa j ap ai=>(cv.fits hF).2 i aa j ap ai)
  (fun t cv r k ak a4 ai=>cv.IK hF an (L6 a1) ak a4 ai) u fG
 have zk:xe true (n:Int) (jt aF n) (db aF u) (ij n (u.cF aF (iX n c))) (hj aF n u)=some (q,db aF v,ij n (v.cF aF (iX n c)),hj aF n v):=bG;have J3:=Cj.lt;rcases fl with ⟨rfl,fl⟩|⟨rfl,s,yc,d6,iD⟩;rotate_left
 ·refine⟨_,pre _ (iQ (by rw[qP.2 z];rfl) (az e2 (az zk (iQ rfl rfl)))),.inr (.inl ⟨apa,?_,rfl⟩)⟩
  obtain⟨l,aZ,ai,-⟩:=d6
  cases l with
  | zero=>exact J3.MF (iX n c) yc ai iD
  | succ k =>
   obtain⟨i,aa,kr⟩:=J3.Xt (c:=iX n c) ai;exact(iD i aa kr).elim
 have m6:=J3.m6 fl
 have RY : ∀i,i<=aF-> ∀j,e5 (v.ia i n j):=fun i aa j=>by
  rcases Lh (inj Cj) (n:=n) j i aa with ⟨q,h1,-,R⟩|⟨-,h2⟩
  ·rw[R];exact(Cj.fits hF).1 q (by omega) n (dE _)
  rw[h2];exact YP (n:=0) (m2.2 (by omega))
 have bh:v.cF aF (iX n c) n = -val n (iX n c) (v.ia aF n):=by unfold val;rw[J3.HM (iX n c)];unfold b8.cF;rw[LC (dE _)];grind
 have abn:=Cj.Bw hF an (L6 a1) (dE n);have amZ:e5 (val n (iX n c) (v.ia aF n)):=by have:=abn.neg;rw[bh,Rat.neg_neg] at this;exact this
 refine⟨_,pre _ (iQ (by rw[qP.2 z];rfl) (az e2 (az zk (gd rfl (cE ?_ (az (x:=cl (v.cF aF (iX n c) n)) ?_ (az (LS abn) (az (x:=aC n fun _=>cl 0) ?_ (az (x:=aC n fun j=>cl (v.ia aF n j)) ?_ rfl))))))))),.inr (.inr ⟨_,m6,fun j=>RY aF (dE _) j,amZ,?_⟩)⟩
 ·simp only;unfold ij;rw[c2];omega
 ·simp only;rw[dw];exact ie (by omega)
 ·unfold N1
  rw[h.gQ]
  obtain⟨_,e,-⟩:=ic (f:=fun w:Int×arI=>Dh p.gC (n:Int) p.bR p.bP p.h3 (n:Int) (jt aF n) (db aF v) (ij n (v.cF aF (iX n c))) (hj aF n v) (cl (-v.cF aF (iX n c) n)).bQ.cQ (cl (-v.cF aF (iX n c) n)).bQ.bZ (cl (-v.cF aF (iX n c) n)).cC w.1 w.2) (fun (j:Nat) (_:Unit)=>((j:Int),aC j fun _=>cl (0:Rat))) n (fun _ _=>True) (fun _=>aC n fun _=>cl (0:Rat))
   (fun j ap _ _=>by refine⟨(),?_,trivial⟩;simp only;unfold Dh;refine fb (az (tJ (n:=0) (m2.2 (by omega))) (cE (by simp only[dD,c2,List.length_singleton];omega) ?_));rw[fW,lW];rfl)
   (fun _ _=>by simp only;unfold Dh;exact fp rfl) () trivial
  exact e
 ·have m1:(((db aF v).length:Nat):Int)=(aF:Int):=by unfold db;rw[c2]
  simp only;rw[m1];unfold N2
  obtain⟨_,e,-⟩:=ic (f:=fun w:Int×arI=>Di (aF:Int) (n:Int) (jt aF n) (db aF v) (ij n (v.cF aF (iX n c))) (hj aF n v) (cl (-v.cF aF (iX n c) n)).bQ.cQ (cl (-v.cF aF (iX n c) n)).bQ.bZ (cl (-v.cF aF (iX n c) n)).cC w.1 w.2) (fun (i:Nat) (_:Unit)=>((i:Int),aC n fun j=>cl (v.ia i n j))) aF (fun _ _=>True) (fun _=>aC n fun j=>cl (v.ia aF n j))
   (fun i aa _ _=>by
     refine⟨(),?_,trivial⟩;have aO:=J3.kA i aa;have lo:(db aF v).length=aF:=c2 ..;have lQ:(jt aF n).length=aF:=c2 ..;simp only;unfold Di;refine fb (cE (by rw[lo];omega) (az (x:=(v.B i:Int)) (by rw[dw];exact ie aa) (cE (by rw[lQ];omega) (az (x:=some (i,n+1)) (by rw[dw];exact ie aa) (az (x:=(i,n+1)) rfl (az (x:=h8 n v i) (ho aa) (c8 (az (x:=cl (v.T i n)) (by rw[dw];exact ie (by omega)) (az (akQ ((Cj.fits hF).1 i aa n (dE _))) (c8 (c8 ?_)))))))))));rw[fW,dw,dG,ld];congr 3;refine eW fun j _=> ?_;rw[Px];by_cases e:j=v.B i
     ·rw[dz e,dz e.symm]
      rcases Lh (inj Cj) (n:=n) j i (by omega) with ⟨q,h1,h2,-⟩|⟨-,h2⟩
      ·have:=inj Cj q (by omega) i aa (by omega);omega
      rw[h2,Rat.zero_add]
     rw[dB e,dB fun x=>e x.symm,Rat.add_zero])
   (fun _ _=>by simp only;unfold Di;exact fp rfl) () trivial
  exact e
 rw[bh,Rat.neg_neg]
def xV (k:Nat)(x:c6):arX:=(if x.h5=2 then [] else [⟨(k:Int),1⟩])++(if x.h5=1 then [] else [⟨(k:Int),-1⟩])
def nK (ha:arQ):Nat->arX
 | 0=>[]
 | n+1=>nK ha n++(match ha[n]? with
  | some x=>xV n x
  | none=>[])
theorem Li (ha:arQ): ∀n,(nK ha n).length<=2*n
 | 0=>by simp[nK]
 | n+1=>by
  have:=Li ha n;rw[nK,dD]
  have h2:(match ha[n]? with
   | some x=>xV n x
   | none=>[]).length<=2:=by
   split
   ·rename_i x _;unfold xV;rw[dD];split<;>split<;>simp
   simp
  omega
theorem Yk {ha:arQ}: ∀ {n:Nat} {c:fE},n<=ha.length->c∈nK ha n-> ∃k:Nat,c.iv=k/\k<n/\(c.tM=1\/c.tM = -1)
 | 0,c,_,h=>by simp[nK] at h
 | n+1,c,a2,h=>by
  rw[nK,List.mem_append] at h;rcases h with h|h
  ·obtain⟨k,h1,h2,R⟩:=Yk (by omega) h;exact⟨k,h1,by omega,R⟩
  rw[wZ] at h;simp only[xV,List.mem_append] at h;rcases h with h|h
  ·split at h
   ·simp at h
   simp at h;subst h;exact⟨n,rfl,by omega,.inl rfl⟩
  split at h
  ·simp at h
  simp at h;subst h;exact⟨n,rfl,by omega,.inr rfl⟩
theorem KT (s:cT)(eY:s.bE.length<=1000):yp s=some (nK s.bE s.bE.length):=by
 unfold yp Sq;rw[fh]
 obtain⟨x,e,-⟩:=ic (f:=fun w:Int×arX=>Cx s.bE (s.bE.length:Nat) w.1 w.2) (fun (n:Nat) (_:Unit)=>((n:Int),nK s.bE n)) s.bE.length (fun _ _=>True) (fun _=>nK s.bE s.bE.length)
  (fun n a2 _ _=>by
    refine⟨(),?_,trivial⟩;have U:=dy a2;have aZ:=Li s.bE n;have e1:nK s.bE (n+1)=nK s.bE n++xV n s.bE[n]:=(by rw[nK,U]);unfold Cx;refine fb (c8 (az (x:=s.bE[n]) (by simp only;rw[dw];exact U) ?_));simp only;rw[fW,e1];unfold xV;by_cases a6:s.bE[n].h5=2
    ·rw[dz a6];refine iQ (vR a6) (gd (x4 (by omega)) (cE (by simp only[dD,dI,dQ];omega) ?_));rw[eR];simp
    rw[dB a6];refine gd (x4 a6) (cE (by simp only[dD,dI,dQ];omega) ?_);by_cases cw:s.bE[n].h5=1
    ·refine iQ (vR cw) ?_;rw[dz cw];simp
    refine gd (x4 cw) (cE (by simp only[dD,dI,dQ];omega) ?_);rw[dB cw];simp)
  (fun _ _=>by unfold Cx;exact fp rfl) () trivial
 exact az e rfl
theorem OC (s:cT)(eY:s.bE.length<=1000):yv s=some ((nK s.bE s.bE.length).map fE.iv,(nK s.bE s.bE.length).map fE.tM):=by
 unfold yv TZ;rw[fh]
 obtain⟨x,e,-⟩:=ic (f:=fun w:Int×ar×ar=>CU s.bE (s.bE.length:Nat) w.1 w.2.1 w.2.2) (fun (n:Nat) (_:Unit)=>((n:Int),(nK s.bE n).map fE.iv,(nK s.bE n).map fE.tM)) s.bE.length (fun _ _=>True) (fun _=>((nK s.bE s.bE.length).map fE.iv,(nK s.bE s.bE.length).map fE.tM))
  (fun n a2 _ _=>by
    refine⟨(),?_,trivial⟩;have U:=dy a2;have aZ:=Li s.bE n;have e1:nK s.bE (n+1)=nK s.bE n++xV n s.bE[n]:=(by rw[nK,U]);unfold CU;refine fb (c8 (az (x:=s.bE[n]) (by simp only;rw[dw];exact U) ?_));simp only;rw[fW,e1];unfold xV;by_cases a6:s.bE[n].h5=2
    ·rw[dz a6];refine iQ (vR a6) (gd (x4 (by omega)) (cE (by simp only[dD,arC,dI,dQ];omega) (cE (by simp only[dD,arC,dI,dQ];omega) ?_)));rw[eR];simp
    rw[dB a6];refine gd (x4 a6) (cE (by simp only[dD,arC,dI,dQ];omega) (cE (by simp only[dD,arC,dI,dQ];omega) ?_));by_cases cw:s.bE[n].h5=1
    ·refine iQ (vR cw) ?_;rw[dz cw];simp
    refine gd (x4 cw) (cE (by simp only[dD,arC,dI,dQ];omega) (cE (by simp only[dD,arC,dI,dQ];omega) ?_));rw[dB cw];simp)
  (fun _ _=>by unfold CU;exact fp rfl) () trivial
 exact az e rfl
theorem LD {α:Type}(a b:Nat)(f:Nat->α):aC (a+b) f=aC a f++aC b (fun j=>f (a+j)):=by
 induction b with
 | zero=>simp[aC]
 | succ b ih=>rw[<- Nat.add_assoc,lW,ih,lW,List.append_assoc]
def pp (s:cT)(k:Nat):Int×Int:=(ts s k).getD (0,0)
theorem Pz (s:cT)(h:mW s)(k:Nat)(a4:k<s.bE.length):ts s k=some (pp s k)/\(-100<=(pp s k).1/\(pp s k).1<=100)/\(-100<=(pp s k).2/\(pp s k).2<=100):=by
 obtain⟨x,y,h1,R,aj⟩:=akG s h k (by omega) (by omega);have e:pp s k=(x,y):=by unfold pp;rw[h1];rfl
 rw[e];exact⟨h1,R,aj⟩
def kY (s:cT)(j:Int)(lE k:Nat):Int :=
 match s.bE[k]? with
 | none=>0
 | some x=>if j=x.bR then (if lE=0 then (pp s k).1 else (pp s k).2) else if j=x.bP then -(if lE=0 then (pp s k).1 else (pp s k).2) else 0
theorem alJ (s:cT)(h:mW s)(j:Int)(lE k:Nat): -100<=kY s j lE k/\kY s j lE k<=100:=by
 unfold kY;split
 ·omega
 rename_i x U;obtain⟨-,R,aj⟩:=Pz s h k (gD U);split
 ·split<;>omega
 split
 ·split<;>omega
 omega
theorem akR (s:cT)(h:mW s)(j:Int)(q1:ar)(q2 bB:Int)(cu:ar):
 N9 j q1 q2 bB s.bE (aE ca s.bE) s.cq cu 0 ([]:ar) ([]:ar)=some (aC s.bE.length (kY s j 0),aC s.bE.length (kY s j 1)):=by
 obtain⟨-,-,f3,f4⟩:=id h;unfold N9;rw[fh]
 obtain⟨x,e,-⟩:=ic (f:=fun w:Int×ar×ar=>Ds j q1 q2 bB s.bE (s.bE.length:Nat) s.cq cu w.1 w.2.1 w.2.2) (fun (n:Nat) (_:Unit)=>((n:Int),aC n (kY s j 0),aC n (kY s j 1))) s.bE.length (fun _ _=>True) (fun _=>(aC s.bE.length (kY s j 0),aC s.bE.length (kY s j 1)))
  (fun n a2 _ _=>by
    refine⟨(),?_,trivial⟩;have U:=dy a2;obtain⟨v1,v3,v4⟩:=Pz s h n a2;have v2:=akH s h n (by omega) (by omega) v1;unfold Ds;refine fb (c8 (az (x:=s.bE[n]) (by simp only;rw[dw];exact U) (az (x:=pp s n) v2 ?_)));simp only;rw[fW,lW,lW];have g : ∀(F:Nat->Int) (v:Int),(aC n F++[v]).length*8<=140737488355328:=fun F v=>(by simp only[dD,c2,dI,dQ];omega);by_cases a6:j=s.bE[n].bR
    ·have e0 : ∀lE,kY s j lE n=if lE=0 then (pp s n).1 else (pp s n).2:=fun lE=>(by unfold kY;rw[U];simp only[dz a6]);refine gd (FG a6) (cE (g _ _) (cE (g _ _) ?_));rw[e0,e0];rfl
    refine iQ (zs a6) ?_;by_cases cw:j=s.bE[n].bP
    ·have e0 : ∀lE,kY s j lE n = -(if lE=0 then (pp s n).1 else (pp s n).2):=fun lE=>(by unfold kY;rw[U];simp only[dB a6,dz cw]);refine gd (FG cw) (cE (g _ _) (cE (g _ _) ?_));rw[e0,e0,c7,c7];simp
    have e0 : ∀lE,kY s j lE n=0:=fun lE=>(by unfold kY;rw[U];simp only[dB a6,dB cw]);refine iQ (zs cw) (cE (g _ _) (cE (g _ _) ?_));rw[e0,e0])
  (fun _ _=>by unfold Ds;exact fp rfl) () trivial
 exact e
theorem akS (s:cT)(h:mW s)(j:Int)(q1:ar)(q2 bB:Int)(cu:arR):
 Ng s.cq s.bE j q1 q2 bB (aE ca s.bE) cu 0 (aC s.bE.length fun _=>(0:Int)) (aC s.bE.length fun _=>(0:Int))=some (aC s.bE.length (kY s j 0),aC s.bE.length (kY s j 1)):=by
 obtain⟨-,-,f3,f4⟩:=id h;unfold Ng;rw[fh]
 obtain⟨x,e,-⟩:=ic (f:=fun w:Int×ar×ar=>Ct s.cq s.bE j q1 q2 bB (s.bE.length:Nat) cu w.1 w.2.1 w.2.2) (fun (n:Nat) (_:Unit)=>((n:Int),(aC s.bE.length fun k=>if k<n then kY s j 0 k else 0),aC s.bE.length fun k=>if k<n then kY s j 1 k else 0)) s.bE.length (fun _ _=>True) (fun _=>(aC s.bE.length (kY s j 0),aC s.bE.length (kY s j 1)))
  (fun n a2 _ _=>by
    refine⟨(),?_,trivial⟩;have U:=dy a2;obtain⟨v1,v3,v4⟩:=Pz s h n a2
    have du : ∀lE v,v=kY s j lE n->(aC s.bE.length fun k=>if k<n then kY s j lE k else 0).set n v=aC s.bE.length fun k=>if k<n+1 then kY s j lE k else 0:=fun lE v bh=>by
     rw[ld];refine eW fun k _=> ?_;by_cases c:k=n
     ·subst c;rw[dz rfl,cL];exact bh
     rw[dB c];by_cases cw:k<n
     ·rw[dz cw,cL]
     rw[dB cw,eR]
    have g1 : ∀F:Nat->Int,0<=(n:Int)/\(n:Int)<((aC s.bE.length F).length:Nat):=fun F=>(by rw[c2];omega);have g2 : ∀F:Nat->Int,0+(n:Int).toNat<(aC s.bE.length F).length:=fun F=>(by rw[c2,dw];omega);unfold Ct;refine fb (c8 (az (x:=s.bE[n]) (by simp only;rw[dw];exact U) (az (x:=pp s n) v1 ?_)));simp only;by_cases a6:j=s.bE[n].bR
    ·have e0 : ∀lE,kY s j lE n=if lE=0 then (pp s n).1 else (pp s n).2:=fun lE=>(by unfold kY;rw[U];simp only[dz a6]);refine gd (FG a6) (cE (g1 _) (cE (g2 _) (cE (g1 _) (cE (g2 _) ?_))));rw[fW,dw,dG,du 0 _ (by rw[e0];rfl),du 1 _ (by rw[e0];rfl)]
    refine iQ (zs a6) ?_;by_cases cw:j=s.bE[n].bP
    ·have e0 : ∀lE,kY s j lE n = -(if lE=0 then (pp s n).1 else (pp s n).2):=fun lE=>(by unfold kY;rw[U];simp only[dB a6,dz cw]);refine gd (FG cw) (cE (g1 _) (cE (g2 _) (cE (g1 _) (cE (g2 _) ?_))));rw[fW,dw,dG,c7,c7,du 0 _ (by rw[e0];simp),du 1 _ (by rw[e0];simp)]
    have e0 : ∀lE,kY s j lE n=0:=fun lE=>(by unfold kY;rw[U];simp only[dB a6,dB cw]);refine iQ (zs cw) ?_;rw[fW];congr 4
    ·refine eW fun k _=> ?_
     by_cases c:k=n
     ·subst c;rw[eR,cL,e0]
     by_cases cw:k<n
     ·rw[dz cw,cL]
     rw[dB cw,eR]
    refine eW fun k _=> ?_;by_cases c:k=n
    ·subst c;rw[eR,cL,e0]
    by_cases cw:k<n
    ·rw[dz cw,cL]
    rw[dB cw,eR])
  (fun _ _=>by
    unfold Ct;refine fp ?_;simp only;congr 3
    ·exact eW fun k a4=>by rw[dz a4]
    exact eW fun k a4=>by rw[dz a4]) () trivial
 have z : ∀lE,(aC s.bE.length fun k=>if k<0 then kY s j lE k else 0)=aC s.bE.length fun _=>(0:Int):=fun lE=>eW fun k _=>by rw[eR]
 rw[z,z] at e;exact e
def jR (s:cT)(q:Nat):Nat:=(nH s.cq 0).getD q 0
def dl (s:cT):Nat:=(nH s.cq 0).length
def m9 (s:cT)(r k:Nat):Int:=kY s (jR s (r / 2)) (r % 2) k
theorem HI (s:cT):(nH s.cq 0).map (fun n:Nat=>(n:Int))=aC (dl s) fun q=>(jR s q:Int):=by
 apply arw;intro q;rw[dK];by_cases c:q<dl s
 ·rw[ho c];have h:(nH s.cq 0)[q]? = some (nH s.cq 0)[q]:=dy c;unfold jR;rw[dN,h];rfl
 rw[List.getElem?_eq_none_iff.2 (by unfold dl at c;omega),List.getElem?_eq_none_iff.2 (by rw[c2];omega)];rfl
theorem ZA (s:cT){q:Nat}(h:q<dl s):jR s q<s.cq.length:=by
 have h1:(nH s.cq 0)[q]? = some (nH s.cq 0)[q]:=dy h;have h2:jR s q=(nH s.cq 0)[q]:=by unfold jR;rw[dN,h1];rfl
 have:=Pt s.cq 0 _ (dH h1);omega
theorem vH (s:cT):dl s<=s.cq.length:=X9 s.cq 0
theorem PM {α:Type}(r n:Nat)(e:Nat->Nat->α):(aC (r*n) fun x=>e (x / n) (x % n))++aC n (e r)=aC ((r+1)*n) fun x=>e (x / n) (x % n):=by
 rw[Nat.succ_mul,LD];congr 1;refine eW fun j ap=> ?_;have h1:(r*n+j) / n=r:=by rw[Nat.mul_comm,Nat.mul_add_div (by omega),Nat.div_eq_of_lt ap];rfl
 have h2:(r*n+j) % n=j:=by rw[Nat.mul_comm,Nat.mul_add_mod,Nat.mod_eq_of_lt ap]
 rw[h1,h2]
theorem aie (s:cT)(h:mW s):Hc s=some (aC (2*dl s*s.bE.length) fun x=>m9 s (x / s.bE.length) (x % s.bE.length)):=by
 obtain⟨-,-,f3,f4⟩:=id h;have ul:=vH s;unfold Hc;refine az (OY s (by omega)) ?_;rw[HI,hS,c2];unfold Vk
 obtain⟨x,e,-⟩:=ic (f:=fun w:Int×ar=>Dt (aC (dl s) fun q=>(jR s q:Int)) (dl s:Int) s.cq s.bE w.1 w.2) (fun (n:Nat) (_:Unit)=>((n:Int),aC (2*n*s.bE.length) fun x=>m9 s (x / s.bE.length) (x % s.bE.length))) (dl s) (fun _ _=>True) (fun _=>aC (2*dl s*s.bE.length) fun x=>m9 s (x / s.bE.length) (x % s.bE.length))
  (fun n a2 _ _=>by refine⟨(),?_,trivial⟩;have aO:2*n*s.bE.length<=12*8:=Nat.mul_le_mul (by omega) f4;unfold Dt;refine fb (c8 (az (x:=(jR s n:Int)) (by simp only;rw[dw];exact ho a2) (az (akR s h _ _ _ _ _) ?_)));refine cE (by simp only[dD,c2];omega) (cE (by simp only[dD,c2];omega) ?_);simp only;rw[fW];have r1:aC s.bE.length (kY s (jR s n) 0)=aC s.bE.length (m9 s (2*n)):=eW fun k _=>(by unfold m9;rw[show 2*n / 2=n by omega,show 2*n % 2=0 by omega]);have r2:aC s.bE.length (kY s (jR s n) 1)=aC s.bE.length (m9 s (2*n+1)):=eW fun k _=>(by unfold m9;rw[show (2*n+1) / 2=n by omega,show (2*n+1) % 2=1 by omega]);rw[r1,r2,PM (2*n),PM (2*n+1),show 2*n+1+1=2*(n+1) by omega])
  (fun _ _=>by unfold Dt;exact fp rfl) () trivial
 have z:(aC (2*0*s.bE.length) fun x=>m9 s (x / s.bE.length) (x % s.bE.length))=[]:=by simp[aC]
 rw[z] at e;exact az e rfl
theorem agn (s:cT)(h:mW s):Gc s=some (aC (2*dl s) fun r=>aC s.bE.length (m9 s r)):=by
 obtain⟨-,-,f3,f4⟩:=id h;have ul:=vH s;unfold Gc;refine az (V7 s (by omega)) ?_;rw[HI,hS,c2];unfold Sg
 obtain⟨x,e,-⟩:=ic (f:=fun w:Int×arR=>Cu s.cq s.bE (aC (dl s) fun q=>(jR s q:Int)) (dl s:Int) w.1 w.2) (fun (n:Nat) (_:Unit)=>((n:Int),aC (2*n) fun r=>aC s.bE.length (m9 s r))) (dl s) (fun _ _=>True) (fun _=>aC (2*dl s) fun r=>aC s.bE.length (m9 s r))
  (fun n a2 _ _=>by refine⟨(),?_,trivial⟩;unfold Cu;refine fb (c8 (az (x:=(jR s n:Int)) (by simp only;rw[dw];exact ho a2) (cE (by rw[fh];omega) ?_)));refine az (x:=(aC s.bE.length (kY s (jR s n) 0),aC s.bE.length (kY s (jR s n) 1))) (by rw[show (aE ca s.bE).toNat=s.bE.length by rw[fh,dw],qT];exact akS s h _ _ _ _ _) (cE (by simp only[dD,c2,dI,dQ];omega) ?_);simp only;rw[fW,show 2*(n+1)=2*n+1+1 by omega,lW (2*n+1),lW (2*n)];have r1:aC s.bE.length (kY s (jR s n) 0)=aC s.bE.length (m9 s (2*n)):=eW fun k _=>(by unfold m9;rw[show 2*n / 2=n by omega,show 2*n % 2=0 by omega]);have r2:aC s.bE.length (kY s (jR s n) 1)=aC s.bE.length (m9 s (2*n+1)):=eW fun k _=>(by unfold m9;rw[show (2*n+1) / 2=n by omega,show (2*n+1) % 2=1 by omega]);rw[r1,r2];simp)
  (fun _ _=>by unfold Cu;exact fp rfl) () trivial
 exact az e rfl
def gQ (s:cT):arX:=nK s.bE s.bE.length
def b4 (s:cT):Nat:=(gQ s).length
def hd (s:cT)(c:Nat):Nat:=((gQ s).getD c ⟨0,0⟩).iv.toNat
def pQ (s:cT)(c:Nat):Int:=((gQ s).getD c ⟨0,0⟩).tM
def nd (s:cT)(i c:Nat):Int:=pQ s c*m9 s i (hd s c)
def ru (s:cT)(l:ar)(i:Nat):Int:= -(l.getD (2*jR s (i / 2)+i % 2) 0)
theorem wC (s:cT){c:Nat}(a1:c<b4 s):(gQ s)[c]? = some ⟨(hd s c:Int),pQ s c⟩/\hd s c<s.bE.length/\(pQ s c=1\/pQ s c = -1):=by
 have h1:(gQ s)[c]? = some (gQ s)[c]:=dy a1;have h2:(gQ s).getD c ⟨0,0⟩=(gQ s)[c]:=by rw[dN,h1];rfl
 obtain⟨k,e1,e2,bG⟩:=Yk (dE _) (dH h1);have cR:hd s c=k:=by unfold hd;rw[h2,e1];rfl
 have dd:pQ s c=((gQ s)[c]).tM:=by unfold pQ;rw[h2]
 refine⟨?_,by omega,by rw[dd];exact bG⟩;rw[h1,cR,dd,<- e1]
theorem sv (s:cT):b4 s<=2*s.bE.length:=Li _ _
theorem PN (s:cT):(gQ s).map fE.iv=aC (b4 s) fun c=>(hd s c:Int):=by
 apply arw;intro c;rw[dK];by_cases h:c<b4 s
 ·rw[(wC s h).1,ho h];rfl
 rw[List.getElem?_eq_none_iff.2 (by unfold b4 at h;omega),List.getElem?_eq_none_iff.2 (by rw[c2];omega)];rfl
theorem Y1 (s:cT):(gQ s).map fE.tM=aC (b4 s) (pQ s):=by
 apply arw;intro c;rw[dK];by_cases h:c<b4 s
 ·rw[(wC s h).1,ho h];rfl
 rw[List.getElem?_eq_none_iff.2 (by unfold b4 at h;omega),List.getElem?_eq_none_iff.2 (by rw[c2];omega)];rfl
theorem Qk (s:cT)(h:mW s)(i:Nat){c:Nat}(a1:c<b4 s): -100<=nd s i c/\nd s i c<=100:=by have h1:=alJ s h (jR s (i / 2)) (i % 2) (hd s c);unfold nd m9;rcases(wC s a1).2.2 with e|e<;>rw[e]<;>omega
theorem aki (s:cT)(h:mW s)(l:ar)(aZ:l.length=2*s.cq.length)(aO:∀x∈l,-100<=x/\x<=100):GW s l=some (aC (2*dl s) (ru s l)):=by
 obtain⟨-,-,f3,f4⟩:=id h;have ul:=vH s;unfold GW;refine az (OY s (by omega)) ?_;rw[HI,hS,c2];unfold UO
 obtain⟨x,e,-⟩:=ic (f:=fun w:Int×ar=>Dc l (aC (dl s) fun q=>(jR s q:Int)) (dl s:Int) w.1 w.2) (fun (n:Nat) (_:Unit)=>((n:Int),aC (2*n) (ru s l))) (dl s) (fun _ _=>True) (fun _=>aC (2*dl s) (ru s l))
  (fun n a2 _ _=>by refine⟨(),?_,trivial⟩;have cp:=ZA s a2;have nR:J ((2:Int)*(jR s n:Int))=((2*jR s n:Nat):Int):=(by rw[c7];omega);have sQ:J (((2*jR s n:Nat):Int)+1)=((2*jR s n+1:Nat):Int):=xR (by omega);have x1:=aO l[2*jR s n] (List.getElem_mem (by omega));have x2:=aO l[2*jR s n+1] (List.getElem_mem (by omega));have p1:ru s l (2*n) = -l[2*jR s n]:=(by unfold ru;rw[show 2*n / 2=n by omega,show 2*n % 2=0 by omega,Nat.add_zero,dN,wZ];rfl);have p2:ru s l (2*n+1) = -l[2*jR s n+1]:=(by unfold ru;rw[show (2*n+1) / 2=n by omega,show (2*n+1) % 2=1 by omega,dN,wZ];rfl);unfold Dc;refine fb (c8 (az (x:=(jR s n:Int)) (by simp only;rw[dw];exact ho a2) ?_));rw[nR,sQ];refine c8 (az (x:=l[2*jR s n]) (by rw[dw];exact wZ) (c8 (az (x:=l[2*jR s n+1]) (by rw[dw];exact wZ) (cE (by simp only[dD,c2,dI,dQ];omega) ?_))));simp only;rw[fW,c7,c7,show 2*(n+1)=2*n+1+1 by omega,lW (2*n+1),lW (2*n),p1,p2];simp)
  (fun _ _=>by unfold Dc;exact fp rfl) () trivial
 exact az e rfl
def abV (s:cT)(l:ar):kk:=⟨((2*dl s:Nat):Int),(b4 s:Int),aC (2*dl s*b4 s) (fun x=>nd s (x / b4 s) (x % b4 s)),aC (2*dl s) (ru s l),aC (b4 s) fun _=>0⟩
theorem agF (s:cT)(h:mW s)(l:ar)(aZ:l.length=2*s.cq.length)(aO:∀x∈l,-100<=x/\x<=100):GI s l=some (abV s l):=by
 obtain⟨-,-,f3,f4⟩:=id h;have ul:=vH s;have oS:=sv s;unfold GI;refine az (OC s (by omega)) (az (aie s h) (az (OY s (by omega)) (az (aki s h l aZ aO) ?_)));show (if 0<=aE eI ((gQ s).map fE.iv)/\_ then _ else none)=_;rw[HI]
 show (if 0<=aE eI ((gQ s).map fE.iv)/\(8:Int)*aE eI ((gQ s).map fE.iv)<=281474976710656/\aE eI ((gQ s).map fE.iv)<9223372036854775808 then
  NL ((gQ s).map fE.iv) ((gQ s).map fE.tM) (aE ca s.bE) _ (J ((2:Int)*aE eI (aC (dl s) fun q=>(jR s q:Int)))) (aE eI ((gQ s).map fE.iv)) (aC (2*dl s) (ru s l)) (List.replicate (aE eI ((gQ s).map fE.iv)).toNat 0) 0 [] >>= fun cS=>some (⟨J ((2:Int)*aE eI (aC (dl s) fun q=>(jR s q:Int))),aE eI ((gQ s).map fE.iv),cS,aC (2*dl s) (ru s l),List.replicate (aE eI ((gQ s).map fE.iv)).toNat 0⟩:kk) else none)=_
 rw[PN,Y1,hS,c2,hS,c2,dw,fh,show J ((2:Int)*(dl s:Nat))=((2*dl s:Nat):Int) by rw[c7];omega,qT];refine c8 (az (x:=aC (2*dl s*b4 s) (fun x=>nd s (x / b4 s) (x % b4 s))) ?_ rfl);unfold NL
 obtain⟨x,e,-⟩:=ic (f:=fun w:Int×ar=>CW (aC (b4 s) fun c=>(hd s c:Int)) (aC (b4 s) (pQ s)) (s.bE.length:Nat) (aC (2*dl s*s.bE.length) fun x=>m9 s (x / s.bE.length) (x % s.bE.length)) ((2*dl s:Nat):Int) (b4 s:Int) (aC (2*dl s) (ru s l)) (aC (b4 s) fun _=>0) w.1 w.2) (fun (i:Nat) (_:Unit)=>((i:Int),aC (i*b4 s) (fun x=>nd s (x / b4 s) (x % b4 s)))) (2*dl s) (fun _ _=>True) (fun _=>aC (2*dl s*b4 s) (fun x=>nd s (x / b4 s) (x % b4 s)))
  (fun i aa _ _=>by
    refine⟨(),?_,trivial⟩;have aaS:i*b4 s<=12*16:=Nat.mul_le_mul (by omega) (by omega);have o3:i*s.bE.length<=12*8:=Nat.mul_le_mul (by omega) f4
    obtain⟨y,e2,-⟩:=ic (f:=fun w:Int×ar=>CV (aC (b4 s) fun c=>(hd s c:Int)) (aC (b4 s) (pQ s)) (s.bE.length:Nat) (aC (2*dl s*s.bE.length) fun x=>m9 s (x / s.bE.length) (x % s.bE.length)) (i:Int) (b4 s:Int) ((2*dl s:Nat):Int) (b4 s:Int) (aC (2*dl s) (ru s l)) (aC (b4 s) fun _=>0) w.1 w.2)
     (fun (c:Nat) (_:Unit)=>((c:Int),(aC (i*b4 s) fun x=>nd s (x / b4 s) (x % b4 s))++aC c (nd s i))) (b4 s) (fun _ _=>True) (fun _=>(aC (i*b4 s) fun x=>nd s (x / b4 s) (x % b4 s))++aC (b4 s) (nd s i))
     (fun c a1 _ _=>by refine⟨(),?_,trivial⟩;obtain⟨-,kh,pB⟩:=wC s a1;have sK:(i+1)*s.bE.length<=2*dl s*s.bE.length:=arn _ aa;rw[Nat.succ_mul] at sK;have iW:J (J ((i:Int)*(s.bE.length:Int))+(hd s c:Int))=((i*s.bE.length+hd s c:Nat):Int):=(by rw[<- Int.natCast_mul,c7 (x:=((i*s.bE.length:Nat):Int)),c7];omega);have h2:(i*s.bE.length+hd s c) / s.bE.length=i:=(by rw[Nat.mul_comm,Nat.mul_add_div (by omega),Nat.div_eq_of_lt kh];rfl);have R:(i*s.bE.length+hd s c) % s.bE.length=hd s c:=(by rw[Nat.mul_comm,Nat.mul_add_mod,Nat.mod_eq_of_lt kh]);have aoB:=Qk s h i a1;unfold CV;refine fb (c8 (az (x:=(hd s c:Int)) (by simp only;rw[dw];exact ho a1) (c8 (az (x:=pQ s c) (by simp only;rw[dw];exact ho a1) ?_))));rw[iW];refine c8 (az (x:=m9 s i (hd s c)) (by rw[dw,tm,h2,R]) (cE (by simp only[dD,c2,dI,dQ];omega) ?_));simp only;rw[fW,lW,show pQ s c*m9 s i (hd s c)=nd s i c from rfl,c7,List.append_assoc])
     (fun _ _=>by unfold CV;exact fp rfl) () trivial
    have z:(aC (i*b4 s) fun x=>nd s (x / b4 s) (x % b4 s))++aC 0 (nd s i)=aC (i*b4 s) fun x=>nd s (x / b4 s) (x % b4 s):=(by simp[aC]);rw[z] at e2;unfold CW;refine fb (az (x:=(aC (i*b4 s) fun x=>nd s (x / b4 s) (x % b4 s))++aC (b4 s) (nd s i)) (by unfold T1;rw[hS,c2];exact e2) ?_);simp only;rw[fW,PM])
  (fun _ _=>by unfold CW;exact fp rfl) () trivial
 have z:(aC (0*b4 s) fun x=>nd s (x / b4 s) (x % b4 s))=[]:=by simp[aC]
 rw[z] at e;exact e
def sd (s:cT)(r c:Nat):Int:=if r<2*dl s/\c<b4 s then nd s r c else 0
def l8 (s:cT)(l:ar)(r:Nat):Int:=if r<2*dl s then ru s l r else 0
def tr (s:cT)(N i c x:Nat):Int:=if (x / N<i\/(x / N=i/\x % N<c))/\x % N<b4 s then nd s (x / N) (x % N) else 0
theorem alK (s:cT){T N i c:Nat}(a1:c<b4 s)(fY:b4 s<=N)(iz:i*N+c<T){v:Int}(bh:v=nd s i c):(aC T (tr s N i c)).set (i*N+c) v=aC T (tr s N i (c+1)):=by
 have h2:(i*N+c) / N=i:=by rw[Nat.mul_comm,Nat.mul_add_div (by omega),Nat.div_eq_of_lt (by omega)];rfl
 have R:(i*N+c) % N=c:=by rw[Nat.mul_comm,Nat.mul_add_mod,Nat.mod_eq_of_lt (by omega)]
 rw[ld];refine eW fun x _=> ?_;unfold tr;by_cases e:x=i*N+c
 ·rw[dz e,e,h2,R,dz ⟨.inr ⟨rfl,by omega⟩,a1⟩,bh]
 rw[dB e];have dX : ¬(x / N=i/\x % N=c):=fun ⟨a,b⟩=>e (by rw[<- Nat.div_add_mod x N,a,b,Nat.mul_comm]);by_cases d:(x / N<i\/(x / N=i/\x % N<c))/\x % N<b4 s
 ·rw[dz d,dz ⟨by omega,d.2⟩]
 rw[dB d,dB (fun Cd=>d ⟨by omega,Cd.2⟩)]
theorem alL (s:cT)(T N i:Nat):aC T (tr s N i (b4 s))=aC T (tr s N (i+1) 0):=by
 refine eW fun x _=> ?_;unfold tr;by_cases d:(x / N<i\/(x / N=i/\x % N<b4 s))/\x % N<b4 s
 ·rw[dz d,dz ⟨by omega,d.2⟩]
 rw[dB d,dB (fun Cd=>d ⟨by omega,Cd.2⟩)]
theorem akT (s:cT)(T N:Nat):aC T (tr s N 0 0)=aC T fun _=>0:=eW fun x _=>by unfold tr;rw[dB (fun h=>by rcases h.1 with h|h;exact Nat.not_lt_zero _ h;exact Nat.not_lt_zero _ h.2)]
theorem alM (s:cT)(T N:Nat):aC T (tr s N (2*dl s) 0)=aC T fun x=>sd s (x / N) (x % N):=eW fun x _=>by
 unfold tr sd;by_cases d:x / N<2*dl s/\x % N<b4 s
 ·rw[dz d,dz ⟨.inl d.1,d.2⟩]
 rw[dB d,dB (fun Cd=>d ⟨by omega,Cd.2⟩)]
theorem akU (s:cT)(l:ar)(M:Nat):(aC M fun x=>if x<0 then l8 s l x else 0)=aC M fun _=>0:=eW fun j _=>by rw[eR]
theorem alN (s:cT)(l:ar)(M:Nat):(aC M fun x=>if x<2*dl s then l8 s l x else 0)=aC M (l8 s l):=eW fun j _=>by
 by_cases c:j<2*dl s
 ·rw[dz c]
 rw[dB c];unfold l8;rw[dB c]
theorem ajb (s:cT)(h:mW s)(l:ar)(aZ:l.length=2*s.cq.length)(aO:∀x∈l,-100<=x/\x<=100)(ft nf:Nat)(aq3:ft<=100)(aq4:nf<=100):
 Ga s l (ft:Int) (nf:Int)=some (((2*dl s+nf:Nat):Int),((b4 s+ft:Nat):Int),aC ((2*dl s+nf)*(b4 s+ft)) (fun x=>sd s (x / (b4 s+ft)) (x % (b4 s+ft))),aC (2*dl s+nf) (l8 s l),aC (b4 s+ft) fun _=>0):=by
 obtain⟨-,-,f3,f4⟩:=id h;have ul:=vH s;have oS:=sv s;have aoC:(2*dl s+nf)*(b4 s+ft)<=112*116:=Nat.mul_le_mul (by omega) (by omega);unfold Ga;refine az (agn s h) (az (x:=gQ s) (KT s (by omega)) ?_);have iW:J ((aE (fP 1 eI) (aC (2*dl s) fun r=>aC s.bE.length (m9 s r)))+(nf:Int))=((2*dl s+nf:Nat):Int):=by rw[fh,c2,c7];omega
 have nR:J ((aE fV (gQ s))+(ft:Int))=((b4 s+ft:Nat):Int):=by rw[fh];show J ((b4 s:Int)+(ft:Int))=_;rw[c7];omega
 have sQ:J (((2*dl s+nf:Nat):Int)*((b4 s+ft:Nat):Int))=(((2*dl s+nf)*(b4 s+ft):Nat):Int):=by rw[<- Int.natCast_mul,c7]
 rw[iW,nR,sQ,dw,dw,dw,qT,qT,qT,fh,c2];refine c8 (c8 (c8 ?_));refine az (x:=aC ((2*dl s+nf)*(b4 s+ft)) (fun x=>sd s (x / (b4 s+ft)) (x % (b4 s+ft)))) ?_ ?_
 ·unfold Sb
  obtain⟨x,e,-⟩:=ic (f:=fun w:Int×ar=>Cn s.cq s.bE l (gQ s) (aC (2*dl s) fun r=>aC s.bE.length (m9 s r)) ((2*dl s:Nat):Int) ((2*dl s+nf:Nat):Int) ((b4 s+ft:Nat):Int) (aC (2*dl s+nf) fun _=>0) (aC (b4 s+ft) fun _=>0) w.1 w.2) (fun (i:Nat) (_:Unit)=>((i:Int),aC ((2*dl s+nf)*(b4 s+ft)) (tr s (b4 s+ft) i 0))) (2*dl s) (fun _ _=>True) (fun _=>aC ((2*dl s+nf)*(b4 s+ft)) (fun x=>sd s (x / (b4 s+ft)) (x % (b4 s+ft))))
   (fun i aa _ _=>by
     refine⟨(),?_,trivial⟩;have I8:(i+1)*(b4 s+ft)<=(2*dl s+nf)*(b4 s+ft):=arn _ (by omega);rw[Nat.succ_mul] at I8
     obtain⟨y,e2,-⟩:=ic (f:=fun w:Int×ar=>Cm s.cq s.bE l (gQ s) (i:Int) (aC s.bE.length (m9 s i)) (aC (2*dl s) fun r=>aC s.bE.length (m9 s r)) ((2*dl s:Nat):Int) (b4 s:Int) ((2*dl s+nf:Nat):Int) ((b4 s+ft:Nat):Int) (aC (2*dl s+nf) fun _=>0) (aC (b4 s+ft) fun _=>0) w.1 w.2) (fun (c:Nat) (_:Unit)=>((c:Int),aC ((2*dl s+nf)*(b4 s+ft)) (tr s (b4 s+ft) i c))) (b4 s) (fun _ _=>True) (fun _=>aC ((2*dl s+nf)*(b4 s+ft)) (tr s (b4 s+ft) i (b4 s)))
      (fun c a1 _ _=>by refine⟨(),?_,trivial⟩;obtain⟨k0,kh,pB⟩:=wC s a1;have aoB:=Qk s h i a1;have J4:J (J ((i:Int)*((b4 s+ft:Nat):Int))+(c:Int))=((i*(b4 s+ft)+c:Nat):Int):=(by rw[<- Int.natCast_mul,iw (x:=((i*(b4 s+ft):Nat):Int)) (by omega) (by omega),c7];omega);unfold Cm;refine fb (cE (by show _/\(c:Int)<(b4 s:Int);simp only;omega) (az (x:=⟨(hd s c:Int),pQ s c⟩) (by simp only;rw[dw];exact k0) (c8 (az (x:=m9 s i (hd s c)) (by simp only;rw[dw];exact ho kh) ?_))));simp only;rw[J4];refine c8 (c8 ?_);rw[fW,dw,dG,show pQ s c*m9 s i (hd s c)=nd s i c from rfl,c7,alK s a1 (by omega) (by omega) rfl])
      (fun _ _=>by unfold Cm;exact fp rfl) () trivial
     unfold Cn;refine fb (c8 (az (x:=aC s.bE.length (m9 s i)) (by simp only;rw[dw];exact ho aa) (az (x:=aC ((2*dl s+nf)*(b4 s+ft)) (tr s (b4 s+ft) i (b4 s))) (by unfold Sa;rw[fh];exact e2) ?_)));simp only;rw[fW,alL])
   (fun _ _=>by unfold Cn;refine fp ?_;simp only;rw[alM]) () trivial
  rw[akT] at e;exact e
 refine az (V7 s (by omega)) ?_;rw[HI,hS,c2];refine az (x:=aC (2*dl s+nf) (l8 s l)) ?_ rfl;unfold Sc
 obtain⟨x,e,-⟩:=ic (f:=fun w:Int×ar=>Co l (aC (dl s) fun q=>(jR s q:Int)) (dl s:Int) ((2*dl s+nf:Nat):Int) ((b4 s+ft:Nat):Int) (aC ((2*dl s+nf)*(b4 s+ft)) (fun x=>sd s (x / (b4 s+ft)) (x % (b4 s+ft)))) (aC (b4 s+ft) fun _=>0) w.1 w.2) (fun (n:Nat) (_:Unit)=>((n:Int),aC (2*dl s+nf) fun x=>if x<2*n then l8 s l x else 0)) (dl s) (fun _ _=>True) (fun _=>aC (2*dl s+nf) (l8 s l))
  (fun n a2 _ _=>by
    refine⟨(),?_,trivial⟩;have cp:=ZA s a2;have nR : ∀a:Nat,a<=1000->J ((2:Int)*(a:Int))=((2*a:Nat):Int):=fun a bH=>(by rw[c7];omega);have x1:=aO l[2*jR s n] (List.getElem_mem (by omega));have x2:=aO l[2*jR s n+1] (List.getElem_mem (by omega));have p1:l8 s l (2*n) = -l[2*jR s n]:=(by unfold l8 ru;rw[cL,show 2*n / 2=n by omega,show 2*n % 2=0 by omega,Nat.add_zero,dN,wZ];rfl);have p2:l8 s l (2*n+1) = -l[2*jR s n+1]:=by unfold l8 ru;rw[cL,show (2*n+1) / 2=n by omega,show (2*n+1) % 2=1 by omega,dN,wZ];rfl
    have du : ∀k v,v=l8 s l k->(aC (2*dl s+nf) fun x=>if x<k then l8 s l x else 0).set k v=aC (2*dl s+nf) fun x=>if x<k+1 then l8 s l x else 0:=fun k v bh=>by
     rw[ld];refine eW fun j _=> ?_;by_cases c:j=k
     ·subst c;rw[dz rfl,cL];exact bh
     rw[dB c];by_cases cw:j<k
     ·rw[dz cw,cL]
     rw[dB cw,eR]
    unfold Co;refine fb (c8 (az (x:=(jR s n:Int)) (by simp only;rw[dw];exact ho a2) ?_));simp only;rw[nR (jR s n) (by omega),nR n (by omega),xR (n:=2*jR s n) (by omega),xR (n:=2*n) (by omega)];refine c8 (az (x:=l[2*jR s n]) (by rw[dw];exact wZ) (c8 (az (x:=l[2*jR s n+1]) (by rw[dw];exact wZ) ?_)));refine c8 (c8 (c8 (cE (by rw[List.length_set,c2,dw];omega) ?_)));rw[fW,c7 (x:=0-l[2*jR s n]),c7 (x:=0-l[2*jR s n+1]),dw,dw,dG,dG,du _ _ (by rw[p1];omega),du _ _ (by rw[p2];omega),show 2*(n+1)=2*n+1+1 by omega])
  (fun _ _=>by unfold Co;refine fp ?_;simp only;rw[alN]) () trivial
 rw[Nat.mul_zero,akU] at e;exact e
theorem amg (x:Rat):Lc (hi x)=some (hi (-x)):=by
 have e:tt (hM x.num)=some (hM (-x.num)):=by
  have:tt (hM x.num)=(oD (!(decide (x.num<0))) (L (x.num.natAbs:Int))).bind fun r=>some r:=rfl;rw[this,uF (by omega)]
  have:fs (!(decide (x.num<0))) (x.num.natAbs:Int) = -x.num:=by
   unfold fs;by_cases c:x.num<0
   ·rw[decide_eq_true c];simp;omega
   rw[decide_eq_false c];simp;omega
  rw[this];rfl
 refine az (o:=tt (hM x.num)) e ?_;unfold hi fg;rw[Rat.neg_num,Rat.neg_den];rfl
theorem ZX {p:kk}{m n:Nat}{a:Nat->Nat->Int}{b:Nat->Int}(h:nA p m n a b)(C:ar):nA ⟨p.gC,p.fi,p.bR,p.bP,C⟩ m n a b :=
 ⟨h.rows,h.gQ,h.iu,h.IJ,h.Cf,h.Mk,h.hm,h.a2,h.mw,h.m1⟩
theorem XI {ha:arQ}{k:Nat}: ∀ {n:Nat},k<n->n<=ha.length-> ∃x∈nK ha n,x.iv=(k:Int)
 | 0,h,_=>by omega
 | n+1,h,a2=>by
  rw[nK,dy (show n<ha.length by omega)];by_cases e:k=n
  ·subst e
   simp only;unfold xV;by_cases c:ha[k].h5=2
   ·exact⟨⟨(k:Int),-1⟩,by rw[List.mem_append,List.mem_append,dB (show ¬ha[k].h5=1 by omega)];exact .inr (.inr (by simp)),rfl⟩
   exact⟨⟨(k:Int),1⟩,by rw[List.mem_append,List.mem_append,dB c];exact .inr (.inl (by simp)),rfl⟩
  obtain⟨x,h1,h2⟩:=XI (ha:=ha) (k:=k) (n:=n) (by omega) (by omega);exact⟨x,List.mem_append_left _ h1,h2⟩
theorem akj (s:cT){k:Nat}(a4:k<s.bE.length): ∃c,c<b4 s/\hd s c=k:=by obtain⟨x,h1,h2⟩:=XI a4 (dE _);obtain⟨c,a1⟩:=arB h1;have aZ:c<b4 s:=gD a1;obtain⟨e,-,-⟩:=wC s aZ;have e2:(gQ s)[c]? = some x:=a1;rw[e2] at e;have:=dJ e;rw[this] at h2;exact⟨c,aZ,by simp only at h2;omega⟩
def ji (s:cT)(x:Nat->Rat)(c k:Nat):Rat:=cH c fun j=>if hd s j=k then (pQ s j:Rat)*x j else 0
def vj (s:cT)(c k:Nat):Bool:=(List.range c).any fun j=>hd s j == k
theorem akV (s:cT)(c k:Nat):vj s (c+1) k=(vj s c k || (hd s c == k)):=by unfold vj;rw[List.range_succ,List.any_append];simp
theorem amh {s:cT}{x:Nat->Rat}{c k:Nat}(h:vj s c k=false):ji s x c k=0:=by unfold vj at h;rw[List.any_eq_false] at h;exact pC fun j ap=>dB fun e=>h j (List.mem_range.2 ap) (by rw[e];simp)
theorem alO (s:cT){k:Nat}(a4:k<s.bE.length):vj s (b4 s) k=true:=by obtain⟨c,h1,h2⟩:=akj s a4;unfold vj;exact List.any_eq_true.2 ⟨c,List.mem_range.2 h1,by rw[h2];simp⟩
theorem ami {s:cT}{x:Nat->Rat}{w:Rat}{K:Nat}(U:∀j,ei K (x j*w)): ∀ {c:Nat} (k:Nat),c<=b4 s->ei (c*K) (ji s x c k*w):=fun {c} k a1=>by
 have:ji s x c k*w=cH c fun j=>(if hd s j=k then (pQ s j:Rat)*x j else 0)*w:=by unfold ji;rw[Rat.mul_comm,<- kQ];exact gT fun j _=>Rat.mul_comm _ _
 rw[this];refine ei.sum fun j ap=> ?_;obtain⟨-,-,e⟩:=wC s (show j<b4 s by omega);split
 ·rcases e with e|e<;>rw[e]
  ·rw[show ((1:Int):Rat)*x j*w=x j*w by grind];exact U j
  rw[show ((-1:Int):Rat)*x j*w = -(x j*w) by grind];exact(U j).neg
 exact⟨0,by rw[Rat.zero_mul];rfl,by simp⟩
theorem amj {x y:Rat}(U:e5 x)(aY:e5 y)(h:e5 (x+y)):AP (hi x) (hi y)=some (hi (x+y)):=az (Zz U aY) (az (amf h) rfl)
def u0 (s:cT)(x:Nat->Rat)(c:Nat):arU:=aC s.bE.length fun k=>if vj s c k then hi (ji s x c k) else none
theorem akW (s:cT)(v:mW s){x:Nat->Rat}(U:∀j,e5 (x j))(bI:∀c k,c<=b4 s->e5 (ji s x c k)):Gt s (aC (b4 s) fun j=>hi (x j))=some (aC s.bE.length fun k=>hi (ji s x (b4 s) k)):=by
 have bj:=v.2.2.2;have oS:=sv s;have aZ:aE ca s.bE=(s.bE.length:Int):=fh ..;have jG:aE fV (gQ s)=(b4 s:Int):=fh ..;unfold Gt;rw[aZ];refine c8 (az (x:=gQ s) (KT s (by omega)) (az ?_ rfl));unfold S3;rw[jG]
 obtain⟨z,e,-⟩:=ic (f:=fun w:Int×arU=>CF (aC (b4 s) fun j=>hi (x j)) (gQ s) (b4 s:Int) w.1 w.2) (fun (c:Nat) (_:Unit)=>((c:Int),u0 s x c)) (b4 s) (fun _ _=>True) (fun _=>aC s.bE.length fun k=>hi (ji s x (b4 s) k))
  (fun c a1 _ _=>by
    refine⟨(),?_,trivial⟩;obtain⟨k0,kh,pB⟩:=wC s a1
    have fin : ∀y,y=hi (ji s x (c+1) (hd s c))->(u0 s x c).set (hd s c) y=u0 s x (c+1):=fun y aY=>by
     unfold u0;rw[ld];refine eW fun k _=> ?_;rw[akV];by_cases e:k=hd s c
     ·subst e;rw[dz rfl,aY];simp
     have e2:ji s x (c+1) k=ji s x c k:=(by show ji s x c k+(if hd s c=k then _ else _)=_;rw[dB (fun q=>e q.symm)];grind);rw[dB e,e2,show (hd s c == k)=false from beq_false_of_ne (fun q=>e q.symm),Bool.or_false]
    have last:ji s x (c+1) (hd s c)=ji s x c (hd s c)+(pQ s c:Rat)*x c:=(by show ji s x c _+(if hd s c=hd s c then _ else _)=_;rw[dz rfl]);have hlen:(u0 s x c).length=s.bE.length:=c2 ..;have aam:(u0 s x c)[0+(hd s c:Int).toNat]? = some (if vj s c (hd s c) then hi (ji s x c (hd s c)) else none):=by rw[dw];exact ie kh
    have put : ∀ {F:ar2->Prop} {y:Rat},y=(pQ s c:Rat)*x c->e5 y ->
     ((if vj s c (hd s c) then hi (ji s x c (hd s c)) else none:arN).elim (if (0+(hd s c:Int).toNat)<(u0 s x c).length then some (Sum.inl (J ((c:Int)+(1:Int)),(u0 s x c).set (0+(hd s c:Int).toNat) (hi y))) else none)
       fun _=>AP (if vj s c (hd s c) then hi (ji s x c (hd s c)) else none) (hi y) >>= fun ef=>if (0+(hd s c:Int).toNat)<(u0 s x c).length then some (Sum.inl (J ((c:Int)+(1:Int)),(u0 s x c).set (0+(hd s c:Int).toNat) ef)) else none)
     = some (Sum.inl (((c+1:Nat):Int),u0 s x (c+1)):(Int×arU)⊕(arU)):=fun {F y} aY apc=>by
     rw[fW,dw,dG]
     cases q:vj s c (hd s c) with
     | false =>
      rw[dB (by simp)];show (if _ then _ else _)=_;rw[dz (by rw[hlen];exact kh),fin _ (by rw[last,amh q,aY];congr 1;grind)]
     | true =>
      rw[dz rfl];show (AP (hi (ji s x c (hd s c))) (hi y) >>= _)=_;have bS:e5 (ji s x c (hd s c)+y):=(by rw[aY,<- last];exact bI _ _ a1);refine az (amj (bI _ _ (Nat.le_of_lt a1)) apc bS) ?_;rw[dz (by rw[hlen];exact kh),fin _ (by rw[last,aY])]
    unfold CF;simp only;refine fb (cE (by show _/\(c:Int)<(b4 s:Int);omega) (az k0 (c8 (az (x:=hi (x c)) (by rw[dw];exact ho a1) ?_))));rcases pB with e|e
    ·refine fp (cE (by rw[hlen];simp only;omega) (az aam ?_));exact put (F:=fun _=>True) (by rw[e];grind) (U c)
    refine fb (az (amg (x c)) (cE (by rw[hlen];simp only;omega) (az aam ?_)));exact put (F:=fun _=>True) (by rw[e];grind) (U c).neg)
  (fun _ _=>by unfold CF;refine fp ?_;simp only;congr 2;exact eW fun k a4=>by rw[alO s a4,dz rfl]) () trivial
 have e0:u0 s x 0=List.replicate ((s.bE.length:Int).toNat) none:=by rw[dw,qT];exact eW fun k _=>rfl
 rw[<- e0];exact e
structure Mn (m n:Nat) (a:Nat->Nat->Int) (b:Nat->Int) (c:Nat->Rat) (x:Nat->Rat) (w:Rat):Prop where
 m6:wy m n a b c x
 pos:0<w
 sc:ei (ov 100 m) w
 apd : ∀j,ei (ov 100 m) (x j*w)
 fit : ∀j,e5 (x j)
theorem alP {m:Nat}(hm:m<=20):ov 100 m<=fe:=Fe▸AN (by omega) hm
theorem ZB {s:cT}{x:Nat->Rat}{w:Rat}{m:Nat}(hm:m<=20)(oS:b4 s<=16)(ai:0<w)(hw:ei (ov 100 m) w)(U:∀j,ei (ov 100 m) (x j*w)){c:Nat}(k:Nat)(a1:c<=b4 s):e5 (ji s x c k):=by
 have h1:=ami U k a1;have jI:=alP hm;have h2:c*ov 100 m<=16*fe:=Nat.mul_le_mul (by omega) jI;have R:16*fe<=40*(fe*100):=by omega
 exact s8 (K:=21*100*(fe*fe)) (hw.mono (Nat.le_trans jI Fl)) (h1.mono (Nat.le_trans h2 (Nat.le_trans R QG))) (by grind) (by grind) (rJ (dE _))
theorem Yl {α:Type}{T n:Nat}(f:Nat->α)(h:n<=T):(aC T f).take n=aC n f:=by
 apply arw;intro i;by_cases c:i<n
 ·rw[dS,dz c,tm,ho c]
 rw[dS,dB c,List.getElem?_eq_none_iff.2 (by rw[c2];omega)]
theorem akX (s:cT)(v:mW s){p:kk}{m n:Nat}{a:Nat->Nat->Int}{b:Nat->Int}(h:nA p m n a b){c:Nat->Int}(oS:p.h3=aC n c)(a1:∀j,j<n-> -100<=c j/\c j<=100)(a2:b4 s<=n):
 (¬sy m n a b/\vk s p.gC p.fi p.bR p.bP p.h3=some ([],[],false))\/(sy m n a b/\ ¬Bounded m n a b (iX n c)/\vk s p.gC p.fi p.bR p.bP p.h3=some ([],[],false)) \/
   ∃x w r,Mn m n a b (iX n c) x w/\vk s p.gC p.fi p.bR p.bP p.h3=some (aC s.bE.length (fun k=>hi (ji s x (b4 s) k)),r,true):=by
 have bj:=v.2.2.2;have aq5:=sv s;obtain⟨r,e,ak⟩:=Yh h oS a1;rcases ak with ⟨q,rfl⟩|⟨q,q2,rfl⟩|⟨x,w,q,⟨iW,nR,sQ⟩,bB,cu,rfl⟩
 ·exact .inl ⟨q,az e (gd rfl rfl)⟩
 ·exact .inr (.inl ⟨q,q2,az e (gd rfl rfl)⟩)
 have jG:aE fV (gQ s)=(b4 s:Int):=fh ..;have cp:=akW s v bB (fun c k a1=>ZB h.hm (by omega) iW nR sQ k a1);have key : ∃r,vk s p.gC p.fi p.bR p.bP p.h3=some (aC s.bE.length (fun k=>hi (ji s x (b4 s) k)),r,true):=by refine⟨((aC n fun j=>hi (x j)).drop (b4 s)).take (((aC n fun j=>hi (x j)).map (fD 3 cZ)).length-b4 s),az e (iQ rfl (az (x:=gQ s) (KT s (by omega)) ?_))⟩;rw[jG];simp only[dw];refine c8 (cE (by simp only[c2];omega) (az ?_ (cE (by simp only[c2];omega) rfl)));simp only[List.drop_zero,Nat.sub_zero];rw[Yl _ a2];exact cp
 obtain⟨r,ak⟩:=key;exact .inr (.inr ⟨x,w,r,⟨q,iW,nR,sQ,bB⟩,ak⟩)
theorem ahw {Ck:Nat}{l:ar}(h:xL Ck l=true):l.length=2*Ck/\ ∀x∈l,-100<=x/\x<=100:=by unfold xL at h;rw[dO,decide_eq_true_eq,List.all_eq_true] at h;exact⟨h.1,fun x U=>by have:=h.2 x U;unfold uP at this;simpa using this⟩
theorem ajc (s:cT)(i0:pS s)(l:ar)(aZ:l.length<=maxLen):
 (xj s l=some true/\yF s l=some true/\pR s=some true/\xL s.cq.length l=true)\/(xj s l=some false/\yF s l=some false):=by
 obtain⟨p,p1,p2⟩:=D5 s i0;have v9:p=true->s.cq.length<=6:=fun h=>(GC s i0 (h▸p1)).2.2.1;have e:=ai0 s p p1 v9 l aZ
 cases p with
 | false=>exact .inr ⟨e,az p2 (iQ rfl rfl)⟩
 | true =>
  rw[Bool.true_and] at e;have e2:yF s l=some (xL s.cq.length l):=az p2 (gd rfl (az (ahq s (v9 rfl) l aZ) rfl));by_cases c:xL s.cq.length l=true
  ·rw[c] at e e2;exact .inl ⟨e,e2,p1,c⟩
  rw[Bool.not_eq_true] at c;rw[c] at e e2;exact .inr ⟨e,e2⟩
theorem alQ {x y:Rat}(U:e5 x)(aY:e5 y)(h:e5 (x+y)):KO (cl x) (cl y)=some (cl (x+y)):=az (y8 U) (gd rfl (az (y8 aY) (gd rfl (az (H5 U aY h) rfl))))
theorem alR {x y:Rat}(U:e5 x)(aY:e5 y)(h:e5 (x + -y)):KP (cl x) (cl y)=some (cl (x + -y)):=az (y8 U) (gd rfl (az (y8 aY) (gd rfl (az (LS aY) (az (H5 U aY.neg h) rfl)))))
theorem Ym {n:Nat}(a2:n<=1000){y:Nat->Rat}(aY:∀k,k<n->e5 (y k)):Aj (aC n fun k=>cl (y k))=some true:=by
 have aZ:aE aG (aC n fun k=>cl (y k))=(n:Int):=by rw[fh,c2]
 unfold Aj;rw[aZ];refine az (x:= .inl ()) ?_ rfl;unfold U1
 obtain⟨_,e,-⟩:=ic (f:=fun w:Int=>Dj (aC n fun k=>cl (y k)) (n:Int) w) (fun (k:Nat) (_:Unit)=>(k:Int)) n (fun _ _=>True) (fun _=>(.inl ():Unit⊕Unit))
  (fun k a4 _ _=>by refine⟨(),?_,trivial⟩;unfold Dj;exact fb (c8 (az (gt rfl (ho a4)) (az (y8 (aY k a4)) (gd rfl (by rw[fW]))))))
  (fun _ _=>by unfold Dj;exact fp rfl) () trivial
 exact e
theorem ajd {n:Nat}(a2:n<=24):Gz (n:Int)=some (.inl (aC n fun _=>cl 0)):=by
 have fH:KG=some (cl 0):=az (tJ (n:=0) (m2.2 (by omega))) rfl;unfold Gz;refine az (wu _ _ _) (gd (decide_eq_true (by omega)) (az (x:=aC n fun _=>cl 0) ?_ rfl));unfold Kn Ue
 obtain⟨_,e,-⟩:=ic (f:=fun w:arI=>C6 (n:Int) w) (fun (k:Nat) (_:Unit)=>aC k fun _=>cl (0:Rat)) n (fun _ _=>True) (fun _=>aC n fun _=>cl (0:Rat))
  (fun k a4 _ _=>by refine⟨(),?_,trivial⟩;unfold C6;refine lT (by rw[c2];omega) (az fH (cE (by simp only[dD,c2,List.length_singleton];omega) ?_));rw[lW k])
  (fun _ _=>by unfold C6;exact la (by rw[c2];omega) rfl) () trivial
 exact az e rfl
theorem akk (s:cT)(v:mW s)(ok:pR s=some true){x:Nat->Rat}(U:∀j,e5 (x j))(bI:∀c k,c<=b4 s->e5 (ji s x c k)):DV s (aC (b4 s) fun j=>cl (x j))=some (aC s.bE.length (fun k=>cl (ji s x (b4 s) k)),true):=by
 have bj:=v.2.2.2;have oS:=sv s;have hw:yv s=some (aC (b4 s) (fun c=>(hd s c:Int)),aC (b4 s) (pQ s)):=by rw[<- PN,<- Y1];exact OC s (by omega)
 unfold DV;refine az ok (gd rfl (az hw ?_));simp only;rw[fh,hS,fh,c2,c2];refine iQ (vR rfl) (az (Ym (by omega) fun k _=>U k) (gd rfl (az (ajd (by omega)) ?_)));simp only;refine az (x:=aC s.bE.length fun k=>cl (ji s x (b4 s) k)) ?_ (az (Ym (by omega) fun k _=>bI _ k (dE _)) (gd rfl rfl));unfold Tj
 obtain⟨_,e,-⟩:=ic (f:=fun w:Int×arI=>CG (aC (b4 s) fun j=>cl (x j)) (aC (b4 s) (pQ s)) (aC (b4 s) fun c=>(hd s c:Int)) (b4 s:Int) w.1 w.2) (fun (c:Nat) (_:Unit)=>((c:Int),aC s.bE.length fun k=>cl (ji s x c k))) (b4 s) (fun _ _=>True) (fun _=>aC s.bE.length fun k=>cl (ji s x (b4 s) k))
  (fun c a1 _ _=>by
    refine⟨(),?_,trivial⟩;obtain⟨-,cw,j8⟩:=wC s a1
    have rq : ∀z,z=ji s x (c+1) (hd s c)->(aC s.bE.length fun k=>cl (ji s x c k)).set (0+(hd s c:Int).toNat) (cl z)=aC s.bE.length fun k=>cl (ji s x (c+1) k):=fun z cK=>by
     rw[dw,dG,ld];refine eW fun k _=> ?_;by_cases e:k=hd s c
     ·rw[dz e,cK,e]
     rw[dB e];congr 1;unfold ji;rw[cH,dB fun y=>e y.symm,Rat.add_zero]
    have d4:ji s x (c+1) (hd s c)=ji s x c (hd s c)+(pQ s c:Rat)*x c:=(by unfold ji;rw[cH,dz rfl]);have f1:=bI c (hd s c) (by omega);have f2:=bI (c+1) (hd s c) (by omega);simp only;unfold CG;refine fb (c8 (az (gt rfl (ho a1)) (c8 (az (gt rfl (ho a1)) ?_))));have rd:(aC s.bE.length fun k=>cl (ji s x c k))[0+(hd s c:Int).toNat]? = some (cl (ji s x c (hd s c))):=(by rw[dw];exact ie cw);rcases j8 with e|e
    ·have bS:ji s x c (hd s c)+x c=ji s x (c+1) (hd s c):=(by rw[d4,e,show ((1:Int):Rat)=1 from rfl,Rat.one_mul]);rw[e];refine fb (c8 (az rd (c8 (az (gt rfl (ho a1)) (az (alQ f1 (U c) (by rw[bS];exact f2)) (c8 ?_))))));rw[rq _ bS,fW]
    have bS:ji s x c (hd s c) + -x c=ji s x (c+1) (hd s c):=(by rw[d4,e,show ((-1:Int):Rat) = -1 from rfl];grind);rw[e];refine fp (c8 (az rd (c8 (az (gt rfl (ho a1)) (az (alR f1 (U c) (by rw[bS];exact f2)) (c8 ?_))))));rw[rq _ bS,fW])
  (fun _ _=>by simp only;unfold CG;exact fp rfl) () trivial
 have e0:(aC s.bE.length fun k=>cl (ji s x 0 k))=aC s.bE.length fun _=>cl 0:=eW fun k _=>rfl;rw[e0] at e;exact e
theorem alS {x:Rat}(h:e5 x):H4 (cl x):=by have p:=h.ec;have h1:=p.rP;have h2:=p.rc;exact⟨show (L (fg x).1.natAbs).length<=_ by omega,show (L (fg x).2).length<=_ by omega⟩
theorem akY (M N:Nat){i:Nat}(aa:i<M)(eY:M<=1000)(fY:N<=1000)(row:ar)(aZ:row.length=M*N)(q1 q2:ar):z8 (i:Int) (M:Int) (N:Int) row q1 q2=some (0+i*N,N):=by
 have h1:i*N<=1000*1000:=Nat.mul_le_mul (by omega) fY;have h2:(i+1)*N<=1001*1000:=Nat.mul_le_mul (by omega) fY;have R:(i+1)*N<=M*N:=arn _ aa;have aj:(i+1)*N=i*N+N:=Nat.succ_mul i N;have e1:J ((i:Int)*(N:Int))=((i*N:Nat):Int):=by rw[<- Int.natCast_mul,c7]
 have e2:J (J ((i:Int)+1)*(N:Int))=(((i+1)*N:Nat):Int):=by rw[fW,<- Int.natCast_mul,c7]
 unfold z8;rw[e1,e2,dw,dw,aZ];refine c8 (c8 (c8 ?_));rw[show (i+1)*N-i*N=N by omega]
noncomputable def kF (s:cT)(k:Int):Int:=(rv s k).getD 0
noncomputable def hC (s:cT)(x y d n:Int)(q:Nat):Int:=if (hd s q:Int)=x then d*kF s x else if (hd s q:Int)=y then (0-n)*kF s y else 0
def kP (list:arS)(i:Nat):dp:=list.getD i ⟨0,0,0,0⟩
noncomputable def jT (s:cT)(list:arS)(r q:Nat):Int :=
 if r<2*dl s then sd s r q else if q<b4 s then (if (r-2*dl s) % 2=0 then hC s (kP list ((r-2*dl s) / 2)).bR (kP list ((r-2*dl s) / 2)).bP (kP list ((r-2*dl s) / 2)).cC (kP list ((r-2*dl s) / 2)).bQ q else hC s (kP list ((r-2*dl s) / 2)).bP (kP list ((r-2*dl s) / 2)).bR (kP list ((r-2*dl s) / 2)).cC (kP list ((r-2*dl s) / 2)).bQ q)
  else if q-b4 s=r-2*dl s then 1 else 0
def ej (s:cT)(k:Nat):Nat:=b4 s+2*k
def jL (s:cT)(k:Nat):Nat:=2*dl s+2*k
noncomputable def aI (s:cT)(list:arS)(N r c x:Nat):Int:=if x / N<r\/(x / N=r/\x % N<c) then jT s list (x / N) (x % N) else sd s (x / N) (x % N)
theorem akZ (s:cT)(list:arS)(T N:Nat):aC T (aI s list N (2*dl s) 0)=aC T fun x=>sd s (x / N) (x % N):=eW fun x _=>by
 unfold aI;by_cases c:x / N<2*dl s
 ·rw[dz (.inl c)];unfold jT;rw[dz c]
 rw[dB (fun h=>h.elim c fun h=>Nat.not_lt_zero _ h.2)]
theorem ZC (s:cT)(list:arS){T N r c:Nat}(a1:c<N){v:Int}(bh:v=jT s list r c):(aC T (aI s list N r c)).set (r*N+c) v=aC T (aI s list N r (c+1)):=by
 have h2:(r*N+c) / N=r:=by rw[Nat.mul_comm,Nat.mul_add_div (by omega),Nat.div_eq_of_lt a1];rfl
 have R:(r*N+c) % N=c:=by rw[Nat.mul_comm,Nat.mul_add_mod,Nat.mod_eq_of_lt a1]
 rw[ld];refine eW fun x _=> ?_;by_cases e:x=r*N+c
 ·rw[dz e,e];unfold aI;rw[h2,R,dz (.inr ⟨rfl,by omega⟩),bh]
 rw[dB e];have dX : ¬(x / N=r/\x % N=c):=fun ⟨a,b⟩=>e (by rw[<- Nat.div_add_mod x N,a,b,Nat.mul_comm]);unfold aI;by_cases g:x / N<r\/(x / N=r/\x % N<c)
 ·rw[dz g,cL]
 rw[dB g,eR]
theorem ak0 (s:cT)(list:arS){T N r c:Nat}(bh:sd s r c=jT s list r c):aC T (aI s list N r c)=aC T (aI s list N r (c+1)):=eW fun x _=>by
 unfold aI;by_cases g:x / N<r\/(x / N=r/\x % N<c)
 ·rw[dz g,cL]
 rw[dB g];by_cases e:x / N=r/\x % N=c
 ·rw[dz (.inr ⟨e.1,by omega⟩),e.1,e.2,bh]
 rw[eR]
theorem ak1 (s:cT)(list:arS){T N r b:Nat}(fY:N=ej s list.length)(aO:b<2*list.length)(ak:r=2*dl s+b):(aC T (aI s list N r (b4 s))).set (r*N+(b4 s+b)) 1=aC T (aI s list N (r+1) 0):=by
 have eS:b4 s+b<N:=by rw[fY];unfold ej;omega
 have h2:(r*N+(b4 s+b)) / N=r:=by rw[Nat.mul_comm,Nat.mul_add_div (by omega),Nat.div_eq_of_lt eS];rfl
 have R:(r*N+(b4 s+b)) % N=b4 s+b:=by rw[Nat.mul_comm,Nat.mul_add_mod,Nat.mod_eq_of_lt eS]
 rw[ld];refine eW fun x _=> ?_;by_cases e:x=r*N+(b4 s+b)
 ·rw[dz e,e];unfold aI;rw[h2,R,dz (.inl (by omega))];unfold jT;rw[eR,eR,cL]
 rw[dB e];have dX : ¬(x / N=r/\x % N=b4 s+b):=fun ⟨a,b⟩=>e (by rw[<- Nat.div_add_mod x N,a,b,Nat.mul_comm]);unfold aI;by_cases g:x / N<r\/(x / N=r/\x % N<b4 s)
 ·rw[dz g,cL]
 rw[dB g];by_cases d:x / N=r
 ·rw[dz (.inl (by omega)),d];unfold sd jT;rw[eR,eR,eR,eR]
 rw[eR]
theorem W9 (s:cT)(v:mW s)(list:arS){N T r:Nat}{x y d n:Int}(fY:b4 s<=N)(iz:(r+1)*N<=T)(aoD:T<=100000)(ak:2*dl s<=r)(U:rv s x=some (kF s x))(aY:rv s y=some (kF s y))
 (jw:0<=d*kF s x/\d*kF s x<=100) (kE:0<=n*kF s y/\n*kF s y<=100) (sa:0<=n/\n<=100) (RD : ∀q,q<b4 s->jT s list r q=hC s x y d n q) (f1 f2 i0 abW:Int) (t37:arS) (t38 fw fo a6 cw:Int) (q1 q2:ar) :
 J7 s.cq s.bE (gQ s) f1 f2 i0 abW (r*N) N t37 t38 fw fo (b4 s:Int) a6 cw n d x y q1 q2 0 (aC T (aI s list N r 0))=some (aC T (aI s list N r (b4 s))):=by
 have oS:=sv s;have bj:=v.2.2.2;have d6 : ∀q,sd s r q=0:=fun q=>by unfold sd;rw[eR]
 unfold J7
 obtain⟨z,e,-⟩:=ic (f:=fun w:Int×ar=>Cp s.cq s.bE (gQ s) f1 f2 i0 abW (r*N) N t37 t38 fw fo (b4 s:Int) a6 cw n d x y q1 q2 w.1 w.2) (fun (c:Nat) (_:Unit)=>((c:Int),aC T (aI s list N r c))) (b4 s) (fun _ _=>True) (fun _=>aC T (aI s list N r (b4 s)))
  (fun c a1 _ _=>by
    refine⟨(),?_,trivial⟩;obtain⟨k0,kh,pB⟩:=wC s a1;have aO:=RD c a1;have eS:r*N+c<T:=(by rw[Nat.succ_mul] at iz;omega);unfold Cp;simp only;rw[fW];refine fb (cE (by show _/\(c:Int)<(b4 s:Int);omega) (az k0 ?_));unfold hC at aO;by_cases e1:(hd s c:Int)=x
    ·rw[dz e1] at aO;refine gd (by simp only;rw[e1];simp) (az U (c8 (c8 ?_)));rw[dw,c7,ZC s list (by omega) aO.symm]
    rw[dB e1] at aO;refine iQ (by simp only;exact beq_false_of_ne e1) ?_;by_cases e2:(hd s c:Int)=y
    ·rw[dz e2] at aO;refine gd (by simp only;rw[e2];simp) (az aY (c8 (c8 ?_)));have hm:(0-n)*kF s y = -(n*kF s y):=(by rw[Int.zero_sub,Int.neg_mul]);rw[dw,c7 (x:=0-n),c7,ZC s list (by omega) aO.symm]
    rw[dB e2] at aO;refine iQ (by simp only;exact beq_false_of_ne e2) ?_;rw[ak0 s list (by rw[d6,aO])])
  (fun _ _=>by unfold Cp;exact fp rfl) () trivial
 exact e
structure Bz (s:cT) (b:dp):Prop where
 iu:rv s b.bR=some (kF s b.bR)
 Cf:rv s b.bP=some (kF s b.bP)
 abX:0<=b.cC*kF s b.bR/\b.cC*kF s b.bR<=100
 abY:0<=b.cC*kF s b.bP/\b.cC*kF s b.bP<=100
 abZ:0<=b.bQ*kF s b.bR/\b.bQ*kF s b.bR<=100
 ab0:0<=b.bQ*kF s b.bP/\b.bQ*kF s b.bP<=100
 n:0<=b.bQ/\b.bQ<=100
theorem Yn (s:cT)(list:arS)(i:Nat){q:Nat}(a0:q<b4 s):jT s list (2*dl s+2*i) q=hC s (kP list i).bR (kP list i).bP (kP list i).cC (kP list i).bQ q:=by unfold jT;rw[eR,dz a0,cL,show (2*dl s+2*i-2*dl s) / 2=i by omega]
theorem Yo (s:cT)(list:arS)(i:Nat){q:Nat}(a0:q<b4 s):jT s list (2*dl s+2*i+1) q=hC s (kP list i).bP (kP list i).bR (kP list i).cC (kP list i).bQ q:=by unfold jT;rw[eR,dz a0,eR,show (2*dl s+2*i+1-2*dl s) / 2=i by omega]
theorem ahx (s:cT)(v:mW s)(list:arS)(R:list.length<=3){i:Nat}(aa:i<list.length)(aO:Bz s (kP list i))(t37:arS)(t38:Int)(q1 q2:ar):
 Nf s.cq s.bE (gQ s) ((2*dl s:Nat):Int) (b4 s:Int) (i:Int) t37 t38 (kP list i).bR (kP list i).bP (jL s list.length:Int) (ej s list.length:Int) (kP list i).bQ (kP list i).cC q1 q2 0 (aC (jL s list.length*ej s list.length) (aI s list (ej s list.length) (2*dl s+2*i) 0)) =
  some (aC (jL s list.length*ej s list.length) (aI s list (ej s list.length) (2*dl s+2*(i+1)) 0)):=by
 have oS:=sv s;have ul:=vH s;obtain⟨-,-,aM,bj⟩:=id v;have eY:jL s list.length<=18:=by unfold jL;omega
 have fY:ej s list.length<=22:=by unfold ej;omega
 have abo:b4 s<=ej s list.length:=by unfold ej;omega
 have aoC:jL s list.length*ej s list.length<=18*22:=Nat.mul_le_mul eY fY;have jG:aE fV (gQ s)=(b4 s:Int):=fh ..;have J4:J ((2:Int)*(i:Int))=((2*i:Nat):Int):=by rw[c7];omega
 unfold Nf
 obtain⟨z,e,-⟩:=ic (f:=fun w:Int×ar=>Cq s.cq s.bE (gQ s) ((2*dl s:Nat):Int) (b4 s:Int) (i:Int) t37 t38 (kP list i).bR (kP list i).bP (jL s list.length:Int) (ej s list.length:Int) (kP list i).bQ (kP list i).cC q1 q2 w.1 w.2)
  (fun (k:Nat) (_:Unit)=>((k:Int),aC (jL s list.length*ej s list.length) (aI s list (ej s list.length) (2*dl s+2*i+k) 0))) 2 (fun _ _=>True) (fun _=>aC (jL s list.length*ej s list.length) (aI s list (ej s list.length) (2*dl s+2*(i+1)) 0))
  (fun k a4 _ _=>by
    refine⟨(),?_,trivial⟩;have ak:2*dl s+2*i+k<jL s list.length:=(by unfold jL;omega);have iW:J (J (((2*dl s:Nat):Int)+((2*i:Nat):Int))+(k:Int))=((2*dl s+2*i+k:Nat):Int):=(by rw[c7 (x:=((2*dl s:Nat):Int)+((2*i:Nat):Int)),c7];omega);have nR:J (J ((b4 s:Int)+((2*i:Nat):Int))+(k:Int))=((b4 s+(2*i+k):Nat):Int):=(by rw[c7 (x:=(b4 s:Int)+((2*i:Nat):Int)),c7];omega);have eP:=akY (jL s list.length) (ej s list.length) ak (by omega) (by omega) (aC (jL s list.length*ej s list.length) (aI s list (ej s list.length) (2*dl s+2*i+k) 0)) (c2 ..) q1 q2;rw[dG] at eP;have iz:(2*dl s+2*i+k+1)*ej s list.length<=jL s list.length*ej s list.length:=arn _ ak;have aoD:(2*dl s+2*i+k)*ej s list.length+ej s list.length<=jL s list.length*ej s list.length:=(by rw[<- Nat.succ_mul];exact iz);have eS:b4 s+(2*i+k)<ej s list.length:=by unfold ej;omega
    have am0:J7 s.cq s.bE (gQ s) ((2*dl s:Nat):Int) (b4 s:Int) (i:Int) (k:Int) ((2*dl s+2*i+k)*ej s list.length) (ej s list.length) t37 t38 (kP list i).bR (kP list i).bP (b4 s:Int) (jL s list.length:Int) (ej s list.length:Int) (kP list i).bQ (kP list i).cC (if (k:Int)=0 then (kP list i).bR else (kP list i).bP) (if (k:Int)=0 then (kP list i).bP else (kP list i).bR) q1 q2 0 (aC (jL s list.length*ej s list.length) (aI s list (ej s list.length) (2*dl s+2*i+k) 0)) =
     some (aC (jL s list.length*ej s list.length) (aI s list (ej s list.length) (2*dl s+2*i+k) (b4 s))):=by
     have:k=0\/k=1:=(by omega);rcases this with rfl|rfl
     ·rw[dz (by simp),dz (by simp)];exact W9 s v list abo iz (by omega) (by omega) aO.iu aO.Cf aO.abX aO.ab0 aO.n (fun q a0=>Yn s list i a0) _ _ _ _ _ _ _ _ _ _ _ _
     rw[dB (by simp),dB (by simp)];exact W9 s v list abo iz (by omega) (by omega) aO.Cf aO.iu aO.abY aO.abZ aO.n (fun q a0=>Yo s list i a0) _ _ _ _ _ _ _ _ _ _ _ _
    unfold Cq;simp only;rw[J4,iW,nR,jG,fW];refine fb (c8 (az eP (az am0 (c8 (cE (by rw[c2,dw];simp only;omega) ?_)))));simp only;rw[dw,ak1 s list rfl (by omega) (by omega)];rfl)
  (fun _ _=>by unfold Cq;refine fp ?_;simp only;rw[show 2*dl s+2*i+2=2*dl s+2*(i+1) by omega]) () trivial
 exact e
theorem ZD {list:arS}{i:Nat}(aa:i<list.length):list[i]? = some (kP list i):=by unfold kP;rw[dN,dy aa];rfl
theorem afC (s:cT)(v:mW s)(l:ar)(aZ:l.length=2*s.cq.length)(aO:∀x∈l,-100<=x/\x<=100)(list:arS)(R:list.length<=3)(gx:∀b∈list,Bz s b):
 Cy s l list=some ((jL s list.length:Int),(ej s list.length:Int),aC (jL s list.length*ej s list.length) (fun x=>jT s list (x / ej s list.length) (x % ej s list.length)),aC (jL s list.length) (l8 s l),aC (ej s list.length) fun _=>0):=by
 have oS:=sv s;have ul:=vH s;obtain⟨-,-,aM,bj⟩:=id v;have J5:J ((2:Int)*(aE eTBlock list))=((2*list.length:Nat):Int):=by rw[fh,c7];omega
 have cp:=ajb s v l aZ aO (2*list.length) (2*list.length) (by omega) (by omega);have wr:J (((2*dl s+2*list.length:Nat):Int)-((2*list.length:Nat):Int))=((2*dl s:Nat):Int):=by rw[c7];omega
 have jG:aE fV (gQ s)=(b4 s:Int):=fh ..;unfold Cy;rw[J5];refine az (x:=gQ s) (KT s (by omega)) ?_;rw[jG];refine az cp ?_;simp only;rw[wr];refine az (x:=aC (jL s list.length*ej s list.length) (fun x=>jT s list (x / ej s list.length) (x % ej s list.length))) ?_ rfl;unfold Sd;rw[fh]
 obtain⟨z,e,-⟩:=ic (f:=fun w:Int×ar=>Cr s.cq s.bE (gQ s) ((2*dl s:Nat):Int) (b4 s:Int) list (list.length:Int) (jL s list.length:Int) (ej s list.length:Int) (aC (jL s list.length) (l8 s l)) (aC (ej s list.length) fun _=>0) w.1 w.2)
  (fun (i:Nat) (_:Unit)=>((i:Int),aC (jL s list.length*ej s list.length) (aI s list (ej s list.length) (2*dl s+2*i) 0))) list.length (fun _ _=>True) (fun _=>aC (jL s list.length*ej s list.length) (fun x=>jT s list (x / ej s list.length) (x % ej s list.length)))
  (fun i aa _ _=>by refine⟨(),?_,trivial⟩;have d6:=ZD aa;have bS:=ahx s v list R aa (gx _ (dH d6)) list (list.length:Int) (aC (jL s list.length) (l8 s l)) (aC (ej s list.length) fun _=>0);unfold Cr;simp only;rw[fW];exact fb (c8 (az (x:=kP list i) (by rw[dw];exact d6) (az bS rfl)))
  )
  (fun _ _=>by unfold Cr;refine fp ?_;simp only;congr 2;refine eW fun x U=> ?_;have ak:x / ej s list.length<2*dl s+2*list.length:=Nat.div_lt_of_lt_mul (by rw[Nat.mul_comm];exact U);unfold aI;rw[dz (.inl ak)]) () trivial
 have e0:=akZ s list (jL s list.length*ej s list.length) (ej s list.length);rw[Nat.mul_zero,Nat.add_zero,e0] at e;exact e
theorem XJ (s:cT)(v:mW s)(list:arS)(R:list.length<=3){N r kD:Nat}{x y d n:Int}(fY:N=ej s list.length)(p3:kD<2*list.length)(ak:r=2*dl s+kD)(U:qN s x=some (kF s x))(aY:qN s y=some (kF s y))
 (jw:0<=d*kF s x/\d*kF s x<=100) (kE:0<=n*kF s y/\n*kF s y<=100) (sa:0<=n/\n<=100) (RD : ∀q,q<b4 s->jT s list r q=hC s x y d n q) :
 Ep s ⟨x,y,n,d⟩ (N:Int) ((b4 s+kD:Nat):Int)=some (aC N (jT s list r)):=by
 have oS:=sv s;have bj:=v.2.2.2;have aq6:b4 s+kD<N:=by rw[fY];unfold ej;omega
 have aq7:N<=22:=by rw[fY];unfold ej;omega
 unfold Ep;refine c8 (az (OC s (by omega)) ?_);simp only;rw[show (nK s.bE s.bE.length).map fE.iv=aC (b4 s) fun c=>(hd s c:Int) from PN s,hS,c2,dw,qT];refine az (x:=aC N fun q=>if q<b4 s then jT s list r q else 0) ?_ ?_
 ·unfold VA
  obtain⟨z,e,-⟩:=ic (f:=fun w:Int×ar=>DK ((b4 s+kD:Nat):Int) (aC (b4 s) fun c=>(hd s c:Int)) (b4 s:Int) s.cq s.bE x y n d w.1 w.2) (fun (c:Nat) (_:Unit)=>((c:Int),aC N fun q=>if q<c then jT s list r q else 0)) (b4 s) (fun _ _=>True) (fun _=>aC N fun q=>if q<b4 s then jT s list r q else 0)
   (fun c a1 _ _=>by
     refine⟨(),?_,trivial⟩;have aO:=RD c a1
     have put : ∀a,a=jT s list r c->(aC N fun q=>if q<c then jT s list r q else 0).set c a=aC N fun q=>if q<c+1 then jT s list r q else 0:=fun a bH=>by
      rw[ld];refine eW fun q _=> ?_;by_cases e:q=c
      ·subst e;rw[dz rfl,cL,bH]
      rw[dB e];by_cases g:q<c
      ·rw[dz g,cL]
      rw[dB g,eR]
     unfold DK;simp only;rw[fW];refine fb (c8 (az (x:=(hd s c:Int)) (by rw[dw];exact ho a1) ?_));unfold hC at aO;by_cases e1:(hd s c:Int)=x
     ·rw[dz e1] at aO;refine gd (by rw[e1];simp) (az (by rw[e1];exact U) (c8 (c8 ?_)));rw[dw,dG,c7,put _ aO.symm]
     rw[dB e1] at aO;refine iQ (beq_false_of_ne e1) ?_;by_cases e2:(hd s c:Int)=y
     ·rw[dz e2] at aO;have hm:(0-n)*kF s y = -(n*kF s y):=(by rw[Int.zero_sub,Int.neg_mul]);refine gd (by rw[e2];simp) (az (by rw[e2];exact aY) (c8 (c8 ?_)));rw[dw,dG,c7 (x:=0-n),c7,put _ aO.symm]
     rw[dB e2] at aO;refine iQ (beq_false_of_ne e2) ?_;rw[<- put 0 aO.symm];congr 3;rw[ld]
     exact eW fun q _=>by
      by_cases e:q=c
      ·subst e;rw[dz rfl,eR]
      rw[dB e])
   (fun _ _=>by unfold DK;exact fp rfl) () trivial
  have e0:(aC N fun q=>if q<0 then jT s list r q else 0)=aC N fun _=>0:=eW fun q _=>(by rw[eR]);rw[<- e0];exact e
 refine c8 (c8 ?_);rw[dw,dG,ld];congr 1;refine eW fun q _=> ?_;by_cases e:q=b4 s+kD
 ·rw[dz e,e];unfold jT;rw[eR,eR,cL]
 rw[dB e];by_cases g:q<b4 s
 ·rw[dz g]
 rw[dB g];unfold jT;rw[eR,dB g,eR]
theorem Pb (g:Nat->Nat->Int){N:Nat}(i:Nat):aC (i*N) (fun x=>g (x / N) (x % N))++aC N (g i)=aC ((i+1)*N) fun x=>g (x / N) (x % N):=by rw[Nat.succ_mul,LD];congr 1;exact eW fun q a0=>by rw[show (i*N+q) / N=i by rw[Nat.mul_comm,Nat.mul_add_div (by omega),Nat.div_eq_of_lt a0];rfl,show (i*N+q) % N=q by rw[Nat.mul_comm,Nat.mul_add_mod,Nat.mod_eq_of_lt a0]]
theorem alT (s:cT)(list:arS)(k:Nat){i:Nat}(aa:i<2*dl s):aC (b4 s) (nd s i)++aC k (fun _=>(0:Int))=aC (b4 s+k) (jT s list i):=by
 rw[LD];congr 1
 ·exact eW fun q a0=>by unfold jT sd;rw[dz aa,dz ⟨aa,a0⟩]
 exact eW fun q a0=>by unfold jT sd;rw[dz aa,eR]
theorem akl {α:Type}{T cj n:Nat}(f:Nat->α)(h:cj+n<=T):((aC T f).drop cj).take n=aC n fun q=>f (cj+q):=by
 apply arw;intro i;by_cases c:i<n
 ·rw[dS,dz c,arz,tm,ho c]
 rw[dS,dB c,List.getElem?_eq_none_iff.2 (by rw[c2];omega)]
theorem aje (s:cT)(v:mW s)(l:ar)(list:arS)(R:list.length<=3)(fH mn:Int)(fu ev j9 jy:ar):
 NM list fH s.cq s.bE ((2*dl s:Nat):Int) (b4 s:Int) (aC (2*dl s*b4 s) (fun x=>nd s (x / b4 s) (x % b4 s))) fu ev mn j9 jy 0 []=some (aC (2*dl s*ej s list.length) fun x=>jT s list (x / ej s list.length) (x % ej s list.length)):=by
 have oS:=sv s;have ul:=vH s;obtain⟨-,-,aM,bj⟩:=id v;have J5:J ((2:Int)*(aE eTBlock list))=((2*list.length:Nat):Int):=by rw[fh,c7];omega
 have fY:ej s list.length<=22:=by unfold ej;omega
 unfold NM
 obtain⟨z,e,-⟩:=ic (f:=fun w:Int×ar=>CX list fH s.cq s.bE ((2*dl s:Nat):Int) (b4 s:Int) (aC (2*dl s*b4 s) (fun x=>nd s (x / b4 s) (x % b4 s))) fu ev mn j9 jy w.1 w.2) (fun (i:Nat) (_:Unit)=>((i:Int),aC (i*ej s list.length) fun x=>jT s list (x / ej s list.length) (x % ej s list.length))) (2*dl s) (fun _ _=>True) (fun _=>aC (2*dl s*ej s list.length) fun x=>jT s list (x / ej s list.length) (x % ej s list.length))
  (fun i aa _ _=>by refine⟨(),?_,trivial⟩;have h1:i*b4 s<=12*16:=Nat.mul_le_mul (by omega) (by omega);have h2:(i+1)*b4 s<=2*dl s*b4 s:=arn _ aa;have aq:(i+1)*b4 s=i*b4 s+b4 s:=Nat.succ_mul i (b4 s);have aq8:i*ej s list.length<=12*22:=Nat.mul_le_mul (by omega) fY;have e1:J ((i:Int)*(b4 s:Int))=((i*b4 s:Nat):Int):=(by rw[<- Int.natCast_mul,c7]);have e2:J (J ((i:Int)+1)*(b4 s:Int))=(((i+1)*b4 s:Nat):Int):=(by rw[fW,<- Int.natCast_mul,c7]);have row:((aC (2*dl s*b4 s) (fun x=>nd s (x / b4 s) (x % b4 s))).drop (i*b4 s)).take ((i+1)*b4 s-i*b4 s)=aC (b4 s) (nd s i):=(by rw[show (i+1)*b4 s-i*b4 s=b4 s by omega,akl _ (by omega)];exact eW fun q a0=>by rw[show (i*b4 s+q) / b4 s=i by rw[Nat.mul_comm,Nat.mul_add_div (by omega),Nat.div_eq_of_lt a0];rfl,show (i*b4 s+q) % b4 s=q by rw[Nat.mul_comm,Nat.mul_add_mod,Nat.mod_eq_of_lt a0]]);have am1:aC (i*ej s list.length) (fun x=>jT s list (x / ej s list.length) (x % ej s list.length))++aC (b4 s) (nd s i)++aC (2*list.length) (fun _=>(0:Int))=aC ((i+1)*ej s list.length) fun x=>jT s list (x / ej s list.length) (x % ej s list.length):=(by rw[List.append_assoc,alT s list _ aa,<- Pb (jT s list) i];rfl);unfold CX;simp only;rw[e1,e2,J5,dw,dw,dw,row,qT,am1,fW];refine fb (c8 (c8 (cE ⟨by omega,by rw[c2];exact h2⟩ (cE (by simp only[dD,c2];omega) (c8 (cE (by rw[c2,Nat.succ_mul];omega) rfl))))))
  )
  (fun _ _=>by unfold CX;exact fp rfl) () trivial
 rw[Nat.zero_mul] at e;exact e
theorem ajf (s:cT)(v:mW s)(l:ar)(list:arS)(R:list.length<=3)(gx:∀b∈list,Bz s b/\qN s b.bR=some (kF s b.bR)/\qN s b.bP=some (kF s b.bP))(fH mn:Int)(fu ev j9 jy:ar):
 NN (ej s list.length:Int) list (list.length:Int) s.cq s.bE fH (b4 s:Int) fu ev j9 mn jy 0 (aC (2*dl s*ej s list.length) fun x=>jT s list (x / ej s list.length) (x % ej s list.length)) (aC (2*dl s) (l8 s l)) =
  some (aC (jL s list.length*ej s list.length) (fun x=>jT s list (x / ej s list.length) (x % ej s list.length)),aC (jL s list.length) (l8 s l)):=by
 have oS:=sv s;have ul:=vH s;obtain⟨-,-,aM,bj⟩:=id v;have fY:ej s list.length<=22:=by unfold ej;omega
 unfold NN
 obtain⟨z,e,-⟩:=ic (f:=fun w:Int×ar×ar=>CY (ej s list.length:Int) list (list.length:Int) s.cq s.bE fH (b4 s:Int) fu ev j9 mn jy w.1 w.2.1 w.2.2) (fun (i:Nat) (_:Unit)=>((i:Int),(aC ((2*dl s+2*i)*ej s list.length) fun x=>jT s list (x / ej s list.length) (x % ej s list.length)),aC (2*dl s+2*i) (l8 s l))) list.length (fun _ _=>True) (fun _=>(aC (jL s list.length*ej s list.length) (fun x=>jT s list (x / ej s list.length) (x % ej s list.length)),aC (jL s list.length) (l8 s l)))
  (fun i aa _ _=>by refine⟨(),?_,trivial⟩;have d6:=ZD aa;obtain⟨aO,hA,M1⟩:=gx _ (dH d6);have J4:J ((2:Int)*(i:Int))=((2*i:Nat):Int):=(by rw[c7];omega);have iW:J ((b4 s:Int)+((2*i:Nat):Int))=((b4 s+2*i:Nat):Int):=(by rw[c7];omega);have nR:J (((b4 s+2*i:Nat):Int)+1)=((b4 s+(2*i+1):Nat):Int):=(by rw[fW];rfl);have r1:=XJ s v list R (r:=2*dl s+2*i) (kD:=2*i) rfl (by omega) rfl hA M1 aO.abX aO.ab0 aO.n (fun q a0=>Yn s list i a0);have r2:=XJ s v list R (r:=2*dl s+2*i+1) (kD:=2*i+1) rfl (by omega) (by omega) M1 hA aO.abY aO.abZ aO.n (fun q a0=>Yo s list i a0);have hm:(2*dl s+2*i+1+1)*ej s list.length<=18*22:=Nat.mul_le_mul (by omega) fY;have sK:(2*dl s+2*i+1)*ej s list.length<=18*22:=Nat.mul_le_mul (by omega) fY;have a6:=Pb (N:=ej s list.length) (jT s list) (2*dl s+2*i);have cw:=Pb (N:=ej s list.length) (jT s list) (2*dl s+2*i+1);have j8:aC (2*dl s+2*i) (l8 s l)++[0,0]=aC (2*dl s+2*(i+1)) (l8 s l):=(by rw[show 2*dl s+2*(i+1)=2*dl s+2*i+2 by omega,LD (2*dl s+2*i) 2];congr 1;have g0 : ∀j,l8 s l (2*dl s+2*i+j)=0:=fun j=>(by unfold l8;rw[eR]);simp only[aC,g0];rfl);unfold CY;simp only;rw[J4,iW,nR,fW];refine fb (c8 (az (x:=kP list i) (by rw[dw];exact d6) (az r1 (cE (by rw[a6,c2];omega) (az r2 (cE (by rw[a6,cw,c2];omega) (cE (by rw[j8,c2];omega) ?_)))))));rw[a6,cw,j8,show 2*dl s+2*i+1+1=2*dl s+2*(i+1) by omega])
  (fun _ _=>by unfold CY;exact fp rfl) () trivial
 exact e
noncomputable def abp (s:cT)(l:ar)(list:arS):kk:=⟨(jL s list.length:Int),(ej s list.length:Int),aC (jL s list.length*ej s list.length) (fun x=>jT s list (x / ej s list.length) (x % ej s list.length)),aC (jL s list.length) (l8 s l),aC (ej s list.length) fun _=>0⟩
theorem agG (s:cT)(v:mW s)(l:ar)(aZ:l.length=2*s.cq.length)(aO:∀x∈l,-100<=x/\x<=100)(list:arS)(R:list.length<=3)(gx:∀b∈list,Bz s b/\qN s b.bR=some (kF s b.bR)/\qN s b.bP=some (kF s b.bP)):
 D6 s l list=some (abp s l list):=by
 have oS:=sv s;have ul:=vH s;obtain⟨-,-,aM,bj⟩:=id v;have J5:J ((2:Int)*(aE eTBlock list))=((2*list.length:Nat):Int):=by rw[fh,c7];omega
 have ape:J ((b4 s:Int)+((2*list.length:Nat):Int))=(ej s list.length:Int):=by rw[c7];unfold ej;omega
 have Ci:J (((2*dl s:Nat):Int)+((2*list.length:Nat):Int))=(jL s list.length:Int):=by rw[c7];unfold jL;omega
 have fY:ej s list.length<=22:=by unfold ej;omega
 have M1:aC (2*dl s) (ru s l)=aC (2*dl s) (l8 s l):=eW fun x U=>by unfold l8;rw[dz U]
 unfold D6;refine az (agF s v l aZ aO) ?_;unfold abV;simp only[List.nil_append];rw[J5,ape,Ci,dw,qT,M1,fh];exact c8 (c8 (az (aje s v l list R _ _ _ _ _ _) (az (ajf s v l list R gx _ _ _ _ _ _) rfl)))
theorem agH (s:cT)(i0:pS s)(b:dp)(F3:yO b)(h:vp s b=some true):Bz s b/\qN s b.bR=some (kF s b.bR)/\qN s b.bP=some (kF s b.bP):=by
 obtain⟨ab1,ab2⟩:=agy s i0 b F3 h;obtain⟨p,p1,p2⟩:=D5 s i0;obtain⟨uq,rn,RS,yj⟩:=F3;unfold vp at h;simp only[p1,dC,dx] at h
 cases p with
 | false=>simp at h
 | true =>
  by_cases a6:b.bR=b.bP
  ·simp[a6] at h
  by_cases cw:b.cC<1\/b.bQ<b.cC\/100<b.bQ
  ·by_cases a:b.cC<1<;>by_cases eK:b.bQ<b.cC<;>by_cases B0:100<b.bQ<;>simp[a6,a,eK,B0] at h<;>omega
  have d1 : ¬b.cC<1:=(by omega);have d2 : ¬b.bQ<b.cC:=(by omega);have d3 : ¬100<b.bQ:=(by omega);rcases EE s i0 p1 p2 b.bR uq b.bQ (by omega) with ⟨fw,fo⟩|⟨nD,mw,fw,fo,bA,eE,gS,rr,lp⟩
  ·simp[a6,d1,d2,d3,fo] at h
  by_cases F4:(decide (0<mw) && decide (mw*b.bQ<=100))=true;rotate_left
  ·simp only[lp,dx] at h;simp[a6,d1,d2,d3,F4] at h
  rcases EE s i0 p1 p2 b.bP rn b.bQ (by omega) with ⟨e1,e2⟩|⟨kt,m1,e1,e2,bG,cR,dd,eC,fm⟩
  ·simp only[lp,e2,dx] at h;simp[a6,d1,d2,d3,F4] at h
  by_cases M6:(decide (0<m1) && decide (m1*b.bQ<=100))=true;rotate_left
  ·simp only[lp,fm,dx] at h;simp[a6,d1,d2,d3,F4,M6] at h
  rw[dO,decide_eq_true_eq,decide_eq_true_eq] at F4 M6;have Na:kF s b.bR=mw:=(by unfold kF;rw[eE];rfl);have Nb:kF s b.bP=m1:=(by unfold kF;rw[cR];rfl);have aq9:b.cC*mw<=b.bQ*mw:=Int.mul_le_mul_of_nonneg_right (by omega) gS;have ara:b.cC*m1<=b.bQ*m1:=Int.mul_le_mul_of_nonneg_right (by omega) dd;have mn:0<=b.cC*mw:=Int.mul_nonneg (by omega) gS;have ur:0<=b.cC*m1:=Int.mul_nonneg (by omega) dd;have s1:b.bQ*mw=mw*b.bQ:=Int.mul_comm _ _;have s2:b.bQ*m1=m1*b.bQ:=Int.mul_comm _ _;obtain⟨x,x1,x2,-⟩:=O8 s i0 p1 b.bR ab1.1 ab1.2;obtain⟨y,fu,ev,-⟩:=O8 s i0 p1 b.bP ab2.1 ab2.2;have j1:x=mw:=(by rw[eE] at x2;exact(dJ x2).symm);have kZ:y=m1:=(by rw[cR] at ev;exact(dJ ev).symm);refine⟨⟨by rw[Na];exact eE,by rw[Nb];exact cR,by rw[Na];omega,by rw[Nb];omega,by rw[Na];omega,by rw[Nb];omega,by omega⟩,by rw[Na,x1,j1],by rw[Nb,fu,kZ]⟩
theorem ahy (s:cT)(i0:pS s)(fI:arS)(aZ:fI.length<=maxLen)(aO:∀b∈fI,yO b):
 (yy s fI=some true/\yA s fI=some true/\fI.length<=3/\ ∀b∈fI,vp s b=some true)\/(yy s fI=some false/\yA s fI=some false):=by
 have hm:=wm;obtain⟨p,p1,p2⟩:=D5 s i0;unfold yy yA;rw[fh];by_cases h1:(3:Int)<fI.length
 ·refine .inr ⟨az p1 ?_,lT h1 rfl⟩
  cases p
  ·exact iQ rfl rfl
  exact gd rfl (lT h1 rfl)
 cases p with
 | false=>exact .inr ⟨az p1 (iQ rfl rfl),la h1 (az p2 (iQ rfl rfl))⟩
 | true =>
  have hex : ∀b,∃q:Bool,b∈fI->vp s b=some q/\Em s b=some q:=by
   intro b;by_cases h:b∈fI
   ·obtain⟨q,q1,q2⟩:=agX s i0 b (aO b h);exact⟨q,fun _=>⟨q1,q2⟩⟩
   exact⟨false,fun dc=>absurd dc h⟩
  obtain⟨f,cp⟩:=Classical.axiomOfChoice hex;have bS:UN fI (fI.length:Nat) s.cq s.bE 0=some (if fI.all f then .inl () else .inr ()):=(by refine EJ (f:=fun w=>Db fI (fI.length:Nat) s.cq s.bE w) fI f (fun n x U=> ?_) (by unfold Db;exact fp rfl);have eS:=gD U;unfold Db;rw[i1 (by omega)];refine fb (c8 (az (gt rfl U) (az (cp x (dH U)).1 ?_)));cases f x<;>rfl);have aa:U2 fI (fI.length:Nat) s.cq s.bE 0=some (if fI.all f then .inl () else .inr ()):=by refine EJ (f:=fun w=>Dk fI (fI.length:Nat) s.cq s.bE w) fI f (fun n x U=> ?_) (by unfold Dk;exact fp rfl);have eS:=gD U;unfold Dk;rw[i1 (by omega)];refine fb (c8 (az (gt rfl U) (az (cp x (dH U)).2 ?_)));cases f x<;>rfl
  cases e:fI.all f with
  | false =>
   rw[e] at bS aa;exact .inr ⟨az p1 (gd rfl (la h1 (az bS rfl))),la h1 (az p2 (gd rfl (az aa rfl)))⟩
  | true =>
   rw[e] at bS aa;rw[List.all_eq_true] at e;exact .inl ⟨az p1 (gd rfl (la h1 (az bS rfl))),la h1 (az p2 (gd rfl (az aa rfl))),by omega,fun b aO=>by rw[(cp b aO).1,e b aO]⟩
theorem agI (l:arS)(h:l.length<=1048576):GH l=some l:=by
 have h1:TY l 0 (List.replicate (aE eTBlock l).toNat (⟨0,0,0,0⟩:dp))=some l :=
  KZ l _ (by simp[fh])
   (fun n x row U ak=>by have a2:=gD U;simp only;unfold Gh;rw[i1 (by omega)];exact lT (by rw[fh];omega) (c8 (az (gt rfl U) (az rfl (c8 (c8 (by rw[dw,dG])))))))
   (fun row=>by unfold Gh;exact la (by rw[fh];omega) rfl)
 unfold GH;exact cE (by rw[fh];omega) (az h1 rfl)
theorem V8 (l:arS)(h:l.length<=1048576):Eg l l=some true:=by
 have h1:U9 l l 0=some (if l.all (fun _=>true) then .inl () else .inr ()):=by refine EJ (f:=fun w=>Dn l l w) l _ (fun n x U=> ?_) (by unfold Dn;exact la (by rw[fh];omega) rfl);have eS:=gD U;unfold Dn KJ;rw[i1 (by omega)];exact lT (by rw[fh];omega) (c8 (az (gt rfl U) (c8 (az (gt rfl U) (az (iQ (vR rfl) (iQ (vR rfl) (iQ (vR rfl) (iQ (vR rfl) rfl)))) (gd rfl rfl))))))
 unfold Eg;exact iQ (vR rfl) (az h1 (by simp))
theorem agJ (l:arS)(h:l.length<=maxLen)(r:Int)(h0:0<=r)(ak:r<=1048576): ∃t,GU l r=some t/\(0<=t->l.length<=1048576):=by
 have hm:=wm;unfold GU;rw[fh,c7 (x:=r-(l.length:Int))];by_cases e:r-(l.length:Int)<0
 ·exact⟨-1,lT e rfl,by omega⟩
 exact⟨_,la e rfl,by omega⟩
theorem ae3 {k:Int}{l:arS}(h0:0<=k)(h:k+4*l.length<=1000000000000000000): ∃eh gW,D1 k l=some (eh,gW)/\0<=eh:=by
 obtain⟨⟨eh,apf⟩,e,e1,-⟩:=ic (f:=fun w:Int×Int×arS=>zT w.1 w.2.1 w.2.2) (fun (i:Nat) (q:Int×arS)=>(q.1,(i:Int),q.2)) l.length (fun i q=>0<=q.1/\q.1<=k+4*i/\q.2.length=l.length) (fun q=>q)
  (fun i aa q dh=>by
    obtain⟨fw,fo,bA⟩:=dh;have PO : ∀(L:arS) (x:dp),i<L.length->(L.set i x)[i]? = some x:=fun L x r9=>(by rw[List.getElem?_set_self r9]);have U:=dy (show i<q.2.length by omega)
    have step : ∃z:arS,zT q.1 (i:Int) q.2=some (.inl (q.1+4,((i+1:Nat):Int),z))/\z.length=l.length:=by
     unfold zT;rw[dw,dG];refine⟨?z,fb (c8 (az U (az (PO _ _ (by omega)) (az (PO _ _ (by simp only[List.length_set];omega)) (az (PO _ _ (by simp only[List.length_set];omega)) ?_))))),?_⟩
     case z=>exact(((q.2.set i ⟨q.1,(q.2[i]'(by omega)).bP,(q.2[i]'(by omega)).bQ,(q.2[i]'(by omega)).cC⟩).set i ⟨q.1,q.1+1,(q.2[i]'(by omega)).bQ,(q.2[i]'(by omega)).cC⟩).set i ⟨q.1,q.1+1,q.1+1+1,(q.2[i]'(by omega)).cC⟩).set i ⟨q.1,q.1+1,q.1+1+1,q.1+1+1+1⟩
     ·rw[i1 (by omega),c7 (x:=q.1+1),c7 (x:=q.1+1+1),c7 (x:=q.1+1+1+1),c7,show q.1+1+1+1+1=q.1+4 by omega]
     simp only[List.length_set];omega
    obtain⟨z,mn,ur⟩:=step;exact⟨(q.1+4,z),mn,by simp only;omega,by simp only;omega,ur⟩)
  (fun q a0=>by simp only;unfold zT;exact fp rfl) (k,l) ⟨h0,by simp,rfl⟩
 exact⟨eh,apf,by unfold D1 TJ;exact az e rfl,e1⟩
def abq:List ByteArray:=[⟨#[97]⟩,⟨#[98]⟩,⟨#[99]⟩,⟨#[100]⟩]
structure M2 (s:cT):Prop where
 v:mW s
 ok:vm s=some true
 RS:3<=s.cq.length
 iV:2<=s.bE.length
 apg:s.cq.map (·.jl)=abq.take s.cq.length
 JZ : ∀j∈s.cq,-4<=j.f9/\j.f9<=8/\ -9<=j.hc/\j.hc<=3
structure Mo (K:Nat) (z:Nat->Rat) (w:Rat):Prop where
 pos:0<w
 sc:ei K w
 aph : ∀k,ei K (z k*w)
 aoE:1000*K<=21*100*(fe*fe)
theorem Mo.fit {K:Nat}{z:Nat->Rat}{w x:Rat}(h:Mo K z w){a:Nat}(bH:a<=1000)(U:ei (a*K) (x*w)):e5 x:=by have ai:=h.pos;have h1:=h.aoE;have h2:a*K<=1000*K:=arn _ bH;exact s8 (K:=21*100*(fe*fe)) (h.sc.mono (by omega)) (U.mono (by omega)) (by grind) (by grind) (rJ (dE _))
theorem ei.int {z:Int}{K:Nat}(h:z.natAbs<=K):ei K (z:Rat):=⟨z,rfl,h⟩
theorem Mo.fits {K:Nat}{z:Nat->Rat}{w:Rat}(h:Mo K z w){n:Nat}(a2:n<=8){e:Nat->Int}(he:∀k,-100<=e k/\e k<=100){f:Int}(cp:-100<=f/\f<=100):e5 (cH n (fun k=>z k*(e k:Rat))+(f:Rat)):=h.fit (a:=n*100+100) (by omega) (by
 have e1:(cH n (fun k=>z k*(e k:Rat))+(f:Rat))*w=cH n (fun k=>(e k:Rat)*(z k*w))+(f:Rat)*w:=by rw[Rat.add_mul,<- xm];congr 1;exact gT fun k _=>by grind
 rw[e1,Nat.add_mul];refine ei.add ?_ ((ei.int (by omega)).mul h.sc);rw[Nat.mul_assoc];exact ei.sum fun k _=>(ei.int (by have:=he k;omega)).mul (h.aph k))
theorem M2.yj {s:cT}(d:M2 s):s.cq.length<=4:=by have:=congrArg List.length d.apg;rw[arC,List.length_take] at this;have e:abq.length=4:=rfl;omega
structure aoF (s:cT):Prop where
 v:mW s
 ok:vm s=some true
 yj:s.cq.length<=4
theorem M2.V {s:cT}(d:M2 s):aoF s:=⟨d.v,d.ok,d.yj⟩
def RX (m:c6):Int:=if m.h5=1 then 1 else if m.h5=2 then -1 else 0
theorem aif {p:kk}{m n:Nat}{a:Nat->Nat->Int}{b:Nat->Int}(h:nA p m n a b){c:Nat->Int}(a1:∀j,j<n-> -100<=c j/\c j<=100):
 (¬sy m n a b/\tv ⟨p.gC,p.fi,p.bR,p.bP,aC n c⟩=some ⟨2,[],⟨⟨false,[]⟩,[]⟩⟩/\yC p.gC p.fi p.bR p.bP (aC n c)=some (2,[],none)) \/
 (sy m n a b/\ ¬Bounded m n a b (iX n c)/\tv ⟨p.gC,p.fi,p.bR,p.bP,aC n c⟩=some ⟨3,[],⟨⟨false,[]⟩,[]⟩⟩/\yC p.gC p.fi p.bR p.bP (aC n c)=some (3,[],none)) \/
 ∃x w,Mn m n a b (iX n c) x w/\e5 (val n (iX n c) x)/\tv ⟨p.gC,p.fi,p.bR,p.bP,aC n c⟩=some ⟨0,aC n (fun j=>cl (x j)),cl (val n (iX n c) x)⟩/\yC p.gC p.fi p.bR p.bP (aC n c)=some (0,aC n (fun j=>hi (x j)),hi (val n (iX n c) x)):=by
 have dc:=ZX h (aC n c);obtain⟨r,e,ak⟩:=Yh dc (c:=c) rfl a1;obtain⟨q,f,a0⟩:=aja dc (c:=c) rfl a1;rcases ak with ⟨s1,rfl⟩|⟨s1,s2,rfl⟩|⟨x,w,m6,⟨iW,nR,sQ⟩,RY,api,rfl⟩
 ·rcases a0 with ⟨-,rfl⟩|⟨t1,-⟩|⟨y,aU,-⟩
  ·exact .inl ⟨s1,f,e⟩
  ·exact(s1 t1).elim
  exact(s1 ⟨y,aU.1⟩).elim
 ·rcases a0 with ⟨t1,-⟩|⟨-,-,rfl⟩|⟨y,aU,-⟩
  ·exact(t1 s1).elim
  ·exact .inr (.inl ⟨s1,s2,f,e⟩)
  exact(s2 ⟨_,fun z cK=>aU.Mf cK⟩).elim
 rcases a0 with ⟨t1,-⟩|⟨-,t2,-⟩|⟨y,aU,-,-,rfl⟩
 ·exact(t1 ⟨x,m6.1⟩).elim
 ·exact(t2 ⟨_,fun z cK=>m6.Mf cK⟩).elim
 obtain⟨k9,nP⟩:=aU.unique m6;have fA:(aC n fun j=>cl (y j))=aC n fun j=>cl (x j):=eW fun j ap=>by rw[k9 j ap]
 rw[fA,nP] at f;exact .inr (.inr ⟨x,w,⟨m6,iW,nR,sQ,RY⟩,api,f,e⟩)
theorem ajg (s:cT)(v:mW s){p:kk}{m n:Nat}{a:Nat->Nat->Int}{b:Nat->Int}(h:nA p m n a b){c:Nat->Int}(a1:∀j,j<n-> -100<=c j/\c j<=100)(a2:b4 s<=n):
 (∃q,tv ⟨p.gC,p.fi,p.bR,p.bP,aC n c⟩=some q/\q.L4≠0/\vk s p.gC p.fi p.bR p.bP (aC n c)=some ([],[],false)) \/
 ∃x w r z,Mn m n a b (iX n c) x w/\tv ⟨p.gC,p.fi,p.bR,p.bP,aC n c⟩=some ⟨0,aC n (fun j=>cl (x j)),z⟩/\vk s p.gC p.fi p.bR p.bP (aC n c)=some (aC s.bE.length (fun k=>hi (ji s x (b4 s) k)),r,true):=by
 have t:=akX s v (ZX h (aC n c)) (c:=c) rfl a1 a2;rcases aif h a1 with ⟨n1,e,-⟩|⟨n1,n2,e,-⟩|⟨x,w,q,-,e,-⟩
 ·rcases t with ⟨-,f⟩|⟨q,-⟩|⟨x,w,r,q,-⟩
  ·exact .inl ⟨_,e,by simp,f⟩
  ·exact(n1 q).elim
  exact(n1 ⟨x,q.m6.1⟩).elim
 ·rcases t with ⟨q,-⟩|⟨-,-,f⟩|⟨x,w,r,q,-⟩
  ·exact(q n1).elim
  ·exact .inl ⟨_,e,by simp,f⟩
  exact(n2 ⟨_,fun z cK=>q.m6.Mf cK⟩).elim
 rcases t with ⟨n,-⟩|⟨-,n,-⟩|⟨y,u,r,o,f⟩
 ·exact(n ⟨x,q.m6.1⟩).elim
 ·exact(n ⟨_,fun z cK=>q.m6.Mf cK⟩).elim
 have un:=(o.m6.unique q.m6).1;have J0:(fun k=>hi (ji s y (b4 s) k))=fun k=>hi (ji s x (b4 s) k):=by funext k;congr 1;exact gT fun j ap=>by rw[un j (by omega)]
 simp only at f;rw[J0] at f;exact .inr ⟨x,w,r,_,q,e,f⟩
theorem alU {list:arS}{i:Nat}(h:i<list.length):kP list i∈list:=by unfold kP;rw[dN,dy h];exact List.getElem_mem h
theorem akm (s:cT)(v:mW s){l:ar}(aO:∀x∈l,-100<=x/\x<=100){fI:arS}(R:fI.length<=3)(gx:∀b∈fI,Bz s b):nA ⟨(jL s fI.length:Int),(ej s fI.length:Int),aC (jL s fI.length*ej s fI.length) (fun x=>jT s fI (x / ej s fI.length) (x % ej s fI.length)),aC (jL s fI.length) (l8 s l),aC (ej s fI.length) fun _=>0⟩ (jL s fI.length) (ej s fI.length) (jT s fI) (l8 s l) where
 rows:=rfl
 gQ:=rfl
 iu:=c2 ..
 IJ:=fun i aa j ap=>by have h1:i*ej s fI.length+j<jL s fI.length*ej s fI.length:=(by have:(i+1)*ej s fI.length<=jL s fI.length*ej s fI.length:=arn _ aa;rw[Nat.succ_mul] at this;omega);show (aC _ _)[_]? = _;rw[ho h1];have h2:(i*ej s fI.length+j) / ej s fI.length=i:=(by rw[Nat.mul_comm,Nat.mul_add_div (by omega),Nat.div_eq_of_lt ap];rfl);have R:(i*ej s fI.length+j) % ej s fI.length=j:=(by rw[Nat.mul_comm,Nat.mul_add_mod,Nat.mod_eq_of_lt ap]);rw[h2,R]
 Cf:=c2 ..
 Mk:=fun i aa=>ho aa
 hm:=by obtain⟨-,-,f3,f4⟩:=id v;have:=vH s;unfold jL;omega
 a2:=by obtain⟨-,-,f3,f4⟩:=id v;have:=sv s;unfold ej;omega
 mw:=fun i aa j ap=>by
  have a6 : ∀y q:Int,(0-q)*y = -(q*y):=fun y q=>(by rw[Int.zero_sub,Int.neg_mul]);unfold jL at aa;unfold jT sd;by_cases c:i<2*dl s
  ·rw[dz c]
   by_cases d:j<b4 s
   ·rw[dz ⟨c,d⟩];exact Qk s v i d
   rw[eR];omega
  rw[dB c];by_cases d:j<b4 s
  ·obtain⟨-,-,x1,x2,ag,hb,-⟩:=gx _ (alU (list:=fI) (i:=(i-2*dl s) / 2) (by omega))
   rw[dz d];unfold hC;rw[a6,a6];split
   ·split
    ·omega
    split<;>omega
   split
   ·omega
   split<;>omega
  rw[dB d];split<;>omega
 m1:=fun i _=>by
  unfold l8 ru;split
  ·rw[dN]
   cases e:l[2*jR s (i / 2)+i % 2]? with
   | none=>simp
   | some x=>have:=aO x (dH e);simp only[Option.getD_some];omega
  omega
theorem ak2 {n N:Nat}(h:n<=N)(f:Nat->au):((aC N f).drop 0).take (n-0)=aC n f:=by rw[List.drop_zero,Nat.sub_zero];exact Yl f h
theorem aih (s:cT)(i0:pS s)(l:ar)(aZ:l.length<=maxLen)(fI:arS)(h1:fI.length<=maxLen)(h2:∀b∈fI,yO b):
 (xj s l=some false/\yF s l=some false)\/(xj s l=some true/\yF s l=some true/\((yy s fI=some false/\yA s fI=some false)\/(yy s fI=some true/\yA s fI=some true/\pR s=some true/\mW s/\fI.length<=3 /\
   ∃p:kk,D6 s l fI=some p/\Cy s l fI=some (p.gC,p.fi,p.bR,p.bP,p.h3) /\
    ((∃q,tv p=some q/\q.L4≠0/\vk s p.gC p.fi p.bR p.bP p.h3=some ([],[],false)) \/
    ∃x w r z,Mn (jL s fI.length) (ej s fI.length) (jT s fI) (l8 s l) (iX (ej s fI.length) fun _=>0) x w/\(∀c k,c<=b4 s->e5 (ji s x c k))/\tv p=some ⟨0,aC (ej s fI.length) (fun j=>cl (x j)),z⟩/\vk s p.gC p.fi p.bR p.bP p.h3=some (aC s.bE.length (fun k=>hi (ji s x (b4 s) k)),r,true))))):=by
 rcases ajc s i0 l aZ with ⟨e1,e2,h,aO⟩|⟨e1,e2⟩;rotate_left
 ·exact .inl ⟨e1,e2⟩
 rcases ahy s i0 fI h1 h2 with ⟨g1,g2,R,gx⟩|⟨g1,g2⟩;rotate_left
 ·exact .inr ⟨e1,e2,.inl ⟨g1,g2⟩⟩
 have v:=af2 s i0 h;have oS:=sv s;have bj:=v.2.2.2;obtain⟨ab3,p3⟩:=ahw aO;have cp : ∀b∈fI,Bz s b/\qN s b.bR=some (kF s b.bR)/\qN s b.bP=some (kF s b.bP):=fun b aO=>agH s i0 b (h2 b aO) (gx b aO);have ai:=akm s v p3 R fun b aO=>(cp b aO).1;refine .inr ⟨e1,e2,.inr ⟨g1,g2,h,v,R,abp s l fI,agG s v l ab3 p3 fI R cp,afC s v l ab3 p3 fI R fun b aO=>(cp b aO).1,?_⟩⟩;rcases ajg s v ai (c:=fun _=>0) (fun j _=>by omega) (by unfold ej;omega) with ⟨q,fw,fo,bA⟩|⟨x,w,r,z,q,fw,fo⟩
 ·exact .inl ⟨q,fw,fo,bA⟩
 exact .inr ⟨x,w,r,z,q,fun c k a1=>ZB (s:=s) ai.hm (by omega) q.pos q.sc q.apd k a1,fw,fo⟩
theorem akn {s:cT}(v:mW s)(h:pR s=some true){fI:arS}(R:fI.length<=3){x:Nat->Rat}(U:∀j,e5 (x j))(cp:∀c k,c<=b4 s->e5 (ji s x c k)):
 (if 0<=J (aE aG (aC (ej s fI.length) fun j=>cl (x j))-J ((2:Int)*aE eTBlock fI)) then
   if 0<=(J (aE aG (aC (ej s fI.length) fun j=>cl (x j))-J ((2:Int)*aE eTBlock fI))).toNat/\(J (aE aG (aC (ej s fI.length) fun j=>cl (x j))-J ((2:Int)*aE eTBlock fI))).toNat<=(aC (ej s fI.length) fun j=>cl (x j)).length then
   DV s (((aC (ej s fI.length) fun j=>cl (x j)).drop 0).take ((J (aE aG (aC (ej s fI.length) fun j=>cl (x j))-J ((2:Int)*aE eTBlock fI))).toNat-0)) >>= fun fx=>some (fx.1,fx.2)
   else none else none)=some (aC s.bE.length (fun k=>cl (ji s x (b4 s) k)),true):=by
 have oS:=sv s;have bj:=v.2.2.2;have fY:b4 s<=ej s fI.length:=by unfold ej;omega
 have F2:J (aE aG (aC (ej s fI.length) fun j=>cl (x j))-J ((2:Int)*aE eTBlock fI))=(b4 s:Int):=by rw[fh,fh,c2,c7 (x:=(2:Int)*_),iw (by unfold ej;omega) (by unfold ej;omega)];unfold ej;omega
 rw[F2];refine c8 (c8 ?_);rw[dw,ak2 fY];exact az (akk s v h U cp) rfl
noncomputable def yg (x:Rat):JX:=if (fg x).1=0 then .inr (.inl (false,L (fg x).2)) else .inr (.inr (.inr (decide ((fg x).1<0),L (fg x).1.natAbs,L (fg x).2)))
theorem ak3 (x:Rat):B1 (yg x)=cl x:=by
 unfold yg cl mk hM;by_cases c:(fg x).1=0
 ·rw[dz c,c];simp only[B1];rw[show L ((0:Int).natAbs:Int)=[] from wH.2 (by simp)];rfl
 rw[dB c];rfl
theorem ak4 {x:Rat}(h:e5 x): ∀l∈pz (yg x),l.length<=1048576:=by
 have p:=h.ec;have h1:=p.rP;have h2:=p.rc;intro l aZ;unfold yg at aZ;by_cases c:(fg x).1=0
 ·rw[dz c] at aZ;simp[pz] at aZ;subst aZ;omega
 rw[dB c] at aZ;simp[pz] at aZ;rcases aZ with rfl|rfl<;>omega
theorem ako {x:Rat}(h:e5 x):Ap (hi x)=some (yg x):=aj1 h.ec
theorem ak5 {α:Type}(a:List α)(e v:α)(k:Nat):(a++List.replicate (k+1) e).set (0+(a.length:Int).toNat) v=a++[v]++List.replicate k e:=by rw[dw,dG,List.set_append,eR,Nat.sub_self,List.replicate_succ,List.set_cons_zero,List.append_assoc];rfl
theorem aii {n:Nat}(a2:n<=40){y:Nat->Rat}(aY:∀k,k<n->e5 (y k)): ∃kz P,G6 (aC n fun k=>hi (y k))=some (.inl (kz,P))/\py kz P/\kz.length=n/\kz.map (mq P)=aC n fun k=>cl (y k):=by
 have aZ:aE (fD 3 cZ) (aC n fun k=>hi (y k))=(n:Int):=by rw[fh,c2]
 obtain⟨⟨kz,P⟩,e,o,e1,e2⟩:=ic (f:=fun w:Int×arV×arR=>Dl (aC n fun k=>hi (y k)) (n:Int) w.1 w.2.1 w.2.2)
  (fun (i:Nat) (q:arV×arR)=>((i:Int),q.1++List.replicate (n-i) (⟨⟨false,none⟩,none⟩:eH),q.2)) n (fun i q=>py q.1 q.2/\q.1.length=i/\q.1.map (mq q.2)=aC i fun k=>cl (y k))
  (fun q=>(.inl (q.1,q.2):(arV×arR)⊕Unit))
  (fun i aa q dh=>by
    obtain⟨o,e1,e2⟩:=dh;obtain⟨fw,fo⟩:=o.add (yg (y i)) (ak4 (aY i aa));rw[ak3,e2] at fo;refine⟨(q.1++[qg q.2.length (yg (y i))],q.2++pz (yg (y i))),?_,fw,by rw[dD,e1];rfl,by rw[fo,lW]⟩;have bS:=ako (aY i aa);have te:n-i=(n-(i+1))+1:=(by omega);have d6 : ∀v,(q.1++List.replicate (n-i) (⟨⟨false,none⟩,none⟩:eH)).set (0+(i:Int).toNat) v=q.1++[v]++List.replicate (n-(i+1)) ⟨⟨false,none⟩,none⟩:=fun v=>(by rw[te,<- e1];exact ak5 ..);simp only;unfold Dl;refine fb (c8 (az (gt rfl (ho aa)) ?_));show (Ap (hi (y i)) >>= _)=_;refine az bS ?_;rw[fW];unfold yg;by_cases c:(fg (y i)).1=0
    ·rw[dz c];refine cE (by simp only[dD,List.length_replicate];omega) (cE (by simp only[dD,List.length_replicate,dw];omega) ?_);rw[d6];rfl
    rw[dB c];refine cE (by simp only[dD,List.length_replicate];omega) (cE (by simp only[dD,List.length_replicate,dw];omega) ?_);rw[d6];rfl)
  (fun q a0=>by simp only;unfold Dl;refine fp ?_;rw[Nat.sub_self,List.replicate_zero,List.append_nil]) ([],[]) ⟨py.nil _,rfl,rfl⟩
 refine⟨kz,P,?_,o,e1,e2⟩;unfold G6;rw[aZ];refine c8 (az (x:= .inl (kz,P)) ?_ rfl);unfold U6;rw[dw];exact e
theorem ak6 {kz:arV}{P:arR}(o:py kz P)(h:kz.length<=40):
 (D9 1 kz P >>= fun FX=>if 0+kz.length<=FX.2.1.length then if ((FX.2.1.drop 0).take kz.length).all (xv FX.2.2)=true then
   xf (((FX.2.1.drop 0).take kz.length).map (mq FX.2.2)) 1 >>= fun abr=>if (decide (abr<(0:Int)))=true then some false else if (abr != FX.1)=true then some false else some true else none else none)=some true:=by
 refine az (agC o (by omega) (by omega)) (cE (by simp only[uJ];omega) ?_);simp only;rw[List.drop_zero,arp (by rw[uJ];omega)];obtain⟨a6,-⟩:=LR o (k:=1) (by omega) kz.length (dE _);exact cE (alx o (by omega)) (az (Wz o (by omega) (by omega)) (fp (iQ (vR rfl) rfl)))
theorem ak7:(Ei ([]:arI) 1 >>= fun zy=>xf ([]:arI) 1 >>= fun zz=>if (decide (zz<(0:Int)))=true then some false else if (zz != zy)=true then some false else some true)=some true:=by
 have apj:Ei [] 1=some 1:=by have h:N6 [] 1=some ():=(by unfold N6;rw[iter];simp[Ki,fh]);simp[Ei,h]
 have h0:xf [] 1=some 1:=Wz (rw:=[]) (P:=[]) (py.nil []) (by omega) (by simp);exact az apj (az h0 (fp (iQ rfl rfl)))
theorem aij {n:Nat}{z:Nat->Rat}(cK:∀k,e5 (z k)): ∀q∈aC n (fun k=>cl (z k)),H4 q:=fun q a0=>by obtain⟨i,-,rfl⟩:=PF.1 a0;exact alS (cK i)
theorem ag3 (s:cT)(i0:pS s)(l:ar)(aZ:l.length<=maxLen)(fI:arS)(h1:fI.length<=maxLen)(h2:∀b∈fI,yO b):
 ∃r ok,Gg s l fI=some (r,ok)/\r.length<=1048576/\(∀x∈r,H4 x)/\((∃kz P,CH s l fI=some (.inl (kz,P))/\py kz P/\kz.length<=40/\kz.map (mq P)=r/\ok=true)\/(CH s l fI=some (.inr ())/\r=[]/\ok=false)):=by
 unfold Gg CH;rcases aih s i0 l aZ fI h1 h2 with ⟨e1,e2⟩|⟨e1,e2,⟨g1,g2⟩|⟨g1,g2,h,v,R,p,p1,p2,⟨q,fw,fo,bA⟩|⟨x,w,r,z,q,f,fw,fo⟩⟩⟩
 ·exact⟨[],false,az e1 (iQ rfl rfl),by simp,by simp,.inr ⟨az e2 (iQ rfl rfl),rfl,rfl⟩⟩
 ·exact⟨[],false,az e1 (gd rfl (az g1 (iQ rfl rfl))),by simp,by simp,.inr ⟨az e2 (gd rfl (az g2 (iQ rfl rfl))),rfl,rfl⟩⟩
 ·exact⟨[],false,az e1 (gd rfl (az g1 (gd rfl (az p1 (az fw (gd (x4 fo) rfl)))))),by simp,by simp,.inr ⟨az e2 (gd rfl (az g2 (gd rfl (az p2 (az bA (iQ rfl rfl)))))),rfl,rfl⟩⟩
 have bj:=v.2.2.2;obtain⟨kz,P,jw,kE,sa,apk⟩:=aii (n:=s.bE.length) (y:=fun k=>ji s x (b4 s) k) (by omega) (fun k _=>f _ k (dE _));exact⟨_,true,az e1 (gd rfl (az g1 (gd rfl (az p1 (az fw (iQ rfl (akn v h R q.fit f))))))),by rw[c2];omega,aij fun k=>f _ k (dE _),.inl ⟨kz,P,az e2 (gd rfl (az g2 (gd rfl (az p2 (az fo (gd rfl (az jw rfl))))))),kE,by omega,apk,rfl⟩⟩
theorem acg (x0:cT)(x1:ar)(x2:arS)(i0:pS x0)(i1:(fun l=>l.length<=maxLen/\ ∀x∈l,nV x) x1)(i2:(fun l=>l.length<=maxLen/\ ∀x∈l,yO x) x2):J8 x0 x1 x2=some true:=by
 have hm:=wm;unfold J8;rw[hS];by_cases h0:(1048576:Int)<x1.length
 ·exact lT h0 rfl
 obtain⟨r,r1,r2⟩:=afA x0 i0 1048576 (by omega) (by omega);have ak:=agk x0 i0 1048576 (by omega) (by omega) r r1;refine la h0 (az r1 ?_);by_cases h2:r<0
 ·exact lT h2 rfl
 obtain⟨fw,fo⟩:=r2 (by omega);obtain⟨t,t1,t2⟩:=agJ x2 i2.1 r (by omega) ak;refine la h2 (az t1 ?_);by_cases R:t<0
 ·exact lT R rfl
 have aO:=t2 (by omega);obtain⟨k0,lo,jS,d1,d2,d3,arl,arm⟩:=aes (k:=1) (l:=x0.cq) (m:=x0.bE) (by omega) (by omega);obtain⟨q,ok,q1,q2,bB,cu⟩:=ag3 x0 i0 x1 i1.1 x2 i2.1 i2.2;have jS:Ae k0 x1=_:=agm (l:=x1) (by omega) (by omega);obtain⟨kh,lQ,iV,tp⟩:=ae3 (k:=k0+x1.length) (l:=x2) (by omega) (by omega);refine la R (az (afB x0 fw fo) (az (ahr x1 (by omega)) (az (agI x2 aO) (az q1 ?_))));rcases cu with ⟨kz,P,g,o,aoG,e,rfl⟩|⟨g,rfl,rfl⟩
 ·exact az g (cE o.all (az (by simp only;rw[e];exact Wx q q2 bB) (gd rfl (gd rfl (az (Vf x0 fw fo) (gd rfl (az (KQ x1 (by omega)) (gd rfl (az (V8 x2 aO) (gd rfl (az d1 (cE d2.symm (cE d3.symm (az jS (az iV (fp (ak6 o aoG)))))))))))))))))
 exact az g (az (Wx [] (by simp) (by simp)) (gd rfl (gd rfl (az (Vf x0 fw fo) (gd rfl (az (KQ x1 (by omega)) (gd rfl (az (V8 x2 aO) (gd rfl (az d1 (cE d2.symm (cE d3.symm (az jS (az iV (fp ak7)))))))))))))))
end Go.Proofs.YthgbjflfgmahbafGreat
