/- Lemmas, plain functions of the program, and what they answer. No condition. -/
import Derived.Test.YtamedijmgkdlgacGreatME
namespace Go.Proofs.YtamedijmgkdlgacGreat
set_option linter.unusedVariables false
set_option linter.unusedSimpArgs false
open Go Go.VL
theorem kL.Sm {m N:Nat}{A:Nat→Nat→Rat}(s:Small m N A){t:cI}(h:kL m N A t){I:Nat→Rat}(ao:∀j,j≤N→en 100 (I j)){j:Nat}(aI:j≤N):en (21*100*fK) (t.dB m I j*t.D m A):=by
 have hm:=s.hm
 unfold cI.dB
 have e:(I j-dj m (fun i=>I (t.B i)*t.T i j))*t.D m A=I j*t.D m A-dj m (fun i=>I (t.B i)*(t.T i j*t.D m A)):=by
  rw [h7 (f:=fun i=>I (t.B i)*(t.T i j*t.D m A)) (g:=fun i=>(I (t.B i)*t.T i j)*t.D m A) (fun i _=>by grind),z6];grind
 rw [e]
 refine en.mono (((ao j aI).mul (h.B3 s)).sub (en.sum fun i aq=>(ao _ (Nat.le_of_lt (h.ok.lg i aq))).mul (h.tu s aq aI))) ?_
 have:m*(100*fK)≤20*(100*fK):=Nat.mul_le_mul_right _ hm
 omega
theorem Rq:21*100*fK≤21*100*(fK*fK):=by
 have h1:fK*1≤fK*fK:=Nat.mul_le_mul_left _ pX
 omega
theorem kL.K9 {m N:Nat}{A:Nat→Nat→Rat}(s:Small m N A){t:cI}(h:kL m N A t){I:Nat→Rat}(ao:∀j,j≤N→en 100 (I j)){j:Nat}(aI:j≤N):gj (t.dB m I j) :=
 uL ((h.B3 s).mono (Nat.le_trans (by omega:fK≤21*100*fK) (Nat.le_refl _))) (h.Sm s ao aI) h.sA (by grind) (uM Rq)
theorem kL.gQ {m N K:Nat}{A obj:Nat→Nat→Rat}{bY:Nat→Prop}{t:cI}(h:kL m N A t){r k:Nat}(b:o2 m N K obj bY t r k):kL m N A (t.cP r k) :=
 ⟨b.ok h.ok,b.KX h.nJ,by
  rw [h.ok.xW b.ar b.bV]
  have h1:=b.pos
  have o:=h.sA
  intro c
  have:t.T r k≠0:=by grind
  grind⟩
theorem kL.acF {m N:Nat}{A:Nat→Nat→Rat}(s:Small m N A){t:cI}(h:kL m N A t){I:Nat→Rat}(ao:∀j,j≤N→en 100 (I j)){r k:Nat}(ar:r<m)(ba:k<N)(ai:t.T r k≠0)(cD:ga m m N A (t.cP r k)):K6 m N t (t.dB m I) r k:=by
 have bG:=h.sA
 have p5:(t.cP r k).D m A≠0:=by rw [h.ok.xW ar ba];grind
 have eH:(t.cP r k).D m A=t.T r k*t.D m A:=h.ok.xW ar ba
 have o9:en fK ((t.cP r k).D m A):=en.mono (xN fun i aq c bf=>s.tD c bf _ (Nat.le_of_lt (cD.lg i aq))) (AW▸xw (by omega) s.hm)
 have vh : ∀i,i<m→ ∀j,j≤N→en fK ((t.cP r k).T i j*(t.cP r k).D m A):=fun i aq j aI=>by
  rw [← cD.vp aq aI]
  refine en.mono (xN fun k ba c bf=> ?_) (AW▸xw (by omega) s.hm)
  simp only [gd]
  split
  ·exact s.tD c bf j aI
  ·exact s.tD c bf _ (Nat.le_of_lt (cD.lg k ba))
 have SM:en (21*100*(fK*fK)) (t.D m A*(t.cP r k).D m A):=((h.B3 s).mul o9).mono (by omega)
 have Sn:t.D m A*(t.cP r k).D m A≠0:=by grind
 refine ⟨fun i aq j aI=>h.Rp s aq aI,fun i aq j aI=>uL o9 (vh i aq j aI) p5 (by grind) (uM K8),fun i aq _ j aI=> ?_,fun j aI=>h.K9 s ao aI,fun j aI=> ?_,fun j aI=> ?_⟩
 ·refine uL SM (((h.tu s aq (Nat.le_of_lt ba)).mul (h.tu s ar aI)).neg.mono (by omega)) Sn ?_ (uM (Nat.le_refl _))
  rw [eH];grind
 ·rw [← h.ok.J2 I ar ba ai]
  have g2:en (21*100*fK) ((t.cP r k).dB m I j*(t.cP r k).D m A):=by
   have hm:=s.hm
   unfold cI.dB
   have e:(I j-dj m (fun i=>I ((t.cP r k).B i)*(t.cP r k).T i j))*(t.cP r k).D m A=I j*(t.cP r k).D m A-dj m (fun i=>I ((t.cP r k).B i)*((t.cP r k).T i j*(t.cP r k).D m A)):=by
    rw [h7 (f:=fun i=>I ((t.cP r k).B i)*((t.cP r k).T i j*(t.cP r k).D m A)) (g:=fun i=>(I ((t.cP r k).B i)*(t.cP r k).T i j)*(t.cP r k).D m A) (fun i _=>by grind),z6];grind
   rw [e]
   refine en.mono (((ao j aI).mul o9).sub (en.sum fun i aq=>(ao _ (Nat.le_of_lt (cD.lg i aq))).mul (vh i aq j aI))) ?_
   have:m*(100*fK)≤20*(100*fK):=Nat.mul_le_mul_right _ hm
   omega
  exact uL (o9.mono (by omega)) g2 p5 (by grind) (uM Rq)
 ·refine uL SM (((h.Sm s ao (Nat.le_of_lt ba)).mul (h.tu s ar aI)).neg.mono (by
   rw [Nat.mul_assoc];exact Nat.le_refl _)) Sn ?_ (uM (Nat.le_refl _))
  rw [eH];grind
theorem aau {p:hv}{m n:Nat}{a:Nat→Nat→Int}{b:Nat→Int}(h:me p m n a b):
 zf p=some (((n+m:Nat):Int),mL m (n+m),dv m (ic m n a b),la (n+m) ((ic m n a b).dB m (gF m n)),iR m (n+m) (ic m n a b)):=by
 have hm:=h.hm
 have a5:=h.a5
 have fR:U (p.eb+p.fu)=((n+m:Nat):Int):=by rw [h.gr,h.rows,← Int.natCast_add,cx (by omega) (by omega)]
 unfold zf
 rw [fR]
 obtain ⟨s1,e1,-⟩:=iF (f:=fun w:Int×List aM=>vX p.fu p.eb p.dJ p.ej p.hH ((n+m:Nat):Int) w.1 w.2)
  (fun (k:Nat) (_:Unit)=>((k:Int),a6 k fun j=>cS (0:Rat))) (n+m+1) (fun _ _=>True) (fun _=>a6 (n+m+1) fun j=>cS (0:Rat))
  (fun k ba _ _=>by
    refine ⟨(),?_,trivial⟩
    unfold vX
    refine dD (by simp only;omega) (aR (x:=cS (0:Rat)) (rZ (n:=0) (by rw [mC];omega)) (bH (by simp only [List.length_append,cT,List.length_cons,List.length_nil];omega) ?_))
    simp only;rw [fC (by omega),k4])
  (fun _ _=>by unfold vX;exact dU (by simp only;omega) rfl) () trivial
 refine aR (x:=a6 (n+m+1) fun j=>cS (0:Rat)) (by unfold HY;exact e1) ?_
 obtain ⟨s2,aC,-⟩:=iF (f:=fun w:Int×(List bt)×(List (List aM))×(List Int)×(List aM)=>vR p.fu p.eb p.dJ p.ej p.hH ((n+m:Nat):Int) w.1 w.2.1 w.2.2.1 w.2.2.2.1 w.2.2.2.2)
  (fun (i:Nat) (_:Unit)=>((i:Int),a6 i (fun k=>some (k,n+m+1)),a6 i (hc (n+m) (ic m n a b)),a6 i (fun k=>((n+k:Nat):Int)),a6 (n+m+1) fun j=>cS (gX m n a b i j))) m (fun _ _=>True)
  (fun _=>(mL m (n+m),iR m (n+m) (ic m n a b),dv m (ic m n a b),a6 (n+m+1) fun j=>cS (gX m n a b m j)))
  (fun i aq _ _=>by
    refine ⟨(),?_,trivial⟩
    have aS:=h.vu i aq
    have hlen:((a6 (n+m) fun j=>cS (dG m n a b i j))++[cS (dG m n a b i (n+m))])=hc (n+m) (ic m n a b) i:=(k4 ..).symm
    have So:(hc (n+m) (ic m n a b) i).length=n+m+1:=cT ..
    have hw:U (p.eb+(i:Int))=((n+i:Nat):Int):=by rw [h.gr,← Int.natCast_add,cx (by omega) (by omega)]
    have dI:(a6 i (hc (n+m) (ic m n a b))++[hc (n+m) (ic m n a b) i])[i]? = some (hc (n+m) (ic m n a b) i):=by rw [← k4];exact f7 (by omega)
    have Sp:(a6 i (hc (n+m) (ic m n a b))).length=i:=cT ..
    have pB:kl m n a b i (n+m)=kf (b i)*b i:=by unfold kl;rw [if_neg (by omega),if_pos rfl]
    have fin:(some (Sum.inl (U ((i:Int)+1),(a6 i (fun k=>(some (k,n+m+1):bt)))++[some (i,n+m+1)],a6 i (hc (n+m) (ic m n a b))++[hc (n+m) (ic m n a b) i],(a6 i fun k=>((n+k:Nat):Int))++[((n+i:Nat):Int)],a6 (n+m+1) fun j=>cS (gX m n a b (i+1) j))):Option ((Int×(List bt)×(List (List aM))×(List Int)×(List aM))⊕((List bt)×(List (List aM))×(List Int)×(List aM)))) =
     some (Sum.inl (((i+1:Nat):Int),a6 (i+1) (fun k=>some (k,n+m+1)),a6 (i+1) (hc (n+m) (ic m n a b)),a6 (i+1) (fun k=>((n+k:Nat):Int)),a6 (n+m+1) fun j=>cS (gX m n a b (i+1) j))):=by
     rw [fC (by omega),k4 i (fun k=>(some (k,n+m+1):bt)),k4 i (hc (n+m) (ic m n a b)),k4 i (fun k=>((n+k:Nat):Int))]
    unfold vR
    refine dD (by simp only;rw [h.rows];omega) (bH (by simp only;rw [h.vv];omega) (aR (x:=b i) (by simp only;rw [Int.toNat_natCast];exact h.x7 i aq) (ob (fun c=> ?_) (fun c=> ?_))))
    ·have m8:b i<0:=of_decide_eq_true c
     have bV:kf (b i) = -1:=by unfold kf;rw [if_pos m8]
     refine aR (Kx h aq) ?_
     have ar:=XB h aq m8 ((n+m:Nat):Int) (a6 i (fun k=>some (k,n+m+1))) (a6 i (hc (n+m) (ic m n a b))) (a6 i (fun k=>((n+k:Nat):Int))) (a6 (n+m+1) fun j=>cS (gX m n a b i j))
     rw [Option.bind_eq_bind,Option.bind_eq_some_iff] at ar
     obtain ⟨c4,hX,vb⟩:=ar
     refine aR hX (aR vb (aR (x:=cS (dG m n a b i (n+m))) (by
      have e:U ((-1:Int)*b i)=kl m n a b i (n+m):=by rw [pB,bV,cx (by omega) (by omega)]
      rw [e];exact rZ (by have:=sb h aq (n+m);rw [mC];omega)) ?_))
     simp only
     rw [hlen,Sp,So,hw]
     refine bH (by omega) (aR dI (aR (OP h aq _ _ _ dI) (bH (by simp only [List.length_append,cT,List.length_cons,List.length_nil];omega) (bH (by simp only [List.length_append,cT,List.length_cons,List.length_nil];omega) fin))))
    ·have m8 : ¬b i<0:=of_decide_eq_false c
     have bV:kf (b i)=1:=by unfold kf;rw [if_neg m8]
     refine aR (Kx h aq) ?_
     have ar:=XC h aq m8 ((n+m:Nat):Int) (a6 i (fun k=>some (k,n+m+1))) (a6 i (hc (n+m) (ic m n a b))) (a6 i (fun k=>((n+k:Nat):Int))) (a6 (n+m+1) fun j=>cS (gX m n a b i j))
     rw [Option.bind_eq_bind,Option.bind_eq_some_iff] at ar
     obtain ⟨c4,hX,vb⟩:=ar
     refine aR hX (aR vb (aR (x:=cS (dG m n a b i (n+m))) (by
      have e:U ((1:Int)*b i)=kl m n a b i (n+m):=by rw [pB,bV,cx (by omega) (by omega)]
      rw [e];exact rZ (by have:=sb h aq (n+m);rw [mC];omega)) ?_))
     simp only
     rw [hlen,Sp,So,hw]
     refine bH (by omega) (aR dI (aR (OP h aq _ _ _ dI) (bH (by simp only [List.length_append,cT,List.length_cons,List.length_nil];omega) (bH (by simp only [List.length_append,cT,List.length_cons,List.length_nil];omega) fin)))))
  (fun _ _=>by unfold vR;exact dU (by simp only;rw [h.rows];omega) rfl) () trivial
 have e0:(a6 (n+m+1) fun j=>cS (gX m n a b 0 j))=a6 (n+m+1) fun j=>cS (0:Rat):=eW fun j _=>by
  unfold gX;split<;>rfl
 rw [e0] at aC
 refine aR (x:=(mL m (n+m),iR m (n+m) (ic m n a b),dv m (ic m n a b),a6 (n+m+1) fun j=>cS (gX m n a b m j))) (by unfold Hw;exact aC) ?_
 congr 1
 refine Prod.ext rfl (Prod.ext rfl (Prod.ext rfl (Prod.ext ?_ rfl)))
 refine eW fun j aI=> ?_
 rw [Zc]
 unfold gX gF
 by_cases c:j<n∨j=n+m
 ·rw [if_pos c,if_neg (by omega)];congr 1;grind
 ·rw [if_neg c,if_pos (by omega)]
  obtain ⟨k,rfl⟩ : ∃k,j=n+k:=⟨j-n,by omega⟩
  rw [nO (k:=k) (by omega) (fun i _ dr=>by rw [rX (by omega),if_neg (Ne.symm dr)]),rX (by omega),if_pos rfl,show (-1:Rat)+1=0 by grind]
theorem J5 (l:List Int)(aV:l.length≤1000)(h:∀x∈l,-100≤x∧x≤100):um l=some true:=by
 unfold um Je
 rw [f6]
 obtain ⟨s,e,-⟩:=iF (f:=fun w:Int=>wP l (l.length:Nat) w) (fun (i:Nat) (_:Unit)=>(i:Int)) l.length (fun _ _=>True) (fun _=>(Sum.inl ():Unit⊕Unit))
  (fun i aq _ _=>by
    refine ⟨(),?_,trivial⟩
    have R:=h l[i] (List.getElem_mem aq)
    unfold wP
    refine dD (by omega) (bH (by omega) (aR (x:=l[i]) (by rw [Int.toNat_natCast];exact List.getElem?_eq_getElem aq) (aR (qt _ _ _) (gv (decide_eq_true (by omega)) ?_))))
    rw [fC (by omega)])
  (fun _ _=>by unfold wP;exact dU (by omega) rfl) () trivial
 exact aR e rfl
theorem XS {p:hv}{m n:Nat}{a:Nat→Nat→Int}{b:Nat→Int}(h:me p m n a b)(EV:p.hH.length=n)(Cj:∀x∈p.hH,-100≤x∧x≤100):zo p=some true:=by
 have hm:=h.hm
 have a5:=h.a5
 have EF:m*n≤20*40:=Nat.mul_le_mul hm a5
 have hA : ∀x∈p.dJ,-100≤x∧x≤100:=fun x R=>by
  obtain ⟨k,ba,rfl⟩:=List.getElem_of_mem R
  rw [h.gO] at ba
  have Bq:0<n:=by
   rcases Nat.eq_zero_or_pos n with c|c
   ·rw [c] at ba;omega
   ·exact c
  have h1:k / n<m:=Nat.div_lt_of_lt_mul (by rw [Nat.mul_comm];exact ba)
  have o:k % n<n:=Nat.mod_lt _ Bq
  have ae:=h.K7 (k / n) h1 (k % n) o
  have av:k / n*n+k % n=k:=by rw [Nat.mul_comm];exact Nat.div_add_mod k n
  rw [av,List.getElem?_eq_getElem (by rw [h.gO];exact ba)] at ae
  rw [Option.some.inj ae]
  exact h.sy _ h1 _ o
 have gY : ∀x∈p.ej,-100≤x∧x≤100:=fun x R=>by
  obtain ⟨k,ba,rfl⟩:=List.getElem_of_mem R
  have ae:=h.x7 k (by rw [← h.vv];exact ba)
  rw [List.getElem?_eq_getElem ba] at ae
  rw [Option.some.inj ae]
  exact h.vu _ (by rw [← h.vv];exact ba)
 unfold zo
 rw [h.rows,h.gr]
 refine aR (qt _ _ _) (gv (decide_eq_true (by omega)) (aR (qt _ _ _) (gv (decide_eq_true (by omega)) ?_)))
 refine gv (u1 (by rw [f6,h.gO,← Int.natCast_mul,cx (by omega) (by omega)])) (gv (u1 (by rw [f6,h.vv])) (gv (u1 (by rw [f6,EV])) ?_))
 exact aR (J5 _ (by rw [h.gO];omega) hA) (gv rfl (aR (J5 _ (by rw [h.vv];omega) gY) (gv rfl (aR (J5 _ (by rw [EV];omega) Cj) rfl))))
theorem Kg (m n j:Nat):en 100 (gF m n j):=by
 unfold gF;split
 ·exact ⟨-1,rfl,by omega⟩
 ·exact ⟨0,rfl,by omega⟩
theorem Eb {g:Nat→Rat}:hS 1 g↔0<g 0:=by
 constructor
 ·rintro ⟨l,h1,o,-⟩;rw [show l=0 by omega] at o;exact o
 ·intro h;exact ⟨0,by omega,h,fun gl aV=>by omega⟩
theorem JQ {p:hv}{m n:Nat}{a:Nat→Nat→Int}{b:Nat→Int}(h:me p m n a b):Small m (n+m) (dG m n a b):=⟨h.hm,fun c bf j _=>KJ h bf j⟩
theorem ZG {p:hv}{m n:Nat}{a:Nat→Nat→Int}{b:Nat→Int}(h:me p m n a b):
 ∃t,w7 false ((n+m:Nat):Int) (mL m (n+m)) (dv m (ic m n a b)) (la (n+m) ((ic m n a b).dB m (gF m n))) (iR m (n+m) (ic m n a b))=some (true,dv m t,la (n+m) (t.dB m (gF m n)),iR m (n+m) t) ∧
  kL m (n+m) (dG m n a b) t∧(t.dB m (gF m n) (n+m)=0↔s9 m n a b):=by
 have hm:=h.hm
 have a5:=h.a5
 have sB:=JQ h
 obtain ⟨q,t,e,cQ,ek⟩:=abw (gm:=m) (m:=m) (N:=n+m) (K:=1) (by omega) (by omega) (A:=dG m n a b) (obj:=fun _=>gF m n) false (kL m (n+m) (dG m n a b)) (fun t cb=>⟨cb.ok,cb.nJ⟩) (fun t r s cb b=>cb.gQ b)
  (fun t cb j aI=>⟨jL (t.dB m (gF m n) j),aaZ (by omega) _ _ _ _ (by omega) (cb.K9 sB (fun j _=>Kg m n j) (by omega)),fun _=>by rw [qw];exact (Eb (g:=fun _=>t.dB m (gF m n) j)).symm⟩)
  (fun t cb i aq j aI=>cb.Rp sB aq aI) (fun t cb i aq j aI ai=>cb.acE sB aq aI ai)
  (fun t cb r k ar ba ai=>cb.acF sB (fun j _=>Kg m n j) ar ba ai (cb.ok.cP ar ba ai)) (ic m n a b) ⟨P7,O8,Pz⟩
 rcases ek with ⟨rfl,ek⟩|⟨-,s,bV,dI,jz⟩
 ·refine ⟨t,e,cQ,fun h0=>Oh cQ.ok cQ.nJ (Oi cQ.nJ h0 cQ.ok.lg),fun adW=>OJ cQ.ok cQ.nJ (fun j aI=> ?_) adW⟩
  have:=ek j (by omega)
  have o : ¬0<t.dB m (gF m n) j:=fun c=>this (Eb.2 c)
  grind
 ·obtain ⟨i,aq,ai⟩:=N0 cQ.ok bV (Eb.1 dI)
  exact (jz i aq ai).elim
theorem Xp {p:hv}{m n:Nat}{a:Nat→Nat→Int}{b:Nat→Int}(h:me p m n a b)(EV:p.hH.length=n)(Cj:∀x∈p.hH,-100≤x∧x≤100): ∃r,tX p=some r∧(r=true↔s9 m n a b):=by
 have hm:=h.hm
 have a5:=h.a5
 obtain ⟨t,e,cQ,bV⟩:=ZG h
 unfold tX
 refine ⟨_,aR (XS h EV Cj) (gv rfl (aR (aau h) (aR e (bH (by simp only;unfold la;rw [cT];omega) (aR (x:=cS (t.dB m (gF m n) (n+m))) (by simp only;rw [Int.toNat_natCast];exact h8 (by omega)) (aR (pT (cQ.K9 (JQ h) (fun j _=>Kg m n j) (Nat.le_refl _))) rfl)))))),?_⟩
 rw [← bV,beq_iff_eq,rj]
def b2 (x:Rat):bp:=gW x.num
@[irreducible] def ku:Nat:=1000000000 ^ 40
theorem Rr:((ku:Nat):Int)+((ku:Nat):Int)<B 50:=by decide +kernel
theorem aby {K:Nat}{x:Rat}(h:en K x):((x.num:Int):Rat)=x∧x.num.natAbs≤K:=by
 obtain ⟨z,rfl,cw⟩:=h
 rw [Rat.num_intCast];exact ⟨rfl,cw⟩
theorem ou (z:Int):b2 (z:Rat)=gW z:=by unfold b2;rw [Rat.num_intCast]
theorem xP {x:Rat}(h:en ku x):(L x.num.natAbs).length≤50:=by
 have:=Rr
 have h1:=(aby h).2
 exact (i4 (by omega)).2 (by omega)
theorem xy {x y:Rat}(R:en ku x)(a1:en ku y):pb (b2 x) (b2 y)=some (b2 (x*y)):=by
 have h1:=xP R
 have o:=xP a1
 obtain ⟨a,rfl,-⟩:=R;obtain ⟨b,rfl,-⟩:=a1
 rw [Rat.num_intCast] at h1 o
 rw [ou,ou,← Rat.intCast_mul,ou]
 exact Zt (by omega) (by omega)
theorem PL {x y:Rat}(R:en ku x)(a1:en ku y):tT (b2 x) (b2 y)=some (b2 (x-y)):=by
 have gY:=Rr
 obtain ⟨a,rfl,bE⟩:=R;obtain ⟨b,rfl,aS⟩:=a1
 rw [ou,ou,← Rat.intCast_sub,ou]
 exact ZC (by omega) (by omega)
theorem sX {x:Rat}(R:en ku x):oT (b2 x)=some (jL x):=by
 obtain ⟨a,rfl,bE⟩:=R
 rw [ou]
 unfold oT jL
 simp only [f6]
 have e:(((L a.natAbs).length:Nat):Int)=0↔a=0:=by rw [K5 (by omega)];omega
 show (if (((L a.natAbs).length:Int) == 0)=true then some 0 else if decide (a<0)=true then some (-1) else some 1)=_
 by_cases h0:a=0
 ·rw [if_pos (by rw [beq_iff_eq,e];exact h0),if_pos (by rw [h0];rfl)]
 ·have adX:(a:Rat)≠0:=fun c=>h0 (Rat.intCast_inj.1 (by rw [c];rfl))
  rw [if_neg (by rw [beq_iff_eq,e];exact h0),if_neg adX]
  have aC:(a:Rat)<0↔a<0:=by
   rw [show (0:Rat)=((0:Int):Rat) from rfl,Rat.intCast_lt_intCast]
  by_cases h1:a<0
  ·rw [if_pos (decide_eq_true h1),if_pos (aC.2 h1)]
  ·rw [if_neg (by simpa using h1),if_neg (fun c=>h1 (aC.1 c))]
theorem YT {x y:Rat}(R:en ku x)(a1:en ku y):rH (b2 x) (b2 y)=some (if x<y then -1 else if y<x then 1 else 0):=by
 have h1:=xP R
 have o:=xP a1
 obtain ⟨a,rfl,-⟩:=R;obtain ⟨b,rfl,-⟩:=a1
 rw [Rat.num_intCast] at h1 o
 rw [ou,ou,Wi (by omega) (by omega)]
 unfold kV
 simp only [Rat.intCast_lt_intCast]
theorem Ok {x:Rat}(R:en ku x):rG (b2 x)=some (b2 (-x)):=by
 obtain ⟨a,rfl,-⟩:=R
 rw [ou,← Rat.intCast_neg,ou]
 unfold rG
 show (m3 (!(decide (a<0))) (L a.natAbs)).bind _=_
 rw [rQ (by omega),Kv];rfl
theorem rP {n:Int}(h:oH n):oc n=some (b2 (n:Rat)):=by rw [ou];exact YL h
theorem YU {x y:Rat}(R:en ku x)(a1:en ku y)(Lx:en ku (x*y))(h0:y≠0):sE (b2 (x*y)) (b2 y)=some (b2 x):=by
 have h1:=xP Lx
 have o:=xP a1
 obtain ⟨a,rfl,-⟩:=R;obtain ⟨b,rfl,-⟩:=a1
 rw [← Rat.intCast_mul] at h1 ⊢
 rw [Rat.num_intCast] at h1 o
 have aS:b≠0:=fun c=>h0 (by rw [c];rfl)
 rw [ou,ou,ou]
 unfold sE
 show (xq (L (a*b).natAbs) (L b.natAbs)).bind _=_
 rw [aaT (ji _) (ji _) (fun c=>by have:=s5.1 c;omega) (by omega) (by omega),ei (by omega),ei (by omega)]
 have e1:((a*b).natAbs:Int) / (b.natAbs:Int)=(a.natAbs:Int):=by
  rw [Int.natAbs_mul,Int.natCast_mul];exact Int.mul_ediv_cancel _ (by omega)
 simp only [Option.bind_some]
 rw [e1]
 show (m3 (!(decide (a*b<0) == decide (b<0))) (L a.natAbs)).bind _=_
 rw [rQ (by omega)]
 simp only [Option.bind_some]
 congr 2
 rcases Int.lt_or_gt_of_ne aS with c|c
 ·by_cases bE:a<0
  ·have : ¬a*b<0:=by have:=Int.mul_pos_of_neg_of_neg bE c;omega
   rw [decide_eq_false this,decide_eq_true c];simp only [ed,show (!(false == true))=true from rfl,if_true];omega
  ·by_cases cw:a=0
   ·subst cw;simp [ed]
   ·have:a*b<0:=Int.mul_neg_of_pos_of_neg (by omega) c
    rw [decide_eq_true this,decide_eq_true c];simp only [ed,BEq.rfl,Bool.not_true,Bool.false_eq_true,if_false];omega
 ·by_cases bE:a<0
  ·have:a*b<0:=Int.mul_neg_of_neg_of_pos bE c
   rw [decide_eq_true this,decide_eq_false (by omega)];simp only [ed,show (!(true == false))=true from rfl,if_true];omega
  ·have : ¬a*b<0:=by have:=Int.mul_nonneg (show 0≤a by omega) (show 0≤b by omega);omega
   rw [decide_eq_false this,decide_eq_false (by omega)];simp only [ed,BEq.rfl,Bool.not_true,Bool.false_eq_true,if_false];omega
def gR (N:Nat)(w:Rat)(t:cI)(i:Nat):List bp:=a6 (N+1) fun j=>b2 (t.T i j*w)
structure qJ (m N:Nat) (w:Rat) (t:cI):Prop where
 pos:0<w
 hw:en (21*100*fK) w
 iP : ∀i,i<m→ ∀j,j≤N→en fK (t.T i j*w)
 gY : ∀i,i<m→t.B i<N
theorem AX:21*100*fK*(21*100*fK)+21*100*fK*(21*100*fK)≤ku:=by decide +kernel
theorem acG {q i:Nat}(bc:0<q)(aq:i≤20):21*100*q*100+i*(q*100)≤21*100*q*(21*100*q):=by
 have h1:i*(q*100)≤20*(q*100):=Nat.mul_le_mul_right _ aq
 have o:21*100*q*2100≤21*100*q*(21*100*q):=Nat.mul_le_mul_left _ (by omega)
 generalize 21*100*q*(21*100*q)=z at *
 omega
theorem acH {i:Nat}(aq:i≤20):21*100*fK*100+i*(fK*100)≤ku :=
 Nat.le_trans (acG pX aq) (Nat.le_trans (Nat.le_add_right _ _) AX)
theorem sf {K:Nat}(h:K≤21*100*fK):K≤ku:=by
 have adY:=AX
 have h1:21*100*fK*1≤21*100*fK*(21*100*fK):=Nat.mul_le_mul_left _ (by have:=pX;generalize fK=q at *;omega)
 rw [Nat.mul_one] at h1
 exact Nat.le_trans h (Nat.le_trans h1 (Nat.le_trans (Nat.le_add_right _ _) adY))
theorem Qf {m N:Nat}(hm:m≤20)(fR:N<1000){w:Rat}{t:cI}(h:qJ m N w t)(I:Nat→Int)(ao:∀j,j<N→ -100≤I j∧I j≤100)(iV:bp)(yb:iV=b2 w)(gr:Int)(free:List Bool){k:Nat}(ba:k<N):
 wW ⟨a6 m (gR N w t),iV,dv m t,gr,free⟩ (a6 N I) (k:Int)=some (jL (t.dB m (fun j=>(I j:Rat)) k)):=by
 subst yb
 have agh:=pX
 have small : ∀ {x:Rat} {K:Nat},en K x→K≤21*100*fK→en ku x:=fun h1 o=>h1.mono (sf o)
 have ak : ∀j,j<N→en 100 ((I j:Int):Rat):=fun j aI=>⟨I j,rfl,by have:=ao j aI;omega⟩
 have Sq : ∀j,j<N→oH (I j):=fun j aI=>by have:=ao j aI;rw [mC];omega
 let S:Nat→Rat:=fun i=>w*(I k:Rat)-dj i (fun i=>(t.T i k*w)*(I (t.B i):Rat))
 have SN : ∀i,i≤m→en ku (S i):=fun i aq=>by
  have e1:en (21*100*fK*100) (w*(I k:Rat)):=h.hw.mul (ak k ba)
  have aC:en (i*(fK*100)) (dj i (fun i=>(t.T i k*w)*(I (t.B i):Rat))):=en.sum fun eA kz=>(h.iP eA (by omega) k (by omega)).mul (ak _ (h.gY eA (by omega)))
  exact (e1.sub aC).mono (acH (by omega))
 unfold wW
 refine bH (by rw [cT];omega) (aR (x:=I k) (by rw [Int.toNat_natCast];exact f7 ba) (aR (rP (Sq k ba)) (aR (xy (small h.hw (Nat.le_refl _)) (small (ak k ba) (by omega))) ?_)))
 obtain ⟨s,e,-⟩:=iF (f:=fun q:Int×Bool×List Int=>vO (a6 m (gR N w t)) (b2 w).cO (b2 w).cC (dv m t) gr free (a6 N I) (k:Int) ((m:Nat):Int) q.1 q.2.1 q.2.2)
  (fun (i:Nat) (_:Unit)=>((i:Int),(b2 (S i)).cO,(b2 (S i)).cC)) m (fun _ _=>True) (fun _=>((b2 (S m)).cO,(b2 (S m)).cC))
  (fun i aq _ _=>by
    refine ⟨(),?_,trivial⟩
    have EO:=h.gY i aq
    have L0:S (i+1)=S i-(t.T i k*w)*(I (t.B i):Rat):=by simp only [S,dj];grind
    unfold vO
    refine dD (by simp only;omega) (bH (by unfold dv;rw [cT];simp only;omega) (aR (x:=((t.B i:Nat):Int)) (by simp only;rw [Int.toNat_natCast];exact f7 aq) (bH (by rw [cT];omega) (aR (x:=I (t.B i)) (by rw [Int.toNat_natCast];exact f7 EO) (ob (fun c=> ?_) (fun c=> ?_))))))
    ·refine bH (by rw [cT];simp only;omega) (aR (x:=gR N w t i) (by simp only;rw [Int.toNat_natCast];exact f7 aq) (bH (by unfold gR;rw [cT];omega) (aR (x:=b2 (t.T i k*w)) (by rw [Int.toNat_natCast];exact f7 (by omega)) (aR (sX (small (h.iP i aq k (by omega)) (by omega))) (ob (fun cd=> ?_) (fun cd=> ?_))))))
     ·refine aR (rP (Sq _ EO)) (aR (xy (small (h.iP i aq k (by omega)) (by omega)) (small (ak _ EO) (by omega))) (aR (PL (SN i (by omega)) (by
       exact small ((h.iP i aq k (by omega)).mul (ak _ EO)) (by omega))) ?_))
      simp only;rw [fC (by omega),L0]
     ·have cw:t.T i k*w=0:=rj.1 (by simpa using cd)
      simp only;rw [fC (by omega),L0,cw,show S i-0*(I (t.B i):Rat)=S i by grind]
    ·have cw:I (t.B i)=0:=by simpa using c
     simp only;rw [fC (by omega),L0,cw,show S i-t.T i k*w*((0:Int):Rat)=S i by rw [show ((0:Int):Rat)=0 from rfl];grind])
  (fun _ _=>by unfold vO;exact dU (by simp) rfl) () trivial
 have e0:S 0=w*(I k:Rat):=by simp only [S,dj];grind
 rw [e0] at e
 refine aR (x:=((b2 (S m)).cO,(b2 (S m)).cC)) (by unfold G4;rw [f6,show (dv m t).length=m from cT ..];exact e) (aR (x:=jL (S m)) (sX (SN m (Nat.le_refl _))) ?_)
 congr 1
 have aC:S m=w*t.dB m (fun j=>(I j:Rat)) k:=by
  simp only [S]
  unfold cI.dB
  rw [h7 (f:=fun i=>t.T i k*w*(I (t.B i):Rat)) (g:=fun i=>w*((I (t.B i):Rat)*t.T i k)) (fun i _=>by grind),ls];grind
 rw [aC]
 have ai:=h.pos
 unfold jL
 by_cases c:t.dB m (fun j=>(I j:Rat)) k=0
 ·rw [if_pos c,if_pos (by rw [c];grind)]
 ·rw [if_neg c,if_neg (by grind)]
  by_cases cd:t.dB m (fun j=>(I j:Rat)) k<0
  ·rw [if_pos cd,if_pos]
   have:=Rat.mul_pos ai (show 0 < -(t.dB m (fun j=>(I j:Rat)) k) by grind)
   grind
  ·rw [if_neg cd,if_neg]
   have:=Rat.mul_pos ai (show 0<t.dB m (fun j=>(I j:Rat)) k by grind)
   grind
theorem PM {x y z v w:Rat}(hw:0<w)(a1:0<y)(bj:0<v):(x*w)*(v*w)<(z*w)*(y*w)↔x / y<z / v:=by
 have e1:(x*w)*(v*w)=(x / y)*((y*v)*(w*w)):=by grind
 have aC:(z*w)*(y*w)=(z / v)*((y*v)*(w*w)):=by grind
 have ai:0<(y*v)*(w*w):=Rat.mul_pos (Rat.mul_pos a1 bj) (Rat.mul_pos hw hw)
 rw [e1,aC]
 constructor
 ·intro h
  apply Classical.byContradiction
  intro c
  have:z / v≤x / y:=by grind
  have:=Rat.mul_le_mul_of_nonneg_right this (Rat.le_of_lt ai)
  grind
 ·intro h;exact Rat.mul_lt_mul_of_pos_right h ai
theorem xH {x w:Rat}(hw:0<w):jL (x*w)=jL x:=by
 unfold jL
 by_cases c:x=0
 ·rw [if_pos c,if_pos (by rw [c];grind)]
 ·rw [if_neg c,if_neg (by grind)]
  by_cases cd:x<0
  ·rw [if_pos cd,if_pos]
   have:=Rat.mul_pos (show 0 < -x by grind) hw
   grind
  ·rw [if_neg cd,if_neg]
   have:=Rat.mul_pos (show 0<x by grind) hw
   grind
theorem YV {m N:Nat}(hm:m≤20)(fR:N<1000){w:Rat}{t:cI}(h:qJ m N w t)(iV:bp)(free:List Bool){k:Nat}(ba:k≤N):
 ∃r,y3 ⟨a6 m (gR N w t),iV,dv m t,(N:Int),free⟩ (k:Int)=some r∧DM m N t k r:=by
 have hw:=h.pos
 have nK : ∀i,i<m→ ∀j,j≤N→en ku (t.T i j*w):=fun i aq j aI=>(h.iP i aq j aI).mono (sf (by have:=pX;generalize fK=q at *;omega))
 have Ck : ∀i,i<m→ ∀j,j≤N→ ∀eA,eA<m→ ∀hN,hN≤N→en ku (t.T i j*w*(t.T eA hN*w)):=fun i aq j aI eA kz hN th=>((h.iP i aq j aI).mul (h.iP eA kz hN th)).mono (by
  refine Nat.le_trans ?_ (Nat.le_trans (Nat.le_add_right _ _) AX)
  exact Nat.mul_le_mul (by generalize fK=q;omega) (by generalize fK=q;omega))
 unfold y3
 obtain ⟨r,e,ar⟩:=rT (f:=fun q:Int×Int=>vG (a6 m (gR N w t)) iV.cO iV.cC (dv m t) (N:Int) free (k:Int) ((m:Nat):Int) q.1 q.2)
  (fun (i:Nat) (s:Int)=>(s,(i:Int))) m
  (fun n s=>(s = -1∧ ∀i,i<n→ ¬0<t.T i k)∨ ∃b:Nat,s=b∧b<n∧0<t.T b k∧ ∀i,i<n→0<t.T i k→t.T b N / t.T b k<t.T i N / t.T i k∨(t.T b N / t.T b k=t.T i N / t.T i k∧t.B b≤t.B i))
  (fun r=>DM m N t k r)
  (fun n a5 s cQ=>by
    left
    unfold vG
    have g1:0≤((n:Nat):Int)∧((n:Nat):Int)<((a6 m (gR N w t)).length:Nat):=by rw [cT];omega
    have g2:(a6 m (gR N w t))[((n:Nat):Int).toNat]? = some (gR N w t n):=by rw [Int.toNat_natCast];exact f7 a5
    have g3 : ∀b,0≤((k:Nat):Int)∧((k:Nat):Int)<((gR N w t b).length:Nat):=fun b=>by unfold gR;rw [cT];omega
    have g4 : ∀b,(gR N w t b)[((k:Nat):Int).toNat]? = some (b2 (t.T b k*w)):=fun b=>by rw [Int.toNat_natCast];exact f7 (by omega)
    have g5 : ∀b,0≤((N:Nat):Int)∧((N:Nat):Int)<((gR N w t b).length:Nat):=fun b=>by unfold gR;rw [cT];omega
    have g6 : ∀b,(gR N w t b)[((N:Nat):Int).toNat]? = some (b2 (t.T b N*w)):=fun b=>by rw [Int.toNat_natCast];exact f7 (by omega)
    have k2:U ((n:Int)+1)=((n+1:Nat):Int):=fC (by omega)
    have pw:oT (b2 (t.T n k*w))=some (jL (t.T n k)):=by rw [sX (nK n a5 k ba),xH hw]
    by_cases ai:0<t.T n k
    ·have bV : ¬jL (t.T n k)≤0:=by have:=qw.2 ai;omega
     rcases cQ with ⟨h1,o⟩|⟨b,h1,aS,jD,ae⟩
     ·refine ⟨(n:Int),dD (by simp only;omega) (bH g1 (aR g2 (bH (g3 n) (aR (g4 n) (aR pw (dU bV (dD (by simp only;omega) ?_))))))),.inr ⟨n,rfl,by omega,ai,fun i aq ij=> ?_⟩⟩
      ·simp only;rw [k2]
      ·by_cases c:i=n
       ·subst c;exact .inr ⟨rfl,Nat.le_refl _⟩
       ·exact (o i (by omega) ij).elim
     ·subst h1
      have EL:0≤((b:Nat):Int)∧((b:Nat):Int)<((a6 m (gR N w t)).length:Nat):=by rw [cT];omega
      have EM:(a6 m (gR N w t))[((b:Nat):Int).toNat]? = some (gR N w t b):=by rw [Int.toNat_natCast];exact f7 (by omega)
      have gc:rH (b2 (t.T n N*w*(t.T b k*w))) (b2 (t.T b N*w*(t.T n k*w)))=some (if t.T n N / t.T n k<t.T b N / t.T b k then -1 else if t.T b N / t.T b k<t.T n N / t.T n k then 1 else 0):=by
       rw [YT (Ck n a5 N (by omega) b (by omega) k ba) (Ck b (by omega) N (by omega) n a5 k ba)]
       have r1:=PM (x:=t.T n N) (y:=t.T n k) (z:=t.T b N) (v:=t.T b k) hw ai jD
       have b5:=PM (x:=t.T b N) (y:=t.T b k) (z:=t.T n N) (v:=t.T n k) hw jD ai
       by_cases bw:t.T n N / t.T n k<t.T b N / t.T b k
       ·rw [if_pos bw,if_pos (r1.2 bw)]
       ·rw [if_neg bw,if_neg (fun c=>bw (r1.1 c))]
        by_cases cd:t.T b N / t.T b k<t.T n N / t.T n k
        ·rw [if_pos cd,if_pos (b5.2 cd)]
        ·rw [if_neg cd,if_neg (fun c=>cd (b5.1 c))]
      have lead : ∀ {x r:Option ((Int×Int)⊕Int)} {f:Int→Option ((Int×Int)⊕Int)} {q:Int},rH (b2 (t.T n N*w*(t.T b k*w))) (b2 (t.T b N*w*(t.T n k*w)))=some q→f q=r →
       (if 0≤((N:Nat):Int)∧((N:Nat):Int)<((gR N w t n).length:Nat) then
         (gR N w t n)[((N:Nat):Int).toNat]? >>= fun qV =>
         if 0≤((b:Nat):Int)∧((b:Nat):Int)<((a6 m (gR N w t)).length:Nat) then
         (a6 m (gR N w t))[((b:Nat):Int).toNat]? >>= fun mr =>
         if 0≤((k:Nat):Int)∧((k:Nat):Int)<(mr.length:Nat) then
         mr[((k:Nat):Int).toNat]? >>= fun qW =>
         pb qV qW >>= fun nF =>
         if 0≤((N:Nat):Int)∧((N:Nat):Int)<(mr.length:Nat) then
         mr[((N:Nat):Int).toNat]? >>= fun so =>
         pb so (b2 (t.T n k*w)) >>= fun nG =>
         rH nF nG >>= f
         else none else none else none else none)=r:=fun bc ck =>
       bH (g5 n) (aR (g6 n) (bH EL (aR EM (bH (g3 b) (aR (g4 b) (aR (xy (nK n a5 N (by omega)) (nK b (by omega) k ba)) (bH (g5 b) (aR (g6 b) (aR (xy (nK b (by omega) N (by omega)) (nK n a5 k ba)) (aR bc ck))))))))))
      by_cases bw:t.T n N / t.T n k<t.T b N / t.T b k
      ·rw [if_pos bw] at gc
       refine ⟨(n:Int),dD (by simp only;omega) (bH g1 (aR g2 (bH (g3 n) (aR (g4 n) (aR pw (dU bV (dU (by simp only;omega) (lead (x:=none) gc (dD (by omega) ?_))))))))),.inr ⟨n,rfl,by omega,ai,fun i aq ij=> ?_⟩⟩
       ·simp only;rw [k2]
       ·by_cases c:i=n
        ·subst c;exact .inr ⟨rfl,Nat.le_refl _⟩
        ·rcases ae i (by omega) ij with h|⟨h,-⟩
         ·left;grind
         ·left;rw [← h];exact bw
      ·rw [if_neg bw] at gc
       by_cases cd:t.T b N / t.T b k<t.T n N / t.T n k
       ·rw [if_pos cd] at gc
        refine ⟨(b:Int),dD (by simp only;omega) (bH g1 (aR g2 (bH (g3 n) (aR (g4 n) (aR pw (dU bV (dU (by simp only;omega) (lead (x:=none) gc (dU (by omega) (kk (by decide) ?_)))))))))),.inr ⟨b,rfl,by omega,jD,fun i aq ij=> ?_⟩⟩
        ·simp only;rw [k2]
        ·by_cases c:i=n
         ·subst c;exact .inl cd
         ·exact ae i (by omega) ij
       ·rw [if_neg cd] at gc
        have LY:t.T b N / t.T b k=t.T n N / t.T n k:=by grind
        have Sr:0≤((n:Nat):Int)∧((n:Nat):Int)<((dv m t).length:Nat):=by unfold dv;rw [cT];omega
        have Ss:(dv m t)[((n:Nat):Int).toNat]? = some ((t.B n:Nat):Int):=by rw [Int.toNat_natCast];exact f7 a5
        have St:0≤((b:Nat):Int)∧((b:Nat):Int)<((dv m t).length:Nat):=by unfold dv;rw [cT];omega
        have Su:(dv m t)[((b:Nat):Int).toNat]? = some ((t.B b:Nat):Int):=by rw [Int.toNat_natCast];exact f7 (by omega)
        by_cases jq:t.B n<t.B b
        ·refine ⟨(n:Int),dD (by simp only;omega) (bH g1 (aR g2 (bH (g3 n) (aR (g4 n) (aR pw (dU bV (dU (by simp only;omega) (lead (x:=none) gc (dU (by omega) (gv rfl (bH Sr (aR Ss (bH St (aR Su (dD (by omega) ?_))))))))))))))),.inr ⟨n,rfl,by omega,ai,fun i aq ij=> ?_⟩⟩
         ·simp only;rw [k2]
         ·by_cases c:i=n
          ·subst c;exact .inr ⟨rfl,Nat.le_refl _⟩
          ·rcases ae i (by omega) ij with h|⟨h,cD⟩
           ·left;grind
           ·right;exact ⟨by grind,by omega⟩
        ·refine ⟨(b:Int),dD (by simp only;omega) (bH g1 (aR g2 (bH (g3 n) (aR (g4 n) (aR pw (dU bV (dU (by simp only;omega) (lead (x:=none) gc (dU (by omega) (gv rfl (bH Sr (aR Ss (bH St (aR Su (dU (by omega) ?_))))))))))))))),.inr ⟨b,rfl,by omega,jD,fun i aq ij=> ?_⟩⟩
         ·simp only;rw [k2]
         ·by_cases c:i=n
          ·subst c;exact .inr ⟨LY,by omega⟩
          ·exact ae i (by omega) ij
    ·have bV:jL (t.T n k)≤0:=by
      have : ¬0<jL (t.T n k):=fun c=>ai (qw.1 c)
      omega
     refine ⟨s,dD (by simp only;omega) (bH g1 (aR g2 (bH (g3 n) (aR (g4 n) (aR pw (dD bV ?_)))))),?_⟩
     ·simp only;rw [k2]
     ·rcases cQ with ⟨h1,o⟩|⟨b,h1,aS,jD,ae⟩
      ·exact .inl ⟨h1,fun i aq=>if c:i=n then c▸ai else o i (by omega)⟩
      ·exact .inr ⟨b,h1,by omega,jD,fun i aq ij=>if c:i=n then (ai (c▸ij)).elim else ae i (by omega) ij⟩)
  (fun s cQ=>by
    refine ⟨s,by unfold vG;exact dU (by simp only;omega) rfl,?_⟩
    rcases cQ with ⟨h1,o⟩|⟨b,h1,aS,jD,ae⟩
    ·exact .inl ⟨h1,o⟩
    ·refine .inr ⟨b,h1,aS,jD,fun i aq ij=> ?_,fun i aq ij he=> ?_⟩
     ·rw [← (DA jD ij).1]
      rcases ae i aq ij with h|⟨h,-⟩
      ·exact Rat.le_of_lt h
      ·rw [h];exact Rat.le_refl
     ·rw [← (DA jD ij).2] at he
      rcases ae i aq ij with h|⟨-,h⟩
      ·rw [he] at h;grind
      ·exact h) (-1:Int) (.inl ⟨rfl,fun i aq=>by omega⟩)
 refine ⟨r,aR ?_ rfl,ar⟩
 unfold Ga
 rw [e6,cT]
 exact e
def hi (m N:Nat)(h:Nat→Nat):List bt:=a6 m fun i=>some (h i,N+1)
structure mM (m N M:Nat) (h:Nat→Nat) (w:Rat) (t:cI) (e9:List (List bp)):Prop where
 len:e9.length=M
 row : ∀i,i<m→e9[h i]? = some (gR N w t i)
theorem C9 {α:Type}{l:List α}{i:Nat}{x y:α}(h:l[i]? = some x):(l.set i y)[i]? = some y:=by
 rw [List.getElem?_set,if_pos rfl,if_pos (List.getElem?_eq_some_iff.1 h).1]
theorem JG {α:Type}{l:List α}{i k:Nat}{y:α}(h:i≠k):(l.set i y)[k]? = l[k]? := by
 rw [List.getElem?_set,if_neg h]
theorem set_set {α:Type}(l:List α)(i:Nat)(x y:α):(l.set i x).set i y=l.set i y:=by
 rw [List.set_set]
structure x8 (m N:Nat) (w:Rat) (t:cI) (r k:Nat):Prop where
 ar:r<m
 ba:k<N
 ai:t.T r k≠0
 B4 : ∀i,i<m→ ∀j,j≤N→en fK ((t.cP r k).T i j*(t.T r k*w))
theorem aav {m N:Nat}(fR:N<1000){h:Nat→Nat}{w:Rat}{t:cI}{r k:Nat}(f:qJ m N w t)(g:x8 m N w t r k){i:Nat}(aq:i<m)(yF:i≠r)(dr:h i≠h r){e9:List (List bp)}(h1:e9[h i]? = some (gR N w t i))(o:e9[h r]? = some (gR N w t r))
 (x1 d3:Int) (aE:Int) (q1:List bt) (aY:List Int) (bJ:List Bool) (v1 v2:Int) :
 Cv v1 v2 (some (h r,N+1)) (some (h i,N+1)) x1 d3 (((N+1:Nat):Nat):Int) (b2 w).cO (b2 w).cC aE q1 aY bJ (b2 (t.T r k*w)).cO (b2 (t.T r k*w)).cC (b2 (t.T i k*w)).cO (b2 (t.T i k*w)).cC 0 e9=some (e9.set (h i) (gR N (t.T r k*w) (t.cP r k) i)):=by
 have hw:=f.pos
 have nK : ∀i,i<m→ ∀j,j≤N→en ku (t.T i j*w):=fun i aq j aI=>(f.iP i aq j aI).mono (sf (by have:=pX;generalize fK=q at *;omega))
 have aeu:en ku w:=f.hw.mono (sf (Nat.le_refl _))
 have aev : ∀i,i<m→ ∀j,j≤N→en ku ((t.cP r k).T i j*(t.T r k*w)):=fun i aq j aI=>(g.B4 i aq j aI).mono (sf (by have:=pX;generalize fK=q at *;omega))
 have Ck : ∀i,i<m→ ∀j,j≤N→ ∀eA,eA<m→ ∀hN,hN≤N→en ku (t.T i j*w*(t.T eA hN*w)):=fun i aq j aI eA kz hN th=>((f.iP i aq j aI).mul (f.iP eA kz hN th)).mono (by
  refine Nat.le_trans ?_ (Nat.le_trans (Nat.le_add_right _ _) AX)
  exact Nat.mul_le_mul (by generalize fK=q;omega) (by generalize fK=q;omega))
 have adZ : ∀j,j≤N→en ku ((t.cP r k).T i j*(t.T r k*w)*w):=fun j aI=>((g.B4 i aq j aI).mul f.hw).mono (by
  refine Nat.le_trans ?_ (Nat.le_trans (Nat.le_add_right _ _) AX)
  exact Nat.mul_le_mul (by generalize fK=q;omega) (Nat.le_refl _))
 have ar:=g.ar
 have ba:=g.ba
 have ai:=g.ai
 have yL : ∀j,(t.cP r k).T i j=t.T i j-t.T i k*(t.T r j / t.T r k):=fun j=>by simp [cI.cP,yF]
 have Le:w≠0:=by grind
 unfold Cv
 obtain ⟨s,e,-⟩:=iF (f:=fun q:Int×List (List bp)=>vH v1 v2 (some (h r,N+1)) (some (h i,N+1)) x1 d3 (((N+1:Nat):Nat):Int) (b2 w).cO (b2 w).cC aE q1 aY bJ (b2 (t.T r k*w)).cO (b2 (t.T r k*w)).cC (b2 (t.T i k*w)).cO (b2 (t.T i k*w)).cC q.1 q.2)
  (fun (c:Nat) (_:Unit)=>((c:Int),e9.set (h i) (a6 (N+1) fun j=>if j<c then b2 ((t.cP r k).T i j*(t.T r k*w)) else b2 (t.T i j*w)))) (N+1) (fun _ _=>True)
  (fun _=>e9.set (h i) (gR N (t.T r k*w) (t.cP r k) i))
  (fun c bf _ _=>by
    refine ⟨(),?_,trivial⟩
    have fin:(some (Sum.inl (U ((c:Int)+1),(e9.set (h i) (a6 (N+1) fun j=>if j<c then b2 ((t.cP r k).T i j*(t.T r k*w)) else b2 (t.T i j*w))).set (h i) ((a6 (N+1) fun j=>if j<c then b2 ((t.cP r k).T i j*(t.T r k*w)) else b2 (t.T i j*w)).set (0+((c:Int)).toNat) (b2 ((t.cP r k).T i c*(t.T r k*w)))))):Option ((Int×List (List bp))⊕List (List bp))) =
     some (Sum.inl (((c+1:Nat):Int),e9.set (h i) (a6 (N+1) fun j=>if j<c+1 then b2 ((t.cP r k).T i j*(t.T r k*w)) else b2 (t.T i j*w)))):=by
     rw [fC (by omega),Int.toNat_natCast,Nat.zero_add,set_set,kS]
     congr 4
     refine eW fun j _=> ?_
     by_cases bw:j=c
     ·subst bw;rw [if_pos rfl,if_pos (by omega)]
     ·rw [if_neg bw]
      by_cases cd:j<c
      ·rw [if_pos cd,if_pos (by omega)]
      ·rw [if_neg cd,if_neg (by omega)]
    have hO:sE (b2 ((t.cP r k).T i c*(t.T r k*w)*w)) (b2 w)=some (b2 ((t.cP r k).T i c*(t.T r k*w))):=YU (aev i aq c (by omega)) aeu (adZ c (by omega)) Le
    unfold vH
    refine dD (by simp only;omega) (aR (x:=(h i,N+1)) rfl (aR (x:=a6 (N+1) fun j=>if j<c then b2 ((t.cP r k).T i j*(t.T r k*w)) else b2 (t.T i j*w)) (by simp only;exact C9 h1) (bH (by simp only;omega) (aR (x:=b2 (t.T i c*w)) (by simp only;rw [Int.toNat_natCast,h8 bf,if_neg (by omega)]) ?_))))
    refine aR (xy (nK i aq c (by omega)) (nK r ar k (by omega))) (aR (sX (nK i aq k (by omega))) (ob (fun d=> ?_) (fun d=> ?_)))
    ·refine aR (x:=(h r,N+1)) rfl (aR (x:=gR N w t r) (by simp only;rw [JG dr];exact o) (bH (by simp only;omega) (aR (x:=b2 (t.T r c*w)) (by simp only;rw [Int.toNat_natCast];exact h8 bf) (aR (sX (nK r ar c (by omega))) (ob (fun d2=> ?_) (fun d2=> ?_))))))
     ·refine aR (xy (nK i aq k (by omega)) (nK r ar c (by omega))) (aR (PL (Ck i aq c (by omega) r ar k (by omega)) (Ck i aq k (by omega) r ar c (by omega))) (aR ?_ fin))
      rw [show t.T i c*w*(t.T r k*w)-t.T i k*w*(t.T r c*w)=(t.cP r k).T i c*(t.T r k*w)*w by rw [yL];grind]
      exact hO
     ·have cw:t.T r c=0:=by have:=rj.1 (by simpa using d2);grind
      refine aR ?_ fin
      rw [show t.T i c*w*(t.T r k*w)=(t.cP r k).T i c*(t.T r k*w)*w by rw [yL,cw];grind]
      exact hO
    ·have cw:t.T i k=0:=by have:=rj.1 (by simpa using d);grind
     refine aR ?_ fin
     rw [show t.T i c*w*(t.T r k*w)=(t.cP r k).T i c*(t.T r k*w)*w by rw [yL,cw];grind]
     exact hO)
  (fun _ _=>by
    unfold vH
    refine dU (by simp) ?_
    simp only
    congr 3
    exact eW fun j aI=>by rw [if_pos aI]) () trivial
 have e0:e9.set (h i) (a6 (N+1) fun j=>if j<0 then b2 ((t.cP r k).T i j*(t.T r k*w)) else b2 (t.T i j*w))=e9:=by
  have:(a6 (N+1) fun j=>if j<0 then b2 ((t.cP r k).T i j*(t.T r k*w)) else b2 (t.T i j*w))=gR N w t i:=eW fun j _=>by rw [if_neg (by omega)]
  rw [this]
  apply List.ext_getElem?
  intro c
  rw [List.getElem?_set]
  split
  ·rename_i e;subst e
   rw [if_pos (List.getElem?_eq_some_iff.1 h1).1,h1]
  ·rfl
 rw [e0] at e
 exact e
theorem aaw {m N:Nat}(fR:N<1000){h:Nat→Nat}{w:Rat}{t:cI}(iP:∀i,i<m→ ∀j,j≤N→en fK (t.T i j*w)){i:Nat}(aq:i<m){e9:List (List bp)}(h1:e9[h i]? = some (gR N w t i))
 (x1 d3:Int) (im:Bool) (jN:List Int) (aE:Int) (q1:List bt) (aY:List Int) (bJ:List Bool) :
 Cx (some (h i,N+1)) x1 d3 (((N+1:Nat):Nat):Int) im jN aE q1 aY bJ 0 e9=some (e9.set (h i) (gR N (-w) t i)):=by
 have nK : ∀j,j≤N→en ku (t.T i j*w):=fun j aI=>(iP i aq j aI).mono (sf (by have:=pX;generalize fK=q at *;omega))
 unfold Cx
 obtain ⟨s,e,-⟩:=iF (f:=fun q:Int×List (List bp)=>vJ (some (h i,N+1)) x1 d3 (((N+1:Nat):Nat):Int) im jN aE q1 aY bJ q.1 q.2)
  (fun (c:Nat) (_:Unit)=>((c:Int),e9.set (h i) (a6 (N+1) fun j=>if j<c then b2 (t.T i j * -w) else b2 (t.T i j*w)))) (N+1) (fun _ _=>True)
  (fun _=>e9.set (h i) (gR N (-w) t i))
  (fun c bf _ _=>by
    refine ⟨(),?_,trivial⟩
    unfold vJ
    refine dD (by simp only;omega) (aR (x:=(h i,N+1)) rfl (aR (x:=a6 (N+1) fun j=>if j<c then b2 (t.T i j * -w) else b2 (t.T i j*w)) (by simp only;exact C9 h1) (bH (by simp only;omega) (aR (x:=b2 (t.T i c*w)) (by simp only;rw [Int.toNat_natCast,h8 bf,if_neg (by omega)]) (aR (Ok (nK c (by omega))) ?_)))))
    simp only
    rw [fC (by omega),Int.toNat_natCast,Nat.zero_add,set_set,kS]
    congr 4
    refine eW fun j _=> ?_
    by_cases bw:j=c
    ·subst bw;rw [if_pos rfl,if_pos (by omega)];congr 1;grind
    ·rw [if_neg bw]
     by_cases cd:j<c
     ·rw [if_pos cd,if_pos (by omega)]
     ·rw [if_neg cd,if_neg (by omega)])
  (fun _ _=>by
    unfold vJ
    refine dU (by simp) ?_
    simp only
    congr 3
    exact eW fun j aI=>by rw [if_pos aI]) () trivial
 have e0:e9.set (h i) (a6 (N+1) fun j=>if j<0 then b2 (t.T i j * -w) else b2 (t.T i j*w))=e9:=by
  have:(a6 (N+1) fun j=>if j<0 then b2 (t.T i j * -w) else b2 (t.T i j*w))=gR N w t i:=eW fun j _=>by rw [if_neg (by omega)]
  rw [this]
  apply List.ext_getElem?
  intro c
  rw [List.getElem?_set]
  split
  ·rename_i e;subst e
   rw [if_pos (List.getElem?_eq_some_iff.1 h1).1,h1]
  ·rfl
 rw [e0] at e
 exact e
def pq (w:Rat)(t:cI)(r k:Nat):Rat:=if 0<t.T r k then t.T r k*w else -(t.T r k*w)
theorem Qg {m N M:Nat}(hm:m≤20)(fR:N<1000){h:Nat→Nat}(inj:∀i,i<m→ ∀k,k<m→h i=h k→i=k){w:Rat}{t:cI}{r k:Nat}(f:qJ m N w t)(g:x8 m N w t r k){e9:List (List bp)}(hh:mM m N M h w t e9)(gr:Int)(free:List Bool):
 ∃kU,wz r k (b2 w).cO (b2 w).cC gr (hi m N h) e9 (dv m t) free=some ((b2 (pq w t r k)).cO,(b2 (pq w t r k)).cC,kU,dv m (t.cP r k))∧mM m N M h (pq w t r k) (t.cP r k) kU:=by
 have ar:=g.ar
 have ba:=g.ba
 have ai:=g.ai
 have hw:=f.pos
 have nK : ∀i,i<m→ ∀j,j≤N→en ku (t.T i j*w):=fun i aq j aI=>(f.iP i aq j aI).mono (sf (by have:=pX;generalize fK=q at *;omega))
 have q6:gR N (t.T r k*w) (t.cP r k) r=gR N w t r:=eW fun j _=>by
  simp only [cI.cP,if_true];congr 1;grind
 have yM:(hi m N h).length=m:=cT ..
 unfold wz
 obtain ⟨p1,e1,kD,r1⟩:=iF (f:=fun q:Int×List (List bp)=>vI (r:Int) (k:Int) (some (h r,N+1)) ((m:Nat):Int) (b2 w).cO (b2 w).cC gr (hi m N h) (dv m t) free (b2 (t.T r k*w)).cO (b2 (t.T r k*w)).cC q.1 q.2)
  (fun (i:Nat) (p:List (List bp))=>((i:Int),p)) m (fun n p=>p.length=M∧ ∀i,i<m→p[h i]? = some (if i=r∨i<n then gR N (t.T r k*w) (t.cP r k) i else gR N w t i)) (fun p=>p)
  (fun n a5 p cQ=>by
    obtain ⟨aV,cQ⟩:=cQ
    unfold vI
    by_cases c:n=r
    ·subst c
     refine ⟨p,dD (by simp only;omega) (bH (by rw [yM];simp only;omega) (aR (x:=some (h n,N+1)) (by simp only;rw [Int.toNat_natCast];exact h8 a5) (gv (by simp) ?_))),aV,fun i aq=> ?_⟩
     ·simp only;rw [fC (by omega)]
     ·rw [cQ i aq]
      by_cases bw:i=n∨i<n
      ·rw [if_pos bw,if_pos (by omega)]
      ·rw [if_neg bw,if_neg (by omega)]
    ·have dr:h n≠h r:=fun e=>c (inj n a5 r ar e)
     have h1:p[h n]? = some (gR N w t n):=by rw [cQ n a5,if_neg (by omega)]
     have o:p[h r]? = some (gR N w t r):=by rw [cQ r ar,if_pos (.inl rfl),q6]
     refine ⟨p.set (h n) (gR N (t.T r k*w) (t.cP r k) n),dD (by simp only;omega) (bH (by rw [yM];simp only;omega) (aR (x:=some (h n,N+1)) (by simp only;rw [Int.toNat_natCast];exact h8 a5) (kk (by simp;omega) (aR (x:=(h n,N+1)) rfl (aR h1 (bH (by simp only;omega) (aR (x:=b2 (t.T n k*w)) (by rw [Int.toNat_natCast];exact h8 (by omega)) (aR (aav fR f g a5 c dr h1 o _ _ _ _ _ _ _ _) ?_)))))))),by rw [List.length_set];exact aV,fun i aq=> ?_⟩
     ·simp only;rw [fC (by omega)]
     ·by_cases bw:i=n
      ·subst bw;rw [C9 h1,if_pos (.inr (by omega))]
      ·rw [JG (fun e=>bw (inj i aq n a5 e.symm)),cQ i aq]
       by_cases cd:i=r∨i<n
       ·rw [if_pos cd,if_pos (by omega)]
       ·rw [if_neg cd,if_neg (by omega)])
  (fun p _=>by unfold vI;exact dU (by simp) rfl) e9 ⟨hh.len,fun i aq=>by
    rw [hh.row i aq]
    by_cases c:i=r
    ·rw [if_pos (.inl c),c,q6]
    ·rw [if_neg (by omega)]⟩
 have yD : ∀i,i<m→p1[h i]? = some (gR N (t.T r k*w) (t.cP r k) i):=fun i aq=>by rw [r1 i aq,if_pos (.inr aq)]
 have acI:(dv m t).set (0+((r:Int)).toNat) (k:Int)=dv m (t.cP r k):=by
  rw [Int.toNat_natCast,Nat.zero_add]
  unfold dv
  rw [kS]
  exact eW fun i _=>by
   simp only [cI.cP]
   split<;>rfl
 have lead :
  (if 0≤(r:Int)∧(r:Int)<((hi m N h).length:Nat) then
    (hi m N h)[(0+((r:Int)).toNat)]? >>= fun d3 =>
    d3 >>= fun jE =>
    e9[jE.1]? >>= fun m0 =>
    if 0≤(k:Int)∧(k:Int)<(jE.2:Nat) then
    m0[(0+((k:Int)).toNat)]? >>= fun eo =>
    Cw (r:Int) (k:Int) d3 (((hi m N h).length:Nat):Int) (b2 w).cO (b2 w).cC gr (hi m N h) (dv m t) free eo.cO eo.cC 0 e9 >>= fun dc =>
    if 0≤(r:Int)∧(r:Int)<((dv m t).length:Nat) then
    if (0+((r:Int)).toNat)<(dv m t).length then
    oT eo >>= fun gB =>
    if (decide ((0:Int)<gB))=true then
     some (eo.cO,eo.cC,dc,(dv m t).set (0+((r:Int)).toNat) (k:Int))
    else
     rG eo >>= fun fa =>
     yW (((hi m N h).length:Nat):Int) fa.cO fa.cC gr (hi m N h) ((dv m t).set (0+((r:Int)).toNat) (k:Int)) free 0 dc >>= fun jo =>
     some (fa.cO,fa.cC,jo,(dv m t).set (0+((r:Int)).toNat) (k:Int))
    else none else none else none else none)=(if (decide ((0:Int)<jL (t.T r k)))=true then
     some ((b2 (t.T r k*w)).cO,(b2 (t.T r k*w)).cC,p1,dv m (t.cP r k))
    else
     rG (b2 (t.T r k*w)) >>= fun fa =>
     yW ((m:Nat):Int) fa.cO fa.cC gr (hi m N h) (dv m (t.cP r k)) free 0 p1 >>= fun jo =>
     some (fa.cO,fa.cC,jo,dv m (t.cP r k))):=by
  refine bH (by rw [yM];omega) (aR (x:=some (h r,N+1)) (by rw [Int.toNat_natCast];exact h8 ar) (aR (x:=(h r,N+1)) rfl (aR (hh.row r ar) (bH (by simp only;omega) (aR (x:=b2 (t.T r k*w)) (by rw [Int.toNat_natCast];exact h8 (by omega)) (aR (x:=p1) (by unfold Cw;rw [yM];exact e1) (bH (by unfold dv;rw [cT];omega) (bH (by unfold dv;rw [cT,Int.toNat_natCast];omega) (aR (sX (nK r ar k (by omega))) ?_)))))))))
  rw [xH hw,acI,yM]
 by_cases j0:0<t.T r k
 ·have tE:pq w t r k=t.T r k*w:=if_pos j0
  refine ⟨p1,lead.trans ?_,kD,fun i aq=>by rw [tE];exact yD i aq⟩
  rw [tE]
  exact dD (qw.2 j0) rfl
 ·have tE:pq w t r k = -(t.T r k*w):=if_neg j0
  obtain ⟨hg,aC,qY,b5⟩:=iF (f:=fun q:Int×List (List bp)=>vK ((m:Nat):Int) (b2 (-(t.T r k*w))).cO (b2 (-(t.T r k*w))).cC gr (hi m N h) (dv m (t.cP r k)) free q.1 q.2)
   (fun (i:Nat) (p:List (List bp))=>((i:Int),p)) m (fun n p=>p.length=M∧ ∀i,i<m→p[h i]? = some (if i<n then gR N (-(t.T r k*w)) (t.cP r k) i else gR N (t.T r k*w) (t.cP r k) i)) (fun p=>p)
   (fun n a5 p cQ=>by
     obtain ⟨aV,cQ⟩:=cQ
     have h1:p[h n]? = some (gR N (t.T r k*w) (t.cP r k) n):=by rw [cQ n a5,if_neg (by omega)]
     unfold vK
     refine ⟨p.set (h n) (gR N (-(t.T r k*w)) (t.cP r k) n),dD (by simp only;omega) (bH (by rw [yM];simp only;omega) (aR (x:=some (h n,N+1)) (by simp only;rw [Int.toNat_natCast];exact h8 a5) (aR (x:=(h n,N+1)) rfl (aR h1 (aR (aaw fR g.B4 a5 h1 _ _ _ _ _ _ _ _) ?_))))),by rw [List.length_set];exact aV,fun i aq=> ?_⟩
     ·simp only;rw [fC (by omega)]
     ·by_cases bw:i=n
      ·subst bw;rw [C9 h1,if_pos (by omega)]
      ·rw [JG (fun e=>bw (inj i aq n a5 e.symm)),cQ i aq]
       by_cases cd:i<n
       ·rw [if_pos cd,if_pos (by omega)]
       ·rw [if_neg cd,if_neg (by omega)])
   (fun p _=>by unfold vK;exact dU (by simp) rfl) p1 ⟨kD,fun i aq=>by rw [yD i aq,if_neg (by omega)]⟩
  refine ⟨hg,lead.trans ?_,qY,fun i aq=>by rw [tE,b5 i aq,if_pos aq]⟩
  rw [tE]
  exact dU (fun c=>j0 (qw.1 c)) (aR (Ok (nK r ar k (by omega))) (aR (x:=hg) (by unfold yW;exact aC) rfl))
theorem N4 {m:Nat}(hm:m≤1000)(t:cI)(j:Nat): ∃b,xl (dv m t) (j:Int)=some b∧(b=true↔ ∃i,i<m∧t.B i=j):=by
 unfold xl DK JC
 obtain ⟨r,e,h⟩:=rT (f:=fun w:Int=>w0 (dv m t) (j:Int) ((m:Nat):Int) w) (fun (i:Nat) (_:Unit)=>(i:Int)) m (fun i _=> ∀k,k<i→t.B k≠j)
  (fun r=>(∃i:Nat,r = .inr (i:Int)∧i<m∧t.B i=j)∨(r = .inl ()∧ ¬∃i,i<m∧t.B i=j))
  (fun i aq _ cQ=>by
    unfold w0
    by_cases c:t.B i=j
    ·right
     exact ⟨_,dD (by omega) (bH (by unfold dv;rw [cT];omega) (aR (x:=((t.B i:Nat):Int)) (by rw [Int.toNat_natCast];exact f7 aq) (gv (by simp [c]) rfl))),.inl ⟨i,rfl,aq,c⟩⟩
    ·left
     refine ⟨(),dD (by omega) (bH (by unfold dv;rw [cT];omega) (aR (x:=((t.B i:Nat):Int)) (by rw [Int.toNat_natCast];exact f7 aq) (kk (by simp;omega) (by rw [fC (by omega)])))),fun k ba=> ?_⟩
     by_cases e:k=i
     ·rw [e];exact c
     ·exact cQ k (by omega))
  (fun _ cQ=>⟨_,by unfold w0;exact dU (by omega) rfl,.inr ⟨rfl,fun ⟨i,aq,e⟩=>cQ i aq e⟩⟩) () (fun k ba=>by omega)
 rw [f6,show (dv m t).length=m from cT ..]
 rcases h with ⟨i,rfl,h1,o⟩|⟨rfl,h⟩
 ·exact ⟨true,aR (x:=(i:Int)) (aR e rfl) (by simp),by simp only [true_iff];exact ⟨i,h1,o⟩⟩
 ·exact ⟨false,aR (x:=(-1:Int)) (aR e rfl) rfl,by simp [h]⟩
theorem Ar {m N M:Nat}{h:Nat→Nat}{w:Rat}{t:cI}{e9:List (List bp)}(hh:mM m N M h w t e9):(hi m N h).all (oM e9)=true:=by
 rw [List.all_eq_true]
 intro x R
 obtain ⟨i,aq,rfl⟩:=DJ.1 R
 simp only [oM]
 have h1:=hh.row i aq
 have o:e9.getD (h i) []=gR N w t i:=by rw [List.getD_eq_getElem?_getD,h1];rfl
 rw [o,show (gR N w t i).length=N+1 from cT ..]
 simp [(List.getElem?_eq_some_iff.1 h1).1]
theorem uz {m N M:Nat}{h:Nat→Nat}{w:Rat}{t:cI}{e9:List (List bp)}(hh:mM m N M h w t e9):(hi m N h).map (gz e9)=a6 m (gR N w t):=by
 unfold hi
 rw [Kd]
 exact eW fun i aq=>by
  have o:e9.getD (h i) []=gR N w t i:=by rw [List.getD_eq_getElem?_getD,hh.row i aq];rfl
  simp only [gz]
  rw [o]
  exact List.take_of_length_le (Nat.le_of_eq (cT ..))
theorem Sv {m:Nat}{I:Nat→Rat}{t:cI}{j:Nat}:t.rD m 1 (fun _=>I) j↔0<t.dB m I j:=Eb (g:=fun _=>t.dB m I j)
theorem YW {gm m N M:Nat}{A:Nat→Nat→Rat}(hm:m≤20)(fR:N<1000){h:Nat→Nat}(inj:∀i,i<m→ ∀k,k<m→h i=h k→i=k){w:Rat}{t:cI}(ok:ga gm m N A t)(f:qJ m N w t)(I:Nat→Int)(ao:∀j,j<N→ -100≤I j∧I j≤100)(fg:Nat→Bool)
 (aew : ∀r s,o2 m N 1 (fun _ j=>(I j:Rat)) (fun j=>fg j=true) t r s→x8 m N w t r s) {e9:List (List bp)} (hh:mM m N M h w t e9) :
 ∃x,vM (N:Int) (b2 w).cO (b2 w).cC (hi m N h) e9 (dv m t) (a6 N fg) (a6 N I) 0=some x ∧
  ((x = .inl (false,(b2 w).cO,(b2 w).cC,e9,dv m t)∧ ∀j,j<N→fg j=true→ ¬0<t.dB m (fun j=>(I j:Rat)) j) ∨
   (∃r s kU,x = .inl (true,(b2 (pq w t r s)).cO,(b2 (pq w t r s)).cC,kU,dv m (t.cP r s))∧o2 m N 1 (fun _ j=>(I j:Rat)) (fun j=>fg j=true) t r s∧mM m N M h (pq w t r s) (t.cP r s) kU) ∨
   (x = .inr ()∧ ∃s,s<N∧0<t.dB m (fun j=>(I j:Rat)) s∧ ∀i,i<m→ ¬0<t.T i s)):=by
 unfold vM
 refine rT (f:=fun q:Int=>vD (N:Int) (b2 w).cO (b2 w).cC (hi m N h) e9 (dv m t) (a6 N fg) (a6 N I) q) (fun (i:Nat) (_:Unit)=>(i:Int)) N
  (fun n _=> ∀j,j<n→fg j=true→ ¬0<t.dB m (fun j=>(I j:Rat)) j) _ (fun n a5 _ cQ=> ?_) (fun _ cQ=> ?_) () (fun j aI=>by omega)
 ·have next : ∀(jz:fg n=true→ ¬0<t.dB m (fun j=>(I j:Rat)) n),∀j,j<n+1→fg j=true→ ¬0<t.dB m (fun j=>(I j:Rat)) j:=fun jz j aI=>by
   by_cases c:j=n
   ·subst c;exact jz
   ·exact cQ j (by omega)
  have g1:0≤((n:Nat):Int)∧((n:Nat):Int)<((a6 N fg).length:Nat):=by rw [cT];omega
  have g2:(a6 N fg)[(0+((n:Nat):Int).toNat)]? = some (fg n):=by rw [Int.toNat_natCast];exact h8 a5
  have k2:U ((n:Int)+1)=((n+1:Nat):Int):=fC (by omega)
  unfold vD
  by_cases qi:fg n=true
  ·obtain ⟨b,im,jN⟩:=N4 (m:=m) (by omega) t n
   cases b with
   | true =>
    obtain ⟨i,aq,gY⟩:=jN.1 rfl
    left
    refine ⟨(),dD (by omega) (bH g1 (aR g2 (gv qi (aR im (gv rfl (by rw [k2])))))),next fun _=> ?_⟩
    rw [← gY,ok.z7 _ aq];grind
   | false =>
    have dI:=Qf hm fR f I ao ((⟨(b2 w).cO,(b2 w).cC⟩:bp)) rfl (N:Int) (a6 N fg) a5
    by_cases rF:0<t.dB m (fun j=>(I j:Rat)) n
    ·obtain ⟨q,q1,aY⟩:=YV hm fR f ((⟨(b2 w).cO,(b2 w).cC⟩:bp)) (a6 N fg) (k:=n) (by omega)
     have bV : ¬jL (t.dB m (fun j=>(I j:Rat)) n)≤0:=by have:=qw.2 rF;omega
     right
     rcases aY with ⟨rfl,o⟩|⟨b,rfl,aS,jD,ae,av⟩
     ·exact ⟨_,dD (by omega) (bH g1 (aR g2 (gv qi (aR im (kk rfl (bH (Ar hh) (aR (by rw [uz hh];exact dI) (dU bV (aR (by rw [uz hh];exact q1) (dD (by decide) rfl)))))))))),.inr (.inr ⟨rfl,n,a5,rF,o⟩)⟩
     ·have dx:o2 m N 1 (fun _ j=>(I j:Rat)) (fun j=>fg j=true) t b n:=⟨a5,qi,Sv.2 rF,fun j aI ck dI=>cQ j aI ck (Sv.1 dI),aS,jD,ae,av⟩
      obtain ⟨kU,e1,aC⟩:=Qg hm fR inj f (aew b n dx) hh (N:Int) (a6 N fg)
      exact ⟨_,dD (by omega) (bH g1 (aR g2 (gv qi (aR im (kk rfl (bH (Ar hh) (aR (by rw [uz hh];exact dI) (dU bV (aR (by rw [uz hh];exact q1) (dU (by omega) (aR e1 rfl))))))))))),.inr (.inl ⟨b,n,kU,rfl,dx,aC⟩)⟩
    ·left
     have bV:jL (t.dB m (fun j=>(I j:Rat)) n)≤0:=by
      have : ¬0<jL (t.dB m (fun j=>(I j:Rat)) n):=fun c=>rF (qw.1 c)
      omega
     exact ⟨(),dD (by omega) (bH g1 (aR g2 (gv qi (aR im (kk rfl (bH (Ar hh) (aR (by rw [uz hh];exact dI) (dD bV (by rw [k2]))))))))),next fun _=>rF⟩
  ·left
   have EP:fg n=false:=by simpa using qi
   exact ⟨(),dD (by omega) (bH g1 (aR g2 (kk EP (by rw [k2])))),next fun c=>(qi c).elim⟩
 ·exact ⟨_,by unfold vD;exact dU (by omega) rfl,.inl ⟨rfl,cQ⟩⟩
def tc (N:Int)(p6:List bt)(free:List Bool)(obj:List Int)(s:Bool×List Int×List (List bp)×List Int):Option ((Bool×List Int×List (List bp)×List Int)⊕((Bool×List Int×List (List bp)×List Int)⊕(Bool×List Int×List (List bp)×List Int))) :=
 match vM N s.1 s.2.1 p6 s.2.2.1 s.2.2.2 free obj 0 with
 | none=>none
 | some (.inl (true,bO))=>some (.inl bO)
 | some (.inl (false,bO))=>some (.inr (.inl bO))
 | some (.inr ())=>some (.inr (.inr s))
theorem aax {N:Int}{p6:List bt}{free:List Bool}{obj:List Int}: ∀s r,iter (tc N p6 free obj) s=some r→Cs N p6 free obj true s.1 s.2.1 s.2.2.1 s.2.2.2=some r:=by
 unfold Cs
 apply iter.partial_correctness (tc N p6 free obj) (fun s r=>iter (fun w:Bool×Bool×(List Int)×(List (List bp))×(List Int)=>tF N p6 free obj w.1 w.2.1 w.2.2.1 w.2.2.2.1 w.2.2.2.2) (true,s.1,s.2.1,s.2.2.1,s.2.2.2)=some r)
 intro it ih s r ar
 cases R:vM N s.1 s.2.1 p6 s.2.2.1 s.2.2.2 free obj 0 with
 | none=>unfold tc at ar;rw [R] at ar;simp at ar
 | some x =>
  have hm:tF N p6 free obj true s.1 s.2.1 s.2.2.1 s.2.2.2=match x with
   | .inl ff=>(some (.inl (ff.1,ff.2.1,ff.2.2.1,ff.2.2.2.1,ff.2.2.2.2)))
   | .inr ff=>(some (.inr (.inr (s.1,s.2.1,s.2.2.1,s.2.2.2)))):=by
   unfold tF
   refine gv rfl ?_
   cases x with
   | inl a=>exact aR R rfl
   | inr a=>exact aR R rfl
  unfold tc at ar
  rw [R] at ar
  rw [iter]
  simp only
  rw [hm]
  match x,ar with
  | .inl (true,bO),ar=>exact ih _ _ ar
  | .inl (false,bO),ar =>
   simp at ar
   subst ar
   show iter _ (false,bO.1,bO.2.1,bO.2.2.1,bO.2.2.2)=_
   rw [iter]
   simp only
   unfold tF
   rfl
  | .inr (),ar =>
   simp at ar
   subst ar
   rfl
theorem aay {gm m N M:Nat}{A:Nat→Nat→Rat}(hm:m≤20)(fR:N<1000){h:Nat→Nat}{w:Rat}{t:cI}(ok:ga gm m N A t)(f:qJ m N w t)(I:Nat→Int)(ao:∀j,j<N→ -100≤I j∧I j≤100)(fg:Nat→Bool){e9:List (List bp)}(hh:mM m N M h w t e9):
 Ct (N:Int) (b2 w).cO (b2 w).cC (hi m N h) e9 (dv m t) (a6 N I) 0 (a6 N fg)=some (a6 N fun j=>fg j && !decide (t.dB m (fun j=>(I j:Rat)) j<0)):=by
 unfold Ct
 obtain ⟨s,e,-⟩:=iF (f:=fun q:Int×List Bool=>vE (N:Int) (b2 w).cO (b2 w).cC (hi m N h) e9 (dv m t) (a6 N I) q.1 q.2)
  (fun (i:Nat) (_:Unit)=>((i:Int),a6 N fun j=>if j<i then fg j && !decide (t.dB m (fun j=>(I j:Rat)) j<0) else fg j)) N (fun _ _=>True) (fun _=>a6 N fun j=>fg j && !decide (t.dB m (fun j=>(I j:Rat)) j<0))
  (fun n a5 _ _=>by
    refine ⟨(),?_,trivial⟩
    have same:fg n=(fg n && !decide (t.dB m (fun j=>(I j:Rat)) n<0))→(U ((n:Int)+1),a6 N fun j=>if j<n then fg j && !decide (t.dB m (fun j=>(I j:Rat)) j<0) else fg j)=(((n+1:Nat):Int),a6 N fun j=>if j<n+1 then fg j && !decide (t.dB m (fun j=>(I j:Rat)) j<0) else fg j):=fun he=>by
     rw [fC (by omega)]
     congr 1
     refine eW fun j _=> ?_
     by_cases c:j=n
     ·subst c;rw [if_neg (by omega),if_pos (by omega)];exact he
     ·by_cases cd:j<n
      ·rw [if_pos cd,if_pos (by omega)]
      ·rw [if_neg cd,if_neg (by omega)]
    have g1 : ∀F:Nat→Bool,0≤((n:Nat):Int)∧((n:Nat):Int)<((a6 N F).length:Nat):=fun F=>by rw [cT];omega
    have g2:(a6 N fun j=>if j<n then fg j && !decide (t.dB m (fun j=>(I j:Rat)) j<0) else fg j)[(0+((n:Nat):Int).toNat)]? = some (fg n):=by rw [Int.toNat_natCast,h8 a5,if_neg (by omega)]
    unfold vE
    by_cases qi:fg n=true
    ·obtain ⟨b,im,jN⟩:=N4 (m:=m) (by omega) t n
     cases b with
     | true =>
      obtain ⟨i,aq,gY⟩:=jN.1 rfl
      refine dD (by simp only;omega) (bH (g1 _) (aR g2 (gv qi (aR im (gv rfl ?_)))))
      simp only
      rw [same]
      rw [← gY,ok.z7 _ aq,decide_eq_false (by grind)];simp
     | false =>
      have dI:=Qf hm fR f I ao ((⟨(b2 w).cO,(b2 w).cC⟩:bp)) rfl (N:Int) (a6 N fun j=>if j<n then fg j && !decide (t.dB m (fun j=>(I j:Rat)) j<0) else fg j) a5
      have bV:jL (t.dB m (fun j=>(I j:Rat)) n)<0↔t.dB m (fun j=>(I j:Rat)) n<0:=by
       unfold jL
       by_cases c:t.dB m (fun j=>(I j:Rat)) n=0
       ·rw [if_pos c,c];constructor
        ·intro h;omega
        ·intro h;grind
       ·rw [if_neg c]
        by_cases cd:t.dB m (fun j=>(I j:Rat)) n<0
        ·rw [if_pos cd];simp [cd]
        ·rw [if_neg cd];constructor
         ·intro h;omega
         ·intro h;exact (cd h).elim
      by_cases rF:t.dB m (fun j=>(I j:Rat)) n<0
      ·refine dD (by simp only;omega) (bH (g1 _) (aR g2 (gv qi (aR im (kk rfl (bH (Ar hh) (aR (by rw [uz hh];exact dI) (dD (bV.2 rF) (bH (by rw [cT,Int.toNat_natCast];omega) ?_)))))))))
       simp only
       rw [fC (by omega),Int.toNat_natCast,Nat.zero_add,kS]
       congr 3
       refine eW fun j _=> ?_
       by_cases c:j=n
       ·subst c;rw [if_pos rfl,if_pos (by omega),decide_eq_true rF];simp
       ·rw [if_neg c]
        by_cases cd:j<n
        ·rw [if_pos cd,if_pos (by omega)]
        ·rw [if_neg cd,if_neg (by omega)]
      ·refine dD (by simp only;omega) (bH (g1 _) (aR g2 (gv qi (aR im (kk rfl (bH (Ar hh) (aR (by rw [uz hh];exact dI) (dU (fun c=>rF (bV.1 c)) ?_))))))))
       simp only
       rw [same]
       rw [decide_eq_false rF];simp
    ·have EP:fg n=false:=by simpa using qi
     refine dD (by simp only;omega) (bH (g1 _) (aR g2 (kk EP ?_)))
     simp only
     rw [same]
     rw [EP];simp)
  (fun _ _=>by
    unfold vE
    refine dU (by simp) ?_
    simp only
    congr 2
    exact eW fun j aI=>by rw [if_pos aI]) () trivial
 have e0:(a6 N fun j=>if j<0 then fg j && !decide (t.dB m (fun j=>(I j:Rat)) j<0) else fg j)=a6 N fg:=eW fun j _=>by rw [if_neg (by omega)]
 rw [e0] at e
 exact e
theorem Ym {gm m N M:Nat}{A:Nat→Nat→Rat}(hm:m≤20)(fR:N<1000){h:Nat→Nat}(inj:∀i,i<m→ ∀k,k<m→h i=h k→i=k)(I:Nat→Int)(ao:∀j,j<N→ -100≤I j∧I j≤100)(fg:Nat→Bool)
 (Inv:Rat→cI→Prop) (inv : ∀w t,Inv w t→ga gm m N A t∧t.lP m N∧qJ m N w t)
 (gQ : ∀w t r s,Inv w t→o2 m N 1 (fun _ j=>(I j:Rat)) (fun j=>fg j=true) t r s→x8 m N w t r s∧Inv (pq w t r s) (t.cP r s)) {w:Rat} {t:cI} (cQ:Inv w t) {e9:List (List bp)} (hh:mM m N M h w t e9) :
 ∃b bL da kU yG,wa (b2 w).cO (b2 w).cC (N:Int) (hi m N h) e9 (dv m t) (a6 N fg) (a6 N I)=some (b,(b2 bL).cO,(b2 bL).cC,kU,dv m da,a6 N yG)∧Inv bL da∧mM m N M h bL da kU ∧
  ((b=true∧(∀j,j<N→fg j=true→ ¬0<da.dB m (fun j=>(I j:Rat)) j)∧yG=fun j=>fg j && !decide (da.dB m (fun j=>(I j:Rat)) j<0))∨(b=false∧ ∃s,s<N∧0<da.dB m (fun j=>(I j:Rat)) s∧ ∀i,i<m→ ¬0<da.T i s)):=by
 obtain ⟨ok,nJ,B6⟩:=inv w t cQ
 obtain ⟨x,dC,da,e,-,-,-,bL,kU,h1,o,ae⟩:=OI (gm:=gm) (m:=m) (N:=N) (K:=1) (A:=A) (obj:=fun _ j=>(I j:Rat)) (bY:=fun j=>fg j=true)
  (f:=tc (N:Int) (hi m N h) (a6 N fg) (a6 N I))
  (fun s t=> ∃w e9,s=((b2 w).cO,(b2 w).cC,e9,dv m t)∧Inv w t∧mM m N M h w t e9)
  (fun s x t=> ∃w e9,Inv w t∧mM m N M h w t e9∧((x = .inl ((b2 w).cO,(b2 w).cC,e9,dv m t)∧ ∀j,j<N→fg j=true→ ¬0<t.dB m (fun j=>(I j:Rat)) j) ∨
    (x = .inr ((b2 w).cO,(b2 w).cC,e9,dv m t)∧ ∃s,s<N∧0<t.dB m (fun j=>(I j:Rat)) s∧ ∀i,i<m→ ¬0<t.T i s)))
  (fun s t cX ok _=>by
    obtain ⟨w,e9,rfl,cQ,hh⟩:=cX
    obtain ⟨x,e,R⟩:=YW hm fR inj ok (inv w t cQ).2.2 I ao fg (fun r s b=>(gQ w t r s cQ b).1) hh
    rcases R with ⟨rfl,R⟩|⟨r,s,kU,rfl,dx,ad0⟩|⟨rfl,R⟩
    ·left
     exact ⟨_,by unfold tc;simp only;rw [e],w,e9,cQ,hh,.inl ⟨rfl,R⟩⟩
    ·right
     exact ⟨_,r,s,by unfold tc;simp only;rw [e],dx,pq w t r s,kU,rfl,(gQ w t r s cQ dx).2,ad0⟩
    ·left
     exact ⟨_,by unfold tc;simp only;rw [e],w,e9,cQ,hh,.inr ⟨rfl,R⟩⟩)
  (a:=((b2 w).cO,(b2 w).cC,e9,dv m t)) (t:=t) ⟨w,e9,rfl,cQ,hh⟩ ok nJ
 have aC:=aax _ _ e
 obtain ⟨kM,agi,ad1⟩:=inv bL da h1
 rcases ae with ⟨rfl,ae⟩|⟨rfl,ae⟩
 ·refine ⟨true,bL,da,kU,_,?_,h1,o,.inl ⟨rfl,ae,rfl⟩⟩
  unfold wa
  exact aR aC (aR (aay hm fR kM ad1 I ao fg o) rfl)
 ·refine ⟨false,bL,da,kU,fg,?_,h1,o,.inr ⟨rfl,ae⟩⟩
  unfold wa
  exact aR aC rfl
def hn (m:Nat)(A:Nat→Nat→Rat)(t:cI):Rat:=if 0<t.D m A then t.D m A else -(t.D m A)
theorem abz {m N:Nat}{A:Nat→Nat→Rat}{t:cI}(h:t.D m A≠0):0<hn m A t:=by
 unfold hn;split<;>grind
theorem Q5 {m K:Nat}{A:Nat→Nat→Rat}{t:cI}{x:Rat}(h:en K (x*t.D m A)):en K (x*hn m A t):=by
 unfold hn;split
 ·exact h
 ·have:=h.neg
  rw [show x * -(t.D m A) = -(x*t.D m A) by grind];exact this
theorem kL.x9 {m N:Nat}{A:Nat→Nat→Rat}(s:Small m N A){t:cI}(h:kL m N A t):qJ m N (hn m A t) t where
 pos:=abz (N:=N) h.sA
 hw:=by
  have h1:en fK (1*t.D m A):=by rw [Rat.one_mul];exact h.B3 s
  have:=Q5 h1
  rw [Rat.one_mul] at this
  exact this.mono (by generalize fK=q;omega)
 iP:=fun i aq j aI=>Q5 (h.tu s aq aI)
 gY:=h.ok.lg
theorem kL.Ec {m N:Nat}{A:Nat→Nat→Rat}(s:Small m N A){t:cI}(h:kL m N A t){r k:Nat}(ar:r<m)(ba:k<N)(ai:t.T r k≠0):x8 m N (hn m A t) t r k where
 ar:=ar
 ba:=ba
 ai:=ai
 B4:=fun i aq j aI=>by
  have kM:=h.ok.cP ar ba ai
  have h1:en fK ((t.cP r k).T i j*(t.cP r k).D m A):=by
   rw [← kM.vp aq aI]
   refine en.mono (xN fun ea oL c bf=> ?_) (AW▸xw (by omega) s.hm)
   simp only [gd]
   split
   ·exact s.tD c bf j aI
   ·exact s.tD c bf _ (Nat.le_of_lt (kM.lg ea oL))
  rw [h.ok.xW ar ba] at h1
  unfold hn
  split
  ·exact h1
  ·have:=h1.neg
   rw [show (t.cP r k).T i j*(t.T r k * -(t.D m A)) = -((t.cP r k).T i j*(t.T r k*t.D m A)) by grind];exact this
theorem QK {m N:Nat}{A:Nat→Nat→Rat}{t:cI}(h:ga m m N A t)(bG:t.D m A≠0){r k:Nat}(ar:r<m)(ba:k<N)(ai:t.T r k≠0):pq (hn m A t) t r k=hn m A (t.cP r k):=by
 have e:=h.xW ar ba
 unfold pq hn
 rw [e]
 by_cases bw:0<t.T r k<;>by_cases cd:0<t.D m A
 ·rw [if_pos bw,if_pos cd,if_pos (Rat.mul_pos bw cd)]
 ·have:=Rat.mul_pos bw (show 0 < -(t.D m A) by grind)
  rw [if_pos bw,if_neg cd,if_neg (by grind)];grind
 ·have:=Rat.mul_pos (show 0 < -(t.T r k) by grind) cd
  rw [if_neg bw,if_pos cd,if_neg (by grind)]
 ·have:=Rat.mul_pos (show 0 < -(t.T r k) by grind) (show 0 < -(t.D m A) by grind)
  rw [if_neg bw,if_neg cd,if_pos (by grind)];grind
def jV (h:Nat→Nat)(t:cI):cI:=⟨fun i j=>t.T (h i) j,fun i=>t.B (h i)⟩
theorem J6 {h:Nat→Nat}{t:cI}{r k i:Nat}(ft:h i=h r→i=r):(∀j,((jV h t).cP r k).T i j=(jV h (t.cP (h r) k)).T i j)∧((jV h t).cP r k).B i=(jV h (t.cP (h r) k)).B i:=by
 simp only [cI.cP,jV]
 by_cases c:i=r
 ·subst c;simp
 ·have:h i≠h r:=fun e=>c (ft e)
  simp [c,this]
theorem OQ {α:Type}{m i:Nat}(aq:i<m)(f:Nat→α):(a6 m f).take (i-0)++((a6 m f).drop (0+(i+1))).take (m-(i+1))=a6 (m-1) (skip i f):=by
 apply List.ext_getElem?
 intro j
 rw [Nat.sub_zero,Nat.zero_add]
 have aV:((a6 m f).take i).length=i:=by rw [List.length_take,cT];omega
 by_cases c:j<i
 ·rw [List.getElem?_append_left (by omega),List.getElem?_take,if_pos c,f7 (by omega),f7 (by omega)]
  simp only [skip];rw [if_pos c]
 ·rw [List.getElem?_append_right (by omega),aV,List.getElem?_take,List.getElem?_drop]
  by_cases cd:j<m-1
  ·rw [if_pos (by omega),f7 (by omega),f7 cd]
   simp only [skip];rw [if_neg c];congr 2;omega
  ·rw [if_neg (by omega)]
   symm
   rw [List.getElem?_eq_none_iff,cT];omega
theorem Yn {m N M n:Nat}(fR:N<1000)(a5:n≤N){h:Nat→Nat}{w:Rat}{t:cI}(f:qJ m N w t){e9:List (List bp)}(hh:mM m N M h w t e9){i:Nat}(aq:i<m)(im:Bool)(jN:List Int)(aE:Int)(aY:List Int)(bJ:List Bool):
 ∃k:Nat,Cy (n:Int) (i:Int) im jN aE (hi m N h) e9 aY bJ 0=some (k:Int)∧k≤n∧(k<n→t.T i k≠0)∧ ∀j,j<k→t.T i j=0:=by
 unfold Cy
 obtain ⟨r,e,k,rfl,h1,o,ae⟩:=rT (f:=fun q:Int=>vL (n:Int) (i:Int) im jN aE (hi m N h) e9 aY bJ q) (fun (c:Nat) (_:Unit)=>(c:Int)) n (fun c _=> ∀j,j<c→t.T i j=0)
  (fun r=> ∃k:Nat,r=(k:Int)∧k≤n∧(k<n→t.T i k≠0)∧ ∀j,j<k→t.T i j=0)
  (fun c bf _ cQ=>by
    have hw:=f.pos
    have bV:=sX ((f.iP i aq c (by omega)).mono (sf (by have:=pX;generalize fK=q at *;omega)))
    unfold vL
    by_cases EW:t.T i c=0
    ·left
     refine ⟨(),dD (by omega) (bH (by unfold hi;rw [cT];omega) (aR (x:=some (h i,N+1)) (by rw [Int.toNat_natCast];exact h8 aq) (aR (x:=(h i,N+1)) rfl (aR (hh.row i aq) (bH (by simp only;omega) (aR (x:=b2 (t.T i c*w)) (by rw [Int.toNat_natCast];exact h8 (by omega)) (aR bV (gv (by rw [xH hw,rj.2 EW];rfl) (by rw [fC (by omega)]))))))))),fun j aI=> ?_⟩
     by_cases e:j=c
     ·rw [e];exact EW
     ·exact cQ j (by omega)
    ·right
     exact ⟨_,dD (by omega) (bH (by unfold hi;rw [cT];omega) (aR (x:=some (h i,N+1)) (by rw [Int.toNat_natCast];exact h8 aq) (aR (x:=(h i,N+1)) rfl (aR (hh.row i aq) (bH (by simp only;omega) (aR (x:=b2 (t.T i c*w)) (by rw [Int.toNat_natCast];exact h8 (by omega)) (aR bV (kk (by rw [xH hw];exact BJ (fun c=>EW (rj.1 c))) rfl)))))))),c,rfl,by omega,fun _=>EW,cQ⟩)
  (fun _ cQ=>⟨_,by unfold vL;exact dU (by omega) rfl,n,rfl,Nat.le_refl _,fun c=>by omega,cQ⟩) () (fun j aI=>by omega)
 exact ⟨k,e,h1,o,ae⟩
structure qF (m n N:Nat) (A:Nat→Nat→Rat) (t:cI) (cy:Nat) (h:Nat→Nat):Prop where
 inv:kL m N A t
 z : ∀i,i<m→n≤t.B i→t.T i N=0
 le:cy≤m
 lt : ∀i,i<cy→h i<m
 inj : ∀i,i<cy→ ∀k,k<cy→h i=h k→i=k
 dead : ∀d,d<m→(∀i,i<cy→h i≠d)→n≤t.B d∧ ∀j,j<n→t.T d j=0
theorem qF.x9 {m n N cy:Nat}{A:Nat→Nat→Rat}{t:cI}{h:Nat→Nat}(s:Small m N A)(a:qF m n N A t cy h):qJ cy N (hn m A t) (jV h t) :=
 have f:=a.inv.x9 s
 ⟨f.pos,f.hw,fun i aq j aI=>f.iP (h i) (a.lt i aq) j aI,fun i aq=>f.gY (h i) (a.lt i aq)⟩
theorem qF.Ec {m n N cy:Nat}{A:Nat→Nat→Rat}{t:cI}{h:Nat→Nat}(s:Small m N A)(a:qF m n N A t cy h){r k:Nat}(ar:r<cy)(ba:k<N)(ai:t.T (h r) k≠0):x8 cy N (hn m A t) (jV h t) r k :=
 have f:=a.inv.Ec s (a.lt r ar) ba ai
 ⟨ar,ba,ai,fun i aq j aI=>by
  rw [(J6 (t:=t) (k:=k) (a.inj i aq r ar)).1 j]
  exact f.B4 (h i) (a.lt i aq) j aI⟩
theorem qF.cP {m n N cy:Nat}{A:Nat→Nat→Rat}{t:cI}{h:Nat→Nat}(L1:n≤N)(a:qF m n N A t cy h){r k:Nat}(ar:r<cy)(ba:k<n)(aS:n≤t.B (h r))(ai:t.T (h r) k≠0):qF m n N A (t.cP (h r) k) cy h:=by
 have cw:=a.z (h r) (a.lt r ar) aS
 have dL : ∀i,(t.cP (h r) k).T i N=t.T i N:=fun i=>by
  simp only [cI.cP]
  split
  ·rename_i e;rw [e,cw];grind
  ·rw [cw];grind
 refine ⟨⟨a.inv.ok.cP (a.lt r ar) (by omega) ai,fun i aq=>by rw [dL];exact a.inv.nJ i aq,?_⟩,fun i aq gY=> ?_,a.le,a.lt,a.inj,fun d bG jz=> ?_⟩
 ·rw [a.inv.ok.xW (a.lt r ar) (by omega)]
  have:=a.inv.sA
  grind
 ·rw [dL]
  simp only [cI.cP] at gY
  by_cases c:i=h r
  ·rw [if_pos c] at gY;omega
  ·rw [if_neg c] at gY;exact a.z i aq gY
 ·obtain ⟨h1,o⟩:=a.dead d bG jz
  have dr:d≠h r:=fun e=>jz r ar e.symm
  simp only [cI.cP,if_neg dr]
  refine ⟨h1,fun j aI=> ?_⟩
  rw [o j aI,o k ba];grind
theorem ZH {m n N:Nat}{A:Nat→Nat→Rat}(s:Small m N A)(fR:N<1000)(L1:n≤N)(free:List Bool){t:cI}(cb:kL m N A t)(cw:∀i,i<m→n≤t.B i→t.T i N=0){e9:List (List bp)}(hh:mM m N m (fun i=>i) (hn m A t) t e9):
 ∃da cy h kU,y4 (n:Int) (b2 (hn m A t)).cO (b2 (hn m A t)).cC (N:Int) (hi m N fun i=>i) e9 (dv m t) free=some ((b2 (hn m A da)).cO,(b2 (hn m A da)).cC,hi cy N h,kU,dv cy (jV h da)) ∧
  qF m n N A da cy h∧(∀i,i<cy→da.B (h i)<n)∧mM cy N m h (hn m A da) (jV h da) kU:=by
 have hm:=s.hm
 unfold y4 Gb
 obtain ⟨x,e,da,cy,h,kU,rfl,h1,o,ae⟩:=jt (f:=fun w:Int×Bool×(List Int)×(List bt)×(List (List bp))×(List Int)=>yR (n:Int) (N:Int) free w.1 w.2.1 w.2.2.1 w.2.2.2.1 w.2.2.2.2.1 w.2.2.2.2.2)
  (fun w=> ∃(i cy:Nat) (h:Nat→Nat) (t:cI) (p:List (List bp)),w=((i:Int),(b2 (hn m A t)).cO,(b2 (hn m A t)).cC,hi cy N h,p,dv cy (jV h t))∧i≤cy∧qF m n N A t cy h∧(∀q,q<i→t.B (h q)<n)∧mM cy N m h (hn m A t) (jV h t) p)
  (fun w=>w.2.2.2.1.length-w.1.toNat)
  (fun x=> ∃da cy h kU,x=((b2 (hn m A da)).cO,(b2 (hn m A da)).cC,hi cy N h,kU,dv cy (jV h da))∧qF m n N A da cy h∧(∀i,i<cy→da.B (h i)<n)∧mM cy N m h (hn m A da) (jV h da) kU)
  (fun w hw=>by
    obtain ⟨i,cy,h,t,p,rfl,aq,bE,bc,ai⟩:=hw
    have kW:=bE.le
    have sr:(hi cy N h).length=cy:=cT ..
    have L2:(dv cy (jV h t)).length=cy:=cT ..
    simp only
    unfold yR
    by_cases c:i<cy
    ·left
     have g1:0≤(i:Int)∧(i:Int)<((dv cy (jV h t)).length:Nat):=by rw [L2];omega
     have g2:(dv cy (jV h t))[(0+((i:Int)).toNat)]? = some ((t.B (h i):Nat):Int):=by rw [Int.toNat_natCast];exact h8 c
     by_cases EX:t.B (h i)<n
     ·refine ⟨(((i+1:Nat):Int),(b2 (hn m A t)).cO,(b2 (hn m A t)).cC,hi cy N h,p,dv cy (jV h t)),dD (by rw [sr];omega) (bH g1 (aR g2 (dD (by omega) (by rw [fC (by omega)])))),⟨i+1,cy,h,t,p,rfl,by omega,bE,fun q nd=> ?_,ai⟩,by simp only [sr];omega⟩
      by_cases e:q=i
      ·rw [e];exact EX
      ·exact bc q (by omega)
     ·obtain ⟨k,mW,ll,qh,Mg⟩:=Yn fR L1 (bE.x9 s) ai c (b2 (hn m A t)).cO (b2 (hn m A t)).cC (N:Int) (dv cy (jV h t)) free
      by_cases Mh:k<n
      ·have L3:t.T (h i) k≠0:=qh Mh
       obtain ⟨ki,e1,aC⟩:=Qg (by omega) fR bE.inj (bE.x9 s) (bE.Ec s c (by omega) L3) ai (N:Int) free
       have tE:pq (hn m A t) (jV h t) i k=hn m A (t.cP (h i) k):=QK bE.inv.ok bE.inv.sA (bE.lt i c) (by omega) L3
       have aex:dv cy ((jV h t).cP i k)=dv cy (jV h (t.cP (h i) k)):=eW fun q nd=>by
        have:=(J6 (t:=t) (k:=k) (bE.inj q nd i c)).2
        rw [this]
       rw [tE,aex] at e1
       rw [tE] at aC
       refine ⟨(((i+1:Nat):Int),(b2 (hn m A (t.cP (h i) k))).cO,(b2 (hn m A (t.cP (h i) k))).cC,hi cy N h,ki,dv cy (jV h (t.cP (h i) k))),dD (by rw [sr];omega) (bH g1 (aR g2 (dU (by omega) (aR mW (dD (by omega) (aR e1 (by rw [fC (by omega)]))))))),⟨i+1,cy,h,t.cP (h i) k,ki,rfl,by omega,bE.cP L1 c Mh (by omega) L3,fun q nd=> ?_,aC.len,fun q nd=> ?_⟩,by simp only [sr];omega⟩
       ·simp only [cI.cP]
        split
        ·exact Mh
        ·rename_i dr
         have:q≠i:=fun e=>dr (by rw [e])
         exact bc q (by omega)
       ·rw [aC.row q nd]
        congr 1
        exact eW fun j _=>by rw [(J6 (t:=t) (k:=k) (bE.inj q nd i c)).1 j]
      ·have LZ:k=n:=by omega
       have B1:U ((i:Int)+1)=((i+1:Nat):Int):=fC (by omega)
       have EJ:(((hi cy N h).drop (0+(i+1))).take (cy-(i+1))).length=cy-(i+1):=by rw [List.length_take,List.length_drop,sr];omega
       have LU:(((dv cy (jV h t)).drop (0+(i+1))).take (cy-(i+1))).length=cy-(i+1):=by rw [List.length_take,List.length_drop,L2];omega
       have a9:(hi cy N h).take (i-0)++((hi cy N h).drop (0+(i+1))).take (cy-(i+1))=hi (cy-1) N (skip i h):=OQ c _
       have eg:(dv cy (jV h t)).take (i-0)++((dv cy (jV h t)).drop (0+(i+1))).take (cy-(i+1))=dv (cy-1) (jV (skip i h) t):=OQ c _
       refine ⟨((i:Int),(b2 (hn m A t)).cO,(b2 (hn m A t)).cC,hi (cy-1) N (skip i h),p,dv (cy-1) (jV (skip i h) t)),dD (by rw [sr];omega) (bH g1 (aR g2 (dU (by omega) (aR mW (dU (by omega) ?_))))),⟨i,cy-1,skip i h,t,p,rfl,by omega,⟨bE.inv,bE.z,by omega,fun q nd=> ?_,fun q nd aY ya e=> ?_,fun d bG jz=> ?_⟩,fun q nd=> ?_,ai.len,fun q nd=> ?_⟩,?_⟩
       ·rw [B1,Int.toNat_natCast,Int.toNat_natCast,sr,L2,EJ,LU,a9,eg]
        exact bH (by omega) (bH (by omega) (bH (by omega) (bH (by omega) (bH (by omega) (bH (by omega) (bH (by omega) (bH (by omega) (bH (by omega) (bH (by omega) (bH (by omega) (bH (by omega) rfl)))))))))))
       ·simp only [skip];split<;>exact bE.lt _ (by omega)
       ·simp only [skip] at e
        have:=bE.inj _ (by split<;>omega) _ (by split<;>omega) e
        split at this<;>split at this<;>omega
       ·by_cases SO:d=h i
        ·rw [SO]
         exact ⟨by omega,fun j aI=>Mg j (by omega)⟩
        ·refine bE.dead d bG fun q nd=> ?_
         by_cases bw:q<i
         ·have:=jz q (by omega);simp only [skip] at this;rw [if_pos bw] at this;exact this
         ·by_cases cd:q=i
          ·rw [cd];exact fun e=>SO e.symm
          ·have:=jz (q-1) (by omega);simp only [skip] at this;rw [if_neg (by omega),show q-1+1=q by omega] at this;exact this
       ·simp only [skip];rw [if_pos nd];exact bc q nd
       ·simp only [skip]
        by_cases bw:q<i
        ·rw [if_pos bw,ai.row q (by omega)];congr 1
         exact eW fun j _=>by simp only [jV,skip];rw [if_pos bw]
        ·rw [if_neg bw,ai.row (q+1) (by omega)];congr 1
         exact eW fun j _=>by simp only [jV,skip];rw [if_neg bw]
       ·simp only [sr,show (hi (cy-1) N (skip i h)).length=cy-1 from cT ..];omega
    ·right
     have ad2:i=cy:=by omega
     subst ad2
     exact ⟨_,dU (by rw [sr];omega) rfl,t,i,h,p,rfl,bE,bc,ai⟩)
  ((0:Int),(b2 (hn m A t)).cO,(b2 (hn m A t)).cC,hi m N (fun i=>i),e9,dv m t)
  ⟨0,m,fun i=>i,t,e9,rfl,by omega,⟨cb,cw,Nat.le_refl _,fun i aq=>aq,fun i _ k _ e=>e,fun d bG jz=>(jz d bG rfl).elim⟩,fun q bc=>by omega,hh.len,hh.row⟩
 exact ⟨da,cy,h,kU,aR e rfl,h1,o,ae⟩
theorem Qh:(⟨false,([]:List Int)⟩:bp)=b2 0:=by
 show _=gW (0:Rat).num
 rw [show (0:Rat).num=0 from rfl]
 unfold gW
 rw [show L ((0:Int).natAbs:Int)=[] from s5.2 (by simp)];rfl
theorem Kh {α:Type}(l:List α)(x:α):(l++[x])[l.length]? = some x:=by simp
theorem xI {α:Type}(l:List α)(x y:α):(l++[x]).set l.length y=l++[y]:=by simp
theorem Qi {p:hv}{m n:Nat}{a:Nat→Nat→Int}{b:Nat→Int}(h:me p m n a b){i:Nat}(aq:i<m):wY p i=some (a6 n (a i)):=by
 have:=Kx h aq
 unfold ug at this
 unfold wY
 exact this
theorem XT {p:hv}{m n:Nat}{a:Nat→Nat→Int}{b:Nat→Int}(h:me p m n a b){i:Nat}(aq:i<m)(aS:b i<0)(x0:Int)(mz:Bool)(gT:List Int)(aY:List bt)(bS:List Int)(cA:List Bool)(P:List (List bp)):
 CS p.fu p.eb p.dJ p.ej p.hH x0 (i:Int) P.length (n+m+1) (a6 n (a i)) (len_ eI (a6 n (a i))) mz gT aY bS cA 0 (P++[a6 (n+m+1) fun _=>b2 0])=some (P++[a6 (n+m+1) fun j=>if j<n then b2 (dG m n a b i j) else b2 0]):=by
 have hm:=h.hm
 have a5:=h.a5
 have bV:kf (b i) = -1:=by unfold kf;rw [if_pos aS]
 unfold CS
 rw [f6,cT]
 obtain ⟨s1,e1,-⟩:=iF (f:=fun w:Int×List (List bp)=>wA p.fu p.eb p.dJ p.ej p.hH x0 (i:Int) P.length (n+m+1) (a6 n (a i)) ((n:Nat):Int) mz gT aY bS cA w.1 w.2)
  (fun (k:Nat) (_:Unit)=>((k:Int),P++[a6 (n+m+1) fun j=>if j<k then b2 (dG m n a b i j) else b2 0])) n (fun _ _=>True) (fun _=>P++[a6 (n+m+1) fun j=>if j<n then b2 (dG m n a b i j) else b2 0])
  (fun k ba _ _=>by
    refine ⟨(),?_,trivial⟩
    have bE:=h.sy i aq k ba
    have e:U ((-1:Int)*a i k)=kl m n a b i k:=by
     rw [cx (by omega) (by omega)];unfold kl;rw [if_pos ba,bV]
    unfold wA
    refine dD (by simp only;omega) (bH (by rw [cT];simp only;omega) (aR (x:=a i k) (by simp only;rw [Int.toNat_natCast];exact f7 ba) (aR (x:=b2 (dG m n a b i k)) (by rw [e];exact rP (by have:=sb h aq k;rw [mC];omega)) (aR (Kh _ _) (bH (by simp only;omega) (aR (by simp only;rw [Int.toNat_natCast];exact h8 (by omega)) ?_))))))
    simp only
    rw [fC (by omega),Int.toNat_natCast,Nat.zero_add,kS,xI]
    congr 5
    refine eW fun j _=> ?_
    by_cases bw:j=k
    ·subst bw;rw [if_pos rfl,if_pos (by omega)]
    ·rw [if_neg bw]
     by_cases cd:j<k
     ·rw [if_pos cd,if_pos (by omega)]
     ·rw [if_neg cd,if_neg (by omega)])
  (fun _ _=>by unfold wA;exact dU (by simp) rfl) () trivial
 have e0:(a6 (n+m+1) fun j=>if j<0 then b2 (dG m n a b i j) else b2 0)=a6 (n+m+1) fun _=>b2 0:=eW fun j _=>by rw [if_neg (by omega)]
 rw [e0] at e1
 exact e1
theorem XU {p:hv}{m n:Nat}{a:Nat→Nat→Int}{b:Nat→Int}(h:me p m n a b){i:Nat}(aq:i<m)(aS:¬b i<0)(x0:Int)(mz:Bool)(gT:List Int)(aY:List bt)(bS:List Int)(cA:List Bool)(P:List (List bp)):
 CT p.fu p.eb p.dJ p.ej p.hH x0 (i:Int) P.length (n+m+1) (a6 n (a i)) (len_ eI (a6 n (a i))) mz gT aY bS cA 0 (P++[a6 (n+m+1) fun _=>b2 0])=some (P++[a6 (n+m+1) fun j=>if j<n then b2 (dG m n a b i j) else b2 0]):=by
 have hm:=h.hm
 have a5:=h.a5
 have bV:kf (b i)=1:=by unfold kf;rw [if_neg aS]
 unfold CT
 rw [f6,cT]
 obtain ⟨s1,e1,-⟩:=iF (f:=fun w:Int×List (List bp)=>wB p.fu p.eb p.dJ p.ej p.hH x0 (i:Int) P.length (n+m+1) (a6 n (a i)) ((n:Nat):Int) mz gT aY bS cA w.1 w.2)
  (fun (k:Nat) (_:Unit)=>((k:Int),P++[a6 (n+m+1) fun j=>if j<k then b2 (dG m n a b i j) else b2 0])) n (fun _ _=>True) (fun _=>P++[a6 (n+m+1) fun j=>if j<n then b2 (dG m n a b i j) else b2 0])
  (fun k ba _ _=>by
    refine ⟨(),?_,trivial⟩
    have bE:=h.sy i aq k ba
    have e:U ((1:Int)*a i k)=kl m n a b i k:=by
     rw [cx (by omega) (by omega)];unfold kl;rw [if_pos ba,bV]
    unfold wB
    refine dD (by simp only;omega) (bH (by rw [cT];simp only;omega) (aR (x:=a i k) (by simp only;rw [Int.toNat_natCast];exact f7 ba) (aR (x:=b2 (dG m n a b i k)) (by rw [e];exact rP (by have:=sb h aq k;rw [mC];omega)) (aR (Kh _ _) (bH (by simp only;omega) (aR (by simp only;rw [Int.toNat_natCast];exact h8 (by omega)) ?_))))))
    simp only
    rw [fC (by omega),Int.toNat_natCast,Nat.zero_add,kS,xI]
    congr 5
    refine eW fun j _=> ?_
    by_cases bw:j=k
    ·subst bw;rw [if_pos rfl,if_pos (by omega)]
    ·rw [if_neg bw]
     by_cases cd:j<k
     ·rw [if_pos cd,if_pos (by omega)]
     ·rw [if_neg cd,if_neg (by omega)])
  (fun _ _=>by unfold wB;exact dU (by simp) rfl) () trivial
 have e0:(a6 (n+m+1) fun j=>if j<0 then b2 (dG m n a b i j) else b2 0)=a6 (n+m+1) fun _=>b2 0:=eW fun j _=>by rw [if_neg (by omega)]
 rw [e0] at e1
 exact e1
theorem qx {α:Type}(n:Nat)(x:α):List.replicate n x=a6 n fun _=>x:=by
 apply List.ext_getElem?
 intro i
 by_cases c:i<n
 ·rw [f7 c];simp [c]
 ·rw [List.getElem?_eq_none_iff.2 (by simp;omega),List.getElem?_eq_none_iff.2 (by rw [cT];omega)]
theorem N5 {p:hv}{m n:Nat}{a:Nat→Nat→Int}{b:Nat→Int}(h:me p m n a b)(mz:Bool)(gT:List Int)(cA:List Bool):
 CU p.fu p.eb p.dJ p.ej p.hH ((n+m:Nat):Int) mz gT cA 0 ([]:List bt) ([]:List (List bp)) ([]:List Int)=some (hi m (n+m) (fun i=>i),a6 m (fun i=>a6 (n+m+1) fun j=>b2 (dG m n a b i j)),dv m (ic m n a b)):=by
 have hm:=h.hm
 have a5:=h.a5
 unfold CU
 obtain ⟨s,e,-⟩:=iF (f:=fun w:Int×(List bt)×(List (List bp))×(List Int)=>wC p.fu p.eb p.dJ p.ej p.hH ((n+m:Nat):Int) mz gT cA w.1 w.2.1 w.2.2.1 w.2.2.2)
  (fun (i:Nat) (_:Unit)=>((i:Int),a6 i (fun k=>(some (k,n+m+1):bt)),a6 i (fun i=>a6 (n+m+1) fun j=>b2 (dG m n a b i j)),a6 i (fun k=>((n+k:Nat):Int)))) m (fun _ _=>True)
  (fun _=>(hi m (n+m) (fun i=>i),a6 m (fun i=>a6 (n+m+1) fun j=>b2 (dG m n a b i j)),dv m (ic m n a b)))
  (fun i aq _ _=>by
    refine ⟨(),?_,trivial⟩
    have aS:=h.vu i aq
    have k2:U (((n+m:Nat):Int)+1)=((n+m+1:Nat):Int):=fC (by omega)
    have hw:U (p.eb+(i:Int))=((n+i:Nat):Int):=by rw [h.gr,← Int.natCast_add,cx (by omega) (by omega)]
    have Sw:(a6 i (fun i=>a6 (n+m+1) fun j=>b2 (dG m n a b i j))).length=i:=cT ..
    have pB:kl m n a b i (n+m)=kf (b i)*b i:=by unfold kl;rw [if_neg (by omega),if_pos rfl]
    have dw:((a6 (n+m+1) fun j=>if j<n then b2 (dG m n a b i j) else b2 0).set (n+i) (b2 ((1:Int):Rat))).set (n+m) (b2 (dG m n a b i (n+m)))=a6 (n+m+1) fun j=>b2 (dG m n a b i j):=by
     rw [kS,kS]
     refine eW fun j aI=> ?_
     by_cases bw:j=n+m
     ·rw [if_pos bw,bw]
     ·rw [if_neg bw]
      by_cases cd:j=n+i
      ·rw [if_pos cd,cd,rX aq,if_pos rfl];rfl
      ·rw [if_neg cd]
       by_cases jq:j<n
       ·rw [if_pos jq]
       ·rw [if_neg jq]
        obtain ⟨k,rfl⟩ : ∃k,j=n+k:=⟨j-n,by omega⟩
        rw [rX (by omega),if_neg (by omega)]
    unfold wC
    rw [k2,hw,Int.toNat_natCast]
    refine dD (by simp only;rw [h.rows];omega) (bH (by omega) (bH (by simp only;rw [h.vv];omega) (aR (x:=b i) (by first|exact h.x7 i aq|(rw [Int.toNat_natCast];exact h.x7 i aq)|(simp only;rw [Int.toNat_natCast];exact h.x7 i aq)) ?_)))
    have fin:(some (Sum.inl (U ((i:Int)+1),(a6 i (fun k=>(some (k,n+m+1):bt)))++[some (i,n+m+1)],(a6 i (fun i=>a6 (n+m+1) fun j=>b2 (dG m n a b i j)))++[a6 (n+m+1) fun j=>b2 (dG m n a b i j)],(a6 i fun k=>((n+k:Nat):Int))++[((n+i:Nat):Int)])):Option ((Int×(List bt)×(List (List bp))×(List Int))⊕((List bt)×(List (List bp))×(List Int)))) =
     some (Sum.inl (((i+1:Nat):Int),a6 (i+1) (fun k=>(some (k,n+m+1):bt)),a6 (i+1) (fun i=>a6 (n+m+1) fun j=>b2 (dG m n a b i j)),a6 (i+1) (fun k=>((n+k:Nat):Int)))):=by
     rw [fC (by omega),k4 i (fun k=>(some (k,n+m+1):bt)),k4 i (fun i=>a6 (n+m+1) fun j=>b2 (dG m n a b i j)),k4 i (fun k=>((n+k:Nat):Int))]
    have R : ∀(P:List (List bp)) (F:List bp→Option ((Int×(List bt)×(List (List bp))×(List Int))⊕((List bt)×(List (List bp))×(List Int)))) (x:List bp) r,F x=r→(P++[x])[P.length]? >>= F=r:=fun P F x r tz=>aR (Kh P x) tz
    refine ob (fun c=> ?_) (fun c=> ?_)
    ·have m8:b i<0:=of_decide_eq_true c
     have bV:kf (b i) = -1:=by unfold kf;rw [if_pos m8]
     refine aR (Qi h aq) (aR (by rw [Qh,qx];exact XT h aq m8 _ _ _ _ _ _ _) (aR (rP (n:=1) (by rw [mC];omega)) (R _ _ _ _ ?_)))
     refine bH (by omega) (aR (x:=b2 0) (by rw [Int.toNat_natCast,h8 (by omega),if_neg (by omega)]) (aR (x:=b2 (dG m n a b i (n+m))) (by
      have e:U ((-1:Int)*b i)=kl m n a b i (n+m):=by rw [pB,bV,cx (by omega) (by omega)]
      rw [e];exact rP (by have:=sb h aq (n+m);rw [mC];omega)) ?_))
     rw [xI,Int.toNat_natCast,Nat.zero_add,Int.toNat_natCast,Nat.zero_add]
     refine R _ _ _ _ (bH (by omega) ?_)
     obtain ⟨v,bj⟩ : ∃v,((a6 (n+m+1) fun j=>if j<n then b2 (dG m n a b i j) else b2 0).set (n+i) (b2 ((1:Int):Rat)))[n+m]? = some v:=by
      rw [kS,f7 (by omega)];exact ⟨_,rfl⟩
     refine aR bj (bH (by simp only [List.length_append,cT,List.length_cons,List.length_nil];omega) (bH (by simp only [List.length_append,cT,List.length_cons,List.length_nil];omega) ?_))
     rw [xI]
     simp only [Int.toNat_natCast,Nat.zero_add]
     rw [dw,Sw]
     exact fin
    ·have m8 : ¬b i<0:=of_decide_eq_false c
     have bV:kf (b i)=1:=by unfold kf;rw [if_neg m8]
     refine aR (Qi h aq) (aR (by rw [Qh,qx];exact XU h aq m8 _ _ _ _ _ _ _) (aR (rP (n:=1) (by rw [mC];omega)) (R _ _ _ _ ?_)))
     refine bH (by omega) (aR (x:=b2 0) (by rw [Int.toNat_natCast,h8 (by omega),if_neg (by omega)]) (aR (x:=b2 (dG m n a b i (n+m))) (by
      have e:U ((1:Int)*b i)=kl m n a b i (n+m):=by rw [pB,bV,cx (by omega) (by omega)]
      rw [e];exact rP (by have:=sb h aq (n+m);rw [mC];omega)) ?_))
     rw [xI,Int.toNat_natCast,Nat.zero_add,Int.toNat_natCast,Nat.zero_add]
     refine R _ _ _ _ (bH (by omega) ?_)
     obtain ⟨v,bj⟩ : ∃v,((a6 (n+m+1) fun j=>if j<n then b2 (dG m n a b i j) else b2 0).set (n+i) (b2 ((1:Int):Rat)))[n+m]? = some v:=by
      rw [kS,f7 (by omega)];exact ⟨_,rfl⟩
     refine aR bj (bH (by simp only [List.length_append,cT,List.length_cons,List.length_nil];omega) (bH (by simp only [List.length_append,cT,List.length_cons,List.length_nil];omega) ?_))
     rw [xI]
     simp only [Int.toNat_natCast,Nat.zero_add]
     rw [dw,Sw]
     exact fin)
  (fun _ _=>by unfold wC;exact dU (by simp only;rw [h.rows];omega) rfl) () trivial
 exact e
def pG (n j:Nat):Int:=if n≤j then -1 else 0
theorem QL {m n j:Nat}(aI:j<n+m):((pG n j:Int):Rat)=gF m n j:=by
 unfold pG gF
 by_cases c:n≤j
 ·rw [if_pos c,if_pos ⟨c,aI⟩];rfl
 ·rw [if_neg c,if_neg (by omega)];rfl
theorem Qj {m n:Nat}{t:cI}(gY:∀i,i<m→t.B i<n+m){j:Nat}(aI:j<n+m):t.dB m (fun j=>((pG n j:Int):Rat)) j=t.dB m (gF m n) j:=by
 unfold cI.dB
 simp only
 rw [QL aI,h7 (g:=fun i=>gF m n (t.B i)*t.T i j) fun i aq=>by rw [QL (gY i aq)]]
theorem Ol {p:hv}{m n:Nat}{a:Nat→Nat→Int}{b:Nat→Int}(h:me p m n a b)(x0:Int)(mz:Bool)(gT:List Int)(aY:List bt)(bJ:List (List bp))(bS:List Int):
 CV p.fu p.eb p.dJ p.ej p.hH x0 ((n+m:Nat):Int) mz gT aY bJ bS 0 (a6 (n+m) fun _=>(0:Int)) (a6 (n+m) fun _=>false)=some (a6 (n+m) (pG n),a6 (n+m) fun j=>decide (j<n)):=by
 have hm:=h.hm
 have a5:=h.a5
 unfold CV
 obtain ⟨s,e,-⟩:=iF (f:=fun w:Int×List Int×List Bool=>wD p.fu p.eb p.dJ p.ej p.hH x0 ((n+m:Nat):Int) mz gT aY bJ bS w.1 w.2.1 w.2.2)
  (fun (k:Nat) (_:Unit)=>((k:Int),(a6 (n+m) fun j=>if j<k then pG n j else 0),a6 (n+m) fun j=>if j<k then decide (j<n) else false)) (n+m) (fun _ _=>True) (fun _=>(a6 (n+m) (pG n),a6 (n+m) fun j=>decide (j<n)))
  (fun k ba _ _=>by
    refine ⟨(),?_,trivial⟩
    have aC:(a6 (n+m) fun j=>if j<k then decide (j<n) else false).set (0+((k:Int)).toNat) (decide (k<n))=a6 (n+m) fun j=>if j<k+1 then decide (j<n) else false:=by
     rw [Int.toNat_natCast,Nat.zero_add,kS]
     refine eW fun j _=> ?_
     by_cases c:j=k
     ·subst c;rw [if_pos rfl,if_pos (by omega)]
     ·rw [if_neg c]
      by_cases cd:j<k
      ·rw [if_pos cd,if_pos (by omega)]
      ·rw [if_neg cd,if_neg (by omega)]
    have Mi:decide ((k:Int)<p.eb)=decide (k<n):=by rw [h.gr];simp
    unfold wD
    simp only
    rw [Mi,aC,fC (by omega)]
    refine dD (by omega) (bH (by rw [cT];omega) (bH (by rw [cT,Int.toNat_natCast];omega) ?_))
    by_cases c:n≤k
    ·refine dD (by rw [h.gr];omega) (bH (by rw [cT];omega) (bH (by rw [cT,Int.toNat_natCast];omega) ?_))
     rw [Int.toNat_natCast,Nat.zero_add,kS]
     congr 4
     refine eW fun j _=> ?_
     by_cases bw:j=k
     ·subst bw;rw [if_pos rfl,if_pos (by omega)];unfold pG;rw [if_pos c]
     ·rw [if_neg bw]
      by_cases cd:j<k
      ·rw [if_pos cd,if_pos (by omega)]
      ·rw [if_neg cd,if_neg (by omega)]
    ·refine dU (by rw [h.gr];omega) ?_
     congr 4
     refine eW fun j _=> ?_
     by_cases bw:j=k
     ·subst bw;rw [if_neg (by omega),if_pos (by omega)];unfold pG;rw [if_neg c]
     ·by_cases cd:j<k
      ·rw [if_pos cd,if_pos (by omega)]
      ·rw [if_neg cd,if_neg (by omega)])
  (fun _ _=>by
    unfold wD
    refine dU (by simp) ?_
    simp only
    congr 3
    ·exact eW fun j aI=>by rw [if_pos aI]
    ·exact eW fun j aI=>by rw [if_pos aI]) () trivial
 have Cf:(a6 (n+m) fun j=>if j<0 then pG n j else 0)=a6 (n+m) fun _=>(0:Int):=eW fun j _=>by rw [if_neg (by omega)]
 have aey:(a6 (n+m) fun j=>if j<0 then decide (j<n) else false)=a6 (n+m) fun _=>false:=eW fun j _=>by rw [if_neg (by omega)]
 rw [Cf,aey] at e
 exact e
theorem XV {p:hv}{m n:Nat}{a:Nat→Nat→Int}{b:Nat→Int}(h:me p m n a b){w:Rat}{t:cI}(f:qJ m (n+m) w t){e9:List (List bp)}(hh:mM m (n+m) m (fun i=>i) w t e9)(mz:Bool)(gT:List Int)(x0:Int)(q:List Bool):
 ∃r,CW p.fu p.eb p.dJ p.ej p.hH ((n+m:Nat):Int) ((m:Nat):Int) mz gT x0 (dv m t) (hi m (n+m) fun i=>i) e9 q 0=some r∧((r = .inr ()∧ ∃i,i<m∧n≤t.B i∧0<t.T i (n+m))∨(r = .inl ()∧ ∀i,i<m→n≤t.B i→ ¬0<t.T i (n+m))):=by
 have hm:=h.hm
 have a5:=h.a5
 have hw:=f.pos
 unfold CW
 exact rT (f:=fun w:Int=>wE p.fu p.eb p.dJ p.ej p.hH ((n+m:Nat):Int) ((m:Nat):Int) mz gT x0 (dv m t) (hi m (n+m) fun i=>i) e9 q w) (fun (i:Nat) (_:Unit)=>(i:Int)) m (fun k _=> ∀i,i<k→n≤t.B i→ ¬0<t.T i (n+m)) _
  (fun i aq _ cQ=>by
    have bV:=sX ((f.iP i aq (n+m) (Nat.le_refl _)).mono (sf (by have:=pX;generalize fK=q at *;omega)))
    have g1:0≤(i:Int)∧(i:Int)<((dv m t).length:Nat):=by unfold dv;rw [cT];omega
    have g2:(dv m t)[(0+((i:Int)).toNat)]? = some ((t.B i:Nat):Int):=by rw [Int.toNat_natCast];exact h8 aq
    have g3:0≤(i:Int)∧(i:Int)<((hi m (n+m) fun i=>i).length:Nat):=by unfold hi;rw [cT];omega
    have g4:(hi m (n+m) fun i=>i)[(0+((i:Int)).toNat)]? = some (some (i,n+m+1)):=by rw [Int.toNat_natCast];exact h8 aq
    unfold wE
    by_cases EX:n≤t.B i
    ·by_cases ks:0<t.T i (n+m)
     ·right
      exact ⟨_,dD (by omega) (bH g1 (aR g2 (dD (by rw [h.gr];omega) (bH g3 (aR g4 (aR (x:=(i,n+m+1)) rfl (aR (hh.row i aq) (bH (by simp only;omega) (aR (x:=b2 (t.T i (n+m)*w)) (by rw [Int.toNat_natCast];exact h8 (by omega)) (aR bV (dD (by rw [xH hw];exact qw.2 ks) rfl))))))))))),.inl ⟨rfl,i,aq,EX,ks⟩⟩
     ·left
      refine ⟨(),dD (by omega) (bH g1 (aR g2 (dD (by rw [h.gr];omega) (bH g3 (aR g4 (aR (x:=(i,n+m+1)) rfl (aR (hh.row i aq) (bH (by simp only;omega) (aR (x:=b2 (t.T i (n+m)*w)) (by rw [Int.toNat_natCast];exact h8 (by omega)) (aR bV (dU (by rw [xH hw];exact fun c=>ks (qw.1 c)) (by rw [fC (by omega)])))))))))))),fun k ba=> ?_⟩
      by_cases e:k=i
      ·rw [e];exact fun _=>ks
      ·exact cQ k (by omega)
    ·left
     refine ⟨(),dD (by omega) (bH g1 (aR g2 (dU (by rw [h.gr];omega) (by rw [fC (by omega)])))),fun k ba=> ?_⟩
     by_cases e:k=i
     ·rw [e];exact fun c=>(EX c).elim
     ·exact cQ k (by omega))
  (fun _ cQ=>⟨_,by unfold wE;exact dU (by omega) rfl,.inr ⟨rfl,cQ⟩⟩) () (fun k ba=>by omega)
theorem XW {p:hv}{m n:Nat}{a:Nat→Nat→Int}{b:Nat→Int}(h:me p m n a b)(F:Nat→Bool)(mz:Bool)(gT:List Int)(x0:Int)(aY:List bt)(bJ:List (List bp))(bS:List Int):
 CX p.fu p.eb p.dJ p.ej p.hH ((n+m:Nat):Int) mz gT x0 aY bJ bS 0 (a6 (n+m) F)=some (a6 (n+m) fun j=>decide (j<n)):=by
 have hm:=h.hm
 have a5:=h.a5
 unfold CX
 obtain ⟨s,e,-⟩:=iF (f:=fun w:Int×List Bool=>wF p.fu p.eb p.dJ p.ej p.hH ((n+m:Nat):Int) mz gT x0 aY bJ bS w.1 w.2)
  (fun (k:Nat) (_:Unit)=>((k:Int),a6 (n+m) fun j=>if j<k then decide (j<n) else F j)) (n+m) (fun _ _=>True) (fun _=>a6 (n+m) fun j=>decide (j<n))
  (fun k ba _ _=>by
    refine ⟨(),?_,trivial⟩
    have Mi:decide ((k:Int)<p.eb)=decide (k<n):=by rw [h.gr];simp
    unfold wF
    simp only
    rw [Mi,fC (by omega)]
    refine dD (by omega) (bH (by rw [cT];omega) (bH (by rw [cT,Int.toNat_natCast];omega) ?_))
    rw [Int.toNat_natCast,Nat.zero_add,kS]
    congr 3
    refine eW fun j _=> ?_
    by_cases c:j=k
    ·subst c;rw [if_pos rfl,if_pos (by omega)]
    ·rw [if_neg c]
     by_cases cd:j<k
     ·rw [if_pos cd,if_pos (by omega)]
     ·rw [if_neg cd,if_neg (by omega)])
  (fun _ _=>by
    unfold wF
    refine dU (by simp) ?_
    simp only
    congr 2
    exact eW fun j aI=>by rw [if_pos aI]) () trivial
 have Cf:(a6 (n+m) fun j=>if j<0 then decide (j<n) else F j)=a6 (n+m) F:=eW fun j _=>by rw [if_neg (by omega)]
 rw [Cf] at e
 exact e
theorem Sx {m n:Nat}{a:Nat→Nat→Int}{b:Nat→Int}:hn m (dG m n a b) (ic m n a b)=1:=by
 unfold hn;rw [QC,if_pos (by grind)]
theorem aaz {p:hv}{m n:Nat}{a:Nat→Nat→Int}{b:Nat→Int}(h:me p m n a b):
 ∃r,zP p=some r∧((s9 m n a b∧ ∃t cy g e9,r = .inl ((b2 (hn m (dG m n a b) t)).cO,(b2 (hn m (dG m n a b) t)).cC,((n+m:Nat):Int),hi cy (n+m) g,dv cy (jV g t),a6 (n+m) (fun j=>decide (j<n)),e9) ∧
  qF m n (n+m) (dG m n a b) t cy g∧(∀i,i<cy→t.B (g i)<n)∧mM cy (n+m) m g (hn m (dG m n a b) t) (jV g t) e9)∨(¬s9 m n a b∧r = .inr ())):=by
 have hm:=h.hm
 have a5:=h.a5
 have sB:=JQ h
 have fR:U (p.eb+p.fu)=((n+m:Nat):Int):=by rw [h.gr,h.rows,← Int.natCast_add,cx (by omega) (by omega)]
 have ad3:mM m (n+m) m (fun i=>i) (hn m (dG m n a b) (ic m n a b)) (ic m n a b) (a6 m (fun i=>a6 (n+m+1) fun j=>b2 (dG m n a b i j))):=⟨cT ..,fun i aq=>by
  rw [f7 aq,Sx]
  congr 1
  exact eW fun j _=>by
   show b2 (dG m n a b i j)=b2 (dG m n a b i j*1)
   congr 1;grind⟩
 obtain ⟨q,bL,t,e9,yG,e,⟨cQ,rfl⟩,hh,ek⟩:=Ym (gm:=m) (m:=m) (N:=n+m) (M:=m) (A:=dG m n a b) hm (by omega) (h:=fun i=>i) (fun i _ k _ e=>e) (pG n) (fun j _=>by unfold pG;split<;>omega) (fun j=>decide (j<n))
  (fun w t=>kL m (n+m) (dG m n a b) t∧w=hn m (dG m n a b) t) (fun w t cQ=>⟨cQ.1.ok,cQ.1.nJ,cQ.2▸cQ.1.x9 sB⟩)
  (fun w t r s cQ b=>by
    obtain ⟨h1,rfl⟩:=cQ
    have ai:t.T r s≠0:=by have:=b.pos;grind
    exact ⟨h1.Ec sB b.ar b.bV ai,h1.gQ b,QK h1.ok h1.sA b.ar b.bV ai⟩)
  (w:=hn m (dG m n a b) (ic m n a b)) (t:=ic m n a b) ⟨⟨P7,O8,Pz⟩,rfl⟩ ad3
 rw [Sx] at e
 have acJ : ∀j,j<n→t.dB m (gF m n) j≤0:=by
  rcases ek with ⟨-,ek,-⟩|⟨-,s,bV,dI,jz⟩
  ·intro j aI
   have:=ek j (by omega) (by simpa using aI)
   rw [Qj cQ.ok.lg (by omega)] at this
   grind
  ·rw [Qj cQ.ok.lg bV] at dI
   obtain ⟨i,aq,ai⟩:=N0 cQ.ok bV dI
   exact (jz i aq ai).elim
 have e1:oc 1=some (b2 1):=by
  have:=rP (n:=1) (by rw [mC];omega)
  rw [show ((1:Int):Rat)=1 from rfl] at this
  exact this
 obtain ⟨r,r1,b5⟩:=XV h (cQ.x9 sB) hh (b2 (hn m (dG m n a b) t)).cO (b2 (hn m (dG m n a b) t)).cC ((n+m:Nat):Int) (a6 (n+m) yG)
 unfold zP
 rw [fR]
 rcases b5 with ⟨rfl,i,aq,gY,iP⟩|⟨rfl,jz⟩
 ·have Bn : ¬s9 m n a b:=fun bV=>by
   have:=Oi cQ.nJ (OJ cQ.ok cQ.nJ acJ bV) cQ.ok.lg i aq gY
   grind
  refine ⟨_,aR e1 (bH (by omega) (aR (N5 h _ _ _) (bH (by omega) (aR (x:=(a6 (n+m) (pG n),a6 (n+m) fun j=>decide (j<n))) (by rw [Int.toNat_natCast,qx,qx];exact Ol h _ _ _ _ _ _) (aR e ?_))))),.inr ⟨Bn,rfl⟩⟩
  refine aR (x:= .inr ()) ?_ rfl
  simp only
  rw [show ((dv m t).length:Nat)=m from cT ..]
  exact r1
 ·have cw : ∀i,i<m→n≤t.B i→t.T i (n+m)=0:=fun i aq gY=>by
   have h1:=jz i aq gY
   have o:=cQ.nJ i aq
   grind
  have bV:s9 m n a b:=Oh cQ.ok cQ.nJ cw
  obtain ⟨da,cy,g,kU,kD,qY,aez,jX⟩:=ZH (n:=n) sB (by omega) (by omega) (a6 (n+m) fun j=>decide (j<n)) cQ cw hh
  refine ⟨_,aR e1 (bH (by omega) (aR (N5 h _ _ _) (bH (by omega) (aR (x:=(a6 (n+m) (pG n),a6 (n+m) fun j=>decide (j<n))) (by rw [Int.toNat_natCast,qx,qx];exact Ol h _ _ _ _ _ _) (aR e ?_))))),.inl ⟨bV,da,cy,g,kU,rfl,qY,aez,jX⟩⟩
  refine aR (x:= .inl ()) ?_ ?_
  ·simp only
   rw [show ((dv m t).length:Nat)=m from cT ..]
   exact r1
  ·simp only
   rw [show ((a6 (n+m) yG).length:Nat)=n+m from cT ..]
   refine aR (XW h yG _ _ _ _ _ _) ?_
   rw [h.gr]
   exact aR kD rfl
def td (k:Nat)(x:cc):List eu:=(if x.i5=2 then [] else [⟨(k:Int),1⟩])++(if x.i5=1 then [] else [⟨(k:Int),-1⟩])
def lz (fO:List cc):Nat→List eu
 | 0=>[]
 | n+1=>lz fO n++(match fO[n]? with
  | some x=>td n x
  | none=>[])
theorem DB (fO:List cc): ∀n,(lz fO n).length≤2*n
 | 0=>by simp [lz]
 | n+1=>by
  have:=DB fO n
  rw [lz,List.length_append]
  have o:(match fO[n]? with
   | some x=>td n x
   | none=>[]).length≤2:=by
   split
   ·rename_i x _;unfold td;rw [List.length_append];split<;>split<;>simp
   ·simp
  omega
theorem PN {fO:List cc}: ∀ {n:Nat} {c:eu},n≤fO.length→c∈lz fO n→ ∃k:Nat,c.mF=k∧k<n∧(c.p3=1∨c.p3 = -1)
 | 0,c,_,h=>by simp [lz] at h
 | n+1,c,a5,h=>by
  rw [lz,List.mem_append] at h
  rcases h with h|h
  ·obtain ⟨k,h1,o,ae⟩:=PN (by omega) h
   exact ⟨k,h1,by omega,ae⟩
  ·rw [List.getElem?_eq_getElem (by omega)] at h
   simp only [td,List.mem_append] at h
   rcases h with h|h
   ·split at h
    ·simp at h
    ·simp at h;subst h;exact ⟨n,rfl,by omega,.inl rfl⟩
   ·split at h
    ·simp at h
    ·simp at h;subst h;exact ⟨n,rfl,by omega,.inr rfl⟩
theorem YX (s:cR)(ec:s.bQ.length≤1000):yX s=some (lz s.bQ s.bQ.length):=by
 unfold yX FF
 rw [e6]
 obtain ⟨x,e,-⟩:=iF (f:=fun w:Int×List eu=>vF s.bQ (s.bQ.length:Nat) w.1 w.2) (fun (n:Nat) (_:Unit)=>((n:Int),lz s.bQ n)) s.bQ.length (fun _ _=>True) (fun _=>lz s.bQ s.bQ.length)
  (fun n a5 _ _=>by
    refine ⟨(),?_,trivial⟩
    have R:=List.getElem?_eq_getElem a5
    have aV:=DB s.bQ n
    have e1:lz s.bQ (n+1)=lz s.bQ n++td n s.bQ[n]:=by rw [lz,R]
    unfold vF
    refine dD (by simp only;omega) (bH (by simp only;omega) (aR (x:=s.bQ[n]) (by simp only;rw [Int.toNat_natCast];exact R) ?_))
    simp only
    rw [fC (by omega),e1]
    unfold td
    by_cases bw:s.bQ[n].i5=2
    ·rw [if_pos bw]
     refine kk (Ex bw) (gv (yr (by omega)) (bH (by simp only [List.length_append,List.length_cons,List.length_nil];omega) ?_))
     rw [if_neg (by omega)];simp
    ·rw [if_neg bw]
     refine gv (yr bw) (bH (by simp only [List.length_append,List.length_cons,List.length_nil];omega) ?_)
     by_cases cd:s.bQ[n].i5=1
     ·refine kk (Ex cd) ?_
      rw [if_pos cd];simp
     ·refine gv (yr cd) (bH (by simp only [List.length_append,List.length_cons,List.length_nil];omega) ?_)
      rw [if_neg cd];simp)
  (fun _ _=>by unfold vF;exact dU (by simp) rfl) () trivial
 exact aR e rfl
theorem XD (s:cR)(ec:s.bQ.length≤1000):ze s=some ((lz s.bQ s.bQ.length).map eu.mF,(lz s.bQ s.bQ.length).map eu.p3):=by
 unfold ze HO
 rw [e6]
 obtain ⟨x,e,-⟩:=iF (f:=fun w:Int×List Int×List Int=>vU s.bQ (s.bQ.length:Nat) w.1 w.2.1 w.2.2) (fun (n:Nat) (_:Unit)=>((n:Int),(lz s.bQ n).map eu.mF,(lz s.bQ n).map eu.p3)) s.bQ.length (fun _ _=>True) (fun _=>((lz s.bQ s.bQ.length).map eu.mF,(lz s.bQ s.bQ.length).map eu.p3))
  (fun n a5 _ _=>by
    refine ⟨(),?_,trivial⟩
    have R:=List.getElem?_eq_getElem a5
    have aV:=DB s.bQ n
    have e1:lz s.bQ (n+1)=lz s.bQ n++td n s.bQ[n]:=by rw [lz,R]
    unfold vU
    refine dD (by simp only;omega) (bH (by simp only;omega) (aR (x:=s.bQ[n]) (by simp only;rw [Int.toNat_natCast];exact R) ?_))
    simp only
    rw [fC (by omega),e1]
    unfold td
    by_cases bw:s.bQ[n].i5=2
    ·rw [if_pos bw]
     refine kk (Ex bw) (gv (yr (by omega)) (bH (by simp only [List.length_append,List.length_map,List.length_cons,List.length_nil];omega) (bH (by simp only [List.length_append,List.length_map,List.length_cons,List.length_nil];omega) ?_)))
     rw [if_neg (by omega)];simp
    ·rw [if_neg bw]
     refine gv (yr bw) (bH (by simp only [List.length_append,List.length_map,List.length_cons,List.length_nil];omega) (bH (by simp only [List.length_append,List.length_map,List.length_cons,List.length_nil];omega) ?_))
     by_cases cd:s.bQ[n].i5=1
     ·refine kk (Ex cd) ?_
      rw [if_pos cd];simp
     ·refine gv (yr cd) (bH (by simp only [List.length_append,List.length_map,List.length_cons,List.length_nil];omega) (bH (by simp only [List.length_append,List.length_map,List.length_cons,List.length_nil];omega) ?_))
      rw [if_neg cd];simp)
  (fun _ _=>by unfold vU;exact dU (by simp) rfl) () trivial
 exact aR e rfl
theorem aa1 {α:Type}(a b:Nat)(f:Nat→α):a6 (a+b) f=a6 a f++a6 b (fun j=>f (a+j)):=by
 induction b with
 | zero=>simp [a6]
 | succ b ih=>rw [← Nat.add_assoc,k4,ih,k4,List.append_assoc]
def lM (s:cR)(k:Nat):Int×Int:=(tM s k).getD (0,0)
theorem J7 (s:cR)(i0:kH s)(h:k3 s=some true)(k:Nat)(ba:k<s.bQ.length):tM s k=some (lM s k)∧w2 s k=some (lM s k)∧(-100≤(lM s k).1∧(lM s k).1≤100)∧(-100≤(lM s k).2∧(lM s k).2≤100):=by
 obtain ⟨x,y,h1,o,ae,av⟩:=Zx s i0 h k (by omega) (by omega)
 have e:lM s k=(x,y):=by unfold lM;rw [h1];rfl
 rw [e];exact ⟨h1,o,ae,av⟩
def iz (s:cR)(j:Int)(ja k:Nat):Int :=
 match s.bQ[k]? with
 | none=>0
 | some x=>if j=x.dJ then (if ja=0 then (lM s k).1 else (lM s k).2) else if j=x.ej then -(if ja=0 then (lM s k).1 else (lM s k).2) else 0
theorem abA (s:cR)(i0:kH s)(h:k3 s=some true)(j:Int)(ja k:Nat): -100≤iz s j ja k∧iz s j ja k≤100:=by
 unfold iz
 split
 ·omega
 ·rename_i x R
  obtain ⟨-,-,ae,av⟩:=J7 s i0 h k (fB R)
  split
  ·split<;>omega
  ·split
   ·split<;>omega
   ·omega
theorem aa2 (s:cR)(i0:kH s)(h:k3 s=some true)(j:Int)(q1:List Int)(aY bJ:Int)(bS:List Int):
 CP j q1 aY bJ s.bQ (len_ cl s.bQ) s.b3 bS 0 ([]:List Int) ([]:List Int)=some (a6 s.bQ.length (iz s j 0),a6 s.bQ.length (iz s j 1)):=by
 obtain ⟨-,-,f3,f4⟩:=pJ s i0 h
 unfold CP
 rw [e6]
 obtain ⟨x,e,-⟩:=iF (f:=fun w:Int×List Int×List Int=>wt j q1 aY bJ s.bQ (s.bQ.length:Nat) s.b3 bS w.1 w.2.1 w.2.2) (fun (n:Nat) (_:Unit)=>((n:Int),a6 n (iz s j 0),a6 n (iz s j 1))) s.bQ.length (fun _ _=>True) (fun _=>(a6 s.bQ.length (iz s j 0),a6 s.bQ.length (iz s j 1)))
  (fun n a5 _ _=>by
    refine ⟨(),?_,trivial⟩
    have R:=List.getElem?_eq_getElem a5
    obtain ⟨-,v2,v3,v4⟩:=J7 s i0 h n a5
    unfold wt
    refine dD (by simp only;omega) (bH (by simp only;omega) (aR (x:=s.bQ[n]) (by simp only;rw [Int.toNat_natCast];exact R) (aR (x:=lM s n) v2 ?_)))
    simp only
    rw [fC (by omega),k4,k4]
    have g : ∀(F:Nat→Int) (v:Int),(a6 n F++[v]).length*8≤140737488355328:=fun F v=>by simp only [List.length_append,cT,List.length_cons,List.length_nil];omega
    by_cases bw:j=s.bQ[n].dJ
    ·have e0 : ∀ja,iz s j ja n=if ja=0 then (lM s n).1 else (lM s n).2:=fun ja=>by unfold iz;rw [R];simp only [if_pos bw]
     refine gv (u1 bw) (bH (g _ _) (bH (g _ _) ?_))
     rw [e0,e0];rfl
    ·refine kk (BJ bw) ?_
     by_cases cd:j=s.bQ[n].ej
     ·have e0 : ∀ja,iz s j ja n = -(if ja=0 then (lM s n).1 else (lM s n).2):=fun ja=>by unfold iz;rw [R];simp only [if_neg bw,if_pos cd]
      refine gv (u1 cd) (bH (g _ _) (bH (g _ _) ?_))
      rw [e0,e0,cx (by omega) (by omega),cx (by omega) (by omega)]
      simp
     ·have e0 : ∀ja,iz s j ja n=0:=fun ja=>by unfold iz;rw [R];simp only [if_neg bw,if_neg cd]
      refine kk (BJ cd) (bH (g _ _) (bH (g _ _) ?_))
      rw [e0,e0])
  (fun _ _=>by unfold wt;exact dU (by simp) rfl) () trivial
 exact e
end Go.Proofs.YtamedijmgkdlgacGreat
namespace Go.Proofs.YtamedijmgkdlgacGreat
set_option linter.unusedVariables false
set_option linter.unusedSimpArgs false
open Go Go.VL
theorem aa3 (s:cR)(i0:kH s)(h:k3 s=some true)(j:Int)(q1:List Int)(aY bJ:Int)(bS:List (List Int)):
 Cq s.b3 s.bQ j q1 aY bJ (len_ cl s.bQ) bS 0 (a6 s.bQ.length fun _=>(0:Int)) (a6 s.bQ.length fun _=>(0:Int))=some (a6 s.bQ.length (iz s j 0),a6 s.bQ.length (iz s j 1)):=by
 obtain ⟨-,-,f3,f4⟩:=pJ s i0 h
 unfold Cq
 rw [e6]
 obtain ⟨x,e,-⟩:=iF (f:=fun w:Int×List Int×List Int=>vB s.b3 s.bQ j q1 aY bJ (s.bQ.length:Nat) bS w.1 w.2.1 w.2.2) (fun (n:Nat) (_:Unit)=>((n:Int),(a6 s.bQ.length fun k=>if k<n then iz s j 0 k else 0),a6 s.bQ.length fun k=>if k<n then iz s j 1 k else 0)) s.bQ.length (fun _ _=>True) (fun _=>(a6 s.bQ.length (iz s j 0),a6 s.bQ.length (iz s j 1)))
  (fun n a5 _ _=>by
    refine ⟨(),?_,trivial⟩
    have R:=List.getElem?_eq_getElem a5
    obtain ⟨v1,-,v3,v4⟩:=J7 s i0 h n a5
    have dx : ∀ja v,v=iz s j ja n→(a6 s.bQ.length fun k=>if k<n then iz s j ja k else 0).set n v=a6 s.bQ.length fun k=>if k<n+1 then iz s j ja k else 0:=fun ja v bj=>by
     rw [kS]
     refine eW fun k _=> ?_
     by_cases c:k=n
     ·subst c;rw [if_pos rfl,if_pos (by omega)];exact bj
     ·rw [if_neg c]
      by_cases cd:k<n
      ·rw [if_pos cd,if_pos (by omega)]
      ·rw [if_neg cd,if_neg (by omega)]
    have g1 : ∀F:Nat→Int,0≤((n:Nat):Int)∧((n:Nat):Int)<((a6 s.bQ.length F).length:Nat):=fun F=>by rw [cT];omega
    have g2 : ∀F:Nat→Int,0+((n:Nat):Int).toNat<(a6 s.bQ.length F).length:=fun F=>by rw [cT,Int.toNat_natCast];omega
    unfold vB
    refine dD (by simp only;omega) (bH (by simp only;omega) (aR (x:=s.bQ[n]) (by simp only;rw [Int.toNat_natCast];exact R) (aR (x:=lM s n) v1 ?_)))
    simp only
    by_cases bw:j=s.bQ[n].dJ
    ·have e0 : ∀ja,iz s j ja n=if ja=0 then (lM s n).1 else (lM s n).2:=fun ja=>by unfold iz;rw [R];simp only [if_pos bw]
     refine gv (u1 bw) (bH (g1 _) (bH (g2 _) (bH (g1 _) (bH (g2 _) ?_))))
     rw [fC (by omega),Int.toNat_natCast,Nat.zero_add,dx 0 _ (by rw [e0];rfl),dx 1 _ (by rw [e0];rfl)]
    ·refine kk (BJ bw) ?_
     by_cases cd:j=s.bQ[n].ej
     ·have e0 : ∀ja,iz s j ja n = -(if ja=0 then (lM s n).1 else (lM s n).2):=fun ja=>by unfold iz;rw [R];simp only [if_neg bw,if_pos cd]
      refine gv (u1 cd) (bH (g1 _) (bH (g2 _) (bH (g1 _) (bH (g2 _) ?_))))
      rw [fC (by omega),Int.toNat_natCast,Nat.zero_add,cx (by omega) (by omega),cx (by omega) (by omega),dx 0 _ (by rw [e0];simp),dx 1 _ (by rw [e0];simp)]
     ·have e0 : ∀ja,iz s j ja n=0:=fun ja=>by unfold iz;rw [R];simp only [if_neg bw,if_neg cd]
      refine kk (BJ cd) ?_
      rw [fC (by omega)]
      congr 4
      ·refine eW fun k _=> ?_
       by_cases c:k=n
       ·subst c;rw [if_neg (by omega),if_pos (by omega),e0]
       ·by_cases cd:k<n
        ·rw [if_pos cd,if_pos (by omega)]
        ·rw [if_neg cd,if_neg (by omega)]
      ·refine eW fun k _=> ?_
       by_cases c:k=n
       ·subst c;rw [if_neg (by omega),if_pos (by omega),e0]
       ·by_cases cd:k<n
        ·rw [if_pos cd,if_pos (by omega)]
        ·rw [if_neg cd,if_neg (by omega)])
  (fun _ _=>by
    unfold vB
    refine dU (by simp) ?_
    simp only
    congr 3
    ·exact eW fun k ba=>by rw [if_pos ba]
    ·exact eW fun k ba=>by rw [if_pos ba]) () trivial
 have z : ∀ja,(a6 s.bQ.length fun k=>if k<0 then iz s j ja k else 0)=a6 s.bQ.length fun _=>(0:Int):=fun ja=>eW fun k _=>by rw [if_neg (by omega)]
 rw [z,z] at e
 exact e
def hr (s:cR)(q:Nat):Nat:=(kJ s.b3 0).getD q 0
def fr (s:cR):Nat:=(kJ s.b3 0).length
def kr (s:cR)(r k:Nat):Int:=iz s (hr s (r / 2)) (r % 2) k
theorem Aj (s:cR):(kJ s.b3 0).map (fun n:Nat=>(n:Int))=a6 (fr s) fun q=>((hr s q:Nat):Int):=by
 apply List.ext_getElem?
 intro q
 rw [List.getElem?_map]
 by_cases c:q<fr s
 ·rw [f7 c]
  have h:(kJ s.b3 0)[q]? = some (kJ s.b3 0)[q]:=List.getElem?_eq_getElem c
  unfold hr
  rw [List.getD_eq_getElem?_getD,h];rfl
 ·rw [List.getElem?_eq_none_iff.2 (by unfold fr at c;omega),List.getElem?_eq_none_iff.2 (by rw [cT];omega)];rfl
theorem QM (s:cR){q:Nat}(h:q<fr s):hr s q<s.b3.length:=by
 have h1:(kJ s.b3 0)[q]? = some (kJ s.b3 0)[q]:=List.getElem?_eq_getElem h
 have o:hr s q=(kJ s.b3 0)[q]:=by unfold hr;rw [List.getD_eq_getElem?_getD,h1];rfl
 have:=J3 s.b3 0 _ (List.mem_of_getElem? h1)
 omega
theorem xY (s:cR):fr s≤s.b3.length:=PJ s.b3 0
theorem Ki {α:Type}(r n:Nat)(e:Nat→Nat→α):(a6 (r*n) fun x=>e (x / n) (x % n))++a6 n (e r)=a6 ((r+1)*n) fun x=>e (x / n) (x % n):=by
 rw [Nat.succ_mul,aa1]
 congr 1
 refine eW fun j aI=> ?_
 have h1:(r*n+j) / n=r:=by rw [Nat.mul_comm,Nat.mul_add_div (by omega),Nat.div_eq_of_lt aI];rfl
 have o:(r*n+j) % n=j:=by rw [Nat.mul_comm,Nat.mul_add_mod,Nat.mod_eq_of_lt aI]
 rw [h1,o]
theorem YY (s:cR)(i0:kH s)(h:k3 s=some true):zK s=some (a6 (2*fr s*s.bQ.length) fun x=>kr s (x / s.bQ.length) (x % s.bQ.length)):=by
 obtain ⟨-,-,f3,f4⟩:=pJ s i0 h
 have tz:=xY s
 unfold zK
 refine aR (JF s (by omega)) ?_
 rw [Aj,f6,cT]
 unfold IL
 obtain ⟨x,e,-⟩:=iF (f:=fun w:Int×List Int=>wu (a6 (fr s) fun q=>((hr s q:Nat):Int)) ((fr s:Nat):Int) s.b3 s.bQ w.1 w.2) (fun (n:Nat) (_:Unit)=>((n:Int),a6 (2*n*s.bQ.length) fun x=>kr s (x / s.bQ.length) (x % s.bQ.length))) (fr s) (fun _ _=>True) (fun _=>a6 (2*fr s*s.bQ.length) fun x=>kr s (x / s.bQ.length) (x % s.bQ.length))
  (fun n a5 _ _=>by
    refine ⟨(),?_,trivial⟩
    have aS:2*n*s.bQ.length≤12*8:=Nat.mul_le_mul (by omega) f4
    unfold wu
    refine dD (by simp only;omega) (bH (by rw [cT];simp only;omega) (aR (x:=((hr s n:Nat):Int)) (by simp only;rw [Int.toNat_natCast];exact f7 a5) (aR (aa2 s i0 h _ _ _ _ _) ?_)))
    refine bH (by simp only [List.length_append,cT];omega) (bH (by simp only [List.length_append,cT];omega) ?_)
    simp only
    rw [fC (by omega)]
    have r1:a6 s.bQ.length (iz s (hr s n) 0)=a6 s.bQ.length (kr s (2*n)):=eW fun k _=>by
     unfold kr;rw [show 2*n / 2=n by omega,show 2*n % 2=0 by omega]
    have b5:a6 s.bQ.length (iz s (hr s n) 1)=a6 s.bQ.length (kr s (2*n+1)):=eW fun k _=>by
     unfold kr;rw [show (2*n+1) / 2=n by omega,show (2*n+1) % 2=1 by omega]
    rw [r1,b5,Ki (2*n),Ki (2*n+1),show 2*n+1+1=2*(n+1) by omega])
  (fun _ _=>by unfold wu;exact dU (by simp) rfl) () trivial
 have z:(a6 (2*0*s.bQ.length) fun x=>kr s (x / s.bQ.length) (x % s.bQ.length))=[]:=by simp [a6]
 rw [z] at e
 exact aR e rfl
theorem Xq (s:cR)(i0:kH s)(h:k3 s=some true):yT s=some (a6 (2*fr s) fun r=>a6 s.bQ.length (kr s r)):=by
 obtain ⟨-,-,f3,f4⟩:=pJ s i0 h
 have tz:=xY s
 unfold yT
 refine aR (NY s (by omega)) ?_
 rw [Aj,f6,cT]
 unfold Fo
 obtain ⟨x,e,-⟩:=iF (f:=fun w:Int×List (List Int)=>vC s.b3 s.bQ (a6 (fr s) fun q=>((hr s q:Nat):Int)) ((fr s:Nat):Int) w.1 w.2) (fun (n:Nat) (_:Unit)=>((n:Int),a6 (2*n) fun r=>a6 s.bQ.length (kr s r))) (fr s) (fun _ _=>True) (fun _=>a6 (2*fr s) fun r=>a6 s.bQ.length (kr s r))
  (fun n a5 _ _=>by
    refine ⟨(),?_,trivial⟩
    unfold vC
    refine dD (by simp only;omega) (bH (by rw [cT];simp only;omega) (aR (x:=((hr s n:Nat):Int)) (by simp only;rw [Int.toNat_natCast];exact f7 a5) (bH (by rw [e6];omega) ?_)))
    refine aR (x:=(a6 s.bQ.length (iz s (hr s n) 0),a6 s.bQ.length (iz s (hr s n) 1))) (by rw [show (len_ cl s.bQ).toNat=s.bQ.length by rw [e6,Int.toNat_natCast],qx];exact aa3 s i0 h _ _ _ _ _) (bH (by simp only [List.length_append,cT,List.length_cons,List.length_nil];omega) ?_)
    simp only
    rw [fC (by omega),show 2*(n+1)=2*n+1+1 by omega,k4 (2*n+1),k4 (2*n)]
    have r1:a6 s.bQ.length (iz s (hr s n) 0)=a6 s.bQ.length (kr s (2*n)):=eW fun k _=>by
     unfold kr;rw [show 2*n / 2=n by omega,show 2*n % 2=0 by omega]
    have b5:a6 s.bQ.length (iz s (hr s n) 1)=a6 s.bQ.length (kr s (2*n+1)):=eW fun k _=>by
     unfold kr;rw [show (2*n+1) / 2=n by omega,show (2*n+1) % 2=1 by omega]
    rw [r1,b5];simp)
  (fun _ _=>by unfold vC;exact dU (by simp) rfl) () trivial
 exact aR e rfl
def gr (s:cR):List eu:=lz s.bQ s.bQ.length
def dq (s:cR):Nat:=(gr s).length
def mA (s:cR)(c:Nat):Nat:=((gr s).getD c ⟨0,0⟩).mF.toNat
def pH (s:cR)(c:Nat):Int:=((gr s).getD c ⟨0,0⟩).p3
def kG (s:cR)(i c:Nat):Int:=pH s c*kr s i (mA s c)
def mh (s:cR)(l:List Int)(i:Nat):Int:= -(l.getD (2*hr s (i / 2)+i % 2) 0)
theorem AG (s:cR){c:Nat}(bf:c<dq s):(gr s)[c]? = some ⟨(mA s c:Int),pH s c⟩∧mA s c<s.bQ.length∧(pH s c=1∨pH s c = -1):=by
 have h1:(gr s)[c]? = some (gr s)[c]:=List.getElem?_eq_getElem bf
 have o:(gr s).getD c ⟨0,0⟩=(gr s)[c]:=by rw [List.getD_eq_getElem?_getD,h1];rfl
 obtain ⟨k,e1,aC,bR⟩:=PN (Nat.le_refl _) (List.mem_of_getElem? h1)
 have c9:mA s c=k:=by unfold mA;rw [o,e1];rfl
 have dn:pH s c=((gr s)[c]).p3:=by unfold pH;rw [o]
 refine ⟨?_,by omega,by rw [dn];exact bR⟩
 rw [h1,c9,dn,← e1]
theorem KK (s:cR):dq s≤2*s.bQ.length:=DB _ _
theorem aa4 (s:cR):(gr s).map eu.mF=a6 (dq s) fun c=>((mA s c:Nat):Int):=by
 apply List.ext_getElem?
 intro c
 rw [List.getElem?_map]
 by_cases h:c<dq s
 ·rw [(AG s h).1,f7 h];rfl
 ·rw [List.getElem?_eq_none_iff.2 (by unfold dq at h;omega),List.getElem?_eq_none_iff.2 (by rw [cT];omega)];rfl
theorem aa5 (s:cR):(gr s).map eu.p3=a6 (dq s) (pH s):=by
 apply List.ext_getElem?
 intro c
 rw [List.getElem?_map]
 by_cases h:c<dq s
 ·rw [(AG s h).1,f7 h];rfl
 ·rw [List.getElem?_eq_none_iff.2 (by unfold dq at h;omega),List.getElem?_eq_none_iff.2 (by rw [cT];omega)];rfl
theorem KL (s:cR)(i0:kH s)(h:k3 s=some true)(i:Nat){c:Nat}(bf:c<dq s): -100≤kG s i c∧kG s i c≤100:=by
 have h1:=abA s i0 h (hr s (i / 2)) (i % 2) (mA s c)
 unfold kG kr
 rcases (AG s bf).2.2 with e|e<;>rw [e]<;>omega
theorem aaA (s:cR)(i0:kH s)(h:k3 s=some true)(l:List Int)(aV:l.length=2*s.b3.length)(aS:∀x∈l,-100≤x∧x≤100):zv s l=some (a6 (2*fr s) (mh s l)):=by
 obtain ⟨-,-,f3,f4⟩:=pJ s i0 h
 have tz:=xY s
 unfold zv
 refine aR (JF s (by omega)) ?_
 rw [Aj,f6,cT]
 unfold Iv
 obtain ⟨x,e,-⟩:=iF (f:=fun w:Int×List Int=>wg l (a6 (fr s) fun q=>((hr s q:Nat):Int)) ((fr s:Nat):Int) w.1 w.2) (fun (n:Nat) (_:Unit)=>((n:Int),a6 (2*n) (mh s l))) (fr s) (fun _ _=>True) (fun _=>a6 (2*fr s) (mh s l))
  (fun n a5 _ _=>by
    refine ⟨(),?_,trivial⟩
    have ck:=QM s a5
    have sx:U ((2:Int)*((hr s n:Nat):Int))=((2*hr s n:Nat):Int):=by rw [cx (by omega) (by omega)];omega
    have yK:U (((2*hr s n:Nat):Int)+1)=((2*hr s n+1:Nat):Int):=fC (by omega)
    have x1:=aS l[2*hr s n] (List.getElem_mem (by omega))
    have d3:=aS l[2*hr s n+1] (List.getElem_mem (by omega))
    have p1:mh s l (2*n) = -l[2*hr s n]:=by
     unfold mh
     rw [show 2*n / 2=n by omega,show 2*n % 2=0 by omega,Nat.add_zero,List.getD_eq_getElem?_getD,List.getElem?_eq_getElem (by omega)];rfl
    have hg:mh s l (2*n+1) = -l[2*hr s n+1]:=by
     unfold mh
     rw [show (2*n+1) / 2=n by omega,show (2*n+1) % 2=1 by omega,List.getD_eq_getElem?_getD,List.getElem?_eq_getElem (by omega)];rfl
    unfold wg
    refine dD (by simp only;omega) (bH (by rw [cT];simp only;omega) (aR (x:=((hr s n:Nat):Int)) (by simp only;rw [Int.toNat_natCast];exact f7 a5) ?_))
    rw [sx,yK]
    refine bH (by omega) (aR (x:=l[2*hr s n]) (by rw [Int.toNat_natCast];exact List.getElem?_eq_getElem (by omega)) (bH (by omega) (aR (x:=l[2*hr s n+1]) (by rw [Int.toNat_natCast];exact List.getElem?_eq_getElem (by omega)) (bH (by simp only [List.length_append,cT,List.length_cons,List.length_nil];omega) ?_))))
    simp only
    rw [fC (by omega),cx (by omega) (by omega),cx (by omega) (by omega),show 2*(n+1)=2*n+1+1 by omega,k4 (2*n+1),k4 (2*n),p1,hg]
    simp)
  (fun _ _=>by unfold wg;exact dU (by simp) rfl) () trivial
 exact aR e rfl
def Mj (s:cR)(l:List Int):hv:=⟨((2*fr s:Nat):Int),(dq s:Int),a6 (2*fr s*dq s) (fun x=>kG s (x / dq s) (x % dq s)),a6 (2*fr s) (mh s l),a6 (dq s) fun _=>0⟩
theorem abB (s:cR)(i0:kH s)(h:k3 s=some true)(l:List Int)(aS:∀x∈l,-100≤x∧x≤100):me (Mj s l) (2*fr s) (dq s) (kG s) (mh s l) where
 rows:=rfl
 gr:=rfl
 gO:=cT ..
 K7:=fun i aq j aI=>by
  have h1:i*dq s+j<2*fr s*dq s:=by
   have:(i+1)*dq s≤2*fr s*dq s:=Nat.mul_le_mul_right _ aq
   rw [Nat.succ_mul] at this;omega
  show (a6 _ _)[_]? = _
  rw [f7 h1]
  have o:(i*dq s+j) / dq s=i:=by rw [Nat.mul_comm,Nat.mul_add_div (by omega),Nat.div_eq_of_lt aI];rfl
  have ae:(i*dq s+j) % dq s=j:=by rw [Nat.mul_comm,Nat.mul_add_mod,Nat.mod_eq_of_lt aI]
  rw [o,ae]
 vv:=cT ..
 x7:=fun i aq=>f7 aq
 hm:=by
  obtain ⟨-,-,f3,f4⟩:=pJ s i0 h
  have:=xY s;omega
 a5:=by
  obtain ⟨-,-,f3,f4⟩:=pJ s i0 h
  have:=KK s;omega
 sy:=fun i _ j aI=>KL s i0 h i aI
 vu:=fun i _=>by
  unfold mh
  rw [List.getD_eq_getElem?_getD]
  cases c:l[2*hr s (i / 2)+i % 2]? with
  | none=>simp
  | some x =>
   have:=aS x (List.mem_of_getElem? c)
   simp only [Option.getD_some];omega
theorem XE (s:cR)(i0:kH s)(h:k3 s=some true)(l:List Int)(aV:l.length=2*s.b3.length)(aS:∀x∈l,-100≤x∧x≤100):tZ s l=some (Mj s l):=by
 obtain ⟨-,-,f3,f4⟩:=pJ s i0 h
 have tz:=xY s
 have Cj:=KK s
 unfold tZ
 refine aR (XD s (by omega)) (aR (YY s i0 h) (aR (JF s (by omega)) (aR (aaA s i0 h l aV aS) ?_)))
 show (if 0≤len_ eI ((gr s).map eu.mF)∧_ then _ else none)=_
 rw [Aj]
 show (if 0≤len_ eI ((gr s).map eu.mF)∧(8:Int)*len_ eI ((gr s).map eu.mF)≤281474976710656∧len_ eI ((gr s).map eu.mF)<9223372036854775808 then
  CE ((gr s).map eu.mF) ((gr s).map eu.p3) (len_ cl s.bQ) _ (U ((2:Int)*len_ eI (a6 (fr s) fun q=>((hr s q:Nat):Int)))) (len_ eI ((gr s).map eu.mF)) (a6 (2*fr s) (mh s l)) (List.replicate (len_ eI ((gr s).map eu.mF)).toNat 0) 0 [] >>= fun ef=>some (⟨U ((2:Int)*len_ eI (a6 (fr s) fun q=>((hr s q:Nat):Int))),len_ eI ((gr s).map eu.mF),ef,a6 (2*fr s) (mh s l),List.replicate (len_ eI ((gr s).map eu.mF)).toNat 0⟩:hv) else none)=_
 rw [aa4,aa5,f6,cT,f6,cT,Int.toNat_natCast,e6,show U ((2:Int)*(fr s:Nat))=((2*fr s:Nat):Int) by rw [cx (by omega) (by omega)];omega,qx]
 refine bH (by omega) (aR (x:=a6 (2*fr s*dq s) (fun x=>kG s (x / dq s) (x % dq s))) ?_ rfl)
 unfold CE
 obtain ⟨x,e,-⟩:=iF (f:=fun w:Int×List Int=>vW (a6 (dq s) fun c=>((mA s c:Nat):Int)) (a6 (dq s) (pH s)) (s.bQ.length:Nat) (a6 (2*fr s*s.bQ.length) fun x=>kr s (x / s.bQ.length) (x % s.bQ.length)) ((2*fr s:Nat):Int) ((dq s:Nat):Int) (a6 (2*fr s) (mh s l)) (a6 (dq s) fun _=>0) w.1 w.2) (fun (i:Nat) (_:Unit)=>((i:Int),a6 (i*dq s) (fun x=>kG s (x / dq s) (x % dq s)))) (2*fr s) (fun _ _=>True) (fun _=>a6 (2*fr s*dq s) (fun x=>kG s (x / dq s) (x % dq s)))
  (fun i aq _ _=>by
    refine ⟨(),?_,trivial⟩
    have R3:i*dq s≤12*16:=Nat.mul_le_mul (by omega) (by omega)
    have lS:i*s.bQ.length≤12*8:=Nat.mul_le_mul (by omega) f4
    obtain ⟨y,aC,-⟩:=iF (f:=fun w:Int×List Int=>vV (a6 (dq s) fun c=>((mA s c:Nat):Int)) (a6 (dq s) (pH s)) (s.bQ.length:Nat) (a6 (2*fr s*s.bQ.length) fun x=>kr s (x / s.bQ.length) (x % s.bQ.length)) (i:Int) ((dq s:Nat):Int) ((2*fr s:Nat):Int) ((dq s:Nat):Int) (a6 (2*fr s) (mh s l)) (a6 (dq s) fun _=>0) w.1 w.2)
     (fun (c:Nat) (_:Unit)=>((c:Int),(a6 (i*dq s) fun x=>kG s (x / dq s) (x % dq s))++a6 c (kG s i))) (dq s) (fun _ _=>True) (fun _=>(a6 (i*dq s) fun x=>kG s (x / dq s) (x % dq s))++a6 (dq s) (kG s i))
     (fun c bf _ _=>by
       refine ⟨(),?_,trivial⟩
       obtain ⟨-,ll,qh⟩:=AG s bf
       have o7:(i+1)*s.bQ.length≤2*fr s*s.bQ.length:=Nat.mul_le_mul_right _ aq
       rw [Nat.succ_mul] at o7
       have k2:U (U ((i:Int)*((s.bQ.length:Nat):Int))+((mA s c:Nat):Int))=((i*s.bQ.length+mA s c:Nat):Int):=by
        rw [← Int.natCast_mul,cx (x:=((i*s.bQ.length:Nat):Int)) (by omega) (by omega),cx (by omega) (by omega)];omega
       have o:(i*s.bQ.length+mA s c) / s.bQ.length=i:=by rw [Nat.mul_comm,Nat.mul_add_div (by omega),Nat.div_eq_of_lt ll];rfl
       have ae:(i*s.bQ.length+mA s c) % s.bQ.length=mA s c:=by rw [Nat.mul_comm,Nat.mul_add_mod,Nat.mod_eq_of_lt ll]
       have ad4:=KL s i0 h i bf
       unfold vV
       refine dD (by simp only;omega) (bH (by rw [cT];simp only;omega) (aR (x:=((mA s c:Nat):Int)) (by simp only;rw [Int.toNat_natCast];exact f7 bf) (bH (by rw [cT];simp only;omega) (aR (x:=pH s c) (by simp only;rw [Int.toNat_natCast];exact f7 bf) ?_))))
       rw [k2]
       refine bH (by rw [cT];omega) (aR (x:=kr s i (mA s c)) (by rw [Int.toNat_natCast,f7 (by omega),o,ae]) (bH (by simp only [List.length_append,cT,List.length_cons,List.length_nil];omega) ?_))
       simp only
       rw [fC (by omega),k4,show pH s c*kr s i (mA s c)=kG s i c from rfl,cx (by omega) (by omega),List.append_assoc])
     (fun _ _=>by unfold vV;exact dU (by simp) rfl) () trivial
    have z:(a6 (i*dq s) fun x=>kG s (x / dq s) (x % dq s))++a6 0 (kG s i)=a6 (i*dq s) fun x=>kG s (x / dq s) (x % dq s):=by simp [a6]
    rw [z] at aC
    unfold vW
    refine dD (by simp only;omega) (aR (x:=(a6 (i*dq s) fun x=>kG s (x / dq s) (x % dq s))++a6 (dq s) (kG s i)) (by unfold HP;rw [f6,cT];exact aC) ?_)
    simp only
    rw [fC (by omega),Ki])
  (fun _ _=>by unfold vW;exact dU (by simp) rfl) () trivial
 have z:(a6 (0*dq s) fun x=>kG s (x / dq s) (x % dq s))=[]:=by simp [a6]
 rw [z] at e
 exact e
def upto (n:Nat)(f:Nat→Int)(k:Nat):List Int:=a6 n fun x=>if x<k then f x else 0
theorem J8 {n k:Nat}{f:Nat→Int}(ba:k<n){v:Int}(bj:v=f k):(upto n f k).set k v=upto n f (k+1):=by
 unfold upto
 rw [kS]
 refine eW fun j _=> ?_
 by_cases c:j=k
 ·subst c;rw [if_pos rfl,if_pos (by omega)];exact bj
 ·rw [if_neg c]
  by_cases cd:j<k
  ·rw [if_pos cd,if_pos (by omega)]
  ·rw [if_neg cd,if_neg (by omega)]
theorem Ph (n:Nat)(f:Nat→Int):upto n f 0=a6 n fun _=>0:=eW fun j _=>by rw [if_neg (by omega)]
theorem PO (n:Nat)(f:Nat→Int):upto n f n=a6 n f:=eW fun j aI=>by rw [if_pos aI]
theorem xz (n:Nat)(f:Nat→Int)(k:Nat):(upto n f k).length=n:=cT ..
theorem W5 (s:cR)(i0:kH s)(h:k3 s=some true)(l:List Int)(aV:l.length=2*s.b3.length)(aS:∀x∈l,-100≤x∧x≤100):yS s l 0 0=some (Mj s l):=by
 obtain ⟨-,-,f3,f4⟩:=pJ s i0 h
 have tz:=xY s
 have Cj:=KK s
 have agj:2*fr s*dq s≤12*16:=Nat.mul_le_mul (by omega) (by omega)
 unfold yS
 refine aR (Xq s i0 h) (aR (x:=gr s) (YX s (by omega)) ?_)
 have k2:U ((len_ (eL 1 eI) (a6 (2*fr s) fun r=>a6 s.bQ.length (kr s r)))+0)=((2*fr s:Nat):Int):=by rw [e6,cT,cx (by omega) (by omega)];omega
 have sx:U ((len_ gp (gr s))+0)=((dq s:Nat):Int):=by
  rw [e6];show U (((dq s:Nat):Int)+0)=_
  rw [cx (by omega) (by omega)];omega
 have yK:U (((2*fr s:Nat):Int)*((dq s:Nat):Int))=((2*fr s*dq s:Nat):Int):=by rw [← Int.natCast_mul,cx (by omega) (by omega)]
 rw [k2,sx,yK,Int.toNat_natCast,Int.toNat_natCast,Int.toNat_natCast,qx,qx,qx,e6,cT]
 refine bH (by omega) (bH (by omega) (bH (by omega) ?_))
 refine aR (x:=a6 (2*fr s*dq s) (fun x=>kG s (x / dq s) (x % dq s))) ?_ ?_
 ·unfold Fj
  obtain ⟨x,e,-⟩:=iF (f:=fun w:Int×List Int=>vz s.b3 s.bQ l (gr s) (a6 (2*fr s) fun r=>a6 s.bQ.length (kr s r)) ((2*fr s:Nat):Int) ((2*fr s:Nat):Int) ((dq s:Nat):Int) (a6 (2*fr s) fun _=>0) (a6 (dq s) fun _=>0) w.1 w.2) (fun (i:Nat) (_:Unit)=>((i:Int),upto (2*fr s*dq s) (fun x=>kG s (x / dq s) (x % dq s)) (i*dq s))) (2*fr s) (fun _ _=>True) (fun _=>a6 (2*fr s*dq s) (fun x=>kG s (x / dq s) (x % dq s)))
   (fun i aq _ _=>by
     refine ⟨(),?_,trivial⟩
     have BG:(i+1)*dq s≤2*fr s*dq s:=Nat.mul_le_mul_right _ aq
     rw [Nat.succ_mul] at BG
     obtain ⟨y,aC,-⟩:=iF (f:=fun w:Int×List Int=>vy s.b3 s.bQ l (gr s) (i:Int) (a6 s.bQ.length (kr s i)) (a6 (2*fr s) fun r=>a6 s.bQ.length (kr s r)) ((2*fr s:Nat):Int) ((dq s:Nat):Int) ((2*fr s:Nat):Int) ((dq s:Nat):Int) (a6 (2*fr s) fun _=>0) (a6 (dq s) fun _=>0) w.1 w.2) (fun (c:Nat) (_:Unit)=>((c:Int),upto (2*fr s*dq s) (fun x=>kG s (x / dq s) (x % dq s)) (i*dq s+c))) (dq s) (fun _ _=>True) (fun _=>upto (2*fr s*dq s) (fun x=>kG s (x / dq s) (x % dq s)) (i*dq s+dq s))
      (fun c bf _ _=>by
        refine ⟨(),?_,trivial⟩
        obtain ⟨mW,ll,qh⟩:=AG s bf
        have ad4:=KL s i0 h i bf
        have aeA:U (U ((i:Int)*((dq s:Nat):Int))+((c:Nat):Int))=((i*dq s+c:Nat):Int):=by
         rw [← Int.natCast_mul,cx (x:=((i*dq s:Nat):Int)) (by omega) (by omega),cx (by omega) (by omega)];omega
        have o:(i*dq s+c) / dq s=i:=by rw [Nat.mul_comm,Nat.mul_add_div (by omega),Nat.div_eq_of_lt bf];rfl
        have ae:(i*dq s+c) % dq s=c:=by rw [Nat.mul_comm,Nat.mul_add_mod,Nat.mod_eq_of_lt bf]
        unfold vy
        refine dD (by simp only;omega) (bH (by show _∧((c:Nat):Int)<((dq s:Nat):Int);simp only;omega) (aR (x:=⟨(mA s c:Int),pH s c⟩) (by simp only;rw [Int.toNat_natCast];exact mW) (bH (by rw [cT];simp only;omega) (aR (x:=kr s i (mA s c)) (by simp only;rw [Int.toNat_natCast];exact f7 ll) ?_))))
        simp only
        rw [aeA]
        refine bH (by rw [xz];omega) (bH (by rw [xz,Int.toNat_natCast];omega) ?_)
        rw [fC (by omega),Int.toNat_natCast,Nat.zero_add,show pH s c*kr s i (mA s c)=kG s i c from rfl,cx (by omega) (by omega),J8 (by omega) (by rw [o,ae]),Nat.add_assoc])
      (fun _ _=>by unfold vy;exact dU (by simp) rfl) () trivial
     unfold vz
     refine dD (by simp only;omega) (bH (by rw [cT];simp only;omega) (aR (x:=a6 s.bQ.length (kr s i)) (by simp only;rw [Int.toNat_natCast];exact f7 aq) (aR (x:=upto (2*fr s*dq s) (fun x=>kG s (x / dq s) (x % dq s)) (i*dq s+dq s)) (by unfold Fi;rw [e6];exact aC) ?_)))
     simp only
     rw [fC (by omega),Nat.succ_mul i (dq s)])
   (fun _ _=>by
     unfold vz
     refine dU (by simp) ?_
     simp only
     rw [PO]) () trivial
  rw [Nat.zero_mul,Ph] at e
  exact e
 refine aR (NY s (by omega)) ?_
 rw [Aj,f6,cT]
 refine aR (x:=a6 (2*fr s) (mh s l)) ?_ rfl
 unfold Fk
 obtain ⟨x,e,-⟩:=iF (f:=fun w:Int×List Int=>vA l (a6 (fr s) fun q=>((hr s q:Nat):Int)) ((fr s:Nat):Int) ((2*fr s:Nat):Int) ((dq s:Nat):Int) (a6 (2*fr s*dq s) (fun x=>kG s (x / dq s) (x % dq s))) (a6 (dq s) fun _=>0) w.1 w.2) (fun (n:Nat) (_:Unit)=>((n:Int),upto (2*fr s) (mh s l) (2*n))) (fr s) (fun _ _=>True) (fun _=>a6 (2*fr s) (mh s l))
  (fun n a5 _ _=>by
    refine ⟨(),?_,trivial⟩
    have ck:=QM s a5
    have sx : ∀a:Nat,a≤1000→U ((2:Int)*((a:Nat):Int))=((2*a:Nat):Int):=fun a bE=>by rw [cx (by omega) (by omega)];omega
    have x1:=aS l[2*hr s n] (List.getElem_mem (by omega))
    have d3:=aS l[2*hr s n+1] (List.getElem_mem (by omega))
    have p1:mh s l (2*n) = -l[2*hr s n]:=by
     unfold mh
     rw [show 2*n / 2=n by omega,show 2*n % 2=0 by omega,Nat.add_zero,List.getD_eq_getElem?_getD,List.getElem?_eq_getElem (by omega)];rfl
    have hg:mh s l (2*n+1) = -l[2*hr s n+1]:=by
     unfold mh
     rw [show (2*n+1) / 2=n by omega,show (2*n+1) % 2=1 by omega,List.getD_eq_getElem?_getD,List.getElem?_eq_getElem (by omega)];rfl
    unfold vA
    refine dD (by simp only;omega) (bH (by rw [cT];simp only;omega) (aR (x:=((hr s n:Nat):Int)) (by simp only;rw [Int.toNat_natCast];exact f7 a5) ?_))
    simp only
    rw [sx (hr s n) (by omega),sx n (by omega),fC (n:=2*hr s n) (by omega),fC (n:=2*n) (by omega)]
    refine bH (by omega) (aR (x:=l[2*hr s n]) (by rw [Int.toNat_natCast];exact List.getElem?_eq_getElem (by omega)) (bH (by omega) (aR (x:=l[2*hr s n+1]) (by rw [Int.toNat_natCast];exact List.getElem?_eq_getElem (by omega)) ?_)))
    refine bH (by rw [xz];omega) (bH (by rw [xz,Int.toNat_natCast];omega) (bH (by rw [xz];omega) (bH (by rw [List.length_set,xz,Int.toNat_natCast];omega) ?_)))
    rw [fC (by omega),cx (x:=0-l[2*hr s n]) (by omega) (by omega),cx (x:=0-l[2*hr s n+1]) (by omega) (by omega),Int.toNat_natCast,Int.toNat_natCast,Nat.zero_add,Nat.zero_add,J8 (by omega) (by rw [p1];omega),J8 (by omega) (by rw [hg];omega),show 2*(n+1)=2*n+1+1 by omega])
  (fun _ _=>by
    unfold vA
    refine dU (by simp) ?_
    simp only
    rw [PO]) () trivial
 rw [Nat.mul_zero,Ph] at e
 exact e
theorem XX (s:cR)(i0:kH s)(h:k3 s=some true)(l:List Int)(aV:l.length=2*s.b3.length)(aS:∀x∈l,-100≤x∧x≤100):
 ∃r,(tZ s l >>= fun p=>tX p)=some r∧wc s l=some r:=by
 have ai:=abB s i0 h l aS
 obtain ⟨r,e1,aC⟩:=Xp ai (cT ..) (fun x R=>by
  obtain ⟨i,-,rfl⟩:=DJ.1 R
  omega)
 obtain ⟨q,q1,aY⟩:=aaz ai
 refine ⟨r,aR (XE s i0 h l aV aS) e1,?_⟩
 unfold wc
 refine aR (W5 s i0 h l aV aS) (aR q1 ?_)
 rcases aY with ⟨bV,t,cy,g,e9,rfl,-⟩|⟨bV,rfl⟩
 ·rw [aC.2 bV]
 ·have:r=false:=by
   cases r
   ·rfl
   ·exact (bV (aC.1 rfl)).elim
  rw [this]
theorem Yo {vw:Nat}{l:List Int}(h:nY vw l=true):l.length=2*vw∧ ∀x∈l,-100≤x∧x≤100:=by
 unfold nY at h
 rw [Bool.and_eq_true,decide_eq_true_eq,List.all_eq_true] at h
 exact ⟨h.1,fun x R=>by have:=h.2 x R;unfold pW at this;simpa using this⟩
theorem abC (s:cR)(i0:kH s)(l:List Int)(aV:l.length≤maxLen)(h:k3 s=some true)(aS:nY s.b3.length l=true):
 ∃r,C3 s l=some r∧wc s l=some r:=by
 obtain ⟨f1,f2⟩:=Yo aS
 obtain ⟨r,r1,b5⟩:=XX s i0 h l f1 f2
 have e:=Pf s true h (fun _=>(pJ s i0 h).2.2.1) l aV
 rw [aS] at e
 refine ⟨r,aR e (gv rfl ?_),b5⟩
 cases ai:tZ s l with
 | none=>rw [ai] at r1;cases r1
 | some p =>
  rw [ai] at r1
  exact aR rfl (aR (show tX p=some r from r1) rfl)
theorem XY (l:List (List Int))(h:l.length≤1048576)(aV:∀x∈l,x.length≤1048576):zR l l=some true:=by
 have h1:IX l l 0=some (if l.all (fun _=>true) then .inl () else .inr ()):=by
  refine Ag (f:=fun w=>wG l l w) l _ (fun n x R=> ?_) (by simp [wG,e6])
  have dz:=fB R
  unfold wG
  have e:=Yf x (aV x (List.mem_of_getElem? R))
  have c:(n:Int)<(l.length:Int):=by omega
  have dF:0≤(n:Int)∧(n:Int)<(l.length:Int):=by omega
  simp only [e6,decide_eq_true c,if_true,if_pos dF,Int.toNat_natCast,R,Option.bind_eq_bind,Option.bind_some,e]
  rw [i1 (by omega)]
 unfold zR
 rw [h1]
 simp
theorem XZ (l:List (List Int))(aV:l.length≤maxLen)(R:∀x∈l,x.length≤maxLen)(left:Int)(h0:0≤left)(h1:left≤1048576):
 ∃r,zJ l left=some r∧r≤1048576∧(0≤r→l.length≤1048576∧ ∀x∈l,x.length≤1048576):=by
 have hm:=sQ
 have hw:U (left-((l.length:Nat):Int))=left-(l.length:Nat):=cx (by omega) (by omega)
 unfold zJ
 rw [e6,hw]
 by_cases e:left-(l.length:Nat)<0
 ·exact ⟨-1,by simp [e],by omega,by omega⟩
 ·obtain ⟨r,r1,b5⟩:=jt (f:=fun w:Int×Int=>wo l w.1 w.2)
   (fun w=>0≤w.1∧w.1≤1048576∧0≤w.2∧w.2≤l.length∧ ∀(n:Nat) x,(n:Int)<w.2→l[n]? = some x→x.length≤1048576) (fun w=>(l.length-w.2).toNat)
   (fun r=>match r with | .inl a=>a≤1048576∧(0≤a→ ∀x∈l,x.length≤1048576) | .inr _=>True) (fun w cQ=>by
     obtain ⟨q1,aY,bJ,bS,cA⟩:=cQ
     obtain ⟨a,i⟩:=w
     simp only at q1 aY bJ bS cA
     by_cases c:i<(l.length:Int)
     ·obtain ⟨x,sj⟩ : ∃x,l[i.toNat]? = some x:=⟨_,List.getElem?_eq_getElem (by omega)⟩
      have eP:=Zy x (R x (List.mem_of_getElem? sj)) a q1 aY
      have ad5:U (i+1)=i+1:=cx (by omega) (by omega)
      unfold wo
      have dF:0≤i∧i<(l.length:Int):=by omega
      simp only [e6,decide_eq_true c,if_true,if_pos dF,sj,Option.bind_eq_bind,Option.bind_some,eP,ad5]
      by_cases g:a<(x.length:Nat)
      ·exact .inr ⟨.inr (),by simp [g],trivial⟩
      ·refine .inl ⟨(a-(x.length:Nat),i+1),?_,⟨by simp only;omega,by simp only;omega,by simp only;omega,by simp only;omega,fun n y a5 a1=> ?_⟩,by simp only;omega⟩
       ·have : ¬a-(x.length:Nat)<0:=by omega
        simp [g,this]
       ·by_cases ad6:(n:Int)<i
        ·exact cA n y ad6 a1
        ·have:n=i.toNat:=by simp only at a5;omega
         subst this
         rw [sj] at a1
         obtain rfl:=Option.some.inj a1
         omega
     ·refine .inr ⟨.inl a,by simp [wo,e6,c],aY,fun _ x ad7=> ?_⟩
      obtain ⟨n,a5⟩:=List.getElem?_of_mem ad7
      exact cA n x (by have:=fB a5;omega) a5) (left-(l.length:Nat),0) ⟨by simp only;omega,by simp only;omega,by simp only;omega,by simp only;omega,fun n x a5 _=>by simp only at a5;omega⟩
  have yD:IH l (left-(l.length:Nat)) 0=some r:=r1
  rw [decide_eq_false e,yD]
  simp only [Bool.false_eq_true,if_false,Option.bind_eq_bind,Option.bind_some]
  cases r with
  | inl a=>exact ⟨a,rfl,b5.1,fun bE=>⟨by omega,b5.2 bE⟩⟩
  | inr a=>exact ⟨-1,rfl,by omega,by omega⟩
def ve (l:List (List Int)):List bt:=a6 l.length fun i=>some (i,(l.getD i []).length)
theorem abD (l:List (List Int)):(ve l).map (gz l)=l:=by
 apply List.ext_getElem?
 intro i
 unfold ve
 rw [Kd]
 by_cases h:i<l.length
 ·rw [f7 h,List.getElem?_eq_getElem h]
  simp only [gz,List.take_length,List.getD_eq_getElem?_getD,List.getElem?_eq_getElem h,Option.getD_some]
 ·rw [List.getElem?_eq_none (by rw [cT];omega),List.getElem?_eq_none (by omega)]
theorem abE (l:List (List Int))(aV:∀x∈l,x.length≤1048576): ∀h∈ve l,yE l h:=by
 intro h ft
 obtain ⟨i,aq,rfl⟩:=DJ.1 ft
 have R:=List.getElem?_eq_getElem aq
 exact ⟨l[i],R,by rw [List.getD_eq_getElem?_getD,R];rfl,by rw [List.getD_eq_getElem?_getD,R];exact aV _ (List.getElem_mem aq)⟩
theorem abF (l:List (List Int))(aV:∀x∈l,x.length≤1048576):(ve l).all (oM l)=true:=by
 rw [List.all_eq_true]
 exact fun h ft=>(abE l aV h ft).adU
theorem X0 (l:List (List Int))(h:l.length≤1048576)(aV:∀x∈l,x.length≤1048576):zm l=some (ve l,l):=by
 unfold zm Ib
 rw [e6,Int.toNat_natCast]
 have e0:(List.replicate l.length (none:bt))=a6 l.length (fun i=>if i<0 then some (i,(l.getD i []).length) else none):=by
  apply List.ext_getElem?
  intro i
  by_cases h:i<l.length
  ·rw [f7 h,List.getElem?_replicate,if_pos h,if_neg (by omega)]
  ·rw [List.getElem?_eq_none (by simp;omega),List.getElem?_eq_none (by rw [cT];omega)]
 obtain ⟨x,e,-⟩:=iF (f:=fun w:Int×(List bt)×(List (List Int))=>wb l w.1 w.2.1 w.2.2) (fun (i:Nat) (_:Unit)=>((i:Int),a6 l.length (fun j=>if j<i then some (j,(l.getD j []).length) else none),l.take i)) l.length (fun _ _=>True) (fun _=>(ve l,l))
  (fun i aq _ _=>by
    refine ⟨(),?_,trivial⟩
    have R:=List.getElem?_eq_getElem aq
    simp only
    unfold wb
    have bG:l.getD i []=l[i]:=by rw [List.getD_eq_getElem?_getD,R];rfl
    rw [e6,i1 (by omega)]
    refine dD (by omega) (bH (by omega) (aR (gt rfl R) (aR (Yk _ (aV _ (List.getElem_mem aq))) (bH (by rw [cT];omega) (bH (by rw [cT,Int.toNat_natCast];omega) ?_)))))
    rw [Int.toNat_natCast,Nat.zero_add,kS,List.take_add_one,R]
    simp only [Option.toList_some]
    congr 4
    apply eW
    intro j aI
    by_cases c:j=i
    ·subst c;rw [if_pos rfl,if_pos (by omega),bG,List.length_take];congr 2;omega
    ·rw [if_neg c]
     by_cases d:j<i
     ·rw [if_pos d,if_pos (by omega)]
     ·rw [if_neg d,if_neg (by omega)])
  (fun _ _=>by
    simp only
    unfold wb
    rw [e6]
    refine dU (by omega) ?_
    rw [List.take_length]
    unfold ve
    rw [eW (g:=fun j=>some (j,(l.getD j []).length)) (fun j aI=>if_pos aI)]) () trivial
 rw [List.take_zero,← e0] at e
 exact bH (by omega) (aR e rfl)
theorem YZ (s:cR)(i0:kH s)(cs:List (List Int))(bf:cs.length≤1048576)(aV:∀l∈cs,l.length≤maxLen):
 (sH s cs=some true∧xc s cs=some true∧k3 s=some true∧1≤cs.length∧cs.length≤6∧ ∀l∈cs,nY s.b3.length l=true)∨(sH s cs=some false∧xc s cs=some false):=by
 obtain ⟨p,p1,hg⟩:=Nu s i0
 have q5:p=true→s.b3.length≤6:=fun h=>(pJ s i0 (h▸p1)).2.2.1
 unfold sH xc
 rw [e6,qt]
 by_cases h1:(1:Int)≤(cs.length:Nat)∧((cs.length:Nat):Int)≤6
 ·have bV:II cs (cs.length:Nat) s.b3 s.bQ 0=some (if cs.all (fun l=>p && nY s.b3.length l) then .inl () else .inr ()):=by
   refine Ag (f:=fun w=>wq cs (cs.length:Nat) s.b3 s.bQ w) cs _ (fun n x R=> ?_) (by unfold wq;exact dU (by omega) rfl)
   have dz:=fB R
   unfold wq
   have Ky:=Pf s p p1 q5 x (aV x (List.mem_of_getElem? R))
   refine dD (by omega) (bH (by omega) (aR (gt rfl R) (aR Ky ?_)))
   rw [i1 (by omega)]
   cases (p && nY s.b3.length x)<;>rfl
  cases p with
  | false =>
   have:cs.all (fun l=>false && nY s.b3.length l)=false:=by
    cases cs with
    | nil=>simp at h1
    | cons l cs=>simp
   rw [this] at bV
   exact .inr ⟨aR rfl (gv (decide_eq_true h1) (aR bV rfl)),dU (by omega) (dU (by omega) (aR hg (kk rfl rfl)))⟩
  | true =>
   have aq:IQ s.b3 s.bQ cs (cs.length:Nat) 0=some (if cs.all (fun l=>nY s.b3.length l) then .inl () else .inr ()):=by
    refine Ag (f:=fun w=>wv s.b3 s.bQ cs (cs.length:Nat) w) cs _ (fun n x R=> ?_) (by unfold wv;exact dU (by omega) rfl)
    have dz:=fB R
    unfold wv
    refine dD (by omega) (bH (by omega) (aR (gt rfl R) (aR (Yj s (q5 rfl) x (aV x (List.mem_of_getElem? R))) ?_)))
    rw [i1 (by omega)]
    cases nY s.b3.length x<;>rfl
   simp only [Bool.true_and] at bV
   by_cases c:cs.all (fun l=>nY s.b3.length l)=true
   ·rw [c] at bV aq
    exact .inl ⟨aR rfl (gv (decide_eq_true h1) (aR bV rfl)),dU (by omega) (dU (by omega) (aR hg (gv rfl (aR aq rfl)))),p1,by omega,by omega,fun l aV=>List.all_eq_true.1 c l aV⟩
   ·rw [Bool.not_eq_true] at c
    rw [c] at bV aq
    exact .inr ⟨aR rfl (gv (decide_eq_true h1) (aR bV rfl)),dU (by omega) (dU (by omega) (aR hg (gv rfl (aR aq rfl))))⟩
 ·refine .inr ⟨aR rfl (kk (decide_eq_false h1) rfl),?_⟩
  by_cases gg:((cs.length:Nat):Int)<1
  ·exact dD gg rfl
  ·exact dU gg (dD (by omega) rfl)
theorem X1 (s:cR)(i0:kH s)(cs:List (List Int))(bf:cs.length≤6)(aV:∀l∈cs,l.length≤maxLen)(h:k3 s=some true)(aS:∀l∈cs,nY s.b3.length l=true):
 ∃r:Unit⊕Int,GZ cs (cs.length:Nat) s.b3 s.bQ 0=some r∧FH s.b3 s.bQ cs (cs.length:Nat) 0=some r:=by
 have key : ∃r:Unit⊕Int,iter (fun w:Int=>qk cs (cs.length:Nat) s.b3 s.bQ w) 0=some r∧iter (fun w:Int=>qj s.b3 s.bQ cs (cs.length:Nat) w) 0=some r:=by
  have acK : ∀d (n:Nat),n+d=cs.length→ ∃r:Unit⊕Int,iter (fun w:Int=>qk cs (cs.length:Nat) s.b3 s.bQ w) (n:Int)=some r∧iter (fun w:Int=>qj s.b3 s.bQ cs (cs.length:Nat) w) (n:Int)=some r:=by
   intro d
   induction d with
   | zero =>
    intro n a5
    refine ⟨.inl (),?_,?_⟩
    ·rw [iter]
     rw [show qk cs (cs.length:Nat) s.b3 s.bQ n=some (.inr (.inl ())) by unfold qk;exact dU (by omega) rfl]
     rfl
    ·rw [iter]
     rw [show qj s.b3 s.bQ cs (cs.length:Nat) n=some (.inr (.inl ())) by unfold qj;exact dU (by omega) rfl]
     rfl
   | succ d ih =>
    intro n a5
    have R:=List.getElem?_eq_getElem (show n<cs.length by omega)
    obtain ⟨r,r1,b5⟩:=abC s i0 cs[n] (aV _ (List.getElem_mem _)) h (aS _ (List.getElem_mem _))
    cases r with
    | true =>
     obtain ⟨r,q1,aY⟩:=ih (n+1) (by omega)
     refine ⟨r,?_,?_⟩
     ·rw [iter]
      rw [show qk cs (cs.length:Nat) s.b3 s.bQ n=some (.inl ((n+1:Nat):Int)) by
       unfold qk
       exact dD (by omega) (bH (by omega) (aR (gt rfl R) (aR r1 (gv rfl (by rw [i1 (by omega)])))))]
      exact q1
     ·rw [iter]
      rw [show qj s.b3 s.bQ cs (cs.length:Nat) n=some (.inl ((n+1:Nat):Int)) by
       unfold qj
       exact dD (by omega) (bH (by omega) (aR (gt rfl R) (aR b5 (gv rfl (by rw [i1 (by omega)])))))]
      exact aY
    | false =>
     refine ⟨.inr n,?_,?_⟩
     ·rw [iter]
      rw [show qk cs (cs.length:Nat) s.b3 s.bQ n=some (.inr (.inr (n:Int))) by
       unfold qk
       exact dD (by omega) (bH (by omega) (aR (gt rfl R) (aR r1 (kk rfl rfl))))]
      rfl
     ·rw [iter]
      rw [show qj s.b3 s.bQ cs (cs.length:Nat) n=some (.inr (.inr (n:Int))) by
       unfold qj
       exact dD (by omega) (bH (by omega) (aR (gt rfl R) (aR b5 (kk rfl rfl))))]
      rfl
  exact acK cs.length 0 (by omega)
 exact key
theorem W6 (s:cR)(i0:kH s)(cs:List (List Int))(bf:cs.length≤6)(aV:∀l∈cs,l.length≤maxLen)(h:k3 s=some true)(aS:∀l∈cs,nY s.b3.length l=true)(bV:sH s cs=some true):
 ∃r:Int,y9 s cs=some r∧yY s cs=some r:=by
 obtain ⟨r,r1,b5⟩:=X1 s i0 cs bf aV h aS
 unfold y9 yY
 rw [e6]
 cases r with
 | inl a=>exact ⟨-1,aR bV (gv rfl (aR r1 rfl)),aR b5 rfl⟩
 | inr a=>exact ⟨a,aR bV (gv rfl (aR r1 rfl)),aR b5 rfl⟩
theorem W7 (s:cR)(i0:kH s)(cs:List (List Int))(bf:cs.length≤1048576)(aV:∀l∈cs,l.length≤maxLen): ∃r,zi s cs=some r∧zk s cs=some r:=by
 unfold zi zk
 rcases YZ s i0 cs bf aV with ⟨e1,aC,h,bw,q2,aS⟩|⟨e1,aC⟩
 ·obtain ⟨r,r1,b5⟩:=W6 s i0 cs q2 aV h aS e1
  exact ⟨decide (r<0),aR e1 (gv rfl (aR r1 rfl)),aR aC (gv rfl (aR b5 rfl))⟩
 ·exact ⟨false,aR e1 (kk rfl rfl),aR aC (kk rfl rfl)⟩
theorem TB (x0:cR)(x1:List (List Int))(i0:kH x0)(i1:(fun l=>l.length≤maxLen∧ ∀x∈l,(fun l=>l.length≤maxLen∧ ∀x∈l,oH x) x) x1):CA x0 x1=some true:=by
 unfold CA
 obtain ⟨r,r1,b5⟩:=WJ x0 i0 1048576 (by omega) (by omega)
 have ar:=Xn x0 i0 1048576 (by omega) (by omega) r r1
 refine aR r1 ?_
 by_cases o:r<0
 ·exact dD o rfl
 obtain ⟨gg,hj⟩:=b5 (by omega)
 obtain ⟨t,t1,-,t2⟩:=XZ x1 i1.1 (fun x R=>(i1.2 x R).1) r (by omega) ar
 refine dU o (aR t1 ?_)
 by_cases ae:t<0
 ·exact dD ae rfl
 obtain ⟨im,jN⟩:=t2 (by omega)
 obtain ⟨q,q1,aY⟩:=W7 x0 i0 x1 im (fun x R=>(i1.2 x R).1)
 refine dU ae (aR (WK x0 gg hj) (aR (X0 x1 im jN) (bH (abF x1 jN) ?_)))
 simp only [abD]
 exact aR q1 (aR aY (gv (by simp) (aR (WI x0 gg hj) (gv rfl (aR (XY x1 im jN) (gv rfl rfl))))))
end Go.Proofs.YtamedijmgkdlgacGreat
