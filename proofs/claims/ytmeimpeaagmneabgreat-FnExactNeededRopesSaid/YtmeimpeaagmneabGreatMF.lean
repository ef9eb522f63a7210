/- Lemmas, plain functions of the program, and what they answer. No condition. -/
import Derived.Test.YtmeimpeaagmneabGreatME
namespace Go.Proofs.YtmeimpeaagmneabGreat
set_option linter.unusedVariables false
set_option linter.unusedSimpArgs false
open Go Go.VL
theorem Qt {p:hN}{m n:Nat}{a:Nat→Nat→Int}{b:Nat→Int}(h:mw p m n a b){i:Nat}(ah:i<m)(a7:List (List aR))(bZ:List bF)(cC:List Int)(bb:a7[i]? = some (bd (n+m+1) fun j=>c1 (dH m n a b i j))):
 Aa (i:Int) i (n+m+1) (((n+m+1:Nat):Nat):Int) p.fz p.eh p.dt p.dM p.hZ ((n+m:Nat):Int) a7 bZ cC 0 (bd (n+m+1) fun j=>c1 (hp m n a b i j))=some (bd (n+m+1) fun j=>c1 (hp m n a b (i+1) j)):=by
 have hm:=h.hm
 have a5:=h.a5
 have agJ : ∀j,gw (dH m n a b i j):=fun j=>Lo (Mm h ah j) (by omega)
 have f1 : ∀j,gw (hp m n a b i j):=fun j=>Lo (SO h (by omega) j) (by omega)
 have f2 : ∀j,gw (hp m n a b (i+1) j):=fun j=>Lo (SO h (by omega) j) (by omega)
 have es : ∀j,(j<n∨j=n+m)→hp m n a b i j+dH m n a b i j=hp m n a b (i+1) j:=fun j aE=>by
  unfold hp;rw [if_pos aE,if_pos aE,cS]
 have agK : ∀j,¬(j<n∨j=n+m)→hp m n a b i j=hp m n a b (i+1) j:=fun j aE=>by
  unfold hp;rw [if_neg aE,if_neg aE]
 obtain ⟨s,e,-⟩:=ik (f:=fun w:Int×List aR=>xm (i:Int) i (n+m+1) (((n+m+1:Nat):Nat):Int) p.fz p.eh p.dt p.dM p.hZ ((n+m:Nat):Int) a7 bZ cC w.1 w.2)
  (fun (k:Nat) (_:Unit)=>((k:Int),bd (n+m+1) fun j=>c1 (if j<k then hp m n a b (i+1) j else hp m n a b i j))) (n+m+1) (fun _ _=>True) (fun _=>bd (n+m+1) fun j=>c1 (hp m n a b (i+1) j))
  (fun k ba _ _=>by
    refine ⟨(),?_,trivial⟩
    have fin : ∀r,r=hp m n a b (i+1) k→(R ((k:Int)+1),(bd (n+m+1) fun j=>c1 (if j<k then hp m n a b (i+1) j else hp m n a b i j)).set (0+((k:Int)).toNat) (c1 r))=(((k+1:Nat):Int),bd (n+m+1) fun j=>c1 (if j<k+1 then hp m n a b (i+1) j else hp m n a b i j)):=by
     intro r ap
     rw [fA (by omega),Int.toNat_natCast,Nat.zero_add,lo]
     congr 1
     refine fj fun j _=> ?_
     by_cases c:j=k
     ·subst c;rw [if_pos rfl,if_pos (by omega),ap]
     ·rw [if_neg c]
      by_cases ck:j<k
      ·rw [if_pos ck,if_pos (by omega)]
      ·rw [if_neg ck,if_neg (by omega)]
    have Ux : ∀ {x:Option ((Int×List aR)⊕List aR)},(k<n∨k=n+m)→(∀r,(R ((k:Int)+1),(bd (n+m+1) fun j=>c1 (if j<k then hp m n a b (i+1) j else hp m n a b i j)).set (0+((k:Int)).toNat) (c1 r))=(((k+1:Nat):Int),bd (n+m+1) fun j=>c1 (if j<k+1 then hp m n a b (i+1) j else hp m n a b i j))→some (Sum.inl (R ((k:Int)+1),(bd (n+m+1) fun j=>c1 (if j<k then hp m n a b (i+1) j else hp m n a b i j)).set (0+((k:Int)).toNat) (c1 r)))=x) →
     (if 0≤(k:Int)∧(k:Int)<(((bd (n+m+1) fun j=>c1 (if j<k then hp m n a b (i+1) j else hp m n a b i j)).length:Nat):Int) then
       (bd (n+m+1) fun j=>c1 (if j<k then hp m n a b (i+1) j else hp m n a b i j))[(0+((k:Int)).toNat)]? >>= fun fE =>
       a7[i]? >>= fun nk =>
       if 0≤(k:Int)∧(k:Int)<((n+m+1:Nat):Int) then
       nk[(0+((k:Int)).toNat)]? >>= fun dj =>
       rL fE dj >>= fun dp =>
       if (0+((k:Int)).toNat)<(bd (n+m+1) fun j=>c1 (if j<k then hp m n a b (i+1) j else hp m n a b i j)).length then
       some (.inl (R ((k:Int)+(1:Int)),(bd (n+m+1) fun j=>c1 (if j<k then hp m n a b (i+1) j else hp m n a b i j)).set (0+((k:Int)).toNat) dp))
       else none
       else none
       else none)=x:=by
     intro x FR U
     refine bI (by rw [c6];omega) (aP (x:=c1 (hp m n a b i k)) (by rw [Int.toNat_natCast,iA ba,if_neg (by omega)]) (aP bb (bI (by omega) (aP (x:=c1 (dH m n a b i k)) (by rw [Int.toNat_natCast];exact iA ba) (aP (Ma (f1 k) (agJ k) (by rw [es k FR];exact f2 k)) (bI (by rw [c6,Int.toNat_natCast];omega) ?_))))))
     exact U _ (fin _ (es k FR))
    unfold xm
    refine dG (by simp only;omega) (oI (fun c=> ?_) (fun c=> ?_))
    ·have NC:k<n:=by have:=of_decide_eq_true c;rw [h.gE] at this;simp only at this;omega
     exact Ux (.inl NC) fun r ap=>by rw [ap]
    ·have NC : ¬k<n:=by have:=of_decide_eq_false c;rw [h.gE] at this;simp only at this;omega
     refine oI (fun ck=> ?_) (fun ck=> ?_)
     ·have T5:k=n+m:=by simp at ck;omega
      exact Ux (.inr T5) fun r ap=>by rw [ap]
     ·have T5:k≠n+m:=by simp at ck;omega
      simp only
      rw [fA (by omega)]
      congr 3
      refine fj fun j _=> ?_
      by_cases jJ:j=k
      ·subst jJ;rw [if_neg (by omega),if_pos (by omega),agK j (by omega)]
      ·by_cases qb:j<k
       ·rw [if_pos qb,if_pos (by omega)]
       ·rw [if_neg qb,if_neg (by omega)])
  (fun _ _=>by
    unfold xm
    refine d4 (by simp) ?_
    simp only
    congr 2
    exact fj fun j aE=>by rw [if_pos aE]) () trivial
 unfold Aa
 have bP:(bd (n+m+1) fun j=>c1 (if j<0 then hp m n a b (i+1) j else hp m n a b i j))=bd (n+m+1) fun j=>c1 (hp m n a b i j):=fj fun j _=>by rw [if_neg (by omega)]
 rw [bP] at e
 exact e
theorem vG {K:Nat}{d x y:Rat}(bK:eE K d)(aZ:eE K y)(h0:d≠0)(e:d*x=y)(hY:(K:Int)<B 24):gw x:=by
 obtain ⟨z,rfl,cF⟩:=bK
 obtain ⟨w,rfl,hw⟩:=aZ
 exact Rp (n:=w) (d:=z) (fun c=>h0 (by rw [c];rfl)) e (by omega) (by omega)
@[irreducible] def fS:Nat:=qL 100 20
theorem BZ:qL 100 20=fS:=by unfold fS;rfl
theorem adZ:((21*100*(fS*fS):Nat):Int)<B 24:=by decide +kernel
theorem qv:0<fS:=by decide +kernel
structure k2 (m N:Nat) (A:Nat→Nat→Rat) (t:cr):Prop where
 ok:gl m m N A t
 lH:t.ld m N
 rE:t.D m A≠0
structure Small (m N:Nat) (A:Nat→Nat→Rat):Prop where
 hm:m≤20
 ur : ∀c,c<m→ ∀j,j≤N→eE 100 (A c j)
theorem k2.Da {m N:Nat}{A:Nat→Nat→Rat}(s:Small m N A){t:cr}(h:k2 m N A t):eE fS (t.D m A):=by
 refine eE.mono (y1 fun i ah c bj=>s.ur c bj _ (Nat.le_of_lt (h.ok.kb i ah))) (BZ▸yJ (by omega) s.hm)
theorem k2.uf {m N:Nat}{A:Nat→Nat→Rat}(s:Small m N A){t:cr}(h:k2 m N A t){i j:Nat}(ah:i<m)(aE:j≤N):eE fS (t.T i j*t.D m A):=by
 rw [← h.ok.wF ah aE]
 refine eE.mono (y1 fun k ba c bj=> ?_) (BZ▸yJ (by omega) s.hm)
 simp only [gq]
 split
 ·exact s.ur c bj j aE
 ·exact s.ur c bj _ (Nat.le_of_lt (h.ok.kb k ba))
theorem vH {k:Nat}(h:k≤21*100*(fS*fS)):((k:Nat):Int)<B 24:=by have:=adZ;omega
theorem MK:fS≤21*100*(fS*fS):=by
 have h1:fS*1≤fS*fS:=Nat.mul_le_mul_left _ qv
 omega
theorem k2.Ta {m N:Nat}{A:Nat→Nat→Rat}(s:Small m N A){t:cr}(h:k2 m N A t){i j:Nat}(ah:i<m)(aE:j≤N):gw (t.T i j) :=
 vG (h.Da s) (h.uf s ah aE) h.rE (by grind) (vH MK)
theorem k2.ae1 {m N:Nat}{A:Nat→Nat→Rat}(s:Small m N A){t:cr}(h:k2 m N A t){i j:Nat}(ah:i<m)(aE:j≤N)(ak:0<t.T i j):gw (t.T i N / t.T i j) :=
 vG (h.uf s ah aE) (h.uf s ah (Nat.le_refl _)) (fun c=>by
  have h1:=h.rE
  have:t.T i j≠0:=by grind
  grind) (by grind) (vH MK)
theorem k2.T6 {m N:Nat}{A:Nat→Nat→Rat}(s:Small m N A){t:cr}(h:k2 m N A t){I:Nat→Rat}(aq:∀j,j≤N→eE 100 (I j)){j:Nat}(aE:j≤N):eE (21*100*fS) (t.c7 m I j*t.D m A):=by
 have hm:=s.hm
 unfold cr.c7
 have e:(I j-cS m (fun i=>I (t.B i)*t.T i j))*t.D m A=I j*t.D m A-cS m (fun i=>I (t.B i)*(t.T i j*t.D m A)):=by
  rw [gH (f:=fun i=>I (t.B i)*(t.T i j*t.D m A)) (g:=fun i=>(I (t.B i)*t.T i j)*t.D m A) (fun i _=>by grind),Bb];grind
 rw [e]
 refine eE.mono (((aq j aE).mul (h.Da s)).sub (eE.sum fun i ah=>(aq _ (Nat.le_of_lt (h.ok.kb i ah))).mul (h.uf s ah aE))) ?_
 have:m*(100*fS)≤20*(100*fS):=Nat.mul_le_mul_right _ hm
 omega
theorem Tb:21*100*fS≤21*100*(fS*fS):=by
 have h1:fS*1≤fS*fS:=Nat.mul_le_mul_left _ qv
 omega
theorem k2.ML {m N:Nat}{A:Nat→Nat→Rat}(s:Small m N A){t:cr}(h:k2 m N A t){I:Nat→Rat}(aq:∀j,j≤N→eE 100 (I j)){j:Nat}(aE:j≤N):gw (t.c7 m I j) :=
 vG ((h.Da s).mono (Nat.le_trans (by omega:fS≤21*100*fS) (Nat.le_refl _))) (h.T6 s aq aE) h.rE (by grind) (vH Tb)
theorem k2.gL {m N K:Nat}{A obj:Nat→Nat→Rat}{b8:Nat→Prop}{t:cr}(h:k2 m N A t){r k:Nat}(b:ot m N K obj b8 t r k):k2 m N A (t.cq r k) :=
 ⟨b.ok h.ok,b.Ck h.lH,by
  rw [h.ok.vE b.ap b.b6]
  have h1:=b.pos
  have o:=h.rE
  intro c
  have:t.T r k≠0:=by grind
  grind⟩
theorem k2.ae2 {m N:Nat}{A:Nat→Nat→Rat}(s:Small m N A){t:cr}(h:k2 m N A t){I:Nat→Rat}(aq:∀j,j≤N→eE 100 (I j)){r k:Nat}(ap:r<m)(ba:k<N)(ak:t.T r k≠0)(cP:gl m m N A (t.cq r k)):MI m N t (t.c7 m I) r k:=by
 have bK:=h.rE
 have qC:(t.cq r k).D m A≠0:=by rw [h.ok.vE ap ba];grind
 have ey:(t.cq r k).D m A=t.T r k*t.D m A:=h.ok.vE ap ba
 have pE:eE fS ((t.cq r k).D m A):=eE.mono (y1 fun i ah c bj=>s.ur c bj _ (Nat.le_of_lt (cP.kb i ah))) (BZ▸yJ (by omega) s.hm)
 have wx : ∀i,i<m→ ∀j,j≤N→eE fS ((t.cq r k).T i j*(t.cq r k).D m A):=fun i ah j aE=>by
  rw [← cP.wF ah aE]
  refine eE.mono (y1 fun k ba c bj=> ?_) (BZ▸yJ (by omega) s.hm)
  simp only [gq]
  split
  ·exact s.ur c bj j aE
  ·exact s.ur c bj _ (Nat.le_of_lt (cP.kb k ba))
 have wL:eE (21*100*(fS*fS)) (t.D m A*(t.cq r k).D m A):=((h.Da s).mul pE).mono (by omega)
 have T7:t.D m A*(t.cq r k).D m A≠0:=by grind
 refine ⟨fun i ah j aE=>h.Ta s ah aE,fun i ah j aE=>vG pE (wx i ah j aE) qC (by grind) (vH MK),fun i ah _ j aE=> ?_,fun j aE=>h.ML s aq aE,fun j aE=> ?_,fun j aE=> ?_⟩
 ·refine vG wL (((h.uf s ah (Nat.le_of_lt ba)).mul (h.uf s ap aE)).neg.mono (by omega)) T7 ?_ (vH (Nat.le_refl _))
  rw [ey];grind
 ·rw [← h.ok.LC I ap ba ak]
  have g2:eE (21*100*fS) ((t.cq r k).c7 m I j*(t.cq r k).D m A):=by
   have hm:=s.hm
   unfold cr.c7
   have e:(I j-cS m (fun i=>I ((t.cq r k).B i)*(t.cq r k).T i j))*(t.cq r k).D m A=I j*(t.cq r k).D m A-cS m (fun i=>I ((t.cq r k).B i)*((t.cq r k).T i j*(t.cq r k).D m A)):=by
    rw [gH (f:=fun i=>I ((t.cq r k).B i)*((t.cq r k).T i j*(t.cq r k).D m A)) (g:=fun i=>(I ((t.cq r k).B i)*(t.cq r k).T i j)*(t.cq r k).D m A) (fun i _=>by grind),Bb];grind
   rw [e]
   refine eE.mono (((aq j aE).mul pE).sub (eE.sum fun i ah=>(aq _ (Nat.le_of_lt (cP.kb i ah))).mul (wx i ah j aE))) ?_
   have:m*(100*fS)≤20*(100*fS):=Nat.mul_le_mul_right _ hm
   omega
  exact vG (pE.mono (by omega)) g2 qC (by grind) (vH Tb)
 ·refine vG wL (((h.T6 s aq (Nat.le_of_lt ba)).mul (h.uf s ap aE)).neg.mono (by
   rw [Nat.mul_assoc];exact Nat.le_refl _)) T7 ?_ (vH (Nat.le_refl _))
  rw [ey];grind
theorem acR {p:hN}{m n:Nat}{a:Nat→Nat→Int}{b:Nat→Int}(h:mw p m n a b):
 Aj p=some (((n+m:Nat):Int),m4 m (n+m),dK m (iE m n a b),ls (n+m) ((iE m n a b).c7 m (gS m n)),ja m (n+m) (iE m n a b)):=by
 have hm:=h.hm
 have a5:=h.a5
 have f5:R (p.eh+p.fz)=((n+m:Nat):Int):=by rw [h.gE,h.rows,← Int.natCast_add,cw (by omega) (by omega)]
 unfold Aj
 rw [f5]
 obtain ⟨s1,e1,-⟩:=ik (f:=fun w:Int×List aR=>xj p.fz p.eh p.dt p.dM p.hZ ((n+m:Nat):Int) w.1 w.2)
  (fun (k:Nat) (_:Unit)=>((k:Int),bd k fun j=>c1 (0:Rat))) (n+m+1) (fun _ _=>True) (fun _=>bd (n+m+1) fun j=>c1 (0:Rat))
  (fun k ba _ _=>by
    refine ⟨(),?_,trivial⟩
    unfold xj
    refine dG (by simp only;omega) (aP (x:=c1 (0:Rat)) (sC (n:=0) (by rw [mU];omega)) (bI (by simp only [List.length_append,c6,List.length_cons,List.length_nil];omega) ?_))
    simp only;rw [fA (by omega),ln])
  (fun _ _=>by unfold xj;exact d4 (by simp only;omega) rfl) () trivial
 refine aP (x:=bd (n+m+1) fun j=>c1 (0:Rat)) (by unfold JD;exact e1) ?_
 obtain ⟨s2,aD,-⟩:=ik (f:=fun w:Int×(List bF)×(List (List aR))×(List Int)×(List aR)=>xc p.fz p.eh p.dt p.dM p.hZ ((n+m:Nat):Int) w.1 w.2.1 w.2.2.1 w.2.2.2.1 w.2.2.2.2)
  (fun (i:Nat) (_:Unit)=>((i:Int),bd i (fun k=>some (k,n+m+1)),bd i (ht (n+m) (iE m n a b)),bd i (fun k=>((n+k:Nat):Int)),bd (n+m+1) fun j=>c1 (hp m n a b i j))) m (fun _ _=>True)
  (fun _=>(m4 m (n+m),ja m (n+m) (iE m n a b),dK m (iE m n a b),bd (n+m+1) fun j=>c1 (hp m n a b m j)))
  (fun i ah _ _=>by
    refine ⟨(),?_,trivial⟩
    have aT:=h.wJ i ah
    have hlen:((bd (n+m) fun j=>c1 (dH m n a b i j))++[c1 (dH m n a b i (n+m))])=ht (n+m) (iE m n a b) i:=(ln ..).symm
    have r8:(ht (n+m) (iE m n a b) i).length=n+m+1:=c6 ..
    have hw:R (p.eh+(i:Int))=((n+i:Nat):Int):=by rw [h.gE,← Int.natCast_add,cw (by omega) (by omega)]
    have dF:(bd i (ht (n+m) (iE m n a b))++[ht (n+m) (iE m n a b) i])[i]? = some (ht (n+m) (iE m n a b) i):=by rw [← ln];exact gn (by omega)
    have T8:(bd i (ht (n+m) (iE m n a b))).length=i:=c6 ..
    have qa:kz m n a b i (n+m)=kp (b i)*b i:=by unfold kz;rw [if_neg (by omega),if_pos rfl]
    have fin:(some (Sum.inl (R ((i:Int)+1),(bd i (fun k=>(some (k,n+m+1):bF)))++[some (i,n+m+1)],bd i (ht (n+m) (iE m n a b))++[ht (n+m) (iE m n a b) i],(bd i fun k=>((n+k:Nat):Int))++[((n+i:Nat):Int)],bd (n+m+1) fun j=>c1 (hp m n a b (i+1) j))):Option ((Int×(List bF)×(List (List aR))×(List Int)×(List aR))⊕((List bF)×(List (List aR))×(List Int)×(List aR)))) =
     some (Sum.inl (((i+1:Nat):Int),bd (i+1) (fun k=>some (k,n+m+1)),bd (i+1) (ht (n+m) (iE m n a b)),bd (i+1) (fun k=>((n+k:Nat):Int)),bd (n+m+1) fun j=>c1 (hp m n a b (i+1) j))):=by
     rw [fA (by omega),ln i (fun k=>(some (k,n+m+1):bF)),ln i (ht (n+m) (iE m n a b)),ln i (fun k=>((n+k:Nat):Int))]
    unfold xc
    refine dG (by simp only;rw [h.rows];omega) (bI (by simp only;rw [h.wK];omega) (aP (x:=b i) (by simp only;rw [Int.toNat_natCast];exact h.zg i ah) (oI (fun c=> ?_) (fun c=> ?_))))
    ·have ny:b i<0:=of_decide_eq_true c
     have b6:kp (b i) = -1:=by unfold kp;rw [if_pos ny]
     refine aP (Mb h ah) ?_
     have ap:=ZP h ah ny ((n+m:Nat):Int) (bd i (fun k=>some (k,n+m+1))) (bd i (ht (n+m) (iE m n a b))) (bd i (fun k=>((n+k:Nat):Int))) (bd (n+m+1) fun j=>c1 (hp m n a b i j))
     rw [Option.bind_eq_bind,Option.bind_eq_some_iff] at ap
     obtain ⟨de,ie,wm⟩:=ap
     refine aP ie (aP wm (aP (x:=c1 (dH m n a b i (n+m))) (by
      have e:R ((-1:Int)*b i)=kz m n a b i (n+m):=by rw [qa,b6,cw (by omega) (by omega)]
      rw [e];exact sC (by have:=sM h ah (n+m);rw [mU];omega)) ?_))
     simp only
     rw [hlen,T8,r8,hw]
     refine bI (by omega) (aP dF (aP (Qt h ah _ _ _ dF) (bI (by simp only [List.length_append,c6,List.length_cons,List.length_nil];omega) (bI (by simp only [List.length_append,c6,List.length_cons,List.length_nil];omega) fin))))
    ·have ny : ¬b i<0:=of_decide_eq_false c
     have b6:kp (b i)=1:=by unfold kp;rw [if_neg ny]
     refine aP (Mb h ah) ?_
     have ap:=ZQ h ah ny ((n+m:Nat):Int) (bd i (fun k=>some (k,n+m+1))) (bd i (ht (n+m) (iE m n a b))) (bd i (fun k=>((n+k:Nat):Int))) (bd (n+m+1) fun j=>c1 (hp m n a b i j))
     rw [Option.bind_eq_bind,Option.bind_eq_some_iff] at ap
     obtain ⟨de,ie,wm⟩:=ap
     refine aP ie (aP wm (aP (x:=c1 (dH m n a b i (n+m))) (by
      have e:R ((1:Int)*b i)=kz m n a b i (n+m):=by rw [qa,b6,cw (by omega) (by omega)]
      rw [e];exact sC (by have:=sM h ah (n+m);rw [mU];omega)) ?_))
     simp only
     rw [hlen,T8,r8,hw]
     refine bI (by omega) (aP dF (aP (Qt h ah _ _ _ dF) (bI (by simp only [List.length_append,c6,List.length_cons,List.length_nil];omega) (bI (by simp only [List.length_append,c6,List.length_cons,List.length_nil];omega) fin)))))
  (fun _ _=>by unfold xc;exact d4 (by simp only;rw [h.rows];omega) rfl) () trivial
 have e0:(bd (n+m+1) fun j=>c1 (hp m n a b 0 j))=bd (n+m+1) fun j=>c1 (0:Rat):=fj fun j _=>by
  unfold hp;split<;>rfl
 rw [e0] at aD
 refine aP (x:=(m4 m (n+m),ja m (n+m) (iE m n a b),dK m (iE m n a b),bd (n+m+1) fun j=>c1 (hp m n a b m j))) (by unfold I9;exact aD) ?_
 congr 1
 refine Prod.ext rfl (Prod.ext rfl (Prod.ext rfl (Prod.ext ?_ rfl)))
 refine fj fun j aE=> ?_
 rw [abw]
 unfold hp gS
 by_cases c:j<n∨j=n+m
 ·rw [if_pos c,if_neg (by omega)];congr 1;grind
 ·rw [if_neg c,if_pos (by omega)]
  obtain ⟨k,rfl⟩ : ∃k,j=n+k:=⟨j-n,by omega⟩
  rw [k7 (k:=k) (by omega) (fun i _ c8=>by rw [sA (by omega),if_neg (Ne.symm c8)]),sA (by omega),if_pos rfl,show (-1:Rat)+1=0 by grind]
theorem LH (l:List Int)(aU:l.length≤1000)(h:∀x∈l,-100≤x∧x≤100):ve l=some true:=by
 unfold ve KN
 rw [fT]
 obtain ⟨s,e,-⟩:=ik (f:=fun w:Int=>x4 l (l.length:Nat) w) (fun (i:Nat) (_:Unit)=>(i:Int)) l.length (fun _ _=>True) (fun _=>(Sum.inl ():Unit⊕Unit))
  (fun i ah _ _=>by
    refine ⟨(),?_,trivial⟩
    have U:=h l[i] (List.getElem_mem ah)
    unfold x4
    refine dG (by omega) (bI (by omega) (aP (x:=l[i]) (by rw [Int.toNat_natCast];exact List.getElem?_eq_getElem ah) (aP (qX _ _ _) (fP (decide_eq_true (by omega)) ?_))))
    rw [fA (by omega)])
  (fun _ _=>by unfold x4;exact d4 (by omega) rfl) () trivial
 exact aP e rfl
theorem Z9 {p:hN}{m n:Nat}{a:Nat→Nat→Int}{b:Nat→Int}(h:mw p m n a b)(Gi:p.hZ.length=n)(Dr:∀x∈p.hZ,-100≤x∧x≤100):Aq p=some true:=by
 have hm:=h.hm
 have a5:=h.a5
 have F0:m*n≤20*40:=Nat.mul_le_mul hm a5
 have hA : ∀x∈p.dt,-100≤x∧x≤100:=fun x U=>by
  obtain ⟨k,ba,rfl⟩:=List.getElem_of_mem U
  rw [h.gG] at ba
  have Cv:0<n:=by
   rcases Nat.eq_zero_or_pos n with c|c
   ·rw [c] at ba;omega
   ·exact c
  have h1:k / n<m:=Nat.div_lt_of_lt_mul (by rw [Nat.mul_comm];exact ba)
  have o:k % n<n:=Nat.mod_lt _ Cv
  have af:=h.MJ (k / n) h1 (k % n) o
  have av:k / n*n+k % n=k:=by rw [Nat.mul_comm];exact Nat.div_add_mod k n
  rw [av,List.getElem?_eq_getElem (by rw [h.gG];exact ba)] at af
  rw [Option.some.inj af]
  exact h.tk _ h1 _ o
 have gU : ∀x∈p.dM,-100≤x∧x≤100:=fun x U=>by
  obtain ⟨k,ba,rfl⟩:=List.getElem_of_mem U
  have af:=h.zg k (by rw [← h.wK];exact ba)
  rw [List.getElem?_eq_getElem ba] at af
  rw [Option.some.inj af]
  exact h.wJ _ (by rw [← h.wK];exact ba)
 unfold Aq
 rw [h.rows,h.gE]
 refine aP (qX _ _ _) (fP (decide_eq_true (by omega)) (aP (qX _ _ _) (fP (decide_eq_true (by omega)) ?_)))
 refine fP (sZ (by rw [fT,h.gG,← Int.natCast_mul,cw (by omega) (by omega)])) (fP (sZ (by rw [fT,h.wK])) (fP (sZ (by rw [fT,Gi])) ?_))
 exact aP (LH _ (by rw [h.gG];omega) hA) (fP rfl (aP (LH _ (by rw [h.wK];omega) gU) (fP rfl (aP (LH _ (by rw [Gi];omega) Dr) rfl))))
theorem LR (m n j:Nat):eE 100 (gS m n j):=by
 unfold gS;split
 ·exact ⟨-1,rfl,by omega⟩
 ·exact ⟨0,rfl,by omega⟩
theorem Fw {g:Nat→Rat}:hO 1 g↔0<g 0:=by
 constructor
 ·rintro ⟨l,h1,o,-⟩;rw [show l=0 by omega] at o;exact o
 ·intro h;exact ⟨0,by omega,h,fun fC aU=>by omega⟩
theorem Lp {p:hN}{m n:Nat}{a:Nat→Nat→Int}{b:Nat→Int}(h:mw p m n a b):Small m (n+m) (dH m n a b):=⟨h.hm,fun c bj j _=>Mm h bj j⟩
theorem abZ {p:hN}{m n:Nat}{a:Nat→Nat→Int}{b:Nat→Int}(h:mw p m n a b):
 ∃t,yn false ((n+m:Nat):Int) (m4 m (n+m)) (dK m (iE m n a b)) (ls (n+m) ((iE m n a b).c7 m (gS m n))) (ja m (n+m) (iE m n a b))=some (true,dK m t,ls (n+m) (t.c7 m (gS m n)),ja m (n+m) t) ∧
  k2 m (n+m) (dH m n a b) t∧(t.c7 m (gS m n) (n+m)=0↔tQ m n a b):=by
 have hm:=h.hm
 have a5:=h.a5
 have qe:=Lp h
 obtain ⟨q,t,e,cI,ez⟩:=adY (gA:=m) (m:=m) (N:=n+m) (K:=1) (by omega) (by omega) (A:=dH m n a b) (obj:=fun _=>gS m n) false (k2 m (n+m) (dH m n a b)) (fun t cj=>⟨cj.ok,cj.lH⟩) (fun t r s cj b=>cj.gL b)
  (fun t cj j aE=>⟨j1 (t.c7 m (gS m n) j),ads (by omega) _ _ _ _ (by omega) (cj.ML qe (fun j _=>LR m n j) (by omega)),fun _=>by rw [q2];exact (Fw (g:=fun _=>t.c7 m (gS m n) j)).symm⟩)
  (fun t cj i ah j aE=>cj.Ta qe ah aE) (fun t cj i ah j aE ak=>cj.ae1 qe ah aE ak)
  (fun t cj r k ap ba ak=>cj.ae2 qe (fun j _=>LR m n j) ap ba ak (cj.ok.cq ap ba ak)) (iE m n a b) ⟨RP,QM,Re⟩
 rcases ez with ⟨rfl,ez⟩|⟨-,s,b6,dF,hU⟩
 ·refine ⟨t,e,cI,fun h0=>PZ cI.ok cI.lH (P0 cI.lH h0 cI.ok.kb),fun aga=>Qn cI.ok cI.lH (fun j aE=> ?_) aga⟩
  have:=ez j (by omega)
  have o : ¬0<t.c7 m (gS m n) j:=fun c=>this (Fw.2 c)
  grind
 ·obtain ⟨i,ah,ak⟩:=PI cI.ok b6 (Fw.1 dF)
  exact (hU i ah ak).elim
theorem ZA {p:hN}{m n:Nat}{a:Nat→Nat→Int}{b:Nat→Int}(h:mw p m n a b)(Gi:p.hZ.length=n)(Dr:∀x∈p.hZ,-100≤x∧x≤100): ∃r,uO p=some r∧(r=true↔tQ m n a b):=by
 have hm:=h.hm
 have a5:=h.a5
 obtain ⟨t,e,cI,b6⟩:=abZ h
 unfold uO
 refine ⟨_,aP (Z9 h Gi Dr) (fP rfl (aP (acR h) (aP e (bI (by simp only;unfold ls;rw [c6];omega) (aP (x:=c1 (t.c7 m (gS m n) (n+m))) (by simp only;rw [Int.toNat_natCast];exact iA (by omega)) (aP (qq (cI.ML (Lp h) (fun j _=>LR m n j) (Nat.le_refl _))) rfl)))))),?_⟩
 rw [← b6,beq_iff_eq,rS]
def ca (x:Rat):bx:=ho x.num
@[irreducible] def kK:Nat:=1000000000 ^ 40
theorem Tc:((kK:Nat):Int)+((kK:Nat):Int)<B 50:=by decide +kernel
theorem ad0 {K:Nat}{x:Rat}(h:eE K x):((x.num:Int):Rat)=x∧x.num.natAbs≤K:=by
 obtain ⟨z,rfl,cF⟩:=h
 rw [Rat.num_intCast];exact ⟨rfl,cF⟩
theorem oV (z:Int):ca (z:Rat)=ho z:=by unfold ca;rw [Rat.num_intCast]
theorem y3 {x:Rat}(h:eE kK x):(L x.num.natAbs).length≤50:=by
 have:=Tc
 have h1:=(ad0 h).2
 exact (jo (by omega)).2 (by omega)
theorem yL {x y:Rat}(U:eE kK x)(aZ:eE kK y):pH (ca x) (ca y)=some (ca (x*y)):=by
 have h1:=y3 U
 have o:=y3 aZ
 obtain ⟨a,rfl,-⟩:=U;obtain ⟨b,rfl,-⟩:=aZ
 rw [Rat.num_intCast] at h1 o
 rw [oV,oV,← Rat.intCast_mul,oV]
 exact abN (by omega) (by omega)
theorem Rq {x y:Rat}(U:eE kK x)(aZ:eE kK y):uK (ca x) (ca y)=some (ca (x-y)):=by
 have gU:=Tc
 obtain ⟨a,rfl,bJ⟩:=U;obtain ⟨b,rfl,aT⟩:=aZ
 rw [oV,oV,← Rat.intCast_sub,oV]
 exact abU (by omega) (by omega)
theorem tG {x:Rat}(U:eE kK x):pn (ca x)=some (j1 x):=by
 obtain ⟨a,rfl,bJ⟩:=U
 rw [oV]
 unfold pn j1
 simp only [fT]
 have e:(((L a.natAbs).length:Nat):Int)=0↔a=0:=by rw [MH (by omega)];omega
 show (if (((L a.natAbs).length:Int) == 0)=true then some 0 else if decide (a<0)=true then some (-1) else some 1)=_
 by_cases h0:a=0
 ·rw [if_pos (by rw [beq_iff_eq,e];exact h0),if_pos (by rw [h0];rfl)]
 ·have agb:(a:Rat)≠0:=fun c=>h0 (Rat.intCast_inj.1 (by rw [c];rfl))
  rw [if_neg (by rw [beq_iff_eq,e];exact h0),if_neg agb]
  have aD:(a:Rat)<0↔a<0:=by
   rw [show (0:Rat)=((0:Int):Rat) from rfl,Rat.intCast_lt_intCast]
  by_cases h1:a<0
  ·rw [if_pos (decide_eq_true h1),if_pos (aD.2 h1)]
  ·rw [if_neg (by simpa using h1),if_neg (fun c=>h1 (aD.1 c))]
theorem aba {x y:Rat}(U:eE kK x)(aZ:eE kK y):sf (ca x) (ca y)=some (if x<y then -1 else if y<x then 1 else 0):=by
 have h1:=y3 U
 have o:=y3 aZ
 obtain ⟨a,rfl,-⟩:=U;obtain ⟨b,rfl,-⟩:=aZ
 rw [Rat.num_intCast] at h1 o
 rw [oV,oV,Yr (by omega) (by omega)]
 unfold lc
 simp only [Rat.intCast_lt_intCast]
theorem P2 {x:Rat}(U:eE kK x):se (ca x)=some (ca (-x)):=by
 obtain ⟨a,rfl,-⟩:=U
 rw [oV,← Rat.intCast_neg,oV]
 unfold se
 show (np (!(decide (a<0))) (L a.natAbs)).bind _=_
 rw [st (by omega),L9];rfl
theorem ss {n:Int}(h:o8 n):oK n=some (ca (n:Rat)):=by rw [oV];exact aa1 h
theorem abb {x y:Rat}(U:eE kK x)(aZ:eE kK y)(Na:eE kK (x*y))(h0:y≠0):tp (ca (x*y)) (ca y)=some (ca x):=by
 have h1:=y3 Na
 have o:=y3 aZ
 obtain ⟨a,rfl,-⟩:=U;obtain ⟨b,rfl,-⟩:=aZ
 rw [← Rat.intCast_mul] at h1 ⊢
 rw [Rat.num_intCast] at h1 o
 have aT:b≠0:=fun c=>h0 (by rw [c];rfl)
 rw [oV,oV,oV]
 unfold tp
 show (yC (L (a*b).natAbs) (L b.natAbs)).bind _=_
 rw [adk (jD _) (jD _) (fun c=>by have:=tN.1 c;omega) (by omega) (by omega),ex (by omega),ex (by omega)]
 have e1:((a*b).natAbs:Int) / (b.natAbs:Int)=(a.natAbs:Int):=by
  rw [Int.natAbs_mul,Int.natCast_mul];exact Int.mul_ediv_cancel _ (by omega)
 simp only [Option.bind_some]
 rw [e1]
 show (np (!(decide (a*b<0) == decide (b<0))) (L a.natAbs)).bind _=_
 rw [st (by omega)]
 simp only [Option.bind_some]
 congr 2
 rcases Int.lt_or_gt_of_ne aT with c|c
 ·by_cases bJ:a<0
  ·have : ¬a*b<0:=by have:=Int.mul_pos_of_neg_of_neg bJ c;omega
   rw [decide_eq_false this,decide_eq_true c];simp only [ep,show (!(false == true))=true from rfl,if_true];omega
  ·by_cases cF:a=0
   ·subst cF;simp [ep]
   ·have:a*b<0:=Int.mul_neg_of_pos_of_neg (by omega) c
    rw [decide_eq_true this,decide_eq_true c];simp only [ep,BEq.rfl,Bool.not_true,Bool.false_eq_true,if_false];omega
 ·by_cases bJ:a<0
  ·have:a*b<0:=Int.mul_neg_of_neg_of_pos bJ c
   rw [decide_eq_true this,decide_eq_false (by omega)];simp only [ep,show (!(true == false))=true from rfl,if_true];omega
  ·have : ¬a*b<0:=by have:=Int.mul_nonneg (show 0≤a by omega) (show 0≤b by omega);omega
   rw [decide_eq_false this,decide_eq_false (by omega)];simp only [ep,BEq.rfl,Bool.not_true,Bool.false_eq_true,if_false];omega
def hb (N:Nat)(w:Rat)(t:cr)(i:Nat):List bx:=bd (N+1) fun j=>ca (t.T i j*w)
structure px (m N:Nat) (w:Rat) (t:cr):Prop where
 pos:0<w
 hw:eE (21*100*fS) w
 iy : ∀i,i<m→ ∀j,j≤N→eE fS (t.T i j*w)
 gU : ∀i,i<m→t.B i<N
theorem B0:21*100*fS*(21*100*fS)+21*100*fS*(21*100*fS)≤kK:=by decide +kernel
theorem ae3 {q i:Nat}(bb:0<q)(ah:i≤20):21*100*q*100+i*(q*100)≤21*100*q*(21*100*q):=by
 have h1:i*(q*100)≤20*(q*100):=Nat.mul_le_mul_right _ ah
 have o:21*100*q*2100≤21*100*q*(21*100*q):=Nat.mul_le_mul_left _ (by omega)
 generalize 21*100*q*(21*100*q)=z at *
 omega
theorem ae4 {i:Nat}(ah:i≤20):21*100*fS*100+i*(fS*100)≤kK :=
 Nat.le_trans (ae3 qv ah) (Nat.le_trans (Nat.le_add_right _ _) B0)
theorem sR {K:Nat}(h:K≤21*100*fS):K≤kK:=by
 have agc:=B0
 have h1:21*100*fS*1≤21*100*fS*(21*100*fS):=Nat.mul_le_mul_left _ (by have:=qv;generalize fS=q at *;omega)
 rw [Nat.mul_one] at h1
 exact Nat.le_trans h (Nat.le_trans h1 (Nat.le_trans (Nat.le_add_right _ _) agc))
theorem RX {m N:Nat}(hm:m≤20)(f5:N<1000){w:Rat}{t:cr}(h:px m N w t)(I:Nat→Int)(aq:∀j,j<N→ -100≤I j∧I j≤100)(jg:bx)(zi:jg=ca w)(gE:Int)(free:List Bool){k:Nat}(ba:k<N):
 yb ⟨bd m (hb N w t),jg,dK m t,gE,free⟩ (bd N I) (k:Int)=some (j1 (t.c7 m (fun j=>(I j:Rat)) k)):=by
 subst zi
 have aiA:=qv
 have small : ∀ {x:Rat} {K:Nat},eE K x→K≤21*100*fS→eE kK x:=fun h1 o=>h1.mono (sR o)
 have an : ∀j,j<N→eE 100 ((I j:Int):Rat):=fun j aE=>⟨I j,rfl,by have:=aq j aE;omega⟩
 have T9 : ∀j,j<N→o8 (I j):=fun j aE=>by have:=aq j aE;rw [mU];omega
 let S:Nat→Rat:=fun i=>w*(I k:Rat)-cS i (fun i=>(t.T i k*w)*(I (t.B i):Rat))
 have Uy : ∀i,i≤m→eE kK (S i):=fun i ah=>by
  have e1:eE (21*100*fS*100) (w*(I k:Rat)):=h.hw.mul (an k ba)
  have aD:eE (i*(fS*100)) (cS i (fun i=>(t.T i k*w)*(I (t.B i):Rat))):=eE.sum fun eO jS=>(h.iy eO (by omega) k (by omega)).mul (an _ (h.gU eO (by omega)))
  exact (e1.sub aD).mono (ae4 (by omega))
 unfold yb
 refine bI (by rw [c6];omega) (aP (x:=I k) (by rw [Int.toNat_natCast];exact gn ba) (aP (ss (T9 k ba)) (aP (yL (small h.hw (Nat.le_refl _)) (small (an k ba) (by omega))) ?_)))
 obtain ⟨s,e,-⟩:=ik (f:=fun q:Int×Bool×List Int=>w9 (bd m (hb N w t)) (ca w).c0 (ca w).cN (dK m t) gE free (bd N I) (k:Int) ((m:Nat):Int) q.1 q.2.1 q.2.2)
  (fun (i:Nat) (_:Unit)=>((i:Int),(ca (S i)).c0,(ca (S i)).cN)) m (fun _ _=>True) (fun _=>((ca (S m)).c0,(ca (S m)).cN))
  (fun i ah _ _=>by
    refine ⟨(),?_,trivial⟩
    have Ga:=h.gU i ah
    have ND:S (i+1)=S i-(t.T i k*w)*(I (t.B i):Rat):=by simp only [S,cS];grind
    unfold w9
    refine dG (by simp only;omega) (bI (by unfold dK;rw [c6];simp only;omega) (aP (x:=((t.B i:Nat):Int)) (by simp only;rw [Int.toNat_natCast];exact gn ah) (bI (by rw [c6];omega) (aP (x:=I (t.B i)) (by rw [Int.toNat_natCast];exact gn Ga) (oI (fun c=> ?_) (fun c=> ?_))))))
    ·refine bI (by rw [c6];simp only;omega) (aP (x:=hb N w t i) (by simp only;rw [Int.toNat_natCast];exact gn ah) (bI (by unfold hb;rw [c6];omega) (aP (x:=ca (t.T i k*w)) (by rw [Int.toNat_natCast];exact gn (by omega)) (aP (tG (small (h.iy i ah k (by omega)) (by omega))) (oI (fun ck=> ?_) (fun ck=> ?_))))))
     ·refine aP (ss (T9 _ Ga)) (aP (yL (small (h.iy i ah k (by omega)) (by omega)) (small (an _ Ga) (by omega))) (aP (Rq (Uy i (by omega)) (by
       exact small ((h.iy i ah k (by omega)).mul (an _ Ga)) (by omega))) ?_))
      simp only;rw [fA (by omega),ND]
     ·have cF:t.T i k*w=0:=rS.1 (by simpa using ck)
      simp only;rw [fA (by omega),ND,cF,show S i-0*(I (t.B i):Rat)=S i by grind]
    ·have cF:I (t.B i)=0:=by simpa using c
     simp only;rw [fA (by omega),ND,cF,show S i-t.T i k*w*((0:Int):Rat)=S i by rw [show ((0:Int):Rat)=0 from rfl];grind])
  (fun _ _=>by unfold w9;exact d4 (by simp) rfl) () trivial
 have e0:S 0=w*(I k:Rat):=by simp only [S,cS];grind
 rw [e0] at e
 refine aP (x:=((ca (S m)).c0,(ca (S m)).cN)) (by unfold ID;rw [fT,show (dK m t).length=m from c6 ..];exact e) (aP (x:=j1 (S m)) (tG (Uy m (Nat.le_refl _))) ?_)
 congr 1
 have aD:S m=w*t.c7 m (fun j=>(I j:Rat)) k:=by
  simp only [S]
  unfold cr.c7
  rw [gH (f:=fun i=>t.T i k*w*(I (t.B i):Rat)) (g:=fun i=>w*((I (t.B i):Rat)*t.T i k)) (fun i _=>by grind),jW];grind
 rw [aD]
 have ak:=h.pos
 unfold j1
 by_cases c:t.c7 m (fun j=>(I j:Rat)) k=0
 ·rw [if_pos c,if_pos (by rw [c];grind)]
 ·rw [if_neg c,if_neg (by grind)]
  by_cases ck:t.c7 m (fun j=>(I j:Rat)) k<0
  ·rw [if_pos ck,if_pos]
   have:=Rat.mul_pos ak (show 0 < -(t.c7 m (fun j=>(I j:Rat)) k) by grind)
   grind
  ·rw [if_neg ck,if_neg]
   have:=Rat.mul_pos ak (show 0<t.c7 m (fun j=>(I j:Rat)) k by grind)
   grind
theorem Rr {x y z v w:Rat}(hw:0<w)(aZ:0<y)(bk:0<v):(x*w)*(v*w)<(z*w)*(y*w)↔x / y<z / v:=by
 have e1:(x*w)*(v*w)=(x / y)*((y*v)*(w*w)):=by grind
 have aD:(z*w)*(y*w)=(z / v)*((y*v)*(w*w)):=by grind
 have ak:0<(y*v)*(w*w):=Rat.mul_pos (Rat.mul_pos aZ bk) (Rat.mul_pos hw hw)
 rw [e1,aD]
 constructor
 ·intro h
  apply Classical.byContradiction
  intro c
  have:z / v≤x / y:=by grind
  have:=Rat.mul_le_mul_of_nonneg_right this (Rat.le_of_lt ak)
  grind
 ·intro h;exact Rat.mul_lt_mul_of_pos_right h ak
theorem yU {x w:Rat}(hw:0<w):j1 (x*w)=j1 x:=by
 unfold j1
 by_cases c:x=0
 ·rw [if_pos c,if_pos (by rw [c];grind)]
 ·rw [if_neg c,if_neg (by grind)]
  by_cases ck:x<0
  ·rw [if_pos ck,if_pos]
   have:=Rat.mul_pos (show 0 < -x by grind) hw
   grind
  ·rw [if_neg ck,if_neg]
   have:=Rat.mul_pos (show 0<x by grind) hw
   grind
theorem abc {m N:Nat}(hm:m≤20)(f5:N<1000){w:Rat}{t:cr}(h:px m N w t)(jg:bx)(free:List Bool){k:Nat}(ba:k≤N):
 ∃r,z5 ⟨bd m (hb N w t),jg,dK m t,(N:Int),free⟩ (k:Int)=some r∧E2 m N t k r:=by
 have hw:=h.pos
 have oc : ∀i,i<m→ ∀j,j≤N→eE kK (t.T i j*w):=fun i ah j aE=>(h.iy i ah j aE).mono (sR (by have:=qv;generalize fS=q at *;omega))
 have Ds : ∀i,i<m→ ∀j,j≤N→ ∀eO,eO<m→ ∀h5,h5≤N→eE kK (t.T i j*w*(t.T eO h5*w)):=fun i ah j aE eO jS h5 tZ=>((h.iy i ah j aE).mul (h.iy eO jS h5 tZ)).mono (by
  refine Nat.le_trans ?_ (Nat.le_trans (Nat.le_add_right _ _) B0)
  exact Nat.mul_le_mul (by generalize fS=q;omega) (by generalize fS=q;omega))
 unfold z5
 obtain ⟨r,e,ap⟩:=pK (f:=fun q:Int×Int=>wZ (bd m (hb N w t)) jg.c0 jg.cN (dK m t) (N:Int) free (k:Int) ((m:Nat):Int) q.1 q.2)
  (fun (i:Nat) (s:Int)=>(s,(i:Int))) m
  (fun n s=>(s = -1∧ ∀i,i<n→ ¬0<t.T i k)∨ ∃b:Nat,s=b∧b<n∧0<t.T b k∧ ∀i,i<n→0<t.T i k→t.T b N / t.T b k<t.T i N / t.T i k∨(t.T b N / t.T b k=t.T i N / t.T i k∧t.B b≤t.B i))
  (fun r=>E2 m N t k r)
  (fun n a5 s cI=>by
    left
    unfold wZ
    have g1:0≤((n:Nat):Int)∧((n:Nat):Int)<((bd m (hb N w t)).length:Nat):=by rw [c6];omega
    have g2:(bd m (hb N w t))[((n:Nat):Int).toNat]? = some (hb N w t n):=by rw [Int.toNat_natCast];exact gn a5
    have g3 : ∀b,0≤((k:Nat):Int)∧((k:Nat):Int)<((hb N w t b).length:Nat):=fun b=>by unfold hb;rw [c6];omega
    have g4 : ∀b,(hb N w t b)[((k:Nat):Int).toNat]? = some (ca (t.T b k*w)):=fun b=>by rw [Int.toNat_natCast];exact gn (by omega)
    have g5 : ∀b,0≤((N:Nat):Int)∧((N:Nat):Int)<((hb N w t b).length:Nat):=fun b=>by unfold hb;rw [c6];omega
    have g6 : ∀b,(hb N w t b)[((N:Nat):Int).toNat]? = some (ca (t.T b N*w)):=fun b=>by rw [Int.toNat_natCast];exact gn (by omega)
    have jV:R ((n:Int)+1)=((n+1:Nat):Int):=fA (by omega)
    have p2:pn (ca (t.T n k*w))=some (j1 (t.T n k)):=by rw [tG (oc n a5 k ba),yU hw]
    by_cases ak:0<t.T n k
    ·have b6 : ¬j1 (t.T n k)≤0:=by have:=q2.2 ak;omega
     rcases cI with ⟨h1,o⟩|⟨b,h1,aT,jT,af⟩
     ·refine ⟨(n:Int),dG (by simp only;omega) (bI g1 (aP g2 (bI (g3 n) (aP (g4 n) (aP p2 (d4 b6 (dG (by simp only;omega) ?_))))))),.inr ⟨n,rfl,by omega,ak,fun i ah iI=> ?_⟩⟩
      ·simp only;rw [jV]
      ·by_cases c:i=n
       ·subst c;exact .inr ⟨rfl,Nat.le_refl _⟩
       ·exact (o i (by omega) iI).elim
     ·subst h1
      have F7:0≤((b:Nat):Int)∧((b:Nat):Int)<((bd m (hb N w t)).length:Nat):=by rw [c6];omega
      have F8:(bd m (hb N w t))[((b:Nat):Int).toNat]? = some (hb N w t b):=by rw [Int.toNat_natCast];exact gn (by omega)
      have gc:sf (ca (t.T n N*w*(t.T b k*w))) (ca (t.T b N*w*(t.T n k*w)))=some (if t.T n N / t.T n k<t.T b N / t.T b k then -1 else if t.T b N / t.T b k<t.T n N / t.T n k then 1 else 0):=by
       rw [aba (Ds n a5 N (by omega) b (by omega) k ba) (Ds b (by omega) N (by omega) n a5 k ba)]
       have r1:=Rr (x:=t.T n N) (y:=t.T n k) (z:=t.T b N) (v:=t.T b k) hw ak jT
       have bV:=Rr (x:=t.T b N) (y:=t.T b k) (z:=t.T n N) (v:=t.T n k) hw jT ak
       by_cases bp:t.T n N / t.T n k<t.T b N / t.T b k
       ·rw [if_pos bp,if_pos (r1.2 bp)]
       ·rw [if_neg bp,if_neg (fun c=>bp (r1.1 c))]
        by_cases ck:t.T b N / t.T b k<t.T n N / t.T n k
        ·rw [if_pos ck,if_pos (bV.2 ck)]
        ·rw [if_neg ck,if_neg (fun c=>ck (bV.1 c))]
      have lead : ∀ {x r:Option ((Int×Int)⊕Int)} {f:Int→Option ((Int×Int)⊕Int)} {q:Int},sf (ca (t.T n N*w*(t.T b k*w))) (ca (t.T b N*w*(t.T n k*w)))=some q→f q=r →
       (if 0≤((N:Nat):Int)∧((N:Nat):Int)<((hb N w t n).length:Nat) then
         (hb N w t n)[((N:Nat):Int).toNat]? >>= fun ru =>
         if 0≤((b:Nat):Int)∧((b:Nat):Int)<((bd m (hb N w t)).length:Nat) then
         (bd m (hb N w t))[((b:Nat):Int).toNat]? >>= fun mL =>
         if 0≤((k:Nat):Int)∧((k:Nat):Int)<(mL.length:Nat) then
         mL[((k:Nat):Int).toNat]? >>= fun rv =>
         pH ru rv >>= fun n7 =>
         if 0≤((N:Nat):Int)∧((N:Nat):Int)<(mL.length:Nat) then
         mL[((N:Nat):Int).toNat]? >>= fun s4 =>
         pH s4 (ca (t.T n k*w)) >>= fun n8 =>
         sf n7 n8 >>= f
         else none else none else none else none)=r:=fun bb ch =>
       bI (g5 n) (aP (g6 n) (bI F7 (aP F8 (bI (g3 b) (aP (g4 b) (aP (yL (oc n a5 N (by omega)) (oc b (by omega) k ba)) (bI (g5 b) (aP (g6 b) (aP (yL (oc b (by omega) N (by omega)) (oc n a5 k ba)) (aP bb ch))))))))))
      by_cases bp:t.T n N / t.T n k<t.T b N / t.T b k
      ·rw [if_pos bp] at gc
       refine ⟨(n:Int),dG (by simp only;omega) (bI g1 (aP g2 (bI (g3 n) (aP (g4 n) (aP p2 (d4 b6 (d4 (by simp only;omega) (lead (x:=none) gc (dG (by omega) ?_))))))))),.inr ⟨n,rfl,by omega,ak,fun i ah iI=> ?_⟩⟩
       ·simp only;rw [jV]
       ·by_cases c:i=n
        ·subst c;exact .inr ⟨rfl,Nat.le_refl _⟩
        ·rcases af i (by omega) iI with h|⟨h,-⟩
         ·left;grind
         ·left;rw [← h];exact bp
      ·rw [if_neg bp] at gc
       by_cases ck:t.T b N / t.T b k<t.T n N / t.T n k
       ·rw [if_pos ck] at gc
        refine ⟨(b:Int),dG (by simp only;omega) (bI g1 (aP g2 (bI (g3 n) (aP (g4 n) (aP p2 (d4 b6 (d4 (by simp only;omega) (lead (x:=none) gc (d4 (by omega) (hF (by decide) ?_)))))))))),.inr ⟨b,rfl,by omega,jT,fun i ah iI=> ?_⟩⟩
        ·simp only;rw [jV]
        ·by_cases c:i=n
         ·subst c;exact .inl ck
         ·exact af i (by omega) iI
       ·rw [if_neg ck] at gc
        have NB:t.T b N / t.T b k=t.T n N / t.T n k:=by grind
        have Ua:0≤((n:Nat):Int)∧((n:Nat):Int)<((dK m t).length:Nat):=by unfold dK;rw [c6];omega
        have Ub:(dK m t)[((n:Nat):Int).toNat]? = some ((t.B n:Nat):Int):=by rw [Int.toNat_natCast];exact gn a5
        have Uc:0≤((b:Nat):Int)∧((b:Nat):Int)<((dK m t).length:Nat):=by unfold dK;rw [c6];omega
        have Ud:(dK m t)[((b:Nat):Int).toNat]? = some ((t.B b:Nat):Int):=by rw [Int.toNat_natCast];exact gn (by omega)
        by_cases jJ:t.B n<t.B b
        ·refine ⟨(n:Int),dG (by simp only;omega) (bI g1 (aP g2 (bI (g3 n) (aP (g4 n) (aP p2 (d4 b6 (d4 (by simp only;omega) (lead (x:=none) gc (d4 (by omega) (fP rfl (bI Ua (aP Ub (bI Uc (aP Ud (dG (by omega) ?_))))))))))))))),.inr ⟨n,rfl,by omega,ak,fun i ah iI=> ?_⟩⟩
         ·simp only;rw [jV]
         ·by_cases c:i=n
          ·subst c;exact .inr ⟨rfl,Nat.le_refl _⟩
          ·rcases af i (by omega) iI with h|⟨h,cP⟩
           ·left;grind
           ·right;exact ⟨by grind,by omega⟩
        ·refine ⟨(b:Int),dG (by simp only;omega) (bI g1 (aP g2 (bI (g3 n) (aP (g4 n) (aP p2 (d4 b6 (d4 (by simp only;omega) (lead (x:=none) gc (d4 (by omega) (fP rfl (bI Ua (aP Ub (bI Uc (aP Ud (d4 (by omega) ?_))))))))))))))),.inr ⟨b,rfl,by omega,jT,fun i ah iI=> ?_⟩⟩
         ·simp only;rw [jV]
         ·by_cases c:i=n
          ·subst c;exact .inr ⟨NB,by omega⟩
          ·exact af i (by omega) iI
    ·have b6:j1 (t.T n k)≤0:=by
      have : ¬0<j1 (t.T n k):=fun c=>ak (q2.1 c)
      omega
     refine ⟨s,dG (by simp only;omega) (bI g1 (aP g2 (bI (g3 n) (aP (g4 n) (aP p2 (dG b6 ?_)))))),?_⟩
     ·simp only;rw [jV]
     ·rcases cI with ⟨h1,o⟩|⟨b,h1,aT,jT,af⟩
      ·exact .inl ⟨h1,fun i ah=>if c:i=n then c▸ak else o i (by omega)⟩
      ·exact .inr ⟨b,h1,by omega,jT,fun i ah iI=>if c:i=n then (ak (c▸iI)).elim else af i (by omega) iI⟩)
  (fun s cI=>by
    refine ⟨s,by unfold wZ;exact d4 (by simp only;omega) rfl,?_⟩
    rcases cI with ⟨h1,o⟩|⟨b,h1,aT,jT,af⟩
    ·exact .inl ⟨h1,o⟩
    ·refine .inr ⟨b,h1,aT,jT,fun i ah iI=> ?_,fun i ah iI he=> ?_⟩
     ·rw [← (EP jT iI).1]
      rcases af i ah iI with h|⟨h,-⟩
      ·exact Rat.le_of_lt h
      ·rw [h];exact Rat.le_refl
     ·rw [← (EP jT iI).2] at he
      rcases af i ah iI with h|⟨-,h⟩
      ·rw [he] at h;grind
      ·exact h) (-1:Int) (.inl ⟨rfl,fun i ah=>by omega⟩)
 refine ⟨r,aP ?_ rfl,ap⟩
 unfold HG
 rw [fa,c6]
 exact e
def hB (m N:Nat)(h:Nat→Nat):List bF:=bd m fun i=>some (h i,N+1)
structure m5 (m N M:Nat) (h:Nat→Nat) (w:Rat) (t:cr) (fo:List (List bx)):Prop where
 len:fo.length=M
 row : ∀i,i<m→fo[h i]? = some (hb N w t i)
theorem Er {α:Type}{l:List α}{i:Nat}{x y:α}(h:l[i]? = some x):(l.set i y)[i]? = some y:=by
 rw [List.getElem?_set,if_pos rfl,if_pos (List.getElem?_eq_some_iff.1 h).1]
theorem Lg {α:Type}{l:List α}{i k:Nat}{y:α}(h:i≠k):(l.set i y)[k]? = l[k]? := by
 rw [List.getElem?_set,if_neg h]
theorem set_set {α:Type}(l:List α)(i:Nat)(x y:α):(l.set i x).set i y=l.set i y:=by
 rw [List.set_set]
structure sS (m N:Nat) (w:Rat) (t:cr) (r k:Nat):Prop where
 ap:r<m
 ba:k<N
 ak:t.T r k≠0
 zL : ∀i,i<m→ ∀j,j≤N→eE fS ((t.cq r k).T i j*(t.T r k*w))
theorem acS {m N:Nat}(f5:N<1000){h:Nat→Nat}{w:Rat}{t:cr}{r k:Nat}(f:px m N w t)(g:sS m N w t r k){i:Nat}(ah:i<m)(zK:i≠r)(c8:h i≠h r){fo:List (List bx)}(h1:fo[h i]? = some (hb N w t i))(o:fo[h r]? = some (hb N w t r))
 (x1 ef:Int) (az:Int) (q1:List bF) (a7:List Int) (bZ:List Bool) (v1 v2:Int) :
 DF v1 v2 (some (h r,N+1)) (some (h i,N+1)) x1 ef (((N+1:Nat):Nat):Int) (ca w).c0 (ca w).cN az q1 a7 bZ (ca (t.T r k*w)).c0 (ca (t.T r k*w)).cN (ca (t.T i k*w)).c0 (ca (t.T i k*w)).cN 0 fo=some (fo.set (h i) (hb N (t.T r k*w) (t.cq r k) i)):=by
 have hw:=f.pos
 have oc : ∀i,i<m→ ∀j,j≤N→eE kK (t.T i j*w):=fun i ah j aE=>(f.iy i ah j aE).mono (sR (by have:=qv;generalize fS=q at *;omega))
 have agL:eE kK w:=f.hw.mono (sR (Nat.le_refl _))
 have agM : ∀i,i<m→ ∀j,j≤N→eE kK ((t.cq r k).T i j*(t.T r k*w)):=fun i ah j aE=>(g.zL i ah j aE).mono (sR (by have:=qv;generalize fS=q at *;omega))
 have Ds : ∀i,i<m→ ∀j,j≤N→ ∀eO,eO<m→ ∀h5,h5≤N→eE kK (t.T i j*w*(t.T eO h5*w)):=fun i ah j aE eO jS h5 tZ=>((f.iy i ah j aE).mul (f.iy eO jS h5 tZ)).mono (by
  refine Nat.le_trans ?_ (Nat.le_trans (Nat.le_add_right _ _) B0)
  exact Nat.mul_le_mul (by generalize fS=q;omega) (by generalize fS=q;omega))
 have agd : ∀j,j≤N→eE kK ((t.cq r k).T i j*(t.T r k*w)*w):=fun j aE=>((g.zL i ah j aE).mul f.hw).mono (by
  refine Nat.le_trans ?_ (Nat.le_trans (Nat.le_add_right _ _) B0)
  exact Nat.mul_le_mul (by generalize fS=q;omega) (Nat.le_refl _))
 have ap:=g.ap
 have ba:=g.ba
 have ak:=g.ak
 have tj : ∀j,(t.cq r k).T i j=t.T i j-t.T i k*(t.T r j / t.T r k):=fun j=>by simp [cr.cq,zK]
 have MQ:w≠0:=by grind
 unfold DF
 obtain ⟨s,e,-⟩:=ik (f:=fun q:Int×List (List bx)=>w0 v1 v2 (some (h r,N+1)) (some (h i,N+1)) x1 ef (((N+1:Nat):Nat):Int) (ca w).c0 (ca w).cN az q1 a7 bZ (ca (t.T r k*w)).c0 (ca (t.T r k*w)).cN (ca (t.T i k*w)).c0 (ca (t.T i k*w)).cN q.1 q.2)
  (fun (c:Nat) (_:Unit)=>((c:Int),fo.set (h i) (bd (N+1) fun j=>if j<c then ca ((t.cq r k).T i j*(t.T r k*w)) else ca (t.T i j*w)))) (N+1) (fun _ _=>True)
  (fun _=>fo.set (h i) (hb N (t.T r k*w) (t.cq r k) i))
  (fun c bj _ _=>by
    refine ⟨(),?_,trivial⟩
    have fin:(some (Sum.inl (R ((c:Int)+1),(fo.set (h i) (bd (N+1) fun j=>if j<c then ca ((t.cq r k).T i j*(t.T r k*w)) else ca (t.T i j*w))).set (h i) ((bd (N+1) fun j=>if j<c then ca ((t.cq r k).T i j*(t.T r k*w)) else ca (t.T i j*w)).set (0+((c:Int)).toNat) (ca ((t.cq r k).T i c*(t.T r k*w)))))):Option ((Int×List (List bx))⊕List (List bx))) =
     some (Sum.inl (((c+1:Nat):Int),fo.set (h i) (bd (N+1) fun j=>if j<c+1 then ca ((t.cq r k).T i j*(t.T r k*w)) else ca (t.T i j*w)))):=by
     rw [fA (by omega),Int.toNat_natCast,Nat.zero_add,set_set,lo]
     congr 4
     refine fj fun j _=> ?_
     by_cases bp:j=c
     ·subst bp;rw [if_pos rfl,if_pos (by omega)]
     ·rw [if_neg bp]
      by_cases ck:j<c
      ·rw [if_pos ck,if_pos (by omega)]
      ·rw [if_neg ck,if_neg (by omega)]
    have h6:tp (ca ((t.cq r k).T i c*(t.T r k*w)*w)) (ca w)=some (ca ((t.cq r k).T i c*(t.T r k*w))):=abb (agM i ah c (by omega)) agL (agd c (by omega)) MQ
    unfold w0
    refine dG (by simp only;omega) (aP (x:=(h i,N+1)) rfl (aP (x:=bd (N+1) fun j=>if j<c then ca ((t.cq r k).T i j*(t.T r k*w)) else ca (t.T i j*w)) (by simp only;exact Er h1) (bI (by simp only;omega) (aP (x:=ca (t.T i c*w)) (by simp only;rw [Int.toNat_natCast,iA bj,if_neg (by omega)]) ?_))))
    refine aP (yL (oc i ah c (by omega)) (oc r ap k (by omega))) (aP (tG (oc i ah k (by omega))) (oI (fun d=> ?_) (fun d=> ?_)))
    ·refine aP (x:=(h r,N+1)) rfl (aP (x:=hb N w t r) (by simp only;rw [Lg c8];exact o) (bI (by simp only;omega) (aP (x:=ca (t.T r c*w)) (by simp only;rw [Int.toNat_natCast];exact iA bj) (aP (tG (oc r ap c (by omega))) (oI (fun d2=> ?_) (fun d2=> ?_))))))
     ·refine aP (yL (oc i ah k (by omega)) (oc r ap c (by omega))) (aP (Rq (Ds i ah c (by omega) r ap k (by omega)) (Ds i ah k (by omega) r ap c (by omega))) (aP ?_ fin))
      rw [show t.T i c*w*(t.T r k*w)-t.T i k*w*(t.T r c*w)=(t.cq r k).T i c*(t.T r k*w)*w by rw [tj];grind]
      exact h6
     ·have cF:t.T r c=0:=by have:=rS.1 (by simpa using d2);grind
      refine aP ?_ fin
      rw [show t.T i c*w*(t.T r k*w)=(t.cq r k).T i c*(t.T r k*w)*w by rw [tj,cF];grind]
      exact h6
    ·have cF:t.T i k=0:=by have:=rS.1 (by simpa using d);grind
     refine aP ?_ fin
     rw [show t.T i c*w*(t.T r k*w)=(t.cq r k).T i c*(t.T r k*w)*w by rw [tj,cF];grind]
     exact h6)
  (fun _ _=>by
    unfold w0
    refine d4 (by simp) ?_
    simp only
    congr 3
    exact fj fun j aE=>by rw [if_pos aE]) () trivial
 have e0:fo.set (h i) (bd (N+1) fun j=>if j<0 then ca ((t.cq r k).T i j*(t.T r k*w)) else ca (t.T i j*w))=fo:=by
  have:(bd (N+1) fun j=>if j<0 then ca ((t.cq r k).T i j*(t.T r k*w)) else ca (t.T i j*w))=hb N w t i:=fj fun j _=>by rw [if_neg (by omega)]
  rw [this]
  apply List.ext_getElem?
  intro c
  rw [List.getElem?_set]
  split
  ·rename_i e;subst e
   rw [if_pos (List.getElem?_eq_some_iff.1 h1).1,h1]
  ·rfl
 rw [e0] at e
 exact e
theorem acT {m N:Nat}(f5:N<1000){h:Nat→Nat}{w:Rat}{t:cr}(iy:∀i,i<m→ ∀j,j≤N→eE fS (t.T i j*w)){i:Nat}(ah:i<m){fo:List (List bx)}(h1:fo[h i]? = some (hb N w t i))
 (x1 ef:Int) (jt:Bool) (kI:List Int) (az:Int) (q1:List bF) (a7:List Int) (bZ:List Bool) :
 DH (some (h i,N+1)) x1 ef (((N+1:Nat):Nat):Int) jt kI az q1 a7 bZ 0 fo=some (fo.set (h i) (hb N (-w) t i)):=by
 have oc : ∀j,j≤N→eE kK (t.T i j*w):=fun j aE=>(iy i ah j aE).mono (sR (by have:=qv;generalize fS=q at *;omega))
 unfold DH
 obtain ⟨s,e,-⟩:=ik (f:=fun q:Int×List (List bx)=>w2 (some (h i,N+1)) x1 ef (((N+1:Nat):Nat):Int) jt kI az q1 a7 bZ q.1 q.2)
  (fun (c:Nat) (_:Unit)=>((c:Int),fo.set (h i) (bd (N+1) fun j=>if j<c then ca (t.T i j * -w) else ca (t.T i j*w)))) (N+1) (fun _ _=>True)
  (fun _=>fo.set (h i) (hb N (-w) t i))
  (fun c bj _ _=>by
    refine ⟨(),?_,trivial⟩
    unfold w2
    refine dG (by simp only;omega) (aP (x:=(h i,N+1)) rfl (aP (x:=bd (N+1) fun j=>if j<c then ca (t.T i j * -w) else ca (t.T i j*w)) (by simp only;exact Er h1) (bI (by simp only;omega) (aP (x:=ca (t.T i c*w)) (by simp only;rw [Int.toNat_natCast,iA bj,if_neg (by omega)]) (aP (P2 (oc c (by omega))) ?_)))))
    simp only
    rw [fA (by omega),Int.toNat_natCast,Nat.zero_add,set_set,lo]
    congr 4
    refine fj fun j _=> ?_
    by_cases bp:j=c
    ·subst bp;rw [if_pos rfl,if_pos (by omega)];congr 1;grind
    ·rw [if_neg bp]
     by_cases ck:j<c
     ·rw [if_pos ck,if_pos (by omega)]
     ·rw [if_neg ck,if_neg (by omega)])
  (fun _ _=>by
    unfold w2
    refine d4 (by simp) ?_
    simp only
    congr 3
    exact fj fun j aE=>by rw [if_pos aE]) () trivial
 have e0:fo.set (h i) (bd (N+1) fun j=>if j<0 then ca (t.T i j * -w) else ca (t.T i j*w))=fo:=by
  have:(bd (N+1) fun j=>if j<0 then ca (t.T i j * -w) else ca (t.T i j*w))=hb N w t i:=fj fun j _=>by rw [if_neg (by omega)]
  rw [this]
  apply List.ext_getElem?
  intro c
  rw [List.getElem?_set]
  split
  ·rename_i e;subst e
   rw [if_pos (List.getElem?_eq_some_iff.1 h1).1,h1]
  ·rfl
 rw [e0] at e
 exact e
def pb (w:Rat)(t:cr)(r k:Nat):Rat:=if 0<t.T r k then t.T r k*w else -(t.T r k*w)
theorem RY {m N M:Nat}(hm:m≤20)(f5:N<1000){h:Nat→Nat}(inj:∀i,i<m→ ∀k,k<m→h i=h k→i=k){w:Rat}{t:cr}{r k:Nat}(f:px m N w t)(g:sS m N w t r k){fo:List (List bx)}(hy:m5 m N M h w t fo)(gE:Int)(free:List Bool):
 ∃lb,xJ r k (ca w).c0 (ca w).cN gE (hB m N h) fo (dK m t) free=some ((ca (pb w t r k)).c0,(ca (pb w t r k)).cN,lb,dK m (t.cq r k))∧m5 m N M h (pb w t r k) (t.cq r k) lb:=by
 have ap:=g.ap
 have ba:=g.ba
 have ak:=g.ak
 have hw:=f.pos
 have oc : ∀i,i<m→ ∀j,j≤N→eE kK (t.T i j*w):=fun i ah j aE=>(f.iy i ah j aE).mono (sR (by have:=qv;generalize fS=q at *;omega))
 have rD:hb N (t.T r k*w) (t.cq r k) r=hb N w t r:=fj fun j _=>by
  simp only [cr.cq,if_true];congr 1;grind
 have zP:(hB m N h).length=m:=c6 ..
 unfold xJ
 obtain ⟨p1,e1,nK,r1⟩:=ik (f:=fun q:Int×List (List bx)=>w1 (r:Int) (k:Int) (some (h r,N+1)) ((m:Nat):Int) (ca w).c0 (ca w).cN gE (hB m N h) (dK m t) free (ca (t.T r k*w)).c0 (ca (t.T r k*w)).cN q.1 q.2)
  (fun (i:Nat) (p:List (List bx))=>((i:Int),p)) m (fun n p=>p.length=M∧ ∀i,i<m→p[h i]? = some (if i=r∨i<n then hb N (t.T r k*w) (t.cq r k) i else hb N w t i)) (fun p=>p)
  (fun n a5 p cI=>by
    obtain ⟨aU,cI⟩:=cI
    unfold w1
    by_cases c:n=r
    ·subst c
     refine ⟨p,dG (by simp only;omega) (bI (by rw [zP];simp only;omega) (aP (x:=some (h n,N+1)) (by simp only;rw [Int.toNat_natCast];exact iA a5) (fP (by simp) ?_))),aU,fun i ah=> ?_⟩
     ·simp only;rw [fA (by omega)]
     ·rw [cI i ah]
      by_cases bp:i=n∨i<n
      ·rw [if_pos bp,if_pos (by omega)]
      ·rw [if_neg bp,if_neg (by omega)]
    ·have c8:h n≠h r:=fun e=>c (inj n a5 r ap e)
     have h1:p[h n]? = some (hb N w t n):=by rw [cI n a5,if_neg (by omega)]
     have o:p[h r]? = some (hb N w t r):=by rw [cI r ap,if_pos (.inl rfl),rD]
     refine ⟨p.set (h n) (hb N (t.T r k*w) (t.cq r k) n),dG (by simp only;omega) (bI (by rw [zP];simp only;omega) (aP (x:=some (h n,N+1)) (by simp only;rw [Int.toNat_natCast];exact iA a5) (hF (by simp;omega) (aP (x:=(h n,N+1)) rfl (aP h1 (bI (by simp only;omega) (aP (x:=ca (t.T n k*w)) (by rw [Int.toNat_natCast];exact iA (by omega)) (aP (acS f5 f g a5 c c8 h1 o _ _ _ _ _ _ _ _) ?_)))))))),by rw [List.length_set];exact aU,fun i ah=> ?_⟩
     ·simp only;rw [fA (by omega)]
     ·by_cases bp:i=n
      ·subst bp;rw [Er h1,if_pos (.inr (by omega))]
      ·rw [Lg (fun e=>bp (inj i ah n a5 e.symm)),cI i ah]
       by_cases ck:i=r∨i<n
       ·rw [if_pos ck,if_pos (by omega)]
       ·rw [if_neg ck,if_neg (by omega)])
  (fun p _=>by unfold w1;exact d4 (by simp) rfl) fo ⟨hy.len,fun i ah=>by
    rw [hy.row i ah]
    by_cases c:i=r
    ·rw [if_pos (.inl c),c,rD]
    ·rw [if_neg (by omega)]⟩
 have F6 : ∀i,i<m→p1[h i]? = some (hb N (t.T r k*w) (t.cq r k) i):=fun i ah=>by rw [r1 i ah,if_pos (.inr ah)]
 have ae5:(dK m t).set (0+((r:Int)).toNat) (k:Int)=dK m (t.cq r k):=by
  rw [Int.toNat_natCast,Nat.zero_add]
  unfold dK
  rw [lo]
  exact fj fun i _=>by
   simp only [cr.cq]
   split<;>rfl
 have lead :
  (if 0≤(r:Int)∧(r:Int)<((hB m N h).length:Nat) then
    (hB m N h)[(0+((r:Int)).toNat)]? >>= fun ef =>
    ef >>= fun jU =>
    fo[jU.1]? >>= fun nk =>
    if 0≤(k:Int)∧(k:Int)<(jU.2:Nat) then
    nk[(0+((k:Int)).toNat)]? >>= fun dj =>
    DG (r:Int) (k:Int) ef (((hB m N h).length:Nat):Int) (ca w).c0 (ca w).cN gE (hB m N h) (dK m t) free dj.c0 dj.cN 0 fo >>= fun dp =>
    if 0≤(r:Int)∧(r:Int)<((dK m t).length:Nat) then
    if (0+((r:Int)).toNat)<(dK m t).length then
    pn dj >>= fun gN =>
    if (decide ((0:Int)<gN))=true then
     some (dj.c0,dj.cN,dp,(dK m t).set (0+((r:Int)).toNat) (k:Int))
    else
     se dj >>= fun fl =>
     zZ (((hB m N h).length:Nat):Int) fl.c0 fl.cN gE (hB m N h) ((dK m t).set (0+((r:Int)).toNat) (k:Int)) free 0 dp >>= fun iv =>
     some (fl.c0,fl.cN,iv,(dK m t).set (0+((r:Int)).toNat) (k:Int))
    else none else none else none else none)=(if (decide ((0:Int)<j1 (t.T r k)))=true then
     some ((ca (t.T r k*w)).c0,(ca (t.T r k*w)).cN,p1,dK m (t.cq r k))
    else
     se (ca (t.T r k*w)) >>= fun fl =>
     zZ ((m:Nat):Int) fl.c0 fl.cN gE (hB m N h) (dK m (t.cq r k)) free 0 p1 >>= fun iv =>
     some (fl.c0,fl.cN,iv,dK m (t.cq r k))):=by
  refine bI (by rw [zP];omega) (aP (x:=some (h r,N+1)) (by rw [Int.toNat_natCast];exact iA ap) (aP (x:=(h r,N+1)) rfl (aP (hy.row r ap) (bI (by simp only;omega) (aP (x:=ca (t.T r k*w)) (by rw [Int.toNat_natCast];exact iA (by omega)) (aP (x:=p1) (by unfold DG;rw [zP];exact e1) (bI (by unfold dK;rw [c6];omega) (bI (by unfold dK;rw [c6,Int.toNat_natCast];omega) (aP (tG (oc r ap k (by omega))) ?_)))))))))
  rw [yU hw,ae5,zP]
 by_cases kg:0<t.T r k
 ·have us:pb w t r k=t.T r k*w:=if_pos kg
  refine ⟨p1,lead.trans ?_,nK,fun i ah=>by rw [us];exact F6 i ah⟩
  rw [us]
  exact dG (q2.2 kg) rfl
 ·have us:pb w t r k = -(t.T r k*w):=if_neg kg
  obtain ⟨hE,aD,qN,bV⟩:=ik (f:=fun q:Int×List (List bx)=>w3 ((m:Nat):Int) (ca (-(t.T r k*w))).c0 (ca (-(t.T r k*w))).cN gE (hB m N h) (dK m (t.cq r k)) free q.1 q.2)
   (fun (i:Nat) (p:List (List bx))=>((i:Int),p)) m (fun n p=>p.length=M∧ ∀i,i<m→p[h i]? = some (if i<n then hb N (-(t.T r k*w)) (t.cq r k) i else hb N (t.T r k*w) (t.cq r k) i)) (fun p=>p)
   (fun n a5 p cI=>by
     obtain ⟨aU,cI⟩:=cI
     have h1:p[h n]? = some (hb N (t.T r k*w) (t.cq r k) n):=by rw [cI n a5,if_neg (by omega)]
     unfold w3
     refine ⟨p.set (h n) (hb N (-(t.T r k*w)) (t.cq r k) n),dG (by simp only;omega) (bI (by rw [zP];simp only;omega) (aP (x:=some (h n,N+1)) (by simp only;rw [Int.toNat_natCast];exact iA a5) (aP (x:=(h n,N+1)) rfl (aP h1 (aP (acT f5 g.zL a5 h1 _ _ _ _ _ _ _ _) ?_))))),by rw [List.length_set];exact aU,fun i ah=> ?_⟩
     ·simp only;rw [fA (by omega)]
     ·by_cases bp:i=n
      ·subst bp;rw [Er h1,if_pos (by omega)]
      ·rw [Lg (fun e=>bp (inj i ah n a5 e.symm)),cI i ah]
       by_cases ck:i<n
       ·rw [if_pos ck,if_pos (by omega)]
       ·rw [if_neg ck,if_neg (by omega)])
   (fun p _=>by unfold w3;exact d4 (by simp) rfl) p1 ⟨nK,fun i ah=>by rw [F6 i ah,if_neg (by omega)]⟩
  refine ⟨hE,lead.trans ?_,qN,fun i ah=>by rw [us,bV i ah,if_pos ah]⟩
  rw [us]
  exact d4 (fun c=>kg (q2.1 c)) (aP (P2 (oc r ap k (by omega))) (aP (x:=hE) (by unfold zZ;exact aD) rfl))
theorem PM {m:Nat}(hm:m≤1000)(t:cr)(j:Nat): ∃b,sr (dK m t) (j:Int)=some b∧(b=true↔ ∃i,i<m∧t.B i=j):=by
 unfold sr Bt Ey
 obtain ⟨r,e,h⟩:=pK (f:=fun w:Int=>sk (dK m t) (j:Int) ((m:Nat):Int) w) (fun (i:Nat) (_:Unit)=>(i:Int)) m (fun i _=> ∀k,k<i→t.B k≠j)
  (fun r=>(∃i:Nat,r = .inr (i:Int)∧i<m∧t.B i=j)∨(r = .inl ()∧ ¬∃i,i<m∧t.B i=j))
  (fun i ah _ cI=>by
    unfold sk
    by_cases c:t.B i=j
    ·right
     exact ⟨_,dG (by omega) (bI (by unfold dK;rw [c6];omega) (aP (x:=((t.B i:Nat):Int)) (by rw [Int.toNat_natCast];exact gn ah) (fP (by simp [c]) rfl))),.inl ⟨i,rfl,ah,c⟩⟩
    ·left
     refine ⟨(),dG (by omega) (bI (by unfold dK;rw [c6];omega) (aP (x:=((t.B i:Nat):Int)) (by rw [Int.toNat_natCast];exact gn ah) (hF (by simp;omega) (by rw [fA (by omega)])))),fun k ba=> ?_⟩
     by_cases e:k=i
     ·rw [e];exact c
     ·exact cI k (by omega))
  (fun _ cI=>⟨_,by unfold sk;exact d4 (by omega) rfl,.inr ⟨rfl,fun ⟨i,ah,e⟩=>cI i ah e⟩⟩) () (fun k ba=>by omega)
 rw [fT,show (dK m t).length=m from c6 ..]
 rcases h with ⟨i,rfl,h1,o⟩|⟨rfl,h⟩
 ·exact ⟨true,aP (x:=(i:Int)) (aP e rfl) (by simp),by simp only [true_iff];exact ⟨i,h1,o⟩⟩
 ·exact ⟨false,aP (x:=(-1:Int)) (aP e rfl) rfl,by simp [h]⟩
theorem Bx {m N M:Nat}{h:Nat→Nat}{w:Rat}{t:cr}{fo:List (List bx)}(hy:m5 m N M h w t fo):(hB m N h).all (rq fo)=true:=by
 rw [List.all_eq_true]
 intro x U
 obtain ⟨i,ah,rfl⟩:=LO.1 U
 simp only [rq]
 have h1:=hy.row i ah
 have o:fo.getD (h i) []=hb N w t i:=by rw [List.getD_eq_getElem?_getD,h1];rfl
 rw [o,show (hb N w t i).length=N+1 from c6 ..]
 simp [(List.getElem?_eq_some_iff.1 h1).1]
theorem vr {m N M:Nat}{h:Nat→Nat}{w:Rat}{t:cr}{fo:List (List bx)}(hy:m5 m N M h w t fo):(hB m N h).map (iP fo)=bd m (hb N w t):=by
 unfold hB
 rw [RO]
 exact fj fun i ah=>by
  have o:fo.getD (h i) []=hb N w t i:=by rw [List.getD_eq_getElem?_getD,hy.row i ah];rfl
  simp only [iP]
  rw [o]
  exact List.take_of_length_le (Nat.le_of_eq (c6 ..))
theorem Ue {m:Nat}{I:Nat→Rat}{t:cr}{j:Nat}:t.rz m 1 (fun _=>I) j↔0<t.c7 m I j:=Fw (g:=fun _=>t.c7 m I j)
theorem abd {gA m N M:Nat}{A:Nat→Nat→Rat}(hm:m≤20)(f5:N<1000){h:Nat→Nat}(inj:∀i,i<m→ ∀k,k<m→h i=h k→i=k){w:Rat}{t:cr}(ok:gl gA m N A t)(f:px m N w t)(I:Nat→Int)(aq:∀j,j<N→ -100≤I j∧I j≤100)(dU:Nat→Bool)
 (agN : ∀r s,ot m N 1 (fun _ j=>(I j:Rat)) (fun j=>dU j=true) t r s→sS m N w t r s) {fo:List (List bx)} (hy:m5 m N M h w t fo) :
 ∃x,w7 (N:Int) (ca w).c0 (ca w).cN (hB m N h) fo (dK m t) (bd N dU) (bd N I) 0=some x ∧
  ((x = .inl (false,(ca w).c0,(ca w).cN,fo,dK m t)∧ ∀j,j<N→dU j=true→ ¬0<t.c7 m (fun j=>(I j:Rat)) j) ∨
   (∃r s lb,x = .inl (true,(ca (pb w t r s)).c0,(ca (pb w t r s)).cN,lb,dK m (t.cq r s))∧ot m N 1 (fun _ j=>(I j:Rat)) (fun j=>dU j=true) t r s∧m5 m N M h (pb w t r s) (t.cq r s) lb) ∨
   (x = .inr ()∧ ∃s,s<N∧dU s=true∧0<t.c7 m (fun j=>(I j:Rat)) s∧ ∀i,i<m→ ¬0<t.T i s)):=by
 unfold w7
 refine pK (f:=fun q:Int=>wW (N:Int) (ca w).c0 (ca w).cN (hB m N h) fo (dK m t) (bd N dU) (bd N I) q) (fun (i:Nat) (_:Unit)=>(i:Int)) N
  (fun n _=> ∀j,j<n→dU j=true→ ¬0<t.c7 m (fun j=>(I j:Rat)) j) _ (fun n a5 _ cI=> ?_) (fun _ cI=> ?_) () (fun j aE=>by omega)
 ·have next : ∀(hU:dU n=true→ ¬0<t.c7 m (fun j=>(I j:Rat)) n),∀j,j<n+1→dU j=true→ ¬0<t.c7 m (fun j=>(I j:Rat)) j:=fun hU j aE=>by
   by_cases c:j=n
   ·subst c;exact hU
   ·exact cI j (by omega)
  have g1:0≤((n:Nat):Int)∧((n:Nat):Int)<((bd N dU).length:Nat):=by rw [c6];omega
  have g2:(bd N dU)[(0+((n:Nat):Int).toNat)]? = some (dU n):=by rw [Int.toNat_natCast];exact iA a5
  have jV:R ((n:Int)+1)=((n+1:Nat):Int):=fA (by omega)
  unfold wW
  by_cases qf:dU n=true
  ·obtain ⟨b,jt,kI⟩:=PM (m:=m) (by omega) t n
   cases b with
   | true =>
    obtain ⟨i,ah,gU⟩:=kI.1 rfl
    left
    refine ⟨(),dG (by omega) (bI g1 (aP g2 (fP qf (aP jt (fP rfl (by rw [jV])))))),next fun _=> ?_⟩
    rw [← gU,ok.yx _ ah];grind
   | false =>
    have dF:=RX hm f5 f I aq ((⟨(ca w).c0,(ca w).cN⟩:bx)) rfl (N:Int) (bd N dU) a5
    by_cases sd:0<t.c7 m (fun j=>(I j:Rat)) n
    ·obtain ⟨q,q1,a7⟩:=abc hm f5 f ((⟨(ca w).c0,(ca w).cN⟩:bx)) (bd N dU) (k:=n) (by omega)
     have b6 : ¬j1 (t.c7 m (fun j=>(I j:Rat)) n)≤0:=by have:=q2.2 sd;omega
     right
     rcases a7 with ⟨rfl,o⟩|⟨b,rfl,aT,jT,af,av⟩
     ·exact ⟨_,dG (by omega) (bI g1 (aP g2 (fP qf (aP jt (hF rfl (bI (Bx hy) (aP (by rw [vr hy];exact dF) (d4 b6 (aP (by rw [vr hy];exact q1) (dG (by decide) rfl)))))))))),.inr (.inr ⟨rfl,n,a5,qf,sd,o⟩)⟩
     ·have di:ot m N 1 (fun _ j=>(I j:Rat)) (fun j=>dU j=true) t b n:=⟨a5,qf,Ue.2 sd,fun j aE ch dF=>cI j aE ch (Ue.1 dF),aT,jT,af,av⟩
      obtain ⟨lb,e1,aD⟩:=RY hm f5 inj f (agN b n di) hy (N:Int) (bd N dU)
      exact ⟨_,dG (by omega) (bI g1 (aP g2 (fP qf (aP jt (hF rfl (bI (Bx hy) (aP (by rw [vr hy];exact dF) (d4 b6 (aP (by rw [vr hy];exact q1) (d4 (by omega) (aP e1 rfl))))))))))),.inr (.inl ⟨b,n,lb,rfl,di,aD⟩)⟩
    ·left
     have b6:j1 (t.c7 m (fun j=>(I j:Rat)) n)≤0:=by
      have : ¬0<j1 (t.c7 m (fun j=>(I j:Rat)) n):=fun c=>sd (q2.1 c)
      omega
     exact ⟨(),dG (by omega) (bI g1 (aP g2 (fP qf (aP jt (hF rfl (bI (Bx hy) (aP (by rw [vr hy];exact dF) (dG b6 (by rw [jV]))))))))),next fun _=>sd⟩
  ·left
   have Gb:dU n=false:=by simpa using qf
   exact ⟨(),dG (by omega) (bI g1 (aP g2 (hF Gb (by rw [jV])))),next fun c=>(qf c).elim⟩
 ·exact ⟨_,by unfold wW;exact d4 (by omega) rfl,.inl ⟨rfl,cI⟩⟩
def tU (N:Int)(qD:List bF)(free:List Bool)(obj:List Int)(s:Bool×List Int×List (List bx)×List Int):Option ((Bool×List Int×List (List bx)×List Int)⊕((Bool×List Int×List (List bx)×List Int)⊕(Bool×List Int×List (List bx)×List Int))) :=
 match w7 N s.1 s.2.1 qD s.2.2.1 s.2.2.2 free obj 0 with
 | none=>none
 | some (.inl (true,bW))=>some (.inl bW)
 | some (.inl (false,bW))=>some (.inr (.inl bW))
 | some (.inr ())=>some (.inr (.inr s))
theorem acU {N:Int}{qD:List bF}{free:List Bool}{obj:List Int}: ∀s r,iter (tU N qD free obj) s=some r→DC N qD free obj true s.1 s.2.1 s.2.2.1 s.2.2.2=some r:=by
 unfold DC
 apply iter.partial_correctness (tU N qD free obj) (fun s r=>iter (fun w:Bool×Bool×(List Int)×(List (List bx))×(List Int)=>uv N qD free obj w.1 w.2.1 w.2.2.1 w.2.2.2.1 w.2.2.2.2) (true,s.1,s.2.1,s.2.2.1,s.2.2.2)=some r)
 intro it ih s r ap
 cases U:w7 N s.1 s.2.1 qD s.2.2.1 s.2.2.2 free obj 0 with
 | none=>unfold tU at ap;rw [U] at ap;simp at ap
 | some x =>
  have hm:uv N qD free obj true s.1 s.2.1 s.2.2.1 s.2.2.2=match x with
   | .inl f7=>(some (.inl (f7.1,f7.2.1,f7.2.2.1,f7.2.2.2.1,f7.2.2.2.2)))
   | .inr f7=>(some (.inr (.inr (s.1,s.2.1,s.2.2.1,s.2.2.2)))):=by
   unfold uv
   refine fP rfl ?_
   cases x with
   | inl a=>exact aP U rfl
   | inr a=>exact aP U rfl
  unfold tU at ap
  rw [U] at ap
  rw [iter]
  simp only
  rw [hm]
  match x,ap with
  | .inl (true,bW),ap=>exact ih _ _ ap
  | .inl (false,bW),ap =>
   simp at ap
   subst ap
   show iter _ (false,bW.1,bW.2.1,bW.2.2.1,bW.2.2.2)=_
   rw [iter]
   simp only
   unfold uv
   rfl
  | .inr (),ap =>
   simp at ap
   subst ap
   rfl
theorem acV {gA m N M:Nat}{A:Nat→Nat→Rat}(hm:m≤20)(f5:N<1000){h:Nat→Nat}{w:Rat}{t:cr}(ok:gl gA m N A t)(f:px m N w t)(I:Nat→Int)(aq:∀j,j<N→ -100≤I j∧I j≤100)(dU:Nat→Bool){fo:List (List bx)}(hy:m5 m N M h w t fo):
 DD (N:Int) (ca w).c0 (ca w).cN (hB m N h) fo (dK m t) (bd N I) 0 (bd N dU)=some (bd N fun j=>dU j && !decide (t.c7 m (fun j=>(I j:Rat)) j<0)):=by
 unfold DD
 obtain ⟨s,e,-⟩:=ik (f:=fun q:Int×List Bool=>wX (N:Int) (ca w).c0 (ca w).cN (hB m N h) fo (dK m t) (bd N I) q.1 q.2)
  (fun (i:Nat) (_:Unit)=>((i:Int),bd N fun j=>if j<i then dU j && !decide (t.c7 m (fun j=>(I j:Rat)) j<0) else dU j)) N (fun _ _=>True) (fun _=>bd N fun j=>dU j && !decide (t.c7 m (fun j=>(I j:Rat)) j<0))
  (fun n a5 _ _=>by
    refine ⟨(),?_,trivial⟩
    have same:dU n=(dU n && !decide (t.c7 m (fun j=>(I j:Rat)) n<0))→(R ((n:Int)+1),bd N fun j=>if j<n then dU j && !decide (t.c7 m (fun j=>(I j:Rat)) j<0) else dU j)=(((n+1:Nat):Int),bd N fun j=>if j<n+1 then dU j && !decide (t.c7 m (fun j=>(I j:Rat)) j<0) else dU j):=fun he=>by
     rw [fA (by omega)]
     congr 1
     refine fj fun j _=> ?_
     by_cases c:j=n
     ·subst c;rw [if_neg (by omega),if_pos (by omega)];exact he
     ·by_cases ck:j<n
      ·rw [if_pos ck,if_pos (by omega)]
      ·rw [if_neg ck,if_neg (by omega)]
    have g1 : ∀F:Nat→Bool,0≤((n:Nat):Int)∧((n:Nat):Int)<((bd N F).length:Nat):=fun F=>by rw [c6];omega
    have g2:(bd N fun j=>if j<n then dU j && !decide (t.c7 m (fun j=>(I j:Rat)) j<0) else dU j)[(0+((n:Nat):Int).toNat)]? = some (dU n):=by rw [Int.toNat_natCast,iA a5,if_neg (by omega)]
    unfold wX
    by_cases qf:dU n=true
    ·obtain ⟨b,jt,kI⟩:=PM (m:=m) (by omega) t n
     cases b with
     | true =>
      obtain ⟨i,ah,gU⟩:=kI.1 rfl
      refine dG (by simp only;omega) (bI (g1 _) (aP g2 (fP qf (aP jt (fP rfl ?_)))))
      simp only
      rw [same]
      rw [← gU,ok.yx _ ah,decide_eq_false (by grind)];simp
     | false =>
      have dF:=RX hm f5 f I aq ((⟨(ca w).c0,(ca w).cN⟩:bx)) rfl (N:Int) (bd N fun j=>if j<n then dU j && !decide (t.c7 m (fun j=>(I j:Rat)) j<0) else dU j) a5
      have b6:j1 (t.c7 m (fun j=>(I j:Rat)) n)<0↔t.c7 m (fun j=>(I j:Rat)) n<0:=by
       unfold j1
       by_cases c:t.c7 m (fun j=>(I j:Rat)) n=0
       ·rw [if_pos c,c];constructor
        ·intro h;omega
        ·intro h;grind
       ·rw [if_neg c]
        by_cases ck:t.c7 m (fun j=>(I j:Rat)) n<0
        ·rw [if_pos ck];simp [ck]
        ·rw [if_neg ck];constructor
         ·intro h;omega
         ·intro h;exact (ck h).elim
      by_cases sd:t.c7 m (fun j=>(I j:Rat)) n<0
      ·refine dG (by simp only;omega) (bI (g1 _) (aP g2 (fP qf (aP jt (hF rfl (bI (Bx hy) (aP (by rw [vr hy];exact dF) (dG (b6.2 sd) (bI (by rw [c6,Int.toNat_natCast];omega) ?_)))))))))
       simp only
       rw [fA (by omega),Int.toNat_natCast,Nat.zero_add,lo]
       congr 3
       refine fj fun j _=> ?_
       by_cases c:j=n
       ·subst c;rw [if_pos rfl,if_pos (by omega),decide_eq_true sd];simp
       ·rw [if_neg c]
        by_cases ck:j<n
        ·rw [if_pos ck,if_pos (by omega)]
        ·rw [if_neg ck,if_neg (by omega)]
      ·refine dG (by simp only;omega) (bI (g1 _) (aP g2 (fP qf (aP jt (hF rfl (bI (Bx hy) (aP (by rw [vr hy];exact dF) (d4 (fun c=>sd (b6.1 c)) ?_))))))))
       simp only
       rw [same]
       rw [decide_eq_false sd];simp
    ·have Gb:dU n=false:=by simpa using qf
     refine dG (by simp only;omega) (bI (g1 _) (aP g2 (hF Gb ?_)))
     simp only
     rw [same]
     rw [Gb];simp)
  (fun _ _=>by
    unfold wX
    refine d4 (by simp) ?_
    simp only
    congr 2
    exact fj fun j aE=>by rw [if_pos aE]) () trivial
 have e0:(bd N fun j=>if j<0 then dU j && !decide (t.c7 m (fun j=>(I j:Rat)) j<0) else dU j)=bd N dU:=fj fun j _=>by rw [if_neg (by omega)]
 rw [e0] at e
 exact e
theorem aay {gA m N M:Nat}{A:Nat→Nat→Rat}(hm:m≤20)(f5:N<1000){h:Nat→Nat}(inj:∀i,i<m→ ∀k,k<m→h i=h k→i=k)(I:Nat→Int)(aq:∀j,j<N→ -100≤I j∧I j≤100)(dU:Nat→Bool)
 (Inv:Rat→cr→Prop) (inv : ∀w t,Inv w t→gl gA m N A t∧t.ld m N∧px m N w t)
 (gL : ∀w t r s,Inv w t→ot m N 1 (fun _ j=>(I j:Rat)) (fun j=>dU j=true) t r s→sS m N w t r s∧Inv (pb w t r s) (t.cq r s)) {w:Rat} {t:cr} (cI:Inv w t) {fo:List (List bx)} (hy:m5 m N M h w t fo) :
 ∃b bT dw lb pd,xq (ca w).c0 (ca w).cN (N:Int) (hB m N h) fo (dK m t) (bd N dU) (bd N I)=some (b,(ca bT).c0,(ca bT).cN,lb,dK m dw,bd N pd)∧Inv bT dw∧m5 m N M h bT dw lb ∧
  ((b=true∧(∀j,j<N→dU j=true→ ¬0<dw.c7 m (fun j=>(I j:Rat)) j)∧pd=fun j=>dU j && !decide (dw.c7 m (fun j=>(I j:Rat)) j<0))∨(b=false∧ ∃s,s<N∧dU s=true∧0<dw.c7 m (fun j=>(I j:Rat)) s∧ ∀i,i<m→ ¬0<dw.T i s)):=by
 obtain ⟨ok,lH,Dd⟩:=inv w t cI
 obtain ⟨x,dT,dw,e,-,-,-,bT,lb,h1,o,af⟩:=Qm (gA:=gA) (m:=m) (N:=N) (K:=1) (A:=A) (obj:=fun _ j=>(I j:Rat)) (b8:=fun j=>dU j=true)
  (f:=tU (N:Int) (hB m N h) (bd N dU) (bd N I))
  (fun s t=> ∃w fo,s=((ca w).c0,(ca w).cN,fo,dK m t)∧Inv w t∧m5 m N M h w t fo)
  (fun s x t=> ∃w fo,Inv w t∧m5 m N M h w t fo∧((x = .inl ((ca w).c0,(ca w).cN,fo,dK m t)∧ ∀j,j<N→dU j=true→ ¬0<t.c7 m (fun j=>(I j:Rat)) j) ∨
    (x = .inr ((ca w).c0,(ca w).cN,fo,dK m t)∧ ∃s,s<N∧dU s=true∧0<t.c7 m (fun j=>(I j:Rat)) s∧ ∀i,i<m→ ¬0<t.T i s)))
  (fun s t c5 ok _=>by
    obtain ⟨w,fo,rfl,cI,hy⟩:=c5
    obtain ⟨x,e,U⟩:=abd hm f5 inj ok (inv w t cI).2.2 I aq dU (fun r s b=>(gL w t r s cI b).1) hy
    rcases U with ⟨rfl,U⟩|⟨r,s,lb,rfl,di,age⟩|⟨rfl,U⟩
    ·left
     exact ⟨_,by unfold tU;simp only;rw [e],w,fo,cI,hy,.inl ⟨rfl,U⟩⟩
    ·right
     exact ⟨_,r,s,by unfold tU;simp only;rw [e],di,pb w t r s,lb,rfl,(gL w t r s cI di).2,age⟩
    ·left
     exact ⟨_,by unfold tU;simp only;rw [e],w,fo,cI,hy,.inr ⟨rfl,U⟩⟩)
  (a:=((ca w).c0,(ca w).cN,fo,dK m t)) (t:=t) ⟨w,fo,rfl,cI,hy⟩ ok lH
 have aD:=acU _ _ e
 obtain ⟨k3,aiB,agf⟩:=inv bT dw h1
 rcases af with ⟨rfl,af⟩|⟨rfl,af⟩
 ·refine ⟨true,bT,dw,lb,_,?_,h1,o,.inl ⟨rfl,af,rfl⟩⟩
  unfold xq
  exact aP aD (aP (acV hm f5 k3 agf I aq dU o) rfl)
 ·refine ⟨false,bT,dw,lb,dU,?_,h1,o,.inr ⟨rfl,af⟩⟩
  unfold xq
  exact aP aD rfl
def hz (m:Nat)(A:Nat→Nat→Rat)(t:cr):Rat:=if 0<t.D m A then t.D m A else -(t.D m A)
theorem ad1 {m N:Nat}{A:Nat→Nat→Rat}{t:cr}(h:t.D m A≠0):0<hz m A t:=by
 unfold hz;split<;>grind
theorem SP {m K:Nat}{A:Nat→Nat→Rat}{t:cr}{x:Rat}(h:eE K (x*t.D m A)):eE K (x*hz m A t):=by
 unfold hz;split
 ·exact h
 ·have:=h.neg
  rw [show x * -(t.D m A) = -(x*t.D m A) by grind];exact this
theorem k2.rY {m N:Nat}{A:Nat→Nat→Rat}(s:Small m N A){t:cr}(h:k2 m N A t):px m N (hz m A t) t where
 pos:=ad1 (N:=N) h.rE
 hw:=by
  have h1:eE fS (1*t.D m A):=by rw [Rat.one_mul];exact h.Da s
  have:=SP h1
  rw [Rat.one_mul] at this
  exact this.mono (by generalize fS=q;omega)
 iy:=fun i ah j aE=>SP (h.uf s ah aE)
 gU:=h.ok.kb
theorem k2.vM {m N:Nat}{A:Nat→Nat→Rat}(s:Small m N A){t:cr}(h:k2 m N A t){r k:Nat}(ap:r<m)(ba:k<N)(ak:t.T r k≠0):sS m N (hz m A t) t r k where
 ap:=ap
 ba:=ba
 ak:=ak
 zL:=fun i ah j aE=>by
  have k3:=h.ok.cq ap ba ak
  have h1:eE fS ((t.cq r k).T i j*(t.cq r k).D m A):=by
   rw [← k3.wF ah aE]
   refine eE.mono (y1 fun dD nb c bj=> ?_) (BZ▸yJ (by omega) s.hm)
   simp only [gq]
   split
   ·exact s.ur c bj j aE
   ·exact s.ur c bj _ (Nat.le_of_lt (k3.kb dD nb))
  rw [h.ok.vE ap ba] at h1
  unfold hz
  split
  ·exact h1
  ·have:=h1.neg
   rw [show (t.cq r k).T i j*(t.T r k * -(t.D m A)) = -((t.cq r k).T i j*(t.T r k*t.D m A)) by grind];exact this
theorem Mc {m N:Nat}{A:Nat→Nat→Rat}{t:cr}(h:gl m m N A t)(bK:t.D m A≠0){r k:Nat}(ap:r<m)(ba:k<N)(ak:t.T r k≠0):pb (hz m A t) t r k=hz m A (t.cq r k):=by
 have e:=h.vE ap ba
 unfold pb hz
 rw [e]
 by_cases bp:0<t.T r k<;>by_cases ck:0<t.D m A
 ·rw [if_pos bp,if_pos ck,if_pos (Rat.mul_pos bp ck)]
 ·have:=Rat.mul_pos bp (show 0 < -(t.D m A) by grind)
  rw [if_pos bp,if_neg ck,if_neg (by grind)];grind
 ·have:=Rat.mul_pos (show 0 < -(t.T r k) by grind) ck
  rw [if_neg bp,if_pos ck,if_neg (by grind)]
 ·have:=Rat.mul_pos (show 0 < -(t.T r k) by grind) (show 0 < -(t.D m A) by grind)
  rw [if_neg bp,if_neg ck,if_pos (by grind)];grind
def jc (h:Nat→Nat)(t:cr):cr:=⟨fun i j=>t.T (h i) j,fun i=>t.B (h i)⟩
theorem Bm {h:Nat→Nat}{t:cr}{r k i:Nat}(fY:h i=h r→i=r):(∀j,((jc h t).cq r k).T i j=(jc h (t.cq (h r) k)).T i j)∧((jc h t).cq r k).B i=(jc h (t.cq (h r) k)).B i:=by
 simp only [cr.cq,jc]
 by_cases c:i=r
 ·subst c;simp
 ·have:h i≠h r:=fun e=>c (fY e)
  simp [c,this]
theorem Qu {α:Type}{m i:Nat}(ah:i<m)(f:Nat→α):(bd m f).take (i-0)++((bd m f).drop (0+(i+1))).take (m-(i+1))=bd (m-1) (skip i f):=by
 apply List.ext_getElem?
 intro j
 rw [Nat.sub_zero,Nat.zero_add]
 have aU:((bd m f).take i).length=i:=by rw [List.length_take,c6];omega
 by_cases c:j<i
 ·rw [List.getElem?_append_left (by omega),List.getElem?_take,if_pos c,gn (by omega),gn (by omega)]
  simp only [skip];rw [if_pos c]
 ·rw [List.getElem?_append_right (by omega),aU,List.getElem?_take,List.getElem?_drop]
  by_cases ck:j<m-1
  ·rw [if_pos (by omega),gn (by omega),gn ck]
   simp only [skip];rw [if_neg c];congr 2;omega
  ·rw [if_neg (by omega)]
   symm
   rw [List.getElem?_eq_none_iff,c6];omega
theorem aaz {m N M n:Nat}(f5:N<1000)(a5:n≤N){h:Nat→Nat}{w:Rat}{t:cr}(f:px m N w t){fo:List (List bx)}(hy:m5 m N M h w t fo){i:Nat}(ah:i<m)(jt:Bool)(kI:List Int)(az:Int)(a7:List Int)(bZ:List Bool):
 ∃k:Nat,DI (n:Int) (i:Int) jt kI az (hB m N h) fo a7 bZ 0=some (k:Int)∧k≤n∧(k<n→t.T i k≠0)∧ ∀j,j<k→t.T i j=0:=by
 unfold DI
 obtain ⟨r,e,k,rfl,h1,o,af⟩:=pK (f:=fun q:Int=>w4 (n:Int) (i:Int) jt kI az (hB m N h) fo a7 bZ q) (fun (c:Nat) (_:Unit)=>(c:Int)) n (fun c _=> ∀j,j<c→t.T i j=0)
  (fun r=> ∃k:Nat,r=(k:Int)∧k≤n∧(k<n→t.T i k≠0)∧ ∀j,j<k→t.T i j=0)
  (fun c bj _ cI=>by
    have hw:=f.pos
    have b6:=tG ((f.iy i ah c (by omega)).mono (sR (by have:=qv;generalize fS=q at *;omega)))
    unfold w4
    by_cases Gj:t.T i c=0
    ·left
     refine ⟨(),dG (by omega) (bI (by unfold hB;rw [c6];omega) (aP (x:=some (h i,N+1)) (by rw [Int.toNat_natCast];exact iA ah) (aP (x:=(h i,N+1)) rfl (aP (hy.row i ah) (bI (by simp only;omega) (aP (x:=ca (t.T i c*w)) (by rw [Int.toNat_natCast];exact iA (by omega)) (aP b6 (fP (by rw [yU hw,rS.2 Gj];rfl) (by rw [fA (by omega)]))))))))),fun j aE=> ?_⟩
     by_cases e:j=c
     ·rw [e];exact Gj
     ·exact cI j (by omega)
    ·right
     exact ⟨_,dG (by omega) (bI (by unfold hB;rw [c6];omega) (aP (x:=some (h i,N+1)) (by rw [Int.toNat_natCast];exact iA ah) (aP (x:=(h i,N+1)) rfl (aP (hy.row i ah) (bI (by simp only;omega) (aP (x:=ca (t.T i c*w)) (by rw [Int.toNat_natCast];exact iA (by omega)) (aP b6 (hF (by rw [yU hw];exact ua (fun c=>Gj (rS.1 c))) rfl)))))))),c,rfl,by omega,fun _=>Gj,cI⟩)
  (fun _ cI=>⟨_,by unfold w4;exact d4 (by omega) rfl,n,rfl,Nat.le_refl _,fun c=>by omega,cI⟩) () (fun j aE=>by omega)
 exact ⟨k,e,h1,o,af⟩
structure o4 (m n N:Nat) (A:Nat→Nat→Rat) (t:cr) (bE:Nat) (h:Nat→Nat):Prop where
 inv:k2 m N A t
 z : ∀i,i<m→n≤t.B i→t.T i N=0
 le:bE≤m
 lt : ∀i,i<bE→h i<m
 inj : ∀i,i<bE→ ∀k,k<bE→h i=h k→i=k
 dead : ∀d,d<m→(∀i,i<bE→h i≠d)→n≤t.B d∧ ∀j,j<n→t.T d j=0
theorem o4.rY {m n N bE:Nat}{A:Nat→Nat→Rat}{t:cr}{h:Nat→Nat}(s:Small m N A)(a:o4 m n N A t bE h):px bE N (hz m A t) (jc h t) :=
 have f:=a.inv.rY s
 ⟨f.pos,f.hw,fun i ah j aE=>f.iy (h i) (a.lt i ah) j aE,fun i ah=>f.gU (h i) (a.lt i ah)⟩
theorem o4.vM {m n N bE:Nat}{A:Nat→Nat→Rat}{t:cr}{h:Nat→Nat}(s:Small m N A)(a:o4 m n N A t bE h){r k:Nat}(ap:r<bE)(ba:k<N)(ak:t.T (h r) k≠0):sS bE N (hz m A t) (jc h t) r k :=
 have f:=a.inv.vM s (a.lt r ap) ba ak
 ⟨ap,ba,ak,fun i ah j aE=>by
  rw [(Bm (t:=t) (k:=k) (a.inj i ah r ap)).1 j]
  exact f.zL (h i) (a.lt i ah) j aE⟩
theorem o4.cq {m n N bE:Nat}{A:Nat→Nat→Rat}{t:cr}{h:Nat→Nat}(NE:n≤N)(a:o4 m n N A t bE h){r k:Nat}(ap:r<bE)(ba:k<n)(aT:n≤t.B (h r))(ak:t.T (h r) k≠0):o4 m n N A (t.cq (h r) k) bE h:=by
 have cF:=a.z (h r) (a.lt r ap) aT
 have dX : ∀i,(t.cq (h r) k).T i N=t.T i N:=fun i=>by
  simp only [cr.cq]
  split
  ·rename_i e;rw [e,cF];grind
  ·rw [cF];grind
 refine ⟨⟨a.inv.ok.cq (a.lt r ap) (by omega) ak,fun i ah=>by rw [dX];exact a.inv.lH i ah,?_⟩,fun i ah gU=> ?_,a.le,a.lt,a.inj,fun d bK hU=> ?_⟩
 ·rw [a.inv.ok.vE (a.lt r ap) (by omega)]
  have:=a.inv.rE
  grind
 ·rw [dX]
  simp only [cr.cq] at gU
  by_cases c:i=h r
  ·rw [if_pos c] at gU;omega
  ·rw [if_neg c] at gU;exact a.z i ah gU
 ·obtain ⟨h1,o⟩:=a.dead d bK hU
  have c8:d≠h r:=fun e=>hU r ap e.symm
  simp only [cr.cq,if_neg c8]
  refine ⟨h1,fun j aE=> ?_⟩
  rw [o j aE,o k ba];grind
theorem ab0 {m n N:Nat}{A:Nat→Nat→Rat}(s:Small m N A)(f5:N<1000)(NE:n≤N)(free:List Bool){t:cr}(cj:k2 m N A t)(cF:∀i,i<m→n≤t.B i→t.T i N=0){fo:List (List bx)}(hy:m5 m N m (fun i=>i) (hz m A t) t fo):
 ∃dw bE h lb,z6 (n:Int) (ca (hz m A t)).c0 (ca (hz m A t)).cN (N:Int) (hB m N fun i=>i) fo (dK m t) free=some ((ca (hz m A dw)).c0,(ca (hz m A dw)).cN,hB bE N h,lb,dK bE (jc h dw)) ∧
  o4 m n N A dw bE h∧(∀i,i<bE→dw.B (h i)<n)∧m5 bE N m h (hz m A dw) (jc h dw) lb:=by
 have hm:=s.hm
 unfold z6 HH
 obtain ⟨x,e,dw,bE,h,lb,rfl,h1,o,af⟩:=jj (f:=fun w:Int×Bool×(List Int)×(List bF)×(List (List bx))×(List Int)=>zU (n:Int) (N:Int) free w.1 w.2.1 w.2.2.1 w.2.2.2.1 w.2.2.2.2.1 w.2.2.2.2.2)
  (fun w=> ∃(i bE:Nat) (h:Nat→Nat) (t:cr) (p:List (List bx)),w=((i:Int),(ca (hz m A t)).c0,(ca (hz m A t)).cN,hB bE N h,p,dK bE (jc h t))∧i≤bE∧o4 m n N A t bE h∧(∀q,q<i→t.B (h q)<n)∧m5 bE N m h (hz m A t) (jc h t) p)
  (fun w=>w.2.2.2.1.length-w.1.toNat)
  (fun x=> ∃dw bE h lb,x=((ca (hz m A dw)).c0,(ca (hz m A dw)).cN,hB bE N h,lb,dK bE (jc h dw))∧o4 m n N A dw bE h∧(∀i,i<bE→dw.B (h i)<n)∧m5 bE N m h (hz m A dw) (jc h dw) lb)
  (fun w hw=>by
    obtain ⟨i,bE,h,t,p,rfl,ah,bJ,bb,ak⟩:=hw
    have lf:=bJ.le
    have s9:(hB bE N h).length=bE:=c6 ..
    have NF:(dK bE (jc h t)).length=bE:=c6 ..
    simp only
    unfold zU
    by_cases c:i<bE
    ·left
     have g1:0≤(i:Int)∧(i:Int)<((dK bE (jc h t)).length:Nat):=by rw [NF];omega
     have g2:(dK bE (jc h t))[(0+((i:Int)).toNat)]? = some ((t.B (h i):Nat):Int):=by rw [Int.toNat_natCast];exact iA c
     by_cases Gk:t.B (h i)<n
     ·refine ⟨(((i+1:Nat):Int),(ca (hz m A t)).c0,(ca (hz m A t)).cN,hB bE N h,p,dK bE (jc h t)),dG (by rw [s9];omega) (bI g1 (aP g2 (dG (by omega) (by rw [fA (by omega)])))),⟨i+1,bE,h,t,p,rfl,by omega,bJ,fun q nD=> ?_,ak⟩,by simp only [s9];omega⟩
      by_cases e:q=i
      ·rw [e];exact Gk
      ·exact bb q (by omega)
     ·obtain ⟨k,lk,kx,oJ,NU⟩:=aaz f5 NE (bJ.rY s) ak c (ca (hz m A t)).c0 (ca (hz m A t)).cN (N:Int) (dK bE (jc h t)) free
      by_cases NV:k<n
      ·have NG:t.T (h i) k≠0:=oJ NV
       obtain ⟨ku,e1,aD⟩:=RY (by omega) f5 bJ.inj (bJ.rY s) (bJ.vM s c (by omega) NG) ak (N:Int) free
       have us:pb (hz m A t) (jc h t) i k=hz m A (t.cq (h i) k):=Mc bJ.inv.ok bJ.inv.rE (bJ.lt i c) (by omega) NG
       have agO:dK bE ((jc h t).cq i k)=dK bE (jc h (t.cq (h i) k)):=fj fun q nD=>by
        have:=(Bm (t:=t) (k:=k) (bJ.inj q nD i c)).2
        rw [this]
       rw [us,agO] at e1
       rw [us] at aD
       refine ⟨(((i+1:Nat):Int),(ca (hz m A (t.cq (h i) k))).c0,(ca (hz m A (t.cq (h i) k))).cN,hB bE N h,ku,dK bE (jc h (t.cq (h i) k))),dG (by rw [s9];omega) (bI g1 (aP g2 (d4 (by omega) (aP lk (dG (by omega) (aP e1 (by rw [fA (by omega)]))))))),⟨i+1,bE,h,t.cq (h i) k,ku,rfl,by omega,bJ.cq NE c NV (by omega) NG,fun q nD=> ?_,aD.len,fun q nD=> ?_⟩,by simp only [s9];omega⟩
       ·simp only [cr.cq]
        split
        ·exact NV
        ·rename_i c8
         have:q≠i:=fun e=>c8 (by rw [e])
         exact bb q (by omega)
       ·rw [aD.row q nD]
        congr 1
        exact fj fun j _=>by rw [(Bm (t:=t) (k:=k) (bJ.inj q nD i c)).1 j]
      ·have NC:k=n:=by omega
       have C8:R ((i:Int)+1)=((i+1:Nat):Int):=fA (by omega)
       have F4:(((hB bE N h).drop (0+(i+1))).take (bE-(i+1))).length=bE-(i+1):=by rw [List.length_take,List.length_drop,s9];omega
       have CP:(((dK bE (jc h t)).drop (0+(i+1))).take (bE-(i+1))).length=bE-(i+1):=by rw [List.length_take,List.length_drop,NF];omega
       have br:(hB bE N h).take (i-0)++((hB bE N h).drop (0+(i+1))).take (bE-(i+1))=hB (bE-1) N (skip i h):=Qu c _
       have eu:(dK bE (jc h t)).take (i-0)++((dK bE (jc h t)).drop (0+(i+1))).take (bE-(i+1))=dK (bE-1) (jc (skip i h) t):=Qu c _
       refine ⟨((i:Int),(ca (hz m A t)).c0,(ca (hz m A t)).cN,hB (bE-1) N (skip i h),p,dK (bE-1) (jc (skip i h) t)),dG (by rw [s9];omega) (bI g1 (aP g2 (d4 (by omega) (aP lk (d4 (by omega) ?_))))),⟨i,bE-1,skip i h,t,p,rfl,by omega,⟨bJ.inv,bJ.z,by omega,fun q nD=> ?_,fun q nD a7 zh e=> ?_,fun d bK hU=> ?_⟩,fun q nD=> ?_,ak.len,fun q nD=> ?_⟩,?_⟩
       ·rw [C8,Int.toNat_natCast,Int.toNat_natCast,s9,NF,F4,CP,br,eu]
        exact bI (by omega) (bI (by omega) (bI (by omega) (bI (by omega) (bI (by omega) (bI (by omega) (bI (by omega) (bI (by omega) (bI (by omega) (bI (by omega) (bI (by omega) (bI (by omega) rfl)))))))))))
       ·simp only [skip];split<;>exact bJ.lt _ (by omega)
       ·simp only [skip] at e
        have:=bJ.inj _ (by split<;>omega) _ (by split<;>omega) e
        split at this<;>split at this<;>omega
       ·by_cases Uz:d=h i
        ·rw [Uz]
         exact ⟨by omega,fun j aE=>NU j (by omega)⟩
        ·refine bJ.dead d bK fun q nD=> ?_
         by_cases bp:q<i
         ·have:=hU q (by omega);simp only [skip] at this;rw [if_pos bp] at this;exact this
         ·by_cases ck:q=i
          ·rw [ck];exact fun e=>Uz e.symm
          ·have:=hU (q-1) (by omega);simp only [skip] at this;rw [if_neg (by omega),show q-1+1=q by omega] at this;exact this
       ·simp only [skip];rw [if_pos nD];exact bb q nD
       ·simp only [skip]
        by_cases bp:q<i
        ·rw [if_pos bp,ak.row q (by omega)];congr 1
         exact fj fun j _=>by simp only [jc,skip];rw [if_pos bp]
        ·rw [if_neg bp,ak.row (q+1) (by omega)];congr 1
         exact fj fun j _=>by simp only [jc,skip];rw [if_neg bp]
       ·simp only [s9,show (hB (bE-1) N (skip i h)).length=bE-1 from c6 ..];omega
    ·right
     have agh:i=bE:=by omega
     subst agh
     exact ⟨_,d4 (by rw [s9];omega) rfl,t,i,h,p,rfl,bJ,bb,ak⟩)
  ((0:Int),(ca (hz m A t)).c0,(ca (hz m A t)).cN,hB m N (fun i=>i),fo,dK m t)
  ⟨0,m,fun i=>i,t,fo,rfl,by omega,⟨cj,cF,Nat.le_refl _,fun i ah=>ah,fun i _ k _ e=>e,fun d bK hU=>(hU d bK rfl).elim⟩,fun q bb=>by omega,hy.len,hy.row⟩
 exact ⟨dw,bE,h,lb,aP e rfl,h1,o,af⟩
theorem RZ:(⟨false,([]:List Int)⟩:bx)=ca 0:=by
 show _=ho (0:Rat).num
 rw [show (0:Rat).num=0 from rfl]
 unfold ho
 rw [show L ((0:Int).natAbs:Int)=[] from tN.2 (by simp)];rfl
theorem LS {α:Type}(l:List α)(x:α):(l++[x])[l.length]? = some x:=by simp
theorem yV {α:Type}(l:List α)(x y:α):(l++[x]).set l.length y=l++[y]:=by simp
theorem R0 {p:hN}{m n:Nat}{a:Nat→Nat→Int}{b:Nat→Int}(h:mw p m n a b){i:Nat}(ah:i<m):ye p i=some (bd n (a i)):=by
 have:=Mb h ah
 unfold u4 at this
 unfold ye
 exact this
theorem aaa {p:hN}{m n:Nat}{a:Nat→Nat→Int}{b:Nat→Int}(h:mw p m n a b){i:Nat}(ah:i<m)(aT:b i<0)(x0:Int)(mR:Bool)(hg:List Int)(a7:List bF)(cC:List Int)(dr:List Bool)(P:List (List bx)):
 D8 p.fz p.eh p.dt p.dM p.hZ x0 (i:Int) P.length (n+m+1) (bd n (a i)) (len_ eI (bd n (a i))) mR hg a7 cC dr 0 (P++[bd (n+m+1) fun _=>ca 0])=some (P++[bd (n+m+1) fun j=>if j<n then ca (dH m n a b i j) else ca 0]):=by
 have hm:=h.hm
 have a5:=h.a5
 have b6:kp (b i) = -1:=by unfold kp;rw [if_pos aT]
 unfold D8
 rw [fT,c6]
 obtain ⟨s1,e1,-⟩:=ik (f:=fun w:Int×List (List bx)=>xK p.fz p.eh p.dt p.dM p.hZ x0 (i:Int) P.length (n+m+1) (bd n (a i)) ((n:Nat):Int) mR hg a7 cC dr w.1 w.2)
  (fun (k:Nat) (_:Unit)=>((k:Int),P++[bd (n+m+1) fun j=>if j<k then ca (dH m n a b i j) else ca 0])) n (fun _ _=>True) (fun _=>P++[bd (n+m+1) fun j=>if j<n then ca (dH m n a b i j) else ca 0])
  (fun k ba _ _=>by
    refine ⟨(),?_,trivial⟩
    have bJ:=h.tk i ah k ba
    have e:R ((-1:Int)*a i k)=kz m n a b i k:=by
     rw [cw (by omega) (by omega)];unfold kz;rw [if_pos ba,b6]
    unfold xK
    refine dG (by simp only;omega) (bI (by rw [c6];simp only;omega) (aP (x:=a i k) (by simp only;rw [Int.toNat_natCast];exact gn ba) (aP (x:=ca (dH m n a b i k)) (by rw [e];exact ss (by have:=sM h ah k;rw [mU];omega)) (aP (LS _ _) (bI (by simp only;omega) (aP (by simp only;rw [Int.toNat_natCast];exact iA (by omega)) ?_))))))
    simp only
    rw [fA (by omega),Int.toNat_natCast,Nat.zero_add,lo,yV]
    congr 5
    refine fj fun j _=> ?_
    by_cases bp:j=k
    ·subst bp;rw [if_pos rfl,if_pos (by omega)]
    ·rw [if_neg bp]
     by_cases ck:j<k
     ·rw [if_pos ck,if_pos (by omega)]
     ·rw [if_neg ck,if_neg (by omega)])
  (fun _ _=>by unfold xK;exact d4 (by simp) rfl) () trivial
 have e0:(bd (n+m+1) fun j=>if j<0 then ca (dH m n a b i j) else ca 0)=bd (n+m+1) fun _=>ca 0:=fj fun j _=>by rw [if_neg (by omega)]
 rw [e0] at e1
 exact e1
theorem aab {p:hN}{m n:Nat}{a:Nat→Nat→Int}{b:Nat→Int}(h:mw p m n a b){i:Nat}(ah:i<m)(aT:¬b i<0)(x0:Int)(mR:Bool)(hg:List Int)(a7:List bF)(cC:List Int)(dr:List Bool)(P:List (List bx)):
 D9 p.fz p.eh p.dt p.dM p.hZ x0 (i:Int) P.length (n+m+1) (bd n (a i)) (len_ eI (bd n (a i))) mR hg a7 cC dr 0 (P++[bd (n+m+1) fun _=>ca 0])=some (P++[bd (n+m+1) fun j=>if j<n then ca (dH m n a b i j) else ca 0]):=by
 have hm:=h.hm
 have a5:=h.a5
 have b6:kp (b i)=1:=by unfold kp;rw [if_neg aT]
 unfold D9
 rw [fT,c6]
 obtain ⟨s1,e1,-⟩:=ik (f:=fun w:Int×List (List bx)=>xL p.fz p.eh p.dt p.dM p.hZ x0 (i:Int) P.length (n+m+1) (bd n (a i)) ((n:Nat):Int) mR hg a7 cC dr w.1 w.2)
  (fun (k:Nat) (_:Unit)=>((k:Int),P++[bd (n+m+1) fun j=>if j<k then ca (dH m n a b i j) else ca 0])) n (fun _ _=>True) (fun _=>P++[bd (n+m+1) fun j=>if j<n then ca (dH m n a b i j) else ca 0])
  (fun k ba _ _=>by
    refine ⟨(),?_,trivial⟩
    have bJ:=h.tk i ah k ba
    have e:R ((1:Int)*a i k)=kz m n a b i k:=by
     rw [cw (by omega) (by omega)];unfold kz;rw [if_pos ba,b6]
    unfold xL
    refine dG (by simp only;omega) (bI (by rw [c6];simp only;omega) (aP (x:=a i k) (by simp only;rw [Int.toNat_natCast];exact gn ba) (aP (x:=ca (dH m n a b i k)) (by rw [e];exact ss (by have:=sM h ah k;rw [mU];omega)) (aP (LS _ _) (bI (by simp only;omega) (aP (by simp only;rw [Int.toNat_natCast];exact iA (by omega)) ?_))))))
    simp only
    rw [fA (by omega),Int.toNat_natCast,Nat.zero_add,lo,yV]
    congr 5
    refine fj fun j _=> ?_
    by_cases bp:j=k
    ·subst bp;rw [if_pos rfl,if_pos (by omega)]
    ·rw [if_neg bp]
     by_cases ck:j<k
     ·rw [if_pos ck,if_pos (by omega)]
     ·rw [if_neg ck,if_neg (by omega)])
  (fun _ _=>by unfold xL;exact d4 (by simp) rfl) () trivial
 have e0:(bd (n+m+1) fun j=>if j<0 then ca (dH m n a b i j) else ca 0)=bd (n+m+1) fun _=>ca 0:=fj fun j _=>by rw [if_neg (by omega)]
 rw [e0] at e1
 exact e1
theorem q3 {α:Type}(n:Nat)(x:α):List.replicate n x=bd n fun _=>x:=by
 apply List.ext_getElem?
 intro i
 by_cases c:i<n
 ·rw [gn c];simp [c]
 ·rw [List.getElem?_eq_none_iff.2 (by simp;omega),List.getElem?_eq_none_iff.2 (by rw [c6];omega)]
theorem PN {p:hN}{m n:Nat}{a:Nat→Nat→Int}{b:Nat→Int}(h:mw p m n a b)(mR:Bool)(hg:List Int)(dr:List Bool):
 Ea p.fz p.eh p.dt p.dM p.hZ ((n+m:Nat):Int) mR hg dr 0 ([]:List bF) ([]:List (List bx)) ([]:List Int)=some (hB m (n+m) (fun i=>i),bd m (fun i=>bd (n+m+1) fun j=>ca (dH m n a b i j)),dK m (iE m n a b)):=by
 have hm:=h.hm
 have a5:=h.a5
 unfold Ea
 obtain ⟨s,e,-⟩:=ik (f:=fun w:Int×(List bF)×(List (List bx))×(List Int)=>xM p.fz p.eh p.dt p.dM p.hZ ((n+m:Nat):Int) mR hg dr w.1 w.2.1 w.2.2.1 w.2.2.2)
  (fun (i:Nat) (_:Unit)=>((i:Int),bd i (fun k=>(some (k,n+m+1):bF)),bd i (fun i=>bd (n+m+1) fun j=>ca (dH m n a b i j)),bd i (fun k=>((n+k:Nat):Int)))) m (fun _ _=>True)
  (fun _=>(hB m (n+m) (fun i=>i),bd m (fun i=>bd (n+m+1) fun j=>ca (dH m n a b i j)),dK m (iE m n a b)))
  (fun i ah _ _=>by
    refine ⟨(),?_,trivial⟩
    have aT:=h.wJ i ah
    have jV:R (((n+m:Nat):Int)+1)=((n+m+1:Nat):Int):=fA (by omega)
    have hw:R (p.eh+(i:Int))=((n+i:Nat):Int):=by rw [h.gE,← Int.natCast_add,cw (by omega) (by omega)]
    have Uf:(bd i (fun i=>bd (n+m+1) fun j=>ca (dH m n a b i j))).length=i:=c6 ..
    have qa:kz m n a b i (n+m)=kp (b i)*b i:=by unfold kz;rw [if_neg (by omega),if_pos rfl]
    have dN:((bd (n+m+1) fun j=>if j<n then ca (dH m n a b i j) else ca 0).set (n+i) (ca ((1:Int):Rat))).set (n+m) (ca (dH m n a b i (n+m)))=bd (n+m+1) fun j=>ca (dH m n a b i j):=by
     rw [lo,lo]
     refine fj fun j aE=> ?_
     by_cases bp:j=n+m
     ·rw [if_pos bp,bp]
     ·rw [if_neg bp]
      by_cases ck:j=n+i
      ·rw [if_pos ck,ck,sA ah,if_pos rfl];rfl
      ·rw [if_neg ck]
       by_cases jJ:j<n
       ·rw [if_pos jJ]
       ·rw [if_neg jJ]
        obtain ⟨k,rfl⟩ : ∃k,j=n+k:=⟨j-n,by omega⟩
        rw [sA (by omega),if_neg (by omega)]
    unfold xM
    rw [jV,hw,Int.toNat_natCast]
    refine dG (by simp only;rw [h.rows];omega) (bI (by omega) (bI (by simp only;rw [h.wK];omega) (aP (x:=b i) (by first|exact h.zg i ah|(rw [Int.toNat_natCast];exact h.zg i ah)|(simp only;rw [Int.toNat_natCast];exact h.zg i ah)) ?_)))
    have fin:(some (Sum.inl (R ((i:Int)+1),(bd i (fun k=>(some (k,n+m+1):bF)))++[some (i,n+m+1)],(bd i (fun i=>bd (n+m+1) fun j=>ca (dH m n a b i j)))++[bd (n+m+1) fun j=>ca (dH m n a b i j)],(bd i fun k=>((n+k:Nat):Int))++[((n+i:Nat):Int)])):Option ((Int×(List bF)×(List (List bx))×(List Int))⊕((List bF)×(List (List bx))×(List Int)))) =
     some (Sum.inl (((i+1:Nat):Int),bd (i+1) (fun k=>(some (k,n+m+1):bF)),bd (i+1) (fun i=>bd (n+m+1) fun j=>ca (dH m n a b i j)),bd (i+1) (fun k=>((n+k:Nat):Int)))):=by
     rw [fA (by omega),ln i (fun k=>(some (k,n+m+1):bF)),ln i (fun i=>bd (n+m+1) fun j=>ca (dH m n a b i j)),ln i (fun k=>((n+k:Nat):Int))]
    have U : ∀(P:List (List bx)) (F:List bx→Option ((Int×(List bF)×(List (List bx))×(List Int))⊕((List bF)×(List (List bx))×(List Int)))) (x:List bx) r,F x=r→(P++[x])[P.length]? >>= F=r:=fun P F x r ul=>aP (LS P x) ul
    refine oI (fun c=> ?_) (fun c=> ?_)
    ·have ny:b i<0:=of_decide_eq_true c
     have b6:kp (b i) = -1:=by unfold kp;rw [if_pos ny]
     refine aP (R0 h ah) (aP (by rw [RZ,q3];exact aaa h ah ny _ _ _ _ _ _ _) (aP (ss (n:=1) (by rw [mU];omega)) (U _ _ _ _ ?_)))
     refine bI (by omega) (aP (x:=ca 0) (by rw [Int.toNat_natCast,iA (by omega),if_neg (by omega)]) (aP (x:=ca (dH m n a b i (n+m))) (by
      have e:R ((-1:Int)*b i)=kz m n a b i (n+m):=by rw [qa,b6,cw (by omega) (by omega)]
      rw [e];exact ss (by have:=sM h ah (n+m);rw [mU];omega)) ?_))
     rw [yV,Int.toNat_natCast,Nat.zero_add,Int.toNat_natCast,Nat.zero_add]
     refine U _ _ _ _ (bI (by omega) ?_)
     obtain ⟨v,bk⟩ : ∃v,((bd (n+m+1) fun j=>if j<n then ca (dH m n a b i j) else ca 0).set (n+i) (ca ((1:Int):Rat)))[n+m]? = some v:=by
      rw [lo,gn (by omega)];exact ⟨_,rfl⟩
     refine aP bk (bI (by simp only [List.length_append,c6,List.length_cons,List.length_nil];omega) (bI (by simp only [List.length_append,c6,List.length_cons,List.length_nil];omega) ?_))
     rw [yV]
     simp only [Int.toNat_natCast,Nat.zero_add]
     rw [dN,Uf]
     exact fin
    ·have ny : ¬b i<0:=of_decide_eq_false c
     have b6:kp (b i)=1:=by unfold kp;rw [if_neg ny]
     refine aP (R0 h ah) (aP (by rw [RZ,q3];exact aab h ah ny _ _ _ _ _ _ _) (aP (ss (n:=1) (by rw [mU];omega)) (U _ _ _ _ ?_)))
     refine bI (by omega) (aP (x:=ca 0) (by rw [Int.toNat_natCast,iA (by omega),if_neg (by omega)]) (aP (x:=ca (dH m n a b i (n+m))) (by
      have e:R ((1:Int)*b i)=kz m n a b i (n+m):=by rw [qa,b6,cw (by omega) (by omega)]
      rw [e];exact ss (by have:=sM h ah (n+m);rw [mU];omega)) ?_))
     rw [yV,Int.toNat_natCast,Nat.zero_add,Int.toNat_natCast,Nat.zero_add]
     refine U _ _ _ _ (bI (by omega) ?_)
     obtain ⟨v,bk⟩ : ∃v,((bd (n+m+1) fun j=>if j<n then ca (dH m n a b i j) else ca 0).set (n+i) (ca ((1:Int):Rat)))[n+m]? = some v:=by
      rw [lo,gn (by omega)];exact ⟨_,rfl⟩
     refine aP bk (bI (by simp only [List.length_append,c6,List.length_cons,List.length_nil];omega) (bI (by simp only [List.length_append,c6,List.length_cons,List.length_nil];omega) ?_))
     rw [yV]
     simp only [Int.toNat_natCast,Nat.zero_add]
     rw [dN,Uf]
     exact fin)
  (fun _ _=>by unfold xM;exact d4 (by simp only;rw [h.rows];omega) rfl) () trivial
 exact e
def qg (n j:Nat):Int:=if n≤j then -1 else 0
theorem St {m n j:Nat}(aE:j<n+m):((qg n j:Int):Rat)=gS m n j:=by
 unfold qg gS
 by_cases c:n≤j
 ·rw [if_pos c,if_pos ⟨c,aE⟩];rfl
 ·rw [if_neg c,if_neg (by omega)];rfl
theorem R1 {m n:Nat}{t:cr}(gU:∀i,i<m→t.B i<n+m){j:Nat}(aE:j<n+m):t.c7 m (fun j=>((qg n j:Int):Rat)) j=t.c7 m (gS m n) j:=by
 unfold cr.c7
 simp only
 rw [St aE,gH (g:=fun i=>gS m n (t.B i)*t.T i j) fun i ah=>by rw [St (gU i ah)]]
theorem P3 {p:hN}{m n:Nat}{a:Nat→Nat→Int}{b:Nat→Int}(h:mw p m n a b)(x0:Int)(mR:Bool)(hg:List Int)(a7:List bF)(bZ:List (List bx))(cC:List Int):
 Eb p.fz p.eh p.dt p.dM p.hZ x0 ((n+m:Nat):Int) mR hg a7 bZ cC 0 (bd (n+m) fun _=>(0:Int)) (bd (n+m) fun _=>false)=some (bd (n+m) (qg n),bd (n+m) fun j=>decide (j<n)):=by
 have hm:=h.hm
 have a5:=h.a5
 unfold Eb
 obtain ⟨s,e,-⟩:=ik (f:=fun w:Int×List Int×List Bool=>xN p.fz p.eh p.dt p.dM p.hZ x0 ((n+m:Nat):Int) mR hg a7 bZ cC w.1 w.2.1 w.2.2)
  (fun (k:Nat) (_:Unit)=>((k:Int),(bd (n+m) fun j=>if j<k then qg n j else 0),bd (n+m) fun j=>if j<k then decide (j<n) else false)) (n+m) (fun _ _=>True) (fun _=>(bd (n+m) (qg n),bd (n+m) fun j=>decide (j<n)))
  (fun k ba _ _=>by
    refine ⟨(),?_,trivial⟩
    have aD:(bd (n+m) fun j=>if j<k then decide (j<n) else false).set (0+((k:Int)).toNat) (decide (k<n))=bd (n+m) fun j=>if j<k+1 then decide (j<n) else false:=by
     rw [Int.toNat_natCast,Nat.zero_add,lo]
     refine fj fun j _=> ?_
     by_cases c:j=k
     ·subst c;rw [if_pos rfl,if_pos (by omega)]
     ·rw [if_neg c]
      by_cases ck:j<k
      ·rw [if_pos ck,if_pos (by omega)]
      ·rw [if_neg ck,if_neg (by omega)]
    have NW:decide ((k:Int)<p.eh)=decide (k<n):=by rw [h.gE];simp
    unfold xN
    simp only
    rw [NW,aD,fA (by omega)]
    refine dG (by omega) (bI (by rw [c6];omega) (bI (by rw [c6,Int.toNat_natCast];omega) ?_))
    by_cases c:n≤k
    ·refine dG (by rw [h.gE];omega) (bI (by rw [c6];omega) (bI (by rw [c6,Int.toNat_natCast];omega) ?_))
     rw [Int.toNat_natCast,Nat.zero_add,lo]
     congr 4
     refine fj fun j _=> ?_
     by_cases bp:j=k
     ·subst bp;rw [if_pos rfl,if_pos (by omega)];unfold qg;rw [if_pos c]
     ·rw [if_neg bp]
      by_cases ck:j<k
      ·rw [if_pos ck,if_pos (by omega)]
      ·rw [if_neg ck,if_neg (by omega)]
    ·refine d4 (by rw [h.gE];omega) ?_
     congr 4
     refine fj fun j _=> ?_
     by_cases bp:j=k
     ·subst bp;rw [if_neg (by omega),if_pos (by omega)];unfold qg;rw [if_neg c]
     ·by_cases ck:j<k
      ·rw [if_pos ck,if_pos (by omega)]
      ·rw [if_neg ck,if_neg (by omega)])
  (fun _ _=>by
    unfold xN
    refine d4 (by simp) ?_
    simp only
    congr 3
    ·exact fj fun j aE=>by rw [if_pos aE]
    ·exact fj fun j aE=>by rw [if_pos aE]) () trivial
 have Dm:(bd (n+m) fun j=>if j<0 then qg n j else 0)=bd (n+m) fun _=>(0:Int):=fj fun j _=>by rw [if_neg (by omega)]
 have agP:(bd (n+m) fun j=>if j<0 then decide (j<n) else false)=bd (n+m) fun _=>false:=fj fun j _=>by rw [if_neg (by omega)]
 rw [Dm,agP] at e
 exact e
theorem aac {p:hN}{m n:Nat}{a:Nat→Nat→Int}{b:Nat→Int}(h:mw p m n a b){w:Rat}{t:cr}(f:px m (n+m) w t){fo:List (List bx)}(hy:m5 m (n+m) m (fun i=>i) w t fo)(mR:Bool)(hg:List Int)(x0:Int)(q:List Bool):
 ∃r,Ec p.fz p.eh p.dt p.dM p.hZ ((n+m:Nat):Int) ((m:Nat):Int) mR hg x0 (dK m t) (hB m (n+m) fun i=>i) fo q 0=some r∧((r = .inr ()∧ ∃i,i<m∧n≤t.B i∧0<t.T i (n+m))∨(r = .inl ()∧ ∀i,i<m→n≤t.B i→ ¬0<t.T i (n+m))):=by
 have hm:=h.hm
 have a5:=h.a5
 have hw:=f.pos
 unfold Ec
 exact pK (f:=fun w:Int=>xO p.fz p.eh p.dt p.dM p.hZ ((n+m:Nat):Int) ((m:Nat):Int) mR hg x0 (dK m t) (hB m (n+m) fun i=>i) fo q w) (fun (i:Nat) (_:Unit)=>(i:Int)) m (fun k _=> ∀i,i<k→n≤t.B i→ ¬0<t.T i (n+m)) _
  (fun i ah _ cI=>by
    have b6:=tG ((f.iy i ah (n+m) (Nat.le_refl _)).mono (sR (by have:=qv;generalize fS=q at *;omega)))
    have g1:0≤(i:Int)∧(i:Int)<((dK m t).length:Nat):=by unfold dK;rw [c6];omega
    have g2:(dK m t)[(0+((i:Int)).toNat)]? = some ((t.B i:Nat):Int):=by rw [Int.toNat_natCast];exact iA ah
    have g3:0≤(i:Int)∧(i:Int)<((hB m (n+m) fun i=>i).length:Nat):=by unfold hB;rw [c6];omega
    have g4:(hB m (n+m) fun i=>i)[(0+((i:Int)).toNat)]? = some (some (i,n+m+1)):=by rw [Int.toNat_natCast];exact iA ah
    unfold xO
    by_cases Gk:n≤t.B i
    ·by_cases kJ:0<t.T i (n+m)
     ·right
      exact ⟨_,dG (by omega) (bI g1 (aP g2 (dG (by rw [h.gE];omega) (bI g3 (aP g4 (aP (x:=(i,n+m+1)) rfl (aP (hy.row i ah) (bI (by simp only;omega) (aP (x:=ca (t.T i (n+m)*w)) (by rw [Int.toNat_natCast];exact iA (by omega)) (aP b6 (dG (by rw [yU hw];exact q2.2 kJ) rfl))))))))))),.inl ⟨rfl,i,ah,Gk,kJ⟩⟩
     ·left
      refine ⟨(),dG (by omega) (bI g1 (aP g2 (dG (by rw [h.gE];omega) (bI g3 (aP g4 (aP (x:=(i,n+m+1)) rfl (aP (hy.row i ah) (bI (by simp only;omega) (aP (x:=ca (t.T i (n+m)*w)) (by rw [Int.toNat_natCast];exact iA (by omega)) (aP b6 (d4 (by rw [yU hw];exact fun c=>kJ (q2.1 c)) (by rw [fA (by omega)])))))))))))),fun k ba=> ?_⟩
      by_cases e:k=i
      ·rw [e];exact fun _=>kJ
      ·exact cI k (by omega)
    ·left
     refine ⟨(),dG (by omega) (bI g1 (aP g2 (d4 (by rw [h.gE];omega) (by rw [fA (by omega)])))),fun k ba=> ?_⟩
     by_cases e:k=i
     ·rw [e];exact fun c=>(Gk c).elim
     ·exact cI k (by omega))
  (fun _ cI=>⟨_,by unfold xO;exact d4 (by omega) rfl,.inr ⟨rfl,cI⟩⟩) () (fun k ba=>by omega)
theorem aad {p:hN}{m n:Nat}{a:Nat→Nat→Int}{b:Nat→Int}(h:mw p m n a b)(F:Nat→Bool)(mR:Bool)(hg:List Int)(x0:Int)(a7:List bF)(bZ:List (List bx))(cC:List Int):
 Ed p.fz p.eh p.dt p.dM p.hZ ((n+m:Nat):Int) mR hg x0 a7 bZ cC 0 (bd (n+m) F)=some (bd (n+m) fun j=>decide (j<n)):=by
 have hm:=h.hm
 have a5:=h.a5
 unfold Ed
 obtain ⟨s,e,-⟩:=ik (f:=fun w:Int×List Bool=>xP p.fz p.eh p.dt p.dM p.hZ ((n+m:Nat):Int) mR hg x0 a7 bZ cC w.1 w.2)
  (fun (k:Nat) (_:Unit)=>((k:Int),bd (n+m) fun j=>if j<k then decide (j<n) else F j)) (n+m) (fun _ _=>True) (fun _=>bd (n+m) fun j=>decide (j<n))
  (fun k ba _ _=>by
    refine ⟨(),?_,trivial⟩
    have NW:decide ((k:Int)<p.eh)=decide (k<n):=by rw [h.gE];simp
    unfold xP
    simp only
    rw [NW,fA (by omega)]
    refine dG (by omega) (bI (by rw [c6];omega) (bI (by rw [c6,Int.toNat_natCast];omega) ?_))
    rw [Int.toNat_natCast,Nat.zero_add,lo]
    congr 3
    refine fj fun j _=> ?_
    by_cases c:j=k
    ·subst c;rw [if_pos rfl,if_pos (by omega)]
    ·rw [if_neg c]
     by_cases ck:j<k
     ·rw [if_pos ck,if_pos (by omega)]
     ·rw [if_neg ck,if_neg (by omega)])
  (fun _ _=>by
    unfold xP
    refine d4 (by simp) ?_
    simp only
    congr 2
    exact fj fun j aE=>by rw [if_pos aE]) () trivial
 have Dm:(bd (n+m) fun j=>if j<0 then decide (j<n) else F j)=bd (n+m) F:=fj fun j _=>by rw [if_neg (by omega)]
 rw [Dm] at e
 exact e
theorem Ug {m n:Nat}{a:Nat→Nat→Int}{b:Nat→Int}:hz m (dH m n a b) (iE m n a b)=1:=by
 unfold hz;rw [Sl,if_pos (by grind)]
theorem acW {p:hN}{m n:Nat}{a:Nat→Nat→Int}{b:Nat→Int}(h:mw p m n a b):
 ∃r,AW p=some r∧((tQ m n a b∧ ∃t bE g fo,r = .inl ((ca (hz m (dH m n a b) t)).c0,(ca (hz m (dH m n a b) t)).cN,((n+m:Nat):Int),hB bE (n+m) g,dK bE (jc g t),bd (n+m) (fun j=>decide (j<n)),fo) ∧
  o4 m n (n+m) (dH m n a b) t bE g∧(∀i,i<bE→t.B (g i)<n)∧m5 bE (n+m) m g (hz m (dH m n a b) t) (jc g t) fo)∨(¬tQ m n a b∧r = .inr ())):=by
 have hm:=h.hm
 have a5:=h.a5
 have qe:=Lp h
 have f5:R (p.eh+p.fz)=((n+m:Nat):Int):=by rw [h.gE,h.rows,← Int.natCast_add,cw (by omega) (by omega)]
 have agi:m5 m (n+m) m (fun i=>i) (hz m (dH m n a b) (iE m n a b)) (iE m n a b) (bd m (fun i=>bd (n+m+1) fun j=>ca (dH m n a b i j))):=⟨c6 ..,fun i ah=>by
  rw [gn ah,Ug]
  congr 1
  exact fj fun j _=>by
   show ca (dH m n a b i j)=ca (dH m n a b i j*1)
   congr 1;grind⟩
 obtain ⟨q,bT,t,fo,pd,e,⟨cI,rfl⟩,hy,ez⟩:=aay (gA:=m) (m:=m) (N:=n+m) (M:=m) (A:=dH m n a b) hm (by omega) (h:=fun i=>i) (fun i _ k _ e=>e) (qg n) (fun j _=>by unfold qg;split<;>omega) (fun j=>decide (j<n))
  (fun w t=>k2 m (n+m) (dH m n a b) t∧w=hz m (dH m n a b) t) (fun w t cI=>⟨cI.1.ok,cI.1.lH,cI.2▸cI.1.rY qe⟩)
  (fun w t r s cI b=>by
    obtain ⟨h1,rfl⟩:=cI
    have ak:t.T r s≠0:=by have:=b.pos;grind
    exact ⟨h1.vM qe b.ap b.b6 ak,h1.gL b,Mc h1.ok h1.rE b.ap b.b6 ak⟩)
  (w:=hz m (dH m n a b) (iE m n a b)) (t:=iE m n a b) ⟨⟨RP,QM,Re⟩,rfl⟩ agi
 rw [Ug] at e
 have ae6 : ∀j,j<n→t.c7 m (gS m n) j≤0:=by
  rcases ez with ⟨-,ez,-⟩|⟨-,s,b6,-,dF,hU⟩
  ·intro j aE
   have:=ez j (by omega) (by simpa using aE)
   rw [R1 cI.ok.kb (by omega)] at this
   grind
  ·rw [R1 cI.ok.kb b6] at dF
   obtain ⟨i,ah,ak⟩:=PI cI.ok b6 dF
   exact (hU i ah ak).elim
 have e1:oK 1=some (ca 1):=by
  have:=ss (n:=1) (by rw [mU];omega)
  rw [show ((1:Int):Rat)=1 from rfl] at this
  exact this
 obtain ⟨r,r1,bV⟩:=aac h (cI.rY qe) hy (ca (hz m (dH m n a b) t)).c0 (ca (hz m (dH m n a b) t)).cN ((n+m:Nat):Int) (bd (n+m) pd)
 unfold AW
 rw [f5]
 rcases bV with ⟨rfl,i,ah,gU,iy⟩|⟨rfl,hU⟩
 ·have Cs : ¬tQ m n a b:=fun b6=>by
   have:=P0 cI.lH (Qn cI.ok cI.lH ae6 b6) cI.ok.kb i ah gU
   grind
  refine ⟨_,aP e1 (bI (by omega) (aP (PN h _ _ _) (bI (by omega) (aP (x:=(bd (n+m) (qg n),bd (n+m) fun j=>decide (j<n))) (by rw [Int.toNat_natCast,q3,q3];exact P3 h _ _ _ _ _ _) (aP e ?_))))),.inr ⟨Cs,rfl⟩⟩
  refine aP (x:= .inr ()) ?_ rfl
  simp only
  rw [show ((dK m t).length:Nat)=m from c6 ..]
  exact r1
 ·have cF : ∀i,i<m→n≤t.B i→t.T i (n+m)=0:=fun i ah gU=>by
   have h1:=hU i ah gU
   have o:=cI.lH i ah
   grind
  have b6:tQ m n a b:=PZ cI.ok cI.lH cF
  obtain ⟨dw,bE,g,lb,nK,qN,NQ,kc⟩:=ab0 (n:=n) qe (by omega) (by omega) (bd (n+m) fun j=>decide (j<n)) cI cF hy
  refine ⟨_,aP e1 (bI (by omega) (aP (PN h _ _ _) (bI (by omega) (aP (x:=(bd (n+m) (qg n),bd (n+m) fun j=>decide (j<n))) (by rw [Int.toNat_natCast,q3,q3];exact P3 h _ _ _ _ _ _) (aP e ?_))))),.inl ⟨b6,dw,bE,g,lb,rfl,qN,NQ,kc⟩⟩
  refine aP (x:= .inl ()) ?_ ?_
  ·simp only
   rw [show ((dK m t).length:Nat)=m from c6 ..]
   exact r1
  ·simp only
   rw [show ((bd (n+m) pd).length:Nat)=n+m from c6 ..]
   refine aP (aad h pd _ _ _ _ _ _) ?_
   rw [h.gE]
   exact aP nK rfl
end Go.Proofs.YtmeimpeaagmneabGreat
namespace Go.Proofs.YtmeimpeaagmneabGreat
set_option linter.unusedVariables false
set_option linter.unusedSimpArgs false
open Go Go.VL
structure pj (m:Nat) (u v:cr):Prop where
 T : ∀i,i<m→ ∀j,u.T i j=v.T i j
 B : ∀i,i<m→u.B i=v.B i
theorem pj.rY {m N:Nat}{w:Rat}{u v:cr}(s:pj m u v)(h:px m N w v):px m N w u :=
 ⟨h.pos,h.hw,fun i ah j aE=>by rw [s.T i ah];exact h.iy i ah j aE,fun i ah=>by rw [s.B i ah];exact h.gU i ah⟩
theorem pj.cq {m:Nat}{u v:cr}(s:pj m u v){r:Nat}(ap:r<m)(k:Nat):pj m (u.cq r k) (v.cq r k) where
 T:=fun i ah j=>by simp only [cr.cq,s.T i ah,s.T r ap]
 B:=fun i ah=>by simp only [cr.cq,s.B i ah]
theorem pj.vM {m N:Nat}{w:Rat}{u v:cr}(s:pj m u v){r k:Nat}(h:sS m N w v r k):sS m N w u r k :=
 ⟨h.ap,h.ba,by rw [s.T r h.ap];exact h.ak,fun i ah j aE=>by rw [(s.cq h.ap k).T i ah,s.T r h.ap];exact h.zL i ah j aE⟩
theorem pj.trans {m:Nat}{u v t:cr}(a:pj m u v)(b:pj m v t):pj m u t:=⟨fun i ah j=>(a.T i ah j).trans (b.T i ah j),fun i ah=>(a.B i ah).trans (b.B i ah)⟩
theorem adu {bE:Nat}{g:Nat→Nat}(inj:∀i,i<bE→ ∀k,k<bE→g i=g k→i=k)(t:cr){r:Nat}(ap:r<bE)(k:Nat):pj bE ((jc g t).cq r k) (jc g (t.cq (g r) k)) :=
 ⟨fun i ah j=>(Bm (t:=t) (k:=k) (inj i ah r ap)).1 j,fun i ah=>(Bm (t:=t) (k:=k) (inj i ah r ap)).2⟩
theorem o4.step {m n:Nat}{a:Nat→Nat→Int}{b:Nat→Int}{t:cr}{bE:Nat}{g:Nat→Nat}{K:Nat}{obj:Nat→Nat→Rat}{b8:Nat→Prop}(h:o4 m n (n+m) (dH m n a b) t bE g)(gU:∀i,i<bE→t.B (g i)<n){u:cr}(b6:pj bE u (jc g t)){r s:Nat}(di:ot bE (n+m) K obj b8 u r s)(vW:s<n):
 o4 m n (n+m) (dH m n a b) (t.cq (g r) s) bE g∧(∀i,i<bE→(t.cq (g r) s).B (g i)<n)∧pj bE (u.cq r s) (jc g (t.cq (g r) s)):=by
 have ap:=di.ap
 have ak:0<t.T (g r) s:=by have:=di.pos;rw [b6.T r ap] at this;exact this
 have C3:t.T (g r) s≠0:=by grind
 have Td:=(b6.cq ap s).trans (adu h.inj t ap s)
 have wL : ∀d,d<m→(∀i,i<bE→g i≠d)→ ∀j,(t.cq (g r) s).T d j=t.T d j∧(t.cq (g r) s).B d=t.B d:=fun d bK hU j=>by
  obtain ⟨d1,d2⟩:=h.dead d bK hU
  simp only [cr.cq]
  rw [if_neg fun e=>hU r ap e.symm,if_neg fun e=>hU r ap e.symm,d2 s vW]
  exact ⟨by grind,rfl⟩
 have py : ∀i,i<bE→(t.cq (g r) s).B (g i)<n:=fun i ah=>by
  simp only [cr.cq]
  split
  ·exact vW
  ·exact gU i ah
 have agj:(u.cq r s).ld bE (n+m):=di.Ck fun i ah=>by rw [b6.T i ah];exact h.inv.lH _ (h.lt i ah)
 refine ⟨⟨⟨h.inv.ok.cq (h.lt r ap) (by omega) C3,fun i ah=> ?_,?_⟩,fun i ah a5=> ?_,h.le,h.lt,h.inj,fun d bK hU=> ?_⟩,py,Td⟩
 ·by_cases b8 : ∃q,q<bE∧g q=i
  ·obtain ⟨q,bb,rfl⟩:=b8
   have:=agj q bb
   rw [Td.T q bb] at this;exact this
  ·rw [(wL i ah (fun q bb e=>b8 ⟨q,bb,e⟩) _).1];exact h.inv.lH i ah
 ·rw [h.inv.ok.vE (h.lt r ap) (by omega)]
  have:=h.inv.rE
  grind
 ·by_cases b8 : ∃q,q<bE∧g q=i
  ·obtain ⟨q,bb,rfl⟩:=b8
   have:=py q bb;omega
  ·have hU : ∀q,q<bE→g q≠i:=fun q bb e=>b8 ⟨q,bb,e⟩
   obtain ⟨e1,aD⟩:=wL i ah hU (n+m)
   rw [e1]
   rw [aD] at a5
   exact h.z i ah a5
 ·obtain ⟨d1,d2⟩:=h.dead d bK hU
  refine ⟨by rw [(wL d bK hU 0).2];exact d1,fun j aE=>by rw [(wL d bK hU j).1];exact d2 j aE⟩
structure Db (m n:Nat) (a:Nat→Nat→Int) (b:Nat→Int) (bE:Nat) (g:Nat→Nat) (lS:Nat→Nat→Rat) (dU:Nat→Bool) (w:Rat) (u:cr):Prop where
 b8 : ∃t,o4 m n (n+m) (dH m n a b) t bE g∧(∀i,i<bE→t.B (g i)<n)∧pj bE u (jc g t)∧w=hz m (dH m n a b) t
 lt:LT m n a b bE (n+m) u
 ok:gl bE bE (n+m) lS u
 agQ : ∀i,i<bE→dU (u.B i)=true
theorem Db.rY {m n:Nat}{a:Nat→Nat→Int}{b:Nat→Int}{bE:Nat}{g:Nat→Nat}{lS:Nat→Nat→Rat}{dU:Nat→Bool}{w:Rat}{u:cr}(qe:Small m (n+m) (dH m n a b))(h:Db m n a b bE g lS dU w u):px bE (n+m) w u:=by
 obtain ⟨t,h1,o,af,rfl⟩:=h.b8
 exact af.rY (h1.rY qe)
theorem Db.gL {m n:Nat}{a:Nat→Nat→Int}{b:Nat→Int}{bE:Nat}{g:Nat→Nat}{lS:Nat→Nat→Rat}{dU pd:Nat→Bool}{w:Rat}{u:cr}{obj:Nat→Nat→Rat}{K:Nat}(qe:Small m (n+m) (dH m n a b))(h:Db m n a b bE g lS pd w u)(CQ:∀j,j<n+m→dU j=true→j<n)(agk:∀j,dU j=true→pd j=true){r s:Nat}(di:ot bE (n+m) K obj (fun j=>dU j=true) u r s):
 sS bE (n+m) w u r s∧Db m n a b bE g lS pd (pb w u r s) (u.cq r s):=by
 obtain ⟨t,h1,o,af,av⟩:=h.b8
 have vW:=CQ s di.b6 di.FQ
 obtain ⟨g1,g2,g3⟩:=h1.step o af di vW
 have ak:=di.pos
 have Uh:t.T (g r) s≠0:=by rw [af.T r di.ap] at ak;show t.T (g r) s≠0;have:0<t.T (g r) s:=ak;grind
 refine ⟨av▸af.vM (h1.vM qe di.ap (by omega) Uh),⟨t.cq (g r) s,g1,g2,g3,?_⟩,h.lt.cq di.ap vW (by grind) (di.Ck h.lt.lH),di.ok h.ok,fun i ah=> ?_⟩
 ·rw [← Mc h1.inv.ok h1.inv.rE (h1.lt r di.ap) (show s<n+m by omega) Uh,av]
  unfold pb
  rw [af.T r di.ap];rfl
 ·simp only [cr.cq]
  split
  ·exact agk s di.FQ
  ·exact h.agQ i ah
def tV (k:Nat)(x:bC):List eJ:=(if x.gk=2 then [] else [⟨(k:Int),1⟩])++(if x.gk=1 then [] else [⟨(k:Int),-1⟩])
def lN (eb:List bC):Nat→List eJ
 | 0=>[]
 | n+1=>lN eb n++(match eb[n]? with
  | some x=>tV n x
  | none=>[])
theorem EQ (eb:List bC): ∀n,(lN eb n).length≤2*n
 | 0=>by simp [lN]
 | n+1=>by
  have:=EQ eb n
  rw [lN,List.length_append]
  have o:(match eb[n]? with
   | some x=>tV n x
   | none=>[]).length≤2:=by
   split
   ·rename_i x _;unfold tV;rw [List.length_append];split<;>split<;>simp
   ·simp
  omega
theorem Rs {eb:List bC}: ∀ {n:Nat} {c:eJ},n≤eb.length→c∈lN eb n→ ∃k:Nat,c.mY=k∧k<n∧(c.qz=1∨c.qz = -1)
 | 0,c,_,h=>by simp [lN] at h
 | n+1,c,a5,h=>by
  rw [lN,List.mem_append] at h
  rcases h with h|h
  ·obtain ⟨k,h1,o,af⟩:=Rs (by omega) h
   exact ⟨k,h1,by omega,af⟩
  ·rw [List.getElem?_eq_getElem (by omega)] at h
   simp only [tV,List.mem_append] at h
   rcases h with h|h
   ·split at h
    ·simp at h
    ·simp at h;subst h;exact ⟨n,rfl,by omega,.inl rfl⟩
   ·split at h
    ·simp at h
    ·simp at h;subst h;exact ⟨n,rfl,by omega,.inr rfl⟩
theorem abe (s:cl)(eo:s.bs.length≤1000):z0 s=some (lN s.bs s.bs.length):=by
 unfold z0 G9
 rw [fa]
 obtain ⟨x,e,-⟩:=ik (f:=fun w:Int×List eJ=>wY s.bs (s.bs.length:Nat) w.1 w.2) (fun (n:Nat) (_:Unit)=>((n:Int),lN s.bs n)) s.bs.length (fun _ _=>True) (fun _=>lN s.bs s.bs.length)
  (fun n a5 _ _=>by
    refine ⟨(),?_,trivial⟩
    have U:=List.getElem?_eq_getElem a5
    have aU:=EQ s.bs n
    have e1:lN s.bs (n+1)=lN s.bs n++tV n s.bs[n]:=by rw [lN,U]
    unfold wY
    refine dG (by simp only;omega) (bI (by simp only;omega) (aP (x:=s.bs[n]) (by simp only;rw [Int.toNat_natCast];exact U) ?_))
    simp only
    rw [fA (by omega),e1]
    unfold tV
    by_cases bp:s.bs[n].gk=2
    ·rw [if_pos bp]
     refine hF (zz bp) (fP (vY (by omega)) (bI (by simp only [List.length_append,List.length_cons,List.length_nil];omega) ?_))
     rw [if_neg (by omega)];simp
    ·rw [if_neg bp]
     refine fP (vY bp) (bI (by simp only [List.length_append,List.length_cons,List.length_nil];omega) ?_)
     by_cases ck:s.bs[n].gk=1
     ·refine hF (zz ck) ?_
      rw [if_pos ck];simp
     ·refine fP (vY ck) (bI (by simp only [List.length_append,List.length_cons,List.length_nil];omega) ?_)
      rw [if_neg ck];simp)
  (fun _ _=>by unfold wY;exact d4 (by simp) rfl) () trivial
 exact aP e rfl
theorem ZR (s:cl)(eo:s.bs.length≤1000):Ai s=some ((lN s.bs s.bs.length).map eJ.mY,(lN s.bs s.bs.length).map eJ.qz):=by
 unfold Ai Jt
 rw [fa]
 obtain ⟨x,e,-⟩:=ik (f:=fun w:Int×List Int×List Int=>xg s.bs (s.bs.length:Nat) w.1 w.2.1 w.2.2) (fun (n:Nat) (_:Unit)=>((n:Int),(lN s.bs n).map eJ.mY,(lN s.bs n).map eJ.qz)) s.bs.length (fun _ _=>True) (fun _=>((lN s.bs s.bs.length).map eJ.mY,(lN s.bs s.bs.length).map eJ.qz))
  (fun n a5 _ _=>by
    refine ⟨(),?_,trivial⟩
    have U:=List.getElem?_eq_getElem a5
    have aU:=EQ s.bs n
    have e1:lN s.bs (n+1)=lN s.bs n++tV n s.bs[n]:=by rw [lN,U]
    unfold xg
    refine dG (by simp only;omega) (bI (by simp only;omega) (aP (x:=s.bs[n]) (by simp only;rw [Int.toNat_natCast];exact U) ?_))
    simp only
    rw [fA (by omega),e1]
    unfold tV
    by_cases bp:s.bs[n].gk=2
    ·rw [if_pos bp]
     refine hF (zz bp) (fP (vY (by omega)) (bI (by simp only [List.length_append,List.length_map,List.length_cons,List.length_nil];omega) (bI (by simp only [List.length_append,List.length_map,List.length_cons,List.length_nil];omega) ?_)))
     rw [if_neg (by omega)];simp
    ·rw [if_neg bp]
     refine fP (vY bp) (bI (by simp only [List.length_append,List.length_map,List.length_cons,List.length_nil];omega) (bI (by simp only [List.length_append,List.length_map,List.length_cons,List.length_nil];omega) ?_))
     by_cases ck:s.bs[n].gk=1
     ·refine hF (zz ck) ?_
      rw [if_pos ck];simp
     ·refine fP (vY ck) (bI (by simp only [List.length_append,List.length_map,List.length_cons,List.length_nil];omega) (bI (by simp only [List.length_append,List.length_map,List.length_cons,List.length_nil];omega) ?_))
      rw [if_neg ck];simp)
  (fun _ _=>by unfold xg;exact d4 (by simp) rfl) () trivial
 exact aP e rfl
theorem adv {α:Type}(a b:Nat)(f:Nat→α):bd (a+b) f=bd a f++bd b (fun j=>f (a+j)):=by
 induction b with
 | zero=>simp [bd]
 | succ b ih=>rw [← Nat.add_assoc,ln,ih,ln,List.append_assoc]
def mn (s:cl)(k:Nat):Int×Int:=(rG s k).getD (0,0)
theorem LI (s:cl)(h:pC s)(k:Nat)(ba:k<s.bs.length):rG s k=some (mn s k)∧(-100≤(mn s k).1∧(mn s k).1≤100)∧(-100≤(mn s k).2∧(mn s k).2≤100):=by
 obtain ⟨x,y,h1,af,av⟩:=ado s h k (by omega) (by omega)
 have e:mn s k=(x,y):=by unfold mn;rw [h1];rfl
 rw [e];exact ⟨h1,af,av⟩
def iQ (s:cl)(j:Int)(jx k:Nat):Int :=
 match s.bs[k]? with
 | none=>0
 | some x=>if j=x.dt then (if jx=0 then (mn s k).1 else (mn s k).2) else if j=x.dM then -(if jx=0 then (mn s k).1 else (mn s k).2) else 0
theorem ad2 (s:cl)(h:pC s)(j:Int)(jx k:Nat): -100≤iQ s j jx k∧iQ s j jx k≤100:=by
 unfold iQ
 split
 ·omega
 ·rename_i x U
  obtain ⟨-,af,av⟩:=LI s h k (gb U)
  split
  ·split<;>omega
  ·split
   ·split<;>omega
   ·omega
theorem adw (s:cl)(h:pC s)(j:Int)(q1:List Int)(a7 bZ:Int)(cC:List Int):
 D5 j q1 a7 bZ s.bs (len_ bB s.bs) s.bY cC 0 ([]:List Int) ([]:List Int)=some (bd s.bs.length (iQ s j 0),bd s.bs.length (iQ s j 1)):=by
 obtain ⟨-,-,f3,f4⟩:=id h
 unfold D5
 rw [fa]
 obtain ⟨x,e,-⟩:=ik (f:=fun w:Int×List Int×List Int=>xF j q1 a7 bZ s.bs (s.bs.length:Nat) s.bY cC w.1 w.2.1 w.2.2) (fun (n:Nat) (_:Unit)=>((n:Int),bd n (iQ s j 0),bd n (iQ s j 1))) s.bs.length (fun _ _=>True) (fun _=>(bd s.bs.length (iQ s j 0),bd s.bs.length (iQ s j 1)))
  (fun n a5 _ _=>by
    refine ⟨(),?_,trivial⟩
    have U:=List.getElem?_eq_getElem a5
    obtain ⟨v1,v3,v4⟩:=LI s h n a5
    have v2:=adp s h n (by omega) (by omega) v1
    unfold xF
    refine dG (by simp only;omega) (bI (by simp only;omega) (aP (x:=s.bs[n]) (by simp only;rw [Int.toNat_natCast];exact U) (aP (x:=mn s n) v2 ?_)))
    simp only
    rw [fA (by omega),ln,ln]
    have g : ∀(F:Nat→Int) (v:Int),(bd n F++[v]).length*8≤140737488355328:=fun F v=>by simp only [List.length_append,c6,List.length_cons,List.length_nil];omega
    by_cases bp:j=s.bs[n].dt
    ·have e0 : ∀jx,iQ s j jx n=if jx=0 then (mn s n).1 else (mn s n).2:=fun jx=>by unfold iQ;rw [U];simp only [if_pos bp]
     refine fP (sZ bp) (bI (g _ _) (bI (g _ _) ?_))
     rw [e0,e0];rfl
    ·refine hF (ua bp) ?_
     by_cases ck:j=s.bs[n].dM
     ·have e0 : ∀jx,iQ s j jx n = -(if jx=0 then (mn s n).1 else (mn s n).2):=fun jx=>by unfold iQ;rw [U];simp only [if_neg bp,if_pos ck]
      refine fP (sZ ck) (bI (g _ _) (bI (g _ _) ?_))
      rw [e0,e0,cw (by omega) (by omega),cw (by omega) (by omega)]
      simp
     ·have e0 : ∀jx,iQ s j jx n=0:=fun jx=>by unfold iQ;rw [U];simp only [if_neg bp,if_neg ck]
      refine hF (ua ck) (bI (g _ _) (bI (g _ _) ?_))
      rw [e0,e0])
  (fun _ _=>by unfold xF;exact d4 (by simp) rfl) () trivial
 exact e
theorem adx (s:cl)(h:pC s)(j:Int)(q1:List Int)(a7 bZ:Int)(cC:List (List Int)):
 Dz s.bY s.bs j q1 a7 bZ (len_ bB s.bs) cC 0 (bd s.bs.length fun _=>(0:Int)) (bd s.bs.length fun _=>(0:Int))=some (bd s.bs.length (iQ s j 0),bd s.bs.length (iQ s j 1)):=by
 obtain ⟨-,-,f3,f4⟩:=id h
 unfold Dz
 rw [fa]
 obtain ⟨x,e,-⟩:=ik (f:=fun w:Int×List Int×List Int=>wU s.bY s.bs j q1 a7 bZ (s.bs.length:Nat) cC w.1 w.2.1 w.2.2) (fun (n:Nat) (_:Unit)=>((n:Int),(bd s.bs.length fun k=>if k<n then iQ s j 0 k else 0),bd s.bs.length fun k=>if k<n then iQ s j 1 k else 0)) s.bs.length (fun _ _=>True) (fun _=>(bd s.bs.length (iQ s j 0),bd s.bs.length (iQ s j 1)))
  (fun n a5 _ _=>by
    refine ⟨(),?_,trivial⟩
    have U:=List.getElem?_eq_getElem a5
    obtain ⟨v1,v3,v4⟩:=LI s h n a5
    have di : ∀jx v,v=iQ s j jx n→(bd s.bs.length fun k=>if k<n then iQ s j jx k else 0).set n v=bd s.bs.length fun k=>if k<n+1 then iQ s j jx k else 0:=fun jx v bk=>by
     rw [lo]
     refine fj fun k _=> ?_
     by_cases c:k=n
     ·subst c;rw [if_pos rfl,if_pos (by omega)];exact bk
     ·rw [if_neg c]
      by_cases ck:k<n
      ·rw [if_pos ck,if_pos (by omega)]
      ·rw [if_neg ck,if_neg (by omega)]
    have g1 : ∀F:Nat→Int,0≤((n:Nat):Int)∧((n:Nat):Int)<((bd s.bs.length F).length:Nat):=fun F=>by rw [c6];omega
    have g2 : ∀F:Nat→Int,0+((n:Nat):Int).toNat<(bd s.bs.length F).length:=fun F=>by rw [c6,Int.toNat_natCast];omega
    unfold wU
    refine dG (by simp only;omega) (bI (by simp only;omega) (aP (x:=s.bs[n]) (by simp only;rw [Int.toNat_natCast];exact U) (aP (x:=mn s n) v1 ?_)))
    simp only
    by_cases bp:j=s.bs[n].dt
    ·have e0 : ∀jx,iQ s j jx n=if jx=0 then (mn s n).1 else (mn s n).2:=fun jx=>by unfold iQ;rw [U];simp only [if_pos bp]
     refine fP (sZ bp) (bI (g1 _) (bI (g2 _) (bI (g1 _) (bI (g2 _) ?_))))
     rw [fA (by omega),Int.toNat_natCast,Nat.zero_add,di 0 _ (by rw [e0];rfl),di 1 _ (by rw [e0];rfl)]
    ·refine hF (ua bp) ?_
     by_cases ck:j=s.bs[n].dM
     ·have e0 : ∀jx,iQ s j jx n = -(if jx=0 then (mn s n).1 else (mn s n).2):=fun jx=>by unfold iQ;rw [U];simp only [if_neg bp,if_pos ck]
      refine fP (sZ ck) (bI (g1 _) (bI (g2 _) (bI (g1 _) (bI (g2 _) ?_))))
      rw [fA (by omega),Int.toNat_natCast,Nat.zero_add,cw (by omega) (by omega),cw (by omega) (by omega),di 0 _ (by rw [e0];simp),di 1 _ (by rw [e0];simp)]
     ·have e0 : ∀jx,iQ s j jx n=0:=fun jx=>by unfold iQ;rw [U];simp only [if_neg bp,if_neg ck]
      refine hF (ua ck) ?_
      rw [fA (by omega)]
      congr 4
      ·refine fj fun k _=> ?_
       by_cases c:k=n
       ·subst c;rw [if_neg (by omega),if_pos (by omega),e0]
       ·by_cases ck:k<n
        ·rw [if_pos ck,if_pos (by omega)]
        ·rw [if_neg ck,if_neg (by omega)]
      ·refine fj fun k _=> ?_
       by_cases c:k=n
       ·subst c;rw [if_neg (by omega),if_pos (by omega),e0]
       ·by_cases ck:k<n
        ·rw [if_pos ck,if_pos (by omega)]
        ·rw [if_neg ck,if_neg (by omega)])
  (fun _ _=>by
    unfold wU
    refine d4 (by simp) ?_
    simp only
    congr 3
    ·exact fj fun k ba=>by rw [if_pos ba]
    ·exact fj fun k ba=>by rw [if_pos ba]) () trivial
 have z : ∀jx,(bd s.bs.length fun k=>if k<0 then iQ s j jx k else 0)=bd s.bs.length fun _=>(0:Int):=fun jx=>fj fun k _=>by rw [if_neg (by omega)]
 rw [z,z] at e
 exact e
def hK (s:cl)(q:Nat):Nat:=(kZ s.bY 0).getD q 0
def fF (s:cl):Nat:=(kZ s.bY 0).length
def kH (s:cl)(r k:Nat):Int:=iQ s (hK s (r / 2)) (r % 2) k
theorem Bn (s:cl):(kZ s.bY 0).map (fun n:Nat=>(n:Int))=bd (fF s) fun q=>((hK s q:Nat):Int):=by
 apply List.ext_getElem?
 intro q
 rw [List.getElem?_map]
 by_cases c:q<fF s
 ·rw [gn c]
  have h:(kZ s.bY 0)[q]? = some (kZ s.bY 0)[q]:=List.getElem?_eq_getElem c
  unfold hK
  rw [List.getD_eq_getElem?_getD,h];rfl
 ·rw [List.getElem?_eq_none_iff.2 (by unfold fF at c;omega),List.getElem?_eq_none_iff.2 (by rw [c6];omega)];rfl
theorem Su (s:cl){q:Nat}(h:q<fF s):hK s q<s.bY.length:=by
 have h1:(kZ s.bY 0)[q]? = some (kZ s.bY 0)[q]:=List.getElem?_eq_getElem h
 have o:hK s q=(kZ s.bY 0)[q]:=by unfold hK;rw [List.getD_eq_getElem?_getD,h1];rfl
 have:=LF s.bY 0 _ (List.mem_of_getElem? h1)
 omega
theorem za (s:cl):fF s≤s.bY.length:=Ro s.bY 0
theorem LU {α:Type}(r n:Nat)(e:Nat→Nat→α):(bd (r*n) fun x=>e (x / n) (x % n))++bd n (e r)=bd ((r+1)*n) fun x=>e (x / n) (x % n):=by
 rw [Nat.succ_mul,adv]
 congr 1
 refine fj fun j aE=> ?_
 have h1:(r*n+j) / n=r:=by rw [Nat.mul_comm,Nat.mul_add_div (by omega),Nat.div_eq_of_lt aE];rfl
 have o:(r*n+j) % n=j:=by rw [Nat.mul_comm,Nat.mul_add_mod,Nat.mod_eq_of_lt aE]
 rw [h1,o]
theorem abf (s:cl)(h:pC s):AQ s=some (bd (2*fF s*s.bs.length) fun x=>kH s (x / s.bs.length) (x % s.bs.length)):=by
 obtain ⟨-,-,f3,f4⟩:=id h
 have ul:=za s
 unfold AQ
 refine aP (Lf s (by omega)) ?_
 rw [Bn,fT,c6]
 unfold Ko
 obtain ⟨x,e,-⟩:=ik (f:=fun w:Int×List Int=>xG (bd (fF s) fun q=>((hK s q:Nat):Int)) ((fF s:Nat):Int) s.bY s.bs w.1 w.2) (fun (n:Nat) (_:Unit)=>((n:Int),bd (2*n*s.bs.length) fun x=>kH s (x / s.bs.length) (x % s.bs.length))) (fF s) (fun _ _=>True) (fun _=>bd (2*fF s*s.bs.length) fun x=>kH s (x / s.bs.length) (x % s.bs.length))
  (fun n a5 _ _=>by
    refine ⟨(),?_,trivial⟩
    have aT:2*n*s.bs.length≤12*8:=Nat.mul_le_mul (by omega) f4
    unfold xG
    refine dG (by simp only;omega) (bI (by rw [c6];simp only;omega) (aP (x:=((hK s n:Nat):Int)) (by simp only;rw [Int.toNat_natCast];exact gn a5) (aP (adw s h _ _ _ _ _) ?_)))
    refine bI (by simp only [List.length_append,c6];omega) (bI (by simp only [List.length_append,c6];omega) ?_)
    simp only
    rw [fA (by omega)]
    have r1:bd s.bs.length (iQ s (hK s n) 0)=bd s.bs.length (kH s (2*n)):=fj fun k _=>by
     unfold kH;rw [show 2*n / 2=n by omega,show 2*n % 2=0 by omega]
    have bV:bd s.bs.length (iQ s (hK s n) 1)=bd s.bs.length (kH s (2*n+1)):=fj fun k _=>by
     unfold kH;rw [show (2*n+1) / 2=n by omega,show (2*n+1) % 2=1 by omega]
    rw [r1,bV,LU (2*n),LU (2*n+1),show 2*n+1+1=2*(n+1) by omega])
  (fun _ _=>by unfold xG;exact d4 (by simp) rfl) () trivial
 have z:(bd (2*0*s.bs.length) fun x=>kH s (x / s.bs.length) (x % s.bs.length))=[]:=by simp [bd]
 rw [z] at e
 exact aP e rfl
theorem ZB (s:cl)(h:pC s):zW s=some (bd (2*fF s) fun r=>bd s.bs.length (kH s r)):=by
 obtain ⟨-,-,f3,f4⟩:=id h
 have ul:=za s
 unfold zW
 refine aP (PG s (by omega)) ?_
 rw [Bn,fT,c6]
 unfold GO
 obtain ⟨x,e,-⟩:=ik (f:=fun w:Int×List (List Int)=>wV s.bY s.bs (bd (fF s) fun q=>((hK s q:Nat):Int)) ((fF s:Nat):Int) w.1 w.2) (fun (n:Nat) (_:Unit)=>((n:Int),bd (2*n) fun r=>bd s.bs.length (kH s r))) (fF s) (fun _ _=>True) (fun _=>bd (2*fF s) fun r=>bd s.bs.length (kH s r))
  (fun n a5 _ _=>by
    refine ⟨(),?_,trivial⟩
    unfold wV
    refine dG (by simp only;omega) (bI (by rw [c6];simp only;omega) (aP (x:=((hK s n:Nat):Int)) (by simp only;rw [Int.toNat_natCast];exact gn a5) (bI (by rw [fa];omega) ?_)))
    refine aP (x:=(bd s.bs.length (iQ s (hK s n) 0),bd s.bs.length (iQ s (hK s n) 1))) (by rw [show (len_ bB s.bs).toNat=s.bs.length by rw [fa,Int.toNat_natCast],q3];exact adx s h _ _ _ _ _) (bI (by simp only [List.length_append,c6,List.length_cons,List.length_nil];omega) ?_)
    simp only
    rw [fA (by omega),show 2*(n+1)=2*n+1+1 by omega,ln (2*n+1),ln (2*n)]
    have r1:bd s.bs.length (iQ s (hK s n) 0)=bd s.bs.length (kH s (2*n)):=fj fun k _=>by
     unfold kH;rw [show 2*n / 2=n by omega,show 2*n % 2=0 by omega]
    have bV:bd s.bs.length (iQ s (hK s n) 1)=bd s.bs.length (kH s (2*n+1)):=fj fun k _=>by
     unfold kH;rw [show (2*n+1) / 2=n by omega,show (2*n+1) % 2=1 by omega]
    rw [r1,bV];simp)
  (fun _ _=>by unfold wV;exact d4 (by simp) rfl) () trivial
 exact aP e rfl
def gE (s:cl):List eJ:=lN s.bs s.bs.length
def dI (s:cl):Nat:=(gE s).length
def mS (s:cl)(c:Nat):Nat:=((gE s).getD c ⟨0,0⟩).mY.toNat
def qh (s:cl)(c:Nat):Int:=((gE s).getD c ⟨0,0⟩).qz
def kV (s:cl)(i c:Nat):Int:=qh s c*kH s i (mS s c)
def mA (s:cl)(l:List Int)(i:Nat):Int:= -(l.getD (2*hK s (i / 2)+i % 2) 0)
theorem BM (s:cl){c:Nat}(bj:c<dI s):(gE s)[c]? = some ⟨(mS s c:Int),qh s c⟩∧mS s c<s.bs.length∧(qh s c=1∨qh s c = -1):=by
 have h1:(gE s)[c]? = some (gE s)[c]:=List.getElem?_eq_getElem bj
 have o:(gE s).getD c ⟨0,0⟩=(gE s)[c]:=by rw [List.getD_eq_getElem?_getD,h1];rfl
 obtain ⟨k,e1,aD,bP⟩:=Rs (Nat.le_refl _) (List.mem_of_getElem? h1)
 have c4:mS s c=k:=by unfold mS;rw [o,e1];rfl
 have dh:qh s c=((gE s)[c]).qz:=by unfold qh;rw [o]
 refine ⟨?_,by omega,by rw [dh];exact bP⟩
 rw [h1,c4,dh,← e1]
theorem Mn (s:cl):dI s≤2*s.bs.length:=EQ _ _
theorem ady (s:cl):(gE s).map eJ.mY=bd (dI s) fun c=>((mS s c:Nat):Int):=by
 apply List.ext_getElem?
 intro c
 rw [List.getElem?_map]
 by_cases h:c<dI s
 ·rw [(BM s h).1,gn h];rfl
 ·rw [List.getElem?_eq_none_iff.2 (by unfold dI at h;omega),List.getElem?_eq_none_iff.2 (by rw [c6];omega)];rfl
theorem adz (s:cl):(gE s).map eJ.qz=bd (dI s) (qh s):=by
 apply List.ext_getElem?
 intro c
 rw [List.getElem?_map]
 by_cases h:c<dI s
 ·rw [(BM s h).1,gn h];rfl
 ·rw [List.getElem?_eq_none_iff.2 (by unfold dI at h;omega),List.getElem?_eq_none_iff.2 (by rw [c6];omega)];rfl
theorem Mo (s:cl)(h:pC s)(i:Nat){c:Nat}(bj:c<dI s): -100≤kV s i c∧kV s i c≤100:=by
 have h1:=ad2 s h (hK s (i / 2)) (i % 2) (mS s c)
 unfold kV kH
 rcases (BM s bj).2.2 with e|e<;>rw [e]<;>omega
theorem acX (s:cl)(h:pC s)(l:List Int)(aU:l.length=2*s.bY.length)(aT:∀x∈l,-100≤x∧x≤100):Ax s l=some (bd (2*fF s) (mA s l)):=by
 obtain ⟨-,-,f3,f4⟩:=id h
 have ul:=za s
 unfold Ax
 refine aP (Lf s (by omega)) ?_
 rw [Bn,fT,c6]
 unfold J7
 obtain ⟨x,e,-⟩:=ik (f:=fun w:Int×List Int=>xv l (bd (fF s) fun q=>((hK s q:Nat):Int)) ((fF s:Nat):Int) w.1 w.2) (fun (n:Nat) (_:Unit)=>((n:Int),bd (2*n) (mA s l))) (fF s) (fun _ _=>True) (fun _=>bd (2*fF s) (mA s l))
  (fun n a5 _ _=>by
    refine ⟨(),?_,trivial⟩
    have ch:=Su s a5
    have ob:R ((2:Int)*((hK s n:Nat):Int))=((2*hK s n:Nat):Int):=by rw [cw (by omega) (by omega)];omega
    have qQ:R (((2*hK s n:Nat):Int)+1)=((2*hK s n+1:Nat):Int):=fA (by omega)
    have x1:=aT l[2*hK s n] (List.getElem_mem (by omega))
    have ef:=aT l[2*hK s n+1] (List.getElem_mem (by omega))
    have p1:mA s l (2*n) = -l[2*hK s n]:=by
     unfold mA
     rw [show 2*n / 2=n by omega,show 2*n % 2=0 by omega,Nat.add_zero,List.getD_eq_getElem?_getD,List.getElem?_eq_getElem (by omega)];rfl
    have hE:mA s l (2*n+1) = -l[2*hK s n+1]:=by
     unfold mA
     rw [show (2*n+1) / 2=n by omega,show (2*n+1) % 2=1 by omega,List.getD_eq_getElem?_getD,List.getElem?_eq_getElem (by omega)];rfl
    unfold xv
    refine dG (by simp only;omega) (bI (by rw [c6];simp only;omega) (aP (x:=((hK s n:Nat):Int)) (by simp only;rw [Int.toNat_natCast];exact gn a5) ?_))
    rw [ob,qQ]
    refine bI (by omega) (aP (x:=l[2*hK s n]) (by rw [Int.toNat_natCast];exact List.getElem?_eq_getElem (by omega)) (bI (by omega) (aP (x:=l[2*hK s n+1]) (by rw [Int.toNat_natCast];exact List.getElem?_eq_getElem (by omega)) (bI (by simp only [List.length_append,c6,List.length_cons,List.length_nil];omega) ?_))))
    simp only
    rw [fA (by omega),cw (by omega) (by omega),cw (by omega) (by omega),show 2*(n+1)=2*n+1+1 by omega,ln (2*n+1),ln (2*n),p1,hE]
    simp)
  (fun _ _=>by unfold xv;exact d4 (by simp) rfl) () trivial
 exact aP e rfl
def NX (s:cl)(l:List Int):hN:=⟨((2*fF s:Nat):Int),(dI s:Int),bd (2*fF s*dI s) (fun x=>kV s (x / dI s) (x % dI s)),bd (2*fF s) (mA s l),bd (dI s) fun _=>0⟩
theorem ad3 (s:cl)(h:pC s)(l:List Int)(aT:∀x∈l,-100≤x∧x≤100):mw (NX s l) (2*fF s) (dI s) (kV s) (mA s l) where
 rows:=rfl
 gE:=rfl
 gG:=c6 ..
 MJ:=fun i ah j aE=>by
  have h1:i*dI s+j<2*fF s*dI s:=by
   have:(i+1)*dI s≤2*fF s*dI s:=Nat.mul_le_mul_right _ ah
   rw [Nat.succ_mul] at this;omega
  show (bd _ _)[_]? = _
  rw [gn h1]
  have o:(i*dI s+j) / dI s=i:=by rw [Nat.mul_comm,Nat.mul_add_div (by omega),Nat.div_eq_of_lt aE];rfl
  have af:(i*dI s+j) % dI s=j:=by rw [Nat.mul_comm,Nat.mul_add_mod,Nat.mod_eq_of_lt aE]
  rw [o,af]
 wK:=c6 ..
 zg:=fun i ah=>gn ah
 hm:=by
  obtain ⟨-,-,f3,f4⟩:=id h
  have:=za s;omega
 a5:=by
  obtain ⟨-,-,f3,f4⟩:=id h
  have:=Mn s;omega
 tk:=fun i _ j aE=>Mo s h i aE
 wJ:=fun i _=>by
  unfold mA
  rw [List.getD_eq_getElem?_getD]
  cases c:l[2*hK s (i / 2)+i % 2]? with
  | none=>simp
  | some x =>
   have:=aT x (List.mem_of_getElem? c)
   simp only [Option.getD_some];omega
theorem ZS (s:cl)(h:pC s)(l:List Int)(aU:l.length=2*s.bY.length)(aT:∀x∈l,-100≤x∧x≤100):uQ s l=some (NX s l):=by
 obtain ⟨-,-,f3,f4⟩:=id h
 have ul:=za s
 have Dr:=Mn s
 unfold uQ
 refine aP (ZR s (by omega)) (aP (abf s h) (aP (Lf s (by omega)) (aP (acX s h l aU aT) ?_)))
 show (if 0≤len_ eI ((gE s).map eJ.mY)∧_ then _ else none)=_
 rw [Bn]
 show (if 0≤len_ eI ((gE s).map eJ.mY)∧(8:Int)*len_ eI ((gE s).map eJ.mY)≤281474976710656∧len_ eI ((gE s).map eJ.mY)<9223372036854775808 then
  DR ((gE s).map eJ.mY) ((gE s).map eJ.qz) (len_ bB s.bs) _ (R ((2:Int)*len_ eI (bd (fF s) fun q=>((hK s q:Nat):Int)))) (len_ eI ((gE s).map eJ.mY)) (bd (2*fF s) (mA s l)) (List.replicate (len_ eI ((gE s).map eJ.mY)).toNat 0) 0 [] >>= fun et=>some (⟨R ((2:Int)*len_ eI (bd (fF s) fun q=>((hK s q:Nat):Int))),len_ eI ((gE s).map eJ.mY),et,bd (2*fF s) (mA s l),List.replicate (len_ eI ((gE s).map eJ.mY)).toNat 0⟩:hN) else none)=_
 rw [ady,adz,fT,c6,fT,c6,Int.toNat_natCast,fa,show R ((2:Int)*(fF s:Nat))=((2*fF s:Nat):Int) by rw [cw (by omega) (by omega)];omega,q3]
 refine bI (by omega) (aP (x:=bd (2*fF s*dI s) (fun x=>kV s (x / dI s) (x % dI s))) ?_ rfl)
 unfold DR
 obtain ⟨x,e,-⟩:=ik (f:=fun w:Int×List Int=>xi (bd (dI s) fun c=>((mS s c:Nat):Int)) (bd (dI s) (qh s)) (s.bs.length:Nat) (bd (2*fF s*s.bs.length) fun x=>kH s (x / s.bs.length) (x % s.bs.length)) ((2*fF s:Nat):Int) ((dI s:Nat):Int) (bd (2*fF s) (mA s l)) (bd (dI s) fun _=>0) w.1 w.2) (fun (i:Nat) (_:Unit)=>((i:Int),bd (i*dI s) (fun x=>kV s (x / dI s) (x % dI s)))) (2*fF s) (fun _ _=>True) (fun _=>bd (2*fF s*dI s) (fun x=>kV s (x / dI s) (x % dI s)))
  (fun i ah _ _=>by
    refine ⟨(),?_,trivial⟩
    have TN:i*dI s≤12*16:=Nat.mul_le_mul (by omega) (by omega)
    have l7:i*s.bs.length≤12*8:=Nat.mul_le_mul (by omega) f4
    obtain ⟨y,aD,-⟩:=ik (f:=fun w:Int×List Int=>xh (bd (dI s) fun c=>((mS s c:Nat):Int)) (bd (dI s) (qh s)) (s.bs.length:Nat) (bd (2*fF s*s.bs.length) fun x=>kH s (x / s.bs.length) (x % s.bs.length)) (i:Int) ((dI s:Nat):Int) ((2*fF s:Nat):Int) ((dI s:Nat):Int) (bd (2*fF s) (mA s l)) (bd (dI s) fun _=>0) w.1 w.2)
     (fun (c:Nat) (_:Unit)=>((c:Int),(bd (i*dI s) fun x=>kV s (x / dI s) (x % dI s))++bd c (kV s i))) (dI s) (fun _ _=>True) (fun _=>(bd (i*dI s) fun x=>kV s (x / dI s) (x % dI s))++bd (dI s) (kV s i))
     (fun c bj _ _=>by
       refine ⟨(),?_,trivial⟩
       obtain ⟨-,kx,oJ⟩:=BM s bj
       have pB:(i+1)*s.bs.length≤2*fF s*s.bs.length:=Nat.mul_le_mul_right _ ah
       rw [Nat.succ_mul] at pB
       have jV:R (R ((i:Int)*((s.bs.length:Nat):Int))+((mS s c:Nat):Int))=((i*s.bs.length+mS s c:Nat):Int):=by
        rw [← Int.natCast_mul,cw (x:=((i*s.bs.length:Nat):Int)) (by omega) (by omega),cw (by omega) (by omega)];omega
       have o:(i*s.bs.length+mS s c) / s.bs.length=i:=by rw [Nat.mul_comm,Nat.mul_add_div (by omega),Nat.div_eq_of_lt kx];rfl
       have af:(i*s.bs.length+mS s c) % s.bs.length=mS s c:=by rw [Nat.mul_comm,Nat.mul_add_mod,Nat.mod_eq_of_lt kx]
       have agl:=Mo s h i bj
       unfold xh
       refine dG (by simp only;omega) (bI (by rw [c6];simp only;omega) (aP (x:=((mS s c:Nat):Int)) (by simp only;rw [Int.toNat_natCast];exact gn bj) (bI (by rw [c6];simp only;omega) (aP (x:=qh s c) (by simp only;rw [Int.toNat_natCast];exact gn bj) ?_))))
       rw [jV]
       refine bI (by rw [c6];omega) (aP (x:=kH s i (mS s c)) (by rw [Int.toNat_natCast,gn (by omega),o,af]) (bI (by simp only [List.length_append,c6,List.length_cons,List.length_nil];omega) ?_))
       simp only
       rw [fA (by omega),ln,show qh s c*kH s i (mS s c)=kV s i c from rfl,cw (by omega) (by omega),List.append_assoc])
     (fun _ _=>by unfold xh;exact d4 (by simp) rfl) () trivial
    have z:(bd (i*dI s) fun x=>kV s (x / dI s) (x % dI s))++bd 0 (kV s i)=bd (i*dI s) fun x=>kV s (x / dI s) (x % dI s):=by simp [bd]
    rw [z] at aD
    unfold xi
    refine dG (by simp only;omega) (aP (x:=(bd (i*dI s) fun x=>kV s (x / dI s) (x % dI s))++bd (dI s) (kV s i)) (by unfold Ju;rw [fT,c6];exact aD) ?_)
    simp only
    rw [fA (by omega),LU])
  (fun _ _=>by unfold xi;exact d4 (by simp) rfl) () trivial
 have z:(bd (0*dI s) fun x=>kV s (x / dI s) (x % dI s))=[]:=by simp [bd]
 rw [z] at e
 exact e
def upto (n:Nat)(f:Nat→Int)(k:Nat):List Int:=bd n fun x=>if x<k then f x else 0
theorem LJ {n k:Nat}{f:Nat→Int}(ba:k<n){v:Int}(bk:v=f k):(upto n f k).set k v=upto n f (k+1):=by
 unfold upto
 rw [lo]
 refine fj fun j _=> ?_
 by_cases c:j=k
 ·subst c;rw [if_pos rfl,if_pos (by omega)];exact bk
 ·rw [if_neg c]
  by_cases ck:j<k
  ·rw [if_pos ck,if_pos (by omega)]
  ·rw [if_neg ck,if_neg (by omega)]
theorem QV (n:Nat)(f:Nat→Int):upto n f 0=bd n fun _=>0:=fj fun j _=>by rw [if_neg (by omega)]
theorem Rt (n:Nat)(f:Nat→Int):upto n f n=bd n f:=fj fun j aE=>by rw [if_pos aE]
theorem yM (n:Nat)(f:Nat→Int)(k:Nat):(upto n f k).length=n:=c6 ..
theorem Zh (s:cl)(h:pC s)(l:List Int)(aU:l.length=2*s.bY.length)(aT:∀x∈l,-100≤x∧x≤100):zV s l 0 0=some (NX s l):=by
 obtain ⟨-,-,f3,f4⟩:=id h
 have ul:=za s
 have Dr:=Mn s
 have aiC:2*fF s*dI s≤12*16:=Nat.mul_le_mul (by omega) (by omega)
 unfold zV
 refine aP (ZB s h) (aP (x:=gE s) (abe s (by omega)) ?_)
 have jV:R ((len_ (eD 1 eI) (bd (2*fF s) fun r=>bd s.bs.length (kH s r)))+0)=((2*fF s:Nat):Int):=by rw [fa,c6,cw (by omega) (by omega)];omega
 have ob:R ((len_ gB (gE s))+0)=((dI s:Nat):Int):=by
  rw [fa];show R (((dI s:Nat):Int)+0)=_
  rw [cw (by omega) (by omega)];omega
 have qQ:R (((2*fF s:Nat):Int)*((dI s:Nat):Int))=((2*fF s*dI s:Nat):Int):=by rw [← Int.natCast_mul,cw (by omega) (by omega)]
 rw [jV,ob,qQ,Int.toNat_natCast,Int.toNat_natCast,Int.toNat_natCast,q3,q3,q3,fa,c6]
 refine bI (by omega) (bI (by omega) (bI (by omega) ?_))
 refine aP (x:=bd (2*fF s*dI s) (fun x=>kV s (x / dI s) (x % dI s))) ?_ ?_
 ·unfold GL
  obtain ⟨x,e,-⟩:=ik (f:=fun w:Int×List Int=>wS s.bY s.bs l (gE s) (bd (2*fF s) fun r=>bd s.bs.length (kH s r)) ((2*fF s:Nat):Int) ((2*fF s:Nat):Int) ((dI s:Nat):Int) (bd (2*fF s) fun _=>0) (bd (dI s) fun _=>0) w.1 w.2) (fun (i:Nat) (_:Unit)=>((i:Int),upto (2*fF s*dI s) (fun x=>kV s (x / dI s) (x % dI s)) (i*dI s))) (2*fF s) (fun _ _=>True) (fun _=>bd (2*fF s*dI s) (fun x=>kV s (x / dI s) (x % dI s)))
   (fun i ah _ _=>by
     refine ⟨(),?_,trivial⟩
     have CL:(i+1)*dI s≤2*fF s*dI s:=Nat.mul_le_mul_right _ ah
     rw [Nat.succ_mul] at CL
     obtain ⟨y,aD,-⟩:=ik (f:=fun w:Int×List Int=>wR s.bY s.bs l (gE s) (i:Int) (bd s.bs.length (kH s i)) (bd (2*fF s) fun r=>bd s.bs.length (kH s r)) ((2*fF s:Nat):Int) ((dI s:Nat):Int) ((2*fF s:Nat):Int) ((dI s:Nat):Int) (bd (2*fF s) fun _=>0) (bd (dI s) fun _=>0) w.1 w.2) (fun (c:Nat) (_:Unit)=>((c:Int),upto (2*fF s*dI s) (fun x=>kV s (x / dI s) (x % dI s)) (i*dI s+c))) (dI s) (fun _ _=>True) (fun _=>upto (2*fF s*dI s) (fun x=>kV s (x / dI s) (x % dI s)) (i*dI s+dI s))
      (fun c bj _ _=>by
        refine ⟨(),?_,trivial⟩
        obtain ⟨lk,kx,oJ⟩:=BM s bj
        have agl:=Mo s h i bj
        have agR:R (R ((i:Int)*((dI s:Nat):Int))+((c:Nat):Int))=((i*dI s+c:Nat):Int):=by
         rw [← Int.natCast_mul,cw (x:=((i*dI s:Nat):Int)) (by omega) (by omega),cw (by omega) (by omega)];omega
        have o:(i*dI s+c) / dI s=i:=by rw [Nat.mul_comm,Nat.mul_add_div (by omega),Nat.div_eq_of_lt bj];rfl
        have af:(i*dI s+c) % dI s=c:=by rw [Nat.mul_comm,Nat.mul_add_mod,Nat.mod_eq_of_lt bj]
        unfold wR
        refine dG (by simp only;omega) (bI (by show _∧((c:Nat):Int)<((dI s:Nat):Int);simp only;omega) (aP (x:=⟨(mS s c:Int),qh s c⟩) (by simp only;rw [Int.toNat_natCast];exact lk) (bI (by rw [c6];simp only;omega) (aP (x:=kH s i (mS s c)) (by simp only;rw [Int.toNat_natCast];exact gn kx) ?_))))
        simp only
        rw [agR]
        refine bI (by rw [yM];omega) (bI (by rw [yM,Int.toNat_natCast];omega) ?_)
        rw [fA (by omega),Int.toNat_natCast,Nat.zero_add,show qh s c*kH s i (mS s c)=kV s i c from rfl,cw (by omega) (by omega),LJ (by omega) (by rw [o,af]),Nat.add_assoc])
      (fun _ _=>by unfold wR;exact d4 (by simp) rfl) () trivial
     unfold wS
     refine dG (by simp only;omega) (bI (by rw [c6];simp only;omega) (aP (x:=bd s.bs.length (kH s i)) (by simp only;rw [Int.toNat_natCast];exact gn ah) (aP (x:=upto (2*fF s*dI s) (fun x=>kV s (x / dI s) (x % dI s)) (i*dI s+dI s)) (by unfold GK;rw [fa];exact aD) ?_)))
     simp only
     rw [fA (by omega),Nat.succ_mul i (dI s)])
   (fun _ _=>by
     unfold wS
     refine d4 (by simp) ?_
     simp only
     rw [Rt]) () trivial
  rw [Nat.zero_mul,QV] at e
  exact e
 refine aP (PG s (by omega)) ?_
 rw [Bn,fT,c6]
 refine aP (x:=bd (2*fF s) (mA s l)) ?_ rfl
 unfold GM
 obtain ⟨x,e,-⟩:=ik (f:=fun w:Int×List Int=>wT l (bd (fF s) fun q=>((hK s q:Nat):Int)) ((fF s:Nat):Int) ((2*fF s:Nat):Int) ((dI s:Nat):Int) (bd (2*fF s*dI s) (fun x=>kV s (x / dI s) (x % dI s))) (bd (dI s) fun _=>0) w.1 w.2) (fun (n:Nat) (_:Unit)=>((n:Int),upto (2*fF s) (mA s l) (2*n))) (fF s) (fun _ _=>True) (fun _=>bd (2*fF s) (mA s l))
  (fun n a5 _ _=>by
    refine ⟨(),?_,trivial⟩
    have ch:=Su s a5
    have ob : ∀a:Nat,a≤1000→R ((2:Int)*((a:Nat):Int))=((2*a:Nat):Int):=fun a bJ=>by rw [cw (by omega) (by omega)];omega
    have x1:=aT l[2*hK s n] (List.getElem_mem (by omega))
    have ef:=aT l[2*hK s n+1] (List.getElem_mem (by omega))
    have p1:mA s l (2*n) = -l[2*hK s n]:=by
     unfold mA
     rw [show 2*n / 2=n by omega,show 2*n % 2=0 by omega,Nat.add_zero,List.getD_eq_getElem?_getD,List.getElem?_eq_getElem (by omega)];rfl
    have hE:mA s l (2*n+1) = -l[2*hK s n+1]:=by
     unfold mA
     rw [show (2*n+1) / 2=n by omega,show (2*n+1) % 2=1 by omega,List.getD_eq_getElem?_getD,List.getElem?_eq_getElem (by omega)];rfl
    unfold wT
    refine dG (by simp only;omega) (bI (by rw [c6];simp only;omega) (aP (x:=((hK s n:Nat):Int)) (by simp only;rw [Int.toNat_natCast];exact gn a5) ?_))
    simp only
    rw [ob (hK s n) (by omega),ob n (by omega),fA (n:=2*hK s n) (by omega),fA (n:=2*n) (by omega)]
    refine bI (by omega) (aP (x:=l[2*hK s n]) (by rw [Int.toNat_natCast];exact List.getElem?_eq_getElem (by omega)) (bI (by omega) (aP (x:=l[2*hK s n+1]) (by rw [Int.toNat_natCast];exact List.getElem?_eq_getElem (by omega)) ?_)))
    refine bI (by rw [yM];omega) (bI (by rw [yM,Int.toNat_natCast];omega) (bI (by rw [yM];omega) (bI (by rw [List.length_set,yM,Int.toNat_natCast];omega) ?_)))
    rw [fA (by omega),cw (x:=0-l[2*hK s n]) (by omega) (by omega),cw (x:=0-l[2*hK s n+1]) (by omega) (by omega),Int.toNat_natCast,Int.toNat_natCast,Nat.zero_add,Nat.zero_add,LJ (by omega) (by rw [p1];omega),LJ (by omega) (by rw [hE];omega),show 2*(n+1)=2*n+1+1 by omega])
  (fun _ _=>by
    unfold wT
    refine d4 (by simp) ?_
    simp only
    rw [Rt]) () trivial
 rw [Nat.mul_zero,QV] at e
 exact e
theorem aae (s:cl)(i0:lX s)(h:nn s=some true)(l:List Int)(aU:l.length=2*s.bY.length)(aT:∀x∈l,-100≤x∧x≤100):
 ∃r,(uQ s l >>= fun p=>uO p)=some r∧tl s l=some r:=by
 have bk:=Zg s i0 h
 have ak:=ad3 s bk l aT
 obtain ⟨r,e1,aD⟩:=ZA ak (c6 ..) (fun x U=>by
  obtain ⟨i,-,rfl⟩:=LO.1 U
  omega)
 obtain ⟨q,q1,a7⟩:=acW ak
 refine ⟨r,aP (ZS s bk l aU aT) e1,?_⟩
 unfold tl
 refine aP (Zh s bk l aU aT) (aP q1 ?_)
 rcases a7 with ⟨b6,t,bE,g,fo,rfl,-⟩|⟨b6,rfl⟩
 ·rw [aD.2 b6]
 ·have:r=false:=by
   cases r
   ·rfl
   ·exact (b6 (aD.1 rfl)).elim
  rw [this]
theorem ZC (hh:List bo)(n:Int)(eb agm:List bC):rH hh n agm 0=rH hh n eb 0:=by
 unfold rH
 congr 1
theorem Zi (s:cl)(i0:lX s)(h:nn s=some true)(eb:List bC)(b6:∀m∈eb,m∈s.bs)(aU:eb.length≤s.bs.length):nn ⟨s.bY,eb⟩=some true:=by
 obtain ⟨-,f2,f3,f4⟩:=uN s i0 h
 obtain ⟨r,ap⟩:=J4 s i0
 have d1:decide ((6:Int)<len_ bw s.bY)=false:=by rw [fa];exact decide_eq_false (by omega)
 have d2:decide ((8:Int)<len_ bB s.bs)=false:=by rw [fa];exact decide_eq_false (by omega)
 have uh:decide ((8:Int)<len_ bB eb)=false:=by rw [fa];exact decide_eq_false (by omega)
 have s7:r = .inl ():=by
  cases r with
  | inl a=>rfl
  | inr a =>
   unfold nn at h
   rw [d1,d2,ap] at h
   simp at h
 subst s7
 have qB : ∀m∈eb,pO s.bY m=true:=fun m hm=>by
  obtain ⟨n,a5⟩:=List.getElem?_of_mem (b6 m hm)
  exact f2 n m a5
 have bb:uu eb s.bY eb (len_ bB eb) 0=some (.inl ()):=by
  unfold uu
  rw [fa]
  obtain ⟨x,e,-⟩:=ik (f:=fun w:Int=>od eb s.bY eb (eb.length:Nat) w) (fun (i:Nat) (_:Unit)=>(i:Int)) eb.length (fun _ _=>True) (fun _=>(Sum.inl ():Unit⊕Int))
   (fun i ah _ _=>by
     refine ⟨(),?_,trivial⟩
     have U:=List.getElem?_eq_getElem ah
     have aT:=qB eb[i] (List.getElem_mem ah)
     unfold od uJ
     refine dG (by omega) (bI (by omega) (aP (x:=eb[i]) (by rw [Int.toNat_natCast];exact U) (aP (x:=false) (aP (Ev _ _) (by simp [aT])) (hF rfl (by rw [fA (by omega)])))))
     )
   (fun _ _=>by unfold od;exact d4 (by omega) rfl) () trivial
  exact e
 have Ny:DN (R (len_ bw s.bY-1)) eb (len_ bB eb) s.bY 0=some (Sum.map id (fun _=>()) (Sum.inl ():Unit⊕Int)) :=
  Q9 (f:=fun w=>od eb s.bY eb (len_ bB eb) w) (Sum.map id fun _=>()) (fun _=>True) (fun _ _ _ _=>trivial)
   (fun i _=>PA s.bY eb (by omega) (by omega) i) 0 _ bb trivial
 unfold nn
 simp only [d1,uh,Bool.false_eq_true,if_false]
 rw [ZC s.bY _ s.bs eb,ap]
 exact aP rfl (aP Ny rfl)
def nH (eb:List bC)(list:List Int):Nat→List bC
 | 0=>[]
 | n+1=>nH eb list n++(match eb[n]? with
  | some x=>if (n:Int)∈list then [] else [x]
  | none=>[])
theorem Bz (eb:List bC)(list:List Int): ∀n,(nH eb list n).length≤n
 | 0=>by simp [nH]
 | n+1=>by
  have:=Bz eb list n
  rw [nH,List.length_append]
  have o:(match eb[n]? with
   | some x=>if (n:Int)∈list then [] else [x]
   | none=>[]).length≤1:=by
   split
   ·split<;>simp
   ·simp
  omega
theorem LV {eb:List bC}{list:List Int}: ∀ {n:Nat} {m:bC},m∈nH eb list n→m∈eb
 | 0,m,h=>by simp [nH] at h
 | n+1,m,h=>by
  rw [nH,List.mem_append] at h
  rcases h with h|h
  ·exact LV h
  ·split at h
   ·rename_i x U
    split at h
    ·simp at h
    ·simp at h;subst h;exact List.mem_of_getElem? U
   ·simp at h
def ta (s:cl)(list:List Int):cl:=⟨s.bY,nH s.bs list s.bs.length⟩
theorem Fx {n:Nat}(h:n<1000000000000):R ((n:Int)+1)=((n+1:Nat):Int):=by
 rw [cw (by omega) (by omega)];omega
theorem ad4 (list:List Int)(aU:list.length≤1048576)(k:Int):A1 list k=some (decide (k∈list)):=by
 unfold A1 KG
 rw [fT]
 obtain ⟨r,e,h⟩:=pK (f:=fun w:Int=>xV k list (list.length:Nat) w) (fun (i:Nat) (_:Unit)=>(i:Int)) list.length (fun i _=> ∀j,j<i→list[j]? ≠ some k) (fun r=>(r = .inr ()∧k∈list)∨(r = .inl ()∧k ∉ list))
  (fun i ah _ cI=>by
    have U:=List.getElem?_eq_getElem ah
    unfold xV
    by_cases c:list[i]=k
    ·right
     exact ⟨_,dG (by omega) (bI (by omega) (aP (x:=list[i]) (by rw [Int.toNat_natCast];exact U) (fP (sZ c) rfl))),.inl ⟨rfl,c▸List.getElem_mem ah⟩⟩
    ·left
     refine ⟨(),dG (by omega) (bI (by omega) (aP (x:=list[i]) (by rw [Int.toNat_natCast];exact U) (hF (ua c) (by rw [Fx (by omega)])))),fun j aE=> ?_⟩
     by_cases e:j=i
     ·rw [e,U];exact fun h=>c (Option.some.inj h)
     ·exact cI j (by omega))
  (fun _ cI=>⟨_,by unfold xV;exact d4 (by omega) rfl,.inr ⟨rfl,fun ba=>by
    obtain ⟨j,aE,e⟩:=List.getElem_of_mem ba
    exact cI j aE (by rw [List.getElem?_eq_getElem aE,e])⟩⟩) () (fun j aE=>by omega)
 rcases h with ⟨rfl,h⟩|⟨rfl,h⟩
 ·exact aP e (by rw [decide_eq_true h])
 ·exact aP e (by rw [decide_eq_false h])
theorem aaA (list:List Int)(aU:list.length≤1048576)(k:Int):sr list k=some (decide (k∈list)):=by
 unfold sr Bt Ey
 rw [fT]
 obtain ⟨r,e,h⟩:=pK (f:=fun w:Int=>sk list k (list.length:Nat) w) (fun (i:Nat) (_:Unit)=>(i:Int)) list.length (fun i _=> ∀j,j<i→list[j]? ≠ some k) (fun r=>(∃i:Nat,r = .inr (i:Int)∧k∈list)∨(r = .inl ()∧k ∉ list))
  (fun i ah _ cI=>by
    have U:=List.getElem?_eq_getElem ah
    unfold sk
    by_cases c:list[i]=k
    ·right
     exact ⟨_,dG (by omega) (bI (by omega) (aP (x:=list[i]) (by rw [Int.toNat_natCast];exact U) (fP (sZ c.symm) rfl))),.inl ⟨i,rfl,c▸List.getElem_mem ah⟩⟩
    ·left
     refine ⟨(),dG (by omega) (bI (by omega) (aP (x:=list[i]) (by rw [Int.toNat_natCast];exact U) (hF (ua (Ne.symm c)) (by rw [Fx (by omega)])))),fun j aE=> ?_⟩
     by_cases e:j=i
     ·rw [e,U];exact fun h=>c (Option.some.inj h)
     ·exact cI j (by omega))
  (fun _ cI=>⟨_,by unfold sk;exact d4 (by omega) rfl,.inr ⟨rfl,fun ba=>by
    obtain ⟨j,aE,e⟩:=List.getElem_of_mem ba
    exact cI j aE (by rw [List.getElem?_eq_getElem aE,e])⟩⟩) () (fun j aE=>by omega)
 rcases h with ⟨i,rfl,h⟩|⟨rfl,h⟩
 ·exact aP (x:=(i:Int)) (aP e rfl) (by rw [decide_eq_true h];simp)
 ·exact aP (x:=(-1:Int)) (aP e rfl) (by rw [decide_eq_false h];rfl)
theorem aaB (s:cl)(aE:s.bY.length≤1000)(hm:s.bs.length≤1000)(list:List Int)(aU:list.length≤1048576):xW s list=some (ta s list):=by
 unfold xW HS
 rw [fa,List.nil_append]
 obtain ⟨x,e,-⟩:=ik (f:=fun w:Int×List bC=>w5 list s.bs (s.bs.length:Nat) s.bY w.1 w.2) (fun (i:Nat) (_:Unit)=>((i:Int),nH s.bs list i)) s.bs.length (fun _ _=>True) (fun _=>nH s.bs list s.bs.length)
  (fun i ah _ _=>by
    refine ⟨(),?_,trivial⟩
    have U:=List.getElem?_eq_getElem ah
    have hw:=Bz s.bs list i
    have e1:nH s.bs list (i+1)=nH s.bs list i++(if (i:Int)∈list then [] else [s.bs[i]]):=by rw [nH,U]
    unfold w5
    refine dG (by simp only;omega) (bI (by simp only;omega) (aP (x:=s.bs[i]) (by simp only;rw [Int.toNat_natCast];exact U) (aP (ad4 list aU _) ?_)))
    simp only
    rw [fA (by omega),e1]
    by_cases c:(i:Int)∈list
    ·rw [if_pos c]
     exact fP (decide_eq_true c) (by rw [List.append_nil])
    ·rw [if_neg c]
     exact hF (decide_eq_false c) (bI (by simp only [List.length_append,List.length_cons,List.length_nil];omega) rfl))
  (fun _ _=>by unfold w5;exact d4 (by simp) rfl) () trivial
 exact bI (by omega) (aP e rfl)
theorem aaC (s:cl)(aE:s.bY.length≤1000)(hm:s.bs.length≤1000)(list:List Int)(aU:list.length≤1048576):xZ s list=some (ta s list):=by
 unfold xZ HW Ek
 rw [fa]
 refine aP (x:=s.bY) (bI (by omega) rfl) ?_
 obtain ⟨x,e,-⟩:=ik (f:=fun w:Int×List bC=>w6 list s.bs (s.bs.length:Nat) s.bY w.1 w.2) (fun (i:Nat) (_:Unit)=>((i:Int),nH s.bs list i)) s.bs.length (fun _ _=>True) (fun _=>nH s.bs list s.bs.length)
  (fun i ah _ _=>by
    refine ⟨(),?_,trivial⟩
    have U:=List.getElem?_eq_getElem ah
    have hw:=Bz s.bs list i
    have e1:nH s.bs list (i+1)=nH s.bs list i++(if (i:Int)∈list then [] else [s.bs[i]]):=by rw [nH,U]
    unfold w6
    refine dG (by simp only;omega) (bI (by simp only;omega) (aP (x:=s.bs[i]) (by simp only;rw [Int.toNat_natCast];exact U) (aP (aaA list aU _) ?_)))
    simp only
    rw [fA (by omega),e1]
    by_cases c:(i:Int)∈list
    ·rw [if_pos c]
     exact fP (decide_eq_true c) (by rw [List.append_nil])
    ·rw [if_neg c]
     exact hF (decide_eq_false c) (bI (by simp only [List.length_append,List.length_cons,List.length_nil];omega) rfl))
  (fun _ _=>by unfold w6;exact d4 (by simp) rfl) () trivial
 exact aP e rfl
theorem aaD {wM:Nat}{l:List Int}(h:rc wM l=true):l.length=2*wM∧ ∀x∈l,-100≤x∧x≤100:=by
 unfold rc at h
 rw [Bool.and_eq_true,decide_eq_true_eq,List.all_eq_true] at h
 exact ⟨h.1,fun x U=>by have:=h.2 x U;unfold qu at this;simpa using this⟩
theorem Lq (s:cl)(i0:lX s)(l:List Int)(aU:l.length≤maxLen):
 (rK s l=some true∧u9 s l=some true∧nn s=some true∧rc s.bY.length l=true)∨(rK s l=some false∧u9 s l=some false):=by
 obtain ⟨p,p1,hE⟩:=Pe s i0
 have rC:p=true→s.bY.length≤6:=fun h=>(uN s i0 (h▸p1)).2.2.1
 have e:=QT s p p1 rC l aU
 cases p with
 | false=>exact .inr ⟨e,aP hE (hF rfl rfl)⟩
 | true =>
  rw [Bool.true_and] at e
  have aD:u9 s l=some (rc s.bY.length l):=aP hE (fP rfl (aP (aav s (rC rfl) l aU) rfl))
  by_cases c:rc s.bY.length l=true
  ·rw [c] at e aD;exact .inl ⟨e,aD,p1,c⟩
  ·rw [Bool.not_eq_true] at c
   rw [c] at e aD;exact .inr ⟨e,aD⟩
theorem Sv (s:cl)(i0:lX s)(l:List Int)(aU:l.length≤maxLen)(h:nn s=some true)(aT:rc s.bY.length l=true):
 ∃r,rJ s l=some r∧tl s l=some r:=by
 obtain ⟨f1,f2⟩:=aaD aT
 obtain ⟨r,r1,bV⟩:=aae s i0 h l f1 f2
 have e:=QT s true h (fun _=>(uN s i0 h).2.2.1) l aU
 rw [aT] at e
 refine ⟨r,aP e (fP rfl ?_),bV⟩
 cases ak:uQ s l with
 | none=>rw [ak] at r1;cases r1
 | some p =>
  rw [ak] at r1
  exact aP rfl (aP (show uO p=some r from r1) rfl)
theorem acY (s:cl)(i0:lX s)(h:nn s=some true)(list:List Int):
 lX (ta s list)∧nn (ta s list)=some true:=by
 refine ⟨⟨i0.1,?_⟩,Zi s i0 h _ (fun m hm=>LV hm) (Bz ..)⟩
 refine ⟨?_,fun m hm=>i0.2.2 m (LV hm)⟩
 exact Nat.le_trans (Bz ..) i0.2.1
theorem acZ (s:cl)(i0:lX s)(l:List Int)(aU:l.length≤maxLen)(h:nn s=some true)(aT:rc s.bY.length l=true)(list:List Int)(r8:list.length≤1048576):
 ∃r,(xW s list=some (ta s list)∧rJ (ta s list) l=some r)∧xZ s list=some (ta s list)∧tl (ta s list) l=some r:=by
 obtain ⟨-,-,aX,bl⟩:=uN s i0 h
 obtain ⟨jV,ob⟩:=acY s i0 h list
 obtain ⟨r,r1,bV⟩:=Sv (ta s list) jV l aU ob aT
 exact ⟨r,⟨aaB s (by omega) (by omega) list r8,r1⟩,aaC s (by omega) (by omega) list r8,bV⟩
def k0 (eb:List bC)(k:Int):Bool:=decide (0≤k) && (match eb[k.toNat]? with|some m=>m.gk == 1|none=>false)
theorem Lr (s:cl)(k:Int):xB s k=some (k0 s.bs k):=by
 unfold xB k0
 by_cases h0:0≤k
 ·refine dG h0 ?_
  by_cases h1:k<s.bs.length
  ·have U:=List.getElem?_eq_getElem (show k.toNat<s.bs.length by omega)
   refine dG (by rw [fa];exact h1) (bI ⟨h0,h1⟩ (aP U ?_))
   rw [decide_eq_true h0,U];simp
  ·refine d4 (by rw [fa];exact h1) ?_
   rw [List.getElem?_eq_none (by omega)];simp
 ·refine d4 h0 ?_
  rw [decide_eq_false h0];simp
theorem abg (s:cl)(hm:s.bs.length≤8)(list:List Int)(aU:list.length≤1048576):
 AG s list=some (list.all (k0 s.bs))∧zS list s=some (!(list.all (k0 s.bs))):=by
 have hw:R (len_ bB s.bs-1)=(s.bs.length:Int)-1:=by rw [fa,cw (by omega) (by omega)]
 have no : ∀ {i:Nat} {x:Int},list[i]? = some x→k0 s.bs x=false→list.all (k0 s.bs)=false:=fun U h=>by
  rw [List.all_eq_false];exact ⟨_,List.mem_of_getElem? U,by rw [h];simp⟩
 have yes:(∀i,i<list.length→ ∀x,list[i]? = some x→k0 s.bs x=true)→list.all (k0 s.bs)=true:=fun h=>by
  rw [List.all_eq_true];intro x U
  obtain ⟨i,ah⟩:=List.getElem?_of_mem U
  exact h i (gb ah) x ah
 constructor
 ·obtain ⟨r,e,h⟩:=pK (f:=fun w:Int=>xA list (list.length:Nat) s.bY s.bs w) (fun (i:Nat) (_:Unit)=>(i:Int)) list.length (fun i _=> ∀j,j<i→ ∀x,list[j]? = some x→k0 s.bs x=true) (fun r=>(r = .inr ()∧list.all (k0 s.bs)=false)∨(r = .inl ()∧list.all (k0 s.bs)=true))
   (fun i ah _ cI=>by
     have U:=List.getElem?_eq_getElem ah
     have gL:k0 s.bs list[i]=true→ ∀j,j<i+1→ ∀x,list[j]? = some x→k0 s.bs x=true:=fun h j aE x sV=>by
      by_cases e:j=i
      ·rw [e,U] at sV;obtain rfl:=Option.some.inj sV;exact h
      ·exact cI j (by omega) x sV
     unfold xA
     have aT:mB list[i] 0 (R (len_ bB s.bs-1))=some (decide (0≤list[i]∧list[i]≤(s.bs.length:Int)-1)):=by rw [hw,qX]
     by_cases c:0≤list[i]∧list[i]≤(s.bs.length:Int)-1
     ·have aZ:=List.getElem?_eq_getElem (show list[i].toNat<s.bs.length by omega)
      have ap:k0 s.bs list[i]=(s.bs[list[i].toNat].gk == 1):=by unfold k0;rw [aZ,decide_eq_true c.1];simp
      by_cases d:s.bs[list[i].toNat].gk=1
      ·left
       exact ⟨(),dG (by omega) (bI (by omega) (aP (x:=list[i]) (by rw [Int.toNat_natCast];exact U) (aP aT (fP (decide_eq_true c) (bI (by omega) (aP aZ (hF (zz d) (by rw [Fx (by omega)])))))))),gL (by rw [ap,d];rfl)⟩
      ·right
       exact ⟨_,dG (by omega) (bI (by omega) (aP (x:=list[i]) (by rw [Int.toNat_natCast];exact U) (aP aT (fP (decide_eq_true c) (bI (by omega) (aP aZ (fP (vY d) rfl))))))),.inl ⟨rfl,no U (by rw [ap];exact ua d)⟩⟩
     ·right
      have ap:k0 s.bs list[i]=false:=by
       unfold k0
       by_cases cJ:0≤list[i]
       ·rw [List.getElem?_eq_none (by omega)];simp
       ·rw [decide_eq_false cJ];simp
      exact ⟨_,dG (by omega) (bI (by omega) (aP (x:=list[i]) (by rw [Int.toNat_natCast];exact U) (aP aT (hF (decide_eq_false c) rfl)))),.inl ⟨rfl,no U ap⟩⟩)
   (fun _ cI=>⟨_,by unfold xA;exact d4 (by omega) rfl,.inr ⟨rfl,yes fun i ah=>cI i ah⟩⟩) () (fun j aE=>by omega)
  unfold AG Kd
  rw [fT]
  rcases h with ⟨rfl,h⟩|⟨rfl,h⟩
  ·exact aP e (by rw [h])
  ·exact aP e (by rw [h])
 ·obtain ⟨r,e,h⟩:=pK (f:=fun w:Int=>wP list s.bY s.bs (list.length:Nat) w) (fun (i:Nat) (_:Unit)=>(i:Int)) list.length (fun i _=> ∀j,j<i→ ∀x,list[j]? = some x→k0 s.bs x=true) (fun r=>(∃i:Nat,r = .inr (i:Int)∧list.all (k0 s.bs)=false)∨(r = .inl ()∧list.all (k0 s.bs)=true))
   (fun i ah _ cI=>by
     have U:=List.getElem?_eq_getElem ah
     unfold wP DX
     by_cases c:k0 s.bs list[i]=true
     ·left
      refine ⟨(),dG (by omega) (bI (by omega) (aP (x:=list[i]) (by rw [Int.toNat_natCast];exact U) (aP (x:=false) (aP (Lr _ _) (by rw [c];rfl)) (hF rfl (by rw [Fx (by omega)]))))),fun j aE x sV=> ?_⟩
      by_cases e:j=i
      ·rw [e,U] at sV;obtain rfl:=Option.some.inj sV;exact c
      ·exact cI j (by omega) x sV
     ·right
      rw [Bool.not_eq_true] at c
      exact ⟨_,dG (by omega) (bI (by omega) (aP (x:=list[i]) (by rw [Int.toNat_natCast];exact U) (aP (x:=true) (aP (Lr _ _) (by rw [c];rfl)) (fP rfl rfl)))),.inl ⟨i,rfl,no U c⟩⟩)
   (fun _ cI=>⟨_,by unfold wP;exact d4 (by omega) rfl,.inr ⟨rfl,yes fun i ah=>cI i ah⟩⟩) () (fun j aE=>by omega)
  unfold zS DA GD
  rw [fT]
  rcases h with ⟨i,rfl,h⟩|⟨rfl,h⟩
  ·exact aP (x:=(i:Int)) (aP e rfl) (by rw [h];simp)
  ·exact aP (x:=(-1:Int)) (aP e rfl) (by rw [h];rfl)
theorem Zj (s:cl)(i0:lX s)(l:List Int)(aU:l.length≤maxLen)(list:List Int)(r8:list.length≤1048576): ∃r,uR s l list=some r∧yh s l list=some r:=by
 unfold uR yh
 rcases Lq s i0 l aU with ⟨e1,aD,h,aT⟩|⟨e1,aD⟩
 ·obtain ⟨-,-,aX,bl⟩:=uN s i0 h
  obtain ⟨q1,a7⟩:=abg s bl list r8
  by_cases c:list.all (k0 s.bs)=true
  ·obtain ⟨r,⟨jV,ob⟩,qQ,Gh⟩:=acZ s i0 l aU h aT list r8
   rw [c] at q1 a7
   exact ⟨r,aP e1 (fP rfl (aP q1 (fP rfl (aP jV (aP ob rfl))))),aP aD (fP rfl (aP a7 (hF rfl (aP qQ (aP Gh rfl)))))⟩
  ·rw [Bool.not_eq_true] at c
   rw [c] at q1 a7
   exact ⟨false,aP e1 (fP rfl (aP q1 (hF rfl rfl))),aP aD (fP rfl (aP a7 (fP rfl rfl)))⟩
 ·exact ⟨false,aP e1 (hF rfl rfl),aP aD (hF rfl rfl)⟩
def mG (p:Nat→Bool):Nat→List Int
 | 0=>[]
 | n+1=>if p n then mG p n++[(n:Int)] else mG p n
theorem ER (p:Nat→Bool): ∀n,(mG p n).length≤n
 | 0=>Nat.le_refl _
 | n+1=>by
  have:=ER p n
  rw [mG]
  split
  ·rw [List.length_append,List.length_singleton];omega
  ·omega
theorem Ru {f:Int×List Int→Option ((Int×List Int)⊕List Int)}(p:Nat→Bool)(N:Nat)
 (h : ∀n,n<N→f ((n:Int),mG p n)=some (.inl (((n+1:Nat):Int),if p n then mG p n++[(n:Int)] else mG p n)))
 (he:f ((N:Int),mG p N)=some (.inr (mG p N))):iter f (0,[])=some (mG p N):=by
 obtain ⟨x,e,-⟩:=ik (f:=f) (fun (i:Nat) (_:Unit)=>((i:Int),mG p i)) N (fun _ _=>True) (fun _=>mG p N) (fun n a5 _ _=>⟨(),h n a5,trivial⟩) (fun _ _=>he) () trivial
 exact e
theorem ac0 (s:cl)(i0:lX s)(l:List Int)(aU:l.length≤maxLen): ∃r,rJ s l=some r∧Ej s l=some r:=by
 rcases Lq s i0 l aU with ⟨e1,aD,h,aT⟩|⟨e1,aD⟩
 ·obtain ⟨r,r1,bV⟩:=Sv s i0 l aU h aT
  exact ⟨r,r1,aP aD (fP rfl (aP bV rfl))⟩
 ·exact ⟨false,aP e1 (hF rfl rfl),aP aD (hF rfl rfl)⟩
noncomputable def ug (s:cl)(l list:List Int):Bool:=(uR s l list).getD false
theorem Rv (s:cl)(i0:lX s)(l:List Int)(aU:l.length≤maxLen)(list:List Int)(r8:list.length≤1048576):uR s l list=some (ug s l list)∧yh s l list=some (ug s l list):=by
 obtain ⟨r,r1,bV⟩:=Zj s i0 l aU list r8
 have:ug s l list=r:=by unfold ug;rw [r1];rfl
 rw [this];exact ⟨r1,bV⟩
theorem ac1 {eb:List bC}{n:Nat}{x:bC}(h:eb[n]? = some x):k0 eb (n:Int)=(x.gk == 1):=by
 unfold k0
 rw [Int.toNat_natCast,h,decide_eq_true (by omega)];simp
theorem ab1 (s:cl)(l:List Int)(h:rJ s l=some true):rK s l=some true:=by
 unfold rJ at h
 cases e:rK s l with
 | none=>rw [e] at h;cases h
 | some b =>
  cases b with
  | true=>rfl
  | false=>rw [e] at h;cases h
theorem aaE (s:cl)(i0:lX s)(l:List Int)(aU:l.length≤maxLen)(h:rJ s l=some true):s.bs.length≤8:=by
 rcases Lq s i0 l aU with ⟨-,-,h,-⟩|⟨e1,-⟩
 ·exact (uN s i0 h).2.2.2
 ·rw [ab1 s l h] at e1;cases e1
noncomputable def oF (s:cl)(l:List Int)(n:Nat):Bool:=k0 s.bs (n:Int) && !ug s l [(n:Int)]
theorem abh (s:cl)(i0:lX s)(l:List Int)(aU:l.length≤maxLen)(bl:s.bs.length≤8)(n:Nat)(a5:n<s.bs.length):
 xe l s.bs (s.bs.length:Nat) s.bY n (mG (oF s l) n)=some (.inl (((n+1:Nat):Int),if oF s l n then mG (oF s l) n++[(n:Int)] else mG (oF s l) n)):=by
 have ch:=ER (oF s l) n
 have U:=List.getElem?_eq_getElem a5
 obtain ⟨e1,-⟩:=Rv s i0 l aU [(n:Int)] (by simp)
 unfold xe
 refine dG (by omega) (bI (by omega) (aP (gt rfl U) ?_))
 rw [fA (by omega),oF,ac1 U]
 cases s.bs[n].gk == 1 with
 | true =>
  refine fP rfl (aP e1 ?_)
  cases ug s l [(n:Int)] with
  | true=>exact fP rfl rfl
  | false=>exact hF rfl (bI (by rw [List.length_append,List.length_singleton];omega) rfl)
 | false=>exact hF rfl rfl
theorem abi (s:cl)(i0:lX s)(l:List Int)(aU:l.length≤maxLen)(bl:s.bs.length≤8)(n:Nat)(a5:n<s.bs.length):
 wO s.bY s.bs s.bY s.bs l (s.bs.length:Nat) n (mG (oF s l) n)=some (.inl (((n+1:Nat):Int),if oF s l n then mG (oF s l) n++[(n:Int)] else mG (oF s l) n)):=by
 have ch:=ER (oF s l) n
 have U:=List.getElem?_eq_getElem a5
 obtain ⟨-,e1⟩:=Rv s i0 l aU [(n:Int)] (by simp)
 have aD:DV n (⟨s.bY,s.bs⟩:cl) l=some (!ug s l [(n:Int)]):=aP e1 rfl
 unfold wO
 refine dG (by omega) (aP (Lr s n) ?_)
 rw [fA (by omega),oF]
 cases k0 s.bs (n:Int) with
 | true =>
  refine fP rfl (aP aD ?_)
  cases ug s l [(n:Int)] with
  | true=>exact hF rfl rfl
  | false=>exact fP rfl (bI (by rw [List.length_append,List.length_singleton];omega) rfl)
 | false=>exact hF rfl rfl
theorem Yt (s:cl)(i0:lX s)(l:List Int)(aU:l.length≤maxLen): ∃r,Ag s l=some r∧(x8 s l=some (.inl r)∨(x8 s l=some (.inr ())∧r=[]))∧r.length≤8:=by
 obtain ⟨c,bp,ck⟩:=ac0 s i0 l aU
 unfold Ag x8 Dt
 cases c with
 | true =>
  have bl:=aaE s i0 l aU bp
  have f1:Jd l s.bs (len_ bB s.bs) s.bY 0 []=some (mG (oF s l) s.bs.length):=by
   rw [fa]
   exact Ru (oF s l) s.bs.length (fun n a5=>abh s i0 l aU bl n a5) (by simp only;unfold xe;exact d4 (by omega) rfl)
  have f2:Gm s.bY s.bs s.bY s.bs l (len_ bB s.bs) 0 []=some (mG (oF s l) s.bs.length):=by
   rw [fa]
   exact Ru (oF s l) s.bs.length (fun n a5=>abi s i0 l aU bl n a5) (by simp only;unfold wO;exact d4 (by omega) rfl)
  exact ⟨_,aP bp (fP rfl (aP f1 rfl)),.inl (aP ck (fP rfl (aP (aP f2 rfl) rfl))),Nat.le_trans (ER ..) bl⟩
 | false=>exact ⟨[],aP bp (hF rfl rfl),.inr ⟨aP ck (hF rfl rfl),rfl⟩,by simp⟩
theorem Vn (x0:cl)(x1:List Int)(i0:lX x0)(i1:(fun l=>l.length≤maxLen∧ ∀x∈l,o8 x) x1):DJ x0 x1=some true:=by
 unfold DJ
 rw [fT]
 by_cases h1:(1048576:Int)<(x1.length:Nat)
 ·exact dG h1 rfl
 refine d4 h1 ?_
 obtain ⟨r,r1,bV⟩:=YV x0 i0 1048576 (by omega) (by omega)
 refine aP r1 ?_
 by_cases o:r<0
 ·exact dG o rfl
 obtain ⟨gI,hL⟩:=bV (by omega)
 obtain ⟨q,q1,a7,fx⟩:=Yt x0 i0 x1 i1.1
 obtain ⟨lk,nK,ix,d1,d2,uh,UA,aiK⟩:=Xv (k:=1) (l:=x0.bY) (m:=x0.bs) (by omega) (by omega)
 refine d4 o (aP (YW x0 gI hL) (aP (aaw x1 (by omega)) (aP q1 ?_)))
 rcases a7 with g|⟨g,rfl⟩
 ·refine aP g (aP (Eu q (by omega)) (fP rfl (aP (Pd x0 gI hL) (fP rfl (aP (Eu x1 (by omega)) (fP rfl (aP d1 (bI d2.symm (bI uh.symm (aP (KW UA (by omega)) (d4 (by simp only;omega) (aP (KW (by omega) (by omega)) (bI (by simp only [yE];omega) ?_)))))))))))))
  simp only
  rw [List.drop_zero,List.take_of_length_le (by rw [yE];omega)]
  exact aP (PB (by omega) (by omega)) (d4 (by omega) (hF (zz rfl) rfl))
 ·exact aP g (aP (Eu [] (by simp)) (fP rfl (aP (Pd x0 gI hL) (fP rfl (aP (Eu x1 (by omega)) (fP rfl (aP d1 (bI d2.symm (bI uh.symm (aP (KW UA (by omega)) (d4 (by simp only;omega) (aP (Z7 1) (aP (Z8 (by omega) (by omega)) (d4 (by omega) (hF rfl rfl)))))))))))))))
end Go.Proofs.YtmeimpeaagmneabGreat
