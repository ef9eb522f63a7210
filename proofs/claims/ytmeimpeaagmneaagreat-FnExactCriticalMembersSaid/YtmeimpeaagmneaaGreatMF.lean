/- Lemmas, plain functions of the program, and what they answer. No condition. -/
import Derived.Test.YtmeimpeaagmneaaGreatME
namespace Go.Proofs.YtmeimpeaagmneaaGreat
set_option linter.unusedVariables false
set_option linter.unusedSimpArgs false
open Go Go.VL
theorem PS {p:hK}{m n:Nat}{a:Nat→Nat→Int}{b:Nat→Int}(h:mr p m n a b){i:Nat}(aj:i<m)(a6:List (List aQ))(bY:List bD)(cz:List Int)(bd:a6[i]? = some (bc (n+m+1) fun j=>cX (dS m n a b i j))):
 zR (i:Int) i (n+m+1) (((n+m+1:Nat):Nat):Int) p.fy p.ed p.dp p.dN p.hU ((n+m:Nat):Int) a6 bY cz 0 (bc (n+m+1) fun j=>cX (hn m n a b i j))=some (bc (n+m+1) fun j=>cX (hn m n a b (i+1) j)):=by
 have hm:=h.hm
 have a4:=h.a4
 have afQ : ∀j,gn (dS m n a b i j):=fun j=>KR (LM h aj j) (by omega)
 have f1 : ∀j,gn (hn m n a b i j):=fun j=>KR (Sd h (by omega) j) (by omega)
 have f2 : ∀j,gn (hn m n a b (i+1) j):=fun j=>KR (Sd h (by omega) j) (by omega)
 have es : ∀j,(j<n∨j=n+m)→hn m n a b i j+dS m n a b i j=hn m n a b (i+1) j:=fun j aG=>by
  unfold hn;rw [if_pos aG,if_pos aG,cM]
 have afR : ∀j,¬(j<n∨j=n+m)→hn m n a b i j=hn m n a b (i+1) j:=fun j aG=>by
  unfold hn;rw [if_neg aG,if_neg aG]
 obtain ⟨s,e,-⟩:=ie (f:=fun w:Int×List aQ=>w2 (i:Int) i (n+m+1) (((n+m+1:Nat):Nat):Int) p.fy p.ed p.dp p.dN p.hU ((n+m:Nat):Int) a6 bY cz w.1 w.2)
  (fun (k:Nat) (_:Unit)=>((k:Int),bc (n+m+1) fun j=>cX (if j<k then hn m n a b (i+1) j else hn m n a b i j))) (n+m+1) (fun _ _=>True) (fun _=>bc (n+m+1) fun j=>cX (hn m n a b (i+1) j))
  (fun k a9 _ _=>by
    refine ⟨(),?_,trivial⟩
    have fin : ∀r,r=hn m n a b (i+1) k→(R ((k:Int)+1),(bc (n+m+1) fun j=>cX (if j<k then hn m n a b (i+1) j else hn m n a b i j)).set (0+((k:Int)).toNat) (cX r))=(((k+1:Nat):Int),bc (n+m+1) fun j=>cX (if j<k+1 then hn m n a b (i+1) j else hn m n a b i j)):=by
     intro r aq
     rw [fz (by omega),Int.toNat_natCast,Nat.zero_add,lm]
     congr 1
     refine fg fun j _=> ?_
     by_cases c:j=k
     ·subst c;rw [if_pos rfl,if_pos (by omega),aq]
     ·rw [if_neg c]
      by_cases cn:j<k
      ·rw [if_pos cn,if_pos (by omega)]
      ·rw [if_neg cn,if_neg (by omega)]
    have TW : ∀ {x:Option ((Int×List aQ)⊕List aQ)},(k<n∨k=n+m)→(∀r,(R ((k:Int)+1),(bc (n+m+1) fun j=>cX (if j<k then hn m n a b (i+1) j else hn m n a b i j)).set (0+((k:Int)).toNat) (cX r))=(((k+1:Nat):Int),bc (n+m+1) fun j=>cX (if j<k+1 then hn m n a b (i+1) j else hn m n a b i j))→some (Sum.inl (R ((k:Int)+1),(bc (n+m+1) fun j=>cX (if j<k then hn m n a b (i+1) j else hn m n a b i j)).set (0+((k:Int)).toNat) (cX r)))=x) →
     (if 0≤(k:Int)∧(k:Int)<(((bc (n+m+1) fun j=>cX (if j<k then hn m n a b (i+1) j else hn m n a b i j)).length:Nat):Int) then
       (bc (n+m+1) fun j=>cX (if j<k then hn m n a b (i+1) j else hn m n a b i j))[(0+((k:Int)).toNat)]? >>= fun fM =>
       a6[i]? >>= fun nf =>
       if 0≤(k:Int)∧(k:Int)<((n+m+1:Nat):Int) then
       nf[(0+((k:Int)).toNat)]? >>= fun dl =>
       rB fM dl >>= fun dh =>
       if (0+((k:Int)).toNat)<(bc (n+m+1) fun j=>cX (if j<k then hn m n a b (i+1) j else hn m n a b i j)).length then
       some (.inl (R ((k:Int)+(1:Int)),(bc (n+m+1) fun j=>cX (if j<k then hn m n a b (i+1) j else hn m n a b i j)).set (0+((k:Int)).toNat) dh))
       else none
       else none
       else none)=x:=by
     intro x Fl U
     refine bJ (by rw [c4];omega) (aS (x:=cX (hn m n a b i k)) (by rw [Int.toNat_natCast,iw a9,if_neg (by omega)]) (aS bd (bJ (by omega) (aS (x:=cX (dS m n a b i k)) (by rw [Int.toNat_natCast];exact iw a9) (aS (LA (f1 k) (afQ k) (by rw [es k Fl];exact f2 k)) (bJ (by rw [c4,Int.toNat_natCast];omega) ?_))))))
     exact U _ (fin _ (es k Fl))
    unfold w2
    refine dI (by simp only;omega) (oF (fun c=> ?_) (fun c=> ?_))
    ·have M5:k<n:=by have:=of_decide_eq_true c;rw [h.gB] at this;simp only at this;omega
     exact TW (.inl M5) fun r aq=>by rw [aq]
    ·have M5 : ¬k<n:=by have:=of_decide_eq_false c;rw [h.gB] at this;simp only at this;omega
     refine oF (fun cn=> ?_) (fun cn=> ?_)
     ·have Tv:k=n+m:=by simp at cn;omega
      exact TW (.inr Tv) fun r aq=>by rw [aq]
     ·have Tv:k≠n+m:=by simp at cn;omega
      simp only
      rw [fz (by omega)]
      congr 3
      refine fg fun j _=> ?_
      by_cases jF:j=k
      ·subst jF;rw [if_neg (by omega),if_pos (by omega),afR j (by omega)]
      ·by_cases pX:j<k
       ·rw [if_pos pX,if_pos (by omega)]
       ·rw [if_neg pX,if_neg (by omega)])
  (fun _ _=>by
    unfold w2
    refine dY (by simp) ?_
    simp only
    congr 2
    exact fg fun j aG=>by rw [if_pos aG]) () trivial
 unfold zR
 have bP:(bc (n+m+1) fun j=>cX (if j<0 then hn m n a b (i+1) j else hn m n a b i j))=bc (n+m+1) fun j=>cX (hn m n a b i j):=fg fun j _=>by rw [if_neg (by omega)]
 rw [bP] at e
 exact e
theorem vq {K:Nat}{d x y:Rat}(bL:eC K d)(a1:eC K y)(h0:d≠0)(e:d*x=y)(hT:(K:Int)<B 24):gn x:=by
 obtain ⟨z,rfl,cD⟩:=bL
 obtain ⟨w,rfl,hw⟩:=a1
 exact QP (n:=w) (d:=z) (fun c=>h0 (by rw [c];rfl)) e (by omega) (by omega)
@[irreducible] def fR:Nat:=qz 100 20
theorem BB:qz 100 20=fR:=by unfold fR;rfl
theorem ac6:((21*100*(fR*fR):Nat):Int)<B 24:=by decide +kernel
theorem qi:0<fR:=by decide +kernel
structure k0 (m N:Nat) (A:Nat→Nat→Rat) (t:cy):Prop where
 ok:gf m m N A t
 mu:t.lq m N
 s7:t.D m A≠0
structure Small (m N:Nat) (A:Nat→Nat→Rat):Prop where
 hm:m≤20
 ua : ∀c,c<m→ ∀j,j≤N→eC 100 (A c j)
theorem k0.CK {m N:Nat}{A:Nat→Nat→Rat}(s:Small m N A){t:cy}(h:k0 m N A t):eC fR (t.D m A):=by
 refine eC.mono (yF fun i aj c bh=>s.ua c bh _ (Nat.le_of_lt (h.ok.kb i aj))) (BB▸yn (by omega) s.hm)
theorem k0.tT {m N:Nat}{A:Nat→Nat→Rat}(s:Small m N A){t:cy}(h:k0 m N A t){i j:Nat}(aj:i<m)(aG:j≤N):eC fR (t.T i j*t.D m A):=by
 rw [← h.ok.wh aj aG]
 refine eC.mono (yF fun k a9 c bh=> ?_) (BB▸yn (by omega) s.hm)
 simp only [gk]
 split
 ·exact s.ua c bh j aG
 ·exact s.ua c bh _ (Nat.le_of_lt (h.ok.kb k a9))
theorem vr {k:Nat}(h:k≤21*100*(fR*fR)):((k:Nat):Int)<B 24:=by have:=ac6;omega
theorem Mc:fR≤21*100*(fR*fR):=by
 have h1:fR*1≤fR*fR:=Nat.mul_le_mul_left _ qi
 omega
theorem k0.Sy {m N:Nat}{A:Nat→Nat→Rat}(s:Small m N A){t:cy}(h:k0 m N A t){i j:Nat}(aj:i<m)(aG:j≤N):gn (t.T i j) :=
 vq (h.CK s) (h.tT s aj aG) h.s7 (by grind) (vr Mc)
theorem k0.aeb {m N:Nat}{A:Nat→Nat→Rat}(s:Small m N A){t:cy}(h:k0 m N A t){i j:Nat}(aj:i<m)(aG:j≤N)(ak:0<t.T i j):gn (t.T i N / t.T i j) :=
 vq (h.tT s aj aG) (h.tT s aj (Nat.le_refl _)) (fun c=>by
  have h1:=h.s7
  have:t.T i j≠0:=by grind
  grind) (by grind) (vr Mc)
theorem k0.Tw {m N:Nat}{A:Nat→Nat→Rat}(s:Small m N A){t:cy}(h:k0 m N A t){I:Nat→Rat}(ap:∀j,j≤N→eC 100 (I j)){j:Nat}(aG:j≤N):eC (21*100*fR) (t.c5 m I j*t.D m A):=by
 have hm:=s.hm
 unfold cy.c5
 have e:(I j-cM m (fun i=>I (t.B i)*t.T i j))*t.D m A=I j*t.D m A-cM m (fun i=>I (t.B i)*(t.T i j*t.D m A)):=by
  rw [gE (f:=fun i=>I (t.B i)*(t.T i j*t.D m A)) (g:=fun i=>(I (t.B i)*t.T i j)*t.D m A) (fun i _=>by grind),AP];grind
 rw [e]
 refine eC.mono (((ap j aG).mul (h.CK s)).sub (eC.sum fun i aj=>(ap _ (Nat.le_of_lt (h.ok.kb i aj))).mul (h.tT s aj aG))) ?_
 have:m*(100*fR)≤20*(100*fR):=Nat.mul_le_mul_right _ hm
 omega
theorem Sz:21*100*fR≤21*100*(fR*fR):=by
 have h1:fR*1≤fR*fR:=Nat.mul_le_mul_left _ qi
 omega
theorem k0.Md {m N:Nat}{A:Nat→Nat→Rat}(s:Small m N A){t:cy}(h:k0 m N A t){I:Nat→Rat}(ap:∀j,j≤N→eC 100 (I j)){j:Nat}(aG:j≤N):gn (t.c5 m I j) :=
 vq ((h.CK s).mono (Nat.le_trans (by omega:fR≤21*100*fR) (Nat.le_refl _))) (h.Tw s ap aG) h.s7 (by grind) (vr Sz)
theorem k0.gY {m N K:Nat}{A obj:Nat→Nat→Rat}{cc:Nat→Prop}{t:cy}(h:k0 m N A t){r k:Nat}(b:pj m N K obj cc t r k):k0 m N A (t.cH r k) :=
 ⟨b.ok h.ok,b.L1 h.mu,by
  rw [h.ok.yN b.aq b.b6]
  have h1:=b.pos
  have o:=h.s7
  intro c
  have:t.T r k≠0:=by grind
  grind⟩
theorem k0.aec {m N:Nat}{A:Nat→Nat→Rat}(s:Small m N A){t:cy}(h:k0 m N A t){I:Nat→Rat}(ap:∀j,j≤N→eC 100 (I j)){r k:Nat}(aq:r<m)(a9:k<N)(ak:t.T r k≠0)(cK:gf m m N A (t.cH r k)):Ma m N t (t.c5 m I) r k:=by
 have bL:=h.s7
 have qp:(t.cH r k).D m A≠0:=by rw [h.ok.yN aq a9];grind
 have ex:(t.cH r k).D m A=t.T r k*t.D m A:=h.ok.yN aq a9
 have ps:eC fR ((t.cH r k).D m A):=eC.mono (yF fun i aj c bh=>s.ua c bh _ (Nat.le_of_lt (cK.kb i aj))) (BB▸yn (by omega) s.hm)
 have v7 : ∀i,i<m→ ∀j,j≤N→eC fR ((t.cH r k).T i j*(t.cH r k).D m A):=fun i aj j aG=>by
  rw [← cK.wh aj aG]
  refine eC.mono (yF fun k a9 c bh=> ?_) (BB▸yn (by omega) s.hm)
  simp only [gk]
  split
  ·exact s.ua c bh j aG
  ·exact s.ua c bh _ (Nat.le_of_lt (cK.kb k a9))
 have TX:eC (21*100*(fR*fR)) (t.D m A*(t.cH r k).D m A):=((h.CK s).mul ps).mono (by omega)
 have Tx:t.D m A*(t.cH r k).D m A≠0:=by grind
 refine ⟨fun i aj j aG=>h.Sy s aj aG,fun i aj j aG=>vq ps (v7 i aj j aG) qp (by grind) (vr Mc),fun i aj _ j aG=> ?_,fun j aG=>h.Md s ap aG,fun j aG=> ?_,fun j aG=> ?_⟩
 ·refine vq TX (((h.tT s aj (Nat.le_of_lt a9)).mul (h.tT s aq aG)).neg.mono (by omega)) Tx ?_ (vr (Nat.le_refl _))
  rw [ex];grind
 ·rw [← h.ok.K3 I aq a9 ak]
  have g2:eC (21*100*fR) ((t.cH r k).c5 m I j*(t.cH r k).D m A):=by
   have hm:=s.hm
   unfold cy.c5
   have e:(I j-cM m (fun i=>I ((t.cH r k).B i)*(t.cH r k).T i j))*(t.cH r k).D m A=I j*(t.cH r k).D m A-cM m (fun i=>I ((t.cH r k).B i)*((t.cH r k).T i j*(t.cH r k).D m A)):=by
    rw [gE (f:=fun i=>I ((t.cH r k).B i)*((t.cH r k).T i j*(t.cH r k).D m A)) (g:=fun i=>(I ((t.cH r k).B i)*(t.cH r k).T i j)*(t.cH r k).D m A) (fun i _=>by grind),AP];grind
   rw [e]
   refine eC.mono (((ap j aG).mul ps).sub (eC.sum fun i aj=>(ap _ (Nat.le_of_lt (cK.kb i aj))).mul (v7 i aj j aG))) ?_
   have:m*(100*fR)≤20*(100*fR):=Nat.mul_le_mul_right _ hm
   omega
  exact vq (ps.mono (by omega)) g2 qp (by grind) (vr Sz)
 ·refine vq TX (((h.Tw s ap (Nat.le_of_lt a9)).mul (h.tT s aq aG)).neg.mono (by
   rw [Nat.mul_assoc];exact Nat.le_refl _)) Tx ?_ (vr (Nat.le_refl _))
  rw [ex];grind
theorem ab2 {p:hK}{m n:Nat}{a:Nat→Nat→Int}{b:Nat→Int}(h:mr p m n a b):
 zZ p=some (((n+m:Nat):Int),mZ m (n+m),dE m (iA m n a b),lr (n+m) ((iA m n a b).c5 m (gP m n)),i6 m (n+m) (iA m n a b)):=by
 have hm:=h.hm
 have a4:=h.a4
 have fY:R (p.ed+p.fy)=((n+m:Nat):Int):=by rw [h.gB,h.rows,← Int.natCast_add,ct (by omega) (by omega)]
 unfold zZ
 rw [fY]
 obtain ⟨s1,e1,-⟩:=ie (f:=fun w:Int×List aQ=>wZ p.fy p.ed p.dp p.dN p.hU ((n+m:Nat):Int) w.1 w.2)
  (fun (k:Nat) (_:Unit)=>((k:Int),bc k fun j=>cX (0:Rat))) (n+m+1) (fun _ _=>True) (fun _=>bc (n+m+1) fun j=>cX (0:Rat))
  (fun k a9 _ _=>by
    refine ⟨(),?_,trivial⟩
    unfold wZ
    refine dI (by simp only;omega) (aS (x:=cX (0:Rat)) (sr (n:=0) (by rw [my];omega)) (bJ (by simp only [List.length_append,c4,List.length_cons,List.length_nil];omega) ?_))
    simp only;rw [fz (by omega),ll])
  (fun _ _=>by unfold wZ;exact dY (by simp only;omega) rfl) () trivial
 refine aS (x:=bc (n+m+1) fun j=>cX (0:Rat)) (by unfold I6;exact e1) ?_
 obtain ⟨s2,aE,-⟩:=ie (f:=fun w:Int×(List bD)×(List (List aQ))×(List Int)×(List aQ)=>wT p.fy p.ed p.dp p.dN p.hU ((n+m:Nat):Int) w.1 w.2.1 w.2.2.1 w.2.2.2.1 w.2.2.2.2)
  (fun (i:Nat) (_:Unit)=>((i:Int),bc i (fun k=>some (k,n+m+1)),bc i (hr (n+m) (iA m n a b)),bc i (fun k=>((n+k:Nat):Int)),bc (n+m+1) fun j=>cX (hn m n a b i j))) m (fun _ _=>True)
  (fun _=>(mZ m (n+m),i6 m (n+m) (iA m n a b),dE m (iA m n a b),bc (n+m+1) fun j=>cX (hn m n a b m j)))
  (fun i aj _ _=>by
    refine ⟨(),?_,trivial⟩
    have aU:=h.wm i aj
    have hlen:((bc (n+m) fun j=>cX (dS m n a b i j))++[cX (dS m n a b i (n+m))])=hr (n+m) (iA m n a b) i:=(ll ..).symm
    have CL:(hr (n+m) (iA m n a b) i).length=n+m+1:=c4 ..
    have hw:R (p.ed+(i:Int))=((n+i:Nat):Int):=by rw [h.gB,← Int.natCast_add,ct (by omega) (by omega)]
    have dB:(bc i (hr (n+m) (iA m n a b))++[hr (n+m) (iA m n a b) i])[i]? = some (hr (n+m) (iA m n a b) i):=by rw [← ll];exact gi (by omega)
    have Ty:(bc i (hr (n+m) (iA m n a b))).length=i:=c4 ..
    have pW:kz m n a b i (n+m)=kq (b i)*b i:=by unfold kz;rw [if_neg (by omega),if_pos rfl]
    have fin:(some (Sum.inl (R ((i:Int)+1),(bc i (fun k=>(some (k,n+m+1):bD)))++[some (i,n+m+1)],bc i (hr (n+m) (iA m n a b))++[hr (n+m) (iA m n a b) i],(bc i fun k=>((n+k:Nat):Int))++[((n+i:Nat):Int)],bc (n+m+1) fun j=>cX (hn m n a b (i+1) j))):Option ((Int×(List bD)×(List (List aQ))×(List Int)×(List aQ))⊕((List bD)×(List (List aQ))×(List Int)×(List aQ)))) =
     some (Sum.inl (((i+1:Nat):Int),bc (i+1) (fun k=>some (k,n+m+1)),bc (i+1) (hr (n+m) (iA m n a b)),bc (i+1) (fun k=>((n+k:Nat):Int)),bc (n+m+1) fun j=>cX (hn m n a b (i+1) j))):=by
     rw [fz (by omega),ll i (fun k=>(some (k,n+m+1):bD)),ll i (hr (n+m) (iA m n a b)),ll i (fun k=>((n+k:Nat):Int))]
    unfold wT
    refine dI (by simp only;rw [h.rows];omega) (bJ (by simp only;rw [h.wo];omega) (aS (x:=b i) (by simp only;rw [Int.toNat_natCast];exact h.yV i aj) (oF (fun c=> ?_) (fun c=> ?_))))
    ·have nu:b i<0:=of_decide_eq_true c
     have b6:kq (b i) = -1:=by unfold kq;rw [if_pos nu]
     refine aS (LB h aj) ?_
     have aq:=Y5 h aj nu ((n+m:Nat):Int) (bc i (fun k=>some (k,n+m+1))) (bc i (hr (n+m) (iA m n a b))) (bc i (fun k=>((n+k:Nat):Int))) (bc (n+m+1) fun j=>cX (hn m n a b i j))
     rw [Option.bind_eq_bind,Option.bind_eq_some_iff] at aq
     obtain ⟨c2,ia,vW⟩:=aq
     refine aS ia (aS vW (aS (x:=cX (dS m n a b i (n+m))) (by
      have e:R ((-1:Int)*b i)=kz m n a b i (n+m):=by rw [pW,b6,ct (by omega) (by omega)]
      rw [e];exact sr (by have:=sC h aj (n+m);rw [my];omega)) ?_))
     simp only
     rw [hlen,Ty,CL,hw]
     refine bJ (by omega) (aS dB (aS (PS h aj _ _ _ dB) (bJ (by simp only [List.length_append,c4,List.length_cons,List.length_nil];omega) (bJ (by simp only [List.length_append,c4,List.length_cons,List.length_nil];omega) fin))))
    ·have nu : ¬b i<0:=of_decide_eq_false c
     have b6:kq (b i)=1:=by unfold kq;rw [if_neg nu]
     refine aS (LB h aj) ?_
     have aq:=Y6 h aj nu ((n+m:Nat):Int) (bc i (fun k=>some (k,n+m+1))) (bc i (hr (n+m) (iA m n a b))) (bc i (fun k=>((n+k:Nat):Int))) (bc (n+m+1) fun j=>cX (hn m n a b i j))
     rw [Option.bind_eq_bind,Option.bind_eq_some_iff] at aq
     obtain ⟨c2,ia,vW⟩:=aq
     refine aS ia (aS vW (aS (x:=cX (dS m n a b i (n+m))) (by
      have e:R ((1:Int)*b i)=kz m n a b i (n+m):=by rw [pW,b6,ct (by omega) (by omega)]
      rw [e];exact sr (by have:=sC h aj (n+m);rw [my];omega)) ?_))
     simp only
     rw [hlen,Ty,CL,hw]
     refine bJ (by omega) (aS dB (aS (PS h aj _ _ _ dB) (bJ (by simp only [List.length_append,c4,List.length_cons,List.length_nil];omega) (bJ (by simp only [List.length_append,c4,List.length_cons,List.length_nil];omega) fin)))))
  (fun _ _=>by unfold wT;exact dY (by simp only;rw [h.rows];omega) rfl) () trivial
 have e0:(bc (n+m+1) fun j=>cX (hn m n a b 0 j))=bc (n+m+1) fun j=>cX (0:Rat):=fg fun j _=>by
  unfold hn;split<;>rfl
 rw [e0] at aE
 refine aS (x:=(mZ m (n+m),i6 m (n+m) (iA m n a b),dE m (iA m n a b),bc (n+m+1) fun j=>cX (hn m n a b m j))) (by unfold IA;exact aE) ?_
 congr 1
 refine Prod.ext rfl (Prod.ext rfl (Prod.ext rfl (Prod.ext ?_ rfl)))
 refine fg fun j aG=> ?_
 rw [aaK]
 unfold hn gP
 by_cases c:j<n∨j=n+m
 ·rw [if_pos c,if_neg (by omega)];congr 1;grind
 ·rw [if_neg c,if_pos (by omega)]
  obtain ⟨k,rfl⟩ : ∃k,j=n+k:=⟨j-n,by omega⟩
  rw [k5 (k:=k) (by omega) (fun i _ c6=>by rw [so (by omega),if_neg (Ne.symm c6)]),so (by omega),if_pos rfl,show (-1:Rat)+1=0 by grind]
theorem K7 (l:List Int)(aV:l.length≤1000)(h:∀x∈l,-100≤x∧x≤100):uZ l=some true:=by
 unfold uZ Kg
 rw [f5]
 obtain ⟨s,e,-⟩:=ie (f:=fun w:Int=>xH l (l.length:Nat) w) (fun (i:Nat) (_:Unit)=>(i:Int)) l.length (fun _ _=>True) (fun _=>(Sum.inl ():Unit⊕Unit))
  (fun i aj _ _=>by
    refine ⟨(),?_,trivial⟩
    have U:=h l[i] (List.getElem_mem aj)
    unfold xH
    refine dI (by omega) (bJ (by omega) (aS (x:=l[i]) (by rw [Int.toNat_natCast];exact List.getElem?_eq_getElem aj) (aS (qb _ _ _) (gh (decide_eq_true (by omega)) ?_))))
    rw [fz (by omega)])
  (fun _ _=>by unfold xH;exact dY (by omega) rfl) () trivial
 exact aS e rfl
theorem Zq {p:hK}{m n:Nat}{a:Nat→Nat→Int}{b:Nat→Int}(h:mr p m n a b)(FN:p.hU.length=n)(C1:∀x∈p.hU,-100≤x∧x≤100):z5 p=some true:=by
 have hm:=h.hm
 have a4:=h.a4
 have Fv:m*n≤20*40:=Nat.mul_le_mul hm a4
 have hA : ∀x∈p.dp,-100≤x∧x≤100:=fun x U=>by
  obtain ⟨k,a9,rfl⟩:=List.getElem_of_mem U
  rw [h.gD] at a9
  have B7:0<n:=by
   rcases Nat.eq_zero_or_pos n with c|c
   ·rw [c] at a9;omega
   ·exact c
  have h1:k / n<m:=Nat.div_lt_of_lt_mul (by rw [Nat.mul_comm];exact a9)
  have o:k % n<n:=Nat.mod_lt _ B7
  have af:=h.Mb (k / n) h1 (k % n) o
  have au:k / n*n+k % n=k:=by rw [Nat.mul_comm];exact Nat.div_add_mod k n
  rw [au,List.getElem?_eq_getElem (by rw [h.gD];exact a9)] at af
  rw [Option.some.inj af]
  exact h.s6 _ h1 _ o
 have ho : ∀x∈p.dN,-100≤x∧x≤100:=fun x U=>by
  obtain ⟨k,a9,rfl⟩:=List.getElem_of_mem U
  have af:=h.yV k (by rw [← h.wo];exact a9)
  rw [List.getElem?_eq_getElem a9] at af
  rw [Option.some.inj af]
  exact h.wm _ (by rw [← h.wo];exact a9)
 unfold z5
 rw [h.rows,h.gB]
 refine aS (qb _ _ _) (gh (decide_eq_true (by omega)) (aS (qb _ _ _) (gh (decide_eq_true (by omega)) ?_)))
 refine gh (sN (by rw [f5,h.gD,← Int.natCast_mul,ct (by omega) (by omega)])) (gh (sN (by rw [f5,h.wo])) (gh (sN (by rw [f5,FN])) ?_))
 exact aS (K7 _ (by rw [h.gD];omega) hA) (gh rfl (aS (K7 _ (by rw [h.wo];omega) ho) (gh rfl (aS (K7 _ (by rw [FN];omega) C1) rfl))))
theorem Li (m n j:Nat):eC 100 (gP m n j):=by
 unfold gP;split
 ·exact ⟨-1,rfl,by omega⟩
 ·exact ⟨0,rfl,by omega⟩
theorem EZ {g:Nat→Rat}:hL 1 g↔0<g 0:=by
 constructor
 ·rintro ⟨l,h1,o,-⟩;rw [show l=0 by omega] at o;exact o
 ·intro h;exact ⟨0,by omega,h,fun fB aV=>by omega⟩
theorem KS {p:hK}{m n:Nat}{a:Nat→Nat→Int}{b:Nat→Int}(h:mr p m n a b):Small m (n+m) (dS m n a b):=⟨h.hm,fun c bh j _=>LM h bh j⟩
theorem abe {p:hK}{m n:Nat}{a:Nat→Nat→Int}{b:Nat→Int}(h:mr p m n a b):
 ∃t,xZ false ((n+m:Nat):Int) (mZ m (n+m)) (dE m (iA m n a b)) (lr (n+m) ((iA m n a b).c5 m (gP m n))) (i6 m (n+m) (iA m n a b))=some (true,dE m t,lr (n+m) (t.c5 m (gP m n)),i6 m (n+m) t) ∧
  k0 m (n+m) (dS m n a b) t∧(t.c5 m (gP m n) (n+m)=0↔tD m n a b):=by
 have hm:=h.hm
 have a4:=h.a4
 have s8:=KS h
 obtain ⟨q,t,e,cN,ey⟩:=ac5 (gv:=m) (m:=m) (N:=n+m) (K:=1) (by omega) (by omega) (A:=dS m n a b) (obj:=fun _=>gP m n) false (k0 m (n+m) (dS m n a b)) (fun t cm=>⟨cm.ok,cm.mu⟩) (fun t r s cm b=>cm.gY b)
  (fun t cm j aG=>⟨jZ (t.c5 m (gP m n) j),acA (by omega) _ _ _ _ (by omega) (cm.Md s8 (fun j _=>Li m n j) (by omega)),fun _=>by rw [qQ];exact (EZ (g:=fun _=>t.c5 m (gP m n) j)).symm⟩)
  (fun t cm i aj j aG=>cm.Sy s8 aj aG) (fun t cm i aj j aG ak=>cm.aeb s8 aj aG ak)
  (fun t cm r k aq a9 ak=>cm.aec s8 (fun j _=>Li m n j) aq a9 ak (cm.ok.cH aq a9 ak)) (iA m n a b) ⟨Re,Qb,QE⟩
 rcases ey with ⟨rfl,ey⟩|⟨-,s,b6,dB,jO⟩
 ·refine ⟨t,e,cN,fun h0=>Pn cN.ok cN.mu (Po cN.mu h0 cN.ok.kb),fun afm=>PM cN.ok cN.mu (fun j aG=> ?_) afm⟩
  have:=ey j (by omega)
  have o : ¬0<t.c5 m (gP m n) j:=fun c=>this (EZ.2 c)
  grind
 ·obtain ⟨i,aj,ak⟩:=O5 cN.ok b6 (EZ.1 dB)
  exact (jO i aj ak).elim
theorem YQ {p:hK}{m n:Nat}{a:Nat→Nat→Int}{b:Nat→Int}(h:mr p m n a b)(FN:p.hU.length=n)(C1:∀x∈p.hU,-100≤x∧x≤100): ∃r,uA p=some r∧(r=true↔tD m n a b):=by
 have hm:=h.hm
 have a4:=h.a4
 obtain ⟨t,e,cN,b6⟩:=abe h
 unfold uA
 refine ⟨_,aS (Zq h FN C1) (gh rfl (aS (ab2 h) (aS e (bJ (by simp only;unfold lr;rw [c4];omega) (aS (x:=cX (t.c5 m (gP m n) (n+m))) (by simp only;rw [Int.toNat_natCast];exact iw (by omega)) (aS (qe (cN.Md (KS h) (fun j _=>Li m n j) (Nat.le_refl _))) rfl)))))),?_⟩
 rw [← b6,beq_iff_eq,rI]
def ca (x:Rat):bt:=hl x.num
@[irreducible] def kL:Nat:=1000000000 ^ 40
theorem SA:((kL:Nat):Int)+((kL:Nat):Int)<B 50:=by decide +kernel
theorem ac7 {K:Nat}{x:Rat}(h:eC K x):((x.num:Int):Rat)=x∧x.num.natAbs≤K:=by
 obtain ⟨z,rfl,cD⟩:=h
 rw [Rat.num_intCast];exact ⟨rfl,cD⟩
theorem oR (z:Int):ca (z:Rat)=hl z:=by unfold ca;rw [Rat.num_intCast]
theorem yH {x:Rat}(h:eC kL x):(L x.num.natAbs).length≤50:=by
 have:=SA
 have h1:=(ac7 h).2
 exact (jk (by omega)).2 (by omega)
theorem yp {x y:Rat}(U:eC kL x)(a1:eC kL y):pv (ca x) (ca y)=some (ca (x*y)):=by
 have h1:=yH U
 have o:=yH a1
 obtain ⟨a,rfl,-⟩:=U;obtain ⟨b,rfl,-⟩:=a1
 rw [Rat.num_intCast] at h1 o
 rw [oR,oR,← Rat.intCast_mul,oR]
 exact aa1 (by omega) (by omega)
theorem QQ {x y:Rat}(U:eC kL x)(a1:eC kL y):ux (ca x) (ca y)=some (ca (x-y)):=by
 have ho:=SA
 obtain ⟨a,rfl,bH⟩:=U;obtain ⟨b,rfl,aU⟩:=a1
 rw [oR,oR,← Rat.intCast_sub,oR]
 exact aa9 (by omega) (by omega)
theorem tt {x:Rat}(U:eC kL x):pc (ca x)=some (jZ x):=by
 obtain ⟨a,rfl,bH⟩:=U
 rw [oR]
 unfold pc jZ
 simp only [f5]
 have e:(((L a.natAbs).length:Nat):Int)=0↔a=0:=by rw [L9 (by omega)];omega
 show (if (((L a.natAbs).length:Int) == 0)=true then some 0 else if decide (a<0)=true then some (-1) else some 1)=_
 by_cases h0:a=0
 ·rw [if_pos (by rw [beq_iff_eq,e];exact h0),if_pos (by rw [h0];rfl)]
 ·have afn:(a:Rat)≠0:=fun c=>h0 (Rat.intCast_inj.1 (by rw [c];rfl))
  rw [if_neg (by rw [beq_iff_eq,e];exact h0),if_neg afn]
  have aE:(a:Rat)<0↔a<0:=by
   rw [show (0:Rat)=((0:Int):Rat) from rfl,Rat.intCast_lt_intCast]
  by_cases h1:a<0
  ·rw [if_pos (decide_eq_true h1),if_pos (aE.2 h1)]
  ·rw [if_neg (by simpa using h1),if_neg (fun c=>h1 (aE.1 c))]
theorem aaq {x y:Rat}(U:eC kL x)(a1:eC kL y):r4 (ca x) (ca y)=some (if x<y then -1 else if y<x then 1 else 0):=by
 have h1:=yH U
 have o:=yH a1
 obtain ⟨a,rfl,-⟩:=U;obtain ⟨b,rfl,-⟩:=a1
 rw [Rat.num_intCast] at h1 o
 rw [oR,oR,XK (by omega) (by omega)]
 unfold la
 simp only [Rat.intCast_lt_intCast]
theorem Pq {x:Rat}(U:eC kL x):r3 (ca x)=some (ca (-x)):=by
 obtain ⟨a,rfl,-⟩:=U
 rw [oR,← Rat.intCast_neg,oR]
 unfold r3
 show (ni (!(decide (a<0))) (L a.natAbs)).bind _=_
 rw [si (by omega),Lz];rfl
theorem sg {n:Int}(h:ov n):oH n=some (ca (n:Rat)):=by rw [oR];exact aah h
theorem aar {x y:Rat}(U:eC kL x)(a1:eC kL y)(MC:eC kL (x*y))(h0:y≠0):tb (ca (x*y)) (ca y)=some (ca x):=by
 have h1:=yH MC
 have o:=yH a1
 obtain ⟨a,rfl,-⟩:=U;obtain ⟨b,rfl,-⟩:=a1
 rw [← Rat.intCast_mul] at h1 ⊢
 rw [Rat.num_intCast] at h1 o
 have aU:b≠0:=fun c=>h0 (by rw [c];rfl)
 rw [oR,oR,oR]
 unfold tb
 show (yg (L (a*b).natAbs) (L b.natAbs)).bind _=_
 rw [acu (jz _) (jz _) (fun c=>by have:=tA.1 c;omega) (by omega) (by omega),ew (by omega),ew (by omega)]
 have e1:((a*b).natAbs:Int) / (b.natAbs:Int)=(a.natAbs:Int):=by
  rw [Int.natAbs_mul,Int.natCast_mul];exact Int.mul_ediv_cancel _ (by omega)
 simp only [Option.bind_some]
 rw [e1]
 show (ni (!(decide (a*b<0) == decide (b<0))) (L a.natAbs)).bind _=_
 rw [si (by omega)]
 simp only [Option.bind_some]
 congr 2
 rcases Int.lt_or_gt_of_ne aU with c|c
 ·by_cases bH:a<0
  ·have : ¬a*b<0:=by have:=Int.mul_pos_of_neg_of_neg bH c;omega
   rw [decide_eq_false this,decide_eq_true c];simp only [eo,show (!(false == true))=true from rfl,if_true];omega
  ·by_cases cD:a=0
   ·subst cD;simp [eo]
   ·have:a*b<0:=Int.mul_neg_of_pos_of_neg (by omega) c
    rw [decide_eq_true this,decide_eq_true c];simp only [eo,BEq.rfl,Bool.not_true,Bool.false_eq_true,if_false];omega
 ·by_cases bH:a<0
  ·have:a*b<0:=Int.mul_neg_of_neg_of_pos bH c
   rw [decide_eq_true this,decide_eq_false (by omega)];simp only [eo,show (!(true == false))=true from rfl,if_true];omega
  ·have : ¬a*b<0:=by have:=Int.mul_nonneg (show 0≤a by omega) (show 0≤b by omega);omega
   rw [decide_eq_false this,decide_eq_false (by omega)];simp only [eo,BEq.rfl,Bool.not_true,Bool.false_eq_true,if_false];omega
def gZ (N:Nat)(w:Rat)(t:cy)(i:Nat):List bt:=bc (N+1) fun j=>ca (t.T i j*w)
structure q6 (m N:Nat) (w:Rat) (t:cy):Prop where
 pos:0<w
 hw:eC (21*100*fR) w
 iI : ∀i,i<m→ ∀j,j≤N→eC fR (t.T i j*w)
 ho : ∀i,i<m→t.B i<N
theorem BC:21*100*fR*(21*100*fR)+21*100*fR*(21*100*fR)≤kL:=by decide +kernel
theorem aed {q i:Nat}(bd:0<q)(aj:i≤20):21*100*q*100+i*(q*100)≤21*100*q*(21*100*q):=by
 have h1:i*(q*100)≤20*(q*100):=Nat.mul_le_mul_right _ aj
 have o:21*100*q*2100≤21*100*q*(21*100*q):=Nat.mul_le_mul_left _ (by omega)
 generalize 21*100*q*(21*100*q)=z at *
 omega
theorem aee {i:Nat}(aj:i≤20):21*100*fR*100+i*(fR*100)≤kL :=
 Nat.le_trans (aed qi aj) (Nat.le_trans (Nat.le_add_right _ _) BC)
theorem sH {K:Nat}(h:K≤21*100*fR):K≤kL:=by
 have afo:=BC
 have h1:21*100*fR*1≤21*100*fR*(21*100*fR):=Nat.mul_le_mul_left _ (by have:=qi;generalize fR=q at *;omega)
 rw [Nat.mul_one] at h1
 exact Nat.le_trans h (Nat.le_trans h1 (Nat.le_trans (Nat.le_add_right _ _) afo))
theorem Rm {m N:Nat}(hm:m≤20)(fY:N<1000){w:Rat}{t:cy}(h:q6 m N w t)(I:Nat→Int)(ap:∀j,j<N→ -100≤I j∧I j≤100)(jc:bt)(yZ:jc=ca w)(gB:Int)(free:List Bool){k:Nat}(a9:k<N):
 xN ⟨bc m (gZ N w t),jc,dE m t,gB,free⟩ (bc N I) (k:Int)=some (jZ (t.c5 m (fun j=>(I j:Rat)) k)):=by
 subst yZ
 have ahG:=qi
 have small : ∀ {x:Rat} {K:Nat},eC K x→K≤21*100*fR→eC kL x:=fun h1 o=>h1.mono (sH o)
 have ao : ∀j,j<N→eC 100 ((I j:Int):Rat):=fun j aG=>⟨I j,rfl,by have:=ap j aG;omega⟩
 have Tz : ∀j,j<N→ov (I j):=fun j aG=>by have:=ap j aG;rw [my];omega
 let S:Nat→Rat:=fun i=>w*(I k:Rat)-cM i (fun i=>(t.T i k*w)*(I (t.B i):Rat))
 have TY : ∀i,i≤m→eC kL (S i):=fun i aj=>by
  have e1:eC (21*100*fR*100) (w*(I k:Rat)):=h.hw.mul (ao k a9)
  have aE:eC (i*(fR*100)) (cM i (fun i=>(t.T i k*w)*(I (t.B i):Rat))):=eC.sum fun eM jP=>(h.iI eM (by omega) k (by omega)).mul (ao _ (h.ho eM (by omega)))
  exact (e1.sub aE).mono (aee (by omega))
 unfold xN
 refine bJ (by rw [c4];omega) (aS (x:=I k) (by rw [Int.toNat_natCast];exact gi a9) (aS (sg (Tz k a9)) (aS (yp (small h.hw (Nat.le_refl _)) (small (ao k a9) (by omega))) ?_)))
 obtain ⟨s,e,-⟩:=ie (f:=fun q:Int×Bool×List Int=>wQ (bc m (gZ N w t)) (ca w).cS (ca w).cJ (dE m t) gB free (bc N I) (k:Int) ((m:Nat):Int) q.1 q.2.1 q.2.2)
  (fun (i:Nat) (_:Unit)=>((i:Int),(ca (S i)).cS,(ca (S i)).cJ)) m (fun _ _=>True) (fun _=>((ca (S m)).cS,(ca (S m)).cJ))
  (fun i aj _ _=>by
    refine ⟨(),?_,trivial⟩
    have FF:=h.ho i aj
    have M6:S (i+1)=S i-(t.T i k*w)*(I (t.B i):Rat):=by simp only [S,cM];grind
    unfold wQ
    refine dI (by simp only;omega) (bJ (by unfold dE;rw [c4];simp only;omega) (aS (x:=((t.B i:Nat):Int)) (by simp only;rw [Int.toNat_natCast];exact gi aj) (bJ (by rw [c4];omega) (aS (x:=I (t.B i)) (by rw [Int.toNat_natCast];exact gi FF) (oF (fun c=> ?_) (fun c=> ?_))))))
    ·refine bJ (by rw [c4];simp only;omega) (aS (x:=gZ N w t i) (by simp only;rw [Int.toNat_natCast];exact gi aj) (bJ (by unfold gZ;rw [c4];omega) (aS (x:=ca (t.T i k*w)) (by rw [Int.toNat_natCast];exact gi (by omega)) (aS (tt (small (h.iI i aj k (by omega)) (by omega))) (oF (fun cn=> ?_) (fun cn=> ?_))))))
     ·refine aS (sg (Tz _ FF)) (aS (yp (small (h.iI i aj k (by omega)) (by omega)) (small (ao _ FF) (by omega))) (aS (QQ (TY i (by omega)) (by
       exact small ((h.iI i aj k (by omega)).mul (ao _ FF)) (by omega))) ?_))
      simp only;rw [fz (by omega),M6]
     ·have cD:t.T i k*w=0:=rI.1 (by simpa using cn)
      simp only;rw [fz (by omega),M6,cD,show S i-0*(I (t.B i):Rat)=S i by grind]
    ·have cD:I (t.B i)=0:=by simpa using c
     simp only;rw [fz (by omega),M6,cD,show S i-t.T i k*w*((0:Int):Rat)=S i by rw [show ((0:Int):Rat)=0 from rfl];grind])
  (fun _ _=>by unfold wQ;exact dY (by simp) rfl) () trivial
 have e0:S 0=w*(I k:Rat):=by simp only [S,cM];grind
 rw [e0] at e
 refine aS (x:=((ca (S m)).cS,(ca (S m)).cJ)) (by unfold H4;rw [f5,show (dE m t).length=m from c4 ..];exact e) (aS (x:=jZ (S m)) (tt (TY m (Nat.le_refl _))) ?_)
 congr 1
 have aE:S m=w*t.c5 m (fun j=>(I j:Rat)) k:=by
  simp only [S]
  unfold cy.c5
  rw [gE (f:=fun i=>t.T i k*w*(I (t.B i):Rat)) (g:=fun i=>w*((I (t.B i):Rat)*t.T i k)) (fun i _=>by grind),jT];grind
 rw [aE]
 have ak:=h.pos
 unfold jZ
 by_cases c:t.c5 m (fun j=>(I j:Rat)) k=0
 ·rw [if_pos c,if_pos (by rw [c];grind)]
 ·rw [if_neg c,if_neg (by grind)]
  by_cases cn:t.c5 m (fun j=>(I j:Rat)) k<0
  ·rw [if_pos cn,if_pos]
   have:=Rat.mul_pos ak (show 0 < -(t.c5 m (fun j=>(I j:Rat)) k) by grind)
   grind
  ·rw [if_neg cn,if_neg]
   have:=Rat.mul_pos ak (show 0<t.c5 m (fun j=>(I j:Rat)) k by grind)
   grind
theorem QR {x y z v w:Rat}(hw:0<w)(a1:0<y)(bk:0<v):(x*w)*(v*w)<(z*w)*(y*w)↔x / y<z / v:=by
 have e1:(x*w)*(v*w)=(x / y)*((y*v)*(w*w)):=by grind
 have aE:(z*w)*(y*w)=(z / v)*((y*v)*(w*w)):=by grind
 have ak:0<(y*v)*(w*w):=Rat.mul_pos (Rat.mul_pos a1 bk) (Rat.mul_pos hw hw)
 rw [e1,aE]
 constructor
 ·intro h
  apply Classical.byContradiction
  intro c
  have:z / v≤x / y:=by grind
  have:=Rat.mul_le_mul_of_nonneg_right this (Rat.le_of_lt ak)
  grind
 ·intro h;exact Rat.mul_lt_mul_of_pos_right h ak
theorem yy {x w:Rat}(hw:0<w):jZ (x*w)=jZ x:=by
 unfold jZ
 by_cases c:x=0
 ·rw [if_pos c,if_pos (by rw [c];grind)]
 ·rw [if_neg c,if_neg (by grind)]
  by_cases cn:x<0
  ·rw [if_pos cn,if_pos]
   have:=Rat.mul_pos (show 0 < -x by grind) hw
   grind
  ·rw [if_neg cn,if_neg]
   have:=Rat.mul_pos (show 0<x by grind) hw
   grind
theorem aas {m N:Nat}(hm:m≤20)(fY:N<1000){w:Rat}{t:cy}(h:q6 m N w t)(jc:bt)(free:List Bool){k:Nat}(a9:k≤N):
 ∃r,zM ⟨bc m (gZ N w t),jc,dE m t,(N:Int),free⟩ (k:Int)=some r∧Ey m N t k r:=by
 have hw:=h.pos
 have n9 : ∀i,i<m→ ∀j,j≤N→eC kL (t.T i j*w):=fun i aj j aG=>(h.iI i aj j aG).mono (sH (by have:=qi;generalize fR=q at *;omega))
 have C2 : ∀i,i<m→ ∀j,j≤N→ ∀eM,eM<m→ ∀h2,h2≤N→eC kL (t.T i j*w*(t.T eM h2*w)):=fun i aj j aG eM jP h2 tM=>((h.iI i aj j aG).mul (h.iI eM jP h2 tM)).mono (by
  refine Nat.le_trans ?_ (Nat.le_trans (Nat.le_add_right _ _) BC)
  exact Nat.mul_le_mul (by generalize fR=q;omega) (by generalize fR=q;omega))
 unfold zM
 obtain ⟨r,e,aq⟩:=qM (f:=fun q:Int×Int=>wG (bc m (gZ N w t)) jc.cS jc.cJ (dE m t) (N:Int) free (k:Int) ((m:Nat):Int) q.1 q.2)
  (fun (i:Nat) (s:Int)=>(s,(i:Int))) m
  (fun n s=>(s = -1∧ ∀i,i<n→ ¬0<t.T i k)∨ ∃b:Nat,s=b∧b<n∧0<t.T b k∧ ∀i,i<n→0<t.T i k→t.T b N / t.T b k<t.T i N / t.T i k∨(t.T b N / t.T b k=t.T i N / t.T i k∧t.B b≤t.B i))
  (fun r=>Ey m N t k r)
  (fun n a4 s cN=>by
    left
    unfold wG
    have g1:0≤((n:Nat):Int)∧((n:Nat):Int)<((bc m (gZ N w t)).length:Nat):=by rw [c4];omega
    have g2:(bc m (gZ N w t))[((n:Nat):Int).toNat]? = some (gZ N w t n):=by rw [Int.toNat_natCast];exact gi a4
    have g3 : ∀b,0≤((k:Nat):Int)∧((k:Nat):Int)<((gZ N w t b).length:Nat):=fun b=>by unfold gZ;rw [c4];omega
    have g4 : ∀b,(gZ N w t b)[((k:Nat):Int).toNat]? = some (ca (t.T b k*w)):=fun b=>by rw [Int.toNat_natCast];exact gi (by omega)
    have g5 : ∀b,0≤((N:Nat):Int)∧((N:Nat):Int)<((gZ N w t b).length:Nat):=fun b=>by unfold gZ;rw [c4];omega
    have g6 : ∀b,(gZ N w t b)[((N:Nat):Int).toNat]? = some (ca (t.T b N*w)):=fun b=>by rw [Int.toNat_natCast];exact gi (by omega)
    have jS:R ((n:Int)+1)=((n+1:Nat):Int):=fz (by omega)
    have pO:pc (ca (t.T n k*w))=some (jZ (t.T n k)):=by rw [tt (n9 n a4 k a9),yy hw]
    by_cases ak:0<t.T n k
    ·have b6 : ¬jZ (t.T n k)≤0:=by have:=qQ.2 ak;omega
     rcases cN with ⟨h1,o⟩|⟨b,h1,aU,jQ,af⟩
     ·refine ⟨(n:Int),dI (by simp only;omega) (bJ g1 (aS g2 (bJ (g3 n) (aS (g4 n) (aS pO (dY b6 (dI (by simp only;omega) ?_))))))),.inr ⟨n,rfl,by omega,ak,fun i aj iE=> ?_⟩⟩
      ·simp only;rw [jS]
      ·by_cases c:i=n
       ·subst c;exact .inr ⟨rfl,Nat.le_refl _⟩
       ·exact (o i (by omega) iE).elim
     ·subst h1
      have FC:0≤((b:Nat):Int)∧((b:Nat):Int)<((bc m (gZ N w t)).length:Nat):=by rw [c4];omega
      have FD:(bc m (gZ N w t))[((b:Nat):Int).toNat]? = some (gZ N w t b):=by rw [Int.toNat_natCast];exact gi (by omega)
      have gc:r4 (ca (t.T n N*w*(t.T b k*w))) (ca (t.T b N*w*(t.T n k*w)))=some (if t.T n N / t.T n k<t.T b N / t.T b k then -1 else if t.T b N / t.T b k<t.T n N / t.T n k then 1 else 0):=by
       rw [aaq (C2 n a4 N (by omega) b (by omega) k a9) (C2 b (by omega) N (by omega) n a4 k a9)]
       have r1:=QR (x:=t.T n N) (y:=t.T n k) (z:=t.T b N) (v:=t.T b k) hw ak jQ
       have bT:=QR (x:=t.T b N) (y:=t.T b k) (z:=t.T n N) (v:=t.T n k) hw jQ ak
       by_cases bs:t.T n N / t.T n k<t.T b N / t.T b k
       ·rw [if_pos bs,if_pos (r1.2 bs)]
       ·rw [if_neg bs,if_neg (fun c=>bs (r1.1 c))]
        by_cases cn:t.T b N / t.T b k<t.T n N / t.T n k
        ·rw [if_pos cn,if_pos (bT.2 cn)]
        ·rw [if_neg cn,if_neg (fun c=>cn (bT.1 c))]
      have lead : ∀ {x r:Option ((Int×Int)⊕Int)} {f:Int→Option ((Int×Int)⊕Int)} {q:Int},r4 (ca (t.T n N*w*(t.T b k*w))) (ca (t.T b N*w*(t.T n k*w)))=some q→f q=r →
       (if 0≤((N:Nat):Int)∧((N:Nat):Int)<((gZ N w t n).length:Nat) then
         (gZ N w t n)[((N:Nat):Int).toNat]? >>= fun rl =>
         if 0≤((b:Nat):Int)∧((b:Nat):Int)<((bc m (gZ N w t)).length:Nat) then
         (bc m (gZ N w t))[((b:Nat):Int).toNat]? >>= fun mI =>
         if 0≤((k:Nat):Int)∧((k:Nat):Int)<(mI.length:Nat) then
         mI[((k:Nat):Int).toNat]? >>= fun rm =>
         pv rl rm >>= fun n4 =>
         if 0≤((N:Nat):Int)∧((N:Nat):Int)<(mI.length:Nat) then
         mI[((N:Nat):Int).toNat]? >>= fun sQ =>
         pv sQ (ca (t.T n k*w)) >>= fun n5 =>
         r4 n4 n5 >>= f
         else none else none else none else none)=r:=fun bd ck =>
       bJ (g5 n) (aS (g6 n) (bJ FC (aS FD (bJ (g3 b) (aS (g4 b) (aS (yp (n9 n a4 N (by omega)) (n9 b (by omega) k a9)) (bJ (g5 b) (aS (g6 b) (aS (yp (n9 b (by omega) N (by omega)) (n9 n a4 k a9)) (aS bd ck))))))))))
      by_cases bs:t.T n N / t.T n k<t.T b N / t.T b k
      ·rw [if_pos bs] at gc
       refine ⟨(n:Int),dI (by simp only;omega) (bJ g1 (aS g2 (bJ (g3 n) (aS (g4 n) (aS pO (dY b6 (dY (by simp only;omega) (lead (x:=none) gc (dI (by omega) ?_))))))))),.inr ⟨n,rfl,by omega,ak,fun i aj iE=> ?_⟩⟩
       ·simp only;rw [jS]
       ·by_cases c:i=n
        ·subst c;exact .inr ⟨rfl,Nat.le_refl _⟩
        ·rcases af i (by omega) iE with h|⟨h,-⟩
         ·left;grind
         ·left;rw [← h];exact bs
      ·rw [if_neg bs] at gc
       by_cases cn:t.T b N / t.T b k<t.T n N / t.T n k
       ·rw [if_pos cn] at gc
        refine ⟨(b:Int),dI (by simp only;omega) (bJ g1 (aS g2 (bJ (g3 n) (aS (g4 n) (aS pO (dY b6 (dY (by simp only;omega) (lead (x:=none) gc (dY (by omega) (iQ (by decide) ?_)))))))))),.inr ⟨b,rfl,by omega,jQ,fun i aj iE=> ?_⟩⟩
        ·simp only;rw [jS]
        ·by_cases c:i=n
         ·subst c;exact .inl cn
         ·exact af i (by omega) iE
       ·rw [if_neg cn] at gc
        have M4:t.T b N / t.T b k=t.T n N / t.T n k:=by grind
        have TA:0≤((n:Nat):Int)∧((n:Nat):Int)<((dE m t).length:Nat):=by unfold dE;rw [c4];omega
        have TB:(dE m t)[((n:Nat):Int).toNat]? = some ((t.B n:Nat):Int):=by rw [Int.toNat_natCast];exact gi a4
        have TC:0≤((b:Nat):Int)∧((b:Nat):Int)<((dE m t).length:Nat):=by unfold dE;rw [c4];omega
        have TD:(dE m t)[((b:Nat):Int).toNat]? = some ((t.B b:Nat):Int):=by rw [Int.toNat_natCast];exact gi (by omega)
        by_cases jF:t.B n<t.B b
        ·refine ⟨(n:Int),dI (by simp only;omega) (bJ g1 (aS g2 (bJ (g3 n) (aS (g4 n) (aS pO (dY b6 (dY (by simp only;omega) (lead (x:=none) gc (dY (by omega) (gh rfl (bJ TA (aS TB (bJ TC (aS TD (dI (by omega) ?_))))))))))))))),.inr ⟨n,rfl,by omega,ak,fun i aj iE=> ?_⟩⟩
         ·simp only;rw [jS]
         ·by_cases c:i=n
          ·subst c;exact .inr ⟨rfl,Nat.le_refl _⟩
          ·rcases af i (by omega) iE with h|⟨h,cK⟩
           ·left;grind
           ·right;exact ⟨by grind,by omega⟩
        ·refine ⟨(b:Int),dI (by simp only;omega) (bJ g1 (aS g2 (bJ (g3 n) (aS (g4 n) (aS pO (dY b6 (dY (by simp only;omega) (lead (x:=none) gc (dY (by omega) (gh rfl (bJ TA (aS TB (bJ TC (aS TD (dY (by omega) ?_))))))))))))))),.inr ⟨b,rfl,by omega,jQ,fun i aj iE=> ?_⟩⟩
         ·simp only;rw [jS]
         ·by_cases c:i=n
          ·subst c;exact .inr ⟨M4,by omega⟩
          ·exact af i (by omega) iE
    ·have b6:jZ (t.T n k)≤0:=by
      have : ¬0<jZ (t.T n k):=fun c=>ak (qQ.1 c)
      omega
     refine ⟨s,dI (by simp only;omega) (bJ g1 (aS g2 (bJ (g3 n) (aS (g4 n) (aS pO (dI b6 ?_)))))),?_⟩
     ·simp only;rw [jS]
     ·rcases cN with ⟨h1,o⟩|⟨b,h1,aU,jQ,af⟩
      ·exact .inl ⟨h1,fun i aj=>if c:i=n then c▸ak else o i (by omega)⟩
      ·exact .inr ⟨b,h1,by omega,jQ,fun i aj iE=>if c:i=n then (ak (c▸iE)).elim else af i (by omega) iE⟩)
  (fun s cN=>by
    refine ⟨s,by unfold wG;exact dY (by simp only;omega) rfl,?_⟩
    rcases cN with ⟨h1,o⟩|⟨b,h1,aU,jQ,af⟩
    ·exact .inl ⟨h1,o⟩
    ·refine .inr ⟨b,h1,aU,jQ,fun i aj iE=> ?_,fun i aj iE he=> ?_⟩
     ·rw [← (El jQ iE).1]
      rcases af i aj iE with h|⟨h,-⟩
      ·exact Rat.le_of_lt h
      ·rw [h];exact Rat.le_refl
     ·rw [← (El jQ iE).2] at he
      rcases af i aj iE with h|⟨-,h⟩
      ·rw [he] at h;grind
      ·exact h) (-1:Int) (.inl ⟨rfl,fun i aj=>by omega⟩)
 refine ⟨r,aS ?_ rfl,aq⟩
 unfold Hb
 rw [e8,c4]
 exact e
def hx (m N:Nat)(h:Nat→Nat):List bD:=bc m fun i=>some (h i,N+1)
structure m0 (m N M:Nat) (h:Nat→Nat) (w:Rat) (t:cy) (fl:List (List bt)):Prop where
 len:fl.length=M
 row : ∀i,i<m→fl[h i]? = some (gZ N w t i)
theorem DX {α:Type}{l:List α}{i:Nat}{x y:α}(h:l[i]? = some x):(l.set i y)[i]? = some y:=by
 rw [List.getElem?_set,if_pos rfl,if_pos (List.getElem?_eq_some_iff.1 h).1]
theorem KJ {α:Type}{l:List α}{i k:Nat}{y:α}(h:i≠k):(l.set i y)[k]? = l[k]? := by
 rw [List.getElem?_set,if_neg h]
theorem set_set {α:Type}(l:List α)(i:Nat)(x y:α):(l.set i x).set i y=l.set i y:=by
 rw [List.set_set]
structure yW (m N:Nat) (w:Rat) (t:cy) (r k:Nat):Prop where
 aq:r<m
 a9:k<N
 ak:t.T r k≠0
 CM : ∀i,i<m→ ∀j,j≤N→eC fR ((t.cH r k).T i j*(t.T r k*w))
theorem ab3 {m N:Nat}(fY:N<1000){h:Nat→Nat}{w:Rat}{t:cy}{r k:Nat}(f:q6 m N w t)(g:yW m N w t r k){i:Nat}(aj:i<m)(zr:i≠r)(c6:h i≠h r){fl:List (List bt)}(h1:fl[h i]? = some (gZ N w t i))(o:fl[h r]? = some (gZ N w t r))
 (x1 eb:Int) (aB:Int) (q1:List bD) (a6:List Int) (bY:List Bool) (v1 v2:Int) :
 Df v1 v2 (some (h r,N+1)) (some (h i,N+1)) x1 eb (((N+1:Nat):Nat):Int) (ca w).cS (ca w).cJ aB q1 a6 bY (ca (t.T r k*w)).cS (ca (t.T r k*w)).cJ (ca (t.T i k*w)).cS (ca (t.T i k*w)).cJ 0 fl=some (fl.set (h i) (gZ N (t.T r k*w) (t.cH r k) i)):=by
 have hw:=f.pos
 have n9 : ∀i,i<m→ ∀j,j≤N→eC kL (t.T i j*w):=fun i aj j aG=>(f.iI i aj j aG).mono (sH (by have:=qi;generalize fR=q at *;omega))
 have afS:eC kL w:=f.hw.mono (sH (Nat.le_refl _))
 have afT : ∀i,i<m→ ∀j,j≤N→eC kL ((t.cH r k).T i j*(t.T r k*w)):=fun i aj j aG=>(g.CM i aj j aG).mono (sH (by have:=qi;generalize fR=q at *;omega))
 have C2 : ∀i,i<m→ ∀j,j≤N→ ∀eM,eM<m→ ∀h2,h2≤N→eC kL (t.T i j*w*(t.T eM h2*w)):=fun i aj j aG eM jP h2 tM=>((f.iI i aj j aG).mul (f.iI eM jP h2 tM)).mono (by
  refine Nat.le_trans ?_ (Nat.le_trans (Nat.le_add_right _ _) BC)
  exact Nat.mul_le_mul (by generalize fR=q;omega) (by generalize fR=q;omega))
 have afp : ∀j,j≤N→eC kL ((t.cH r k).T i j*(t.T r k*w)*w):=fun j aG=>((g.CM i aj j aG).mul f.hw).mono (by
  refine Nat.le_trans ?_ (Nat.le_trans (Nat.le_add_right _ _) BC)
  exact Nat.mul_le_mul (by generalize fR=q;omega) (Nat.le_refl _))
 have aq:=g.aq
 have a9:=g.a9
 have ak:=g.ak
 have zv : ∀j,(t.cH r k).T i j=t.T i j-t.T i k*(t.T r j / t.T r k):=fun j=>by simp [cy.cH,zr]
 have Mi:w≠0:=by grind
 unfold Df
 obtain ⟨s,e,-⟩:=ie (f:=fun q:Int×List (List bt)=>wH v1 v2 (some (h r,N+1)) (some (h i,N+1)) x1 eb (((N+1:Nat):Nat):Int) (ca w).cS (ca w).cJ aB q1 a6 bY (ca (t.T r k*w)).cS (ca (t.T r k*w)).cJ (ca (t.T i k*w)).cS (ca (t.T i k*w)).cJ q.1 q.2)
  (fun (c:Nat) (_:Unit)=>((c:Int),fl.set (h i) (bc (N+1) fun j=>if j<c then ca ((t.cH r k).T i j*(t.T r k*w)) else ca (t.T i j*w)))) (N+1) (fun _ _=>True)
  (fun _=>fl.set (h i) (gZ N (t.T r k*w) (t.cH r k) i))
  (fun c bh _ _=>by
    refine ⟨(),?_,trivial⟩
    have fin:(some (Sum.inl (R ((c:Int)+1),(fl.set (h i) (bc (N+1) fun j=>if j<c then ca ((t.cH r k).T i j*(t.T r k*w)) else ca (t.T i j*w))).set (h i) ((bc (N+1) fun j=>if j<c then ca ((t.cH r k).T i j*(t.T r k*w)) else ca (t.T i j*w)).set (0+((c:Int)).toNat) (ca ((t.cH r k).T i c*(t.T r k*w)))))):Option ((Int×List (List bt))⊕List (List bt))) =
     some (Sum.inl (((c+1:Nat):Int),fl.set (h i) (bc (N+1) fun j=>if j<c+1 then ca ((t.cH r k).T i j*(t.T r k*w)) else ca (t.T i j*w)))):=by
     rw [fz (by omega),Int.toNat_natCast,Nat.zero_add,set_set,lm]
     congr 4
     refine fg fun j _=> ?_
     by_cases bs:j=c
     ·subst bs;rw [if_pos rfl,if_pos (by omega)]
     ·rw [if_neg bs]
      by_cases cn:j<c
      ·rw [if_pos cn,if_pos (by omega)]
      ·rw [if_neg cn,if_neg (by omega)]
    have h3:tb (ca ((t.cH r k).T i c*(t.T r k*w)*w)) (ca w)=some (ca ((t.cH r k).T i c*(t.T r k*w))):=aar (afT i aj c (by omega)) afS (afp c (by omega)) Mi
    unfold wH
    refine dI (by simp only;omega) (aS (x:=(h i,N+1)) rfl (aS (x:=bc (N+1) fun j=>if j<c then ca ((t.cH r k).T i j*(t.T r k*w)) else ca (t.T i j*w)) (by simp only;exact DX h1) (bJ (by simp only;omega) (aS (x:=ca (t.T i c*w)) (by simp only;rw [Int.toNat_natCast,iw bh,if_neg (by omega)]) ?_))))
    refine aS (yp (n9 i aj c (by omega)) (n9 r aq k (by omega))) (aS (tt (n9 i aj k (by omega))) (oF (fun d=> ?_) (fun d=> ?_)))
    ·refine aS (x:=(h r,N+1)) rfl (aS (x:=gZ N w t r) (by simp only;rw [KJ c6];exact o) (bJ (by simp only;omega) (aS (x:=ca (t.T r c*w)) (by simp only;rw [Int.toNat_natCast];exact iw bh) (aS (tt (n9 r aq c (by omega))) (oF (fun d2=> ?_) (fun d2=> ?_))))))
     ·refine aS (yp (n9 i aj k (by omega)) (n9 r aq c (by omega))) (aS (QQ (C2 i aj c (by omega) r aq k (by omega)) (C2 i aj k (by omega) r aq c (by omega))) (aS ?_ fin))
      rw [show t.T i c*w*(t.T r k*w)-t.T i k*w*(t.T r c*w)=(t.cH r k).T i c*(t.T r k*w)*w by rw [zv];grind]
      exact h3
     ·have cD:t.T r c=0:=by have:=rI.1 (by simpa using d2);grind
      refine aS ?_ fin
      rw [show t.T i c*w*(t.T r k*w)=(t.cH r k).T i c*(t.T r k*w)*w by rw [zv,cD];grind]
      exact h3
    ·have cD:t.T i k=0:=by have:=rI.1 (by simpa using d);grind
     refine aS ?_ fin
     rw [show t.T i c*w*(t.T r k*w)=(t.cH r k).T i c*(t.T r k*w)*w by rw [zv,cD];grind]
     exact h3)
  (fun _ _=>by
    unfold wH
    refine dY (by simp) ?_
    simp only
    congr 3
    exact fg fun j aG=>by rw [if_pos aG]) () trivial
 have e0:fl.set (h i) (bc (N+1) fun j=>if j<0 then ca ((t.cH r k).T i j*(t.T r k*w)) else ca (t.T i j*w))=fl:=by
  have:(bc (N+1) fun j=>if j<0 then ca ((t.cH r k).T i j*(t.T r k*w)) else ca (t.T i j*w))=gZ N w t i:=fg fun j _=>by rw [if_neg (by omega)]
  rw [this]
  apply List.ext_getElem?
  intro c
  rw [List.getElem?_set]
  split
  ·rename_i e;subst e
   rw [if_pos (List.getElem?_eq_some_iff.1 h1).1,h1]
  ·rfl
 rw [e0] at e
 exact e
theorem ab4 {m N:Nat}(fY:N<1000){h:Nat→Nat}{w:Rat}{t:cy}(iI:∀i,i<m→ ∀j,j≤N→eC fR (t.T i j*w)){i:Nat}(aj:i<m){fl:List (List bt)}(h1:fl[h i]? = some (gZ N w t i))
 (x1 eb:Int) (jo:Bool) (kJ:List Int) (aB:Int) (q1:List bD) (a6:List Int) (bY:List Bool) :
 Dh (some (h i,N+1)) x1 eb (((N+1:Nat):Nat):Int) jo kJ aB q1 a6 bY 0 fl=some (fl.set (h i) (gZ N (-w) t i)):=by
 have n9 : ∀j,j≤N→eC kL (t.T i j*w):=fun j aG=>(iI i aj j aG).mono (sH (by have:=qi;generalize fR=q at *;omega))
 unfold Dh
 obtain ⟨s,e,-⟩:=ie (f:=fun q:Int×List (List bt)=>wJ (some (h i,N+1)) x1 eb (((N+1:Nat):Nat):Int) jo kJ aB q1 a6 bY q.1 q.2)
  (fun (c:Nat) (_:Unit)=>((c:Int),fl.set (h i) (bc (N+1) fun j=>if j<c then ca (t.T i j * -w) else ca (t.T i j*w)))) (N+1) (fun _ _=>True)
  (fun _=>fl.set (h i) (gZ N (-w) t i))
  (fun c bh _ _=>by
    refine ⟨(),?_,trivial⟩
    unfold wJ
    refine dI (by simp only;omega) (aS (x:=(h i,N+1)) rfl (aS (x:=bc (N+1) fun j=>if j<c then ca (t.T i j * -w) else ca (t.T i j*w)) (by simp only;exact DX h1) (bJ (by simp only;omega) (aS (x:=ca (t.T i c*w)) (by simp only;rw [Int.toNat_natCast,iw bh,if_neg (by omega)]) (aS (Pq (n9 c (by omega))) ?_)))))
    simp only
    rw [fz (by omega),Int.toNat_natCast,Nat.zero_add,set_set,lm]
    congr 4
    refine fg fun j _=> ?_
    by_cases bs:j=c
    ·subst bs;rw [if_pos rfl,if_pos (by omega)];congr 1;grind
    ·rw [if_neg bs]
     by_cases cn:j<c
     ·rw [if_pos cn,if_pos (by omega)]
     ·rw [if_neg cn,if_neg (by omega)])
  (fun _ _=>by
    unfold wJ
    refine dY (by simp) ?_
    simp only
    congr 3
    exact fg fun j aG=>by rw [if_pos aG]) () trivial
 have e0:fl.set (h i) (bc (N+1) fun j=>if j<0 then ca (t.T i j * -w) else ca (t.T i j*w))=fl:=by
  have:(bc (N+1) fun j=>if j<0 then ca (t.T i j * -w) else ca (t.T i j*w))=gZ N w t i:=fg fun j _=>by rw [if_neg (by omega)]
  rw [this]
  apply List.ext_getElem?
  intro c
  rw [List.getElem?_set]
  split
  ·rename_i e;subst e
   rw [if_pos (List.getElem?_eq_some_iff.1 h1).1,h1]
  ·rfl
 rw [e0] at e
 exact e
def pI (w:Rat)(t:cy)(r k:Nat):Rat:=if 0<t.T r k then t.T r k*w else -(t.T r k*w)
theorem Rn {m N M:Nat}(hm:m≤20)(fY:N<1000){h:Nat→Nat}(inj:∀i,i<m→ ∀k,k<m→h i=h k→i=k){w:Rat}{t:cy}{r k:Nat}(f:q6 m N w t)(g:yW m N w t r k){fl:List (List bt)}(hv:m0 m N M h w t fl)(gB:Int)(free:List Bool):
 ∃k9,xn r k (ca w).cS (ca w).cJ gB (hx m N h) fl (dE m t) free=some ((ca (pI w t r k)).cS,(ca (pI w t r k)).cJ,k9,dE m (t.cH r k))∧m0 m N M h (pI w t r k) (t.cH r k) k9:=by
 have aq:=g.aq
 have a9:=g.a9
 have ak:=g.ak
 have hw:=f.pos
 have n9 : ∀i,i<m→ ∀j,j≤N→eC kL (t.T i j*w):=fun i aj j aG=>(f.iI i aj j aG).mono (sH (by have:=qi;generalize fR=q at *;omega))
 have rv:gZ N (t.T r k*w) (t.cH r k) r=gZ N w t r:=fg fun j _=>by
  simp only [cy.cH,if_true];congr 1;grind
 have zw:(hx m N h).length=m:=c4 ..
 unfold xn
 obtain ⟨p1,e1,nG,r1⟩:=ie (f:=fun q:Int×List (List bt)=>wI (r:Int) (k:Int) (some (h r,N+1)) ((m:Nat):Int) (ca w).cS (ca w).cJ gB (hx m N h) (dE m t) free (ca (t.T r k*w)).cS (ca (t.T r k*w)).cJ q.1 q.2)
  (fun (i:Nat) (p:List (List bt))=>((i:Int),p)) m (fun n p=>p.length=M∧ ∀i,i<m→p[h i]? = some (if i=r∨i<n then gZ N (t.T r k*w) (t.cH r k) i else gZ N w t i)) (fun p=>p)
  (fun n a4 p cN=>by
    obtain ⟨aV,cN⟩:=cN
    unfold wI
    by_cases c:n=r
    ·subst c
     refine ⟨p,dI (by simp only;omega) (bJ (by rw [zw];simp only;omega) (aS (x:=some (h n,N+1)) (by simp only;rw [Int.toNat_natCast];exact iw a4) (gh (by simp) ?_))),aV,fun i aj=> ?_⟩
     ·simp only;rw [fz (by omega)]
     ·rw [cN i aj]
      by_cases bs:i=n∨i<n
      ·rw [if_pos bs,if_pos (by omega)]
      ·rw [if_neg bs,if_neg (by omega)]
    ·have c6:h n≠h r:=fun e=>c (inj n a4 r aq e)
     have h1:p[h n]? = some (gZ N w t n):=by rw [cN n a4,if_neg (by omega)]
     have o:p[h r]? = some (gZ N w t r):=by rw [cN r aq,if_pos (.inl rfl),rv]
     refine ⟨p.set (h n) (gZ N (t.T r k*w) (t.cH r k) n),dI (by simp only;omega) (bJ (by rw [zw];simp only;omega) (aS (x:=some (h n,N+1)) (by simp only;rw [Int.toNat_natCast];exact iw a4) (iQ (by simp;omega) (aS (x:=(h n,N+1)) rfl (aS h1 (bJ (by simp only;omega) (aS (x:=ca (t.T n k*w)) (by rw [Int.toNat_natCast];exact iw (by omega)) (aS (ab3 fY f g a4 c c6 h1 o _ _ _ _ _ _ _ _) ?_)))))))),by rw [List.length_set];exact aV,fun i aj=> ?_⟩
     ·simp only;rw [fz (by omega)]
     ·by_cases bs:i=n
      ·subst bs;rw [DX h1,if_pos (.inr (by omega))]
      ·rw [KJ (fun e=>bs (inj i aj n a4 e.symm)),cN i aj]
       by_cases cn:i=r∨i<n
       ·rw [if_pos cn,if_pos (by omega)]
       ·rw [if_neg cn,if_neg (by omega)])
  (fun p _=>by unfold wI;exact dY (by simp) rfl) fl ⟨hv.len,fun i aj=>by
    rw [hv.row i aj]
    by_cases c:i=r
    ·rw [if_pos (.inl c),c,rv]
    ·rw [if_neg (by omega)]⟩
 have FB : ∀i,i<m→p1[h i]? = some (gZ N (t.T r k*w) (t.cH r k) i):=fun i aj=>by rw [r1 i aj,if_pos (.inr aj)]
 have aef:(dE m t).set (0+((r:Int)).toNat) (k:Int)=dE m (t.cH r k):=by
  rw [Int.toNat_natCast,Nat.zero_add]
  unfold dE
  rw [lm]
  exact fg fun i _=>by
   simp only [cy.cH]
   split<;>rfl
 have lead :
  (if 0≤(r:Int)∧(r:Int)<((hx m N h).length:Nat) then
    (hx m N h)[(0+((r:Int)).toNat)]? >>= fun eb =>
    eb >>= fun jR =>
    fl[jR.1]? >>= fun nf =>
    if 0≤(k:Int)∧(k:Int)<(jR.2:Nat) then
    nf[(0+((k:Int)).toNat)]? >>= fun dl =>
    Dg (r:Int) (k:Int) eb (((hx m N h).length:Nat):Int) (ca w).cS (ca w).cJ gB (hx m N h) (dE m t) free dl.cS dl.cJ 0 fl >>= fun dh =>
    if 0≤(r:Int)∧(r:Int)<((dE m t).length:Nat) then
    if (0+((r:Int)).toNat)<(dE m t).length then
    pc dl >>= fun gK =>
    if (decide ((0:Int)<gK))=true then
     some (dl.cS,dl.cJ,dh,(dE m t).set (0+((r:Int)).toNat) (k:Int))
    else
     r3 dl >>= fun fi =>
     zF (((hx m N h).length:Nat):Int) fi.cS fi.cJ gB (hx m N h) ((dE m t).set (0+((r:Int)).toNat) (k:Int)) free 0 dh >>= fun iq =>
     some (fi.cS,fi.cJ,iq,(dE m t).set (0+((r:Int)).toNat) (k:Int))
    else none else none else none else none)=(if (decide ((0:Int)<jZ (t.T r k)))=true then
     some ((ca (t.T r k*w)).cS,(ca (t.T r k*w)).cJ,p1,dE m (t.cH r k))
    else
     r3 (ca (t.T r k*w)) >>= fun fi =>
     zF ((m:Nat):Int) fi.cS fi.cJ gB (hx m N h) (dE m (t.cH r k)) free 0 p1 >>= fun iq =>
     some (fi.cS,fi.cJ,iq,dE m (t.cH r k))):=by
  refine bJ (by rw [zw];omega) (aS (x:=some (h r,N+1)) (by rw [Int.toNat_natCast];exact iw aq) (aS (x:=(h r,N+1)) rfl (aS (hv.row r aq) (bJ (by simp only;omega) (aS (x:=ca (t.T r k*w)) (by rw [Int.toNat_natCast];exact iw (by omega)) (aS (x:=p1) (by unfold Dg;rw [zw];exact e1) (bJ (by unfold dE;rw [c4];omega) (bJ (by unfold dE;rw [c4,Int.toNat_natCast];omega) (aS (tt (n9 r aq k (by omega))) ?_)))))))))
  rw [yy hw,aef,zw]
 by_cases kg:0<t.T r k
 ·have ub:pI w t r k=t.T r k*w:=if_pos kg
  refine ⟨p1,lead.trans ?_,nG,fun i aj=>by rw [ub];exact FB i aj⟩
  rw [ub]
  exact dI (qQ.2 kg) rfl
 ·have ub:pI w t r k = -(t.T r k*w):=if_neg kg
  obtain ⟨hz,aE,qB,bT⟩:=ie (f:=fun q:Int×List (List bt)=>wK ((m:Nat):Int) (ca (-(t.T r k*w))).cS (ca (-(t.T r k*w))).cJ gB (hx m N h) (dE m (t.cH r k)) free q.1 q.2)
   (fun (i:Nat) (p:List (List bt))=>((i:Int),p)) m (fun n p=>p.length=M∧ ∀i,i<m→p[h i]? = some (if i<n then gZ N (-(t.T r k*w)) (t.cH r k) i else gZ N (t.T r k*w) (t.cH r k) i)) (fun p=>p)
   (fun n a4 p cN=>by
     obtain ⟨aV,cN⟩:=cN
     have h1:p[h n]? = some (gZ N (t.T r k*w) (t.cH r k) n):=by rw [cN n a4,if_neg (by omega)]
     unfold wK
     refine ⟨p.set (h n) (gZ N (-(t.T r k*w)) (t.cH r k) n),dI (by simp only;omega) (bJ (by rw [zw];simp only;omega) (aS (x:=some (h n,N+1)) (by simp only;rw [Int.toNat_natCast];exact iw a4) (aS (x:=(h n,N+1)) rfl (aS h1 (aS (ab4 fY g.CM a4 h1 _ _ _ _ _ _ _ _) ?_))))),by rw [List.length_set];exact aV,fun i aj=> ?_⟩
     ·simp only;rw [fz (by omega)]
     ·by_cases bs:i=n
      ·subst bs;rw [DX h1,if_pos (by omega)]
      ·rw [KJ (fun e=>bs (inj i aj n a4 e.symm)),cN i aj]
       by_cases cn:i<n
       ·rw [if_pos cn,if_pos (by omega)]
       ·rw [if_neg cn,if_neg (by omega)])
   (fun p _=>by unfold wK;exact dY (by simp) rfl) p1 ⟨nG,fun i aj=>by rw [FB i aj,if_neg (by omega)]⟩
  refine ⟨hz,lead.trans ?_,qB,fun i aj=>by rw [ub,bT i aj,if_pos aj]⟩
  rw [ub]
  exact dY (fun c=>kg (qQ.1 c)) (aS (Pq (n9 r aq k (by omega))) (aS (x:=hz) (by unfold zF;exact aE) rfl))
theorem O9 {m:Nat}(hm:m≤1000)(t:cy)(j:Nat): ∃b,sf (dE m t) (j:Int)=some b∧(b=true↔ ∃i,i<m∧t.B i=j):=by
 unfold sf A7 D4
 obtain ⟨r,e,h⟩:=qM (f:=fun w:Int=>r7 (dE m t) (j:Int) ((m:Nat):Int) w) (fun (i:Nat) (_:Unit)=>(i:Int)) m (fun i _=> ∀k,k<i→t.B k≠j)
  (fun r=>(∃i:Nat,r = .inr (i:Int)∧i<m∧t.B i=j)∨(r = .inl ()∧ ¬∃i,i<m∧t.B i=j))
  (fun i aj _ cN=>by
    unfold r7
    by_cases c:t.B i=j
    ·right
     exact ⟨_,dI (by omega) (bJ (by unfold dE;rw [c4];omega) (aS (x:=((t.B i:Nat):Int)) (by rw [Int.toNat_natCast];exact gi aj) (gh (by simp [c]) rfl))),.inl ⟨i,rfl,aj,c⟩⟩
    ·left
     refine ⟨(),dI (by omega) (bJ (by unfold dE;rw [c4];omega) (aS (x:=((t.B i:Nat):Int)) (by rw [Int.toNat_natCast];exact gi aj) (iQ (by simp;omega) (by rw [fz (by omega)])))),fun k a9=> ?_⟩
     by_cases e:k=i
     ·rw [e];exact c
     ·exact cN k (by omega))
  (fun _ cN=>⟨_,by unfold r7;exact dY (by omega) rfl,.inr ⟨rfl,fun ⟨i,aj,e⟩=>cN i aj e⟩⟩) () (fun k a9=>by omega)
 rw [f5,show (dE m t).length=m from c4 ..]
 rcases h with ⟨i,rfl,h1,o⟩|⟨rfl,h⟩
 ·exact ⟨true,aS (x:=(i:Int)) (aS e rfl) (by simp),by simp only [true_iff];exact ⟨i,h1,o⟩⟩
 ·exact ⟨false,aS (x:=(-1:Int)) (aS e rfl) rfl,by simp [h]⟩
theorem Ba {m N M:Nat}{h:Nat→Nat}{w:Rat}{t:cy}{fl:List (List bt)}(hv:m0 m N M h w t fl):(hx m N h).all (rh fl)=true:=by
 rw [List.all_eq_true]
 intro x U
 obtain ⟨i,aj,rfl⟩:=Lf.1 U
 simp only [rh]
 have h1:=hv.row i aj
 have o:fl.getD (h i) []=gZ N w t i:=by rw [List.getD_eq_getElem?_getD,h1];rfl
 rw [o,show (gZ N w t i).length=N+1 from c4 ..]
 simp [(List.getElem?_eq_some_iff.1 h1).1]
theorem vd {m N M:Nat}{h:Nat→Nat}{w:Rat}{t:cy}{fl:List (List bt)}(hv:m0 m N M h w t fl):(hx m N h).map (iM fl)=bc m (gZ N w t):=by
 unfold hx
 rw [Rd]
 exact fg fun i aj=>by
  have o:fl.getD (h i) []=gZ N w t i:=by rw [List.getD_eq_getElem?_getD,hv.row i aj];rfl
  simp only [iM]
  rw [o]
  exact List.take_of_length_le (Nat.le_of_eq (c4 ..))
theorem TE {m:Nat}{I:Nat→Rat}{t:cy}{j:Nat}:t.rq m 1 (fun _=>I) j↔0<t.c5 m I j:=EZ (g:=fun _=>t.c5 m I j)
theorem aat {gv m N M:Nat}{A:Nat→Nat→Rat}(hm:m≤20)(fY:N<1000){h:Nat→Nat}(inj:∀i,i<m→ ∀k,k<m→h i=h k→i=k){w:Rat}{t:cy}(ok:gf gv m N A t)(f:q6 m N w t)(I:Nat→Int)(ap:∀j,j<N→ -100≤I j∧I j≤100)(d9:Nat→Bool)
 (afU : ∀r s,pj m N 1 (fun _ j=>(I j:Rat)) (fun j=>d9 j=true) t r s→yW m N w t r s) {fl:List (List bt)} (hv:m0 m N M h w t fl) :
 ∃x,wO (N:Int) (ca w).cS (ca w).cJ (hx m N h) fl (dE m t) (bc N d9) (bc N I) 0=some x ∧
  ((x = .inl (false,(ca w).cS,(ca w).cJ,fl,dE m t)∧ ∀j,j<N→d9 j=true→ ¬0<t.c5 m (fun j=>(I j:Rat)) j) ∨
   (∃r s k9,x = .inl (true,(ca (pI w t r s)).cS,(ca (pI w t r s)).cJ,k9,dE m (t.cH r s))∧pj m N 1 (fun _ j=>(I j:Rat)) (fun j=>d9 j=true) t r s∧m0 m N M h (pI w t r s) (t.cH r s) k9) ∨
   (x = .inr ()∧ ∃s,s<N∧d9 s=true∧0<t.c5 m (fun j=>(I j:Rat)) s∧ ∀i,i<m→ ¬0<t.T i s)):=by
 unfold wO
 refine qM (f:=fun q:Int=>wB (N:Int) (ca w).cS (ca w).cJ (hx m N h) fl (dE m t) (bc N d9) (bc N I) q) (fun (i:Nat) (_:Unit)=>(i:Int)) N
  (fun n _=> ∀j,j<n→d9 j=true→ ¬0<t.c5 m (fun j=>(I j:Rat)) j) _ (fun n a4 _ cN=> ?_) (fun _ cN=> ?_) () (fun j aG=>by omega)
 ·have next : ∀(jO:d9 n=true→ ¬0<t.c5 m (fun j=>(I j:Rat)) n),∀j,j<n+1→d9 j=true→ ¬0<t.c5 m (fun j=>(I j:Rat)) j:=fun jO j aG=>by
   by_cases c:j=n
   ·subst c;exact jO
   ·exact cN j (by omega)
  have g1:0≤((n:Nat):Int)∧((n:Nat):Int)<((bc N d9).length:Nat):=by rw [c4];omega
  have g2:(bc N d9)[(0+((n:Nat):Int).toNat)]? = some (d9 n):=by rw [Int.toNat_natCast];exact iw a4
  have jS:R ((n:Int)+1)=((n+1:Nat):Int):=fz (by omega)
  unfold wB
  by_cases p2:d9 n=true
  ·obtain ⟨b,jo,kJ⟩:=O9 (m:=m) (by omega) t n
   cases b with
   | true =>
    obtain ⟨i,aj,ho⟩:=kJ.1 rfl
    left
    refine ⟨(),dI (by omega) (bJ g1 (aS g2 (gh p2 (aS jo (gh rfl (by rw [jS])))))),next fun _=> ?_⟩
    rw [← ho,ok.yb _ aj];grind
   | false =>
    have dB:=Rm hm fY f I ap ((⟨(ca w).cS,(ca w).cJ⟩:bt)) rfl (N:Int) (bc N d9) a4
    by_cases r2:0<t.c5 m (fun j=>(I j:Rat)) n
    ·obtain ⟨q,q1,a6⟩:=aas hm fY f ((⟨(ca w).cS,(ca w).cJ⟩:bt)) (bc N d9) (k:=n) (by omega)
     have b6 : ¬jZ (t.c5 m (fun j=>(I j:Rat)) n)≤0:=by have:=qQ.2 r2;omega
     right
     rcases a6 with ⟨rfl,o⟩|⟨b,rfl,aU,jQ,af,au⟩
     ·exact ⟨_,dI (by omega) (bJ g1 (aS g2 (gh p2 (aS jo (iQ rfl (bJ (Ba hv) (aS (by rw [vd hv];exact dB) (dY b6 (aS (by rw [vd hv];exact q1) (dI (by decide) rfl)))))))))),.inr (.inr ⟨rfl,n,a4,p2,r2,o⟩)⟩
     ·have dH:pj m N 1 (fun _ j=>(I j:Rat)) (fun j=>d9 j=true) t b n:=⟨a4,p2,TE.2 r2,fun j aG ck dB=>cN j aG ck (TE.1 dB),aU,jQ,af,au⟩
      obtain ⟨k9,e1,aE⟩:=Rn hm fY inj f (afU b n dH) hv (N:Int) (bc N d9)
      exact ⟨_,dI (by omega) (bJ g1 (aS g2 (gh p2 (aS jo (iQ rfl (bJ (Ba hv) (aS (by rw [vd hv];exact dB) (dY b6 (aS (by rw [vd hv];exact q1) (dY (by omega) (aS e1 rfl))))))))))),.inr (.inl ⟨b,n,k9,rfl,dH,aE⟩)⟩
    ·left
     have b6:jZ (t.c5 m (fun j=>(I j:Rat)) n)≤0:=by
      have : ¬0<jZ (t.c5 m (fun j=>(I j:Rat)) n):=fun c=>r2 (qQ.1 c)
      omega
     exact ⟨(),dI (by omega) (bJ g1 (aS g2 (gh p2 (aS jo (iQ rfl (bJ (Ba hv) (aS (by rw [vd hv];exact dB) (dI b6 (by rw [jS]))))))))),next fun _=>r2⟩
  ·left
   have FG:d9 n=false:=by simpa using p2
   exact ⟨(),dI (by omega) (bJ g1 (aS g2 (iQ FG (by rw [jS])))),next fun c=>(p2 c).elim⟩
 ·exact ⟨_,by unfold wB;exact dY (by omega) rfl,.inl ⟨rfl,cN⟩⟩
def tH (N:Int)(qq:List bD)(free:List Bool)(obj:List Int)(s:Bool×List Int×List (List bt)×List Int):Option ((Bool×List Int×List (List bt)×List Int)⊕((Bool×List Int×List (List bt)×List Int)⊕(Bool×List Int×List (List bt)×List Int))) :=
 match wO N s.1 s.2.1 qq s.2.2.1 s.2.2.2 free obj 0 with
 | none=>none
 | some (.inl (true,bV))=>some (.inl bV)
 | some (.inl (false,bV))=>some (.inr (.inl bV))
 | some (.inr ())=>some (.inr (.inr s))
theorem ab5 {N:Int}{qq:List bD}{free:List Bool}{obj:List Int}: ∀s r,iter (tH N qq free obj) s=some r→Db N qq free obj true s.1 s.2.1 s.2.2.1 s.2.2.2=some r:=by
 unfold Db
 apply iter.partial_correctness (tH N qq free obj) (fun s r=>iter (fun w:Bool×Bool×(List Int)×(List (List bt))×(List Int)=>ud N qq free obj w.1 w.2.1 w.2.2.1 w.2.2.2.1 w.2.2.2.2) (true,s.1,s.2.1,s.2.2.1,s.2.2.2)=some r)
 intro it ih s r aq
 cases U:wO N s.1 s.2.1 qq s.2.2.1 s.2.2.2 free obj 0 with
 | none=>unfold tH at aq;rw [U] at aq;simp at aq
 | some x =>
  have hm:ud N qq free obj true s.1 s.2.1 s.2.2.1 s.2.2.2=match x with
   | .inl fZ=>(some (.inl (fZ.1,fZ.2.1,fZ.2.2.1,fZ.2.2.2.1,fZ.2.2.2.2)))
   | .inr fZ=>(some (.inr (.inr (s.1,s.2.1,s.2.2.1,s.2.2.2)))):=by
   unfold ud
   refine gh rfl ?_
   cases x with
   | inl a=>exact aS U rfl
   | inr a=>exact aS U rfl
  unfold tH at aq
  rw [U] at aq
  rw [iter]
  simp only
  rw [hm]
  match x,aq with
  | .inl (true,bV),aq=>exact ih _ _ aq
  | .inl (false,bV),aq =>
   simp at aq
   subst aq
   show iter _ (false,bV.1,bV.2.1,bV.2.2.1,bV.2.2.2)=_
   rw [iter]
   simp only
   unfold ud
   rfl
  | .inr (),aq =>
   simp at aq
   subst aq
   rfl
theorem ab6 {gv m N M:Nat}{A:Nat→Nat→Rat}(hm:m≤20)(fY:N<1000){h:Nat→Nat}{w:Rat}{t:cy}(ok:gf gv m N A t)(f:q6 m N w t)(I:Nat→Int)(ap:∀j,j<N→ -100≤I j∧I j≤100)(d9:Nat→Bool){fl:List (List bt)}(hv:m0 m N M h w t fl):
 Dc (N:Int) (ca w).cS (ca w).cJ (hx m N h) fl (dE m t) (bc N I) 0 (bc N d9)=some (bc N fun j=>d9 j && !decide (t.c5 m (fun j=>(I j:Rat)) j<0)):=by
 unfold Dc
 obtain ⟨s,e,-⟩:=ie (f:=fun q:Int×List Bool=>wC (N:Int) (ca w).cS (ca w).cJ (hx m N h) fl (dE m t) (bc N I) q.1 q.2)
  (fun (i:Nat) (_:Unit)=>((i:Int),bc N fun j=>if j<i then d9 j && !decide (t.c5 m (fun j=>(I j:Rat)) j<0) else d9 j)) N (fun _ _=>True) (fun _=>bc N fun j=>d9 j && !decide (t.c5 m (fun j=>(I j:Rat)) j<0))
  (fun n a4 _ _=>by
    refine ⟨(),?_,trivial⟩
    have same:d9 n=(d9 n && !decide (t.c5 m (fun j=>(I j:Rat)) n<0))→(R ((n:Int)+1),bc N fun j=>if j<n then d9 j && !decide (t.c5 m (fun j=>(I j:Rat)) j<0) else d9 j)=(((n+1:Nat):Int),bc N fun j=>if j<n+1 then d9 j && !decide (t.c5 m (fun j=>(I j:Rat)) j<0) else d9 j):=fun he=>by
     rw [fz (by omega)]
     congr 1
     refine fg fun j _=> ?_
     by_cases c:j=n
     ·subst c;rw [if_neg (by omega),if_pos (by omega)];exact he
     ·by_cases cn:j<n
      ·rw [if_pos cn,if_pos (by omega)]
      ·rw [if_neg cn,if_neg (by omega)]
    have g1 : ∀F:Nat→Bool,0≤((n:Nat):Int)∧((n:Nat):Int)<((bc N F).length:Nat):=fun F=>by rw [c4];omega
    have g2:(bc N fun j=>if j<n then d9 j && !decide (t.c5 m (fun j=>(I j:Rat)) j<0) else d9 j)[(0+((n:Nat):Int).toNat)]? = some (d9 n):=by rw [Int.toNat_natCast,iw a4,if_neg (by omega)]
    unfold wC
    by_cases p2:d9 n=true
    ·obtain ⟨b,jo,kJ⟩:=O9 (m:=m) (by omega) t n
     cases b with
     | true =>
      obtain ⟨i,aj,ho⟩:=kJ.1 rfl
      refine dI (by simp only;omega) (bJ (g1 _) (aS g2 (gh p2 (aS jo (gh rfl ?_)))))
      simp only
      rw [same]
      rw [← ho,ok.yb _ aj,decide_eq_false (by grind)];simp
     | false =>
      have dB:=Rm hm fY f I ap ((⟨(ca w).cS,(ca w).cJ⟩:bt)) rfl (N:Int) (bc N fun j=>if j<n then d9 j && !decide (t.c5 m (fun j=>(I j:Rat)) j<0) else d9 j) a4
      have b6:jZ (t.c5 m (fun j=>(I j:Rat)) n)<0↔t.c5 m (fun j=>(I j:Rat)) n<0:=by
       unfold jZ
       by_cases c:t.c5 m (fun j=>(I j:Rat)) n=0
       ·rw [if_pos c,c];constructor
        ·intro h;omega
        ·intro h;grind
       ·rw [if_neg c]
        by_cases cn:t.c5 m (fun j=>(I j:Rat)) n<0
        ·rw [if_pos cn];simp [cn]
        ·rw [if_neg cn];constructor
         ·intro h;omega
         ·intro h;exact (cn h).elim
      by_cases r2:t.c5 m (fun j=>(I j:Rat)) n<0
      ·refine dI (by simp only;omega) (bJ (g1 _) (aS g2 (gh p2 (aS jo (iQ rfl (bJ (Ba hv) (aS (by rw [vd hv];exact dB) (dI (b6.2 r2) (bJ (by rw [c4,Int.toNat_natCast];omega) ?_)))))))))
       simp only
       rw [fz (by omega),Int.toNat_natCast,Nat.zero_add,lm]
       congr 3
       refine fg fun j _=> ?_
       by_cases c:j=n
       ·subst c;rw [if_pos rfl,if_pos (by omega),decide_eq_true r2];simp
       ·rw [if_neg c]
        by_cases cn:j<n
        ·rw [if_pos cn,if_pos (by omega)]
        ·rw [if_neg cn,if_neg (by omega)]
      ·refine dI (by simp only;omega) (bJ (g1 _) (aS g2 (gh p2 (aS jo (iQ rfl (bJ (Ba hv) (aS (by rw [vd hv];exact dB) (dY (fun c=>r2 (b6.1 c)) ?_))))))))
       simp only
       rw [same]
       rw [decide_eq_false r2];simp
    ·have FG:d9 n=false:=by simpa using p2
     refine dI (by simp only;omega) (bJ (g1 _) (aS g2 (iQ FG ?_)))
     simp only
     rw [same]
     rw [FG];simp)
  (fun _ _=>by
    unfold wC
    refine dY (by simp) ?_
    simp only
    congr 2
    exact fg fun j aG=>by rw [if_pos aG]) () trivial
 have e0:(bc N fun j=>if j<0 then d9 j && !decide (t.c5 m (fun j=>(I j:Rat)) j<0) else d9 j)=bc N d9:=fg fun j _=>by rw [if_neg (by omega)]
 rw [e0] at e
 exact e
theorem ZP {gv m N M:Nat}{A:Nat→Nat→Rat}(hm:m≤20)(fY:N<1000){h:Nat→Nat}(inj:∀i,i<m→ ∀k,k<m→h i=h k→i=k)(I:Nat→Int)(ap:∀j,j<N→ -100≤I j∧I j≤100)(d9:Nat→Bool)
 (Inv:Rat→cy→Prop) (inv : ∀w t,Inv w t→gf gv m N A t∧t.lq m N∧q6 m N w t)
 (gY : ∀w t r s,Inv w t→pj m N 1 (fun _ j=>(I j:Rat)) (fun j=>d9 j=true) t r s→yW m N w t r s∧Inv (pI w t r s) (t.cH r s)) {w:Rat} {t:cy} (cN:Inv w t) {fl:List (List bt)} (hv:m0 m N M h w t fl) :
 ∃b bS dm k9 rj,w6 (ca w).cS (ca w).cJ (N:Int) (hx m N h) fl (dE m t) (bc N d9) (bc N I)=some (b,(ca bS).cS,(ca bS).cJ,k9,dE m dm,bc N rj)∧Inv bS dm∧m0 m N M h bS dm k9 ∧
  ((b=true∧(∀j,j<N→d9 j=true→ ¬0<dm.c5 m (fun j=>(I j:Rat)) j)∧rj=fun j=>d9 j && !decide (dm.c5 m (fun j=>(I j:Rat)) j<0))∨(b=false∧ ∃s,s<N∧d9 s=true∧0<dm.c5 m (fun j=>(I j:Rat)) s∧ ∀i,i<m→ ¬0<dm.T i s)):=by
 obtain ⟨ok,mu,CO⟩:=inv w t cN
 obtain ⟨x,dK,dm,e,-,-,-,bS,k9,h1,o,af⟩:=PL (gv:=gv) (m:=m) (N:=N) (K:=1) (A:=A) (obj:=fun _ j=>(I j:Rat)) (cc:=fun j=>d9 j=true)
  (f:=tH (N:Int) (hx m N h) (bc N d9) (bc N I))
  (fun s t=> ∃w fl,s=((ca w).cS,(ca w).cJ,fl,dE m t)∧Inv w t∧m0 m N M h w t fl)
  (fun s x t=> ∃w fl,Inv w t∧m0 m N M h w t fl∧((x = .inl ((ca w).cS,(ca w).cJ,fl,dE m t)∧ ∀j,j<N→d9 j=true→ ¬0<t.c5 m (fun j=>(I j:Rat)) j) ∨
    (x = .inr ((ca w).cS,(ca w).cJ,fl,dE m t)∧ ∃s,s<N∧d9 s=true∧0<t.c5 m (fun j=>(I j:Rat)) s∧ ∀i,i<m→ ¬0<t.T i s)))
  (fun s t c1 ok _=>by
    obtain ⟨w,fl,rfl,cN,hv⟩:=c1
    obtain ⟨x,e,U⟩:=aat hm fY inj ok (inv w t cN).2.2 I ap d9 (fun r s b=>(gY w t r s cN b).1) hv
    rcases U with ⟨rfl,U⟩|⟨r,s,k9,rfl,dH,afq⟩|⟨rfl,U⟩
    ·left
     exact ⟨_,by unfold tH;simp only;rw [e],w,fl,cN,hv,.inl ⟨rfl,U⟩⟩
    ·right
     exact ⟨_,r,s,by unfold tH;simp only;rw [e],dH,pI w t r s,k9,rfl,(gY w t r s cN dH).2,afq⟩
    ·left
     exact ⟨_,by unfold tH;simp only;rw [e],w,fl,cN,hv,.inr ⟨rfl,U⟩⟩)
  (a:=((ca w).cS,(ca w).cJ,fl,dE m t)) (t:=t) ⟨w,fl,rfl,cN,hv⟩ ok mu
 have aE:=ab5 _ _ e
 obtain ⟨k1,ahH,afr⟩:=inv bS dm h1
 rcases af with ⟨rfl,af⟩|⟨rfl,af⟩
 ·refine ⟨true,bS,dm,k9,_,?_,h1,o,.inl ⟨rfl,af,rfl⟩⟩
  unfold w6
  exact aS aE (aS (ab6 hm fY k1 afr I ap d9 o) rfl)
 ·refine ⟨false,bS,dm,k9,d9,?_,h1,o,.inr ⟨rfl,af⟩⟩
  unfold w6
  exact aS aE rfl
def hB (m:Nat)(A:Nat→Nat→Rat)(t:cy):Rat:=if 0<t.D m A then t.D m A else -(t.D m A)
theorem ac8 {m N:Nat}{A:Nat→Nat→Rat}{t:cy}(h:t.D m A≠0):0<hB m A t:=by
 unfold hB;split<;>grind
theorem Se {m K:Nat}{A:Nat→Nat→Rat}{t:cy}{x:Rat}(h:eC K (x*t.D m A)):eC K (x*hB m A t):=by
 unfold hB;split
 ·exact h
 ·have:=h.neg
  rw [show x * -(t.D m A) = -(x*t.D m A) by grind];exact this
theorem k0.yX {m N:Nat}{A:Nat→Nat→Rat}(s:Small m N A){t:cy}(h:k0 m N A t):q6 m N (hB m A t) t where
 pos:=ac8 (N:=N) h.s7
 hw:=by
  have h1:eC fR (1*t.D m A):=by rw [Rat.one_mul];exact h.CK s
  have:=Se h1
  rw [Rat.one_mul] at this
  exact this.mono (by generalize fR=q;omega)
 iI:=fun i aj j aG=>Se (h.tT s aj aG)
 ho:=h.ok.kb
theorem k0.E0 {m N:Nat}{A:Nat→Nat→Rat}(s:Small m N A){t:cy}(h:k0 m N A t){r k:Nat}(aq:r<m)(a9:k<N)(ak:t.T r k≠0):yW m N (hB m A t) t r k where
 aq:=aq
 a9:=a9
 ak:=ak
 CM:=fun i aj j aG=>by
  have k1:=h.ok.cH aq a9 ak
  have h1:eC fR ((t.cH r k).T i j*(t.cH r k).D m A):=by
   rw [← k1.wh aj aG]
   refine eC.mono (yF fun dx m6 c bh=> ?_) (BB▸yn (by omega) s.hm)
   simp only [gk]
   split
   ·exact s.ua c bh j aG
   ·exact s.ua c bh _ (Nat.le_of_lt (k1.kb dx m6))
  rw [h.ok.yN aq a9] at h1
  unfold hB
  split
  ·exact h1
  ·have:=h1.neg
   rw [show (t.cH r k).T i j*(t.T r k * -(t.D m A)) = -((t.cH r k).T i j*(t.T r k*t.D m A)) by grind];exact this
theorem RS {m N:Nat}{A:Nat→Nat→Rat}{t:cy}(h:gf m m N A t)(bL:t.D m A≠0){r k:Nat}(aq:r<m)(a9:k<N)(ak:t.T r k≠0):pI (hB m A t) t r k=hB m A (t.cH r k):=by
 have e:=h.yN aq a9
 unfold pI hB
 rw [e]
 by_cases bs:0<t.T r k<;>by_cases cn:0<t.D m A
 ·rw [if_pos bs,if_pos cn,if_pos (Rat.mul_pos bs cn)]
 ·have:=Rat.mul_pos bs (show 0 < -(t.D m A) by grind)
  rw [if_pos bs,if_neg cn,if_neg (by grind)];grind
 ·have:=Rat.mul_pos (show 0 < -(t.T r k) by grind) cn
  rw [if_neg bs,if_pos cn,if_neg (by grind)]
 ·have:=Rat.mul_pos (show 0 < -(t.T r k) by grind) (show 0 < -(t.D m A) by grind)
  rw [if_neg bs,if_neg cn,if_pos (by grind)];grind
def ka (h:Nat→Nat)(t:cy):cy:=⟨fun i j=>t.T (h i) j,fun i=>t.B (h i)⟩
theorem K8 {h:Nat→Nat}{t:cy}{r k i:Nat}(fW:h i=h r→i=r):(∀j,((ka h t).cH r k).T i j=(ka h (t.cH (h r) k)).T i j)∧((ka h t).cH r k).B i=(ka h (t.cH (h r) k)).B i:=by
 simp only [cy.cH,ka]
 by_cases c:i=r
 ·subst c;simp
 ·have:h i≠h r:=fun e=>c (fW e)
  simp [c,this]
theorem PT {α:Type}{m i:Nat}(aj:i<m)(f:Nat→α):(bc m f).take (i-0)++((bc m f).drop (0+(i+1))).take (m-(i+1))=bc (m-1) (skip i f):=by
 apply List.ext_getElem?
 intro j
 rw [Nat.sub_zero,Nat.zero_add]
 have aV:((bc m f).take i).length=i:=by rw [List.length_take,c4];omega
 by_cases c:j<i
 ·rw [List.getElem?_append_left (by omega),List.getElem?_take,if_pos c,gi (by omega),gi (by omega)]
  simp only [skip];rw [if_pos c]
 ·rw [List.getElem?_append_right (by omega),aV,List.getElem?_take,List.getElem?_drop]
  by_cases cn:j<m-1
  ·rw [if_pos (by omega),gi (by omega),gi cn]
   simp only [skip];rw [if_neg c];congr 2;omega
  ·rw [if_neg (by omega)]
   symm
   rw [List.getElem?_eq_none_iff,c4];omega
theorem ZQ {m N M n:Nat}(fY:N<1000)(a4:n≤N){h:Nat→Nat}{w:Rat}{t:cy}(f:q6 m N w t){fl:List (List bt)}(hv:m0 m N M h w t fl){i:Nat}(aj:i<m)(jo:Bool)(kJ:List Int)(aB:Int)(a6:List Int)(bY:List Bool):
 ∃k:Nat,Di (n:Int) (i:Int) jo kJ aB (hx m N h) fl a6 bY 0=some (k:Int)∧k≤n∧(k<n→t.T i k≠0)∧ ∀j,j<k→t.T i j=0:=by
 unfold Di
 obtain ⟨r,e,k,rfl,h1,o,af⟩:=qM (f:=fun q:Int=>wL (n:Int) (i:Int) jo kJ aB (hx m N h) fl a6 bY q) (fun (c:Nat) (_:Unit)=>(c:Int)) n (fun c _=> ∀j,j<c→t.T i j=0)
  (fun r=> ∃k:Nat,r=(k:Int)∧k≤n∧(k<n→t.T i k≠0)∧ ∀j,j<k→t.T i j=0)
  (fun c bh _ cN=>by
    have hw:=f.pos
    have b6:=tt ((f.iI i aj c (by omega)).mono (sH (by have:=qi;generalize fR=q at *;omega)))
    unfold wL
    by_cases FO:t.T i c=0
    ·left
     refine ⟨(),dI (by omega) (bJ (by unfold hx;rw [c4];omega) (aS (x:=some (h i,N+1)) (by rw [Int.toNat_natCast];exact iw aj) (aS (x:=(h i,N+1)) rfl (aS (hv.row i aj) (bJ (by simp only;omega) (aS (x:=ca (t.T i c*w)) (by rw [Int.toNat_natCast];exact iw (by omega)) (aS b6 (gh (by rw [yy hw,rI.2 FO];rfl) (by rw [fz (by omega)]))))))))),fun j aG=> ?_⟩
     by_cases e:j=c
     ·rw [e];exact FO
     ·exact cN j (by omega)
    ·right
     exact ⟨_,dI (by omega) (bJ (by unfold hx;rw [c4];omega) (aS (x:=some (h i,N+1)) (by rw [Int.toNat_natCast];exact iw aj) (aS (x:=(h i,N+1)) rfl (aS (hv.row i aj) (bJ (by simp only;omega) (aS (x:=ca (t.T i c*w)) (by rw [Int.toNat_natCast];exact iw (by omega)) (aS b6 (iQ (by rw [yy hw];exact vH (fun c=>FO (rI.1 c))) rfl)))))))),c,rfl,by omega,fun _=>FO,cN⟩)
  (fun _ cN=>⟨_,by unfold wL;exact dY (by omega) rfl,n,rfl,Nat.le_refl _,fun c=>by omega,cN⟩) () (fun j aG=>by omega)
 exact ⟨k,e,h1,o,af⟩
structure q2 (m n N:Nat) (A:Nat→Nat→Rat) (t:cy) (bO:Nat) (h:Nat→Nat):Prop where
 inv:k0 m N A t
 z : ∀i,i<m→n≤t.B i→t.T i N=0
 le:bO≤m
 lt : ∀i,i<bO→h i<m
 inj : ∀i,i<bO→ ∀k,k<bO→h i=h k→i=k
 dead : ∀d,d<m→(∀i,i<bO→h i≠d)→n≤t.B d∧ ∀j,j<n→t.T d j=0
theorem q2.yX {m n N bO:Nat}{A:Nat→Nat→Rat}{t:cy}{h:Nat→Nat}(s:Small m N A)(a:q2 m n N A t bO h):q6 bO N (hB m A t) (ka h t) :=
 have f:=a.inv.yX s
 ⟨f.pos,f.hw,fun i aj j aG=>f.iI (h i) (a.lt i aj) j aG,fun i aj=>f.ho (h i) (a.lt i aj)⟩
theorem q2.E0 {m n N bO:Nat}{A:Nat→Nat→Rat}{t:cy}{h:Nat→Nat}(s:Small m N A)(a:q2 m n N A t bO h){r k:Nat}(aq:r<bO)(a9:k<N)(ak:t.T (h r) k≠0):yW bO N (hB m A t) (ka h t) r k :=
 have f:=a.inv.E0 s (a.lt r aq) a9 ak
 ⟨aq,a9,ak,fun i aj j aG=>by
  rw [(K8 (t:=t) (k:=k) (a.inj i aj r aq)).1 j]
  exact f.CM (h i) (a.lt i aj) j aG⟩
theorem q2.cH {m n N bO:Nat}{A:Nat→Nat→Rat}{t:cy}{h:Nat→Nat}(M7:n≤N)(a:q2 m n N A t bO h){r k:Nat}(aq:r<bO)(a9:k<n)(aU:n≤t.B (h r))(ak:t.T (h r) k≠0):q2 m n N A (t.cH (h r) k) bO h:=by
 have cD:=a.z (h r) (a.lt r aq) aU
 have dQ : ∀i,(t.cH (h r) k).T i N=t.T i N:=fun i=>by
  simp only [cy.cH]
  split
  ·rename_i e;rw [e,cD];grind
  ·rw [cD];grind
 refine ⟨⟨a.inv.ok.cH (a.lt r aq) (by omega) ak,fun i aj=>by rw [dQ];exact a.inv.mu i aj,?_⟩,fun i aj ho=> ?_,a.le,a.lt,a.inj,fun d bL jO=> ?_⟩
 ·rw [a.inv.ok.yN (a.lt r aq) (by omega)]
  have:=a.inv.s7
  grind
 ·rw [dQ]
  simp only [cy.cH] at ho
  by_cases c:i=h r
  ·rw [if_pos c] at ho;omega
  ·rw [if_neg c] at ho;exact a.z i aj ho
 ·obtain ⟨h1,o⟩:=a.dead d bL jO
  have c6:d≠h r:=fun e=>jO r aq e.symm
  simp only [cy.cH,if_neg c6]
  refine ⟨h1,fun j aG=> ?_⟩
  rw [o j aG,o k a9];grind
theorem abf {m n N:Nat}{A:Nat→Nat→Rat}(s:Small m N A)(fY:N<1000)(M7:n≤N)(free:List Bool){t:cy}(cm:k0 m N A t)(cD:∀i,i<m→n≤t.B i→t.T i N=0){fl:List (List bt)}(hv:m0 m N m (fun i=>i) (hB m A t) t fl):
 ∃dm bO h k9,zN (n:Int) (ca (hB m A t)).cS (ca (hB m A t)).cJ (N:Int) (hx m N fun i=>i) fl (dE m t) free=some ((ca (hB m A dm)).cS,(ca (hB m A dm)).cJ,hx bO N h,k9,dE bO (ka h dm)) ∧
  q2 m n N A dm bO h∧(∀i,i<bO→dm.B (h i)<n)∧m0 bO N m h (hB m A dm) (ka h dm) k9:=by
 have hm:=s.hm
 unfold zN Hc
 obtain ⟨x,e,dm,bO,h,k9,rfl,h1,o,af⟩:=jf (f:=fun w:Int×Bool×(List Int)×(List bD)×(List (List bt))×(List Int)=>zA (n:Int) (N:Int) free w.1 w.2.1 w.2.2.1 w.2.2.2.1 w.2.2.2.2.1 w.2.2.2.2.2)
  (fun w=> ∃(i bO:Nat) (h:Nat→Nat) (t:cy) (p:List (List bt)),w=((i:Int),(ca (hB m A t)).cS,(ca (hB m A t)).cJ,hx bO N h,p,dE bO (ka h t))∧i≤bO∧q2 m n N A t bO h∧(∀q,q<i→t.B (h q)<n)∧m0 bO N m h (hB m A t) (ka h t) p)
  (fun w=>w.2.2.2.1.length-w.1.toNat)
  (fun x=> ∃dm bO h k9,x=((ca (hB m A dm)).cS,(ca (hB m A dm)).cJ,hx bO N h,k9,dE bO (ka h dm))∧q2 m n N A dm bO h∧(∀i,i<bO→dm.B (h i)<n)∧m0 bO N m h (hB m A dm) (ka h dm) k9)
  (fun w hw=>by
    obtain ⟨i,bO,h,t,p,rfl,aj,bH,bd,ak⟩:=hw
    have lb:=bH.le
    have sV:(hx bO N h).length=bO:=c4 ..
    have M8:(dE bO (ka h t)).length=bO:=c4 ..
    simp only
    unfold zA
    by_cases c:i<bO
    ·left
     have g1:0≤(i:Int)∧(i:Int)<((dE bO (ka h t)).length:Nat):=by rw [M8];omega
     have g2:(dE bO (ka h t))[(0+((i:Int)).toNat)]? = some ((t.B (h i):Nat):Int):=by rw [Int.toNat_natCast];exact iw c
     by_cases FP:t.B (h i)<n
     ·refine ⟨(((i+1:Nat):Int),(ca (hB m A t)).cS,(ca (hB m A t)).cJ,hx bO N h,p,dE bO (ka h t)),dI (by rw [sV];omega) (bJ g1 (aS g2 (dI (by omega) (by rw [fz (by omega)])))),⟨i+1,bO,h,t,p,rfl,by omega,bH,fun q nz=> ?_,ak⟩,by simp only [sV];omega⟩
      by_cases e:q=i
      ·rw [e];exact FP
      ·exact bd q (by omega)
     ·obtain ⟨k,lh,kx,oG,Np⟩:=ZQ fY M7 (bH.yX s) ak c (ca (hB m A t)).cS (ca (hB m A t)).cJ (N:Int) (dE bO (ka h t)) free
      by_cases Nq:k<n
      ·have M9:t.T (h i) k≠0:=oG Nq
       obtain ⟨ku,e1,aE⟩:=Rn (by omega) fY bH.inj (bH.yX s) (bH.E0 s c (by omega) M9) ak (N:Int) free
       have ub:pI (hB m A t) (ka h t) i k=hB m A (t.cH (h i) k):=RS bH.inv.ok bH.inv.s7 (bH.lt i c) (by omega) M9
       have afV:dE bO ((ka h t).cH i k)=dE bO (ka h (t.cH (h i) k)):=fg fun q nz=>by
        have:=(K8 (t:=t) (k:=k) (bH.inj q nz i c)).2
        rw [this]
       rw [ub,afV] at e1
       rw [ub] at aE
       refine ⟨(((i+1:Nat):Int),(ca (hB m A (t.cH (h i) k))).cS,(ca (hB m A (t.cH (h i) k))).cJ,hx bO N h,ku,dE bO (ka h (t.cH (h i) k))),dI (by rw [sV];omega) (bJ g1 (aS g2 (dY (by omega) (aS lh (dI (by omega) (aS e1 (by rw [fz (by omega)]))))))),⟨i+1,bO,h,t.cH (h i) k,ku,rfl,by omega,bH.cH M7 c Nq (by omega) M9,fun q nz=> ?_,aE.len,fun q nz=> ?_⟩,by simp only [sV];omega⟩
       ·simp only [cy.cH]
        split
        ·exact Nq
        ·rename_i c6
         have:q≠i:=fun e=>c6 (by rw [e])
         exact bd q (by omega)
       ·rw [aE.row q nz]
        congr 1
        exact fg fun j _=>by rw [(K8 (t:=t) (k:=k) (bH.inj q nz i c)).1 j]
      ·have M5:k=n:=by omega
       have CI:R ((i:Int)+1)=((i+1:Nat):Int):=fz (by omega)
       have Fz:(((hx bO N h).drop (0+(i+1))).take (bO-(i+1))).length=bO-(i+1):=by rw [List.length_take,List.length_drop,sV];omega
       have Cr:(((dE bO (ka h t)).drop (0+(i+1))).take (bO-(i+1))).length=bO-(i+1):=by rw [List.length_take,List.length_drop,M8];omega
       have bp:(hx bO N h).take (i-0)++((hx bO N h).drop (0+(i+1))).take (bO-(i+1))=hx (bO-1) N (skip i h):=PT c _
       have eu:(dE bO (ka h t)).take (i-0)++((dE bO (ka h t)).drop (0+(i+1))).take (bO-(i+1))=dE (bO-1) (ka (skip i h) t):=PT c _
       refine ⟨((i:Int),(ca (hB m A t)).cS,(ca (hB m A t)).cJ,hx (bO-1) N (skip i h),p,dE (bO-1) (ka (skip i h) t)),dI (by rw [sV];omega) (bJ g1 (aS g2 (dY (by omega) (aS lh (dY (by omega) ?_))))),⟨i,bO-1,skip i h,t,p,rfl,by omega,⟨bH.inv,bH.z,by omega,fun q nz=> ?_,fun q nz a6 yY e=> ?_,fun d bL jO=> ?_⟩,fun q nz=> ?_,ak.len,fun q nz=> ?_⟩,?_⟩
       ·rw [CI,Int.toNat_natCast,Int.toNat_natCast,sV,M8,Fz,Cr,bp,eu]
        exact bJ (by omega) (bJ (by omega) (bJ (by omega) (bJ (by omega) (bJ (by omega) (bJ (by omega) (bJ (by omega) (bJ (by omega) (bJ (by omega) (bJ (by omega) (bJ (by omega) (bJ (by omega) rfl)))))))))))
       ·simp only [skip];split<;>exact bH.lt _ (by omega)
       ·simp only [skip] at e
        have:=bH.inj _ (by split<;>omega) _ (by split<;>omega) e
        split at this<;>split at this<;>omega
       ·by_cases TZ:d=h i
        ·rw [TZ]
         exact ⟨by omega,fun j aG=>Np j (by omega)⟩
        ·refine bH.dead d bL fun q nz=> ?_
         by_cases bs:q<i
         ·have:=jO q (by omega);simp only [skip] at this;rw [if_pos bs] at this;exact this
         ·by_cases cn:q=i
          ·rw [cn];exact fun e=>TZ e.symm
          ·have:=jO (q-1) (by omega);simp only [skip] at this;rw [if_neg (by omega),show q-1+1=q by omega] at this;exact this
       ·simp only [skip];rw [if_pos nz];exact bd q nz
       ·simp only [skip]
        by_cases bs:q<i
        ·rw [if_pos bs,ak.row q (by omega)];congr 1
         exact fg fun j _=>by simp only [ka,skip];rw [if_pos bs]
        ·rw [if_neg bs,ak.row (q+1) (by omega)];congr 1
         exact fg fun j _=>by simp only [ka,skip];rw [if_neg bs]
       ·simp only [sV,show (hx (bO-1) N (skip i h)).length=bO-1 from c4 ..];omega
    ·right
     have afs:i=bO:=by omega
     subst afs
     exact ⟨_,dY (by rw [sV];omega) rfl,t,i,h,p,rfl,bH,bd,ak⟩)
  ((0:Int),(ca (hB m A t)).cS,(ca (hB m A t)).cJ,hx m N (fun i=>i),fl,dE m t)
  ⟨0,m,fun i=>i,t,fl,rfl,by omega,⟨cm,cD,Nat.le_refl _,fun i aj=>aj,fun i _ k _ e=>e,fun d bL jO=>(jO d bL rfl).elim⟩,fun q bd=>by omega,hv.len,hv.row⟩
 exact ⟨dm,bO,h,k9,aS e rfl,h1,o,af⟩
theorem Ro:(⟨false,([]:List Int)⟩:bt)=ca 0:=by
 show _=hl (0:Rat).num
 rw [show (0:Rat).num=0 from rfl]
 unfold hl
 rw [show L ((0:Int).natAbs:Int)=[] from tA.2 (by simp)];rfl
theorem Lj {α:Type}(l:List α)(x:α):(l++[x])[l.length]? = some x:=by simp
theorem yz {α:Type}(l:List α)(x y:α):(l++[x]).set l.length y=l++[y]:=by simp
theorem Rp {p:hK}{m n:Nat}{a:Nat→Nat→Int}{b:Nat→Int}(h:mr p m n a b){i:Nat}(aj:i<m):xQ p i=some (bc n (a i)):=by
 have:=LB h aj
 unfold uQ at this
 unfold xQ
 exact this
theorem Zr {p:hK}{m n:Nat}{a:Nat→Nat→Int}{b:Nat→Int}(h:mr p m n a b){i:Nat}(aj:i<m)(aU:b i<0)(x0:Int)(mP:Bool)(hc:List Int)(a6:List bD)(cz:List Int)(dj:List Bool)(P:List (List bt)):
 DG p.fy p.ed p.dp p.dN p.hU x0 (i:Int) P.length (n+m+1) (bc n (a i)) (len_ eI (bc n (a i))) mP hc a6 cz dj 0 (P++[bc (n+m+1) fun _=>ca 0])=some (P++[bc (n+m+1) fun j=>if j<n then ca (dS m n a b i j) else ca 0]):=by
 have hm:=h.hm
 have a4:=h.a4
 have b6:kq (b i) = -1:=by unfold kq;rw [if_pos aU]
 unfold DG
 rw [f5,c4]
 obtain ⟨s1,e1,-⟩:=ie (f:=fun w:Int×List (List bt)=>xo p.fy p.ed p.dp p.dN p.hU x0 (i:Int) P.length (n+m+1) (bc n (a i)) ((n:Nat):Int) mP hc a6 cz dj w.1 w.2)
  (fun (k:Nat) (_:Unit)=>((k:Int),P++[bc (n+m+1) fun j=>if j<k then ca (dS m n a b i j) else ca 0])) n (fun _ _=>True) (fun _=>P++[bc (n+m+1) fun j=>if j<n then ca (dS m n a b i j) else ca 0])
  (fun k a9 _ _=>by
    refine ⟨(),?_,trivial⟩
    have bH:=h.s6 i aj k a9
    have e:R ((-1:Int)*a i k)=kz m n a b i k:=by
     rw [ct (by omega) (by omega)];unfold kz;rw [if_pos a9,b6]
    unfold xo
    refine dI (by simp only;omega) (bJ (by rw [c4];simp only;omega) (aS (x:=a i k) (by simp only;rw [Int.toNat_natCast];exact gi a9) (aS (x:=ca (dS m n a b i k)) (by rw [e];exact sg (by have:=sC h aj k;rw [my];omega)) (aS (Lj _ _) (bJ (by simp only;omega) (aS (by simp only;rw [Int.toNat_natCast];exact iw (by omega)) ?_))))))
    simp only
    rw [fz (by omega),Int.toNat_natCast,Nat.zero_add,lm,yz]
    congr 5
    refine fg fun j _=> ?_
    by_cases bs:j=k
    ·subst bs;rw [if_pos rfl,if_pos (by omega)]
    ·rw [if_neg bs]
     by_cases cn:j<k
     ·rw [if_pos cn,if_pos (by omega)]
     ·rw [if_neg cn,if_neg (by omega)])
  (fun _ _=>by unfold xo;exact dY (by simp) rfl) () trivial
 have e0:(bc (n+m+1) fun j=>if j<0 then ca (dS m n a b i j) else ca 0)=bc (n+m+1) fun _=>ca 0:=fg fun j _=>by rw [if_neg (by omega)]
 rw [e0] at e1
 exact e1
theorem Zs {p:hK}{m n:Nat}{a:Nat→Nat→Int}{b:Nat→Int}(h:mr p m n a b){i:Nat}(aj:i<m)(aU:¬b i<0)(x0:Int)(mP:Bool)(hc:List Int)(a6:List bD)(cz:List Int)(dj:List Bool)(P:List (List bt)):
 DH p.fy p.ed p.dp p.dN p.hU x0 (i:Int) P.length (n+m+1) (bc n (a i)) (len_ eI (bc n (a i))) mP hc a6 cz dj 0 (P++[bc (n+m+1) fun _=>ca 0])=some (P++[bc (n+m+1) fun j=>if j<n then ca (dS m n a b i j) else ca 0]):=by
 have hm:=h.hm
 have a4:=h.a4
 have b6:kq (b i)=1:=by unfold kq;rw [if_neg aU]
 unfold DH
 rw [f5,c4]
 obtain ⟨s1,e1,-⟩:=ie (f:=fun w:Int×List (List bt)=>xp p.fy p.ed p.dp p.dN p.hU x0 (i:Int) P.length (n+m+1) (bc n (a i)) ((n:Nat):Int) mP hc a6 cz dj w.1 w.2)
  (fun (k:Nat) (_:Unit)=>((k:Int),P++[bc (n+m+1) fun j=>if j<k then ca (dS m n a b i j) else ca 0])) n (fun _ _=>True) (fun _=>P++[bc (n+m+1) fun j=>if j<n then ca (dS m n a b i j) else ca 0])
  (fun k a9 _ _=>by
    refine ⟨(),?_,trivial⟩
    have bH:=h.s6 i aj k a9
    have e:R ((1:Int)*a i k)=kz m n a b i k:=by
     rw [ct (by omega) (by omega)];unfold kz;rw [if_pos a9,b6]
    unfold xp
    refine dI (by simp only;omega) (bJ (by rw [c4];simp only;omega) (aS (x:=a i k) (by simp only;rw [Int.toNat_natCast];exact gi a9) (aS (x:=ca (dS m n a b i k)) (by rw [e];exact sg (by have:=sC h aj k;rw [my];omega)) (aS (Lj _ _) (bJ (by simp only;omega) (aS (by simp only;rw [Int.toNat_natCast];exact iw (by omega)) ?_))))))
    simp only
    rw [fz (by omega),Int.toNat_natCast,Nat.zero_add,lm,yz]
    congr 5
    refine fg fun j _=> ?_
    by_cases bs:j=k
    ·subst bs;rw [if_pos rfl,if_pos (by omega)]
    ·rw [if_neg bs]
     by_cases cn:j<k
     ·rw [if_pos cn,if_pos (by omega)]
     ·rw [if_neg cn,if_neg (by omega)])
  (fun _ _=>by unfold xp;exact dY (by simp) rfl) () trivial
 have e0:(bc (n+m+1) fun j=>if j<0 then ca (dS m n a b i j) else ca 0)=bc (n+m+1) fun _=>ca 0:=fg fun j _=>by rw [if_neg (by omega)]
 rw [e0] at e1
 exact e1
theorem qR {α:Type}(n:Nat)(x:α):List.replicate n x=bc n fun _=>x:=by
 apply List.ext_getElem?
 intro i
 by_cases c:i<n
 ·rw [gi c];simp [c]
 ·rw [List.getElem?_eq_none_iff.2 (by simp;omega),List.getElem?_eq_none_iff.2 (by rw [c4];omega)]
theorem Pa {p:hK}{m n:Nat}{a:Nat→Nat→Int}{b:Nat→Int}(h:mr p m n a b)(mP:Bool)(hc:List Int)(dj:List Bool):
 DI p.fy p.ed p.dp p.dN p.hU ((n+m:Nat):Int) mP hc dj 0 ([]:List bD) ([]:List (List bt)) ([]:List Int)=some (hx m (n+m) (fun i=>i),bc m (fun i=>bc (n+m+1) fun j=>ca (dS m n a b i j)),dE m (iA m n a b)):=by
 have hm:=h.hm
 have a4:=h.a4
 unfold DI
 obtain ⟨s,e,-⟩:=ie (f:=fun w:Int×(List bD)×(List (List bt))×(List Int)=>xq p.fy p.ed p.dp p.dN p.hU ((n+m:Nat):Int) mP hc dj w.1 w.2.1 w.2.2.1 w.2.2.2)
  (fun (i:Nat) (_:Unit)=>((i:Int),bc i (fun k=>(some (k,n+m+1):bD)),bc i (fun i=>bc (n+m+1) fun j=>ca (dS m n a b i j)),bc i (fun k=>((n+k:Nat):Int)))) m (fun _ _=>True)
  (fun _=>(hx m (n+m) (fun i=>i),bc m (fun i=>bc (n+m+1) fun j=>ca (dS m n a b i j)),dE m (iA m n a b)))
  (fun i aj _ _=>by
    refine ⟨(),?_,trivial⟩
    have aU:=h.wm i aj
    have jS:R (((n+m:Nat):Int)+1)=((n+m+1:Nat):Int):=fz (by omega)
    have hw:R (p.ed+(i:Int))=((n+i:Nat):Int):=by rw [h.gB,← Int.natCast_add,ct (by omega) (by omega)]
    have TF:(bc i (fun i=>bc (n+m+1) fun j=>ca (dS m n a b i j))).length=i:=c4 ..
    have pW:kz m n a b i (n+m)=kq (b i)*b i:=by unfold kz;rw [if_neg (by omega),if_pos rfl]
    have dG:((bc (n+m+1) fun j=>if j<n then ca (dS m n a b i j) else ca 0).set (n+i) (ca ((1:Int):Rat))).set (n+m) (ca (dS m n a b i (n+m)))=bc (n+m+1) fun j=>ca (dS m n a b i j):=by
     rw [lm,lm]
     refine fg fun j aG=> ?_
     by_cases bs:j=n+m
     ·rw [if_pos bs,bs]
     ·rw [if_neg bs]
      by_cases cn:j=n+i
      ·rw [if_pos cn,cn,so aj,if_pos rfl];rfl
      ·rw [if_neg cn]
       by_cases jF:j<n
       ·rw [if_pos jF]
       ·rw [if_neg jF]
        obtain ⟨k,rfl⟩ : ∃k,j=n+k:=⟨j-n,by omega⟩
        rw [so (by omega),if_neg (by omega)]
    unfold xq
    rw [jS,hw,Int.toNat_natCast]
    refine dI (by simp only;rw [h.rows];omega) (bJ (by omega) (bJ (by simp only;rw [h.wo];omega) (aS (x:=b i) (by first|exact h.yV i aj|(rw [Int.toNat_natCast];exact h.yV i aj)|(simp only;rw [Int.toNat_natCast];exact h.yV i aj)) ?_)))
    have fin:(some (Sum.inl (R ((i:Int)+1),(bc i (fun k=>(some (k,n+m+1):bD)))++[some (i,n+m+1)],(bc i (fun i=>bc (n+m+1) fun j=>ca (dS m n a b i j)))++[bc (n+m+1) fun j=>ca (dS m n a b i j)],(bc i fun k=>((n+k:Nat):Int))++[((n+i:Nat):Int)])):Option ((Int×(List bD)×(List (List bt))×(List Int))⊕((List bD)×(List (List bt))×(List Int)))) =
     some (Sum.inl (((i+1:Nat):Int),bc (i+1) (fun k=>(some (k,n+m+1):bD)),bc (i+1) (fun i=>bc (n+m+1) fun j=>ca (dS m n a b i j)),bc (i+1) (fun k=>((n+k:Nat):Int)))):=by
     rw [fz (by omega),ll i (fun k=>(some (k,n+m+1):bD)),ll i (fun i=>bc (n+m+1) fun j=>ca (dS m n a b i j)),ll i (fun k=>((n+k:Nat):Int))]
    have U : ∀(P:List (List bt)) (F:List bt→Option ((Int×(List bD)×(List (List bt))×(List Int))⊕((List bD)×(List (List bt))×(List Int)))) (x:List bt) r,F x=r→(P++[x])[P.length]? >>= F=r:=fun P F x r tY=>aS (Lj P x) tY
    refine oF (fun c=> ?_) (fun c=> ?_)
    ·have nu:b i<0:=of_decide_eq_true c
     have b6:kq (b i) = -1:=by unfold kq;rw [if_pos nu]
     refine aS (Rp h aj) (aS (by rw [Ro,qR];exact Zr h aj nu _ _ _ _ _ _ _) (aS (sg (n:=1) (by rw [my];omega)) (U _ _ _ _ ?_)))
     refine bJ (by omega) (aS (x:=ca 0) (by rw [Int.toNat_natCast,iw (by omega),if_neg (by omega)]) (aS (x:=ca (dS m n a b i (n+m))) (by
      have e:R ((-1:Int)*b i)=kz m n a b i (n+m):=by rw [pW,b6,ct (by omega) (by omega)]
      rw [e];exact sg (by have:=sC h aj (n+m);rw [my];omega)) ?_))
     rw [yz,Int.toNat_natCast,Nat.zero_add,Int.toNat_natCast,Nat.zero_add]
     refine U _ _ _ _ (bJ (by omega) ?_)
     obtain ⟨v,bk⟩ : ∃v,((bc (n+m+1) fun j=>if j<n then ca (dS m n a b i j) else ca 0).set (n+i) (ca ((1:Int):Rat)))[n+m]? = some v:=by
      rw [lm,gi (by omega)];exact ⟨_,rfl⟩
     refine aS bk (bJ (by simp only [List.length_append,c4,List.length_cons,List.length_nil];omega) (bJ (by simp only [List.length_append,c4,List.length_cons,List.length_nil];omega) ?_))
     rw [yz]
     simp only [Int.toNat_natCast,Nat.zero_add]
     rw [dG,TF]
     exact fin
    ·have nu : ¬b i<0:=of_decide_eq_false c
     have b6:kq (b i)=1:=by unfold kq;rw [if_neg nu]
     refine aS (Rp h aj) (aS (by rw [Ro,qR];exact Zs h aj nu _ _ _ _ _ _ _) (aS (sg (n:=1) (by rw [my];omega)) (U _ _ _ _ ?_)))
     refine bJ (by omega) (aS (x:=ca 0) (by rw [Int.toNat_natCast,iw (by omega),if_neg (by omega)]) (aS (x:=ca (dS m n a b i (n+m))) (by
      have e:R ((1:Int)*b i)=kz m n a b i (n+m):=by rw [pW,b6,ct (by omega) (by omega)]
      rw [e];exact sg (by have:=sC h aj (n+m);rw [my];omega)) ?_))
     rw [yz,Int.toNat_natCast,Nat.zero_add,Int.toNat_natCast,Nat.zero_add]
     refine U _ _ _ _ (bJ (by omega) ?_)
     obtain ⟨v,bk⟩ : ∃v,((bc (n+m+1) fun j=>if j<n then ca (dS m n a b i j) else ca 0).set (n+i) (ca ((1:Int):Rat)))[n+m]? = some v:=by
      rw [lm,gi (by omega)];exact ⟨_,rfl⟩
     refine aS bk (bJ (by simp only [List.length_append,c4,List.length_cons,List.length_nil];omega) (bJ (by simp only [List.length_append,c4,List.length_cons,List.length_nil];omega) ?_))
     rw [yz]
     simp only [Int.toNat_natCast,Nat.zero_add]
     rw [dG,TF]
     exact fin)
  (fun _ _=>by unfold xq;exact dY (by simp only;rw [h.rows];omega) rfl) () trivial
 exact e
def p3 (n j:Nat):Int:=if n≤j then -1 else 0
theorem RT {m n j:Nat}(aG:j<n+m):((p3 n j:Int):Rat)=gP m n j:=by
 unfold p3 gP
 by_cases c:n≤j
 ·rw [if_pos c,if_pos ⟨c,aG⟩];rfl
 ·rw [if_neg c,if_neg (by omega)];rfl
theorem Rq {m n:Nat}{t:cy}(ho:∀i,i<m→t.B i<n+m){j:Nat}(aG:j<n+m):t.c5 m (fun j=>((p3 n j:Int):Rat)) j=t.c5 m (gP m n) j:=by
 unfold cy.c5
 simp only
 rw [RT aG,gE (g:=fun i=>gP m n (t.B i)*t.T i j) fun i aj=>by rw [RT (ho i aj)]]
theorem Pr {p:hK}{m n:Nat}{a:Nat→Nat→Int}{b:Nat→Int}(h:mr p m n a b)(x0:Int)(mP:Bool)(hc:List Int)(a6:List bD)(bY:List (List bt))(cz:List Int):
 DJ p.fy p.ed p.dp p.dN p.hU x0 ((n+m:Nat):Int) mP hc a6 bY cz 0 (bc (n+m) fun _=>(0:Int)) (bc (n+m) fun _=>false)=some (bc (n+m) (p3 n),bc (n+m) fun j=>decide (j<n)):=by
 have hm:=h.hm
 have a4:=h.a4
 unfold DJ
 obtain ⟨s,e,-⟩:=ie (f:=fun w:Int×List Int×List Bool=>xr p.fy p.ed p.dp p.dN p.hU x0 ((n+m:Nat):Int) mP hc a6 bY cz w.1 w.2.1 w.2.2)
  (fun (k:Nat) (_:Unit)=>((k:Int),(bc (n+m) fun j=>if j<k then p3 n j else 0),bc (n+m) fun j=>if j<k then decide (j<n) else false)) (n+m) (fun _ _=>True) (fun _=>(bc (n+m) (p3 n),bc (n+m) fun j=>decide (j<n)))
  (fun k a9 _ _=>by
    refine ⟨(),?_,trivial⟩
    have aE:(bc (n+m) fun j=>if j<k then decide (j<n) else false).set (0+((k:Int)).toNat) (decide (k<n))=bc (n+m) fun j=>if j<k+1 then decide (j<n) else false:=by
     rw [Int.toNat_natCast,Nat.zero_add,lm]
     refine fg fun j _=> ?_
     by_cases c:j=k
     ·subst c;rw [if_pos rfl,if_pos (by omega)]
     ·rw [if_neg c]
      by_cases cn:j<k
      ·rw [if_pos cn,if_pos (by omega)]
      ·rw [if_neg cn,if_neg (by omega)]
    have Nr:decide ((k:Int)<p.ed)=decide (k<n):=by rw [h.gB];simp
    unfold xr
    simp only
    rw [Nr,aE,fz (by omega)]
    refine dI (by omega) (bJ (by rw [c4];omega) (bJ (by rw [c4,Int.toNat_natCast];omega) ?_))
    by_cases c:n≤k
    ·refine dI (by rw [h.gB];omega) (bJ (by rw [c4];omega) (bJ (by rw [c4,Int.toNat_natCast];omega) ?_))
     rw [Int.toNat_natCast,Nat.zero_add,lm]
     congr 4
     refine fg fun j _=> ?_
     by_cases bs:j=k
     ·subst bs;rw [if_pos rfl,if_pos (by omega)];unfold p3;rw [if_pos c]
     ·rw [if_neg bs]
      by_cases cn:j<k
      ·rw [if_pos cn,if_pos (by omega)]
      ·rw [if_neg cn,if_neg (by omega)]
    ·refine dY (by rw [h.gB];omega) ?_
     congr 4
     refine fg fun j _=> ?_
     by_cases bs:j=k
     ·subst bs;rw [if_neg (by omega),if_pos (by omega)];unfold p3;rw [if_neg c]
     ·by_cases cn:j<k
      ·rw [if_pos cn,if_pos (by omega)]
      ·rw [if_neg cn,if_neg (by omega)])
  (fun _ _=>by
    unfold xr
    refine dY (by simp) ?_
    simp only
    congr 3
    ·exact fg fun j aG=>by rw [if_pos aG]
    ·exact fg fun j aG=>by rw [if_pos aG]) () trivial
 have CX:(bc (n+m) fun j=>if j<0 then p3 n j else 0)=bc (n+m) fun _=>(0:Int):=fg fun j _=>by rw [if_neg (by omega)]
 have afW:(bc (n+m) fun j=>if j<0 then decide (j<n) else false)=bc (n+m) fun _=>false:=fg fun j _=>by rw [if_neg (by omega)]
 rw [CX,afW] at e
 exact e
theorem Zt {p:hK}{m n:Nat}{a:Nat→Nat→Int}{b:Nat→Int}(h:mr p m n a b){w:Rat}{t:cy}(f:q6 m (n+m) w t){fl:List (List bt)}(hv:m0 m (n+m) m (fun i=>i) w t fl)(mP:Bool)(hc:List Int)(x0:Int)(q:List Bool):
 ∃r,DK p.fy p.ed p.dp p.dN p.hU ((n+m:Nat):Int) ((m:Nat):Int) mP hc x0 (dE m t) (hx m (n+m) fun i=>i) fl q 0=some r∧((r = .inr ()∧ ∃i,i<m∧n≤t.B i∧0<t.T i (n+m))∨(r = .inl ()∧ ∀i,i<m→n≤t.B i→ ¬0<t.T i (n+m))):=by
 have hm:=h.hm
 have a4:=h.a4
 have hw:=f.pos
 unfold DK
 exact qM (f:=fun w:Int=>xt p.fy p.ed p.dp p.dN p.hU ((n+m:Nat):Int) ((m:Nat):Int) mP hc x0 (dE m t) (hx m (n+m) fun i=>i) fl q w) (fun (i:Nat) (_:Unit)=>(i:Int)) m (fun k _=> ∀i,i<k→n≤t.B i→ ¬0<t.T i (n+m)) _
  (fun i aj _ cN=>by
    have b6:=tt ((f.iI i aj (n+m) (Nat.le_refl _)).mono (sH (by have:=qi;generalize fR=q at *;omega)))
    have g1:0≤(i:Int)∧(i:Int)<((dE m t).length:Nat):=by unfold dE;rw [c4];omega
    have g2:(dE m t)[(0+((i:Int)).toNat)]? = some ((t.B i:Nat):Int):=by rw [Int.toNat_natCast];exact iw aj
    have g3:0≤(i:Int)∧(i:Int)<((hx m (n+m) fun i=>i).length:Nat):=by unfold hx;rw [c4];omega
    have g4:(hx m (n+m) fun i=>i)[(0+((i:Int)).toNat)]? = some (some (i,n+m+1)):=by rw [Int.toNat_natCast];exact iw aj
    unfold xt
    by_cases FP:n≤t.B i
    ·by_cases kK:0<t.T i (n+m)
     ·right
      exact ⟨_,dI (by omega) (bJ g1 (aS g2 (dI (by rw [h.gB];omega) (bJ g3 (aS g4 (aS (x:=(i,n+m+1)) rfl (aS (hv.row i aj) (bJ (by simp only;omega) (aS (x:=ca (t.T i (n+m)*w)) (by rw [Int.toNat_natCast];exact iw (by omega)) (aS b6 (dI (by rw [yy hw];exact qQ.2 kK) rfl))))))))))),.inl ⟨rfl,i,aj,FP,kK⟩⟩
     ·left
      refine ⟨(),dI (by omega) (bJ g1 (aS g2 (dI (by rw [h.gB];omega) (bJ g3 (aS g4 (aS (x:=(i,n+m+1)) rfl (aS (hv.row i aj) (bJ (by simp only;omega) (aS (x:=ca (t.T i (n+m)*w)) (by rw [Int.toNat_natCast];exact iw (by omega)) (aS b6 (dY (by rw [yy hw];exact fun c=>kK (qQ.1 c)) (by rw [fz (by omega)])))))))))))),fun k a9=> ?_⟩
      by_cases e:k=i
      ·rw [e];exact fun _=>kK
      ·exact cN k (by omega)
    ·left
     refine ⟨(),dI (by omega) (bJ g1 (aS g2 (dY (by rw [h.gB];omega) (by rw [fz (by omega)])))),fun k a9=> ?_⟩
     by_cases e:k=i
     ·rw [e];exact fun c=>(FP c).elim
     ·exact cN k (by omega))
  (fun _ cN=>⟨_,by unfold xt;exact dY (by omega) rfl,.inr ⟨rfl,cN⟩⟩) () (fun k a9=>by omega)
theorem Zu {p:hK}{m n:Nat}{a:Nat→Nat→Int}{b:Nat→Int}(h:mr p m n a b)(F:Nat→Bool)(mP:Bool)(hc:List Int)(x0:Int)(a6:List bD)(bY:List (List bt))(cz:List Int):
 DL p.fy p.ed p.dp p.dN p.hU ((n+m:Nat):Int) mP hc x0 a6 bY cz 0 (bc (n+m) F)=some (bc (n+m) fun j=>decide (j<n)):=by
 have hm:=h.hm
 have a4:=h.a4
 unfold DL
 obtain ⟨s,e,-⟩:=ie (f:=fun w:Int×List Bool=>xu p.fy p.ed p.dp p.dN p.hU ((n+m:Nat):Int) mP hc x0 a6 bY cz w.1 w.2)
  (fun (k:Nat) (_:Unit)=>((k:Int),bc (n+m) fun j=>if j<k then decide (j<n) else F j)) (n+m) (fun _ _=>True) (fun _=>bc (n+m) fun j=>decide (j<n))
  (fun k a9 _ _=>by
    refine ⟨(),?_,trivial⟩
    have Nr:decide ((k:Int)<p.ed)=decide (k<n):=by rw [h.gB];simp
    unfold xu
    simp only
    rw [Nr,fz (by omega)]
    refine dI (by omega) (bJ (by rw [c4];omega) (bJ (by rw [c4,Int.toNat_natCast];omega) ?_))
    rw [Int.toNat_natCast,Nat.zero_add,lm]
    congr 3
    refine fg fun j _=> ?_
    by_cases c:j=k
    ·subst c;rw [if_pos rfl,if_pos (by omega)]
    ·rw [if_neg c]
     by_cases cn:j<k
     ·rw [if_pos cn,if_pos (by omega)]
     ·rw [if_neg cn,if_neg (by omega)])
  (fun _ _=>by
    unfold xu
    refine dY (by simp) ?_
    simp only
    congr 2
    exact fg fun j aG=>by rw [if_pos aG]) () trivial
 have CX:(bc (n+m) fun j=>if j<0 then decide (j<n) else F j)=bc (n+m) F:=fg fun j _=>by rw [if_neg (by omega)]
 rw [CX] at e
 exact e
theorem TG {m n:Nat}{a:Nat→Nat→Int}{b:Nat→Int}:hB m (dS m n a b) (iA m n a b)=1:=by
 unfold hB;rw [RK,if_pos (by grind)]
theorem ab7 {p:hK}{m n:Nat}{a:Nat→Nat→Int}{b:Nat→Int}(h:mr p m n a b):
 ∃r,Ay p=some r∧((tD m n a b∧ ∃t bO g fl,r = .inl ((ca (hB m (dS m n a b) t)).cS,(ca (hB m (dS m n a b) t)).cJ,((n+m:Nat):Int),hx bO (n+m) g,dE bO (ka g t),bc (n+m) (fun j=>decide (j<n)),fl) ∧
  q2 m n (n+m) (dS m n a b) t bO g∧(∀i,i<bO→t.B (g i)<n)∧m0 bO (n+m) m g (hB m (dS m n a b) t) (ka g t) fl)∨(¬tD m n a b∧r = .inr ())):=by
 have hm:=h.hm
 have a4:=h.a4
 have s8:=KS h
 have fY:R (p.ed+p.fy)=((n+m:Nat):Int):=by rw [h.gB,h.rows,← Int.natCast_add,ct (by omega) (by omega)]
 have aft:m0 m (n+m) m (fun i=>i) (hB m (dS m n a b) (iA m n a b)) (iA m n a b) (bc m (fun i=>bc (n+m+1) fun j=>ca (dS m n a b i j))):=⟨c4 ..,fun i aj=>by
  rw [gi aj,TG]
  congr 1
  exact fg fun j _=>by
   show ca (dS m n a b i j)=ca (dS m n a b i j*1)
   congr 1;grind⟩
 obtain ⟨q,bS,t,fl,rj,e,⟨cN,rfl⟩,hv,ey⟩:=ZP (gv:=m) (m:=m) (N:=n+m) (M:=m) (A:=dS m n a b) hm (by omega) (h:=fun i=>i) (fun i _ k _ e=>e) (p3 n) (fun j _=>by unfold p3;split<;>omega) (fun j=>decide (j<n))
  (fun w t=>k0 m (n+m) (dS m n a b) t∧w=hB m (dS m n a b) t) (fun w t cN=>⟨cN.1.ok,cN.1.mu,cN.2▸cN.1.yX s8⟩)
  (fun w t r s cN b=>by
    obtain ⟨h1,rfl⟩:=cN
    have ak:t.T r s≠0:=by have:=b.pos;grind
    exact ⟨h1.E0 s8 b.aq b.b6 ak,h1.gY b,RS h1.ok h1.s7 b.aq b.b6 ak⟩)
  (w:=hB m (dS m n a b) (iA m n a b)) (t:=iA m n a b) ⟨⟨Re,Qb,QE⟩,rfl⟩ aft
 rw [TG] at e
 have aeg : ∀j,j<n→t.c5 m (gP m n) j≤0:=by
  rcases ey with ⟨-,ey,-⟩|⟨-,s,b6,-,dB,jO⟩
  ·intro j aG
   have:=ey j (by omega) (by simpa using aG)
   rw [Rq cN.ok.kb (by omega)] at this
   grind
  ·rw [Rq cN.ok.kb b6] at dB
   obtain ⟨i,aj,ak⟩:=O5 cN.ok b6 dB
   exact (jO i aj ak).elim
 have e1:oH 1=some (ca 1):=by
  have:=sg (n:=1) (by rw [my];omega)
  rw [show ((1:Int):Rat)=1 from rfl] at this
  exact this
 obtain ⟨r,r1,bT⟩:=Zt h (cN.yX s8) hv (ca (hB m (dS m n a b) t)).cS (ca (hB m (dS m n a b) t)).cJ ((n+m:Nat):Int) (bc (n+m) rj)
 unfold Ay
 rw [fY]
 rcases bT with ⟨rfl,i,aj,ho,iI⟩|⟨rfl,jO⟩
 ·have B4 : ¬tD m n a b:=fun b6=>by
   have:=Po cN.mu (PM cN.ok cN.mu aeg b6) cN.ok.kb i aj ho
   grind
  refine ⟨_,aS e1 (bJ (by omega) (aS (Pa h _ _ _) (bJ (by omega) (aS (x:=(bc (n+m) (p3 n),bc (n+m) fun j=>decide (j<n))) (by rw [Int.toNat_natCast,qR,qR];exact Pr h _ _ _ _ _ _) (aS e ?_))))),.inr ⟨B4,rfl⟩⟩
  refine aS (x:= .inr ()) ?_ rfl
  simp only
  rw [show ((dE m t).length:Nat)=m from c4 ..]
  exact r1
 ·have cD : ∀i,i<m→n≤t.B i→t.T i (n+m)=0:=fun i aj ho=>by
   have h1:=jO i aj ho
   have o:=cN.mu i aj
   grind
  have b6:tD m n a b:=Pn cN.ok cN.mu cD
  obtain ⟨dm,bO,g,k9,nG,qB,Nk,kc⟩:=abf (n:=n) s8 (by omega) (by omega) (bc (n+m) fun j=>decide (j<n)) cN cD hv
  refine ⟨_,aS e1 (bJ (by omega) (aS (Pa h _ _ _) (bJ (by omega) (aS (x:=(bc (n+m) (p3 n),bc (n+m) fun j=>decide (j<n))) (by rw [Int.toNat_natCast,qR,qR];exact Pr h _ _ _ _ _ _) (aS e ?_))))),.inl ⟨b6,dm,bO,g,k9,rfl,qB,Nk,kc⟩⟩
  refine aS (x:= .inl ()) ?_ ?_
  ·simp only
   rw [show ((dE m t).length:Nat)=m from c4 ..]
   exact r1
  ·simp only
   rw [show ((bc (n+m) rj).length:Nat)=n+m from c4 ..]
   refine aS (Zu h rj _ _ _ _ _ _) ?_
   rw [h.gB]
   exact aS nG rfl
end Go.Proofs.YtmeimpeaagmneaaGreat
namespace Go.Proofs.YtmeimpeaagmneaaGreat
set_option linter.unusedVariables false
set_option linter.unusedSimpArgs false
open Go Go.VL
def tI (k:Nat)(x:bC):List eG:=(if x.gG=2 then [] else [⟨(k:Int),1⟩])++(if x.gG=1 then [] else [⟨(k:Int),-1⟩])
def lK (eg:List bC):Nat→List eG
 | 0=>[]
 | n+1=>lK eg n++(match eg[n]? with
  | some x=>tI n x
  | none=>[])
theorem Em (eg:List bC): ∀n,(lK eg n).length≤2*n
 | 0=>by simp [lK]
 | n+1=>by
  have:=Em eg n
  rw [lK,List.length_append]
  have o:(match eg[n]? with
   | some x=>tI n x
   | none=>[]).length≤2:=by
   split
   ·rename_i x _;unfold tI;rw [List.length_append];split<;>split<;>simp
   ·simp
  omega
theorem QS {eg:List bC}: ∀ {n:Nat} {c:eG},n≤eg.length→c∈lK eg n→ ∃k:Nat,c.mT=k∧k<n∧(c.qm=1∨c.qm = -1)
 | 0,c,_,h=>by simp [lK] at h
 | n+1,c,a4,h=>by
  rw [lK,List.mem_append] at h
  rcases h with h|h
  ·obtain ⟨k,h1,o,af⟩:=QS (by omega) h
   exact ⟨k,h1,by omega,af⟩
  ·rw [List.getElem?_eq_getElem (by omega)] at h
   simp only [tI,List.mem_append] at h
   rcases h with h|h
   ·split at h
    ·simp at h
    ·simp at h;subst h;exact ⟨n,rfl,by omega,.inl rfl⟩
   ·split at h
    ·simp at h
    ·simp at h;subst h;exact ⟨n,rfl,by omega,.inr rfl⟩
theorem aau (s:cF)(en:s.bE.length≤1000):zG s=some (lK s.bE s.bE.length):=by
 unfold zG GB
 rw [e8]
 obtain ⟨x,e,-⟩:=ie (f:=fun w:Int×List eG=>wD s.bE (s.bE.length:Nat) w.1 w.2) (fun (n:Nat) (_:Unit)=>((n:Int),lK s.bE n)) s.bE.length (fun _ _=>True) (fun _=>lK s.bE s.bE.length)
  (fun n a4 _ _=>by
    refine ⟨(),?_,trivial⟩
    have U:=List.getElem?_eq_getElem a4
    have aV:=Em s.bE n
    have e1:lK s.bE (n+1)=lK s.bE n++tI n s.bE[n]:=by rw [lK,U]
    unfold wD
    refine dI (by simp only;omega) (bJ (by simp only;omega) (aS (x:=s.bE[n]) (by simp only;rw [Int.toNat_natCast];exact U) ?_))
    simp only
    rw [fz (by omega),e1]
    unfold tI
    by_cases bs:s.bE[n].gG=2
    ·rw [if_pos bs]
     refine iQ (Cq bs) (gh (zg (by omega)) (bJ (by simp only [List.length_append,List.length_cons,List.length_nil];omega) ?_))
     rw [if_neg (by omega)];simp
    ·rw [if_neg bs]
     refine gh (zg bs) (bJ (by simp only [List.length_append,List.length_cons,List.length_nil];omega) ?_)
     by_cases cn:s.bE[n].gG=1
     ·refine iQ (Cq cn) ?_
      rw [if_pos cn];simp
     ·refine gh (zg cn) (bJ (by simp only [List.length_append,List.length_cons,List.length_nil];omega) ?_)
      rw [if_neg cn];simp)
  (fun _ _=>by unfold wD;exact dY (by simp) rfl) () trivial
 exact aS e rfl
theorem Y7 (s:cF)(en:s.bE.length≤1000):zY s=some ((lK s.bE s.bE.length).map eG.mT,(lK s.bE s.bE.length).map eG.qm):=by
 unfold zY IW
 rw [e8]
 obtain ⟨x,e,-⟩:=ie (f:=fun w:Int×List Int×List Int=>wW s.bE (s.bE.length:Nat) w.1 w.2.1 w.2.2) (fun (n:Nat) (_:Unit)=>((n:Int),(lK s.bE n).map eG.mT,(lK s.bE n).map eG.qm)) s.bE.length (fun _ _=>True) (fun _=>((lK s.bE s.bE.length).map eG.mT,(lK s.bE s.bE.length).map eG.qm))
  (fun n a4 _ _=>by
    refine ⟨(),?_,trivial⟩
    have U:=List.getElem?_eq_getElem a4
    have aV:=Em s.bE n
    have e1:lK s.bE (n+1)=lK s.bE n++tI n s.bE[n]:=by rw [lK,U]
    unfold wW
    refine dI (by simp only;omega) (bJ (by simp only;omega) (aS (x:=s.bE[n]) (by simp only;rw [Int.toNat_natCast];exact U) ?_))
    simp only
    rw [fz (by omega),e1]
    unfold tI
    by_cases bs:s.bE[n].gG=2
    ·rw [if_pos bs]
     refine iQ (Cq bs) (gh (zg (by omega)) (bJ (by simp only [List.length_append,List.length_map,List.length_cons,List.length_nil];omega) (bJ (by simp only [List.length_append,List.length_map,List.length_cons,List.length_nil];omega) ?_)))
     rw [if_neg (by omega)];simp
    ·rw [if_neg bs]
     refine gh (zg bs) (bJ (by simp only [List.length_append,List.length_map,List.length_cons,List.length_nil];omega) (bJ (by simp only [List.length_append,List.length_map,List.length_cons,List.length_nil];omega) ?_))
     by_cases cn:s.bE[n].gG=1
     ·refine iQ (Cq cn) ?_
      rw [if_pos cn];simp
     ·refine gh (zg cn) (bJ (by simp only [List.length_append,List.length_map,List.length_cons,List.length_nil];omega) (bJ (by simp only [List.length_append,List.length_map,List.length_cons,List.length_nil];omega) ?_))
      rw [if_neg cn];simp)
  (fun _ _=>by unfold wW;exact dY (by simp) rfl) () trivial
 exact aS e rfl
theorem acC {α:Type}(a b:Nat)(f:Nat→α):bc (a+b) f=bc a f++bc b (fun j=>f (a+j)):=by
 induction b with
 | zero=>simp [bc]
 | succ b ih=>rw [← Nat.add_assoc,ll,ih,ll,List.append_assoc]
def lZ (s:cF)(k:Nat):Int×Int:=(uo s k).getD (0,0)
theorem K9 (s:cF)(i0:j1 s)(h:kl s=some true)(k:Nat)(a9:k<s.bE.length):uo s k=some (lZ s k)∧xU s k=some (lZ s k)∧(-100≤(lZ s k).1∧(lZ s k).1≤100)∧(-100≤(lZ s k).2∧(lZ s k).2≤100):=by
 obtain ⟨x,y,h1,o,af,au⟩:=aa5 s i0 h k (by omega) (by omega)
 have e:lZ s k=(x,y):=by unfold lZ;rw [h1];rfl
 rw [e];exact ⟨h1,o,af,au⟩
def iN (s:cF)(j:Int)(jt k:Nat):Int :=
 match s.bE[k]? with
 | none=>0
 | some x=>if j=x.dp then (if jt=0 then (lZ s k).1 else (lZ s k).2) else if j=x.dN then -(if jt=0 then (lZ s k).1 else (lZ s k).2) else 0
theorem ac9 (s:cF)(i0:j1 s)(h:kl s=some true)(j:Int)(jt k:Nat): -100≤iN s j jt k∧iN s j jt k≤100:=by
 unfold iN
 split
 ·omega
 ·rename_i x U
  obtain ⟨-,-,af,au⟩:=K9 s i0 h k (f9 U)
  split
  ·split<;>omega
  ·split
   ·split<;>omega
   ·omega
theorem acD (s:cF)(i0:j1 s)(h:kl s=some true)(j:Int)(q1:List Int)(a6 bY:Int)(cz:List Int):
 DD j q1 a6 bY s.bE (len_ bA s.bE) s.b7 cz 0 ([]:List Int) ([]:List Int)=some (bc s.bE.length (iN s j 0),bc s.bE.length (iN s j 1)):=by
 obtain ⟨-,-,f3,f4⟩:=ob s i0 h
 unfold DD
 rw [e8]
 obtain ⟨x,e,-⟩:=ie (f:=fun w:Int×List Int×List Int=>xj j q1 a6 bY s.bE (s.bE.length:Nat) s.b7 cz w.1 w.2.1 w.2.2) (fun (n:Nat) (_:Unit)=>((n:Int),bc n (iN s j 0),bc n (iN s j 1))) s.bE.length (fun _ _=>True) (fun _=>(bc s.bE.length (iN s j 0),bc s.bE.length (iN s j 1)))
  (fun n a4 _ _=>by
    refine ⟨(),?_,trivial⟩
    have U:=List.getElem?_eq_getElem a4
    obtain ⟨-,v2,v3,v4⟩:=K9 s i0 h n a4
    unfold xj
    refine dI (by simp only;omega) (bJ (by simp only;omega) (aS (x:=s.bE[n]) (by simp only;rw [Int.toNat_natCast];exact U) (aS (x:=lZ s n) v2 ?_)))
    simp only
    rw [fz (by omega),ll,ll]
    have g : ∀(F:Nat→Int) (v:Int),(bc n F++[v]).length*8≤140737488355328:=fun F v=>by simp only [List.length_append,c4,List.length_cons,List.length_nil];omega
    by_cases bs:j=s.bE[n].dp
    ·have e0 : ∀jt,iN s j jt n=if jt=0 then (lZ s n).1 else (lZ s n).2:=fun jt=>by unfold iN;rw [U];simp only [if_pos bs]
     refine gh (sN bs) (bJ (g _ _) (bJ (g _ _) ?_))
     rw [e0,e0];rfl
    ·refine iQ (vH bs) ?_
     by_cases cn:j=s.bE[n].dN
     ·have e0 : ∀jt,iN s j jt n = -(if jt=0 then (lZ s n).1 else (lZ s n).2):=fun jt=>by unfold iN;rw [U];simp only [if_neg bs,if_pos cn]
      refine gh (sN cn) (bJ (g _ _) (bJ (g _ _) ?_))
      rw [e0,e0,ct (by omega) (by omega),ct (by omega) (by omega)]
      simp
     ·have e0 : ∀jt,iN s j jt n=0:=fun jt=>by unfold iN;rw [U];simp only [if_neg bs,if_neg cn]
      refine iQ (vH cn) (bJ (g _ _) (bJ (g _ _) ?_))
      rw [e0,e0])
  (fun _ _=>by unfold xj;exact dY (by simp) rfl) () trivial
 exact e
theorem acE (s:cF)(i0:j1 s)(h:kl s=some true)(j:Int)(q1:List Int)(a6 bY:Int)(cz:List (List Int)):
 C8 s.b7 s.bE j q1 a6 bY (len_ bA s.bE) cz 0 (bc s.bE.length fun _=>(0:Int)) (bc s.bE.length fun _=>(0:Int))=some (bc s.bE.length (iN s j 0),bc s.bE.length (iN s j 1)):=by
 obtain ⟨-,-,f3,f4⟩:=ob s i0 h
 unfold C8
 rw [e8]
 obtain ⟨x,e,-⟩:=ie (f:=fun w:Int×List Int×List Int=>wz s.b7 s.bE j q1 a6 bY (s.bE.length:Nat) cz w.1 w.2.1 w.2.2) (fun (n:Nat) (_:Unit)=>((n:Int),(bc s.bE.length fun k=>if k<n then iN s j 0 k else 0),bc s.bE.length fun k=>if k<n then iN s j 1 k else 0)) s.bE.length (fun _ _=>True) (fun _=>(bc s.bE.length (iN s j 0),bc s.bE.length (iN s j 1)))
  (fun n a4 _ _=>by
    refine ⟨(),?_,trivial⟩
    have U:=List.getElem?_eq_getElem a4
    obtain ⟨v1,-,v3,v4⟩:=K9 s i0 h n a4
    have dH : ∀jt v,v=iN s j jt n→(bc s.bE.length fun k=>if k<n then iN s j jt k else 0).set n v=bc s.bE.length fun k=>if k<n+1 then iN s j jt k else 0:=fun jt v bk=>by
     rw [lm]
     refine fg fun k _=> ?_
     by_cases c:k=n
     ·subst c;rw [if_pos rfl,if_pos (by omega)];exact bk
     ·rw [if_neg c]
      by_cases cn:k<n
      ·rw [if_pos cn,if_pos (by omega)]
      ·rw [if_neg cn,if_neg (by omega)]
    have g1 : ∀F:Nat→Int,0≤((n:Nat):Int)∧((n:Nat):Int)<((bc s.bE.length F).length:Nat):=fun F=>by rw [c4];omega
    have g2 : ∀F:Nat→Int,0+((n:Nat):Int).toNat<(bc s.bE.length F).length:=fun F=>by rw [c4,Int.toNat_natCast];omega
    unfold wz
    refine dI (by simp only;omega) (bJ (by simp only;omega) (aS (x:=s.bE[n]) (by simp only;rw [Int.toNat_natCast];exact U) (aS (x:=lZ s n) v1 ?_)))
    simp only
    by_cases bs:j=s.bE[n].dp
    ·have e0 : ∀jt,iN s j jt n=if jt=0 then (lZ s n).1 else (lZ s n).2:=fun jt=>by unfold iN;rw [U];simp only [if_pos bs]
     refine gh (sN bs) (bJ (g1 _) (bJ (g2 _) (bJ (g1 _) (bJ (g2 _) ?_))))
     rw [fz (by omega),Int.toNat_natCast,Nat.zero_add,dH 0 _ (by rw [e0];rfl),dH 1 _ (by rw [e0];rfl)]
    ·refine iQ (vH bs) ?_
     by_cases cn:j=s.bE[n].dN
     ·have e0 : ∀jt,iN s j jt n = -(if jt=0 then (lZ s n).1 else (lZ s n).2):=fun jt=>by unfold iN;rw [U];simp only [if_neg bs,if_pos cn]
      refine gh (sN cn) (bJ (g1 _) (bJ (g2 _) (bJ (g1 _) (bJ (g2 _) ?_))))
      rw [fz (by omega),Int.toNat_natCast,Nat.zero_add,ct (by omega) (by omega),ct (by omega) (by omega),dH 0 _ (by rw [e0];simp),dH 1 _ (by rw [e0];simp)]
     ·have e0 : ∀jt,iN s j jt n=0:=fun jt=>by unfold iN;rw [U];simp only [if_neg bs,if_neg cn]
      refine iQ (vH cn) ?_
      rw [fz (by omega)]
      congr 4
      ·refine fg fun k _=> ?_
       by_cases c:k=n
       ·subst c;rw [if_neg (by omega),if_pos (by omega),e0]
       ·by_cases cn:k<n
        ·rw [if_pos cn,if_pos (by omega)]
        ·rw [if_neg cn,if_neg (by omega)]
      ·refine fg fun k _=> ?_
       by_cases c:k=n
       ·subst c;rw [if_neg (by omega),if_pos (by omega),e0]
       ·by_cases cn:k<n
        ·rw [if_pos cn,if_pos (by omega)]
        ·rw [if_neg cn,if_neg (by omega)])
  (fun _ _=>by
    unfold wz
    refine dY (by simp) ?_
    simp only
    congr 3
    ·exact fg fun k a9=>by rw [if_pos a9]
    ·exact fg fun k a9=>by rw [if_pos a9]) () trivial
 have z : ∀jt,(bc s.bE.length fun k=>if k<0 then iN s j jt k else 0)=bc s.bE.length fun _=>(0:Int):=fun jt=>fg fun k _=>by rw [if_neg (by omega)]
 rw [z,z] at e
 exact e
def hH (s:cF)(q:Nat):Nat:=(kY s.b7 0).getD q 0
def fD (s:cF):Nat:=(kY s.b7 0).length
def kI (s:cF)(r k:Nat):Int:=iN s (hH s (r / 2)) (r % 2) k
theorem A1 (s:cF):(kY s.b7 0).map (fun n:Nat=>(n:Int))=bc (fD s) fun q=>((hH s q:Nat):Int):=by
 apply List.ext_getElem?
 intro q
 rw [List.getElem?_map]
 by_cases c:q<fD s
 ·rw [gi c]
  have h:(kY s.b7 0)[q]? = some (kY s.b7 0)[q]:=List.getElem?_eq_getElem c
  unfold hH
  rw [List.getD_eq_getElem?_getD,h];rfl
 ·rw [List.getElem?_eq_none_iff.2 (by unfold fD at c;omega),List.getElem?_eq_none_iff.2 (by rw [c4];omega)];rfl
theorem RU (s:cF){q:Nat}(h:q<fD s):hH s q<s.b7.length:=by
 have h1:(kY s.b7 0)[q]? = some (kY s.b7 0)[q]:=List.getElem?_eq_getElem h
 have o:hH s q=(kY s.b7 0)[q]:=by unfold hH;rw [List.getD_eq_getElem?_getD,h1];rfl
 have:=K5 s.b7 0 _ (List.mem_of_getElem? h1)
 omega
theorem yP (s:cF):fD s≤s.b7.length:=QO s.b7 0
theorem Lk {α:Type}(r n:Nat)(e:Nat→Nat→α):(bc (r*n) fun x=>e (x / n) (x % n))++bc n (e r)=bc ((r+1)*n) fun x=>e (x / n) (x % n):=by
 rw [Nat.succ_mul,acC]
 congr 1
 refine fg fun j aG=> ?_
 have h1:(r*n+j) / n=r:=by rw [Nat.mul_comm,Nat.mul_add_div (by omega),Nat.div_eq_of_lt aG];rfl
 have o:(r*n+j) % n=j:=by rw [Nat.mul_comm,Nat.mul_add_mod,Nat.mod_eq_of_lt aG]
 rw [h1,o]
theorem aav (s:cF)(i0:j1 s)(h:kl s=some true):At s=some (bc (2*fD s*s.bE.length) fun x=>kI s (x / s.bE.length) (x % s.bE.length)):=by
 obtain ⟨-,-,f3,f4⟩:=ob s i0 h
 have tY:=yP s
 unfold At
 refine aS (KI s (by omega)) ?_
 rw [A1,f5,c4]
 unfold JQ
 obtain ⟨x,e,-⟩:=ie (f:=fun w:Int×List Int=>xk (bc (fD s) fun q=>((hH s q:Nat):Int)) ((fD s:Nat):Int) s.b7 s.bE w.1 w.2) (fun (n:Nat) (_:Unit)=>((n:Int),bc (2*n*s.bE.length) fun x=>kI s (x / s.bE.length) (x % s.bE.length))) (fD s) (fun _ _=>True) (fun _=>bc (2*fD s*s.bE.length) fun x=>kI s (x / s.bE.length) (x % s.bE.length))
  (fun n a4 _ _=>by
    refine ⟨(),?_,trivial⟩
    have aU:2*n*s.bE.length≤12*8:=Nat.mul_le_mul (by omega) f4
    unfold xk
    refine dI (by simp only;omega) (bJ (by rw [c4];simp only;omega) (aS (x:=((hH s n:Nat):Int)) (by simp only;rw [Int.toNat_natCast];exact gi a4) (aS (acD s i0 h _ _ _ _ _) ?_)))
    refine bJ (by simp only [List.length_append,c4];omega) (bJ (by simp only [List.length_append,c4];omega) ?_)
    simp only
    rw [fz (by omega)]
    have r1:bc s.bE.length (iN s (hH s n) 0)=bc s.bE.length (kI s (2*n)):=fg fun k _=>by
     unfold kI;rw [show 2*n / 2=n by omega,show 2*n % 2=0 by omega]
    have bT:bc s.bE.length (iN s (hH s n) 1)=bc s.bE.length (kI s (2*n+1)):=fg fun k _=>by
     unfold kI;rw [show (2*n+1) / 2=n by omega,show (2*n+1) % 2=1 by omega]
    rw [r1,bT,Lk (2*n),Lk (2*n+1),show 2*n+1+1=2*(n+1) by omega])
  (fun _ _=>by unfold xk;exact dY (by simp) rfl) () trivial
 have z:(bc (2*0*s.bE.length) fun x=>kI s (x / s.bE.length) (x % s.bE.length))=[]:=by simp [bc]
 rw [z] at e
 exact aS e rfl
theorem YR (s:cF)(i0:j1 s)(h:kl s=some true):zC s=some (bc (2*fD s) fun r=>bc s.bE.length (kI s r)):=by
 obtain ⟨-,-,f3,f4⟩:=ob s i0 h
 have tY:=yP s
 unfold zC
 refine aS (O3 s (by omega)) ?_
 rw [A1,f5,c4]
 unfold Gf
 obtain ⟨x,e,-⟩:=ie (f:=fun w:Int×List (List Int)=>wA s.b7 s.bE (bc (fD s) fun q=>((hH s q:Nat):Int)) ((fD s:Nat):Int) w.1 w.2) (fun (n:Nat) (_:Unit)=>((n:Int),bc (2*n) fun r=>bc s.bE.length (kI s r))) (fD s) (fun _ _=>True) (fun _=>bc (2*fD s) fun r=>bc s.bE.length (kI s r))
  (fun n a4 _ _=>by
    refine ⟨(),?_,trivial⟩
    unfold wA
    refine dI (by simp only;omega) (bJ (by rw [c4];simp only;omega) (aS (x:=((hH s n:Nat):Int)) (by simp only;rw [Int.toNat_natCast];exact gi a4) (bJ (by rw [e8];omega) ?_)))
    refine aS (x:=(bc s.bE.length (iN s (hH s n) 0),bc s.bE.length (iN s (hH s n) 1))) (by rw [show (len_ bA s.bE).toNat=s.bE.length by rw [e8,Int.toNat_natCast],qR];exact acE s i0 h _ _ _ _ _) (bJ (by simp only [List.length_append,c4,List.length_cons,List.length_nil];omega) ?_)
    simp only
    rw [fz (by omega),show 2*(n+1)=2*n+1+1 by omega,ll (2*n+1),ll (2*n)]
    have r1:bc s.bE.length (iN s (hH s n) 0)=bc s.bE.length (kI s (2*n)):=fg fun k _=>by
     unfold kI;rw [show 2*n / 2=n by omega,show 2*n % 2=0 by omega]
    have bT:bc s.bE.length (iN s (hH s n) 1)=bc s.bE.length (kI s (2*n+1)):=fg fun k _=>by
     unfold kI;rw [show (2*n+1) / 2=n by omega,show (2*n+1) % 2=1 by omega]
    rw [r1,bT];simp)
  (fun _ _=>by unfold wA;exact dY (by simp) rfl) () trivial
 exact aS e rfl
def gB (s:cF):List eG:=lK s.bE s.bE.length
def dC (s:cF):Nat:=(gB s).length
def mQ (s:cF)(c:Nat):Nat:=((gB s).getD c ⟨0,0⟩).mT.toNat
def p4 (s:cF)(c:Nat):Int:=((gB s).getD c ⟨0,0⟩).qm
def kW (s:cF)(i c:Nat):Int:=p4 s c*kI s i (mQ s c)
def mx (s:cF)(l:List Int)(i:Nat):Int:= -(l.getD (2*hH s (i / 2)+i % 2) 0)
theorem Bo (s:cF){c:Nat}(bh:c<dC s):(gB s)[c]? = some ⟨(mQ s c:Int),p4 s c⟩∧mQ s c<s.bE.length∧(p4 s c=1∨p4 s c = -1):=by
 have h1:(gB s)[c]? = some (gB s)[c]:=List.getElem?_eq_getElem bh
 have o:(gB s).getD c ⟨0,0⟩=(gB s)[c]:=by rw [List.getD_eq_getElem?_getD,h1];rfl
 obtain ⟨k,e1,aE,bP⟩:=QS (Nat.le_refl _) (List.mem_of_getElem? h1)
 have c3:mQ s c=k:=by unfold mQ;rw [o,e1];rfl
 have dg:p4 s c=((gB s)[c]).qm:=by unfold p4;rw [o]
 refine ⟨?_,by omega,by rw [dg];exact bP⟩
 rw [h1,c3,dg,← e1]
theorem LN (s:cF):dC s≤2*s.bE.length:=Em _ _
theorem acF (s:cF):(gB s).map eG.mT=bc (dC s) fun c=>((mQ s c:Nat):Int):=by
 apply List.ext_getElem?
 intro c
 rw [List.getElem?_map]
 by_cases h:c<dC s
 ·rw [(Bo s h).1,gi h];rfl
 ·rw [List.getElem?_eq_none_iff.2 (by unfold dC at h;omega),List.getElem?_eq_none_iff.2 (by rw [c4];omega)];rfl
theorem acG (s:cF):(gB s).map eG.qm=bc (dC s) (p4 s):=by
 apply List.ext_getElem?
 intro c
 rw [List.getElem?_map]
 by_cases h:c<dC s
 ·rw [(Bo s h).1,gi h];rfl
 ·rw [List.getElem?_eq_none_iff.2 (by unfold dC at h;omega),List.getElem?_eq_none_iff.2 (by rw [c4];omega)];rfl
theorem LO (s:cF)(i0:j1 s)(h:kl s=some true)(i:Nat){c:Nat}(bh:c<dC s): -100≤kW s i c∧kW s i c≤100:=by
 have h1:=ac9 s i0 h (hH s (i / 2)) (i % 2) (mQ s c)
 unfold kW kI
 rcases (Bo s bh).2.2 with e|e<;>rw [e]<;>omega
theorem ab8 (s:cF)(i0:j1 s)(h:kl s=some true)(l:List Int)(aV:l.length=2*s.b7.length)(aU:∀x∈l,-100≤x∧x≤100):Ac s l=some (bc (2*fD s) (mx s l)):=by
 obtain ⟨-,-,f3,f4⟩:=ob s i0 h
 have tY:=yP s
 unfold Ac
 refine aS (KI s (by omega)) ?_
 rw [A1,f5,c4]
 unfold JA
 obtain ⟨x,e,-⟩:=ie (f:=fun w:Int×List Int=>xb l (bc (fD s) fun q=>((hH s q:Nat):Int)) ((fD s:Nat):Int) w.1 w.2) (fun (n:Nat) (_:Unit)=>((n:Int),bc (2*n) (mx s l))) (fD s) (fun _ _=>True) (fun _=>bc (2*fD s) (mx s l))
  (fun n a4 _ _=>by
    refine ⟨(),?_,trivial⟩
    have ck:=RU s a4
    have n8:R ((2:Int)*((hH s n:Nat):Int))=((2*hH s n:Nat):Int):=by rw [ct (by omega) (by omega)];omega
    have qE:R (((2*hH s n:Nat):Int)+1)=((2*hH s n+1:Nat):Int):=fz (by omega)
    have x1:=aU l[2*hH s n] (List.getElem_mem (by omega))
    have eb:=aU l[2*hH s n+1] (List.getElem_mem (by omega))
    have p1:mx s l (2*n) = -l[2*hH s n]:=by
     unfold mx
     rw [show 2*n / 2=n by omega,show 2*n % 2=0 by omega,Nat.add_zero,List.getD_eq_getElem?_getD,List.getElem?_eq_getElem (by omega)];rfl
    have hz:mx s l (2*n+1) = -l[2*hH s n+1]:=by
     unfold mx
     rw [show (2*n+1) / 2=n by omega,show (2*n+1) % 2=1 by omega,List.getD_eq_getElem?_getD,List.getElem?_eq_getElem (by omega)];rfl
    unfold xb
    refine dI (by simp only;omega) (bJ (by rw [c4];simp only;omega) (aS (x:=((hH s n:Nat):Int)) (by simp only;rw [Int.toNat_natCast];exact gi a4) ?_))
    rw [n8,qE]
    refine bJ (by omega) (aS (x:=l[2*hH s n]) (by rw [Int.toNat_natCast];exact List.getElem?_eq_getElem (by omega)) (bJ (by omega) (aS (x:=l[2*hH s n+1]) (by rw [Int.toNat_natCast];exact List.getElem?_eq_getElem (by omega)) (bJ (by simp only [List.length_append,c4,List.length_cons,List.length_nil];omega) ?_))))
    simp only
    rw [fz (by omega),ct (by omega) (by omega),ct (by omega) (by omega),show 2*(n+1)=2*n+1+1 by omega,ll (2*n+1),ll (2*n),p1,hz]
    simp)
  (fun _ _=>by unfold xb;exact dY (by simp) rfl) () trivial
 exact aS e rfl
def Ns (s:cF)(l:List Int):hK:=⟨((2*fD s:Nat):Int),(dC s:Int),bc (2*fD s*dC s) (fun x=>kW s (x / dC s) (x % dC s)),bc (2*fD s) (mx s l),bc (dC s) fun _=>0⟩
theorem ada (s:cF)(i0:j1 s)(h:kl s=some true)(l:List Int)(aU:∀x∈l,-100≤x∧x≤100):mr (Ns s l) (2*fD s) (dC s) (kW s) (mx s l) where
 rows:=rfl
 gB:=rfl
 gD:=c4 ..
 Mb:=fun i aj j aG=>by
  have h1:i*dC s+j<2*fD s*dC s:=by
   have:(i+1)*dC s≤2*fD s*dC s:=Nat.mul_le_mul_right _ aj
   rw [Nat.succ_mul] at this;omega
  show (bc _ _)[_]? = _
  rw [gi h1]
  have o:(i*dC s+j) / dC s=i:=by rw [Nat.mul_comm,Nat.mul_add_div (by omega),Nat.div_eq_of_lt aG];rfl
  have af:(i*dC s+j) % dC s=j:=by rw [Nat.mul_comm,Nat.mul_add_mod,Nat.mod_eq_of_lt aG]
  rw [o,af]
 wo:=c4 ..
 yV:=fun i aj=>gi aj
 hm:=by
  obtain ⟨-,-,f3,f4⟩:=ob s i0 h
  have:=yP s;omega
 a4:=by
  obtain ⟨-,-,f3,f4⟩:=ob s i0 h
  have:=LN s;omega
 s6:=fun i _ j aG=>LO s i0 h i aG
 wm:=fun i _=>by
  unfold mx
  rw [List.getD_eq_getElem?_getD]
  cases c:l[2*hH s (i / 2)+i % 2]? with
  | none=>simp
  | some x =>
   have:=aU x (List.mem_of_getElem? c)
   simp only [Option.getD_some];omega
theorem Y8 (s:cF)(i0:j1 s)(h:kl s=some true)(l:List Int)(aV:l.length=2*s.b7.length)(aU:∀x∈l,-100≤x∧x≤100):uC s l=some (Ns s l):=by
 obtain ⟨-,-,f3,f4⟩:=ob s i0 h
 have tY:=yP s
 have C1:=LN s
 unfold uC
 refine aS (Y7 s (by omega)) (aS (aav s i0 h) (aS (KI s (by omega)) (aS (ab8 s i0 h l aV aU) ?_)))
 show (if 0≤len_ eI ((gB s).map eG.mT)∧_ then _ else none)=_
 rw [A1]
 show (if 0≤len_ eI ((gB s).map eG.mT)∧(8:Int)*len_ eI ((gB s).map eG.mT)≤281474976710656∧len_ eI ((gB s).map eG.mT)<9223372036854775808 then
  Dq ((gB s).map eG.mT) ((gB s).map eG.qm) (len_ bA s.bE) _ (R ((2:Int)*len_ eI (bc (fD s) fun q=>((hH s q:Nat):Int)))) (len_ eI ((gB s).map eG.mT)) (bc (2*fD s) (mx s l)) (List.replicate (len_ eI ((gB s).map eG.mT)).toNat 0) 0 [] >>= fun et=>some (⟨R ((2:Int)*len_ eI (bc (fD s) fun q=>((hH s q:Nat):Int))),len_ eI ((gB s).map eG.mT),et,bc (2*fD s) (mx s l),List.replicate (len_ eI ((gB s).map eG.mT)).toNat 0⟩:hK) else none)=_
 rw [acF,acG,f5,c4,f5,c4,Int.toNat_natCast,e8,show R ((2:Int)*(fD s:Nat))=((2*fD s:Nat):Int) by rw [ct (by omega) (by omega)];omega,qR]
 refine bJ (by omega) (aS (x:=bc (2*fD s*dC s) (fun x=>kW s (x / dC s) (x % dC s))) ?_ rfl)
 unfold Dq
 obtain ⟨x,e,-⟩:=ie (f:=fun w:Int×List Int=>wY (bc (dC s) fun c=>((mQ s c:Nat):Int)) (bc (dC s) (p4 s)) (s.bE.length:Nat) (bc (2*fD s*s.bE.length) fun x=>kI s (x / s.bE.length) (x % s.bE.length)) ((2*fD s:Nat):Int) ((dC s:Nat):Int) (bc (2*fD s) (mx s l)) (bc (dC s) fun _=>0) w.1 w.2) (fun (i:Nat) (_:Unit)=>((i:Int),bc (i*dC s) (fun x=>kW s (x / dC s) (x % dC s)))) (2*fD s) (fun _ _=>True) (fun _=>bc (2*fD s*dC s) (fun x=>kW s (x / dC s) (x % dC s)))
  (fun i aj _ _=>by
    refine ⟨(),?_,trivial⟩
    have Td:i*dC s≤12*16:=Nat.mul_le_mul (by omega) (by omega)
    have l4:i*s.bE.length≤12*8:=Nat.mul_le_mul (by omega) f4
    obtain ⟨y,aE,-⟩:=ie (f:=fun w:Int×List Int=>wX (bc (dC s) fun c=>((mQ s c:Nat):Int)) (bc (dC s) (p4 s)) (s.bE.length:Nat) (bc (2*fD s*s.bE.length) fun x=>kI s (x / s.bE.length) (x % s.bE.length)) (i:Int) ((dC s:Nat):Int) ((2*fD s:Nat):Int) ((dC s:Nat):Int) (bc (2*fD s) (mx s l)) (bc (dC s) fun _=>0) w.1 w.2)
     (fun (c:Nat) (_:Unit)=>((c:Int),(bc (i*dC s) fun x=>kW s (x / dC s) (x % dC s))++bc c (kW s i))) (dC s) (fun _ _=>True) (fun _=>(bc (i*dC s) fun x=>kW s (x / dC s) (x % dC s))++bc (dC s) (kW s i))
     (fun c bh _ _=>by
       refine ⟨(),?_,trivial⟩
       obtain ⟨-,kx,oG⟩:=Bo s bh
       have pq:(i+1)*s.bE.length≤2*fD s*s.bE.length:=Nat.mul_le_mul_right _ aj
       rw [Nat.succ_mul] at pq
       have jS:R (R ((i:Int)*((s.bE.length:Nat):Int))+((mQ s c:Nat):Int))=((i*s.bE.length+mQ s c:Nat):Int):=by
        rw [← Int.natCast_mul,ct (x:=((i*s.bE.length:Nat):Int)) (by omega) (by omega),ct (by omega) (by omega)];omega
       have o:(i*s.bE.length+mQ s c) / s.bE.length=i:=by rw [Nat.mul_comm,Nat.mul_add_div (by omega),Nat.div_eq_of_lt kx];rfl
       have af:(i*s.bE.length+mQ s c) % s.bE.length=mQ s c:=by rw [Nat.mul_comm,Nat.mul_add_mod,Nat.mod_eq_of_lt kx]
       have afu:=LO s i0 h i bh
       unfold wX
       refine dI (by simp only;omega) (bJ (by rw [c4];simp only;omega) (aS (x:=((mQ s c:Nat):Int)) (by simp only;rw [Int.toNat_natCast];exact gi bh) (bJ (by rw [c4];simp only;omega) (aS (x:=p4 s c) (by simp only;rw [Int.toNat_natCast];exact gi bh) ?_))))
       rw [jS]
       refine bJ (by rw [c4];omega) (aS (x:=kI s i (mQ s c)) (by rw [Int.toNat_natCast,gi (by omega),o,af]) (bJ (by simp only [List.length_append,c4,List.length_cons,List.length_nil];omega) ?_))
       simp only
       rw [fz (by omega),ll,show p4 s c*kI s i (mQ s c)=kW s i c from rfl,ct (by omega) (by omega),List.append_assoc])
     (fun _ _=>by unfold wX;exact dY (by simp) rfl) () trivial
    have z:(bc (i*dC s) fun x=>kW s (x / dC s) (x % dC s))++bc 0 (kW s i)=bc (i*dC s) fun x=>kW s (x / dC s) (x % dC s):=by simp [bc]
    rw [z] at aE
    unfold wY
    refine dI (by simp only;omega) (aS (x:=(bc (i*dC s) fun x=>kW s (x / dC s) (x % dC s))++bc (dC s) (kW s i)) (by unfold IX;rw [f5,c4];exact aE) ?_)
    simp only
    rw [fz (by omega),Lk])
  (fun _ _=>by unfold wY;exact dY (by simp) rfl) () trivial
 have z:(bc (0*dC s) fun x=>kW s (x / dC s) (x % dC s))=[]:=by simp [bc]
 rw [z] at e
 exact e
def upto (n:Nat)(f:Nat→Int)(k:Nat):List Int:=bc n fun x=>if x<k then f x else 0
theorem La {n k:Nat}{f:Nat→Int}(a9:k<n){v:Int}(bk:v=f k):(upto n f k).set k v=upto n f (k+1):=by
 unfold upto
 rw [lm]
 refine fg fun j _=> ?_
 by_cases c:j=k
 ·subst c;rw [if_pos rfl,if_pos (by omega)];exact bk
 ·rw [if_neg c]
  by_cases cn:j<k
  ·rw [if_pos cn,if_pos (by omega)]
  ·rw [if_neg cn,if_neg (by omega)]
theorem Qk (n:Nat)(f:Nat→Int):upto n f 0=bc n fun _=>0:=fg fun j _=>by rw [if_neg (by omega)]
theorem QT (n:Nat)(f:Nat→Int):upto n f n=bc n f:=fg fun j aG=>by rw [if_pos aG]
theorem yq (n:Nat)(f:Nat→Int)(k:Nat):(upto n f k).length=n:=c4 ..
theorem Yz (s:cF)(i0:j1 s)(h:kl s=some true)(l:List Int)(aV:l.length=2*s.b7.length)(aU:∀x∈l,-100≤x∧x≤100):zB s l 0 0=some (Ns s l):=by
 obtain ⟨-,-,f3,f4⟩:=ob s i0 h
 have tY:=yP s
 have C1:=LN s
 have ahI:2*fD s*dC s≤12*16:=Nat.mul_le_mul (by omega) (by omega)
 unfold zB
 refine aS (YR s i0 h) (aS (x:=gB s) (aau s (by omega)) ?_)
 have jS:R ((len_ (eA 1 eI) (bc (2*fD s) fun r=>bc s.bE.length (kI s r)))+0)=((2*fD s:Nat):Int):=by rw [e8,c4,ct (by omega) (by omega)];omega
 have n8:R ((len_ gy (gB s))+0)=((dC s:Nat):Int):=by
  rw [e8];show R (((dC s:Nat):Int)+0)=_
  rw [ct (by omega) (by omega)];omega
 have qE:R (((2*fD s:Nat):Int)*((dC s:Nat):Int))=((2*fD s*dC s:Nat):Int):=by rw [← Int.natCast_mul,ct (by omega) (by omega)]
 rw [jS,n8,qE,Int.toNat_natCast,Int.toNat_natCast,Int.toNat_natCast,qR,qR,qR,e8,c4]
 refine bJ (by omega) (bJ (by omega) (bJ (by omega) ?_))
 refine aS (x:=bc (2*fD s*dC s) (fun x=>kW s (x / dC s) (x % dC s))) ?_ ?_
 ·unfold Gb
  obtain ⟨x,e,-⟩:=ie (f:=fun w:Int×List Int=>wx s.b7 s.bE l (gB s) (bc (2*fD s) fun r=>bc s.bE.length (kI s r)) ((2*fD s:Nat):Int) ((2*fD s:Nat):Int) ((dC s:Nat):Int) (bc (2*fD s) fun _=>0) (bc (dC s) fun _=>0) w.1 w.2) (fun (i:Nat) (_:Unit)=>((i:Int),upto (2*fD s*dC s) (fun x=>kW s (x / dC s) (x % dC s)) (i*dC s))) (2*fD s) (fun _ _=>True) (fun _=>bc (2*fD s*dC s) (fun x=>kW s (x / dC s) (x % dC s)))
   (fun i aj _ _=>by
     refine ⟨(),?_,trivial⟩
     have Cn:(i+1)*dC s≤2*fD s*dC s:=Nat.mul_le_mul_right _ aj
     rw [Nat.succ_mul] at Cn
     obtain ⟨y,aE,-⟩:=ie (f:=fun w:Int×List Int=>wv s.b7 s.bE l (gB s) (i:Int) (bc s.bE.length (kI s i)) (bc (2*fD s) fun r=>bc s.bE.length (kI s r)) ((2*fD s:Nat):Int) ((dC s:Nat):Int) ((2*fD s:Nat):Int) ((dC s:Nat):Int) (bc (2*fD s) fun _=>0) (bc (dC s) fun _=>0) w.1 w.2) (fun (c:Nat) (_:Unit)=>((c:Int),upto (2*fD s*dC s) (fun x=>kW s (x / dC s) (x % dC s)) (i*dC s+c))) (dC s) (fun _ _=>True) (fun _=>upto (2*fD s*dC s) (fun x=>kW s (x / dC s) (x % dC s)) (i*dC s+dC s))
      (fun c bh _ _=>by
        refine ⟨(),?_,trivial⟩
        obtain ⟨lh,kx,oG⟩:=Bo s bh
        have afu:=LO s i0 h i bh
        have afX:R (R ((i:Int)*((dC s:Nat):Int))+((c:Nat):Int))=((i*dC s+c:Nat):Int):=by
         rw [← Int.natCast_mul,ct (x:=((i*dC s:Nat):Int)) (by omega) (by omega),ct (by omega) (by omega)];omega
        have o:(i*dC s+c) / dC s=i:=by rw [Nat.mul_comm,Nat.mul_add_div (by omega),Nat.div_eq_of_lt bh];rfl
        have af:(i*dC s+c) % dC s=c:=by rw [Nat.mul_comm,Nat.mul_add_mod,Nat.mod_eq_of_lt bh]
        unfold wv
        refine dI (by simp only;omega) (bJ (by show _∧((c:Nat):Int)<((dC s:Nat):Int);simp only;omega) (aS (x:=⟨(mQ s c:Int),p4 s c⟩) (by simp only;rw [Int.toNat_natCast];exact lh) (bJ (by rw [c4];simp only;omega) (aS (x:=kI s i (mQ s c)) (by simp only;rw [Int.toNat_natCast];exact gi kx) ?_))))
        simp only
        rw [afX]
        refine bJ (by rw [yq];omega) (bJ (by rw [yq,Int.toNat_natCast];omega) ?_)
        rw [fz (by omega),Int.toNat_natCast,Nat.zero_add,show p4 s c*kI s i (mQ s c)=kW s i c from rfl,ct (by omega) (by omega),La (by omega) (by rw [o,af]),Nat.add_assoc])
      (fun _ _=>by unfold wv;exact dY (by simp) rfl) () trivial
     unfold wx
     refine dI (by simp only;omega) (bJ (by rw [c4];simp only;omega) (aS (x:=bc s.bE.length (kI s i)) (by simp only;rw [Int.toNat_natCast];exact gi aj) (aS (x:=upto (2*fD s*dC s) (fun x=>kW s (x / dC s) (x % dC s)) (i*dC s+dC s)) (by unfold Ga;rw [e8];exact aE) ?_)))
     simp only
     rw [fz (by omega),Nat.succ_mul i (dC s)])
   (fun _ _=>by
     unfold wx
     refine dY (by simp) ?_
     simp only
     rw [QT]) () trivial
  rw [Nat.zero_mul,Qk] at e
  exact e
 refine aS (O3 s (by omega)) ?_
 rw [A1,f5,c4]
 refine aS (x:=bc (2*fD s) (mx s l)) ?_ rfl
 unfold Gc
 obtain ⟨x,e,-⟩:=ie (f:=fun w:Int×List Int=>wy l (bc (fD s) fun q=>((hH s q:Nat):Int)) ((fD s:Nat):Int) ((2*fD s:Nat):Int) ((dC s:Nat):Int) (bc (2*fD s*dC s) (fun x=>kW s (x / dC s) (x % dC s))) (bc (dC s) fun _=>0) w.1 w.2) (fun (n:Nat) (_:Unit)=>((n:Int),upto (2*fD s) (mx s l) (2*n))) (fD s) (fun _ _=>True) (fun _=>bc (2*fD s) (mx s l))
  (fun n a4 _ _=>by
    refine ⟨(),?_,trivial⟩
    have ck:=RU s a4
    have n8 : ∀a:Nat,a≤1000→R ((2:Int)*((a:Nat):Int))=((2*a:Nat):Int):=fun a bH=>by rw [ct (by omega) (by omega)];omega
    have x1:=aU l[2*hH s n] (List.getElem_mem (by omega))
    have eb:=aU l[2*hH s n+1] (List.getElem_mem (by omega))
    have p1:mx s l (2*n) = -l[2*hH s n]:=by
     unfold mx
     rw [show 2*n / 2=n by omega,show 2*n % 2=0 by omega,Nat.add_zero,List.getD_eq_getElem?_getD,List.getElem?_eq_getElem (by omega)];rfl
    have hz:mx s l (2*n+1) = -l[2*hH s n+1]:=by
     unfold mx
     rw [show (2*n+1) / 2=n by omega,show (2*n+1) % 2=1 by omega,List.getD_eq_getElem?_getD,List.getElem?_eq_getElem (by omega)];rfl
    unfold wy
    refine dI (by simp only;omega) (bJ (by rw [c4];simp only;omega) (aS (x:=((hH s n:Nat):Int)) (by simp only;rw [Int.toNat_natCast];exact gi a4) ?_))
    simp only
    rw [n8 (hH s n) (by omega),n8 n (by omega),fz (n:=2*hH s n) (by omega),fz (n:=2*n) (by omega)]
    refine bJ (by omega) (aS (x:=l[2*hH s n]) (by rw [Int.toNat_natCast];exact List.getElem?_eq_getElem (by omega)) (bJ (by omega) (aS (x:=l[2*hH s n+1]) (by rw [Int.toNat_natCast];exact List.getElem?_eq_getElem (by omega)) ?_)))
    refine bJ (by rw [yq];omega) (bJ (by rw [yq,Int.toNat_natCast];omega) (bJ (by rw [yq];omega) (bJ (by rw [List.length_set,yq,Int.toNat_natCast];omega) ?_)))
    rw [fz (by omega),ct (x:=0-l[2*hH s n]) (by omega) (by omega),ct (x:=0-l[2*hH s n+1]) (by omega) (by omega),Int.toNat_natCast,Int.toNat_natCast,Nat.zero_add,Nat.zero_add,La (by omega) (by rw [p1];omega),La (by omega) (by rw [hz];omega),show 2*(n+1)=2*n+1+1 by omega])
  (fun _ _=>by
    unfold wy
    refine dY (by simp) ?_
    simp only
    rw [QT]) () trivial
 rw [Nat.mul_zero,Qk] at e
 exact e
theorem Zv (s:cF)(i0:j1 s)(h:kl s=some true)(l:List Int)(aV:l.length=2*s.b7.length)(aU:∀x∈l,-100≤x∧x≤100):
 ∃r,(uC s l >>= fun p=>uA p)=some r∧ui s l=some r:=by
 have ak:=ada s i0 h l aU
 obtain ⟨r,e1,aE⟩:=YQ ak (c4 ..) (fun x U=>by
  obtain ⟨i,-,rfl⟩:=Lf.1 U
  omega)
 obtain ⟨q,q1,a6⟩:=ab7 ak
 refine ⟨r,aS (Y8 s i0 h l aV aU) e1,?_⟩
 unfold ui
 refine aS (Yz s i0 h l aV aU) (aS q1 ?_)
 rcases a6 with ⟨b6,t,bO,g,fl,rfl,-⟩|⟨b6,rfl⟩
 ·rw [aE.2 b6]
 ·have:r=false:=by
   cases r
   ·rfl
   ·exact (b6 (aE.1 rfl)).elim
  rw [this]
theorem YS (hd:List bq)(n:Int)(eg afv:List bC):rz hd n afv 0=rz hd n eg 0:=by
 unfold rz
 congr 1
theorem YA (s:cF)(i0:j1 s)(h:kl s=some true)(eg:List bC)(b6:∀m∈eg,m∈s.bE)(aV:eg.length≤s.bE.length):kl ⟨s.b7,eg⟩=some true:=by
 obtain ⟨-,f2,f3,f4⟩:=ob s i0 h
 obtain ⟨r,aq⟩:=Jx s i0
 have d1:decide ((6:Int)<len_ bu s.b7)=false:=by rw [e8];exact decide_eq_false (by omega)
 have d2:decide ((8:Int)<len_ bA s.bE)=false:=by rw [e8];exact decide_eq_false (by omega)
 have tU:decide ((8:Int)<len_ bA eg)=false:=by rw [e8];exact decide_eq_false (by omega)
 have sT:r = .inl ():=by
  cases r with
  | inl a=>rfl
  | inr a =>
   unfold kl at h
   rw [d1,d2,aq] at h
   simp at h
 subst sT
 have qo : ∀m∈eg,qP s.b7 m=true:=fun m hm=>by
  obtain ⟨n,a4⟩:=List.getElem?_of_mem (b6 m hm)
  exact f2 n m a4
 have bd:uc eg s.b7 eg (len_ bA eg) 0=some (.inl ()):=by
  unfold uc
  rw [e8]
  obtain ⟨x,e,-⟩:=ie (f:=fun w:Int=>oa eg s.b7 eg (eg.length:Nat) w) (fun (i:Nat) (_:Unit)=>(i:Int)) eg.length (fun _ _=>True) (fun _=>(Sum.inl ():Unit⊕Int))
   (fun i aj _ _=>by
     refine ⟨(),?_,trivial⟩
     have U:=List.getElem?_eq_getElem aj
     have aU:=qo eg[i] (List.getElem_mem aj)
     unfold oa uw
     refine dI (by omega) (bJ (by omega) (aS (x:=eg[i]) (by rw [Int.toNat_natCast];exact U) (aS (x:=false) (aS (D1 _ _) (by simp [aU])) (iQ rfl (by rw [fz (by omega)])))))
     )
   (fun _ _=>by unfold oa;exact dY (by omega) rfl) () trivial
  exact e
 have M0:Dl (R (len_ bu s.b7-1)) eg (len_ bA eg) s.b7 0=some (Sum.map id (fun _=>()) (Sum.inl ():Unit⊕Int)) :=
  Qz (f:=fun w=>oa eg s.b7 eg (len_ bA eg) w) (Sum.map id fun _=>()) (fun _=>True) (fun _ _ _ _=>trivial)
   (fun i _=>OW s.b7 eg (by omega) (by omega) i) 0 _ bd trivial
 unfold kl
 simp only [d1,tU,Bool.false_eq_true,if_false]
 rw [YS s.b7 _ s.bE eg,aq]
 exact aS rfl (aS M0 rfl)
def nD (eg:List bC)(list:List Int):Nat→List bC
 | 0=>[]
 | n+1=>nD eg list n++(match eg[n]? with
  | some x=>if (n:Int)∈list then [] else [x]
  | none=>[])
theorem Bb (eg:List bC)(list:List Int): ∀n,(nD eg list n).length≤n
 | 0=>by simp [nD]
 | n+1=>by
  have:=Bb eg list n
  rw [nD,List.length_append]
  have o:(match eg[n]? with
   | some x=>if (n:Int)∈list then [] else [x]
   | none=>[]).length≤1:=by
   split
   ·split<;>simp
   ·simp
  omega
theorem Ll {eg:List bC}{list:List Int}: ∀ {n:Nat} {m:bC},m∈nD eg list n→m∈eg
 | 0,m,h=>by simp [nD] at h
 | n+1,m,h=>by
  rw [nD,List.mem_append] at h
  rcases h with h|h
  ·exact Ll h
  ·split at h
   ·rename_i x U
    split at h
    ·simp at h
    ·simp at h;subst h;exact List.mem_of_getElem? U
   ·simp at h
def sW (s:cF)(list:List Int):cF:=⟨s.b7,nD s.bE list s.bE.length⟩
theorem SB {n:Nat}(h:n<1000000000000):R ((n:Int)+1)=((n+1:Nat):Int):=by
 rw [ct (by omega) (by omega)];omega
theorem adb (list:List Int)(aV:list.length≤1048576)(k:Int):AD list k=some (decide (k∈list)):=by
 unfold AD J1
 rw [f5]
 obtain ⟨r,e,h⟩:=qM (f:=fun w:Int=>xx k list (list.length:Nat) w) (fun (i:Nat) (_:Unit)=>(i:Int)) list.length (fun i _=> ∀j,j<i→list[j]? ≠ some k) (fun r=>(r = .inr ()∧k∈list)∨(r = .inl ()∧k ∉ list))
  (fun i aj _ cN=>by
    have U:=List.getElem?_eq_getElem aj
    unfold xx
    by_cases c:list[i]=k
    ·right
     exact ⟨_,dI (by omega) (bJ (by omega) (aS (x:=list[i]) (by rw [Int.toNat_natCast];exact U) (gh (sN c) rfl))),.inl ⟨rfl,c▸List.getElem_mem aj⟩⟩
    ·left
     refine ⟨(),dI (by omega) (bJ (by omega) (aS (x:=list[i]) (by rw [Int.toNat_natCast];exact U) (iQ (vH c) (by rw [SB (by omega)])))),fun j aG=> ?_⟩
     by_cases e:j=i
     ·rw [e,U];exact fun h=>c (Option.some.inj h)
     ·exact cN j (by omega))
  (fun _ cN=>⟨_,by unfold xx;exact dY (by omega) rfl,.inr ⟨rfl,fun a9=>by
    obtain ⟨j,aG,e⟩:=List.getElem_of_mem a9
    exact cN j aG (by rw [List.getElem?_eq_getElem aG,e])⟩⟩) () (fun j aG=>by omega)
 rcases h with ⟨rfl,h⟩|⟨rfl,h⟩
 ·exact aS e (by rw [decide_eq_true h])
 ·exact aS e (by rw [decide_eq_false h])
theorem ZR (list:List Int)(aV:list.length≤1048576)(k:Int):sf list k=some (decide (k∈list)):=by
 unfold sf A7 D4
 rw [f5]
 obtain ⟨r,e,h⟩:=qM (f:=fun w:Int=>r7 list k (list.length:Nat) w) (fun (i:Nat) (_:Unit)=>(i:Int)) list.length (fun i _=> ∀j,j<i→list[j]? ≠ some k) (fun r=>(∃i:Nat,r = .inr (i:Int)∧k∈list)∨(r = .inl ()∧k ∉ list))
  (fun i aj _ cN=>by
    have U:=List.getElem?_eq_getElem aj
    unfold r7
    by_cases c:list[i]=k
    ·right
     exact ⟨_,dI (by omega) (bJ (by omega) (aS (x:=list[i]) (by rw [Int.toNat_natCast];exact U) (gh (sN c.symm) rfl))),.inl ⟨i,rfl,c▸List.getElem_mem aj⟩⟩
    ·left
     refine ⟨(),dI (by omega) (bJ (by omega) (aS (x:=list[i]) (by rw [Int.toNat_natCast];exact U) (iQ (vH (Ne.symm c)) (by rw [SB (by omega)])))),fun j aG=> ?_⟩
     by_cases e:j=i
     ·rw [e,U];exact fun h=>c (Option.some.inj h)
     ·exact cN j (by omega))
  (fun _ cN=>⟨_,by unfold r7;exact dY (by omega) rfl,.inr ⟨rfl,fun a9=>by
    obtain ⟨j,aG,e⟩:=List.getElem_of_mem a9
    exact cN j aG (by rw [List.getElem?_eq_getElem aG,e])⟩⟩) () (fun j aG=>by omega)
 rcases h with ⟨i,rfl,h⟩|⟨rfl,h⟩
 ·exact aS (x:=(i:Int)) (aS e rfl) (by rw [decide_eq_true h];simp)
 ·exact aS (x:=(-1:Int)) (aS e rfl) (by rw [decide_eq_false h];rfl)
theorem ZS (s:cF)(aG:s.b7.length≤1000)(hm:s.bE.length≤1000)(list:List Int)(aV:list.length≤1048576):xy s list=some (sW s list):=by
 unfold xy Hf
 rw [e8,List.nil_append]
 obtain ⟨x,e,-⟩:=ie (f:=fun w:Int×List bC=>wM list s.bE (s.bE.length:Nat) s.b7 w.1 w.2) (fun (i:Nat) (_:Unit)=>((i:Int),nD s.bE list i)) s.bE.length (fun _ _=>True) (fun _=>nD s.bE list s.bE.length)
  (fun i aj _ _=>by
    refine ⟨(),?_,trivial⟩
    have U:=List.getElem?_eq_getElem aj
    have hw:=Bb s.bE list i
    have e1:nD s.bE list (i+1)=nD s.bE list i++(if (i:Int)∈list then [] else [s.bE[i]]):=by rw [nD,U]
    unfold wM
    refine dI (by simp only;omega) (bJ (by simp only;omega) (aS (x:=s.bE[i]) (by simp only;rw [Int.toNat_natCast];exact U) (aS (adb list aV _) ?_)))
    simp only
    rw [fz (by omega),e1]
    by_cases c:(i:Int)∈list
    ·rw [if_pos c]
     exact gh (decide_eq_true c) (by rw [List.append_nil])
    ·rw [if_neg c]
     exact iQ (decide_eq_false c) (bJ (by simp only [List.length_append,List.length_cons,List.length_nil];omega) rfl))
  (fun _ _=>by unfold wM;exact dY (by simp) rfl) () trivial
 exact bJ (by omega) (aS e rfl)
theorem ZT (s:cF)(aG:s.b7.length≤1000)(hm:s.bE.length≤1000)(list:List Int)(aV:list.length≤1048576):xC s list=some (sW s list):=by
 unfold xC Ho DR
 rw [e8]
 refine aS (x:=s.b7) (bJ (by omega) rfl) ?_
 obtain ⟨x,e,-⟩:=ie (f:=fun w:Int×List bC=>wN list s.bE (s.bE.length:Nat) s.b7 w.1 w.2) (fun (i:Nat) (_:Unit)=>((i:Int),nD s.bE list i)) s.bE.length (fun _ _=>True) (fun _=>nD s.bE list s.bE.length)
  (fun i aj _ _=>by
    refine ⟨(),?_,trivial⟩
    have U:=List.getElem?_eq_getElem aj
    have hw:=Bb s.bE list i
    have e1:nD s.bE list (i+1)=nD s.bE list i++(if (i:Int)∈list then [] else [s.bE[i]]):=by rw [nD,U]
    unfold wN
    refine dI (by simp only;omega) (bJ (by simp only;omega) (aS (x:=s.bE[i]) (by simp only;rw [Int.toNat_natCast];exact U) (aS (ZR list aV _) ?_)))
    simp only
    rw [fz (by omega),e1]
    by_cases c:(i:Int)∈list
    ·rw [if_pos c]
     exact gh (decide_eq_true c) (by rw [List.append_nil])
    ·rw [if_neg c]
     exact iQ (decide_eq_false c) (bJ (by simp only [List.length_append,List.length_cons,List.length_nil];omega) rfl))
  (fun _ _=>by unfold wN;exact dY (by simp) rfl) () trivial
 exact aS e rfl
theorem ZU {wq:Nat}{l:List Int}(h:qZ wq l=true):l.length=2*wq∧ ∀x∈l,-100≤x∧x≤100:=by
 unfold qZ at h
 rw [Bool.and_eq_true,decide_eq_true_eq,List.all_eq_true] at h
 exact ⟨h.1,fun x U=>by have:=h.2 x U;unfold qh at this;simpa using this⟩
theorem Ql (s:cF)(i0:j1 s)(l:List Int)(aV:l.length≤maxLen):
 (sc s l=some true∧uU s l=some true∧kl s=some true∧qZ s.b7.length l=true)∨(sc s l=some false∧uU s l=some false):=by
 obtain ⟨p,p1,hz⟩:=OB s i0
 have ru:p=true→s.b7.length≤6:=fun h=>(ob s i0 (h▸p1)).2.2.1
 have e:=Qi s p p1 ru l aV
 cases p with
 | false=>exact .inr ⟨e,aS hz (iQ rfl rfl)⟩
 | true =>
  rw [Bool.true_and] at e
  have aE:uU s l=some (qZ s.b7.length l):=aS hz (gh rfl (aS (ZM s (ru rfl) l aV) rfl))
  by_cases c:qZ s.b7.length l=true
  ·rw [c] at e aE;exact .inl ⟨e,aE,p1,c⟩
  ·rw [Bool.not_eq_true] at c
   rw [c] at e aE;exact .inr ⟨e,aE⟩
theorem ade (s:cF)(i0:j1 s)(l:List Int)(aV:l.length≤maxLen)(h:kl s=some true)(aU:qZ s.b7.length l=true):
 ∃r,Ak s l=some r∧ui s l=some r:=by
 obtain ⟨f1,f2⟩:=ZU aU
 obtain ⟨r,r1,bT⟩:=Zv s i0 h l f1 f2
 have e:=Qi s true h (fun _=>(ob s i0 h).2.2.1) l aV
 rw [aU] at e
 refine ⟨r,aS e (gh rfl ?_),bT⟩
 cases ak:uC s l with
 | none=>rw [ak] at r1;cases r1
 | some p =>
  rw [ak] at r1
  exact aS rfl (aS (show uA p=some r from r1) rfl)
theorem ab9 (s:cF)(i0:j1 s)(h:kl s=some true)(list:List Int):
 j1 (sW s list)∧kl (sW s list)=some true:=by
 refine ⟨⟨i0.1,?_⟩,YA s i0 h _ (fun m hm=>Ll hm) (Bb ..)⟩
 refine ⟨?_,fun m hm=>i0.2.2 m (Ll hm)⟩
 exact Nat.le_trans (Bb ..) i0.2.1
theorem aca (s:cF)(i0:j1 s)(l:List Int)(aV:l.length≤maxLen)(h:kl s=some true)(aU:qZ s.b7.length l=true)(list:List Int)(CL:list.length≤1048576):
 ∃r,(xy s list=some (sW s list)∧Ak (sW s list) l=some r)∧xC s list=some (sW s list)∧ui (sW s list) l=some r:=by
 obtain ⟨-,-,a0,bn⟩:=ob s i0 h
 obtain ⟨jS,n8⟩:=ab9 s i0 h list
 obtain ⟨r,r1,bT⟩:=ade (sW s list) jS l aV n8 aU
 exact ⟨r,⟨ZS s (by omega) (by omega) list CL,r1⟩,ZT s (by omega) (by omega) list CL,bT⟩
theorem Y9 (s:cF)(i0:j1 s)(l:List Int)(aV:l.length≤maxLen)(k:Int)(ahS:ov k): ∃r,tf s l k=some r∧uF s l k=some r:=by
 rcases Ql s i0 l aV with ⟨e1,aE,h,aU⟩|⟨e1,aE⟩
 ·obtain ⟨-,-,a0,bn⟩:=ob s i0 h
  obtain ⟨r,⟨jS,n8⟩,qE,FM⟩:=aca s i0 l aV h aU [k] (by simp)
  have hw:R (len_ bA s.bE-1)=(s.bE.length:Int)-1:=by rw [e8,ct (by omega) (by omega)]
  by_cases c:0≤k∧k<s.bE.length
  ·refine ⟨r,?_,?_⟩
   ·unfold tf
    refine aS e1 (gh rfl (aS (by rw [hw,qb]) (gh (decide_eq_true (by omega)) (aS jS (aS n8 rfl)))))
   ·unfold uF
    refine aS aE (gh rfl (dY (by omega) (dY (by rw [e8];omega) (aS qE (aS FM rfl)))))
  ·refine ⟨false,?_,?_⟩
   ·unfold tf
    refine aS e1 (gh rfl (aS (by rw [hw,qb]) (iQ (decide_eq_false (by omega)) rfl)))
   ·unfold uF
    refine aS aE (gh rfl ?_)
    by_cases c9:k<0
    ·exact dI c9 rfl
    ·exact dY c9 (dI (by rw [e8];omega) rfl)
 ·exact ⟨false,aS e1 (iQ rfl rfl),aS aE (iQ rfl rfl)⟩
def mD (p:Nat→Bool):Nat→List Int
 | 0=>[]
 | n+1=>if p n then mD p n++[(n:Int)] else mD p n
theorem En (p:Nat→Bool): ∀n,(mD p n).length≤n
 | 0=>Nat.le_refl _
 | n+1=>by
  have:=En p n
  rw [mD]
  split
  ·rw [List.length_append,List.length_singleton];omega
  ·omega
theorem QU {f:Int×List Int→Option ((Int×List Int)⊕List Int)}(p:Nat→Bool)(N:Nat)
 (h : ∀n,n<N→f ((n:Int),mD p n)=some (.inl (((n+1:Nat):Int),if p n then mD p n++[(n:Int)] else mD p n)))
 (he:f ((N:Int),mD p N)=some (.inr (mD p N))):iter f (0,[])=some (mD p N):=by
 obtain ⟨x,e,-⟩:=ie (f:=f) (fun (i:Nat) (_:Unit)=>((i:Int),mD p i)) N (fun _ _=>True) (fun _=>mD p N) (fun n a4 _ _=>⟨(),h n a4,trivial⟩) (fun _ _=>he) () trivial
 exact e
noncomputable def mL (s:cF)(l:List Int)(n:Nat):Bool:= !(tf s l (n:Int)).getD false
theorem Ps (s:cF)(i0:j1 s)(l:List Int)(aV:l.length≤maxLen)(n:Nat)(a4:n≤8):tf s l (n:Int)=some (!mL s l n)∧uF s l (n:Int)=some (!mL s l n):=by
 obtain ⟨r,r1,bT⟩:=Y9 s i0 l aV n (my.2 (by omega))
 have:(!mL s l n)=r:=by unfold mL;rw [r1];simp
 rw [this];exact ⟨r1,bT⟩
theorem aaw (s:cF)(i0:j1 s)(l:List Int)(aV:l.length≤maxLen)(bn:s.bE.length≤8)(n:Nat)(a4:n<s.bE.length):
 wF l (s.bE.length:Nat) s.b7 s.bE n (mD (mL s l) n)=some (.inl (((n+1:Nat):Int),if mL s l n then mD (mL s l) n++[(n:Int)] else mD (mL s l) n)):=by
 have ck:=En (mL s l) n
 obtain ⟨e1,-⟩:=Ps s i0 l aV n (by omega)
 unfold wF
 refine dI (by omega) (aS e1 ?_)
 rw [fz (by omega)]
 cases mL s l n with
 | true=>exact iQ rfl (bJ (by rw [List.length_append,List.length_singleton];omega) rfl)
 | false=>exact gh rfl rfl
theorem aax (s:cF)(i0:j1 s)(l:List Int)(aV:l.length≤maxLen)(bn:s.bE.length≤8)(n:Nat)(a4:n<s.bE.length):
 wE l (s.bE.length:Nat) s.b7 s.bE n (mD (mL s l) n)=some (.inl (((n+1:Nat):Int),if mL s l n then mD (mL s l) n++[(n:Int)] else mD (mL s l) n)):=by
 have ck:=En (mL s l) n
 obtain ⟨-,e1⟩:=Ps s i0 l aV n (by omega)
 unfold wE
 refine dI (by omega) (aS e1 ?_)
 rw [fz (by omega)]
 cases mL s l n with
 | true=>exact iQ rfl (bJ (by rw [List.length_append,List.length_singleton];omega) rfl)
 | false=>exact gh rfl rfl
theorem WH (s:cF)(i0:j1 s)(l:List Int)(aV:l.length≤maxLen): ∃r,zL s l=some r∧(w8 s l=some (.inl r)∨(w8 s l=some (.inr ())∧r=[]))∧r.length≤8:=by
 unfold zL w8
 rcases Ql s i0 l aV with ⟨e1,aE,h,aU⟩|⟨e1,aE⟩
 ·obtain ⟨-,-,a0,bn⟩:=ob s i0 h
  have f1:G8 l (len_ bA s.bE) s.b7 s.bE 0 []=some (mD (mL s l) s.bE.length):=by
   rw [e8]
   exact QU (mL s l) s.bE.length (fun n a4=>aaw s i0 l aV bn n a4) (by simp only;unfold wF;exact dY (by omega) rfl)
  have f2:GD l (len_ bA s.bE) s.b7 s.bE 0 []=some (mD (mL s l) s.bE.length):=by
   rw [e8]
   exact QU (mL s l) s.bE.length (fun n a4=>aax s i0 l aV bn n a4) (by simp only;unfold wE;exact dY (by omega) rfl)
  exact ⟨_,aS e1 (gh rfl (aS f1 rfl)),.inl (aS aE (gh rfl (aS f2 rfl))),Nat.le_trans (En ..) bn⟩
 ·exact ⟨[],aS e1 (iQ rfl rfl),.inr ⟨aS aE (iQ rfl rfl),rfl⟩,by simp⟩
theorem Up (x0:cF)(x1:List Int)(i0:j1 x0)(i1:(fun l=>l.length≤maxLen∧ ∀x∈l,ov x) x1):Da x0 x1=some true:=by
 unfold Da
 rw [f5]
 by_cases h1:(1048576:Int)<(x1.length:Nat)
 ·exact dI h1 rfl
 refine dY h1 ?_
 obtain ⟨r,r1,bT⟩:=Ye x0 i0 1048576 (by omega) (by omega)
 refine aS r1 ?_
 by_cases o:r<0
 ·exact dI o rfl
 obtain ⟨gF,hI⟩:=bT (by omega)
 obtain ⟨q,q1,a6,fw⟩:=WH x0 i0 x1 i1.1
 obtain ⟨lh,nG,iu,d1,d2,tU,T0,ahT⟩:=WR (k:=1) (l:=x0.b7) (m:=x0.bE) (by omega) (by omega)
 refine dY o (aS (Yf x0 gF hI) (aS (ZN x1 (by omega)) (aS q1 ?_)))
 rcases a6 with g|⟨g,rfl⟩
 ·refine aS g (aS (D0 q (by omega)) (gh rfl (aS (OA x0 gF hI) (gh rfl (aS (D0 x1 (by omega)) (gh rfl (aS d1 (bJ d2.symm (bJ tU.symm (aS (Kp T0 (by omega)) (dY (by simp only;omega) (aS (Kp (by omega) (by omega)) (bJ (by simp only [yi];omega) ?_)))))))))))))
  simp only
  rw [List.drop_zero,List.take_of_length_le (by rw [yi];omega)]
  exact aS (OY (by omega) (by omega)) (dY (by omega) (iQ (Cq rfl) rfl))
 ·exact aS g (aS (D0 [] (by simp)) (gh rfl (aS (OA x0 gF hI) (gh rfl (aS (D0 x1 (by omega)) (gh rfl (aS d1 (bJ d2.symm (bJ tU.symm (aS (Kp T0 (by omega)) (dY (by simp only;omega) (aS (Zo 1) (aS (Zp (by omega) (by omega)) (dY (by omega) (iQ rfl rfl)))))))))))))))
end Go.Proofs.YtmeimpeaagmneaaGreat
