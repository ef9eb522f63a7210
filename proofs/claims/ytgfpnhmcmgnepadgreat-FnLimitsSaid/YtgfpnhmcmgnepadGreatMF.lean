/- Lemmas, plain functions of the program, and what they answer. No condition. -/
import Derived.Test.YtgfpnhmcmgnepadGreatME
namespace Go.Proofs.YtgfpnhmcmgnepadGreat
set_option linter.unusedVariables false
set_option linter.unusedSimpArgs false
open Go Go.VL
theorem Py:(⟨false,([]:List Int)⟩:bc)=bL 0:=by
 show _=gF (0:Rat).num
 rw [show (0:Rat).num=0 from rfl]
 unfold gF
 rw [show L ((0:Int).natAbs:Int)=[] from sX.2 (by simp)];rfl
theorem I2 {α:Type}(l:List α)(x:α):(l++[x])[l.length]? = some x:=by simp
theorem xr {α:Type}(l:List α)(x y:α):(l++[x]).set l.length y=l++[y]:=by simp
theorem Pz {p:nD}{m n:Nat}{a:Nat→Nat→Int}{b:Nat→Int}(h:oY p m n a b){i:Nat}(ah:i<m):wt i p.kD p.jQ p.gr p.gu p.kc=some (i*n,n):=by
 have hm:=h.hm
 have a5:=h.a5
 have o:i*n≤20*40:=Nat.mul_le_mul (by omega) a5
 have R:(i+1)*n≤20*40:=Nat.mul_le_mul (by omega) a5
 have ab:(i+1)*n≤m*n:=Nat.mul_le_mul_right _ ah
 have ax:U ((i:Int)*p.jQ)=((i*n:Nat):Int):=by
  rw [h.gZ,← Int.natCast_mul,cO (by omega) (by omega)]
 have aC:U (U ((i:Int)+1)*p.jQ)=(((i+1)*n:Nat):Int):=by
  rw [h.gZ,fM (by omega),← Int.natCast_mul,cO (by omega) (by omega)]
 have aA:(i+1)*n=i*n+n:=Nat.succ_mul i n
 unfold wt
 rw [ax,aC,Int.toNat_natCast,Int.toNat_natCast,h.nt]
 refine bO (by omega) (bO (by omega) (bO ⟨by omega,ab⟩ ?_))
 rw [show 0+i*n=i*n by omega,show (i+1)*n-i*n=n by omega]
theorem Vy {p:nD}{m n:Nat}{a:Nat→Nat→Int}{b:Nat→Int}(h:oY p m n a b){i:Nat}(ah:i<m)(aV:b i<0)(x0:Int)(eK:Bool)(dQ:List Int)(bl:List b0)(cM:List Int)(eN:List Bool)(P:List (List bc)):
 Cj x0 (i:Int) P.length (n+m+1) p.kD (i*n) n ((n:Nat):Int) p.jQ p.gr p.gu p.kc eK dQ bl cM eN 0 (P++[a7 (n+m+1) fun _=>bL 0])=some (P++[a7 (n+m+1) fun j=>if j<n then bL (dZ m n a b i j) else bL 0]):=by
 have hm:=h.hm
 have a5:=h.a5
 have bX:lm (b i) = -1:=by unfold lm;rw [if_pos aV]
 unfold Cj
 obtain ⟨s1,ax,-⟩:=iG (f:=fun w:Int×List (List bc)=>v7 x0 (i:Int) P.length (n+m+1) p.kD (i*n) n ((n:Nat):Int) p.jQ p.gr p.gu p.kc eK dQ bl cM eN w.1 w.2)
  (fun (k:Nat) (_:Unit)=>((k:Int),P++[a7 (n+m+1) fun j=>if j<k then bL (dZ m n a b i j) else bL 0])) n (fun _ _=>True) (fun _=>P++[a7 (n+m+1) fun j=>if j<n then bL (dZ m n a b i j) else bL 0])
  (fun k aJ _ _=>by
    refine ⟨(),?_,trivial⟩
    have bE:=h.BB i ah k aJ
    have e:U ((-1:Int)*a i k)=nv m n a b i k:=by
     rw [cO (by omega) (by omega)];unfold nv;rw [if_pos aJ,bX]
    unfold v7
    refine dM (by simp only;omega) (bO (by simp only;omega) (aI (x:=a i k) (by simp only;rw [Int.toNat_natCast];exact h.JQ i ah k aJ) (aI (x:=bL (dZ m n a b i k)) (by rw [e];exact rN (by have:=Ac h ah k;rw [lM];omega)) (aI (I2 _ _) (bO (by simp only;omega) (aI (by simp only;rw [Int.toNat_natCast];exact jt (by omega)) ?_))))))
    simp only
    rw [fM (by omega),Int.toNat_natCast,Nat.zero_add,ke,xr]
    congr 5
    refine fc fun j _=> ?_
    by_cases bF:j=k
    ·subst bF;rw [if_pos rfl,if_pos (by omega)]
    ·rw [if_neg bF]
     by_cases cI:j<k
     ·rw [if_pos cI,if_pos (by omega)]
     ·rw [if_neg cI,if_neg (by omega)])
  (fun _ _=>by unfold v7;exact er (by simp) rfl) () trivial
 have e0:(a7 (n+m+1) fun j=>if j<0 then bL (dZ m n a b i j) else bL 0)=a7 (n+m+1) fun _=>bL 0:=fc fun j _=>by rw [if_neg (by omega)]
 rw [e0] at ax
 exact ax
theorem Vz {p:nD}{m n:Nat}{a:Nat→Nat→Int}{b:Nat→Int}(h:oY p m n a b){i:Nat}(ah:i<m)(aV:¬b i<0)(x0:Int)(eK:Bool)(dQ:List Int)(bl:List b0)(cM:List Int)(eN:List Bool)(P:List (List bc)):
 Ck x0 (i:Int) P.length (n+m+1) p.kD (i*n) n ((n:Nat):Int) p.jQ p.gr p.gu p.kc eK dQ bl cM eN 0 (P++[a7 (n+m+1) fun _=>bL 0])=some (P++[a7 (n+m+1) fun j=>if j<n then bL (dZ m n a b i j) else bL 0]):=by
 have hm:=h.hm
 have a5:=h.a5
 have bX:lm (b i)=1:=by unfold lm;rw [if_neg aV]
 unfold Ck
 obtain ⟨s1,ax,-⟩:=iG (f:=fun w:Int×List (List bc)=>v8 x0 (i:Int) P.length (n+m+1) p.kD (i*n) n ((n:Nat):Int) p.jQ p.gr p.gu p.kc eK dQ bl cM eN w.1 w.2)
  (fun (k:Nat) (_:Unit)=>((k:Int),P++[a7 (n+m+1) fun j=>if j<k then bL (dZ m n a b i j) else bL 0])) n (fun _ _=>True) (fun _=>P++[a7 (n+m+1) fun j=>if j<n then bL (dZ m n a b i j) else bL 0])
  (fun k aJ _ _=>by
    refine ⟨(),?_,trivial⟩
    have bE:=h.BB i ah k aJ
    have e:U ((1:Int)*a i k)=nv m n a b i k:=by
     rw [cO (by omega) (by omega)];unfold nv;rw [if_pos aJ,bX]
    unfold v8
    refine dM (by simp only;omega) (bO (by simp only;omega) (aI (x:=a i k) (by simp only;rw [Int.toNat_natCast];exact h.JQ i ah k aJ) (aI (x:=bL (dZ m n a b i k)) (by rw [e];exact rN (by have:=Ac h ah k;rw [lM];omega)) (aI (I2 _ _) (bO (by simp only;omega) (aI (by simp only;rw [Int.toNat_natCast];exact jt (by omega)) ?_))))))
    simp only
    rw [fM (by omega),Int.toNat_natCast,Nat.zero_add,ke,xr]
    congr 5
    refine fc fun j _=> ?_
    by_cases bF:j=k
    ·subst bF;rw [if_pos rfl,if_pos (by omega)]
    ·rw [if_neg bF]
     by_cases cI:j<k
     ·rw [if_pos cI,if_pos (by omega)]
     ·rw [if_neg cI,if_neg (by omega)])
  (fun _ _=>by unfold v8;exact er (by simp) rfl) () trivial
 have e0:(a7 (n+m+1) fun j=>if j<0 then bL (dZ m n a b i j) else bL 0)=a7 (n+m+1) fun _=>bL 0:=fc fun j _=>by rw [if_neg (by omega)]
 rw [e0] at ax
 exact ax
theorem m6 {α:Type}(n:Nat)(x:α):List.replicate n x=a7 n fun _=>x:=by
 apply List.ext_getElem?
 intro i
 by_cases c:i<n
 ·rw [ga c];simp [c]
 ·rw [List.getElem?_eq_none_iff.2 (by simp;omega),List.getElem?_eq_none_iff.2 (by rw [cQ];omega)]
theorem M9 {p:nD}{m n:Nat}{a:Nat→Nat→Int}{b:Nat→Int}(h:oY p m n a b)(eK:Bool)(dQ:List Int)(eN:List Bool):
 Cl ((n+m:Nat):Int) p.kD p.jQ p.gr p.gu p.kc eK dQ eN 0 ([]:List b0) ([]:List (List bc)) ([]:List Int)=some (f8 m (n+m) (fun i=>i),a7 m (fun i=>a7 (n+m+1) fun j=>bL (dZ m n a b i j)),ef m (ox m n a b)):=by
 have hm:=h.hm
 have a5:=h.a5
 unfold Cl
 obtain ⟨s,e,-⟩:=iG (f:=fun w:Int×(List b0)×(List (List bc))×(List Int)=>v9 ((n+m:Nat):Int) p.kD p.jQ p.gr p.gu p.kc eK dQ eN w.1 w.2.1 w.2.2.1 w.2.2.2)
  (fun (i:Nat) (_:Unit)=>((i:Int),a7 i (fun k=>(some (k,n+m+1):b0)),a7 i (fun i=>a7 (n+m+1) fun j=>bL (dZ m n a b i j)),a7 i (fun k=>((n+k:Nat):Int)))) m (fun _ _=>True)
  (fun _=>(f8 m (n+m) (fun i=>i),a7 m (fun i=>a7 (n+m+1) fun j=>bL (dZ m n a b i j)),ef m (ox m n a b)))
  (fun i ah _ _=>by
    refine ⟨(),?_,trivial⟩
    have aV:=h.EK i ah
    have ic:U (((n+m:Nat):Int)+1)=((n+m+1:Nat):Int):=fM (by omega)
    have hw:U (p.jQ+(i:Int))=((n+i:Nat):Int):=by rw [h.gZ,← Int.natCast_add,cO (by omega) (by omega)]
    have RV:(a7 i (fun i=>a7 (n+m+1) fun j=>bL (dZ m n a b i j))).length=i:=cQ ..
    have rz:nv m n a b i (n+m)=lm (b i)*b i:=by unfold nv;rw [if_neg (by omega),if_pos rfl]
    have dh:((a7 (n+m+1) fun j=>if j<n then bL (dZ m n a b i j) else bL 0).set (n+i) (bL ((1:Int):Rat))).set (n+m) (bL (dZ m n a b i (n+m)))=a7 (n+m+1) fun j=>bL (dZ m n a b i j):=by
     rw [ke,ke]
     refine fc fun j aB=> ?_
     by_cases bF:j=n+m
     ·rw [if_pos bF,bF]
     ·rw [if_neg bF]
      by_cases cI:j=n+i
      ·rw [if_pos cI,cI,ur ah,if_pos rfl];rfl
      ·rw [if_neg cI]
       by_cases mv:j<n
       ·rw [if_pos mv]
       ·rw [if_neg mv]
        obtain ⟨k,rfl⟩ : ∃k,j=n+k:=⟨j-n,by omega⟩
        rw [ur (by omega),if_neg (by omega)]
    unfold v9
    rw [ic,hw,Int.toNat_natCast]
    refine dM (by simp only;rw [h.rows];omega) (bO (by omega) (bO (by simp only;rw [h.Sc];omega) (aI (x:=b i) (by simp only [Int.toNat_natCast,Nat.zero_add];exact h.QT i ah) ?_)))
    have fin:(some (Sum.inl (U ((i:Int)+1),(a7 i (fun k=>(some (k,n+m+1):b0)))++[some (i,n+m+1)],(a7 i (fun i=>a7 (n+m+1) fun j=>bL (dZ m n a b i j)))++[a7 (n+m+1) fun j=>bL (dZ m n a b i j)],(a7 i fun k=>((n+k:Nat):Int))++[((n+i:Nat):Int)])):Option ((Int×(List b0)×(List (List bc))×(List Int))⊕((List b0)×(List (List bc))×(List Int)))) =
     some (Sum.inl (((i+1:Nat):Int),a7 (i+1) (fun k=>(some (k,n+m+1):b0)),a7 (i+1) (fun i=>a7 (n+m+1) fun j=>bL (dZ m n a b i j)),a7 (i+1) (fun k=>((n+k:Nat):Int)))):=by
     rw [fM (by omega),zz i (fun k=>(some (k,n+m+1):b0)),zz i (fun i=>a7 (n+m+1) fun j=>bL (dZ m n a b i j)),zz i (fun k=>((n+k:Nat):Int))]
    have aa : ∀(P:List (List bc)) (F:List bc→Option ((Int×(List b0)×(List (List bc))×(List Int))⊕((List b0)×(List (List bc))×(List Int)))) (x:List bc) r,F x=r→(P++[x])[P.length]? >>= F=r:=fun P F x r yw=>aI (I2 P x) yw
    refine Bt (fun c=> ?_) (fun c=> ?_)
    ·have pX:b i<0:=of_decide_eq_true c
     have bX:lm (b i) = -1:=by unfold lm;rw [if_pos pX]
     refine aI (Pz h ah) (aI (by rw [Py,m6];exact Vy h ah pX _ _ _ _ _ _ _) (aI (rN (n:=1) (by rw [lM];omega)) (aa _ _ _ _ ?_)))
     refine bO (by omega) (aI (x:=bL 0) (by rw [Int.toNat_natCast,jt (by omega),if_neg (by omega)]) (aI (x:=bL (dZ m n a b i (n+m))) (by
      have e:U ((-1:Int)*b i)=nv m n a b i (n+m):=by rw [rz,bX,cO (by omega) (by omega)]
      rw [e];exact rN (by have:=Ac h ah (n+m);rw [lM];omega)) ?_))
     rw [xr,Int.toNat_natCast,Nat.zero_add,Int.toNat_natCast,Nat.zero_add]
     refine aa _ _ _ _ (bO (by omega) ?_)
     obtain ⟨v,a3⟩ : ∃v,((a7 (n+m+1) fun j=>if j<n then bL (dZ m n a b i j) else bL 0).set (n+i) (bL ((1:Int):Rat)))[n+m]? = some v:=by
      rw [ke,ga (by omega)];exact ⟨_,rfl⟩
     refine aI a3 (bO (by simp only [List.length_append,cQ,List.length_cons,List.length_nil];omega) (bO (by simp only [List.length_append,cQ,List.length_cons,List.length_nil];omega) ?_))
     rw [xr]
     simp only [Int.toNat_natCast,Nat.zero_add]
     rw [dh,RV]
     exact fin
    ·have pX : ¬b i<0:=of_decide_eq_false c
     have bX:lm (b i)=1:=by unfold lm;rw [if_neg pX]
     refine aI (Pz h ah) (aI (by rw [Py,m6];exact Vz h ah pX _ _ _ _ _ _ _) (aI (rN (n:=1) (by rw [lM];omega)) (aa _ _ _ _ ?_)))
     refine bO (by omega) (aI (x:=bL 0) (by rw [Int.toNat_natCast,jt (by omega),if_neg (by omega)]) (aI (x:=bL (dZ m n a b i (n+m))) (by
      have e:U ((1:Int)*b i)=nv m n a b i (n+m):=by rw [rz,bX,cO (by omega) (by omega)]
      rw [e];exact rN (by have:=Ac h ah (n+m);rw [lM];omega)) ?_))
     rw [xr,Int.toNat_natCast,Nat.zero_add,Int.toNat_natCast,Nat.zero_add]
     refine aa _ _ _ _ (bO (by omega) ?_)
     obtain ⟨v,a3⟩ : ∃v,((a7 (n+m+1) fun j=>if j<n then bL (dZ m n a b i j) else bL 0).set (n+i) (bL ((1:Int):Rat)))[n+m]? = some v:=by
      rw [ke,ga (by omega)];exact ⟨_,rfl⟩
     refine aI a3 (bO (by simp only [List.length_append,cQ,List.length_cons,List.length_nil];omega) (bO (by simp only [List.length_append,cQ,List.length_cons,List.length_nil];omega) ?_))
     rw [xr]
     simp only [Int.toNat_natCast,Nat.zero_add]
     rw [dh,RV]
     exact fin)
  (fun _ _=>by unfold v9;exact er (by simp only;rw [h.rows];omega) rfl) () trivial
 exact e
def pD (n j:Nat):Int:=if n≤j then -1 else 0
theorem P5 {m n j:Nat}(aB:j<n+m):((pD n j:Int):Rat)=hL m n j:=by
 unfold pD hL
 by_cases c:n≤j
 ·rw [if_pos c,if_pos ⟨c,aB⟩];rfl
 ·rw [if_neg c,if_neg (by omega)];rfl
theorem PA {m n:Nat}{t:ck}(gO:∀i,i<m→t.B i<n+m){j:Nat}(aB:j<n+m):t.di m (fun j=>((pD n j:Int):Rat)) j=t.di m (hL m n) j:=by
 unfold ck.di
 simp only
 rw [P5 aB,fA (g:=fun i=>hL m n (t.B i)*t.T i j) fun i ah=>by rw [P5 (gO i ah)]]
theorem Nw {p:nD}{m n:Nat}{a:Nat→Nat→Int}{b:Nat→Int}(h:oY p m n a b)(x0:Int)(eK:Bool)(dQ:List Int)(bl:List b0)(cc:List (List bc))(cM:List Int):
 Cm x0 ((n+m:Nat):Int) p.kD p.jQ p.gr p.gu p.kc eK dQ bl cc cM 0 (a7 (n+m) fun _=>(0:Int)) (a7 (n+m) fun _=>false)=some (a7 (n+m) (pD n),a7 (n+m) fun j=>decide (j<n)):=by
 have hm:=h.hm
 have a5:=h.a5
 unfold Cm
 obtain ⟨s,e,-⟩:=iG (f:=fun w:Int×List Int×List Bool=>wa x0 ((n+m:Nat):Int) p.kD p.jQ p.gr p.gu p.kc eK dQ bl cc cM w.1 w.2.1 w.2.2)
  (fun (k:Nat) (_:Unit)=>((k:Int),(a7 (n+m) fun j=>if j<k then pD n j else 0),a7 (n+m) fun j=>if j<k then decide (j<n) else false)) (n+m) (fun _ _=>True) (fun _=>(a7 (n+m) (pD n),a7 (n+m) fun j=>decide (j<n)))
  (fun k aJ _ _=>by
    refine ⟨(),?_,trivial⟩
    have aC:(a7 (n+m) fun j=>if j<k then decide (j<n) else false).set (0+((k:Int)).toNat) (decide (k<n))=a7 (n+m) fun j=>if j<k+1 then decide (j<n) else false:=by
     rw [Int.toNat_natCast,Nat.zero_add,ke]
     refine fc fun j _=> ?_
     by_cases c:j=k
     ·subst c;rw [if_pos rfl,if_pos (by omega)]
     ·rw [if_neg c]
      by_cases cI:j<k
      ·rw [if_pos cI,if_pos (by omega)]
      ·rw [if_neg cI,if_neg (by omega)]
    have Lu:decide ((k:Int)<p.jQ)=decide (k<n):=by rw [h.gZ];simp
    unfold wa
    simp only
    rw [Lu,aC,fM (by omega)]
    refine dM (by omega) (bO (by rw [cQ];omega) (bO (by rw [cQ,Int.toNat_natCast];omega) ?_))
    by_cases c:n≤k
    ·refine dM (by rw [h.gZ];omega) (bO (by rw [cQ];omega) (bO (by rw [cQ,Int.toNat_natCast];omega) ?_))
     rw [Int.toNat_natCast,Nat.zero_add,ke]
     congr 4
     refine fc fun j _=> ?_
     by_cases bF:j=k
     ·subst bF;rw [if_pos rfl,if_pos (by omega)];unfold pD;rw [if_pos c]
     ·rw [if_neg bF]
      by_cases cI:j<k
      ·rw [if_pos cI,if_pos (by omega)]
      ·rw [if_neg cI,if_neg (by omega)]
    ·refine er (by rw [h.gZ];omega) ?_
     congr 4
     refine fc fun j _=> ?_
     by_cases bF:j=k
     ·subst bF;rw [if_neg (by omega),if_pos (by omega)];unfold pD;rw [if_neg c]
     ·by_cases cI:j<k
      ·rw [if_pos cI,if_pos (by omega)]
      ·rw [if_neg cI,if_neg (by omega)])
  (fun _ _=>by
    unfold wa
    refine er (by simp) ?_
    simp only
    congr 3
    ·exact fc fun j aB=>by rw [if_pos aB]
    ·exact fc fun j aB=>by rw [if_pos aB]) () trivial
 have nx:(a7 (n+m) fun j=>if j<0 then pD n j else 0)=a7 (n+m) fun _=>(0:Int):=fc fun j _=>by rw [if_neg (by omega)]
 have qW:(a7 (n+m) fun j=>if j<0 then decide (j<n) else false)=a7 (n+m) fun _=>false:=fc fun j _=>by rw [if_neg (by omega)]
 rw [nx,qW] at e
 exact e
theorem VA {p:nD}{m n:Nat}{a:Nat→Nat→Int}{b:Nat→Int}(h:oY p m n a b){w:Rat}{t:ck}(f:nM m (n+m) w t){dN:List (List bc)}(fL:kh m (n+m) m (fun i=>i) w t dN)(eK:Bool)(dQ:List Int)(x0:Int)(q:List Bool):
 ∃r,Cn ((n+m:Nat):Int) ((m:Nat):Int) p.kD p.jQ p.gr p.gu p.kc eK dQ x0 (ef m t) (f8 m (n+m) fun i=>i) dN q 0=some r∧((r = .inr ()∧ ∃i,i<m∧n≤t.B i∧0<t.T i (n+m))∨(r = .inl ()∧ ∀i,i<m→n≤t.B i→ ¬0<t.T i (n+m))):=by
 have hm:=h.hm
 have a5:=h.a5
 have hw:=f.pos
 unfold Cn
 exact pK (f:=fun w:Int=>wb ((n+m:Nat):Int) ((m:Nat):Int) p.kD p.jQ p.gr p.gu p.kc eK dQ x0 (ef m t) (f8 m (n+m) fun i=>i) dN q w) (fun (i:Nat) (_:Unit)=>(i:Int)) m (fun k _=> ∀i,i<k→n≤t.B i→ ¬0<t.T i (n+m)) _
  (fun i ah _ cV=>by
    have bX:=sP ((f.hF i ah (n+m) (Nat.le_refl _)).mono (sd (by have:=pQ;generalize dR=q at *;omega)))
    have g1:0≤(i:Int)∧(i:Int)<((ef m t).length:Nat):=by unfold ef;rw [cQ];omega
    have g2:(ef m t)[(0+((i:Int)).toNat)]? = some ((t.B i:Nat):Int):=by rw [Int.toNat_natCast];exact jt ah
    have g3:0≤(i:Int)∧(i:Int)<((f8 m (n+m) fun i=>i).length:Nat):=by unfold f8;rw [cQ];omega
    have g4:(f8 m (n+m) fun i=>i)[(0+((i:Int)).toNat)]? = some (some (i,n+m+1)):=by rw [Int.toNat_natCast];exact jt ah
    unfold wb
    by_cases EN:n≤t.B i
    ·by_cases jV:0<t.T i (n+m)
     ·right
      exact ⟨_,dM (by omega) (bO g1 (aI g2 (dM (by rw [h.gZ];omega) (bO g3 (aI g4 (aI (x:=(i,n+m+1)) rfl (aI (fL.row i ah) (bO (by simp only;omega) (aI (x:=bL (t.T i (n+m)*w)) (by rw [Int.toNat_natCast];exact jt (by omega)) (aI bX (dM (by rw [xq hw];exact sO.2 jV) rfl))))))))))),.inl ⟨rfl,i,ah,EN,jV⟩⟩
     ·left
      refine ⟨(),dM (by omega) (bO g1 (aI g2 (dM (by rw [h.gZ];omega) (bO g3 (aI g4 (aI (x:=(i,n+m+1)) rfl (aI (fL.row i ah) (bO (by simp only;omega) (aI (x:=bL (t.T i (n+m)*w)) (by rw [Int.toNat_natCast];exact jt (by omega)) (aI bX (er (by rw [xq hw];exact fun c=>jV (sO.1 c)) (by rw [fM (by omega)])))))))))))),fun k aJ=> ?_⟩
      by_cases e:k=i
      ·rw [e];exact fun _=>jV
      ·exact cV k (by omega)
    ·left
     refine ⟨(),dM (by omega) (bO g1 (aI g2 (er (by rw [h.gZ];omega) (by rw [fM (by omega)])))),fun k aJ=> ?_⟩
     by_cases e:k=i
     ·rw [e];exact fun c=>(EN c).elim
     ·exact cV k (by omega))
  (fun _ cV=>⟨_,by unfold wb;exact er (by omega) rfl,.inr ⟨rfl,cV⟩⟩) () (fun k aJ=>by omega)
theorem VB {p:nD}{m n:Nat}{a:Nat→Nat→Int}{b:Nat→Int}(h:oY p m n a b)(F:Nat→Bool)(eK:Bool)(dQ:List Int)(x0:Int)(bl:List b0)(cc:List (List bc))(cM:List Int):
 Co ((n+m:Nat):Int) p.kD p.jQ p.gr p.gu p.kc eK dQ x0 bl cc cM 0 (a7 (n+m) F)=some (a7 (n+m) fun j=>decide (j<n)):=by
 have hm:=h.hm
 have a5:=h.a5
 unfold Co
 obtain ⟨s,e,-⟩:=iG (f:=fun w:Int×List Bool=>wc ((n+m:Nat):Int) p.kD p.jQ p.gr p.gu p.kc eK dQ x0 bl cc cM w.1 w.2)
  (fun (k:Nat) (_:Unit)=>((k:Int),a7 (n+m) fun j=>if j<k then decide (j<n) else F j)) (n+m) (fun _ _=>True) (fun _=>a7 (n+m) fun j=>decide (j<n))
  (fun k aJ _ _=>by
    refine ⟨(),?_,trivial⟩
    have Lu:decide ((k:Int)<p.jQ)=decide (k<n):=by rw [h.gZ];simp
    unfold wc
    simp only
    rw [Lu,fM (by omega)]
    refine dM (by omega) (bO (by rw [cQ];omega) (bO (by rw [cQ,Int.toNat_natCast];omega) ?_))
    rw [Int.toNat_natCast,Nat.zero_add,ke]
    congr 3
    refine fc fun j _=> ?_
    by_cases c:j=k
    ·subst c;rw [if_pos rfl,if_pos (by omega)]
    ·rw [if_neg c]
     by_cases cI:j<k
     ·rw [if_pos cI,if_pos (by omega)]
     ·rw [if_neg cI,if_neg (by omega)])
  (fun _ _=>by
    unfold wc
    refine er (by simp) ?_
    simp only
    congr 2
    exact fc fun j aB=>by rw [if_pos aB]) () trivial
 have nx:(a7 (n+m) fun j=>if j<0 then decide (j<n) else F j)=a7 (n+m) F:=fc fun j _=>by rw [if_neg (by omega)]
 rw [nx] at e
 exact e
theorem RW {m n:Nat}{a:Nat→Nat→Int}{b:Nat→Int}:gL m (dZ m n a b) (ox m n a b)=1:=by
 unfold gL;rw [PZ,if_pos (by grind)]
theorem X5 {p:nD}{m n:Nat}{a:Nat→Nat→Int}{b:Nat→Int}(h:oY p m n a b):
 ∃r,y9 p.kD p.jQ p.gr p.gu p.kc=some r∧((qD m n a b∧ ∃t a1 g dN,r = .inl ((bL (gL m (dZ m n a b) t)).c6,(bL (gL m (dZ m n a b) t)).cK,((n+m:Nat):Int),f8 a1 (n+m) g,ef a1 (hM g t),a7 (n+m) (fun j=>decide (j<n)),dN) ∧
  nb m n (n+m) (dZ m n a b) t a1 g∧(∀i,i<a1→t.B (g i)<n)∧kh a1 (n+m) m g (gL m (dZ m n a b) t) (hM g t) dN)∨(¬qD m n a b∧r = .inr ())):=by
 have hm:=h.hm
 have a5:=h.a5
 have kz:=Ot h
 have fV:U (p.jQ+p.kD)=((n+m:Nat):Int):=by rw [h.gZ,h.rows,← Int.natCast_add,cO (by omega) (by omega)]
 have aco:kh m (n+m) m (fun i=>i) (gL m (dZ m n a b) (ox m n a b)) (ox m n a b) (a7 m (fun i=>a7 (n+m+1) fun j=>bL (dZ m n a b i j))):=⟨cQ ..,fun i ah=>by
  rw [ga ah,RW]
  congr 1
  exact fc fun j _=>by
   show bL (dZ m n a b i j)=bL (dZ m n a b i j*1)
   congr 1;grind⟩
 obtain ⟨q,bD,t,dN,kl,e,⟨cV,rfl⟩,fL,dW⟩:=Nv (dY:=m) (m:=m) (N:=n+m) (M:=m) (A:=dZ m n a b) hm (by omega) (h:=fun i=>i) (fun i _ k _ e=>e) (pD n) (fun j _=>by unfold pD;split<;>omega) (fun j=>decide (j<n))
  (fun w t=>oQ m (n+m) (dZ m n a b) t∧w=gL m (dZ m n a b) t) (fun w t cV=>⟨cV.1.ok,cV.1.ls,cV.2▸cV.1.pY kz⟩)
  (fun w t r s cV b=>by
    obtain ⟨o,rfl⟩:=cV
    have af:t.T r s≠0:=by have:=b.pos;grind
    exact ⟨o.uE kz b.al b.bX af,o.gD b,Jl o.ok o.vn b.al b.bX af⟩)
  (w:=gL m (dZ m n a b) (ox m n a b)) (t:=ox m n a b) ⟨⟨YC,WN,XP⟩,rfl⟩ aco
 rw [RW] at e
 have JS : ∀j,j<n→t.di m (hL m n) j≤0:=by
  rcases dW with ⟨-,dW,-⟩|⟨-,s,bX,-,dy,gM⟩
  ·intro j aB
   have:=dW j (by omega) (by simpa using aB)
   rw [PA cV.ok.jK (by omega)] at this
   grind
  ·rw [PA cV.ok.jK bX] at dy
   obtain ⟨i,ah,af⟩:=Vu cV.ok bX dy
   exact (gM i ah af).elim
 have ax:nz 1=some (bL 1):=by
  have:=rN (n:=1) (by rw [lM];omega)
  rw [show ((1:Int):Rat)=1 from rfl] at this
  exact this
 obtain ⟨r,ak,bm⟩:=VA h (cV.pY kz) fL (bL (gL m (dZ m n a b) t)).c6 (bL (gL m (dZ m n a b) t)).cK ((n+m:Nat):Int) (a7 (n+m) kl)
 unfold y9
 rw [fV]
 rcases bm with ⟨rfl,i,ah,gO,hF⟩|⟨rfl,gM⟩
 ·have AD : ¬qD m n a b:=fun bX=>by
   have:=VU cV.ls (Wi cV.ok cV.ls JS bX) cV.ok.jK i ah gO
   grind
  refine ⟨_,aI ax (bO (by omega) (aI (M9 h _ _ _) (bO (by omega) (aI (x:=(a7 (n+m) (pD n),a7 (n+m) fun j=>decide (j<n))) (by rw [Int.toNat_natCast,m6,m6];exact Nw h _ _ _ _ _ _) (aI e ?_))))),.inr ⟨AD,rfl⟩⟩
  refine aI (x:= .inr ()) ?_ rfl
  simp only
  rw [show ((ef m t).length:Nat)=m from cQ ..]
  exact ak
 ·have cn : ∀i,i<m→n≤t.B i→t.T i (n+m)=0:=fun i ah gO=>by
   have o:=gM i ah gO
   have R:=cV.ls i ah
   grind
  have bX:qD m n a b:=VT cV.ok cV.ls cn
  obtain ⟨dm,a1,g,iX,mu,o2,EH,jc⟩:=Xb (n:=n) kz (by omega) (by omega) (a7 (n+m) fun j=>decide (j<n)) cV cn fL
  refine ⟨_,aI ax (bO (by omega) (aI (M9 h _ _ _) (bO (by omega) (aI (x:=(a7 (n+m) (pD n),a7 (n+m) fun j=>decide (j<n))) (by rw [Int.toNat_natCast,m6,m6];exact Nw h _ _ _ _ _ _) (aI e ?_))))),.inl ⟨bX,dm,a1,g,iX,rfl,o2,EH,jc⟩⟩
  refine aI (x:= .inl ()) ?_ ?_
  ·simp only
   rw [show ((ef m t).length:Nat)=m from cQ ..]
   exact ak
  ·simp only
   rw [show ((a7 (n+m) kl).length:Nat)=n+m from cQ ..]
   refine aI (VB h kl _ _ _ _ _ _) ?_
   rw [h.gZ]
   exact aI mu rfl
structure oG (m:Nat) (u v:ck):Prop where
 T : ∀i,i<m→ ∀j,u.T i j=v.T i j
 B : ∀i,i<m→u.B i=v.B i
theorem oG.pY {m N:Nat}{w:Rat}{u v:ck}(s:oG m u v)(h:nM m N w v):nM m N w u :=
 ⟨h.pos,h.hw,fun i ah j aB=>by rw [s.T i ah];exact h.hF i ah j aB,fun i ah=>by rw [s.B i ah];exact h.gO i ah⟩
theorem oG.cP {m:Nat}{u v:ck}(s:oG m u v){r:Nat}(al:r<m)(k:Nat):oG m (u.cP r k) (v.cP r k) where
 T:=fun i ah j=>by simp only [ck.cP,s.T i ah,s.T r al]
 B:=fun i ah=>by simp only [ck.cP,s.B i ah]
theorem oG.uE {m N:Nat}{w:Rat}{u v:ck}(s:oG m u v){r k:Nat}(h:se m N w v r k):se m N w u r k :=
 ⟨h.al,h.aJ,by rw [s.T r h.al];exact h.af,fun i ah j aB=>by rw [(s.cP h.al k).T i ah,s.T r h.al];exact h.yr i ah j aB⟩
theorem oG.trans {m:Nat}{u v t:ck}(a:oG m u v)(b:oG m v t):oG m u t:=⟨fun i ah j=>(a.T i ah j).trans (b.T i ah j),fun i ah=>(a.B i ah).trans (b.B i ah)⟩
theorem YI {a1:Nat}{g:Nat→Nat}(inj:∀i,i<a1→ ∀k,k<a1→g i=g k→i=k)(t:ck){r:Nat}(al:r<a1)(k:Nat):oG a1 ((hM g t).cP r k) (hM g (t.cP (g r) k)) :=
 ⟨fun i ah j=>(zE (t:=t) (k:=k) (inj i ah r al)).1 j,fun i ah=>(zE (t:=t) (k:=k) (inj i ah r al)).2⟩
theorem P6 {m n:Nat}{a:Nat→Nat→Int}{b:Nat→Int}{x:Nat→Rat}{c:Nat}:ct n (fun j=>dZ m n a b c j*x j)=((lm (b c):Int):Rat)*ct n (fun j=>(a c j:Rat)*x j):=by
 rw [← hX]
 exact fA fun j aB=>by rw [Jf aB];grind
theorem nb.Zp {m n:Nat}{a:Nat→Nat→Int}{b:Nat→Int}{t:ck}{a1:Nat}{g:Nat→Nat}(h:nb m n (n+m) (dZ m n a b) t a1 g)(gO:∀i,i<a1→t.B (g i)<n):LT m n a b a1 (n+m) (hM g t) where
 eqv:=fun x=>by
  have key:(∀i,i<m→ct n (fun j=>(a i j:Rat)*x j)=(b i:Rat))↔ ∀i,i<m→ct n (fun j=>dZ m n a b i j*x j)=dZ m n a b i (n+m):=by
   constructor
   ·intro aa i ah;rw [P6,DA,aa i ah]
   ·intro aa i ah
    have:=aa i ah
    rw [P6,DA] at this
    have h0:=PY (b i)
    have e:((lm (b i):Int):Rat)*(ct n (fun j=>(a i j:Rat)*x j)-(b i:Rat))=0:=by grind
    rcases Rat.mul_eq_zero.1 e with e|e
    ·exact (h0 e).elim
    ·grind
  rw [key]
  constructor
  ·intro aa i ah
   obtain ⟨W,hW⟩:=h.inv.ok.row
   show ct n (fun j=>t.T (g i) j*x j)=t.T (g i) (n+m)
   rw [hW (g i) (h.lt i ah) (n+m) (Nat.le_refl _),fA (g:=fun j=>ct m (fun c=>W (g i) c*(dZ m n a b c j*x j))) (fun j aB=>by
    rw [hW (g i) (h.lt i ah) j (by omega),← w1];exact fA fun c _=>by grind),o9]
   exact fA fun c aN=>by rw [hX,aa c aN]
  ·intro aa c aN
   have row : ∀i,i<m→ct n (fun j=>t.T i j*x j)=t.T i (n+m):=fun i ah=>by
    by_cases bN : ∃q,q<a1∧g q=i
    ·obtain ⟨q,bb,rfl⟩:=bN
     exact aa q bb
    ·obtain ⟨sy,qf⟩:=h.dead i ah fun q bb e=>bN ⟨q,bb,e⟩
     rw [h.z i ah sy]
     exact m2 fun j aB=>by rw [qf j aB];grind
   rw [h.inv.ok.qb c aN (n+m) (Nat.le_refl _),fA (g:=fun j=>ct m (fun i=>dZ m n a b c (t.B i)*(t.T i j*x j))) (fun j aB=>by
    rw [h.inv.ok.qb c aN j (by omega),← w1];exact fA fun i _=>by grind),o9]
   exact fA fun i ah=>by rw [hX,row i ah]
 unit:=fun i ah k aJ=>by
  show t.T (g i) (t.B (g k))=_
  rw [h.inv.ok.unit _ (h.lt i ah) _ (h.lt k aJ)]
  by_cases c:i=k
  ·rw [if_pos c,if_pos (by rw [c])]
  ·rw [if_neg c,if_neg fun e=>c (h.inj i ah k aJ e)]
 jK:=gO
 ls:=fun i ah=>h.inv.ls _ (h.lt i ah)
 Lm:=by omega
theorem nb.step {m n:Nat}{a:Nat→Nat→Int}{b:Nat→Int}{t:ck}{a1:Nat}{g:Nat→Nat}{K:Nat}{obj:Nat→Nat→Rat}{bN:Nat→Prop}(h:nb m n (n+m) (dZ m n a b) t a1 g)(gO:∀i,i<a1→t.B (g i)<n){u:ck}(bX:oG a1 u (hM g t)){r s:Nat}(cS:oL a1 (n+m) K obj bN u r s)(uT:s<n):
 nb m n (n+m) (dZ m n a b) (t.cP (g r) s) a1 g∧(∀i,i<a1→(t.cP (g r) s).B (g i)<n)∧oG a1 (u.cP r s) (hM g (t.cP (g r) s)):=by
 have al:=cS.al
 have af:0<t.T (g r) s:=by have:=cS.pos;rw [bX.T r al] at this;exact this
 have oX:t.T (g r) s≠0:=by grind
 have QV:=(bX.cP al s).trans (YI h.inj t al s)
 have EO : ∀d,d<m→(∀i,i<a1→g i≠d)→ ∀j,(t.cP (g r) s).T d j=t.T d j∧(t.cP (g r) s).B d=t.B d:=fun d bg gM j=>by
  obtain ⟨sy,qf⟩:=h.dead d bg gM
  simp only [ck.cP]
  rw [if_neg fun e=>gM r al e.symm,if_neg fun e=>gM r al e.symm,qf s uT]
  exact ⟨by grind,rfl⟩
 have p2 : ∀i,i<a1→(t.cP (g r) s).B (g i)<n:=fun i ah=>by
  simp only [ck.cP]
  split
  ·exact uT
  ·exact gO i ah
 have acp:(u.cP r s).kF a1 (n+m):=cS.Ax fun i ah=>by rw [bX.T i ah];exact h.inv.ls _ (h.lt i ah)
 refine ⟨⟨⟨h.inv.ok.cP (h.lt r al) (by omega) oX,fun i ah=> ?_,?_⟩,fun i ah a5=> ?_,h.le,h.lt,h.inj,fun d bg gM=> ?_⟩,p2,QV⟩
 ·by_cases bN : ∃q,q<a1∧g q=i
  ·obtain ⟨q,bb,rfl⟩:=bN
   have:=acp q bb
   rw [QV.T q bb] at this;exact this
  ·rw [(EO i ah (fun q bb e=>bN ⟨q,bb,e⟩) _).1];exact h.inv.ls i ah
 ·rw [h.inv.ok.Aa (h.lt r al) (by omega)]
  have:=h.inv.vn
  grind
 ·by_cases bN : ∃q,q<a1∧g q=i
  ·obtain ⟨q,bb,rfl⟩:=bN
   have:=p2 q bb;omega
  ·have gM : ∀q,q<a1→g q≠i:=fun q bb e=>bN ⟨q,bb,e⟩
   obtain ⟨ax,aC⟩:=EO i ah gM (n+m)
   rw [ax]
   rw [aC] at a5
   exact h.z i ah a5
 ·obtain ⟨sy,qf⟩:=h.dead d bg gM
  refine ⟨by rw [(EO d bg gM 0).2];exact sy,fun j aB=>by rw [(EO d bg gM j).1];exact qf j aB⟩
structure oH (m n:Nat) (a:Nat→Nat→Int) (b:Nat→Int) (a1:Nat) (g:Nat→Nat) (hH:Nat→Nat→Rat) (c1:Nat→Bool) (w:Rat) (u:ck):Prop where
 bN : ∃t,nb m n (n+m) (dZ m n a b) t a1 g∧(∀i,i<a1→t.B (g i)<n)∧oG a1 u (hM g t)∧w=gL m (dZ m n a b) t
 lt:LT m n a b a1 (n+m) u
 ok:fN a1 a1 (n+m) hH u
 Lv : ∀i,i<a1→c1 (u.B i)=true
theorem oH.pY {m n:Nat}{a:Nat→Nat→Int}{b:Nat→Int}{a1:Nat}{g:Nat→Nat}{hH:Nat→Nat→Rat}{c1:Nat→Bool}{w:Rat}{u:ck}(kz:Small m (n+m) (dZ m n a b))(h:oH m n a b a1 g hH c1 w u):nM a1 (n+m) w u:=by
 obtain ⟨t,o,R,ab,rfl⟩:=h.bN
 exact ab.pY (o.pY kz)
theorem oH.gD {m n:Nat}{a:Nat→Nat→Int}{b:Nat→Int}{a1:Nat}{g:Nat→Nat}{hH:Nat→Nat→Rat}{c1 kl:Nat→Bool}{w:Rat}{u:ck}{obj:Nat→Nat→Rat}{K:Nat}(kz:Small m (n+m) (dZ m n a b))(h:oH m n a b a1 g hH kl w u)(oU:∀j,j<n+m→c1 j=true→j<n)(acq:∀j,c1 j=true→kl j=true){r s:Nat}(cS:oL a1 (n+m) K obj (fun j=>c1 j=true) u r s):
 se a1 (n+m) w u r s∧oH m n a b a1 g hH kl (oA w u r s) (u.cP r s):=by
 obtain ⟨t,o,R,ab,aA⟩:=h.bN
 have uT:=oU s cS.bX cS.Ej
 obtain ⟨g1,g2,g3⟩:=o.step R ab cS uT
 have af:=cS.pos
 have RX:t.T (g r) s≠0:=by rw [ab.T r cS.al] at af;show t.T (g r) s≠0;have:0<t.T (g r) s:=af;grind
 refine ⟨aA▸ab.uE (o.uE kz cS.al (by omega) RX),⟨t.cP (g r) s,g1,g2,g3,?_⟩,h.lt.cP cS.al uT (by grind) (cS.Ax h.lt.ls),cS.ok h.ok,fun i ah=> ?_⟩
 ·rw [← Jl o.inv.ok o.inv.vn (o.lt r cS.al) (show s<n+m by omega) RX,aA]
  unfold oA
  rw [ab.T r cS.al];rfl
 ·simp only [ck.cP]
  split
  ·exact acq s cS.Ej
  ·exact h.Lv i ah
theorem O1 {m n:Nat}{a:Nat→Nat→Int}{b:Nat→Int}{a1:Nat}{g:Nat→Nat}(hm:m≤20)(a5:n≤40)(kz:Small m (n+m) (dZ m n a b)){hH:Nat→Nat→Rat}{c1:Nat→Bool}{w:Rat}{u:ck}(h:oH m n a b a1 g hH c1 w u)(oU:∀j,j<n+m→c1 j=true→j<n)(inj:∀i,i<a1→ ∀k,k<a1→g i=g k→i=k)(kj:a1≤m)
 (I:Nat→Int) (ai : ∀j,-100≤I j∧I j≤100) {c:Nat→Rat} {l:Nat} {V:Nat→Rat} (acr : ∀j,((I j:Int):Rat)=hC c l j) (s:oD m n a b c l c1 V) {dN:List (List bc)} (fL:kh a1 (n+m) m g w u dN) :
 ∃ok bD ky iX kl,rE (bL w).c6 (bL w).cK ((n+m:Nat):Int) (f8 a1 (n+m) g) dN (ef a1 u) (a7 (n+m) c1) (a7 (n+m) I)=some (ok,(bL bD).c6,(bL bD).cK,iX,ef a1 ky,a7 (n+m) kl)∧kh a1 (n+m) m g bD ky iX ∧
  ((ok=true∧oH m n a b a1 g hH kl bD ky∧(∀j,j<n+m→kl j=true→j<n)∧ ∃Bv,oD m n a b c (l+1) kl Bv)∨(ok=false∧LT m n a b a1 (n+m) ky∧ ∃q,q<n∧0<ky.di a1 (hC c l) q∧ ∀i,i<a1→ ¬0<ky.T i q)):=by
 have acs:(fun j=>((I j:Int):Rat))=hC c l:=funext acr
 obtain ⟨ok,bD,ky,iX,kl,e,cV,Bk,dW⟩:=Nv (dY:=a1) (m:=a1) (N:=n+m) (M:=m) (A:=hH) (h:=g) (by omega) (by omega) inj I (fun j _=>ai j) c1
  (fun w u=>oH m n a b a1 g hH c1 w u) (fun w u dn=>⟨dn.ok,dn.lt.ls,dn.pY kz⟩)
  (fun w u r q dn cS=>dn.gD kz oU (fun j aB=>aB) cS) h fL
 rw [acs] at dW
 refine ⟨ok,bD,ky,iX,kl,e,Bk,?_⟩
 rcases dW with ⟨o,R,ab⟩|⟨o,q,R,b5,ab,aA⟩
 ·left
  have JT : ∀j,kl j=true→c1 j=true:=fun j aB=>by rw [ab,Bool.and_eq_true] at aB;exact aB.1
  refine ⟨o,⟨cV.bN,cV.lt,cV.ok,fun i ah=> ?_⟩,fun j aB rp=>oU j aB (JT j rp),oD.next cV.lt s (fun j aB b5=>R j (by omega) b5) (fun j aB=>by rw [ab])⟩
  rw [ab]
  simp only
  rw [cV.Lv i ah,cV.lt.w2 _ ah,decide_eq_false (by grind)];rfl
 ·right
  exact ⟨o,cV.lt,q,oU q R b5,ab,aA⟩
def c4 (x:Rat):Option bq:=some (ja (f7 x))
theorem Zq {n d:Int}{x:Rat}(bg:0<d)(e:(d:Rat)*x=n):(n / (Int.gcd n d:Int),d / (Int.gcd n d:Int))=f7 x:=by
 have sf:(d:Rat)≠0:=fun c=>by
  have:d=0:=Rat.intCast_inj.1 (by rw [c];rfl)
  omega
 have aa:x=Rat.divInt n d:=by rw [Rat.divInt_eq_div,← e];grind
 have ax:(Rat.divInt n d).num=n / (Int.gcd n d:Int):=by rw [Rat.num_divInt,Int.sign_eq_one_of_pos bg,Int.one_mul,Int.gcd_comm]
 have aC:((Rat.divInt n d).den:Int)=d / (Int.gcd n d:Int):=by
  rw [Rat.den_divInt,if_neg (by omega),Int.gcd_comm]
  rw [Int.natCast_ediv,Int.natAbs_of_nonneg (by omega)]
 rw [aa];unfold f7;rw [ax,aC]
theorem IQ {n d:Int}{x:Rat}(bg:0<d)(e:(d:Rat)*x=n)(a5:(n.natAbs:Int)<B 50)(uQ:d<B 50):pI (gF n) (L d)=some (c4 x):=by
 have mu:=(hx (k:=50) (by omega)).2 a5
 have o2:=(hx (k:=50) (by omega)).2 uQ
 rw [Om bg (by omega) (by omega),Zq bg e];rfl
theorem xt {n:Int}(h:ng n):nB n=some (c4 (n:Rat)):=by
 rw [Dc h];unfold c4 f7;rw [Rat.num_intCast,Rat.den_intCast];rfl
theorem IR {a b:Int}(bE:0≤a)(aV:0≤b)(o:a<B 24)(R:b<B 24):a*b<B 48:=by
 have e:B 48=B 24*B 24:=by decide +kernel
 rw [e]
 exact Int.lt_of_le_of_lt (Int.mul_le_mul_of_nonneg_left (Int.le_of_lt R) bE) (Int.mul_lt_mul_of_pos_right o (by omega))
theorem PB {x y:Rat}(aa:gy x)(aP:gy y):wB (c4 x) (c4 y)=some (c4 (x*y)):=by
 have p:=aa.c1
 have q:=aP.c1
 have o:=p.uC
 have R:=p.uD
 have ab:=q.uC
 have aA:=q.uD
 have aF:=p.pos
 have br:=q.pos
 have gO:=P3
 have aaU:=ol 48
 have hn:=IR (by omega) (by omega) p.num q.num
 have fS:=IR (by omega) (by omega) p.den q.den
 have o3:(((f7 x).1*(f7 y).1).natAbs:Int)<B 48:=by rw [Int.natAbs_mul];exact hn
 have bX:wB (some (ja (f7 x))) (some (ja (f7 y)))=((n4 (gF (f7 x).1) (gF (f7 y).1)).bind fun bh=>(mE (L (f7 x).2) (L (f7 y).2)).bind fun bK=>(pI bh bK).bind fun bi=>some bi):=rfl
 unfold c4
 rw [bX,On (by omega) (by omega),Option.bind_some,xh (jG _) (jG _) (by omega) (by omega),fe (by omega),fe (by omega),Option.bind_some,IQ (x:=x*y) (Int.mul_pos aF br) ?_ (by omega) (by omega)]
 ·rfl
 ·have:=Dt x
  have:=Dt y
  simp only [f7,Rat.intCast_mul]
  grind
theorem P7 {x y:Rat}(aa:gy x)(aP:gy y):wG (c4 x) (c4 y)=some (c4 (x+y)):=by
 have p:=aa.c1
 have q:=aP.c1
 have o:=p.uC
 have R:=p.uD
 have ab:=q.uC
 have aA:=q.uD
 have aF:=p.pos
 have br:=q.pos
 have gO:=P3
 have aaU:=ol 48
 obtain ⟨bF,-,-⟩:=OW p q
 obtain ⟨sy,-,-⟩:=OW q p
 have fS:=IR (by omega) (by omega) p.den q.den
 have bX:wG (some (ja (f7 x))) (some (ja (f7 y)))=((pF (some (ja (f7 x))) (L (f7 y).2)).bind fun bk=>(pF (some (ja (f7 y))) (L (f7 x).2)).bind fun bK=>(sG bk bK).bind fun bi=>(mE (L (f7 x).2) (L (f7 y).2)).bind fun c0=>(pI bi c0).bind fun dv=>some dv):=rfl
 unfold c4
 rw [bX,C1 (by omega) (by omega) (by omega),Option.bind_some,C1 (by omega) (by omega) (by omega),Option.bind_some,OV (by omega) (by omega),Option.bind_some,xh (jG _) (jG _) (by omega) (by omega),fe (by omega),fe (by omega),Option.bind_some,IQ (x:=x+y) (Int.mul_pos aF br) ?_ (by omega) (by omega)]
 ·rfl
 ·have:=Dt x
  have:=Dt y
  simp only [f7,Rat.intCast_mul,Rat.intCast_add]
  grind
theorem Qw {x:Rat}(h:gy x):ua (c4 x)=some (c4 x):=by
 have:=h.c1
 unfold c4
 rw [show ja (f7 x)=ja ((f7 x).1,(f7 x).2) from rfl,Zl (Int.le_of_lt this.pos),if_pos ⟨this.num,this.den⟩];rfl
def nh (n:Nat)(c:Nat→Int)(l j:Nat):Int:=match l with
 | 0=>if j<n then c j else 0
 | l+1=>if j=l then -1 else 0
def l2 (n:Nat)(c:Nat→Int)(j:Nat):Rat:=((nh n c 0 j:Int):Rat)
theorem O2 (n:Nat)(c:Nat→Int)(l j:Nat):((nh n c l j:Int):Rat)=hC (l2 n c) l j:=by
 cases l with
 | zero=>rfl
 | succ l=>simp only [nh,hC];split<;>rfl
theorem PC {n:Nat}{c:Nat→Int}(h:∀j,j<n→ -100≤c j∧c j≤100)(l j:Nat): -100≤nh n c l j∧nh n c l j≤100:=by
 cases l with
 | zero =>
  simp only [nh]
  split
  ·exact h j ‹_›
  ·omega
 | succ l=>simp only [nh];split<;>omega
def JU (m n:Nat)(a:Nat→Nat→Int)(b c:Nat→Int)(a1:Nat)(g:Nat→Nat)(hH:Nat→Nat→Rat)(l:Nat)(s:Bool×List Int×List Int×List (List bc)×List Int×List Bool):Prop :=
 ∃w u dN c1 V I,s=((bL w).c6,(bL w).cK,a7 (n+m) I,dN,ef a1 u,a7 (n+m) c1)∧oH m n a b a1 g hH c1 w u∧(∀j,j<n+m→c1 j=true→j<n)∧kh a1 (n+m) m g w u dN∧oD m n a b (l2 n c) l c1 V
theorem Wz {m n:Nat}{a:Nat→Nat→Int}{b c:Nat→Int}{a1:Nat}{g:Nat→Nat}{hH:Nat→Nat→Rat}(hm:m≤20)(a5:n≤40)(kz:Small m (n+m) (dZ m n a b))(aN:∀j,j<n→ -100≤c j∧c j≤100)(x0:Int)(eK dQ jA:List Int)(k:Nat)(aJ:k<n)(s:Bool×List Int×List Int×List (List bc)×List Int×List Bool)(bX:JU m n a b c a1 g hH (k+1) s):
 ∃bI,tA (n:Int) x0 eK dQ jA ((n+m:Nat):Int) (f8 a1 (n+m) g) (k:Int) s.1 s.2.1 s.2.2.1 s.2.2.2.1 s.2.2.2.2.1 s.2.2.2.2.2=some (.inl (((k+1:Nat):Int),bI))∧JU m n a b c a1 g hH (k+2) bI:=by
 obtain ⟨w,u,dN,c1,V,I,rfl,dn,oU,fL,tr⟩:=bX
 obtain ⟨t,bN,-⟩:=dn.bN
 obtain ⟨ok,bD,ky,iX,kl,e,Bk,dW⟩:=O1 hm a5 kz dn oU bN.inj bN.le (nh n c (k+1)) (PC aN (k+1)) (O2 n c (k+1)) tr fL
 rcases dW with ⟨rfl,x8,JT,Bv,acu⟩|⟨-,qh,q,bb,dy,gM⟩
 ·refine ⟨((bL bD).c6,(bL bD).cK,a7 (n+m) (nh n c (k+1)),iX,ef a1 ky,a7 (n+m) kl),?_,bD,ky,iX,kl,Bv,_,rfl,x8,JT,Bk,acu⟩
  have BD:(List.replicate (a7 (n+m) I).length 0:List Int).set (0+((k:Int)).toNat) (-1)=a7 (n+m) (nh n c (k+1)):=by
   rw [cQ,m6,Int.toNat_natCast,Nat.zero_add,ke];exact fc fun j _=>rfl
  unfold tA
  simp only
  rw [BD]
  refine dM (by omega) (bO (by rw [cQ];omega) (bO (by rw [List.length_replicate,cQ,Int.toNat_natCast];omega) (aI e ?_)))
  rw [fM (by omega)]
 ·obtain ⟨i,ah,af⟩:=qh.WO dy
  exact (gM i ah af).elim
theorem X6 {m n:Nat}{a:Nat→Nat→Int}{b c:Nat→Int}{a1:Nat}{g:Nat→Nat}{hH:Nat→Nat→Rat}(hm:m≤20)(a5:n≤40)(kz:Small m (n+m) (dZ m n a b))(aN:∀j,j<n→ -100≤c j∧c j≤100)(x0:Int)(eK dQ jA:List Int){w:Rat}{u:ck}{dN:List (List bc)}{c1:Nat→Bool}{V:Nat→Rat}{I:Nat→Int}(dn:oH m n a b a1 g hH c1 w u)(oU:∀j,j<n+m→c1 j=true→j<n)(fL:kh a1 (n+m) m g w u dN)(tr:oD m n a b (l2 n c) 1 c1 V):
 ∃ic jr s3 ry,Cp (n:Int) x0 eK dQ jA ((n+m:Nat):Int) (f8 a1 (n+m) g) 0 (bL w).c6 (bL w).cK (a7 (n+m) I) dN (ef a1 u) (a7 (n+m) c1)=some ((bL ic).c6,(bL ic).cK,s3,ef a1 jr,a7 (n+m) ry)∧oH m n a b a1 g hH ry ic jr∧kh a1 (n+m) m g ic jr s3∧ ∃V,oD m n a b (l2 n c) (n+1) ry V:=by
 unfold Cp
 obtain ⟨r,e,al⟩:=pK (f:=fun w:Int×Bool×(List Int)×(List Int)×(List (List bc))×(List Int)×(List Bool)=>tA (n:Int) x0 eK dQ jA ((n+m:Nat):Int) (f8 a1 (n+m) g) w.1 w.2.1 w.2.2.1 w.2.2.2.1 w.2.2.2.2.1 w.2.2.2.2.2.1 w.2.2.2.2.2.2)
  (fun (k:Nat) (s:Bool×List Int×List Int×List (List bc)×List Int×List Bool)=>((k:Int),s)) n (fun k s=>JU m n a b c a1 g hH (k+1) s)
  (fun r=> ∃ic jr s3 ry,r=((bL ic).c6,(bL ic).cK,s3,ef a1 jr,a7 (n+m) ry)∧oH m n a b a1 g hH ry ic jr∧kh a1 (n+m) m g ic jr s3∧ ∃V,oD m n a b (l2 n c) (n+1) ry V)
  (fun k aJ s bX=> .inl (Wz hm a5 kz aN x0 eK dQ jA k aJ s bX))
  (fun s bX=>by
    obtain ⟨w,u,dN,c1,V,I,rfl,dn,oU,fL,tr⟩:=bX
    exact ⟨_,by unfold tA;exact er (by simp) rfl,w,u,dN,c1,rfl,dn,fL,V,tr⟩)
  ((bL w).c6,(bL w).cK,a7 (n+m) I,dN,ef a1 u,a7 (n+m) c1) ⟨w,u,dN,c1,V,I,rfl,dn,oU,fL,tr⟩
 obtain ⟨ic,jr,s3,ry,rfl,o,R,ab⟩:=al
 exact ⟨ic,jr,s3,ry,e,o,R,ab⟩
theorem Zr:B 24≤B 50:=by decide +kernel
theorem Zs:2≤dR:=by decide +kernel
theorem JV:40*(dR*100)≤21*100*(dR*dR):=by
 have:=Nat.mul_le_mul_left dR Zs
 omega
theorem X7 {n:Nat}(x0 fB:Int)(eK dQ jA:List Int)(nx:Bool)(qW:List Int)(EP:Int)(aW:List b0)(bl:List (List bc))(cc:List Int)(cM:List Bool)(a5:n≤40):
 Cq (n:Int) x0 fB eK dQ jA nx qW EP aW bl cc cM 0 (List.replicate n (none:Option bq))=some (a7 n fun _=>c4 0):=by
 unfold Cq
 obtain ⟨s,e,-⟩:=iG (f:=fun w:Int×(List (Option bq))=>wg (n:Int) x0 fB eK dQ jA nx qW EP aW bl cc cM w.1 w.2)
  (fun (k:Nat) (_:Unit)=>((k:Int),a7 n fun j=>if j<k then c4 0 else none)) n (fun _ _=>True) (fun _=>a7 n fun _=>c4 0)
  (fun k aJ _ _=>by
    refine ⟨(),?_,trivial⟩
    unfold wg
    refine dM (by simp only;omega) (aI (x:=c4 0) (xt (n:=0) (by rw [lM];omega)) (bO (by simp only;rw [cQ];omega) (bO (by simp only;rw [cQ,Int.toNat_natCast];omega) ?_)))
    simp only
    rw [fM (by omega),Int.toNat_natCast,Nat.zero_add,ke]
    congr 3
    refine fc fun j _=> ?_
    by_cases bF:j=k
    ·subst bF;rw [if_pos rfl,if_pos (by omega)]
    ·rw [if_neg bF]
     by_cases cI:j<k
     ·rw [if_pos cI,if_pos (by omega)]
     ·rw [if_neg cI,if_neg (by omega)])
  (fun _ _=>by
    unfold wg
    refine er (by simp) ?_
    simp only
    congr 2
    exact fc fun j aB=>by rw [if_pos aB]) () trivial
 have e0:(a7 n fun j=>if j<0 then c4 0 else none)=List.replicate n none:=by
  rw [m6];exact fc fun j _=>by rw [if_neg (by omega)]
 rw [← e0];exact e
theorem X8 {t:ck}{N i j:Nat}:t.gb (i+1) N j=t.gb i N j+if t.B i=j then t.T i N else 0:=rfl
theorem P8 {m n:Nat}{a:Nat→Nat→Int}{b:Nat→Int}{a1 N:Nat}{u:ck}(h:LT m n a b a1 N u){i k:Nat}(ah:i<a1)(aJ:k<a1)(e:u.B i=u.B k):i=k:=by
 by_cases c:i=k
 ·exact c
 ·have o:=h.unit i ah k aJ
  rw [← e,h.unit i ah i ah,if_pos rfl,if_neg c] at o
  grind
theorem Xc {m n a1 N:Nat}{a:Nat→Nat→Int}{b:Nat→Int}{g:Nat→Nat}{w:Rat}{u:ck}(x0 fB:Int)(eK dQ jA:List Int)(nx:Bool)(cM:List Bool)(hm:a1≤20)(fV:N≤1000)(aO:LT m n a b a1 N u)(f:nM a1 N w u){M:Nat}{dN:List (List bc)}(fL:kh a1 N M g w u dN)(a5:n≤40):
 Cr (a1:Int) x0 fB eK dQ jA nx (bL w).cK (N:Int) (ef a1 u) (f8 a1 N g) dN cM 0 (a7 n fun _=>c4 0)=some (a7 n fun j=>c4 (u.gb a1 N j)):=by
 have hw:=Jk f.hw
 have acv:0<w.num:=by
  have:(0:Rat)<((w.num:Int):Rat):=by rw [hw.1];exact f.pos
  exact Rat.intCast_lt_intCast.1 (by rw [show ((0:Int):Rat)=0 from rfl];exact this)
 have aaV:(bL w).cK=L w.num:=by
  show L (w.num.natAbs:Int)=_
  rw [Int.natAbs_of_nonneg (by omega)]
 have jq:=s0 D3
 have ka:=s0 JR
 have ae9:=Zr
 rw [aaV]
 unfold Cr
 obtain ⟨s,e,-⟩:=iG (f:=fun v:Int×(List (Option bq))=>wh (a1:Int) x0 fB eK dQ jA nx (L w.num) (N:Int) (ef a1 u) (f8 a1 N g) dN cM v.1 v.2)
  (fun (k:Nat) (_:Unit)=>((k:Int),a7 n fun j=>c4 (u.gb k N j))) a1 (fun _ _=>True) (fun _=>a7 n fun j=>c4 (u.gb a1 N j))
  (fun k aJ _ _=>by
    refine ⟨(),?_,trivial⟩
    have gO:=aO.jK k aJ
    have hF:=Jk (f.hF k aJ N (Nat.le_refl _))
    have cn:u.gb k N (u.B k)=0:=ck.HW fun i ah e=>by have:=P8 aO (by omega) aJ e;omega
    have JD:pI (bL (u.T k N*w)) (L w.num)=some (c4 (u.T k N)):=by
     refine IQ acv ?_ (by omega) (by omega)
     rw [hw.1,hF.1];grind
    unfold wh
    simp only
    refine dM (by omega) (bO (by unfold ef;rw [cQ];omega) (aI (x:=((u.B k:Nat):Int)) (by rw [Int.toNat_natCast];exact jt aJ) (bO (by unfold f8;rw [cQ];omega) (aI (x:=some (g k,N+1)) (by rw [Int.toNat_natCast];exact jt aJ) (aI (x:=(g k,N+1)) rfl (aI (fL.row k aJ) (bO (by simp only;omega) (aI (x:=bL (u.T k N*w)) (by rw [Int.toNat_natCast];exact jt (by omega)) (aI JD (bO (by rw [cQ];omega) (bO (by rw [cQ,Int.toNat_natCast];omega) ?_)))))))))))
    rw [fM (by omega),Int.toNat_natCast,Nat.zero_add,ke]
    congr 3
    refine fc fun j _=> ?_
    rw [X8]
    by_cases bF:j=u.B k
    ·subst bF
     rw [if_pos rfl,if_pos rfl,cn]
     congr 1;grind
    ·rw [if_neg bF,if_neg (fun e=>bF e.symm)]
     congr 1;grind)
  (fun _ _=>by unfold wh;exact er (by simp) rfl) () trivial
 exact e
theorem PD {m n:Nat}{a:Nat→Nat→Int}{b:Nat→Int}{a1 N:Nat}{w:Rat}{u:ck}{K:Nat}(aO:LT m n a b a1 N u)(f:∀i,i<a1→dl K (u.T i N*w))(j:Nat):dl K (u.gb a1 N j*w):=by
 by_cases c : ∃i,i<a1∧u.B i=j
 ·obtain ⟨i,ah,rfl⟩:=c
  have:u.gb a1 N (u.B i)=u.T i N:=by
   unfold ck.gb
   rw [jZ ah (f:=fun k=>if u.B k=u.B i then u.T k N else 0) (fun k aJ cH=>if_neg fun e=>cH (P8 aO aJ ah e)),if_pos rfl]
  rw [this];exact f i ah
 ·rw [ck.HW fun i ah e=>c ⟨i,ah,e⟩]
  exact ⟨0,by rw [Rat.zero_mul];rfl,by simp⟩
theorem Zt {m n:Nat}{a:Nat→Nat→Int}{b:Nat→Int}{a1 N:Nat}{w:Rat}{u:ck}(aO:LT m n a b a1 N u)(f:nM a1 N w u)(j:Nat):dl dR (u.gb a1 N j*w):=PD aO (fun i ah=>f.hF i ah N (Nat.le_refl _)) j
theorem oH.QW {m n:Nat}{a:Nat→Nat→Int}{b:Nat→Int}{a1:Nat}{g:Nat→Nat}{w:Rat}{u:ck}{hH:Nat→Nat→Rat}{c1:Nat→Bool}(kz:Small m (n+m) (dZ m n a b))(h:oH m n a b a1 g hH c1 w u):dl (jT 100 m) w∧ ∀i,i<a1→dl (jT 100 m) (u.T i (n+m)*w):=by
 obtain ⟨t,bN,-,bX,rfl⟩:=h.bN
 have qg:dl (jT 100 m) (1*t.D m (dZ m n a b)):=by
  rw [Rat.one_mul]
  exact xy fun i ah c aN=>kz.n3 c aN _ (Nat.le_of_lt (bN.inv.ok.jK i ah))
 refine ⟨by have:=DR qg;rw [Rat.one_mul] at this;exact this,fun i ah=> ?_⟩
 rw [bX.T i ah]
 refine DR ?_
 show dl (jT 100 m) (t.T (g i) (n+m)*_)
 rw [← bN.inv.ok.vj (bN.lt i ah) (Nat.le_refl _)]
 refine xy fun k aJ c aN=> ?_
 simp only [fP]
 split
 ·exact kz.n3 c aN _ (Nat.le_refl _)
 ·exact kz.n3 c aN _ (Nat.le_of_lt (bN.inv.ok.jK k aJ))
theorem PE {n:Nat}{w:Rat}{x:Nat→Rat}{c:Nat→Int}(hw:dl (21*100*dR) w)(af:0<w)(aa:∀j,dl dR (x j*w))(aN:∀j,j<n→ -100≤c j∧c j≤100){k:Nat}(aJ:k≤n)(a5:n≤40):gy (ct k fun j=>x j*(c j:Rat)):=by
 have o:dl (k*(dR*100)) (ct k fun j=>x j*w*(c j:Rat)):=dl.sum fun j aB=>(aa j).mul ⟨c j,rfl,by have:=aN j (by omega);omega⟩
 have R:k*(dR*100)≤40*(dR*100):=Nat.mul_le_mul_right _ (by omega)
 refine xK (K:=21*100*(dR*dR)) (hw.mono D3) (o.mono (Nat.le_trans R JV)) (by grind) ?_ (s0 (Nat.le_refl _))
 rw [← hX]
 exact fA fun j _=>by grind
theorem Qx {w x:Rat}(hw:dl (21*100*dR) w)(af:0<w)(aa:dl dR (x*w)):gy x :=
 xK (K:=21*100*(dR*dR)) (hw.mono D3) (aa.mono JR) (by grind) (by grind) (s0 (Nat.le_refl _))
theorem Zu {w x:Rat}{c:Int}(hw:dl (21*100*dR) w)(af:0<w)(aa:dl dR (x*w))(aN:-100≤c∧c≤100):gy (x*(c:Rat)):=by
 have:=aa.mul (show dl 100 (c:Rat) from ⟨c,rfl,by omega⟩)
 exact xK (K:=21*100*(dR*dR)) (hw.mono D3) (this.mono (by have:=JV;omega)) (by grind) (by grind) (s0 (Nat.le_refl _))
theorem YJ {n:Nat}{w:Rat}(x0 fB:Int)(eK dQ jA:List Int){x:Nat→Rat}{c:Nat→Int}(aP:jA=a7 n c)(hw:dl (21*100*dR) w)(af:0<w)(aa:∀j,dl dR (x j*w))(aN:∀j,j<n→ -100≤c j∧c j≤100)(a5:n≤40):
 Cs (n:Int) x0 fB eK dQ jA (a7 n fun j=>c4 (x j)) (c4 0) 0=some (c4 (ct n fun j=>x j*(c j:Rat))):=by
 subst aP
 unfold Cs
 obtain ⟨s,e,-⟩:=iG (f:=fun v:(Option bq)×Int=>wi (n:Int) x0 fB eK dQ (a7 n c) (a7 n fun j=>c4 (x j)) v.1 v.2)
  (fun (k:Nat) (_:Unit)=>(c4 (ct k fun j=>x j*(c j:Rat)),(k:Int))) n (fun _ _=>True) (fun _=>c4 (ct n fun j=>x j*(c j:Rat)))
  (fun k aJ _ _=>by
    refine ⟨(),?_,trivial⟩
    have acw:=aN k aJ
    have ah:ng (c k):=by rw [lM];omega
    unfold wi
    simp only
    refine dM (by omega) (bO (by rw [cQ];omega) (aI (x:=c4 (x k)) (by rw [Int.toNat_natCast];exact jt aJ) (bO (by rw [cQ];omega) (aI (x:=c k) (by rw [Int.toNat_natCast];exact jt aJ) (aI (xt ah) (aI (PB (Qx hw af (aa k)) (zL ah)) (aI (P7 (PE hw af aa aN (Nat.le_of_lt aJ) a5) (Zu hw af (aa k) acw)) ?_)))))))
    rw [fM (by omega)];rfl)
  (fun _ _=>by unfold wi;exact er (by simp) rfl) () trivial
 exact e
theorem Zv {m n:Nat}{a:Nat→Nat→Int}{b:Nat→Int}{a1 N:Nat}{u:ck}(h:LT m n a b a1 N u)(a5:n≤N):fN a1 a1 N u.T u where
 qb:=fun c aN j _=>by
  rw [jZ aN (f:=fun i=>u.T c (u.B i)*u.T i j) (fun i ah cH=>by rw [h.unit c aN i ah,if_neg (fun e=>cH e.symm)];grind),h.unit c aN c aN,if_pos rfl];grind
 row:=⟨fun i c=>if i=c then 1 else 0,fun i ah j _=>by
  rw [jZ ah (f:=fun c=>(if i=c then (1:Rat) else 0)*u.T c j) (fun c _ cH=>by rw [if_neg (Ne.symm cH)];grind),if_pos rfl];grind⟩
 unit:=h.unit
 jK:=fun i ah=>Nat.lt_of_lt_of_le (h.jK i ah) a5
theorem X9 {p:nD}{m n:Nat}{a:Nat→Nat→Int}{b:Nat→Int}(h:oY p m n a b){c:Nat→Int}(qk:p.kc=a7 n c)(aN:∀j,j<n→ -100≤c j∧c j≤100):
 ∃r,za p.kD p.jQ p.gr p.gu p.kc=some r∧((¬qD m n a b∧r=(2,[],none))∨(qD m n a b∧ ¬Bounded m n a b (l2 n c)∧r=(3,[],none)) ∨
  (∃x w,rX m n a b (l2 n c) x∧(0<w∧dl (jT 100 m) w∧ ∀j,dl (jT 100 m) (x j*w))∧(∀j,gy (x j))∧gy (val n (l2 n c) x)∧r=(0,a7 n (fun j=>c4 (x j)),c4 (val n (l2 n c) x)))):=by
 have hm:=h.hm
 have a5:=h.a5
 have kz:=Ot h
 obtain ⟨r,e,al⟩:=X5 h
 unfold za
 rcases al with ⟨bX,t,a1,g,dN,rfl,bN,gO,fL⟩|⟨bX,rfl⟩
 ·have aO:=bN.Zp gO
  have dn:oH m n a b a1 g (hM g t).T (fun j=>decide (j<n)) (gL m (dZ m n a b) t) (hM g t) :=
   ⟨⟨t,bN,gO,⟨fun _ _ _=>rfl,fun _ _=>rfl⟩,rfl⟩,aO,Zv aO (by omega),fun i ah=>decide_eq_true (gO i ah)⟩
  obtain ⟨ok,ic,jr,s3,ry,ax,acx,dW⟩:=O1 hm a5 kz dn (fun j _ aB=>of_decide_eq_true aB) bN.inj bN.le (nh n c 0) (PC aN 0) (O2 n c 0) (oD.zero (c:=l2 n c) (fun j aB=>decide_eq_true aB) (fun _=>0)) fL
  have BD:p.kc++(List.replicate (n+m) 0:List Int).drop p.kc.length=a7 (n+m) (nh n c 0):=by
   rw [qk,cQ]
   apply List.ext_getElem?
   intro i
   by_cases ci:i<n
   ·rw [List.getElem?_append_left (by rw [cQ];exact ci),ga ci,ga (by omega)];simp only [nh];rw [if_pos ci]
   ·rw [List.getElem?_append_right (by rw [cQ];omega),cQ,List.getElem?_drop,show n+(i-n)=i by omega]
    by_cases K6:i<n+m
    ·rw [List.getElem?_replicate,if_pos K6,ga K6];simp only [nh];rw [if_neg ci]
    ·rw [List.getElem?_replicate,if_neg K6,List.getElem?_eq_none_iff.2 (by rw [cQ];omega)]
  have RY:p.kc.length=n:=by rw [qk,cQ]
  rcases dW with ⟨rfl,oS,aaW,afv,Bj⟩|⟨rfl,qh,q,bb,dy,gM⟩
  ·obtain ⟨lx,lY,bC,afa,aC,rs,acy,afw,acz⟩:=X6 (I:=nh n c 0) hm a5 kz aN p.kD p.gr p.gu p.kc oS aaW acx Bj
   have f2:=rs.pY kz
   have JS:=acz.mn rs.lt rs.Lv
   have aa:=Zt rs.lt f2
   have a3:ct n (fun j=>lY.gb a1 (n+m) j*(c j:Rat))=val n (l2 n c) (lY.gb a1 (n+m)):=fA fun j aB=>by
    have:l2 n c j=(c j:Rat):=by unfold l2 nh;simp only;rw [if_pos aB]
    rw [this];exact Rat.mul_comm _ _
   refine ⟨_,aI e ?_,.inr (.inr ⟨lY.gb a1 (n+m),lx,JS,⟨f2.pos,(rs.QW kz).1,fun j=>PD rs.lt (rs.QW kz).2 j⟩,fun j=>Qx f2.hw f2.pos (aa j),?_,rfl⟩)⟩
   ·simp only
    refine bO (by omega) (bO (by rw [RY,Int.toNat_natCast];omega) (aI (by rw [Int.toNat_natCast,BD];exact ax) (fw rfl ?_)))
    rw [h.gZ,Int.toNat_natCast,Int.toNat_natCast,BD]
    refine aI aC (bO (by omega) (aI (X7 _ _ _ _ _ _ _ _ _ _ _ _ a5) (aI (x:=a7 n fun j=>c4 (lY.gb a1 (n+m) j)) ?_ (aI (x:=c4 0) (xt (n:=0) (by rw [lM];omega)) (aI (x:=c4 (val n (l2 n c) (lY.gb a1 (n+m)))) ?_ rfl)))))
    ·simp only
     rw [show ((ef a1 lY).length:Nat)=a1 from cQ ..]
     exact Xc _ _ _ _ _ _ _ (by have:=bN.le;omega) (by omega) rs.lt f2 acy a5
    ·rw [cQ,← a3]
     exact YJ _ _ _ _ _ qk f2.hw f2.pos aa aN a5
   ·rw [← a3];exact PE f2.hw f2.pos aa aN (Nat.le_refl _) a5
  ·refine ⟨_,aI e ?_,.inr (.inl ⟨bX,qh.Kq _ bb dy gM,rfl⟩)⟩
   simp only
   exact bO (by omega) (bO (by rw [RY,Int.toNat_natCast];omega) (aI (by rw [Int.toNat_natCast,BD];exact ax) (ib rfl rfl)))
 ·exact ⟨_,aI e rfl,.inl ⟨bX,rfl⟩⟩
def uF (k:Nat)(x:b4):List eW:=(if x.mJ=2 then [] else [⟨(k:Int),1⟩])++(if x.mJ=1 then [] else [⟨(k:Int),-1⟩])
def nN (fT:List b4):Nat→List eW
 | 0=>[]
 | n+1=>nN fT n++(match fT[n]? with
  | some x=>uF n x
  | none=>[])
theorem IU (fT:List b4): ∀n,(nN fT n).length≤2*n
 | 0=>by simp [nN]
 | n+1=>by
  have:=IU fT n
  rw [nN,List.length_append]
  have R:(match fT[n]? with
   | some x=>uF n x
   | none=>[]).length≤2:=by
   split
   ·rename_i x _;unfold uF;rw [List.length_append];split<;>split<;>simp
   ·simp
  omega
theorem O3 {fT:List b4}: ∀ {n:Nat} {c:eW},n≤fT.length→c∈nN fT n→ ∃k:Nat,c.hp=k∧k<n∧(c.sY=1∨c.sY = -1)
 | 0,c,_,h=>by simp [nN] at h
 | n+1,c,a5,h=>by
  rw [nN,List.mem_append] at h
  rcases h with h|h
  ·obtain ⟨k,o,R,ab⟩:=O3 (by omega) h
   exact ⟨k,o,by omega,ab⟩
  ·rw [List.getElem?_eq_getElem (by omega)] at h
   simp only [uF,List.mem_append] at h
   rcases h with h|h
   ·split at h
    ·simp at h
    ·simp at h;subst h;exact ⟨n,rfl,by omega,.inl rfl⟩
   ·split at h
    ·simp at h
    ·simp at h;subst h;exact ⟨n,rfl,by omega,.inr rfl⟩
theorem Ir (s:cz)(dn:s.bB.length≤1000):ty s=some (nN s.bB s.bB.length):=by
 unfold ty FJ
 rw [gY]
 obtain ⟨x,e,-⟩:=iG (f:=fun w:Int×List eW=>vC s.bB (s.bB.length:Nat) w.1 w.2) (fun (n:Nat) (_:Unit)=>((n:Int),nN s.bB n)) s.bB.length (fun _ _=>True) (fun _=>nN s.bB s.bB.length)
  (fun n a5 _ _=>by
    refine ⟨(),?_,trivial⟩
    have aa:=List.getElem?_eq_getElem a5
    have aO:=IU s.bB n
    have ax:nN s.bB (n+1)=nN s.bB n++uF n s.bB[n]:=by rw [nN,aa]
    unfold vC
    refine dM (by simp only;omega) (bO (by simp only;omega) (aI (x:=s.bB[n]) (by simp only;rw [Int.toNat_natCast];exact aa) ?_))
    simp only
    rw [fM (by omega),ax]
    unfold uF
    by_cases bF:s.bB[n].mJ=2
    ·rw [if_pos bF]
     refine ib (uV bF) (fw (Ko (by omega)) (bO (by simp only [List.length_append,List.length_cons,List.length_nil];omega) ?_))
     rw [if_neg (by omega)];simp
    ·rw [if_neg bF]
     refine fw (Ko bF) (bO (by simp only [List.length_append,List.length_cons,List.length_nil];omega) ?_)
     by_cases cI:s.bB[n].mJ=1
     ·refine ib (uV cI) ?_
      rw [if_pos cI];simp
     ·refine fw (Ko cI) (bO (by simp only [List.length_append,List.length_cons,List.length_nil];omega) ?_)
      rw [if_neg cI];simp)
  (fun _ _=>by unfold vC;exact er (by simp) rfl) () trivial
 exact aI e rfl
def jR (s:cz)(k:Nat):Int×Int:=(sD s k).getD (0,0)
theorem Dd (s:cz)(h:mr s)(k:Nat)(aJ:k<s.bB.length):sD s k=some (jR s k)∧(-100≤(jR s k).1∧(jR s k).1≤100)∧(-100≤(jR s k).2∧(jR s k).2≤100):=by
 obtain ⟨x,y,o,ab,aA⟩:=YG s h k (by omega) (by omega)
 have e:jR s k=(x,y):=by unfold jR;rw [o];rfl
 rw [e];exact ⟨o,ab,aA⟩
def kK (s:cz)(j:Int)(kQ k:Nat):Int :=
 match s.bB[k]? with
 | none=>0
 | some x=>if j=x.gr then (if kQ=0 then (jR s k).1 else (jR s k).2) else if j=x.gu then -(if kQ=0 then (jR s k).1 else (jR s k).2) else 0
theorem Zw (s:cz)(h:mr s)(j:Int)(kQ k:Nat): -100≤kK s j kQ k∧kK s j kQ k≤100:=by
 unfold kK
 split
 ·omega
 ·rename_i x aa
  obtain ⟨-,ab,aA⟩:=Dd s h k (fI aa)
  split
  ·split<;>omega
  ·split
   ·split<;>omega
   ·omega
theorem YK (s:cz)(h:mr s)(j:Int)(aW:List Int)(bl cc:Int)(cM:List (List Int)):
 BJ s.cR s.bB j aW bl cc (len_ d5 s.bB) cM 0 (a7 s.bB.length fun _=>(0:Int)) (a7 s.bB.length fun _=>(0:Int))=some (a7 s.bB.length (kK s j 0),a7 s.bB.length (kK s j 1)):=by
 obtain ⟨-,-,f3,f4⟩:=id h
 unfold BJ
 rw [gY]
 obtain ⟨x,e,-⟩:=iG (f:=fun w:Int×List Int×List Int=>vx s.cR s.bB j aW bl cc (s.bB.length:Nat) cM w.1 w.2.1 w.2.2) (fun (n:Nat) (_:Unit)=>((n:Int),(a7 s.bB.length fun k=>if k<n then kK s j 0 k else 0),a7 s.bB.length fun k=>if k<n then kK s j 1 k else 0)) s.bB.length (fun _ _=>True) (fun _=>(a7 s.bB.length (kK s j 0),a7 s.bB.length (kK s j 1)))
  (fun n a5 _ _=>by
    refine ⟨(),?_,trivial⟩
    have aa:=List.getElem?_eq_getElem a5
    obtain ⟨v1,v3,v4⟩:=Dd s h n a5
    have cS : ∀kQ v,v=kK s j kQ n→(a7 s.bB.length fun k=>if k<n then kK s j kQ k else 0).set n v=a7 s.bB.length fun k=>if k<n+1 then kK s j kQ k else 0:=fun kQ v a3=>by
     rw [ke]
     refine fc fun k _=> ?_
     by_cases c:k=n
     ·subst c;rw [if_pos rfl,if_pos (by omega)];exact a3
     ·rw [if_neg c]
      by_cases cI:k<n
      ·rw [if_pos cI,if_pos (by omega)]
      ·rw [if_neg cI,if_neg (by omega)]
    have g1 : ∀F:Nat→Int,0≤((n:Nat):Int)∧((n:Nat):Int)<((a7 s.bB.length F).length:Nat):=fun F=>by rw [cQ];omega
    have g2 : ∀F:Nat→Int,0+((n:Nat):Int).toNat<(a7 s.bB.length F).length:=fun F=>by rw [cQ,Int.toNat_natCast];omega
    unfold vx
    refine dM (by simp only;omega) (bO (by simp only;omega) (aI (x:=s.bB[n]) (by simp only;rw [Int.toNat_natCast];exact aa) (aI (x:=jR s n) v1 ?_)))
    simp only
    by_cases bF:j=s.bB[n].gr
    ·have e0 : ∀kQ,kK s j kQ n=if kQ=0 then (jR s n).1 else (jR s n).2:=fun kQ=>by unfold kK;rw [aa];simp only [if_pos bF]
     refine fw (Ei bF) (bO (g1 _) (bO (g2 _) (bO (g1 _) (bO (g2 _) ?_))))
     rw [fM (by omega),Int.toNat_natCast,Nat.zero_add,cS 0 _ (by rw [e0];rfl),cS 1 _ (by rw [e0];rfl)]
    ·refine ib (AZ bF) ?_
     by_cases cI:j=s.bB[n].gu
     ·have e0 : ∀kQ,kK s j kQ n = -(if kQ=0 then (jR s n).1 else (jR s n).2):=fun kQ=>by unfold kK;rw [aa];simp only [if_neg bF,if_pos cI]
      refine fw (Ei cI) (bO (g1 _) (bO (g2 _) (bO (g1 _) (bO (g2 _) ?_))))
      rw [fM (by omega),Int.toNat_natCast,Nat.zero_add,cO (by omega) (by omega),cO (by omega) (by omega),cS 0 _ (by rw [e0];simp),cS 1 _ (by rw [e0];simp)]
     ·have e0 : ∀kQ,kK s j kQ n=0:=fun kQ=>by unfold kK;rw [aa];simp only [if_neg bF,if_neg cI]
      refine ib (AZ cI) ?_
      rw [fM (by omega)]
      congr 4
      ·refine fc fun k _=> ?_
       by_cases c:k=n
       ·subst c;rw [if_neg (by omega),if_pos (by omega),e0]
       ·by_cases cI:k<n
        ·rw [if_pos cI,if_pos (by omega)]
        ·rw [if_neg cI,if_neg (by omega)]
      ·refine fc fun k _=> ?_
       by_cases c:k=n
       ·subst c;rw [if_neg (by omega),if_pos (by omega),e0]
       ·by_cases cI:k<n
        ·rw [if_pos cI,if_pos (by omega)]
        ·rw [if_neg cI,if_neg (by omega)])
  (fun _ _=>by
    unfold vx
    refine er (by simp) ?_
    simp only
    congr 3
    ·exact fc fun k aJ=>by rw [if_pos aJ]
    ·exact fc fun k aJ=>by rw [if_pos aJ]) () trivial
 have z : ∀kQ,(a7 s.bB.length fun k=>if k<0 then kK s j kQ k else 0)=a7 s.bB.length fun _=>(0:Int):=fun kQ=>fc fun k _=>by rw [if_neg (by omega)]
 rw [z,z] at e
 exact e
def j8 (s:cz)(q:Nat):Nat:=(kt s.cR 0).getD q 0
def fy (s:cz):Nat:=(kt s.cR 0).length
def nV (s:cz)(r k:Nat):Int:=kK s (j8 s (r / 2)) (r % 2) k
theorem O4 (s:cz):(kt s.cR 0).map (fun n:Nat=>(n:Int))=a7 (fy s) fun q=>((j8 s q:Nat):Int):=by
 apply List.ext_getElem?
 intro q
 rw [List.getElem?_map]
 by_cases c:q<fy s
 ·rw [ga c]
  have h:(kt s.cR 0)[q]? = some (kt s.cR 0)[q]:=List.getElem?_eq_getElem c
  unfold j8
  rw [List.getD_eq_getElem?_getD,h];rfl
 ·rw [List.getElem?_eq_none_iff.2 (by unfold fy at c;omega),List.getElem?_eq_none_iff.2 (by rw [cQ];omega)];rfl
theorem Zx (s:cz){q:Nat}(h:q<fy s):j8 s q<s.cR.length:=by
 have o:(kt s.cR 0)[q]? = some (kt s.cR 0)[q]:=List.getElem?_eq_getElem h
 have R:j8 s q=(kt s.cR 0)[q]:=by unfold j8;rw [List.getD_eq_getElem?_getD,o];rfl
 have:=IP s.cR 0 _ (List.mem_of_getElem? o)
 omega
theorem DS (s:cz):fy s≤s.cR.length:=OX s.cR 0
theorem Ve (s:cz)(h:mr s):yH s=some (a7 (2*fy s) fun r=>a7 s.bB.length (nV s r)):=by
 obtain ⟨-,-,f3,f4⟩:=id h
 have yw:=DS s
 unfold yH
 refine aI (M3 s (by omega)) ?_
 rw [O4,gk,cQ]
 unfold Fp
 obtain ⟨x,e,-⟩:=iG (f:=fun w:Int×List (List Int)=>vy s.cR s.bB (a7 (fy s) fun q=>((j8 s q:Nat):Int)) ((fy s:Nat):Int) w.1 w.2) (fun (n:Nat) (_:Unit)=>((n:Int),a7 (2*n) fun r=>a7 s.bB.length (nV s r))) (fy s) (fun _ _=>True) (fun _=>a7 (2*fy s) fun r=>a7 s.bB.length (nV s r))
  (fun n a5 _ _=>by
    refine ⟨(),?_,trivial⟩
    unfold vy
    refine dM (by simp only;omega) (bO (by rw [cQ];simp only;omega) (aI (x:=((j8 s n:Nat):Int)) (by simp only;rw [Int.toNat_natCast];exact ga a5) (bO (by rw [gY];omega) ?_)))
    refine aI (x:=(a7 s.bB.length (kK s (j8 s n) 0),a7 s.bB.length (kK s (j8 s n) 1))) (by rw [show (len_ d5 s.bB).toNat=s.bB.length by rw [gY,Int.toNat_natCast],m6];exact YK s h _ _ _ _ _) (bO (by simp only [List.length_append,cQ,List.length_cons,List.length_nil];omega) ?_)
    simp only
    rw [fM (by omega),show 2*(n+1)=2*n+1+1 by omega,zz (2*n+1),zz (2*n)]
    have ak:a7 s.bB.length (kK s (j8 s n) 0)=a7 s.bB.length (nV s (2*n)):=fc fun k _=>by
     unfold nV;rw [show 2*n / 2=n by omega,show 2*n % 2=0 by omega]
    have bm:a7 s.bB.length (kK s (j8 s n) 1)=a7 s.bB.length (nV s (2*n+1)):=fc fun k _=>by
     unfold nV;rw [show (2*n+1) / 2=n by omega,show (2*n+1) % 2=1 by omega]
    rw [ak,bm];simp)
  (fun _ _=>by unfold vy;exact er (by simp) rfl) () trivial
 exact aI e rfl
def gZ (s:cz):List eW:=nN s.bB s.bB.length
def c5 (s:cz):Nat:=(gZ s).length
def ie (s:cz)(c:Nat):Nat:=((gZ s).getD c ⟨0,0⟩).hp.toNat
def ql (s:cz)(c:Nat):Int:=((gZ s).getD c ⟨0,0⟩).sY
def pE (s:cz)(i c:Nat):Int:=ql s c*nV s i (ie s c)
def rD (s:cz)(l:List Int)(i:Nat):Int:= -(l.getD (2*j8 s (i / 2)+i % 2) 0)
theorem zZ (s:cz){c:Nat}(aN:c<c5 s):(gZ s)[c]? = some ⟨(ie s c:Int),ql s c⟩∧ie s c<s.bB.length∧(ql s c=1∨ql s c = -1):=by
 have o:(gZ s)[c]? = some (gZ s)[c]:=List.getElem?_eq_getElem aN
 have R:(gZ s).getD c ⟨0,0⟩=(gZ s)[c]:=by rw [List.getD_eq_getElem?_getD,o];rfl
 obtain ⟨k,ax,aC,bZ⟩:=O3 (Nat.le_refl _) (List.mem_of_getElem? o)
 have c8:ie s c=k:=by unfold ie;rw [R,ax];rfl
 have ep:ql s c=((gZ s)[c]).sY:=by unfold ql;rw [R]
 refine ⟨?_,by omega,by rw [ep];exact bZ⟩
 rw [o,c8,ep,← ax]
theorem xL (s:cz):c5 s≤2*s.bB.length:=IU _ _
theorem Qy (s:cz)(h:mr s)(i:Nat){c:Nat}(aN:c<c5 s): -100≤pE s i c∧pE s i c≤100:=by
 have o:=Zw s h (j8 s (i / 2)) (i % 2) (ie s c)
 unfold pE nV
 rcases (zZ s aN).2.2 with e|e<;>rw [e]<;>omega
def vo (s:cz)(l:List Int):nD:=⟨((2*fy s:Nat):Int),(c5 s:Int),a7 (2*fy s*c5 s) (fun x=>pE s (x / c5 s) (x % c5 s)),a7 (2*fy s) (rD s l),a7 (c5 s) fun _=>0⟩
theorem Zy (s:cz)(h:mr s)(l:List Int)(aV:∀x∈l,-100≤x∧x≤100):oY (vo s l) (2*fy s) (c5 s) (pE s) (rD s l) where
 rows:=rfl
 gZ:=rfl
 nt:=cQ ..
 JQ:=fun i ah j aB=>by
  have o:i*c5 s+j<2*fy s*c5 s:=by
   have:(i+1)*c5 s≤2*fy s*c5 s:=Nat.mul_le_mul_right _ ah
   rw [Nat.succ_mul] at this;omega
  show (a7 _ _)[_]? = _
  rw [ga o]
  have R:(i*c5 s+j) / c5 s=i:=by rw [Nat.mul_comm,Nat.mul_add_div (by omega),Nat.div_eq_of_lt aB];rfl
  have ab:(i*c5 s+j) % c5 s=j:=by rw [Nat.mul_comm,Nat.mul_add_mod,Nat.mod_eq_of_lt aB]
  rw [R,ab]
 Sc:=cQ ..
 QT:=fun i ah=>ga ah
 hm:=by
  obtain ⟨-,-,f3,f4⟩:=id h
  have:=DS s;omega
 a5:=by
  obtain ⟨-,-,f3,f4⟩:=id h
  have:=xL s;omega
 BB:=fun i _ j aB=>Qy s h i aB
 EK:=fun i _=>by
  unfold rD
  rw [List.getD_eq_getElem?_getD]
  cases c:l[2*j8 s (i / 2)+i % 2]? with
  | none=>simp
  | some x =>
   have:=aV x (List.mem_of_getElem? c)
   simp only [Option.getD_some];omega
def tt (s:cz)(r c:Nat):Int:=if r<2*fy s∧c<c5 s then pE s r c else 0
def mC (s:cz)(l:List Int)(r:Nat):Int:=if r<2*fy s then rD s l r else 0
def o6 (s:cz)(N i c x:Nat):Int:=if (x / N<i∨(x / N=i∧x % N<c))∧x % N<c5 s then pE s (x / N) (x % N) else 0
theorem Zz (s:cz){T N i c:Nat}(aN:c<c5 s)(fV:c5 s≤N)(hF:i*N+c<T){v:Int}(a3:v=pE s i c):(a7 T (o6 s N i c)).set (i*N+c) v=a7 T (o6 s N i (c+1)):=by
 have R:(i*N+c) / N=i:=by rw [Nat.mul_comm,Nat.mul_add_div (by omega),Nat.div_eq_of_lt (by omega)];rfl
 have ab:(i*N+c) % N=c:=by rw [Nat.mul_comm,Nat.mul_add_mod,Nat.mod_eq_of_lt (by omega)]
 rw [ke]
 refine fc fun x _=> ?_
 unfold o6
 by_cases e:x=i*N+c
 ·rw [if_pos e,e,R,ab,if_pos ⟨.inr ⟨rfl,by omega⟩,aN⟩,a3]
 ·rw [if_neg e]
  have cH : ¬(x / N=i∧x % N=c):=fun ⟨a,b⟩=>e (by rw [← Nat.div_add_mod x N,a,b,Nat.mul_comm])
  by_cases d:(x / N<i∨(x / N=i∧x % N<c))∧x % N<c5 s
  ·rw [if_pos d,if_pos ⟨by omega,d.2⟩]
  ·rw [if_neg d,if_neg (fun vm=>d ⟨by omega,vm.2⟩)]
theorem ZA (s:cz)(T N i:Nat):a7 T (o6 s N i (c5 s))=a7 T (o6 s N (i+1) 0):=by
 refine fc fun x _=> ?_
 unfold o6
 by_cases d:(x / N<i∨(x / N=i∧x % N<c5 s))∧x % N<c5 s
 ·rw [if_pos d,if_pos ⟨by omega,d.2⟩]
 ·rw [if_neg d,if_neg (fun vm=>d ⟨by omega,vm.2⟩)]
theorem YL (s:cz)(T N:Nat):a7 T (o6 s N 0 0)=a7 T fun _=>0:=fc fun x _=>by
 unfold o6
 rw [if_neg (fun h=>by rcases h.1 with h|h;exact Nat.not_lt_zero _ h;exact Nat.not_lt_zero _ h.2)]
theorem ZB (s:cz)(T N:Nat):a7 T (o6 s N (2*fy s) 0)=a7 T fun x=>tt s (x / N) (x % N):=fc fun x _=>by
 unfold o6 tt
 by_cases d:x / N<2*fy s∧x % N<c5 s
 ·rw [if_pos d,if_pos ⟨.inl d.1,d.2⟩]
 ·rw [if_neg d,if_neg (fun vm=>d ⟨by omega,vm.2⟩)]
theorem YM (s:cz)(l:List Int)(M:Nat):(a7 M fun x=>if x<0 then mC s l x else 0)=a7 M fun _=>0:=fc fun j _=>by rw [if_neg (by omega)]
theorem ZC (s:cz)(l:List Int)(M:Nat):(a7 M fun x=>if x<2*fy s then mC s l x else 0)=a7 M (mC s l):=fc fun j _=>by
 by_cases c:j<2*fy s
 ·rw [if_pos c]
 ·rw [if_neg c];unfold mC;rw [if_neg c]
theorem Xd (s:cz)(h:mr s)(l:List Int)(aO:l.length=2*s.cR.length)(aV:∀x∈l,-100≤x∧x≤100)(dY jX:Nat)(afb:dY≤100)(afc:jX≤100):
 vD s l (dY:Int) (jX:Int)=some (((2*fy s+jX:Nat):Int),((c5 s+dY:Nat):Int),a7 ((2*fy s+jX)*(c5 s+dY)) (fun x=>tt s (x / (c5 s+dY)) (x % (c5 s+dY))),a7 (2*fy s+jX) (mC s l),a7 (c5 s+dY) fun _=>0):=by
 obtain ⟨-,-,f3,f4⟩:=id h
 have yw:=DS s
 have qk:=xL s
 have afd:(2*fy s+jX)*(c5 s+dY)≤112*116:=Nat.mul_le_mul (by omega) (by omega)
 unfold vD
 refine aI (Ve s h) (aI (x:=gZ s) (Ir s (by omega)) ?_)
 have ic:U ((len_ (e7 1 J) (a7 (2*fy s) fun r=>a7 s.bB.length (nV s r)))+(jX:Int))=((2*fy s+jX:Nat):Int):=by rw [gY,cQ,cO (by omega) (by omega)];omega
 have lx:U ((len_ e8 (gZ s))+(dY:Int))=((c5 s+dY:Nat):Int):=by
  rw [gY];show U (((c5 s:Nat):Int)+(dY:Int))=_
  rw [cO (by omega) (by omega)];omega
 have qX:U (((2*fy s+jX:Nat):Int)*((c5 s+dY:Nat):Int))=(((2*fy s+jX)*(c5 s+dY):Nat):Int):=by rw [← Int.natCast_mul,cO (by omega) (by omega)]
 rw [ic,lx,qX,Int.toNat_natCast,Int.toNat_natCast,Int.toNat_natCast,m6,m6,m6,gY,cQ]
 refine bO (by omega) (bO (by omega) (bO (by omega) ?_))
 refine aI (x:=a7 ((2*fy s+jX)*(c5 s+dY)) (fun x=>tt s (x / (c5 s+dY)) (x % (c5 s+dY)))) ?_ ?_
 ·unfold Fc
  obtain ⟨x,e,-⟩:=iG (f:=fun w:Int×List Int=>vt s.cR s.bB l (gZ s) (a7 (2*fy s) fun r=>a7 s.bB.length (nV s r)) ((2*fy s:Nat):Int) ((2*fy s+jX:Nat):Int) ((c5 s+dY:Nat):Int) (a7 (2*fy s+jX) fun _=>0) (a7 (c5 s+dY) fun _=>0) w.1 w.2) (fun (i:Nat) (_:Unit)=>((i:Int),a7 ((2*fy s+jX)*(c5 s+dY)) (o6 s (c5 s+dY) i 0))) (2*fy s) (fun _ _=>True) (fun _=>a7 ((2*fy s+jX)*(c5 s+dY)) (fun x=>tt s (x / (c5 s+dY)) (x % (c5 s+dY))))
   (fun i ah _ _=>by
     refine ⟨(),?_,trivial⟩
     have p9:(i+1)*(c5 s+dY)≤(2*fy s+jX)*(c5 s+dY):=Nat.mul_le_mul_right _ (by omega)
     rw [Nat.succ_mul] at p9
     obtain ⟨y,aC,-⟩:=iG (f:=fun w:Int×List Int=>vr s.cR s.bB l (gZ s) (i:Int) (a7 s.bB.length (nV s i)) (a7 (2*fy s) fun r=>a7 s.bB.length (nV s r)) ((2*fy s:Nat):Int) ((c5 s:Nat):Int) ((2*fy s+jX:Nat):Int) ((c5 s+dY:Nat):Int) (a7 (2*fy s+jX) fun _=>0) (a7 (c5 s+dY) fun _=>0) w.1 w.2) (fun (c:Nat) (_:Unit)=>((c:Int),a7 ((2*fy s+jX)*(c5 s+dY)) (o6 s (c5 s+dY) i c))) (c5 s) (fun _ _=>True) (fun _=>a7 ((2*fy s+jX)*(c5 s+dY)) (o6 s (c5 s+dY) i (c5 s)))
      (fun c aN _ _=>by
        refine ⟨(),?_,trivial⟩
        obtain ⟨ka,jq,nu⟩:=zZ s aN
        have afe:=Qy s h i aN
        have EQ:U (U ((i:Int)*((c5 s+dY:Nat):Int))+((c:Nat):Int))=((i*(c5 s+dY)+c:Nat):Int):=by
         rw [← Int.natCast_mul,cO (x:=((i*(c5 s+dY):Nat):Int)) (by omega) (by omega),cO (by omega) (by omega)];omega
        unfold vr
        refine dM (by simp only;omega) (bO (by show _∧((c:Nat):Int)<((c5 s:Nat):Int);simp only;omega) (aI (x:=⟨(ie s c:Int),ql s c⟩) (by simp only;rw [Int.toNat_natCast];exact ka) (bO (by rw [cQ];simp only;omega) (aI (x:=nV s i (ie s c)) (by simp only;rw [Int.toNat_natCast];exact ga jq) ?_))))
        simp only
        rw [EQ]
        refine bO (by rw [cQ];omega) (bO (by rw [cQ,Int.toNat_natCast];omega) ?_)
        rw [fM (by omega),Int.toNat_natCast,Nat.zero_add,show ql s c*nV s i (ie s c)=pE s i c from rfl,cO (by omega) (by omega),Zz s aN (by omega) (by omega) rfl])
      (fun _ _=>by unfold vr;exact er (by simp) rfl) () trivial
     unfold vt
     refine dM (by simp only;omega) (bO (by rw [cQ];simp only;omega) (aI (x:=a7 s.bB.length (nV s i)) (by simp only;rw [Int.toNat_natCast];exact ga ah) (aI (x:=a7 ((2*fy s+jX)*(c5 s+dY)) (o6 s (c5 s+dY) i (c5 s))) (by unfold Fb;rw [gY];exact aC) ?_)))
     simp only
     rw [fM (by omega),ZA])
   (fun _ _=>by
     unfold vt
     refine er (by simp) ?_
     simp only
     rw [ZB]) () trivial
  rw [YL] at e
  exact e
 refine aI (M3 s (by omega)) ?_
 rw [O4,gk,cQ]
 refine aI (x:=a7 (2*fy s+jX) (mC s l)) ?_ rfl
 unfold Fe
 obtain ⟨x,e,-⟩:=iG (f:=fun w:Int×List Int=>vu l (a7 (fy s) fun q=>((j8 s q:Nat):Int)) ((fy s:Nat):Int) ((2*fy s+jX:Nat):Int) ((c5 s+dY:Nat):Int) (a7 ((2*fy s+jX)*(c5 s+dY)) (fun x=>tt s (x / (c5 s+dY)) (x % (c5 s+dY)))) (a7 (c5 s+dY) fun _=>0) w.1 w.2) (fun (n:Nat) (_:Unit)=>((n:Int),a7 (2*fy s+jX) fun x=>if x<2*n then mC s l x else 0)) (fy s) (fun _ _=>True) (fun _=>a7 (2*fy s+jX) (mC s l))
  (fun n a5 _ _=>by
    refine ⟨(),?_,trivial⟩
    have b5:=Zx s a5
    have lx : ∀a:Nat,a≤1000→U ((2:Int)*((a:Nat):Int))=((2*a:Nat):Int):=fun a bE=>by rw [cO (by omega) (by omega)];omega
    have fB:=aV l[2*j8 s n] (List.getElem_mem (by omega))
    have e1:=aV l[2*j8 s n+1] (List.getElem_mem (by omega))
    have gN:mC s l (2*n) = -l[2*j8 s n]:=by
     unfold mC rD
     rw [if_pos (by omega),show 2*n / 2=n by omega,show 2*n % 2=0 by omega,Nat.add_zero,List.getD_eq_getElem?_getD,List.getElem?_eq_getElem (by omega)];rfl
    have h7:mC s l (2*n+1) = -l[2*j8 s n+1]:=by
     unfold mC rD
     rw [if_pos (by omega),show (2*n+1) / 2=n by omega,show (2*n+1) % 2=1 by omega,List.getD_eq_getElem?_getD,List.getElem?_eq_getElem (by omega)];rfl
    have cS : ∀k v,v=mC s l k→(a7 (2*fy s+jX) fun x=>if x<k then mC s l x else 0).set k v=a7 (2*fy s+jX) fun x=>if x<k+1 then mC s l x else 0:=fun k v a3=>by
     rw [ke]
     refine fc fun j _=> ?_
     by_cases c:j=k
     ·subst c;rw [if_pos rfl,if_pos (by omega)];exact a3
     ·rw [if_neg c]
      by_cases cI:j<k
      ·rw [if_pos cI,if_pos (by omega)]
      ·rw [if_neg cI,if_neg (by omega)]
    unfold vu
    refine dM (by simp only;omega) (bO (by rw [cQ];simp only;omega) (aI (x:=((j8 s n:Nat):Int)) (by simp only;rw [Int.toNat_natCast];exact ga a5) ?_))
    simp only
    rw [lx (j8 s n) (by omega),lx n (by omega),fM (n:=2*j8 s n) (by omega),fM (n:=2*n) (by omega)]
    refine bO (by omega) (aI (x:=l[2*j8 s n]) (by rw [Int.toNat_natCast];exact List.getElem?_eq_getElem (by omega)) (bO (by omega) (aI (x:=l[2*j8 s n+1]) (by rw [Int.toNat_natCast];exact List.getElem?_eq_getElem (by omega)) ?_)))
    refine bO (by rw [cQ];omega) (bO (by rw [cQ,Int.toNat_natCast];omega) (bO (by rw [cQ];omega) (bO (by rw [List.length_set,cQ,Int.toNat_natCast];omega) ?_)))
    rw [fM (by omega),cO (x:=0-l[2*j8 s n]) (by omega) (by omega),cO (x:=0-l[2*j8 s n+1]) (by omega) (by omega),Int.toNat_natCast,Int.toNat_natCast,Nat.zero_add,Nat.zero_add,cS _ _ (by rw [gN];omega),cS _ _ (by rw [h7];omega),show 2*(n+1)=2*n+1+1 by omega])
  (fun _ _=>by
    unfold vu
    refine er (by simp) ?_
    simp only
    rw [ZC]) () trivial
 rw [Nat.mul_zero,YM] at e
 exact e
theorem Ou (s:cz)(h:mr s)(l:List Int)(aO:l.length=2*s.cR.length)(aV:∀x∈l,-100≤x∧x≤100):
 vD s l 0 0=some ((vo s l).kD,(vo s l).jQ,(vo s l).gr,(vo s l).gu,(vo s l).kc):=by
 have e:=Xd s h l aO aV 0 0 (by omega) (by omega)
 rw [show ((0:Nat):Int)=0 from rfl] at e
 have hA:a7 (2*fy s*c5 s) (fun x=>tt s (x / c5 s) (x % c5 s))=a7 (2*fy s*c5 s) (fun x=>pE s (x / c5 s) (x % c5 s)):=fc fun x aa=>by
  have qk:0<c5 s:=by
   rcases Nat.eq_zero_or_pos (c5 s) with c|c
   ·rw [c,Nat.mul_zero] at aa;omega
   ·exact c
  unfold tt
  rw [if_pos ⟨Nat.div_lt_of_lt_mul (by rw [Nat.mul_comm];exact aa),Nat.mod_lt _ qk⟩]
 have gO:a7 (2*fy s) (mC s l)=a7 (2*fy s) (rD s l):=fc fun x aa=>by unfold mC;rw [if_pos aa]
 rw [e]
 simp only [Nat.add_zero,vo]
 rw [hA,gO]
theorem Ya {x:Rat}(h:gy x):w5 (iR x)=some true:=by
 have p:=h.c1
 have o:=p.uC
 have R:=p.uD
 obtain ⟨I,-,e,k⟩:=Wq (r:=iR x) (show (L (f7 x).1.natAbs).length≤_ by omega) (show (L (f7 x).2).length≤_ by omega)
 rw [e,k.2 ⟨f7 x,p,rfl⟩]
theorem DF {x:Rat}(h:gy x):tW (iR x)=some (c4 x):=aI (Ya h) (fw rfl rfl)
theorem ZD (x:Rat):rH (c4 x)=some (lT (f7 x).1):=W8
theorem Xe {x:Rat}(h:gy x):ze (iR x)=some (lT (f7 x).1):=aI (DF h) (aI (ZD x) rfl)
theorem I3 {x:Rat}(h:gy x):tT (c4 x)=some (iR x):=by
 have p:=h.c1
 have o:=p.uC
 have R:=p.uD
 refine aI (I:=yS (ja (f7 x)).lD) (x:=gF (f7 x).1) ?_ (aI (x:=L (f7 x).2) (IM (a:=L (f7 x).2) (by omega)) rfl)
 unfold yS
 exact er (by rw [gk];show ¬(60:Int)<((L ((f7 x).1.natAbs:Int)).length:Nat);omega) (aI (x:=L ((f7 x).1.natAbs:Int)) (IM (a:=L ((f7 x).1.natAbs:Int)) (by omega)) rfl)
theorem Z7 (x:Rat):C9 (c4 x)=some (c4 (-x)):=by
 have e:o7 (gF x.num)=some (gF (-x.num)):=by
  have:o7 (gF x.num)=(kd (!(decide (x.num<0))) (L (x.num.natAbs:Int))).bind fun r=>some r:=rfl
  rw [this,pa (by omega)]
  have:eO (!(decide (x.num<0))) (x.num.natAbs:Int) = -x.num:=by
   unfold eO
   by_cases c:x.num<0
   ·rw [decide_eq_true c];simp;omega
   ·rw [decide_eq_false c];simp;omega
  rw [this];rfl
 refine aI (I:=o7 (gF x.num)) e ?_
 unfold c4 f7
 rw [Rat.neg_num,Rat.neg_den];rfl
theorem Ov {fT:List b4}{k:Nat}: ∀ {n:Nat},k<n→n≤fT.length→ ∃x∈nN fT n,x.hp=(k:Int)
 | 0,h,_=>by omega
 | n+1,h,a5=>by
  rw [nN,List.getElem?_eq_getElem (show n<fT.length by omega)]
  by_cases e:k=n
  ·subst e
   simp only
   unfold uF
   by_cases c:fT[k].mJ=2
   ·exact ⟨⟨(k:Int),-1⟩,by rw [List.mem_append,List.mem_append,if_neg (show ¬fT[k].mJ=1 by omega)];exact .inr (.inr (by simp)),rfl⟩
   ·exact ⟨⟨(k:Int),1⟩,by rw [List.mem_append,List.mem_append,if_neg c];exact .inr (.inl (by simp)),rfl⟩
  ·obtain ⟨x,o,R⟩:=Ov (fT:=fT) (k:=k) (n:=n) (by omega) (by omega)
   exact ⟨x,List.mem_append_left _ o,R⟩
theorem Yb (s:cz){k:Nat}(aJ:k<s.bB.length): ∃c,c<c5 s∧ie s c=k:=by
 obtain ⟨x,o,R⟩:=Ov aJ (Nat.le_refl _)
 obtain ⟨c,aN⟩:=List.getElem?_of_mem o
 have aO:c<c5 s:=fI aN
 obtain ⟨e,-,-⟩:=zZ s aO
 have aC:(gZ s)[c]? = some x:=aN
 rw [aC] at e
 have:=Option.some.inj e
 rw [this] at R
 exact ⟨c,aO,by simp only at R;omega⟩
def hO (s:cz)(x:Nat→Rat)(c k:Nat):Rat:=ct c fun j=>if ie s j=k then (ql s j:Rat)*x j else 0
def qm (s:cz)(c k:Nat):Bool:=(List.range c).any fun j=>ie s j == k
theorem YN (s:cz)(c k:Nat):qm s (c+1) k=(qm s c k || (ie s c == k)):=by
 unfold qm;rw [List.range_succ,List.any_append];simp
theorem Z8 {s:cz}{x:Nat→Rat}{c k:Nat}(h:qm s c k=false):hO s x c k=0:=by
 unfold qm at h
 rw [List.any_eq_false] at h
 exact m2 fun j aB=>if_neg fun e=>h j (List.mem_range.2 aB) (by rw [e];simp)
theorem ZE (s:cz){k:Nat}(aJ:k<s.bB.length):qm s (c5 s) k=true:=by
 obtain ⟨c,o,R⟩:=Yb s aJ
 unfold qm
 exact List.any_eq_true.2 ⟨c,List.mem_range.2 o,by rw [R];simp⟩
theorem Qz {s:cz}{x:Nat→Rat}{w:Rat}{K:Nat}(aa:∀j,dl K (x j*w)): ∀ {c:Nat} (k:Nat),c≤c5 s→dl (c*K) (hO s x c k*w):=fun {c} k aN=>by
 have:hO s x c k*w=ct c fun j=>(if ie s j=k then (ql s j:Rat)*x j else 0)*w:=by
  unfold hO
  rw [Rat.mul_comm,← hX]
  exact fA fun j _=>Rat.mul_comm _ _
 rw [this]
 refine dl.sum fun j aB=> ?_
 obtain ⟨-,-,e⟩:=zZ s (show j<c5 s by omega)
 split
 ·rcases e with e|e<;>rw [e]
  ·rw [show ((1:Int):Rat)*x j*w=x j*w by grind];exact aa j
  ·rw [show ((-1:Int):Rat)*x j*w = -(x j*w) by grind];exact (aa j).neg
 ·exact ⟨0,by rw [Rat.zero_mul];rfl,by simp⟩
theorem Z9 {x y:Rat}(aa:gy x)(aP:gy y)(h:gy (x+y)):ub (c4 x) (c4 y)=some (c4 (x+y)):=aI (P7 aa aP) (aI (Qw h) rfl)
def pZ (s:cz)(x:Nat→Rat)(c:Nat):List (Option bq):=a7 s.bB.length fun k=>if qm s c k then c4 (hO s x c k) else none
theorem YO (s:cz)(v:mr s){x:Nat→Rat}(aa:∀j,gy (x j))(bg:∀c k,c≤c5 s→gy (hO s x c k)):yO s (a7 (c5 s) fun j=>c4 (x j))=some (a7 s.bB.length fun k=>c4 (hO s x (c5 s) k)):=by
 have bx:=v.2.2.2
 have qk:=xL s
 have aO:len_ d5 s.bB=((s.bB.length:Nat):Int):=gY ..
 have hk:len_ e8 (gZ s)=((c5 s:Nat):Int):=gY ..
 unfold yO
 rw [aO]
 refine bO (by omega) (aI (x:=gZ s) (Ir s (by omega)) (aI ?_ rfl))
 unfold F1
 rw [hk]
 obtain ⟨z,e,-⟩:=iG (f:=fun w:Int×(List (Option bq))=>vK (a7 (c5 s) fun j=>c4 (x j)) (gZ s) ((c5 s:Nat):Int) w.1 w.2) (fun (c:Nat) (_:Unit)=>((c:Int),pZ s x c)) (c5 s) (fun _ _=>True) (fun _=>a7 s.bB.length fun k=>c4 (hO s x (c5 s) k))
  (fun c aN _ _=>by
    refine ⟨(),?_,trivial⟩
    obtain ⟨ka,jq,nu⟩:=zZ s aN
    have fin : ∀y,y=c4 (hO s x (c+1) (ie s c))→(pZ s x c).set (ie s c) y=pZ s x (c+1):=fun y aP=>by
     unfold pZ
     rw [ke]
     refine fc fun k _=> ?_
     rw [YN]
     by_cases e:k=ie s c
     ·subst e;rw [if_pos rfl,aP];simp
     ·have aC:hO s x (c+1) k=hO s x c k:=by
       show hO s x c k+(if ie s c=k then _ else _)=_
       rw [if_neg (fun q=>e q.symm)];grind
      rw [if_neg e,aC,show (ie s c == k)=false from beq_false_of_ne (fun q=>e q.symm),Bool.or_false]
    have last:hO s x (c+1) (ie s c)=hO s x c (ie s c)+(ql s c:Rat)*x c:=by
     show hO s x c _+(if ie s c=ie s c then _ else _)=_
     rw [if_pos rfl]
    have hlen:(pZ s x c).length=s.bB.length:=cQ ..
    have QX:(pZ s x c)[0+((ie s c:Nat):Int).toNat]? = some (if qm s c (ie s c) then c4 (hO s x c (ie s c)) else none):=by
     rw [Int.toNat_natCast];exact jt jq
    have put : ∀ {F:Option (Option bq)→Prop} {y:Rat},y=(ql s c:Rat)*x c→gy y →
     ((if qm s c (ie s c) then c4 (hO s x c (ie s c)) else none:Option bq).elim (if (0+((ie s c:Nat):Int).toNat)<(pZ s x c).length then some (Sum.inl (U ((c:Int)+(1:Int)),(pZ s x c).set (0+((ie s c:Nat):Int).toNat) (c4 y))) else none)
       fun _=>ub (if qm s c (ie s c) then c4 (hO s x c (ie s c)) else none) (c4 y) >>= fun dP=>if (0+((ie s c:Nat):Int).toNat)<(pZ s x c).length then some (Sum.inl (U ((c:Int)+(1:Int)),(pZ s x c).set (0+((ie s c:Nat):Int).toNat) dP)) else none)
     = some (Sum.inl (((c+1:Nat):Int),pZ s x (c+1)):(Int×(List (Option bq)))⊕((List (Option bq)))):=fun {F y} aP ac8=>by
     rw [fM (by omega),Int.toNat_natCast,Nat.zero_add]
     cases q:qm s c (ie s c) with
     | false =>
      rw [if_neg (by simp)]
      show (if _ then _ else _)=_
      rw [if_pos (by rw [hlen];exact jq),fin _ (by rw [last,Z8 q,aP];congr 1;grind)]
     | true =>
      rw [if_pos rfl]
      show (ub (c4 (hO s x c (ie s c))) (c4 y) >>= _)=_
      have bX:gy (hO s x c (ie s c)+y):=by rw [aP,← last];exact bg _ _ aN
      refine aI (Z9 (bg _ _ (Nat.le_of_lt aN)) ac8 bX) ?_
      rw [if_pos (by rw [hlen];exact jq),fin _ (by rw [last,aP])]
    unfold vK
    simp only
    refine dM (by omega) (bO (by show _∧((c:Nat):Int)<((c5 s:Nat):Int);omega) (aI ka (bO (by rw [cQ];omega) (aI (x:=c4 (x c)) (by rw [Int.toNat_natCast];exact ga aN) ?_))))
    rcases nu with e|e
    ·refine er (by simp only;omega) (bO (by rw [hlen];simp only;omega) (aI QX ?_))
     exact put (F:=fun _=>True) (by rw [e];grind) (aa c)
    ·refine dM (by simp only;omega) (aI (Z7 (x c)) (bO (by rw [hlen];simp only;omega) (aI QX ?_)))
     exact put (F:=fun _=>True) (by rw [e];grind) (aa c).neg)
  (fun _ _=>by
    unfold vK
    refine er (by simp) ?_
    simp only
    congr 2
    exact fc fun k aJ=>by rw [ZE s aJ,if_pos rfl]) () trivial
 have e0:pZ s x 0=List.replicate (((s.bB.length:Nat):Int).toNat) none:=by
  rw [Int.toNat_natCast,m6];exact fc fun k _=>rfl
 rw [← e0];exact e
theorem Xf {n:Nat}(a5:n≤40){y:Nat→Rat}(aP:∀k,k<n→gy (y k)):zj (a7 n fun k=>c4 (y k))=some (a7 n (fun k=>iR (y k)),true):=by
 have aO:len_ (b6 3 a2) (a7 n fun k=>c4 (y k))=((n:Nat):Int):=by rw [gY,cQ]
 unfold zj
 rw [aO]
 refine bO (by omega) (aI (x:= .inl (a7 n fun k=>iR (y k))) ?_ rfl)
 unfold HI
 obtain ⟨z,e,-⟩:=iG (f:=fun w:Int×(List dX)=>wo (a7 n fun k=>c4 (y k)) ((n:Nat):Int) w.1 w.2) (fun (k:Nat) (_:Unit)=>((k:Int),a7 n fun j=>if j<k then iR (y j) else (⟨⟨false,[]⟩,[]⟩:dX))) n (fun _ _=>True) (fun _=>(.inl (a7 n fun k=>iR (y k)):(List dX)⊕Unit))
  (fun k aJ _ _=>by
    refine ⟨(),?_,trivial⟩
    unfold wo
    simp only
    refine dM (by omega) (bO (by rw [cQ];omega) (aI (x:=c4 (y k)) (by rw [Int.toNat_natCast];exact ga aJ) ?_))
    show (tT (c4 (y k)) >>= _)=_
    refine aI (I3 (aP k aJ)) (bO (by rw [cQ];omega) (bO (by rw [cQ,Int.toNat_natCast];omega) ?_))
    rw [fM (by omega),Int.toNat_natCast,Nat.zero_add,ke]
    congr 3
    refine fc fun j _=> ?_
    by_cases bF:j=k
    ·subst bF;rw [if_pos rfl,if_pos (by omega)]
    ·rw [if_neg bF]
     by_cases cI:j<k
     ·rw [if_pos cI,if_pos (by omega)]
     ·rw [if_neg cI,if_neg (by omega)])
  (fun _ _=>by
    unfold wo
    refine er (by simp) ?_
    simp only
    congr 3
    exact fc fun j aB=>by rw [if_pos aB]) () trivial
 have e0:(a7 n fun j=>if j<0 then iR (y j) else (⟨⟨false,[]⟩,[]⟩:dX))=List.replicate (((n:Nat):Int).toNat) ⟨⟨false,[]⟩,[]⟩:=by
  rw [Int.toNat_natCast,m6];exact fc fun j _=>by rw [if_neg (by omega)]
 rw [← e0];exact e
structure JW (m n:Nat) (a:Nat→Nat→Int) (b:Nat→Int) (c:Nat→Rat) (x:Nat→Rat) (w:Rat):Prop where
 mn:rX m n a b c x
 pos:0<w
 n3:dl (jT 100 m) w
 Sf : ∀j,dl (jT 100 m) (x j*w)
 fit : ∀j,gy (x j)
theorem ZF {m:Nat}(hm:m≤20):jT 100 m≤dR:=DQ▸xg (by omega) hm
theorem P9 {s:cz}{x:Nat→Rat}{w:Rat}{m:Nat}(hm:m≤20)(qk:c5 s≤16)(af:0<w)(hw:dl (jT 100 m) w)(aa:∀j,dl (jT 100 m) (x j*w)){c:Nat}(k:Nat)(aN:c≤c5 s):gy (hO s x c k):=by
 have o:=Qz aa k aN
 have gJ:=ZF hm
 have R:c*jT 100 m≤16*dR:=Nat.mul_le_mul (by omega) gJ
 have ab:16*dR≤40*(dR*100):=by omega
 exact xK (K:=21*100*(dR*dR)) (hw.mono (Nat.le_trans gJ JR)) (o.mono (Nat.le_trans R (Nat.le_trans ab JV))) (by grind) (by grind) (s0 (Nat.le_refl _))
theorem Yc {α:Type}{T n:Nat}(f:Nat→α)(h:n≤T):(a7 T f).take n=a7 n f:=by
 apply List.ext_getElem?
 intro i
 by_cases c:i<n
 ·rw [List.getElem?_take,if_pos c,ga (by omega),ga c]
 ·rw [List.getElem?_take,if_neg c,List.getElem?_eq_none_iff.2 (by rw [cQ];omega)]
theorem YP (s:cz)(v:mr s){p:nD}{m n:Nat}{a:Nat→Nat→Int}{b:Nat→Int}(h:oY p m n a b){c:Nat→Int}(qk:p.kc=a7 n c)(aN:∀j,j<n→ -100≤c j∧c j≤100)(a5:c5 s≤n):
 (¬qD m n a b∧tw s p.kD p.jQ p.gr p.gu p.kc=some ([],[],false))∨(qD m n a b∧ ¬Bounded m n a b (l2 n c)∧tw s p.kD p.jQ p.gr p.gu p.kc=some ([],[],false)) ∨
   ∃x w r,JW m n a b (l2 n c) x w∧tw s p.kD p.jQ p.gr p.gu p.kc=some (a7 s.bB.length (fun k=>c4 (hO s x (c5 s) k)),r,true):=by
 have bx:=v.2.2.2
 have aff:=xL s
 obtain ⟨r,e,al⟩:=X9 h qk aN
 rcases al with ⟨q,rfl⟩|⟨q,bl,rfl⟩|⟨x,w,q,⟨ic,lx,qX⟩,cc,cM,rfl⟩
 ·exact .inl ⟨q,aI e (fw rfl rfl)⟩
 ·exact .inr (.inl ⟨q,bl,aI e (fw rfl rfl)⟩)
 ·have hk:len_ e8 (gZ s)=((c5 s:Nat):Int):=gY ..
  have b5:=YO s v cc (fun c k aN=>P9 h.hm (by omega) ic lx qX k aN)
  have key : ∃r,tw s p.kD p.jQ p.gr p.gu p.kc=some (a7 s.bB.length (fun k=>c4 (hO s x (c5 s) k)),r,true):=by
   refine ⟨((a7 n fun j=>c4 (x j)).drop (c5 s)).take (((a7 n fun j=>c4 (x j)).map (b6 3 a2)).length-c5 s),aI e (ib rfl (aI (x:=gZ s) (Ir s (by omega)) ?_))⟩
   rw [hk]
   simp only [Int.toNat_natCast]
   refine bO (by omega) (bO (by simp only [cQ];omega) (aI ?_ (bO (by simp only [cQ];omega) rfl)))
   simp only [List.drop_zero,Nat.sub_zero]
   rw [Yc _ a5]
   exact b5
  obtain ⟨r,al⟩:=key
  exact .inr (.inr ⟨x,w,r,⟨q,ic,lx,qX,cc⟩,al⟩)
theorem VC {m n:Nat}{a:Nat→Nat→Int}{b:Nat→Int}:Bounded m n a b (l2 n fun _=>0):=⟨0,fun y _=>by
 unfold val
 rw [m2 fun j aB=> ?_]
 ·exact Rat.le_refl
 ·have:l2 n (fun _=>0) j=0:=by unfold l2 nh;simp only;split<;>rfl
  rw [this];grind⟩
theorem YQ (s:cz)(v:mr s){l:List Int}(ok:wU s l=some true)(aO:l.length=2*s.cR.length)(aV:∀x∈l,-100≤x∧x≤100):
 (¬qD (2*fy s) (c5 s) (pE s) (rD s l)∧tF s l=some ([],false)) ∨
   ∃x w,JW (2*fy s) (c5 s) (pE s) (rD s l) (l2 (c5 s) fun _=>0) x w∧tF s l=some (a7 s.bB.length (fun k=>iR (hO s x (c5 s) k)),true):=by
 have bx:=v.2.2.2
 have qk:=xL s
 have af:=Zy s v l aV
 unfold tF
 rcases YP s v af (c:=fun _=>0) rfl (fun j _=>by omega) (Nat.le_refl _) with ⟨q,e⟩|⟨q,bl,e⟩|⟨x,w,r,q,e⟩
 ·exact .inl ⟨q,aI ok (fw rfl (aI (Ou s v l aO aV) (aI e (ib rfl rfl))))⟩
 ·exact (bl VC).elim
 ·refine .inr ⟨x,w,q,aI ok (fw rfl (aI (Ou s v l aO aV) (aI e (fw rfl (aI (Xf (by omega) fun k _=>P9 af.hm (by omega) q.pos q.n3 q.Sf k (Nat.le_refl _)) rfl)))))⟩
theorem Qa (x:Int):0≤U (((BitVec.ofInt (IntKind.bits .i64) x &&& BitVec.ofInt (IntKind.bits .i64) (255:Int)).toNat:Int))∧U (((BitVec.ofInt (IntKind.bits .i64) x &&& BitVec.ofInt (IntKind.bits .i64) (255:Int)).toNat:Int))≤255:=by
 have h:(BitVec.ofInt (IntKind.bits .i64) x &&& BitVec.ofInt (IntKind.bits .i64) (255:Int)).toNat≤255:=by
  rw [BitVec.toNat_and]
  exact Nat.le_trans Nat.and_le_right (Nat.le_of_eq (by decide))
 rw [cO (by omega) (by omega)]
 omega
theorem PF (c:List Int)(aN:c.length≤1048576)(i h:Int)(ah:0≤i): ∃b eI ch,q6 c i h=some (b,eI,ch)∧(0≤b∧b≤255)∧0≤eI:=by
 unfold q6
 by_cases e:i<c.length
 ·have aa:=List.getElem?_eq_getElem (show i.toNat<c.length by omega)
  exact ⟨_,_,_,dM (by show i<((c.map eU8).length:Nat);rw [List.length_map];exact e) (bO ⟨ah,e⟩ (aI aa rfl)),Qa _,by rw [cO (by omega) (by omega)];omega⟩
 ·exact ⟨_,_,_,er (by show ¬i<((c.map eU8).length:Nat);rw [List.length_map];exact e) rfl,Qa _,ah⟩
theorem kU (n:Int)(o:1≤n)(R:n≤256)(c:List Int)(aN:c.length≤1048576)(i h:Int)(ah:0≤i): ∃b eI ch,jY n c i h=some (b,eI,ch)∧(0≤b∧b<n)∧0≤eI:=by
 obtain ⟨b,eI,ch,e,aV,iE⟩:=PF c aN i h ah
 unfold jY
 refine ⟨b.tmod n,eI,ch,er (by omega) (dM R (aI e (bO (by omega) rfl))),?_,iE⟩
 rw [Int.tmod_eq_emod_of_nonneg aV.1]
 exact ⟨Int.emod_nonneg _ (by omega),Int.emod_lt_of_pos _ (by omega)⟩
theorem I4 (n:Int)(o:1≤n)(R:n≤256)(c:List Int)(aN:c.length≤1048576)(i h:Int)(ah:0≤i): ∃b eI ch,wJ n c i h=some (b,eI,ch)∧0≤eI:=by
 obtain ⟨b,eI,ch,e,-,iE⟩:=kU n o R c aN i h ah
 exact ⟨b == 0,eI,ch,aI e rfl,iE⟩
theorem I5 (l:List Int)(o:1≤l.length)(R:l.length≤256)(c:List Int)(aN:c.length≤1048576)(i h:Int)(ah:0≤i): ∃b eI ch,wK l c i h=some (b,eI,ch)∧b∈l∧0≤eI:=by
 obtain ⟨b,eI,ch,e,aV,iE⟩:=kU (len_ J l) (by rw [gY];omega) (by rw [gY];omega) c aN i h ah
 rw [gY] at aV
 have aa:=List.getElem?_eq_getElem (show b.toNat<l.length by omega)
 exact ⟨_,eI,ch,aI e (bO (by simp only;omega) (aI aa rfl)),List.getElem_mem _,iE⟩
theorem Qb (c:List Int)(aN:c.length≤1048576): ∃h,y1 c=some h:=by
 obtain ⟨r,e,-⟩:=pK (f:=fun w:Int×Int=>vU c w.1 w.2) (fun (n:Nat) (s:Int)=>(s,(n:Int))) c.length (fun _ _=>True) (fun _=>True)
  (fun n a5 s _=>by
    have aa:=List.getElem?_eq_getElem a5
    simp only
    unfold vU
    have aO:(n:Int)<len_ eU8 c:=by rw [gY];omega
    by_cases d:(n:Int)<4000
    ·exact .inl ⟨_,dM aO (dM d (bO (by omega) (aI (gt rfl aa) (by rw [mZ (by omega)])))),trivial⟩
    ·exact .inr ⟨_,dM aO (er d rfl),trivial⟩)
  (fun s _=>⟨_,by simp only;unfold vU;exact er (by rw [gY];omega) rfl,trivial⟩) (U ((1975:Int)+len_ eU8 c)) trivial
 exact ⟨r,aI e rfl⟩
theorem Yd (c:List Int)(aN:c.length≤1048576)(n:Nat)(a5:n≤1000): ∃i h,CB c (n:Int)=some (i,h)∧0≤i:=by
 obtain ⟨h0,e0⟩:=Qb c aN
 obtain ⟨⟨i,h⟩,e,ah⟩:=iG (f:=fun w:Int×Int×Int=>vW (n:Int) c w.1 w.2.1 w.2.2) (fun (k:Nat) (s:Int×Int)=>((k:Int),s.1,s.2)) n (fun _ s=>0≤s.1) (fun s=>s)
  (fun k aJ s bX=>by
    obtain ⟨b,eI,ch,e,-,iE⟩:=PF c aN s.1 s.2 bX
    refine ⟨(eI,ch),?_,iE⟩
    simp only
    unfold vW
    exact dM (by omega) (aI e (by rw [mZ (by omega)])))
  (fun s _=>by simp only;unfold vW;exact er (by omega) rfl) (0,h0) (by simp)
 exact ⟨i,h,aI e0 (aI e rfl),ah⟩
theorem ZG (s:cz)(v:mr s)(a5:∀(n:Nat) j,s.cR[n]? = some j→tQ j.oM=some true)(bg:∀(i k:Nat) x y,s.cR[i]? = some x→s.cR[k]? = some y→i≠k→(x.oM.toList == y.oM.toList)=false):q3 s=some true:=by
 obtain ⟨f1,f2,f3,f4⟩:=v
 have KX:B1 s.cR (len_ dK s.cR) s.bB 0=some (.inl ()):=by
  unfold B1
  rw [gY]
  obtain ⟨_,e,-⟩:=iG (f:=fun w:Int=>vR s.cR (s.cR.length:Nat) s.bB w) (fun (i:Nat) (_:Unit)=>(i:Int)) s.cR.length (fun _ _=>True) (fun _=>(Sum.inl ():Unit⊕Unit))
   (fun i ah _ _=>by
     refine ⟨(),?_,trivial⟩
     have aa:=List.getElem?_eq_getElem ah
     obtain ⟨gQ,h8,lr,qY⟩:=f1 i _ aa
     have aB:y6 s.cR[i]=some true:=by
      unfold y6
      have p : ∀n:Int,-50≤n→n≤50→wR n=some true:=fun n o R=>by
       unfold wR
       exact dM o (by rw [decide_eq_true R])
      exact aI (a5 i _ aa) (fw rfl (aI (p _ gQ h8) (fw rfl (aI (p _ lr qY) rfl))))
     have aJ:yW ⟨s.cR,s.bB⟩ s.cR[i].oM=some (i:Int):=by
      unfold yW BI Fa
      obtain ⟨r,e,rfl⟩:=pK (f:=fun w:Int=>yC s.cR s.cR[i].oM (s.cR.length:Nat) w) (fun (k:Nat) (_:Unit)=>(k:Int)) s.cR.length (fun k _=>k≤i) (fun r=>r=(Sum.inr (i:Int):Unit⊕Int))
       (fun k aJ _ afg=>by
         have aP:=List.getElem?_eq_getElem aJ
         unfold yC Ce
         by_cases c:k=i
         ·subst c
          exact .inr ⟨_,dM (by omega) (bO (by omega) (aI (gt rfl aP) (aI rfl (fw (by simp) rfl)))),rfl⟩
         ·exact .inl ⟨(),dM (by omega) (bO (by omega) (aI (gt rfl aP) (aI rfl (ib (bg k i _ _ aP aa c) (by rw [fM (by omega)]))))),by omega⟩)
       (fun _ h=>by omega) () (Nat.zero_le _)
      rw [gY]
      exact aI (x:=(i:Int)) (aI e rfl) rfl
     unfold vR
     exact dM (by omega) (bO (by omega) (aI (gt rfl aa) (aI aB (fw rfl (aI aJ (ib (uV rfl) (by rw [fM (by omega)]))))))))
   (fun _ _=>by unfold vR;exact er (by omega) rfl) () trivial
  exact e
 have pW : ∀m∈s.bB,pM s.cR m=true:=fun m hm=>by
  obtain ⟨n,a5⟩:=List.getElem?_of_mem hm
  exact f2 n m a5
 have bb:yD s.bB s=some false:=by
  unfold yD BE E7
  rw [gY]
  obtain ⟨x,e,-⟩:=iG (f:=fun w:Int=>vq s.bB s.cR s.bB (s.bB.length:Nat) w) (fun (i:Nat) (_:Unit)=>(i:Int)) s.bB.length (fun _ _=>True) (fun _=>(Sum.inl ():Unit⊕Int))
   (fun i ah _ _=>by
     refine ⟨(),?_,trivial⟩
     have aa:=List.getElem?_eq_getElem ah
     have aV:=pW s.bB[i] (List.getElem_mem ah)
     unfold vq B8
     refine dM (by omega) (bO (by omega) (aI (gt rfl aa) (aI (x:=false) (aI (VX _ _) (by simp [aV])) (ib rfl (by rw [fM (by omega)]))))))
   (fun _ _=>by unfold vq;exact er (by omega) rfl) () trivial
  exact aI (x:=(-1:Int)) (aI e rfl) rfl
 unfold q3
 exact er (by rw [gY];omega) (er (by rw [gY];omega) (aI KX (aI bb rfl)))
def oZ:List ByteArray:=[⟨#[97]⟩,⟨#[98]⟩,⟨#[99]⟩,⟨#[100]⟩]
theorem Xg {k:Nat}{x:ByteArray}(h:oZ[k]? = some x):tQ x=some true:=by
 have key : ∀u:UInt8,97≤u.toNat→u.toNat≤122→tQ ⟨#[u]⟩=some true:=fun u o R=>by
  unfold tQ HE
  obtain ⟨_,e,-⟩:=iG (f:=fun w:Int=>wj ⟨#[u]⟩ (((⟨#[u]⟩:ByteArray).size:Nat):Int) w) (fun (i:Nat) (_:Unit)=>(i:Int)) 1 (fun _ _=>True) (fun _=>(Sum.inl ():Unit⊕Unit))
   (fun i ah _ _=>by
     obtain rfl:i=0:=by omega
     refine ⟨(),?_,trivial⟩
     unfold wj
     have bX:(((⟨#[u]⟩:ByteArray).size:Nat):Int)=1:=rfl
     rw [bX]
     refine dM (by omega) (bO (by omega) (aI (x:=true) ?_ (fw rfl rfl)))
     unfold Cz
     have dy:((⟨#[u]⟩:ByteArray).data.toList.getD (((0:Nat):Int)).toNat 0)=u:=rfl
     rw [dy]
     exact dM (by omega) (by rw [decide_eq_true (by omega)]))
   (fun _ _=>by unfold wj;exact er (by show ¬(1:Int)<1;omega) rfl) () trivial
  refine aI e ?_
  simp only
  have cH:((⟨#[u]⟩:ByteArray).toList == (⟨#[]⟩:ByteArray).toList)=false:=by
   simp [ByteArray.toList,ByteArray.toList.loop,ByteArray.size]
  rw [cH];rfl
 match k,h with
 | 0,h=>obtain rfl:=Option.some.inj h;exact key 97 (by decide) (by decide)
 | 1,h=>obtain rfl:=Option.some.inj h;exact key 98 (by decide) (by decide)
 | 2,h=>obtain rfl:=Option.some.inj h;exact key 99 (by decide) (by decide)
 | 3,h=>obtain rfl:=Option.some.inj h;exact key 100 (by decide) (by decide)
 | k+4,h=>simp [oZ] at h
theorem aaa {i k:Nat}{x y:ByteArray}(h:oZ[i]? = some x)(ch:oZ[k]? = some y)(cH:i≠k):(x.toList == y.toList)=false:=by
 have ah:=fI h
 have aJ:=fI ch
 have key : ∀i k:Fin 4,i≠k→((oZ[i.1]!).toList == (oZ[k.1]!).toList)=false:=by decide +kernel
 have ax:oZ[i]! = x:=by simp [h]
 have aC:oZ[k]! = y:=by simp [ch]
 have:=key ⟨i,by simpa [oZ] using ah⟩ ⟨k,by simpa [oZ] using aJ⟩ (fun e=>cH (by simpa using congrArg Fin.val e))
 rw [ax,aC] at this
 exact this
structure nW (s:cz):Prop where
 v:mr s
 ok:q3 s=some true
 Lw:3≤s.cR.length
 fS:2≤s.bB.length
 ac9:s.cR.map (·.oM)=oZ.take s.cR.length
theorem Jm (s:cz)(aB:∀j∈s.cR,-50≤j.l0∧j.l0≤50∧ -50≤j.l1∧j.l1≤50)(hm:∀m∈s.bB,pM s.cR m=true)(br:s.cR.length≤4)(bx:s.bB.length≤8)(a5:s.cR.map (·.oM)=oZ.take s.cR.length)(Lw:3≤s.cR.length)(fS:2≤s.bB.length):nW s:=by
 have v:mr s:=⟨fun n j h=>aB j (List.mem_of_getElem? h),fun n m h=>hm m (List.mem_of_getElem? h),by omega,bx⟩
 have name : ∀(n:Nat) j,s.cR[n]? = some j→oZ[n]? = some j.oM:=fun n j h=>by
  have aO:=fI h
  have e:(s.cR.map (·.oM))[n]? = some j.oM:=by rw [List.getElem?_map,h];rfl
  rw [a5,List.getElem?_take,if_pos aO] at e
  exact e
 exact ⟨v,ZG s v (fun n j h=>Xg (name n j h)) (fun i k x y aa aP cH=>aaa (name i x aa) (name k y aP) cH),Lw,fS,a5⟩
theorem ZH (c:List Int)(aN:c.length≤1048576)(i h:Int)(ah:0≤i): ∃fH fT eI ch,y2 c i h=some (fH,fT,eI,ch)∧nW ⟨fH,fT⟩∧0≤eI:=by
 unfold y2
 obtain ⟨gQ,mZ,o,ax,rn,p9⟩:=kU 3 (by omega) (by omega) c aN i h ah
 obtain ⟨h8,mX,R,aC,AL,pu⟩:=kU 3 (by omega) (by omega) c aN mZ o p9
 obtain ⟨lr,Bx,ab,bZ,acA,yb⟩:=kU 2 (by omega) (by omega) c aN mX R pu
 obtain ⟨qY,sv,aA,c8,acB,K7⟩:=kU 3 (by omega) (by omega) c aN Bx ab yb
 obtain ⟨qZ,Bz,aF,ep,acC,K8⟩:=kU 2 (by omega) (by omega) c aN sv aA K7
 obtain ⟨q1,Lx,br,fb,acD,K9⟩:=kU 3 (by omega) (by omega) c aN Bz aF K8
 obtain ⟨tu,Ly,bU,e2,La,Lb⟩:=I5 [1,2,3] (by simp) (by simp) c aN Lx br K9
 obtain ⟨Lz,i8,bx,hh,acE,EA⟩:=kU 3 (by omega) (by omega) c aN Ly bU Lb
 have ic:U ((-1:Int)-qY) = -1-qY:=cO (by omega) (by omega)
 have lx:U ((3:Int)+qZ)=3+qZ:=cO (by omega) (by omega)
 have qX:U ((-1:Int)-q1) = -1-q1:=cO (by omega) (by omega)
 have acF:1≤tu∧tu≤3:=by simp at La;omega
 obtain ⟨fH,kv⟩ : ∃fH:List bA,fH=([(⟨(⟨#[97]⟩:ByteArray),(-2),gQ,true⟩:bA),(⟨(⟨#[98]⟩:ByteArray),6,h8,true⟩:bA),(⟨(⟨#[99]⟩:ByteArray),lr,-1-qY,false⟩:bA),(⟨(⟨#[100]⟩:ByteArray),3+qZ,-1-q1,false⟩:bA)]:List bA):=⟨_,rfl⟩
 have g0:fH[0]? = some ⟨⟨#[97]⟩,-2,gQ,true⟩:=by rw [kv];rfl
 have g1:fH[1]? = some ⟨⟨#[98]⟩,6,h8,true⟩:=by rw [kv];rfl
 have g2:fH[2]? = some ⟨⟨#[99]⟩,lr,-1-qY,false⟩:=by rw [kv];rfl
 have g3:fH[3]? = some ⟨⟨#[100]⟩,3+qZ,-1-q1,false⟩:=by rw [kv];rfl
 have aO:fH.length=4:=by rw [kv];rfl
 have ER : ∀a b k:Int,(a=0∨a=1∨a=2∨a=3)→(b=2∨b=3∨b=1)→(b=1→a=3)→(a=2→b=3)→(a=3→b=1)→1≤k→k≤3→pM fH ⟨a,b,k⟩=true:=fun a b k bE aV qM lI f6 afh Ro=>by
  unfold pM
  simp only
  rw [aO,decide_eq_true (by omega),Bool.true_and]
  rcases bE with rfl|rfl|rfl|rfl
  ·rcases aV with rfl|rfl|rfl
   ·rw [show (0:Int).toNat=0 from rfl,show (2:Int).toNat=2 from rfl,g0,g2];simp;omega
   ·rw [show (0:Int).toNat=0 from rfl,show (3:Int).toNat=3 from rfl,g0,g3];simp;omega
   ·exact absurd (qM rfl) (by omega)
  ·rcases aV with rfl|rfl|rfl
   ·rw [show (1:Int).toNat=1 from rfl,show (2:Int).toNat=2 from rfl,g1,g2];simp;omega
   ·rw [show (1:Int).toNat=1 from rfl,show (3:Int).toNat=3 from rfl,g1,g3];simp;omega
   ·exact absurd (qM rfl) (by omega)
  ·obtain rfl:=lI rfl
   rw [show (2:Int).toNat=2 from rfl,show (3:Int).toNat=3 from rfl,g2,g3];simp;omega
  ·obtain rfl:=f6 rfl
   rw [show (3:Int).toNat=3 from rfl,show (1:Int).toNat=1 from rfl,g3,g1];simp;omega
 obtain ⟨⟨n,j,fT⟩,e,aa⟩:=jO (f:=fun w:Int×Int×Int×(List b4)=>vV c fH w.1 w.2.1 w.2.2.1 w.2.2.2) (fun w=>0≤w.1∧0≤w.2.1∧w.2.2.2.length+w.1.toNat≤8∧2≤w.2.2.2.length∧ ∀m∈w.2.2.2,pM fH m=true) (fun w=>w.1.toNat) (fun r=>0≤r.1∧r.2.2.length≤8∧2≤r.2.2.length∧ ∀m∈r.2.2,pM fH m=true)
  (fun w hw=>by
    obtain ⟨n,j,g,fT⟩:=w
    obtain ⟨hG,iw,bs,fD,m0⟩:=hw
    simp only at hG iw bs fD m0
    by_cases d:0<n
    ·obtain ⟨fB,eK,nx,gN,aW,ak⟩:=kU 2 (by omega) (by omega) c aN j g iw
     obtain ⟨e1,dQ,qW,h7,bl,bm⟩:=kU 2 (by omega) (by omega) c aN eK nx ak
     obtain ⟨aU,jA,EP,qe,cc,bk⟩:=kU 3 (by omega) (by omega) c aN dQ qW bm
     have v1:U ((2:Int)+e1)=2+e1:=cO (by omega) (by omega)
     have v2:U ((1:Int)+aU)=1+aU:=cO (by omega) (by omega)
     refine .inl ⟨(n-1,jA,EP,fT++[⟨fB,2+e1,1+aU⟩]),?_,⟨by simp only;omega,bk,by simp only [List.length_append,List.length_singleton];omega,by simp only [List.length_append,List.length_singleton];omega,fun m hm=> ?_⟩,by simp only;omega⟩
     ·simp only
      unfold vV
      refine dM d (aI gN (aI h7 (aI qe ?_)))
      simp only
      rw [v1,v2,cO (x:=n-1) (by omega) (by omega)]
      exact bO (by simp only [List.length_append,List.length_singleton];omega) rfl
     ·simp only [List.mem_append,List.mem_singleton] at hm
      rcases hm with hm|rfl
      ·exact m0 m hm
      ·exact ER _ _ _ (by omega) (by omega) (by omega) (by omega) (by omega) (by omega) (by omega)
    ·refine .inr ⟨(j,g,fT),by simp only;unfold vV;exact er d rfl,iw,by simp only;omega,fD,m0⟩)
  (Lz,i8,bx,[⟨0,2,1⟩,⟨2,3,tu⟩,⟨3,1,1⟩]) ⟨acE.1,EA,by simp;omega,by simp,fun m hm=>by
    simp at hm
    rcases hm with rfl|rfl|rfl
    ·exact ER _ _ _ (by omega) (by omega) (by omega) (by omega) (by omega) (by omega) (by omega)
    ·exact ER _ _ _ (by omega) (by omega) (by omega) (by omega) (by omega) (by omega) (by omega)
    ·exact ER _ _ _ (by omega) (by omega) (by omega) (by omega) (by omega) (by omega) (by omega)⟩
 obtain ⟨aW,bl,cc,cM⟩:=aa
 refine ⟨fH,fT,n,j,aI ax (aI aC (aI bZ (aI c8 (aI ep (aI fb (aI e2 (aI hh ?_))))))),Jm _ (fun j aB=> ?_) cM (by simp only;omega) bl ?_ (by simp only;omega) cc,aW⟩
 ·simp only
  rw [ic,lx,qX,← kv]
  exact aI (x:=(n,j,fT)) e rfl
 ·rw [kv] at aB
  simp at aB
  rcases aB with rfl|rfl|rfl|rfl<;>simp<;>omega
 ·simp only
  rw [aO,kv];rfl
theorem YR (c:List Int)(aN:c.length≤1048576)(i h:Int)(ah:0≤i): ∃fH fT eI ch,yY c i h=some (fH,fT,eI,ch)∧nW ⟨fH,fT⟩∧0≤eI:=by
 unfold yY
 obtain ⟨gQ,mZ,o,ax,rn,p9⟩:=kU 4 (by omega) (by omega) c aN i h ah
 obtain ⟨h8,mX,R,aC,AL,pu⟩:=kU 3 (by omega) (by omega) c aN mZ o p9
 obtain ⟨lr,Bx,ab,bZ,acA,yb⟩:=kU 4 (by omega) (by omega) c aN mX R pu
 obtain ⟨qY,sv,aA,c8,acB,K7⟩:=kU 3 (by omega) (by omega) c aN Bx ab yb
 obtain ⟨qZ,Bz,aF,ep,acC,K8⟩:=kU 4 (by omega) (by omega) c aN sv aA K7
 obtain ⟨q1,Lx,br,fb,acD,K9⟩:=kU 4 (by omega) (by omega) c aN Bz aF K8
 obtain ⟨tu,Ly,bU,e2,La,Lb⟩:=I5 [1,1,1,3] (by simp) (by simp) c aN Lx br K9
 obtain ⟨Lz,i8,bx,hh,EA⟩:=I4 2 (by omega) (by omega) c aN Ly bU Lb
 have ic:U ((-1:Int)-gQ) = -1-gQ:=cO (by omega) (by omega)
 have lx:U ((3:Int)+lr)=3+lr:=cO (by omega) (by omega)
 have qX:U (qZ-(1:Int))=qZ-1:=cO (by omega) (by omega)
 have Sg:U ((-1:Int)-q1) = -1-q1:=cO (by omega) (by omega)
 have acF:1≤tu∧tu≤3:=by simp at La;omega
 cases Lz with
 | false =>
  obtain ⟨fH,kv⟩ : ∃fH:List bA,fH=([(⟨(⟨#[97]⟩:ByteArray),-1-gQ,h8,true⟩:bA),(⟨(⟨#[98]⟩:ByteArray),3+lr,qY,true⟩:bA),(⟨(⟨#[99]⟩:ByteArray),qZ-1,-1-q1,false⟩:bA)]:List bA):=⟨_,rfl⟩
  have g0:fH[0]? = some ⟨⟨#[97]⟩,-1-gQ,h8,true⟩:=by rw [kv];rfl
  have g1:fH[1]? = some ⟨⟨#[98]⟩,3+lr,qY,true⟩:=by rw [kv];rfl
  have g2:fH[2]? = some ⟨⟨#[99]⟩,qZ-1,-1-q1,false⟩:=by rw [kv];rfl
  have aO:fH.length=3:=by rw [kv];rfl
  refine ⟨fH,[⟨0,2,1⟩,⟨1,2,tu⟩],i8,bx,aI ax (aI aC (aI bZ (aI c8 (aI ep (aI fb (aI e2 (aI hh (ib rfl ?_)))))))),Jm _ (fun j aB=> ?_) (fun m hm=> ?_) (by simp only;omega) (by simp) ?_ (by simp only;omega) (by simp),EA⟩
  ·simp only
   rw [ic,lx,qX,Sg,← kv]
  ·rw [kv] at aB
   simp at aB
   rcases aB with rfl|rfl|rfl<;>simp<;>omega
  ·simp at hm
   unfold pM
   rcases hm with rfl|rfl
   ·simp only
    rw [aO,decide_eq_true (by omega),Bool.true_and,show (0:Int).toNat=0 from rfl,show (2:Int).toNat=2 from rfl,g0,g2];simp;omega
   ·simp only
    rw [aO,decide_eq_true (by omega),Bool.true_and,show (1:Int).toNat=1 from rfl,show (2:Int).toNat=2 from rfl,g1,g2];simp;omega
  ·simp only
   rw [aO,kv];rfl
 | true =>
  obtain ⟨ES,ada,c2,adb,afi,acG⟩:=kU 5 (by omega) (by omega) c aN i8 bx EA
  obtain ⟨Lc,acH,dO,acI,aaX,aaY⟩:=I5 [1,2,3] (by simp) (by simp) c aN ada c2 acG
  have ade:U (ES-(1:Int))=ES-1:=cO (by omega) (by omega)
  have aew:1≤Lc∧Lc≤3:=by simp at aaX;omega
  obtain ⟨fH,kv⟩ : ∃fH:List bA,fH=([(⟨(⟨#[97]⟩:ByteArray),-1-gQ,h8,true⟩:bA),(⟨(⟨#[98]⟩:ByteArray),3+lr,qY,true⟩:bA),(⟨(⟨#[99]⟩:ByteArray),qZ-1,-1-q1,false⟩:bA)]:List bA)++([(⟨(⟨#[100]⟩:ByteArray),ES-1,(-7),true⟩:bA)]:List bA):=⟨_,rfl⟩
  have g0:fH[0]? = some ⟨⟨#[97]⟩,-1-gQ,h8,true⟩:=by rw [kv];rfl
  have g1:fH[1]? = some ⟨⟨#[98]⟩,3+lr,qY,true⟩:=by rw [kv];rfl
  have g2:fH[2]? = some ⟨⟨#[99]⟩,qZ-1,-1-q1,false⟩:=by rw [kv];rfl
  have g3:fH[3]? = some ⟨⟨#[100]⟩,ES-1,-7,true⟩:=by rw [kv];rfl
  have aO:fH.length=4:=by rw [kv];rfl
  refine ⟨fH,([⟨0,2,1⟩,⟨1,2,tu⟩]:List b4)++[⟨3,2,Lc⟩],acH,dO,aI ax (aI aC (aI bZ (aI c8 (aI ep (aI fb (aI e2 (aI hh (fw rfl (aI adb ?_))))))))),Jm _ (fun j aB=> ?_) (fun m hm=> ?_) (by simp only;omega) (by simp) ?_ (by simp only;omega) (by simp),aaY⟩
  ·simp only
   rw [ic,lx,qX,Sg,ade,← kv]
   exact bO (by rw [aO];omega) (aI acI (bO (by simp) rfl))
  ·rw [kv] at aB
   simp at aB
   rcases aB with rfl|rfl|rfl|rfl<;>simp<;>omega
  ·simp at hm
   unfold pM
   rcases hm with rfl|rfl|rfl
   ·simp only
    rw [aO,decide_eq_true (by omega),Bool.true_and,show (0:Int).toNat=0 from rfl,show (2:Int).toNat=2 from rfl,g0,g2];simp;omega
   ·simp only
    rw [aO,decide_eq_true (by omega),Bool.true_and,show (1:Int).toNat=1 from rfl,show (2:Int).toNat=2 from rfl,g1,g2];simp;omega
   ·simp only
    rw [aO,decide_eq_true (by omega),Bool.true_and,show (3:Int).toNat=3 from rfl,show (2:Int).toNat=2 from rfl,g3,g2];simp;omega
  ·simp only
   rw [aO,kv];rfl
end Go.Proofs.YtgfpnhmcmgnepadGreat
namespace Go.Proofs.YtgfpnhmcmgnepadGreat
set_option linter.unusedVariables false
set_option linter.unusedSimpArgs false
open Go Go.VL
theorem YS (c:List Int)(aN:c.length≤1048576)(i h:Int)(ah:0≤i): ∃fH fT eI ch,yZ c i h=some (fH,fT,eI,ch)∧nW ⟨fH,fT⟩∧0≤eI:=by
 obtain ⟨b,mZ,o,ax,p9⟩:=I4 3 (by omega) (by omega) c aN i h ah
 unfold yZ
 cases b with
 | true =>
  obtain ⟨fH,fT,mX,R,e,d,pu⟩:=ZH c aN mZ o p9
  exact ⟨fH,fT,mX,R,aI ax (fw rfl (aI e rfl)),d,pu⟩
 | false =>
  obtain ⟨fH,fT,mX,R,e,d,pu⟩:=YR c aN mZ o p9
  exact ⟨fH,fT,mX,R,aI ax (ib rfl (aI e rfl)),d,pu⟩
def EB (s:cz)(l:List Int):Prop:=l.length=2*s.cR.length∧ ∀x∈l,-8≤x∧x≤4
theorem Ye (s:cz)(d:nW s)(c:List Int)(aN:c.length≤1048576)(i h:Int)(ah:0≤i): ∃l eI ch,y0 s c i h=some (l,eI,ch)∧EB s l∧0≤eI:=by
 have br:=d.v.2.2.1
 have ab:=d.Lw
 have adf:U ((2:Int)*(len_ dK s.cR))=((2*s.cR.length:Nat):Int):=by rw [gY,cO (by omega) (by omega)];omega
 unfold y0
 rw [adf,Int.toNat_natCast]
 obtain ⟨⟨j,g,row⟩,e,aW,bl,cc⟩:=iG (f:=fun w:Int×Int×Int×(List Int)=>tx s.cR (s.cR.length:Nat) c w.1 w.2.1 w.2.2.1 w.2.2.2) (fun (k:Nat) (q:Int×Int×List Int)=>((k:Int),q.1,q.2.1,q.2.2)) s.cR.length (fun _ q=>0≤q.1∧q.2.2.length=2*s.cR.length∧ ∀x∈q.2.2,-8≤x∧x≤4) (fun q=>q)
  (fun k aJ q bb=>by
    obtain ⟨j,g,row⟩:=q
    obtain ⟨hG,iw,bs⟩:=bb
    simp only at hG iw bs
    have aa:=List.getElem?_eq_getElem aJ
    have lx:U ((2:Int)*((k:Nat):Int))=((2*k:Nat):Int):=by rw [cO (by omega) (by omega)];omega
    by_cases f:s.cR[k].nE=true
    ·refine ⟨(j,g,row),?_,hG,iw,bs⟩
     simp only
     unfold tx
     exact dM (by omega) (bO (by omega) (aI (gt rfl aa) (fw f (by rw [fM (by omega)]))))
    ·obtain ⟨fB,eK,nx,gN,ak,s1⟩:=kU 7 (by omega) (by omega) c aN j g hG
     obtain ⟨e1,dQ,qW,h7,bm,s2⟩:=kU 9 (by omega) (by omega) c aN eK nx s1
     have v1:U (fB-(3:Int))=fB-3:=cO (by omega) (by omega)
     have v2:U (0-e1)=0-e1:=cO (by omega) (by omega)
     refine ⟨(dQ,qW,(row.set (2*k) (fB-3)).set (2*k+1) (0-e1)),?_,s2,by simp only [List.length_set];omega,fun x hm=> ?_⟩
     ·simp only
      unfold tx
      rw [lx,fM (n:=2*k) (by omega),Int.toNat_natCast,Int.toNat_natCast,Nat.zero_add,Nat.zero_add]
      refine dM (by omega) (bO (by omega) (aI (gt rfl aa) (ib (by simpa using f) (aI gN (bO (by omega) (bO (by omega) (aI h7 (bO (by omega) (bO (by rw [List.length_set];omega) ?_)))))))))
      simp only
      rw [v1,v2,fM (by omega),Int.toNat_natCast]
     ·simp only at hm
      rcases List.mem_or_eq_of_mem_set hm with hm|rfl
      ·rcases List.mem_or_eq_of_mem_set hm with hm|rfl
       ·exact bs x hm
       ·omega
      ·omega)
  (fun q _=>by simp only;unfold tx;exact er (by omega) rfl) (i,h,List.replicate (2*s.cR.length) 0) ⟨ah,by simp,fun x aa=>by
    simp only [List.mem_replicate] at aa;omega⟩
 simp only at aW bl cc
 obtain ⟨b,mX,R,aC,pu⟩:=I4 8 (by omega) (by omega) c aN j g aW
 have e7:Cd s.cR (len_ dK s.cR) c 0 i h (List.replicate (2*s.cR.length) 0)=some (j,g,row):=by
  unfold Cd
  rw [gY]
  exact e
 cases b with
 | false=>exact ⟨row,mX,R,bO (by omega) (aI e7 (aI aC (ib rfl rfl))),⟨bl,cc⟩,pu⟩
 | true =>
  have wl:U (((row.length:Nat):Int)-(1:Int))=((row.length-1:Nat):Int):=by rw [cO (by omega) (by omega)];omega
  refine ⟨row.set (row.length-1) 4,mX,R,bO (by omega) (aI e7 (aI aC (fw rfl ?_))),⟨by rw [List.length_set];exact bl,fun x hm=> ?_⟩,pu⟩
  ·simp only
   rw [wl,Int.toNat_natCast,Nat.zero_add]
   exact bO (by omega) (bO (by omega) rfl)
  ·rcases List.mem_or_eq_of_mem_set hm with hm|rfl
   ·exact cc x hm
   ·omega
theorem V0 (c:List Int)(aN:c.length≤1048576): ∃s l,Cy c=some (s,l)∧nW s∧EB s l:=by
 obtain ⟨h0,e0⟩:=Qb c aN
 obtain ⟨fH,fT,mZ,o,ax,d,p9⟩:=YS c aN 0 h0 (by omega)
 obtain ⟨l,mX,R,aC,yB,-⟩:=Ye ⟨fH,fT⟩ d c aN mZ o p9
 exact ⟨⟨fH,fT⟩,l,aI e0 (aI (x:=(fH,fT,l,mX,R)) (aI ax (aI aC rfl)) rfl),d,yB⟩
theorem aab (s:cz)(d:nW s)(l:List Int)(aO:l.length=2*s.cR.length)(aV:∀x∈l,-100≤x∧x≤100):wN s l=some true∧wU s l=some true:=by
 have e:DP s.cR.length l=true:=by
  unfold DP
  rw [decide_eq_true aO,Bool.true_and,List.all_eq_true]
  intro x aa
  unfold sS
  exact decide_eq_true (aV x aa)
 have f:=VY s d.v.2.2.1 l (by rw [aO,Oo];have:=d.v.2.2.1;omega)
 rw [e] at f
 exact ⟨f,aI d.ok (fw rfl (aI f rfl))⟩
theorem EB.cT {s:cz}{l:List Int}(h:EB s l): ∀x∈l,-100≤x∧x≤100:=fun x aa=>by have:=h.2 x aa;omega
theorem QA {x y:Rat}(aa:gy x)(aP:gy y)(h:gy (x*y)):zA (c4 x) (c4 y)=some (c4 (x*y)):=aI (PB aa aP) (aI (Qw h) rfl)
theorem Yf {n:Int}(h:ng n):Ct n=some (iR (n:Rat)):=aI (xt h) (aI (I3 (zL h)) rfl)
structure nO (K:Nat) (z:Nat→Rat) (w:Rat):Prop where
 pos:0<w
 n3:dl K w
 ET : ∀k,dl K (z k*w)
 Ld:1000*K≤21*100*(dR*dR)
theorem nO.fit {K:Nat}{z:Nat→Rat}{w x:Rat}(h:nO K z w){a:Nat}(bE:a≤1000)(aa:dl (a*K) (x*w)):gy x:=by
 have af:=h.pos
 have o:=h.Ld
 have R:a*K≤1000*K:=Nat.mul_le_mul_right _ bE
 exact xK (K:=21*100*(dR*dR)) (h.n3.mono (by omega)) (aa.mono (by omega)) (by grind) (by grind) (s0 (Nat.le_refl _))
theorem nO.JX {K:Nat}{z:Nat→Rat}{w:Rat}(h:nO K z w)(k:Nat):gy (z k):=h.fit (a:=1) (by omega) (by rw [Nat.one_mul];exact h.ET k)
theorem dl.int {z:Int}{K:Nat}(h:z.natAbs≤K):dl K (z:Rat):=⟨z,rfl,h⟩
theorem nO.fits {K:Nat}{z:Nat→Rat}{w:Rat}(h:nO K z w){n:Nat}(a5:n≤8){e:Nat→Int}(he:∀k,-100≤e k∧e k≤100){f:Int}(b5:-100≤f∧f≤100):gy (ct n (fun k=>z k*(e k:Rat))+(f:Rat)):=h.fit (a:=n*100+100) (by omega) (by
 have ax:(ct n (fun k=>z k*(e k:Rat))+(f:Rat))*w=ct n (fun k=>(e k:Rat)*(z k*w))+(f:Rat)*w:=by
  rw [Rat.add_mul,← w1]
  congr 1
  exact fA fun k _=>by grind
 rw [ax,Nat.add_mul]
 refine dl.add ?_ ((dl.int (by omega)).mul h.n3)
 rw [Nat.mul_assoc]
 exact dl.sum fun k _=>(dl.int (by have:=he k;omega)).mul (h.ET k))
theorem Yg {n:Nat}(a5:n≤40){y:Nat→Rat}(aP:∀k,k<n→gy (y k)):zr (a7 n fun k=>iR (y k))=some (a7 n (fun k=>c4 (y k)),true):=by
 have aO:len_ fm (a7 n fun k=>iR (y k))=((n:Nat):Int):=by rw [gY,cQ]
 unfold zr
 rw [aO]
 refine bO (by omega) (aI (x:= .inl (a7 n fun k=>c4 (y k))) ?_ rfl)
 unfold HQ
 obtain ⟨_,e,-⟩:=iG (f:=fun w:Int×(List (Option bq))=>wv (a7 n fun k=>iR (y k)) ((n:Nat):Int) w.1 w.2) (fun (k:Nat) (_:Unit)=>((k:Int),a7 n fun j=>if j<k then c4 (y j) else none)) n (fun _ _=>True) (fun _=>(.inl (a7 n fun k=>c4 (y k)):(List (Option bq))⊕Unit))
  (fun k aJ _ _=>by
    refine ⟨(),?_,trivial⟩
    unfold wv
    simp only
    have ax:(a7 n fun j=>if j<k then c4 (y j) else none).set (0+((k:Nat):Int).toNat) (c4 (y k))=a7 n fun j=>if j<k+1 then c4 (y j) else none:=by
     rw [Int.toNat_natCast,Nat.zero_add,ke]
     refine fc fun j _=> ?_
     by_cases bF:j=k
     ·subst bF;rw [if_pos rfl,if_pos (by omega)]
     ·rw [if_neg bF]
      by_cases cI:j<k
      ·rw [if_pos cI,if_pos (by omega)]
      ·rw [if_neg cI,if_neg (by omega)]
    refine dM (by omega) (bO (by rw [cQ];omega) (aI (x:=iR (y k)) (by rw [Int.toNat_natCast];exact ga aJ) (aI (DF (aP k aJ)) (bO (by rw [cQ];omega) (bO (by rw [cQ,Int.toNat_natCast];omega) ?_)))))
    rw [ax,fM (by omega)]
    refine aI (x:=c4 (y k)) (by rw [Int.toNat_natCast,Nat.zero_add,ga aJ,if_pos (by omega)]) ?_
    rfl)
  (fun _ _=>by
    unfold wv
    refine er (by simp) ?_
    simp only
    congr 3
    exact fc fun j aB=>by rw [if_pos aB]) () trivial
 have e0:(a7 n fun j=>if j<0 then c4 (y j) else none)=List.replicate (((n:Nat):Int).toNat) none:=by
  rw [Int.toNat_natCast,m6];exact fc fun j _=>by rw [if_neg (by omega)]
 rw [← e0];exact e
theorem Na (s:cz)(ok:q3 s=some true)(bx:s.bB.length≤8){y:Nat→Rat}(aP:∀k,gy (y k)):wM s (a7 s.bB.length fun k=>iR (y k))=some (a7 s.bB.length (fun k=>c4 (y k)),true):=by
 unfold wM
 exact ib (by rw [gY,gY,cQ];exact uV rfl) (aI ok (fw rfl (aI (Yg (by omega) fun k _=>aP k) rfl)))
@[irreducible] def k8:Nat:=16*jT 100 8
theorem QB:16*jT 100 8=k8:=by unfold k8;rfl
theorem ZI:1000*k8≤21*100*(dR*dR):=by unfold k8;decide +kernel
theorem aac:k8*k8*20000≤21*100*(dR*dR):=by unfold k8;decide +kernel
theorem nW.Bq {s:cz}(d:nW s):s.cR.length≤4:=by
 have:=congrArg List.length d.ac9
 rw [List.length_map,List.length_take] at this
 have e:oZ.length=4:=rfl
 omega
theorem YT {s:cz}(d:nW s){l:List Int}{c x:Nat→Rat}{w:Rat}(q:JW (2*fy s) (c5 s) (pE s) (rD s l) c x w):nO k8 (hO s x (c5 s)) w:=by
 have bx:=d.v.2.2.2
 have qk:=xL s
 have yw:=DS s
 have aA:=d.Bq
 have gJ:jT 100 (2*fy s)≤jT 100 8:=xg (by omega) (by omega)
 refine ⟨q.pos,q.n3.mono ?_,fun k=>(Qz q.Sf k (Nat.le_refl _)).mono ?_,ZI⟩
 ·rw [← QB];omega
 ·rw [← QB];exact Nat.mul_le_mul (by omega) gJ
def ys (s:cz)(k:Nat):Int:=(jR s k).1*(jR s k).1+(jR s k).2*(jR s k).2
def gA (s:cz)(z:Nat→Rat)(k:Nat):Rat:=z k*z k*(ys s k:Rat)
theorem Jn (s:cz)(v:mr s){k:Nat}(aJ:k<s.bB.length):0≤ys s k∧ys s k≤20000∧U (U ((jR s k).1*(jR s k).1)+U ((jR s k).2*(jR s k).2))=ys s k:=by
 obtain ⟨-,a,b⟩:=Dd s v k aJ
 have p:=OS a
 have q:=OS b
 unfold ys
 refine ⟨by omega,by omega,?_⟩
 rw [cO (x:=(jR s k).1*(jR s k).1) (by omega) (by omega),cO (x:=(jR s k).2*(jR s k).2) (by omega) (by omega),cO (by omega) (by omega)]
theorem Qc {s:cz}{z:Nat→Rat}{w:Rat}(h:nO k8 z w){k:Nat}{e:Int}(he:e.natAbs≤20000):gy (z k*z k*(e:Rat)):=by
 have af:=h.pos
 have xU:0<w*w:=Rat.mul_pos af af
 have gJ:=aac
 have o:k8*k8≤k8*k8*20000:=Nat.le_mul_of_pos_right _ (by omega)
 have ax:(z k*w)*(z k*w)*(e:Rat)=w*w*(z k*z k*(e:Rat)):=by grind
 have gI:dl (21*100*(dR*dR)) (w*w):=(h.n3.mul h.n3).mono (Nat.le_trans o gJ)
 have hT:dl (k8*k8*20000) ((z k*w)*(z k*w)*(e:Rat)):=((h.ET k).mul (h.ET k)).mul (dl.int (K:=20000) he)
 exact xK (K:=21*100*(dR*dR)) (d:=w*w) (y:=(z k*w)*(z k*w)*(e:Rat)) gI (hT.mono gJ) (by grind) ax.symm (s0 (Nat.le_refl _))
theorem rU {s:cz}(v:mr s){z:Nat→Rat}{w:Rat}(h:nO k8 z w){k:Nat}(aJ:k<s.bB.length):gy (gA s z k):=by
 have:=Jn s v aJ
 exact Qc (s:=s) h (by omega)
theorem Jo {s:cz}(v:mr s){z:Nat→Rat}{k:Nat}(aJ:k<s.bB.length):0≤gA s z k:=by
 have:=Jn s v aJ
 refine Rat.mul_nonneg ?_ (Rat.intCast_nonneg.2 this.1)
 rcases Rat.le_total (a:=0) (b:=z k) with c|c
 ·exact Rat.mul_nonneg c c
 ·have:=Rat.mul_nonneg (a:= -z k) (b:= -z k) (by grind) (by grind)
  grind
theorem MU {s:cz}(v:mr s){z:Nat→Rat}{w:Rat}(h:nO k8 z w){k:Nat}(aJ:k<s.bB.length):vN s (a7 s.bB.length fun k=>c4 (z k)) (k:Int)=some (c4 (gA s z k)):=by
 obtain ⟨bF,-,-⟩:=Dd s v k aJ
 obtain ⟨gQ,h8,lr⟩:=Jn s v aJ
 have f1:=h.JX k
 have f2:gy (z k*z k):=by
  have:=Qc (s:=s) h (k:=k) (e:=1) (by decide)
  rw [show ((1:Int):Rat)=1 from rfl,Rat.mul_one] at this
  exact this
 have i64:ng (ys s k):=lM.2 (by omega)
 unfold vN
 refine aI bF (bO (by rw [cQ];omega) (aI (x:=c4 (z k)) (by rw [Int.toNat_natCast];exact ga aJ) (aI (QA f1 f1 f2) ?_)))
 rw [lr]
 exact aI (xt i64) (aI (QA f2 (zL i64) (rU v h aJ)) rfl)
theorem yX {s:cz}(d:nW s){z:Nat→Rat}{w:Rat}(h:nO k8 z w):sF s (a7 s.bB.length fun k=>iR (z k))=some (a7 s.bB.length (fun k=>c4 (gA s z k)),true):=by
 have v:=d.v
 have bx:=v.2.2.2
 have aO:len_ (b6 3 a2) (a7 s.bB.length fun k=>c4 (z k))=((s.bB.length:Nat):Int):=by rw [gY,cQ]
 unfold sF
 refine aI (Na s d.ok bx h.JX) (fw rfl ?_)
 simp only
 rw [aO]
 refine bO (by omega) (aI (x:= .inl (a7 s.bB.length fun k=>c4 (gA s z k))) ?_ rfl)
 unfold GA
 obtain ⟨_,e,-⟩:=iG (f:=fun u:Int×(List (Option bq))=>vQ s.cR s.bB (a7 s.bB.length fun k=>c4 (z k)) ((s.bB.length:Nat):Int) u.1 u.2) (fun (k:Nat) (_:Unit)=>((k:Int),a7 s.bB.length fun j=>if j<k then c4 (gA s z j) else none)) s.bB.length (fun _ _=>True) (fun _=>(.inl (a7 s.bB.length fun k=>c4 (gA s z k)):(List (Option bq))⊕Unit))
  (fun k aJ _ _=>by
    refine ⟨(),?_,trivial⟩
    unfold vQ
    simp only
    have ax:(a7 s.bB.length fun j=>if j<k then c4 (gA s z j) else none).set (0+((k:Nat):Int).toNat) (c4 (gA s z k))=a7 s.bB.length fun j=>if j<k+1 then c4 (gA s z j) else none:=by
     rw [Int.toNat_natCast,Nat.zero_add,ke]
     refine fc fun j _=> ?_
     by_cases bF:j=k
     ·subst bF;rw [if_pos rfl,if_pos (by omega)]
     ·rw [if_neg bF]
      by_cases cI:j<k
      ·rw [if_pos cI,if_pos (by omega)]
      ·rw [if_neg cI,if_neg (by omega)]
    refine dM (by omega) (aI (MU v h aJ) (bO (by rw [cQ];omega) (bO (by rw [cQ,Int.toNat_natCast];omega) ?_)))
    rw [ax,fM (by omega)]
    exact aI (x:=c4 (gA s z k)) (by rw [Int.toNat_natCast,Nat.zero_add,ga aJ,if_pos (by omega)]) rfl)
  (fun _ _=>by
    unfold vQ
    refine er (by simp) ?_
    simp only
    congr 3
    exact fc fun j aB=>by rw [if_pos aB]) () trivial
 have e0:(a7 s.bB.length fun j=>if j<0 then c4 (gA s z j) else none)=List.replicate (((s.bB.length:Nat):Int).toNat) none:=by
  rw [Int.toNat_natCast,m6];exact fc fun j _=>by rw [if_neg (by omega)]
 rw [← e0];exact e
theorem zF (s:cz){W:Nat→Int}(bx:s.bB.length≤8)(hW:∀k,k<s.bB.length→0≤W k∧W k≤1000):sH s (a7 s.bB.length W)=some true:=by
 have o:yF (a7 s.bB.length W)=some (-1):=by
  unfold yF
  rw [gY,cQ]
  refine aI (x:= .inl ()) ?_ rfl
  unfold Fg
  obtain ⟨_,e,-⟩:=iG (f:=fun u:Int=>vv (a7 s.bB.length W) ((s.bB.length:Nat):Int) u) (fun (k:Nat) (_:Unit)=>(k:Int)) s.bB.length (fun _ _=>True) (fun _=>(.inl ():Unit⊕Int))
   (fun k aJ _ _=>by
     refine ⟨(),?_,trivial⟩
     unfold vv
     refine dM (by omega) (bO (by rw [cQ];omega) (aI (x:=W k) (by rw [Int.toNat_natCast];exact ga aJ) (aI (x:=false) ?_ ?_)))
     ·unfold Cg
      exact aI (Wr (W k)) (by rw [decide_eq_true (hW k aJ)];rfl)
     ·rw [fM (by omega)];exact ib rfl rfl)
   (fun _ _=>by unfold vv;exact er (by simp) rfl) () trivial
  exact e
 unfold sH
 exact fw (by rw [gY,gY,cQ];simp) (aI (aI o rfl) rfl)
def qR (y:Rat)(x:Int):Prop:=x*x*(f7 y).2<(f7 y).1
theorem O5 {y:Rat}(aP:gy y){x:Int}(aa:0≤x∧x≤1000): ∃c,nB (U (x*x))=some (c4 ((x*x:Int):Rat))∧q7 (c4 y) (c4 ((x*x:Int):Rat))=some c∧(0<c↔qR y x):=by
 have bX:0≤x*x∧x*x≤1000000:=by
  have:=Int.mul_le_mul aa.2 aa.2 aa.1 (by omega)
  exact ⟨Int.mul_nonneg aa.1 aa.1,by omega⟩
 have i64:ng (x*x):=lM.2 (by omega)
 have p:=aP.c1
 have q:=(zL i64).c1
 refine ⟨_,by rw [cO (x:=x*x) (by omega) (by omega)];exact xt i64,H2 p.pos q.pos p.num p.den q.num q.den (by omega) (by omega) (by omega) (by omega),?_⟩
 rw [XU]
 unfold qR f7
 simp only [Rat.num_intCast,Rat.den_intCast]
 rw [show ((1:Nat):Int)=1 from rfl,Int.mul_one]
theorem M4 {s:cz}(d:nW s){z:Nat→Rat}{w:Rat}(h:nO k8 z w){W:Nat→Int}(hW:∀k,k<s.bB.length→0≤W k∧W k≤1000){aK:Nat→List Int}(mq:aK 0=[])(aO:∀k,(aK k).length≤k)
 (cJ : ∀k,k<s.bB.length→(qR (gA s z k) (W k)∧aK (k+1)=aK k++[(k:Int)])∨(¬qR (gA s z k) (W k)∧aK (k+1)=aK k)) :
 wH s (a7 s.bB.length fun k=>iR (z k)) (a7 s.bB.length W)=some (aK s.bB.length,true):=by
 have v:=d.v
 have bx:=v.2.2.2
 have hlen:len_ (b6 3 a2) (a7 s.bB.length fun k=>c4 (gA s z k))=((s.bB.length:Nat):Int):=by rw [gY,cQ]
 unfold wH
 refine aI (yX d h) (fw rfl (aI (zF s bx hW) (fw rfl ?_)))
 simp only
 rw [hlen]
 refine aI (x:=aK s.bB.length) ?_ rfl
 unfold yR
 obtain ⟨_,e,-⟩:=iG (f:=fun u:Int×(List Int)=>vS (a7 s.bB.length W) (a7 s.bB.length fun k=>c4 (gA s z k)) ((s.bB.length:Nat):Int) u.1 u.2) (fun (k:Nat) (_:Unit)=>((k:Int),aK k)) s.bB.length (fun _ _=>True) (fun _=>aK s.bB.length)
  (fun k aJ _ _=>by
    refine ⟨(),?_,trivial⟩
    obtain ⟨c,bF,cI,mv⟩:=O5 (rU v h aJ) (hW k aJ)
    have:=aO k
    unfold vS
    simp only
    rw [fM (by omega)]
    refine dM (by omega) (bO (by rw [cQ];omega) (aI (x:=c4 (gA s z k)) (by rw [Int.toNat_natCast];exact ga aJ) (bO (by rw [cQ];omega) (aI (x:=W k) (by rw [Int.toNat_natCast];exact ga aJ) (aI bF (aI cI ?_))))))
    rcases cJ k aJ with ⟨g,e⟩|⟨g,e⟩
    ·rw [e];exact dM (mv.2 g) (bO (by simp only [List.length_append,List.length_singleton];omega) rfl)
    ·rw [e];exact er (fun x=>g (mv.1 x)) rfl)
  (fun _ _=>by unfold vS;exact er (by simp) rfl) () trivial
 rw [mq] at e
 exact e
theorem MM {s:cz}(d:nW s){z:Nat→Rat}{w:Rat}(h:nO k8 z w){W:Nat→Int}(hW:∀k,k<s.bB.length→0≤W k∧W k≤1000){aK:Nat→List Int}(mq:aK 0=[])(aO:∀k,(aK k).length≤k)
 (cJ : ∀k,k<s.bB.length→(qR (gA s z k) (W k)∧aK (k+1)=aK k++[(k:Int)])∨(¬qR (gA s z k) (W k)∧aK (k+1)=aK k)) :
 yU s (a7 s.bB.length fun k=>iR (z k)) (a7 s.bB.length W)=some (.inl (aK s.bB.length)):=by
 have v:=d.v
 have bx:=v.2.2.2
 have hlen:len_ (b6 3 a2) (a7 s.bB.length fun k=>c4 (gA s z k))=((s.bB.length:Nat):Int):=by rw [gY,cQ]
 have aC:=M4 d h hW mq aO cJ
 unfold wH at aC
 unfold yU
 rw [yX d h,zF s bx hW] at aC
 refine aI (yX d h) (fw rfl (aI (zF s bx hW) (fw rfl ?_)))
 have same:GB=yR:=rfl
 rw [same]
 simp only [Option.bind_eq_bind,Option.bind_some,if_true] at aC ⊢
 cases q:yR (a7 s.bB.length W) (a7 s.bB.length fun k=>c4 (gA s z k)) (len_ (b6 3 a2) (a7 s.bB.length fun k=>c4 (gA s z k))) 0 [] with
 | none=>rw [q] at aC;simp at aC
 | some r=>rw [q] at aC;simp at aC;rw [aC];rfl
theorem O6 {y:Rat}{r:Int}(h:xT (f7 y) r):(r≤1000→ ¬qR y r)∧(∀j,0≤j→j<r→qR y j):=by
 obtain ⟨hG,iw,bs,fD⟩:=h
 exact ⟨fun al=>by unfold qR;have:=fD al;omega,fun j adg EL=>bs j adg EL⟩
theorem VD {p:Int×Int}(h0:0≤p.1):rH (na p)=some (if p.1=0 then 0 else 1):=by
 have bX:rH (na p)=((if ((len_ J (L p.1.natAbs)) == (0:Int))=true then some 0 else if (decide (p.1<0))=true then some (-1) else some 1:Option Int)).bind (fun r=>some r):=rfl
 rw [bX,gk]
 by_cases h:p.1=0
 ·rw [if_pos (by rw [h];simp [n9]),if_pos h]
  rfl
 ·rw [if_neg (by simp only [beq_iff_eq];intro R;have:=(D2 (n:=p.1.natAbs) (by omega)).1 R;omega),if_neg (by simp;omega),if_neg h]
  rfl
theorem V1 {p:Int×Int}(af:Fr p)(oX:0≤p.1){w:Int}(x3:0<w)(u9:w≤1000):
 ∃(g m e:Int),0<g∧p.1=g*m∧p.2*(w*w)=g*e∧0≤m∧0<e∧m<B 24∧e<B 25∧rK (na p) w=some (na (m,e)):=by
 have o:=af.uC
 have R:=af.uD
 have aF:=af.pos
 obtain ⟨lx,qX⟩:=P4 (show 0≤w by omega) u9
 have wp:0<w*w:=Int.mul_pos x3 x3
 have bg:0<p.2*(w*w):=Int.mul_pos aF wp
 obtain ⟨m,e,g1,g2,g3,g4,g5,g6⟩:=Pr (n:=p.1) bg
 have dy:=Dr (n:=p.1) bg
 have afj:(1000000:Int)<B 1:=by decide
 have afx:=af.num
 have adh:=Ds (m:=24) (n:=1) (by omega) lx af.den (by omega)
 have cT:=(hx (k:=25) (Int.le_of_lt bg)).1 adh
 have lw:=(hx (k:=1) lx).2 (by omega)
 have lR:0≤m:=by
  apply Int.not_lt.mp
  intro h
  have:(Int.gcd p.1 (p.2*(w*w)):Int)*m≤Int.gcd p.1 (p.2*(w*w))*(-1):=Int.mul_le_mul_of_nonneg_left (by omega) (by omega)
  omega
 have aex:m≤p.1:=by
  have:1*m≤(Int.gcd p.1 (p.2*(w*w)):Int)*m:=Int.mul_le_mul_of_nonneg_right (by omega) lR
  omega
 have aey:e≤p.2*(w*w):=by
  have:1*e≤(Int.gcd p.1 (p.2*(w*w)):Int)*e:=Int.mul_le_mul_of_nonneg_right (by omega) (by omega)
  omega
 refine ⟨Int.gcd p.1 (p.2*(w*w)),m,e,dy,g3,g4,lR,g5,by omega,by omega,?_⟩
 have kk:ng (w*w):=lM.2 (by omega)
 have ww:U (w*w)=w*w:=cO (by omega) (by omega)
 have ax:mE (ja p).lD.cK (ja (w*w,1)).mN=some (L p.1):=by
  show mE (L p.1.natAbs) (L 1)=_
  rw [xh (jG _) (jG _) (by omega) (by rw [Qu];simp),fe (by omega),fe (by omega),Int.mul_one]
  congr 2
  omega
 have aC:mE (ja p).mN (ja (w*w,1)).lD.cK=some (L (p.2*(w*w))):=by
  show mE (L p.2) (L (w*w).natAbs)=_
  have:((w*w).natAbs:Int)=w*w:=by omega
  rw [this,xh (jG _) (jG _) (by omega) (by omega),fe (by omega),fe lx]
 have bZ:kd (!((ja p).lD.c6 == (ja (w*w,1)).lD.c6)) (L p.1)=some (gF p.1):=by
  show kd (!(decide (p.1<0) == decide (w*w<0))) (L p.1)=_
  rw [decide_eq_false (by omega),decide_eq_false (by omega),pa oX]
  rfl
 unfold rK
 rw [if_neg (by simp;omega),ww,Dc kk]
 simp only [Option.bind_eq_bind,Option.bind_some]
 unfold CA na
 simp only [Option.bind_eq_bind,Option.bind_some]
 rw [ax]
 simp only [Option.bind_some]
 rw [bZ]
 simp only [Option.bind_some]
 rw [aC]
 simp only [Option.bind_some]
 rw [Om bg (by omega) (by omega),g1,g2]
 simp only [Option.bind_some]
theorem Vm {x:Option bq}:rK x 0=some (na (0,1)):=by
 unfold rK
 rw [if_pos (by rfl),Dc (lM.2 (by omega))]
 rfl
theorem wZ {p:Int×Int}(h0:0≤p.1)(w:Int):tJ (na p) w=some (decide (w=0∧p.1≠0)):=by
 unfold tJ
 by_cases hw:w=0
 ·rw [if_pos (by simpa using hw),VD h0]
  by_cases h:p.1=0<;>simp [h,hw]
 ·rw [if_neg (by simpa using hw)]
  simp [hw]
theorem Nb {p:Int×Int}(af:Fr p)(oX:0≤p.1){w:Int}(hw:0≤w∧w≤1000): ∃m e,0≤m∧0<e∧m<B 24∧e<B 25∧rK (na p) w=some (na (m,e)):=by
 by_cases c:w=0
 ·subst c
  exact ⟨0,1,by omega,by omega,aaP.num,(by decide),Vm⟩
 ·obtain ⟨g,m,e,-,-,-,o,R,ab,aA,aF⟩:=V1 af oX (show 0<w by omega) hw.2
  exact ⟨m,e,o,R,ab,aA,aF⟩
theorem V2 {p q:Int×Int}(af:Fr p)(bb:Fr q)(oX:0≤p.1)(lF:0≤q.1){v w:Int}(a3:0≤v∧v≤1000)(hw:0≤w∧w≤1000): ∃r,zk (na p) v (na q) w=some r:=by
 unfold zk
 by_cases a:decide (v=0∧p.1≠0)=true
 ·exact ⟨_,aI (wZ oX v) (fw a (aI (wZ lF w) rfl))⟩
 ·by_cases b:decide (w=0∧q.1≠0)=true
  ·exact ⟨_,aI (wZ oX v) (ib (Bool.eq_false_iff.2 a) (aI (wZ lF w) (fw b rfl)))⟩
  ·obtain ⟨m,e,hn,fS,o3,Bs,adi⟩:=Nb af oX a3
   obtain ⟨a1,ec,gI,hT,R3,Lj,adj⟩:=Nb bb lF hw
   exact ⟨_,aI (wZ oX v) (ib (Bool.eq_false_iff.2 a) (aI (wZ lF w) (ib (Bool.eq_false_iff.2 b) (aI adi (aI adj (aI (H2 (p:=(m,e)) (q:=(a1,ec)) (i:=24) (j:=25) (k:=24) (l:=25) fS hT (by simp only;omega) Bs (by simp only;omega) Lj (by omega) (by omega) (by omega) (by omega)) rfl))))))⟩
theorem VE (c:List Int)(aN:c.length≤1048576)(n:Nat)(a5:n≤1000): ∃w,Cv c (n:Int)=some w:=by
 obtain ⟨i,h,e,ah⟩:=Yd c aN n a5
 obtain ⟨k,eI,ch,ax,aJ,iE⟩:=kU 4 (by omega) (by omega) c aN i h ah
 obtain ⟨r,ak,-⟩:=jO (f:=fun w:Int×Int×Int×(List Int)=>vT c w.1 w.2.1 w.2.2.1 w.2.2.2) (fun w=>w.1≤3∧0≤w.2.1∧w.2.2.2.length+w.1.toNat≤8) (fun w=>w.1.toNat) (fun _=>True)
  (fun w hw=>by
    obtain ⟨k,j,g,out⟩:=w
    obtain ⟨hG,iw,bs⟩:=hw
    simp only at hG iw bs
    by_cases d:0<k
    ·obtain ⟨fB,eK,nx,gN,aW,ak⟩:=kU 16 (by omega) (by omega) c aN j g iw
     refine .inl ⟨(k-1,eK,nx,out++[fB]),?_,⟨by simp only;omega,ak,by simp only [List.length_append,List.length_singleton];omega⟩,by simp only;omega⟩
     simp only
     unfold vT
     refine dM d (aI gN (bO (by simp only [List.length_append,List.length_singleton];omega) ?_))
     simp only
     rw [cO (x:=k-1) (by omega) (by omega)]
    ·exact .inr ⟨out,by simp only;unfold vT;exact er d rfl,trivial⟩)
  (k,eI,ch,[]) ⟨by simp only;omega,iE,by simp only [List.length_nil];omega⟩
 exact ⟨r,aI e (aI ax (aI ak rfl))⟩
theorem NY {s:cz}(d:nW s){z:Nat→Rat}{w:Rat}(h:nO k8 z w){k:Nat}(aJ:k<s.bB.length):wD s (a7 s.bB.length fun k=>iR (z k)) (k:Int)=some (iR (gA s z k),true):=by
 unfold wD
 exact aI (Na s d.ok d.v.2.2.2 h.JX) (fw rfl (er (by omega) (er (by rw [gY];omega) (aI (MU d.v h aJ) (aI (aI (I3 (rU d.v h aJ)) rfl) rfl)))))
theorem Yh (x:Rat):lT (f7 x).1=0↔(f7 x).1=0:=by
 unfold lT
 split
 ·omega
 ·split<;>omega
theorem Yi {s:cz}(d:nW s){z:Nat→Rat}{w:Rat}(h:nO k8 z w): ∃r:Nat→Int,(∀k,k<s.bB.length→xT (f7 (gA s z k)) (r k)) ∧
 (((∀k,k<s.bB.length→r k≤1000)∧tH s (a7 s.bB.length fun k=>iR (z k))=some (.inl (a7 s.bB.length r)))∨((∃k,k<s.bB.length∧1000<r k)∧tH s (a7 s.bB.length fun k=>iR (z k))=some (.inr ()))):=by
 have v:=d.v
 have bx:=v.2.2.2
 have hex : ∀k,∃r:Int,k<s.bB.length→xT (f7 (gA s z k)) r∧wW (c4 (gA s z k))=some (if r≤1000 then (r,true) else (0,false)):=fun k=>by
  by_cases c:k<s.bB.length
  ·obtain ⟨r,ak,bm⟩:=W9 (rU v h c).c1
   exact ⟨r,fun _=>⟨ak,bm⟩⟩
  ·exact ⟨0,fun x=>absurd x c⟩
 obtain ⟨r,al⟩:=Classical.axiomOfChoice hex
 have hlen:len_ (b6 3 a2) (a7 s.bB.length fun k=>c4 (gA s z k))=((s.bB.length:Nat):Int):=by rw [gY,cQ]
 have e0:(a7 s.bB.length fun j=>if j<0 then r j else 0)=List.replicate (((s.bB.length:Nat):Int).toNat) (0:Int):=by
  rw [Int.toNat_natCast,m6];exact fc fun j _=>by rw [if_neg (by omega)]
 have whole : ∀out,Ho (a7 s.bB.length fun k=>c4 (gA s z k)) ((s.bB.length:Nat):Int) 0 (a7 s.bB.length fun j=>if j<0 then r j else 0)=some out→tH s (a7 s.bB.length fun k=>iR (z k))=some out:=fun out ai=>by
  unfold tH
  refine aI (yX d h) (fw rfl ?_)
  simp only
  rw [hlen]
  refine bO (by omega) (aI (x:=out) (by rw [← e0];exact ai) ?_)
  cases out<;>rfl
 have step : ∀k,k<s.bB.length→(r k≤1000→rF (a7 s.bB.length fun k=>c4 (gA s z k)) ((s.bB.length:Nat):Int) (k:Int) (a7 s.bB.length fun j=>if j<k then r j else 0)=some (.inl (((k+1:Nat):Int),a7 s.bB.length fun j=>if j<k+1 then r j else 0)))∧(1000<r k→rF (a7 s.bB.length fun k=>c4 (gA s z k)) ((s.bB.length:Nat):Int) (k:Int) (a7 s.bB.length fun j=>if j<k then r j else 0)=some (.inr (.inr ()))):=fun k aJ=>by
  obtain ⟨gI,hT⟩:=al k aJ
  unfold rF
  constructor
  ·intro c
   rw [if_pos c] at hT
   have ax:(a7 s.bB.length fun j=>if j<k then r j else 0).set (0+((k:Nat):Int).toNat) (r k)=a7 s.bB.length fun j=>if j<k+1 then r j else 0:=by
    rw [Int.toNat_natCast,Nat.zero_add,ke]
    refine fc fun j _=> ?_
    by_cases bF:j=k
    ·subst bF;rw [if_pos rfl,if_pos (by omega)]
    ·rw [if_neg bF]
     by_cases cI:j<k
     ·rw [if_pos cI,if_pos (by omega)]
     ·rw [if_neg cI,if_neg (by omega)]
   refine dM (by omega) (bO (by rw [cQ];omega) (aI (x:=c4 (gA s z k)) (by rw [Int.toNat_natCast];exact ga aJ) (aI hT (bO (by rw [cQ];omega) (bO (by rw [cQ,Int.toNat_natCast];omega) (fw rfl ?_))))))
   rw [ax,fM (by omega)]
  ·intro c
   rw [if_neg (by omega)] at hT
   exact dM (by omega) (bO (by rw [cQ];omega) (aI (x:=c4 (gA s z k)) (by rw [Int.toNat_natCast];exact ga aJ) (aI hT (bO (by rw [cQ];omega) (bO (by rw [cQ,Int.toNat_natCast];omega) (ib rfl rfl))))))
 refine ⟨r,fun k aJ=>(al k aJ).1,?_⟩
 by_cases all : ∀k,k<s.bB.length→r k≤1000
 ·refine .inl ⟨all,whole _ ?_⟩
  obtain ⟨_,e,-⟩:=iG (f:=fun u:Int×(List Int)=>rF (a7 s.bB.length fun k=>c4 (gA s z k)) ((s.bB.length:Nat):Int) u.1 u.2) (fun (k:Nat) (_:Unit)=>((k:Int),a7 s.bB.length fun j=>if j<k then r j else 0)) s.bB.length (fun _ _=>True) (fun _=>(.inl (a7 s.bB.length r):List Int⊕Unit))
   (fun k aJ _ _=>⟨(),(step k aJ).1 (all k aJ),trivial⟩)
   (fun _ _=>by
     unfold rF
     refine er (by simp) ?_
     simp only
     congr 3
     exact fc fun j aB=>by rw [if_pos aB]) () trivial
  exact e
 ·have cH : ∃k,k<s.bB.length∧1000<r k:=Classical.byContradiction fun a5=>all fun k aJ=>Int.not_lt.1 fun c=>a5 ⟨k,aJ,c⟩
  refine .inr ⟨cH,whole _ ?_⟩
  obtain ⟨x,e,aa⟩:=pK (f:=fun u:Int×(List Int)=>rF (a7 s.bB.length fun k=>c4 (gA s z k)) ((s.bB.length:Nat):Int) u.1 u.2) (fun (k:Nat) (_:Unit)=>((k:Int),a7 s.bB.length fun j=>if j<k then r j else 0)) s.bB.length (fun k _=> ∀j,j<k→r j≤1000) (fun x=>x=(.inr ():List Int⊕Unit))
   (fun k aJ _ cV=>by
     by_cases c:r k≤1000
     ·refine .inl ⟨(),(step k aJ).1 c,fun j aB=> ?_⟩
      by_cases e:j=k
      ·rw [e];exact c
      ·exact cV j (by omega)
     ·exact .inr ⟨_,(step k aJ).2 (by omega),rfl⟩)
   (fun _ cV=>absurd cV all) () (fun j aB=>absurd aB (by omega))
  rw [aa] at e
  exact e
theorem Yj {s:cz}(d:nW s){z:Nat→Rat}{w:Rat}(h:nO k8 z w){W:Nat→Int}(hW:∀k,k<s.bB.length→0≤W k∧W k≤1000): ∃r,wC s (a7 s.bB.length fun k=>iR (z k)) (a7 s.bB.length W)=some r∧0≤r∧r<(s.bB.length:Nat):=by
 have v:=d.v
 have bx:=v.2.2.2
 have fS:=d.fS
 have hlen:len_ (b6 3 a2) (a7 s.bB.length fun k=>c4 (gA s z k))=((s.bB.length:Nat):Int):=by rw [gY,cQ]
 obtain ⟨x,e,aa⟩:=pK (f:=fun u:Int×Int=>sC (a7 s.bB.length W) (a7 s.bB.length fun k=>c4 (gA s z k)) ((s.bB.length:Nat):Int) u.1 u.2) (fun (k:Nat) (q:Int)=>(q,(k:Int))) s.bB.length (fun k q=> -1≤q∧q<(s.bB.length:Nat)∧(0<k→0≤q)) (fun x=>0≤x∧x<(s.bB.length:Nat))
  (fun k aJ q cV=>by
    obtain ⟨hG,iw,bs⟩:=cV
    refine .inl ?_
    simp only
    unfold sC
    by_cases c:q<0
    ·exact ⟨(k:Int),dM (by omega) (bO (by rw [cQ];omega) (aI (x:=c4 (gA s z k)) (by rw [Int.toNat_natCast];exact ga aJ) (dM c (by rw [fM (by omega)])))),by omega,by omega,fun _=>by omega⟩
    ·have bb:q.toNat<s.bB.length:=by omega
     obtain ⟨m,hm⟩:=V2 (rU v h aJ).c1 (rU v h bb).c1 (Rat.num_nonneg.2 (Jo v aJ)) (Rat.num_nonneg.2 (Jo v bb)) (hW k aJ) (hW _ bb)
     have pre : ∀I,(if m=true then some (.inl ((k:Int),U ((k:Int)+1))) else some (.inl (q,U ((k:Int)+1))))=(some (.inl I):Option ((Int×Int)⊕Int))→sC (a7 s.bB.length W) (a7 s.bB.length fun k=>c4 (gA s z k)) ((s.bB.length:Nat):Int) q (k:Int)=some (.inl I):=fun I ai=>by
      unfold sC
      exact dM (by omega) (bO (by rw [cQ];omega) (aI (x:=c4 (gA s z k)) (by rw [Int.toNat_natCast];exact ga aJ) (er c (bO (by rw [cQ];omega) (aI (x:=W k) (by rw [Int.toNat_natCast];exact ga aJ) (bO (by rw [cQ];omega) (aI (x:=c4 (gA s z q.toNat)) (ga bb) (bO (by rw [cQ];omega) (aI (x:=W q.toNat) (ga bb) (aI hm ai))))))))))
     rw [fM (by omega)] at pre
     cases m with
     | true=>exact ⟨(k:Int),pre _ rfl,by omega,by omega,fun _=>by omega⟩
     | false=>exact ⟨q,pre _ rfl,by omega,by omega,fun _=>by omega⟩)
  (fun q cV=>⟨q,by simp only;unfold sC;exact er (by simp) rfl,cV.2.2 (by omega),cV.2.1⟩) (-1) ⟨by omega,by omega,fun h=>absurd h (by omega)⟩
 refine ⟨x,?_,aa⟩
 unfold wC
 refine aI (yX d h) (fw rfl (aI (zF s bx hW) (fw rfl ?_)))
 simp only
 rw [hlen]
 exact aI e rfl
theorem Us (x0:List Int)(i0:(fun l=>l.length≤maxLen∧ ∀x∈l,(fun _=>True) x) x0):CC x0=some true:=by
 unfold CC
 by_cases h0:(1048576:Int)<len_ eU8 x0
 ·exact dM h0 rfl
 have aN:x0.length≤1048576:=by rw [gY] at h0;omega
 obtain ⟨s,l,ax,d,yB⟩:=V0 x0 aN
 have v:=d.v
 have bx:=v.2.2.2
 obtain ⟨-,bV⟩:=aab s d l yB.1 yB.cT
 refine er h0 (aI ax (aI bV (fw rfl (aI d.ok (fw rfl ?_)))))
 rcases YQ s v bV yB.1 yB.cT with ⟨-,a⟩|⟨x,w,q,a⟩
 ·obtain ⟨n,a5⟩:=VE x0 aN 40 (by omega)
  exact aI a (ib rfl (aI a5 (aI (x:=false) (aI (aI a (ib rfl rfl)) rfl) rfl)))
 have D:=YT d q
 refine aI a (fw rfl ?_)
 obtain ⟨r,al,⟨all,e⟩|⟨⟨hS,p4,Ld⟩,e⟩⟩:=Yi d D
 rotate_left
 ·
  refine aI e ?_
  refine aI (x:= .inr ()) ?_ rfl
  rw [gY]
  obtain ⟨y,hE,aP⟩:=pK (f:=fun u:Int=>vY (a7 s.bB.length fun k=>iR (hO s x (c5 s) k)) ((s.bB.length:Nat):Int) s.cR s.bB u) (fun (k:Nat) (_:Unit)=>(k:Int)) s.bB.length (fun k _=> ∀j,j<k→ ¬qR (gA s (hO s x (c5 s)) j) 1000) (fun y=>y=(.inr ():Unit⊕Unit))
   (fun k aJ _ cV=>by
     obtain ⟨c,bF,cI,mv⟩:=O5 (rU v D aJ) (x:=1000) (by omega)
     have i64:ng 1000000:=lM.2 (by omega)
     have aaZ:CM (iR (gA s (hO s x (c5 s)) k)) (iR ((1000000:Int):Rat))=some c:=aI (DF (rU v D aJ)) (aI (DF (zL i64)) (aI cI rfl))
     have base : ∀I,(if decide (0<c)=true then some (.inr (.inr ())) else some (.inl (U ((k:Int)+1))))=(some I:Option (Int⊕(Unit⊕Unit)))→vY (a7 s.bB.length fun k=>iR (hO s x (c5 s) k)) ((s.bB.length:Nat):Int) s.cR s.bB (k:Int)=some I:=fun I ai=>by
      unfold vY
      exact dM (by omega) (aI (NY d D aJ) (fw rfl (aI (Yf i64) (aI aaZ ai))))
     by_cases g:0<c
     ·exact .inr ⟨_,base _ (dM g rfl),rfl⟩
     ·refine .inl ⟨(),base _ (er g (by rw [fM (by omega)])),fun j aB=> ?_⟩
      by_cases e:j=k
      ·rw [e];exact fun a3=>g (mv.2 a3)
      ·exact cV j (by omega))
   (fun _ cV=>absurd ((O6 (al hS p4)).2 1000 (by omega) Ld) (cV hS p4)) () (fun j aB=>absurd aB (by omega))
  rw [aP] at hE
  exact hE
 have hW : ∀k,k<s.bB.length→0≤r k∧r k≤1000:=fun k aJ=>⟨(al k aJ).1,all k aJ⟩
 have no : ∀k,k<s.bB.length→ ¬qR (gA s (hO s x (c5 s)) k) (r k):=fun k aJ=>(O6 (al k aJ)).1 (all k aJ)
 have adk:=M4 d D hW (aK:=fun _=>[]) rfl (fun _=>by simp) (fun k aJ=> .inr ⟨no k aJ,rfl⟩)
 have acJ:=MM d D hW (aK:=fun _=>[]) rfl (fun _=>by simp) (fun k aJ=> .inr ⟨no k aJ,rfl⟩)
 have EQ:y4 s (a7 s.bB.length fun k=>iR (hO s x (c5 s) k)) (a7 s.bB.length r)=some true:=aI adk (fw rfl rfl)
 have adl:wX s l (a7 s.bB.length r)=some true:=aI (x:=(a7 s.bB.length fun k=>iR (hO s x (c5 s) k),true)) (aI a (fw rfl (aI EQ (fw rfl rfl)))) rfl
 obtain ⟨afy,ic,lx,qX⟩:=Yj d D hW
 refine aI e ?_
 simp only
 refine ib (by rw [cQ,gY];exact uV rfl) (aI (aI d.ok (fw rfl (aI (zF s bx hW) rfl))) (fw rfl (aI EQ (fw rfl (aI (x:= .inl []) (aI acJ rfl) ?_)))))
 refine ib (uV rfl) (aI adl (fw rfl (aI ic (er (by omega) (er (by rw [cQ];omega) (aI (x:= .inl ()) ?_ rfl))))))
 rw [cQ]
 obtain ⟨_,hE,-⟩:=iG (f:=fun u:Int×(List Int)=>vX (a7 s.bB.length fun k=>iR (hO s x (c5 s) k)) ((s.bB.length:Nat):Int) s.cR s.bB u.1 u.2) (fun (k:Nat) (_:Unit)=>((k:Int),a7 s.bB.length r)) s.bB.length (fun _ _=>True) (fun _=>(.inl ():Unit⊕Unit))
  (fun k aJ _ _=>by
    refine ⟨(),?_,trivial⟩
    obtain ⟨gN,h7⟩:=hW k aJ
    obtain ⟨hG,iw,bs,fD⟩:=al k aJ
    have afk:0≤(f7 (gA s (hO s x (c5 s)) k)).1:=Rat.num_nonneg.2 (Jo v aJ)
    have Sh:r k=0↔(f7 (gA s (hO s x (c5 s)) k)).1=0:=by
     constructor
     ·intro cn
      have:=fD (by omega)
      rw [cn] at this
      omega
     ·intro cn
      by_cases c:0<r k
      ·have:=bs 0 (by omega) c
       omega
      ·omega
    have eO:ze (iR (gA s (hO s x (c5 s)) k))=some (lT (f7 (gA s (hO s x (c5 s)) k)).1):=Xe (rU v D aJ)
    have same:((r k == 0) == (lT (f7 (gA s (hO s x (c5 s)) k)).1 == 0))=true:=by
     have qW:=Yh (gA s (hO s x (c5 s)) k)
     by_cases c:r k=0
     ·rw [Ei c,Ei (qW.2 (Sh.1 c))];rfl
     ·rw [AZ c,AZ (fun h=>c (Sh.2 (qW.1 h)))];rfl
    unfold vX
    simp only
    rw [Int.toNat_natCast,Nat.zero_add]
    refine dM (by omega) (aI (NY d D aJ) (fw rfl (bO (by rw [cQ];omega) (aI (x:=r k) (ga aJ) (aI eO (fw same ?_))))))
    by_cases c:0<r k
    rotate_left
    ·exact er c (by rw [fM (by omega)])
    refine dM c (bO (by rw [cQ];omega) ?_)
    have acK:U (r k-1)=r k-1:=cO (by omega) (by omega)
    have acL:U (r k-1+1)=r k:=by rw [cO (by omega) (by omega)];omega
    rw [acK,ke]
    have yq : ∀j,j<s.bB.length→0≤(if j=k then r k-1 else r j)∧(if j=k then r k-1 else r j)≤1000:=fun j aB=>by
     by_cases g:j=k
     ·rw [if_pos g];omega
     ·rw [if_neg g];exact hW j aB
    have a6:=MM d D yq (aK:=fun j=>if k<j then [(k:Int)] else []) (if_neg (by omega)) (fun j=>by split<;>simp;omega) (fun j aB=>by
     by_cases g:j=k
     ·refine .inl ⟨?_,?_⟩
      ·rw [if_pos g,g]
       exact bs (r k-1) (by omega) (by omega)
      ·rw [if_pos (by omega),if_neg (by omega),g];rfl
     ·refine .inr ⟨?_,?_⟩
      ·rw [if_neg g];exact no j aB
      ·by_cases g2:k<j
       ·rw [if_pos g2,if_pos (by omega)]
       ·rw [if_neg g2,if_neg (by omega)])
    simp only [if_pos aJ] at a6
    refine aI (x:= .inl [(k:Int)]) (aI a6 rfl) ?_
    simp only
    refine aI (x:=r k-1) (by rw [ga aJ,if_pos rfl]) (bO (by rw [cQ];omega) (ib rfl (bO (by simp) (aI (x:=(k:Int)) rfl (ib (uV rfl) ?_)))))
    rw [acL,ke,fM (by omega)]
    congr 3
    refine fc fun j _=> ?_
    by_cases g:j=k
    ·rw [if_pos g,g]
    ·rw [if_neg g,if_neg g])
  (fun _ _=>by unfold vX;exact er (by simp) rfl) () trivial
 exact hE
end Go.Proofs.YtgfpnhmcmgnepadGreat
