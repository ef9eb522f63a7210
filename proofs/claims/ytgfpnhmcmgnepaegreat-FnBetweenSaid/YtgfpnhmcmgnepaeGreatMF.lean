/- Lemmas, plain functions of the program, and what they answer. No condition. -/
import Derived.Test.YtgfpnhmcmgnepaeGreatME
namespace Go.Proofs.YtgfpnhmcmgnepaeGreat
set_option linter.unusedVariables false
set_option linter.unusedSimpArgs false
open Go Go.VL
theorem W6 {p:nt}{m n:Nat}{a:Nat→Nat→Int}{b:Nat→Int}(h:oa p m n a b){i:Nat}(ai:i<m)(aY:b i<0)(x0:Int)(eM:Bool)(dM:List Int)(bb:List ca)(cC:List Int)(en:List Bool)(P:List (List bg)):
 Dz x0 (i:Int) P.length (n+m+1) p.kU (i*n) n ((n:Nat):Int) p.j4 p.fX p.fY p.jt eM dM bb cC en 0 (P++[a2 (n+m+1) fun _=>bX 0])=some (P++[a2 (n+m+1) fun j=>if j<n then bX (ep m n a b i j) else bX 0]):=by
 have hm:=h.hm
 have a0:=h.a0
 have b4:l4 (b i) = -1:=by unfold l4;rw [if_pos aY]
 unfold Dz
 obtain ⟨s1,az,-⟩:=iv (f:=fun w:Int×List (List bg)=>xD x0 (i:Int) P.length (n+m+1) p.kU (i*n) n ((n:Nat):Int) p.j4 p.fX p.fY p.jt eM dM bb cC en w.1 w.2)
  (fun (k:Nat) (_:Unit)=>((k:Int),P++[a2 (n+m+1) fun j=>if j<k then bX (ep m n a b i j) else bX 0])) n (fun _ _=>True) (fun _=>P++[a2 (n+m+1) fun j=>if j<n then bX (ep m n a b i j) else bX 0])
  (fun k aX _ _=>by
    refine ⟨(),?_,trivial⟩
    have bH:=h.wR i ai k aX
    have e:U ((-1:Int)*a i k)=oc m n a b i k:=by
     rw [cX (by omega) (by omega)];unfold oc;rw [if_pos aX,b4]
    unfold xD
    refine ed (by simp only;omega) (bL (by simp only;omega) (aB (x:=a i k) (by simp only;rw [Int.toNat_natCast];exact h.BU i ai k aX) (aB (x:=bX (ep m n a b i k)) (by rw [e];exact tb (by have:=Bu h ai k;rw [mB];omega)) (aB (Kt _ _) (bL (by simp only;omega) (aB (by simp only;rw [Int.toNat_natCast];exact jQ (by omega)) ?_))))))
    simp only
    rw [f5 (by omega),Int.toNat_natCast,Nat.zero_add,kC,yQ]
    congr 5
    refine fm fun j _=> ?_
    by_cases bN:j=k
    ·subst bN;rw [if_pos rfl,if_pos (by omega)]
    ·rw [if_neg bN]
     by_cases c2:j<k
     ·rw [if_pos c2,if_pos (by omega)]
     ·rw [if_neg c2,if_neg (by omega)])
  (fun _ _=>by unfold xD;exact d4 (by simp) rfl) () trivial
 have e0:(a2 (n+m+1) fun j=>if j<0 then bX (ep m n a b i j) else bX 0)=a2 (n+m+1) fun _=>bX 0:=fm fun j _=>by rw [if_neg (by omega)]
 rw [e0] at az
 exact az
theorem W7 {p:nt}{m n:Nat}{a:Nat→Nat→Int}{b:Nat→Int}(h:oa p m n a b){i:Nat}(ai:i<m)(aY:¬b i<0)(x0:Int)(eM:Bool)(dM:List Int)(bb:List ca)(cC:List Int)(en:List Bool)(P:List (List bg)):
 DA x0 (i:Int) P.length (n+m+1) p.kU (i*n) n ((n:Nat):Int) p.j4 p.fX p.fY p.jt eM dM bb cC en 0 (P++[a2 (n+m+1) fun _=>bX 0])=some (P++[a2 (n+m+1) fun j=>if j<n then bX (ep m n a b i j) else bX 0]):=by
 have hm:=h.hm
 have a0:=h.a0
 have b4:l4 (b i)=1:=by unfold l4;rw [if_neg aY]
 unfold DA
 obtain ⟨s1,az,-⟩:=iv (f:=fun w:Int×List (List bg)=>xE x0 (i:Int) P.length (n+m+1) p.kU (i*n) n ((n:Nat):Int) p.j4 p.fX p.fY p.jt eM dM bb cC en w.1 w.2)
  (fun (k:Nat) (_:Unit)=>((k:Int),P++[a2 (n+m+1) fun j=>if j<k then bX (ep m n a b i j) else bX 0])) n (fun _ _=>True) (fun _=>P++[a2 (n+m+1) fun j=>if j<n then bX (ep m n a b i j) else bX 0])
  (fun k aX _ _=>by
    refine ⟨(),?_,trivial⟩
    have bH:=h.wR i ai k aX
    have e:U ((1:Int)*a i k)=oc m n a b i k:=by
     rw [cX (by omega) (by omega)];unfold oc;rw [if_pos aX,b4]
    unfold xE
    refine ed (by simp only;omega) (bL (by simp only;omega) (aB (x:=a i k) (by simp only;rw [Int.toNat_natCast];exact h.BU i ai k aX) (aB (x:=bX (ep m n a b i k)) (by rw [e];exact tb (by have:=Bu h ai k;rw [mB];omega)) (aB (Kt _ _) (bL (by simp only;omega) (aB (by simp only;rw [Int.toNat_natCast];exact jQ (by omega)) ?_))))))
    simp only
    rw [f5 (by omega),Int.toNat_natCast,Nat.zero_add,kC,yQ]
    congr 5
    refine fm fun j _=> ?_
    by_cases bN:j=k
    ·subst bN;rw [if_pos rfl,if_pos (by omega)]
    ·rw [if_neg bN]
     by_cases c2:j<k
     ·rw [if_pos c2,if_pos (by omega)]
     ·rw [if_neg c2,if_neg (by omega)])
  (fun _ _=>by unfold xE;exact d4 (by simp) rfl) () trivial
 have e0:(a2 (n+m+1) fun j=>if j<0 then bX (ep m n a b i j) else bX 0)=a2 (n+m+1) fun _=>bX 0:=fm fun j _=>by rw [if_neg (by omega)]
 rw [e0] at az
 exact az
theorem ow {α:Type}(n:Nat)(x:α):List.replicate n x=a2 n fun _=>x:=by
 apply List.ext_getElem?
 intro i
 by_cases c:i<n
 ·rw [gO c];simp [c]
 ·rw [List.getElem?_eq_none_iff.2 (by simp;omega),List.getElem?_eq_none_iff.2 (by rw [cW];omega)]
theorem OG {p:nt}{m n:Nat}{a:Nat→Nat→Int}{b:Nat→Int}(h:oa p m n a b)(eM:Bool)(dM:List Int)(en:List Bool):
 DB ((n+m:Nat):Int) p.kU p.j4 p.fX p.fY p.jt eM dM en 0 ([]:List ca) ([]:List (List bg)) ([]:List Int)=some (gF m (n+m) (fun i=>i),a2 m (fun i=>a2 (n+m+1) fun j=>bX (ep m n a b i j)),eD m (pr m n a b)):=by
 have hm:=h.hm
 have a0:=h.a0
 unfold DB
 obtain ⟨s,e,-⟩:=iv (f:=fun w:Int×(List ca)×(List (List bg))×(List Int)=>xF ((n+m:Nat):Int) p.kU p.j4 p.fX p.fY p.jt eM dM en w.1 w.2.1 w.2.2.1 w.2.2.2)
  (fun (i:Nat) (_:Unit)=>((i:Int),a2 i (fun k=>(some (k,n+m+1):ca)),a2 i (fun i=>a2 (n+m+1) fun j=>bX (ep m n a b i j)),a2 i (fun k=>((n+k:Nat):Int)))) m (fun _ _=>True)
  (fun _=>(gF m (n+m) (fun i=>i),a2 m (fun i=>a2 (n+m+1) fun j=>bX (ep m n a b i j)),eD m (pr m n a b)))
  (fun i ai _ _=>by
    refine ⟨(),?_,trivial⟩
    have aY:=h.sd i ai
    have hL:U (((n+m:Nat):Int)+1)=((n+m+1:Nat):Int):=f5 (by omega)
    have hw:U (p.j4+(i:Int))=((n+i:Nat):Int):=by rw [h.gz,← Int.natCast_add,cX (by omega) (by omega)]
    have Tv:(a2 i (fun i=>a2 (n+m+1) fun j=>bX (ep m n a b i j))).length=i:=cW ..
    have sS:oc m n a b i (n+m)=l4 (b i)*b i:=by unfold oc;rw [if_neg (by omega),if_pos rfl]
    have dD:((a2 (n+m+1) fun j=>if j<n then bX (ep m n a b i j) else bX 0).set (n+i) (bX ((1:Int):Rat))).set (n+m) (bX (ep m n a b i (n+m)))=a2 (n+m+1) fun j=>bX (ep m n a b i j):=by
     rw [kC,kC]
     refine fm fun j aC=> ?_
     by_cases bN:j=n+m
     ·rw [if_pos bN,bN]
     ·rw [if_neg bN]
      by_cases c2:j=n+i
      ·rw [if_pos c2,c2,vH ai,if_pos rfl];rfl
      ·rw [if_neg c2]
       by_cases mL:j<n
       ·rw [if_pos mL]
       ·rw [if_neg mL]
        obtain ⟨k,rfl⟩ : ∃k,j=n+k:=⟨j-n,by omega⟩
        rw [vH (by omega),if_neg (by omega)]
    unfold xF
    rw [hL,hw,Int.toNat_natCast]
    refine ed (by simp only;rw [h.rows];omega) (bL (by omega) (bL (by simp only;rw [h.Gh];omega) (aB (x:=b i) (by simp only [Int.toNat_natCast,Nat.zero_add];exact h.Fq i ai) ?_)))
    have fin:(some (Sum.inl (U ((i:Int)+1),(a2 i (fun k=>(some (k,n+m+1):ca)))++[some (i,n+m+1)],(a2 i (fun i=>a2 (n+m+1) fun j=>bX (ep m n a b i j)))++[a2 (n+m+1) fun j=>bX (ep m n a b i j)],(a2 i fun k=>((n+k:Nat):Int))++[((n+i:Nat):Int)])):Option ((Int×(List ca)×(List (List bg))×(List Int))⊕((List ca)×(List (List bg))×(List Int)))) =
     some (Sum.inl (((i+1:Nat):Int),a2 (i+1) (fun k=>(some (k,n+m+1):ca)),a2 (i+1) (fun i=>a2 (n+m+1) fun j=>bX (ep m n a b i j)),a2 (i+1) (fun k=>((n+k:Nat):Int)))):=by
     rw [f5 (by omega),AR i (fun k=>(some (k,n+m+1):ca)),AR i (fun i=>a2 (n+m+1) fun j=>bX (ep m n a b i j)),AR i (fun k=>((n+k:Nat):Int))]
    have aa : ∀(P:List (List bg)) (F:List bg→Option ((Int×(List ca)×(List (List bg))×(List Int))⊕((List ca)×(List (List bg))×(List Int)))) (x:List bg) r,F x=r→(P++[x])[P.length]? >>= F=r:=fun P F x r tW=>aB (Kt P x) tW
    refine CI (fun c=> ?_) (fun c=> ?_)
    ·have q2:b i<0:=of_decide_eq_true c
     have b4:l4 (b i) = -1:=by unfold l4;rw [if_pos q2]
     refine aB (Q4 h ai) (aB (by rw [Q3,ow];exact W6 h ai q2 _ _ _ _ _ _ _) (aB (tb (n:=1) (by rw [mB];omega)) (aa _ _ _ _ ?_)))
     refine bL (by omega) (aB (x:=bX 0) (by rw [Int.toNat_natCast,jQ (by omega),if_neg (by omega)]) (aB (x:=bX (ep m n a b i (n+m))) (by
      have e:U ((-1:Int)*b i)=oc m n a b i (n+m):=by rw [sS,b4,cX (by omega) (by omega)]
      rw [e];exact tb (by have:=Bu h ai (n+m);rw [mB];omega)) ?_))
     rw [yQ,Int.toNat_natCast,Nat.zero_add,Int.toNat_natCast,Nat.zero_add]
     refine aa _ _ _ _ (bL (by omega) ?_)
     obtain ⟨v,a3⟩ : ∃v,((a2 (n+m+1) fun j=>if j<n then bX (ep m n a b i j) else bX 0).set (n+i) (bX ((1:Int):Rat)))[n+m]? = some v:=by
      rw [kC,gO (by omega)];exact ⟨_,rfl⟩
     refine aB a3 (bL (by simp only [List.length_append,cW,List.length_cons,List.length_nil];omega) (bL (by simp only [List.length_append,cW,List.length_cons,List.length_nil];omega) ?_))
     rw [yQ]
     simp only [Int.toNat_natCast,Nat.zero_add]
     rw [dD,Tv]
     exact fin
    ·have q2 : ¬b i<0:=of_decide_eq_false c
     have b4:l4 (b i)=1:=by unfold l4;rw [if_neg q2]
     refine aB (Q4 h ai) (aB (by rw [Q3,ow];exact W7 h ai q2 _ _ _ _ _ _ _) (aB (tb (n:=1) (by rw [mB];omega)) (aa _ _ _ _ ?_)))
     refine bL (by omega) (aB (x:=bX 0) (by rw [Int.toNat_natCast,jQ (by omega),if_neg (by omega)]) (aB (x:=bX (ep m n a b i (n+m))) (by
      have e:U ((1:Int)*b i)=oc m n a b i (n+m):=by rw [sS,b4,cX (by omega) (by omega)]
      rw [e];exact tb (by have:=Bu h ai (n+m);rw [mB];omega)) ?_))
     rw [yQ,Int.toNat_natCast,Nat.zero_add,Int.toNat_natCast,Nat.zero_add]
     refine aa _ _ _ _ (bL (by omega) ?_)
     obtain ⟨v,a3⟩ : ∃v,((a2 (n+m+1) fun j=>if j<n then bX (ep m n a b i j) else bX 0).set (n+i) (bX ((1:Int):Rat)))[n+m]? = some v:=by
      rw [kC,gO (by omega)];exact ⟨_,rfl⟩
     refine aB a3 (bL (by simp only [List.length_append,cW,List.length_cons,List.length_nil];omega) (bL (by simp only [List.length_append,cW,List.length_cons,List.length_nil];omega) ?_))
     rw [yQ]
     simp only [Int.toNat_natCast,Nat.zero_add]
     rw [dD,Tv]
     exact fin)
  (fun _ _=>by unfold xF;exact d4 (by simp only;rw [h.rows];omega) rfl) () trivial
 exact e
def qF (n j:Nat):Int:=if n≤j then -1 else 0
theorem RC {m n j:Nat}(aC:j<n+m):((qF n j:Int):Rat)=il m n j:=by
 unfold qF il
 by_cases c:n≤j
 ·rw [if_pos c,if_pos ⟨c,aC⟩];rfl
 ·rw [if_neg c,if_neg (by omega)];rfl
theorem Q5 {m n:Nat}{t:ct}(hj:∀i,i<m→t.B i<n+m){j:Nat}(aC:j<n+m):t.dE m (fun j=>((qF n j:Int):Rat)) j=t.dE m (il m n) j:=by
 unfold ct.dE
 simp only
 rw [RC aC,fC (g:=fun i=>il m n (t.B i)*t.T i j) fun i ai=>by rw [RC (hj i ai)]]
theorem OX {p:nt}{m n:Nat}{a:Nat→Nat→Int}{b:Nat→Int}(h:oa p m n a b)(x0:Int)(eM:Bool)(dM:List Int)(bb:List ca)(b7:List (List bg))(cC:List Int):
 DC x0 ((n+m:Nat):Int) p.kU p.j4 p.fX p.fY p.jt eM dM bb b7 cC 0 (a2 (n+m) fun _=>(0:Int)) (a2 (n+m) fun _=>false)=some (a2 (n+m) (qF n),a2 (n+m) fun j=>decide (j<n)):=by
 have hm:=h.hm
 have a0:=h.a0
 unfold DC
 obtain ⟨s,e,-⟩:=iv (f:=fun w:Int×List Int×List Bool=>xG x0 ((n+m:Nat):Int) p.kU p.j4 p.fX p.fY p.jt eM dM bb b7 cC w.1 w.2.1 w.2.2)
  (fun (k:Nat) (_:Unit)=>((k:Int),(a2 (n+m) fun j=>if j<k then qF n j else 0),a2 (n+m) fun j=>if j<k then decide (j<n) else false)) (n+m) (fun _ _=>True) (fun _=>(a2 (n+m) (qF n),a2 (n+m) fun j=>decide (j<n)))
  (fun k aX _ _=>by
    refine ⟨(),?_,trivial⟩
    have aH:(a2 (n+m) fun j=>if j<k then decide (j<n) else false).set (0+((k:Int)).toNat) (decide (k<n))=a2 (n+m) fun j=>if j<k+1 then decide (j<n) else false:=by
     rw [Int.toNat_natCast,Nat.zero_add,kC]
     refine fm fun j _=> ?_
     by_cases c:j=k
     ·subst c;rw [if_pos rfl,if_pos (by omega)]
     ·rw [if_neg c]
      by_cases c2:j<k
      ·rw [if_pos c2,if_pos (by omega)]
      ·rw [if_neg c2,if_neg (by omega)]
    have MX:decide ((k:Int)<p.j4)=decide (k<n):=by rw [h.gz];simp
    unfold xG
    simp only
    rw [MX,aH,f5 (by omega)]
    refine ed (by omega) (bL (by rw [cW];omega) (bL (by rw [cW,Int.toNat_natCast];omega) ?_))
    by_cases c:n≤k
    ·refine ed (by rw [h.gz];omega) (bL (by rw [cW];omega) (bL (by rw [cW,Int.toNat_natCast];omega) ?_))
     rw [Int.toNat_natCast,Nat.zero_add,kC]
     congr 4
     refine fm fun j _=> ?_
     by_cases bN:j=k
     ·subst bN;rw [if_pos rfl,if_pos (by omega)];unfold qF;rw [if_pos c]
     ·rw [if_neg bN]
      by_cases c2:j<k
      ·rw [if_pos c2,if_pos (by omega)]
      ·rw [if_neg c2,if_neg (by omega)]
    ·refine d4 (by rw [h.gz];omega) ?_
     congr 4
     refine fm fun j _=> ?_
     by_cases bN:j=k
     ·subst bN;rw [if_neg (by omega),if_pos (by omega)];unfold qF;rw [if_neg c]
     ·by_cases c2:j<k
      ·rw [if_pos c2,if_pos (by omega)]
      ·rw [if_neg c2,if_neg (by omega)])
  (fun _ _=>by
    unfold xG
    refine d4 (by simp) ?_
    simp only
    congr 3
    ·exact fm fun j aC=>by rw [if_pos aC]
    ·exact fm fun j aC=>by rw [if_pos aC]) () trivial
 have nM:(a2 (n+m) fun j=>if j<0 then qF n j else 0)=a2 (n+m) fun _=>(0:Int):=fm fun j _=>by rw [if_neg (by omega)]
 have se:(a2 (n+m) fun j=>if j<0 then decide (j<n) else false)=a2 (n+m) fun _=>false:=fm fun j _=>by rw [if_neg (by omega)]
 rw [nM,se] at e
 exact e
theorem W8 {p:nt}{m n:Nat}{a:Nat→Nat→Int}{b:Nat→Int}(h:oa p m n a b){w:Rat}{t:ct}(f:oN m (n+m) w t){eb:List (List bg)}(gg:kF m (n+m) m (fun i=>i) w t eb)(eM:Bool)(dM:List Int)(x0:Int)(q:List Bool):
 ∃r,DD ((n+m:Nat):Int) ((m:Nat):Int) p.kU p.j4 p.fX p.fY p.jt eM dM x0 (eD m t) (gF m (n+m) fun i=>i) eb q 0=some r∧((r = .inr ()∧ ∃i,i<m∧n≤t.B i∧0<t.T i (n+m))∨(r = .inl ()∧ ∀i,i<m→n≤t.B i→ ¬0<t.T i (n+m))):=by
 have hm:=h.hm
 have a0:=h.a0
 have hw:=f.pos
 unfold DD
 exact te (f:=fun w:Int=>xH ((n+m:Nat):Int) ((m:Nat):Int) p.kU p.j4 p.fX p.fY p.jt eM dM x0 (eD m t) (gF m (n+m) fun i=>i) eb q w) (fun (i:Nat) (_:Unit)=>(i:Int)) m (fun k _=> ∀i,i<k→n≤t.B i→ ¬0<t.T i (n+m)) _
  (fun i ai _ dw=>by
    have b4:=uk ((f.ia i ai (n+m) (Nat.le_refl _)).mono (tB (by have:=qT;generalize ea=q at *;omega)))
    have g1:0≤(i:Int)∧(i:Int)<((eD m t).length:Nat):=by unfold eD;rw [cW];omega
    have g2:(eD m t)[(0+((i:Int)).toNat)]? = some ((t.B i:Nat):Int):=by rw [Int.toNat_natCast];exact jQ ai
    have g3:0≤(i:Int)∧(i:Int)<((gF m (n+m) fun i=>i).length:Nat):=by unfold gF;rw [cW];omega
    have g4:(gF m (n+m) fun i=>i)[(0+((i:Int)).toNat)]? = some (some (i,n+m+1)):=by rw [Int.toNat_natCast];exact jQ ai
    unfold xH
    by_cases Gj:n≤t.B i
    ·by_cases jr:0<t.T i (n+m)
     ·right
      exact ⟨_,ed (by omega) (bL g1 (aB g2 (ed (by rw [h.gz];omega) (bL g3 (aB g4 (aB (x:=(i,n+m+1)) rfl (aB (gg.row i ai) (bL (by simp only;omega) (aB (x:=bX (t.T i (n+m)*w)) (by rw [Int.toNat_natCast];exact jQ (by omega)) (aB b4 (ed (by rw [yP hw];exact uj.2 jr) rfl))))))))))),.inl ⟨rfl,i,ai,Gj,jr⟩⟩
     ·left
      refine ⟨(),ed (by omega) (bL g1 (aB g2 (ed (by rw [h.gz];omega) (bL g3 (aB g4 (aB (x:=(i,n+m+1)) rfl (aB (gg.row i ai) (bL (by simp only;omega) (aB (x:=bX (t.T i (n+m)*w)) (by rw [Int.toNat_natCast];exact jQ (by omega)) (aB b4 (d4 (by rw [yP hw];exact fun c=>jr (uj.1 c)) (by rw [f5 (by omega)])))))))))))),fun k aX=> ?_⟩
      by_cases e:k=i
      ·rw [e];exact fun _=>jr
      ·exact dw k (by omega)
    ·left
     refine ⟨(),ed (by omega) (bL g1 (aB g2 (d4 (by rw [h.gz];omega) (by rw [f5 (by omega)])))),fun k aX=> ?_⟩
     by_cases e:k=i
     ·rw [e];exact fun c=>(Gj c).elim
     ·exact dw k (by omega))
  (fun _ dw=>⟨_,by unfold xH;exact d4 (by omega) rfl,.inr ⟨rfl,dw⟩⟩) () (fun k aX=>by omega)
theorem W9 {p:nt}{m n:Nat}{a:Nat→Nat→Int}{b:Nat→Int}(h:oa p m n a b)(F:Nat→Bool)(eM:Bool)(dM:List Int)(x0:Int)(bb:List ca)(b7:List (List bg))(cC:List Int):
 DE ((n+m:Nat):Int) p.kU p.j4 p.fX p.fY p.jt eM dM x0 bb b7 cC 0 (a2 (n+m) F)=some (a2 (n+m) fun j=>decide (j<n)):=by
 have hm:=h.hm
 have a0:=h.a0
 unfold DE
 obtain ⟨s,e,-⟩:=iv (f:=fun w:Int×List Bool=>xI ((n+m:Nat):Int) p.kU p.j4 p.fX p.fY p.jt eM dM x0 bb b7 cC w.1 w.2)
  (fun (k:Nat) (_:Unit)=>((k:Int),a2 (n+m) fun j=>if j<k then decide (j<n) else F j)) (n+m) (fun _ _=>True) (fun _=>a2 (n+m) fun j=>decide (j<n))
  (fun k aX _ _=>by
    refine ⟨(),?_,trivial⟩
    have MX:decide ((k:Int)<p.j4)=decide (k<n):=by rw [h.gz];simp
    unfold xI
    simp only
    rw [MX,f5 (by omega)]
    refine ed (by omega) (bL (by rw [cW];omega) (bL (by rw [cW,Int.toNat_natCast];omega) ?_))
    rw [Int.toNat_natCast,Nat.zero_add,kC]
    congr 3
    refine fm fun j _=> ?_
    by_cases c:j=k
    ·subst c;rw [if_pos rfl,if_pos (by omega)]
    ·rw [if_neg c]
     by_cases c2:j<k
     ·rw [if_pos c2,if_pos (by omega)]
     ·rw [if_neg c2,if_neg (by omega)])
  (fun _ _=>by
    unfold xI
    refine d4 (by simp) ?_
    simp only
    congr 2
    exact fm fun j aC=>by rw [if_pos aC]) () trivial
 have nM:(a2 (n+m) fun j=>if j<0 then decide (j<n) else F j)=a2 (n+m) F:=fm fun j _=>by rw [if_neg (by omega)]
 rw [nM] at e
 exact e
theorem Tw {m n:Nat}{a:Nat→Nat→Int}{b:Nat→Int}:hd m (ep m n a b) (pr m n a b)=1:=by
 unfold hd;rw [Rx,if_pos (by grind)]
theorem Zx {p:nt}{m n:Nat}{a:Nat→Nat→Int}{b:Nat→Int}(h:oa p m n a b):
 ∃r,Aq p.kU p.j4 p.fX p.fY p.jt=some r∧((rR m n a b∧ ∃t a6 g eb,r = .inl ((bX (hd m (ep m n a b) t)).cY,(bX (hd m (ep m n a b) t)).cB,((n+m:Nat):Int),gF a6 (n+m) g,eD a6 (im g t),a2 (n+m) (fun j=>decide (j<n)),eb) ∧
  nV m n (n+m) (ep m n a b) t a6 g∧(∀i,i<a6→t.B (g i)<n)∧kF a6 (n+m) m g (hd m (ep m n a b) t) (im g t) eb)∨(¬rR m n a b∧r = .inr ())):=by
 have hm:=h.hm
 have a0:=h.a0
 have k1:=PS h
 have fF:U (p.j4+p.kU)=((n+m:Nat):Int):=by rw [h.gz,h.rows,← Int.natCast_add,cX (by omega) (by omega)]
 have adX:kF m (n+m) m (fun i=>i) (hd m (ep m n a b) (pr m n a b)) (pr m n a b) (a2 m (fun i=>a2 (n+m+1) fun j=>bX (ep m n a b i j))):=⟨cW ..,fun i ai=>by
  rw [gO ai,Tw]
  congr 1
  exact fm fun j _=>by
   show bX (ep m n a b i j)=bX (ep m n a b i j*1)
   congr 1;grind⟩
 obtain ⟨q,bJ,t,eb,kI,e,⟨dw,rfl⟩,gg,ei⟩:=OW (eo:=m) (m:=m) (N:=n+m) (M:=m) (A:=ep m n a b) hm (by omega) (h:=fun i=>i) (fun i _ k _ e=>e) (qF n) (fun j _=>by unfold qF;split<;>omega) (fun j=>decide (j<n))
  (fun w t=>pR m (n+m) (ep m n a b) t∧w=hd m (ep m n a b) t) (fun w t dw=>⟨dw.1.ok,dw.1.mb,dw.2▸dw.1.q3 k1⟩)
  (fun w t r s dw b=>by
    obtain ⟨o,rfl⟩:=dw
    have al:t.T r s≠0:=by have:=b.pos;grind
    exact ⟨o.vU k1 b.ap b.b4 al,o.g7 b,KM o.ok o.wS b.ap b.b4 al⟩)
  (w:=hd m (ep m n a b) (pr m n a b)) (t:=pr m n a b) ⟨⟨Z0,Yi,Zg⟩,rfl⟩ adX
 rw [Tw] at e
 have Lq : ∀j,j<n→t.dE m (il m n) j≤0:=by
  rcases ei with ⟨-,ei,-⟩|⟨-,s,b4,-,dN,hh⟩
  ·intro j aC
   have:=ei j (by omega) (by simpa using aC)
   rw [Q5 dw.ok.j8 (by omega)] at this
   grind
  ·rw [Q5 dw.ok.j8 b4] at dN
   obtain ⟨i,ai,al⟩:=W2 dw.ok b4 dN
   exact (hh i ai al).elim
 have az:oi 1=some (bX 1):=by
  have:=tb (n:=1) (by rw [mB];omega)
  rw [show ((1:Int):Rat)=1 from rfl] at this
  exact this
 obtain ⟨r,aq,bE⟩:=W8 h (dw.q3 k1) gg (bX (hd m (ep m n a b) t)).cY (bX (hd m (ep m n a b) t)).cB ((n+m:Nat):Int) (a2 (n+m) kI)
 unfold Aq
 rw [fF]
 rcases bE with ⟨rfl,i,ai,hj,ia⟩|⟨rfl,hh⟩
 ·have B0 : ¬rR m n a b:=fun b4=>by
   have:=Xp dw.mb (XM dw.ok dw.mb Lq b4) dw.ok.j8 i ai hj
   grind
  refine ⟨_,aB az (bL (by omega) (aB (OG h _ _ _) (bL (by omega) (aB (x:=(a2 (n+m) (qF n),a2 (n+m) fun j=>decide (j<n))) (by rw [Int.toNat_natCast,ow,ow];exact OX h _ _ _ _ _ _) (aB e ?_))))),.inr ⟨B0,rfl⟩⟩
  refine aB (x:= .inr ()) ?_ rfl
  simp only
  rw [show ((eD m t).length:Nat)=m from cW ..]
  exact aq
 ·have cv : ∀i,i<m→n≤t.B i→t.T i (n+m)=0:=fun i ai hj=>by
   have o:=hh i ai hj
   have J:=dw.mb i ai
   grind
  have b4:rR m n a b:=Xo dw.ok dw.mb cv
  obtain ⟨dH,a6,g,jk,nk,p6,Gd,jB⟩:=YF (n:=n) k1 (by omega) (by omega) (a2 (n+m) fun j=>decide (j<n)) dw cv gg
  refine ⟨_,aB az (bL (by omega) (aB (OG h _ _ _) (bL (by omega) (aB (x:=(a2 (n+m) (qF n),a2 (n+m) fun j=>decide (j<n))) (by rw [Int.toNat_natCast,ow,ow];exact OX h _ _ _ _ _ _) (aB e ?_))))),.inl ⟨b4,dH,a6,g,jk,rfl,p6,Gd,jB⟩⟩
  refine aB (x:= .inl ()) ?_ ?_
  ·simp only
   rw [show ((eD m t).length:Nat)=m from cW ..]
   exact aq
  ·simp only
   rw [show ((a2 (n+m) kI).length:Nat)=n+m from cW ..]
   refine aB (W9 h kI _ _ _ _ _ _) ?_
   rw [h.gz]
   exact aB nk rfl
structure pB (m:Nat) (u v:ct):Prop where
 T : ∀i,i<m→ ∀j,u.T i j=v.T i j
 B : ∀i,i<m→u.B i=v.B i
theorem pB.q3 {m N:Nat}{w:Rat}{u v:ct}(s:pB m u v)(h:oN m N w v):oN m N w u :=
 ⟨h.pos,h.hw,fun i ai j aC=>by rw [s.T i ai];exact h.ia i ai j aC,fun i ai=>by rw [s.B i ai];exact h.hj i ai⟩
theorem pB.c7 {m:Nat}{u v:ct}(s:pB m u v){r:Nat}(ap:r<m)(k:Nat):pB m (u.c7 r k) (v.c7 r k) where
 T:=fun i ai j=>by simp only [ct.c7,s.T i ai,s.T r ap]
 B:=fun i ai=>by simp only [ct.c7,s.B i ai]
theorem pB.vU {m N:Nat}{w:Rat}{u v:ct}(s:pB m u v){r k:Nat}(h:tC m N w v r k):tC m N w u r k :=
 ⟨h.ap,h.aX,by rw [s.T r h.ap];exact h.al,fun i ai j aC=>by rw [(s.c7 h.ap k).T i ai,s.T r h.ap];exact h.zM i ai j aC⟩
theorem pB.trans {m:Nat}{u v t:ct}(a:pB m u v)(b:pB m v t):pB m u t:=⟨fun i ai j=>(a.T i ai j).trans (b.T i ai j),fun i ai=>(a.B i ai).trans (b.B i ai)⟩
theorem Z7 {a6:Nat}{g:Nat→Nat}(inj:∀i,i<a6→ ∀k,k<a6→g i=g k→i=k)(t:ct){r:Nat}(ap:r<a6)(k:Nat):pB a6 ((im g t).c7 r k) (im g (t.c7 (g r) k)) :=
 ⟨fun i ai j=>(AW (t:=t) (k:=k) (inj i ai r ap)).1 j,fun i ai=>(AW (t:=t) (k:=k) (inj i ai r ap)).2⟩
theorem RD {m n:Nat}{a:Nat→Nat→Int}{b:Nat→Int}{x:Nat→Rat}{c:Nat}:b8 n (fun j=>ep m n a b c j*x j)=((l4 (b c):Int):Rat)*b8 n (fun j=>(a c j:Rat)*x j):=by
 rw [← ic]
 exact fC fun j aC=>by rw [KH aC];grind
theorem nV.aaW {m n:Nat}{a:Nat→Nat→Int}{b:Nat→Int}{t:ct}{a6:Nat}{g:Nat→Nat}(h:nV m n (n+m) (ep m n a b) t a6 g)(hj:∀i,i<a6→t.B (g i)<n):LT m n a b a6 (n+m) (im g t) where
 eqv:=fun x=>by
  have key:(∀i,i<m→b8 n (fun j=>(a i j:Rat)*x j)=(b i:Rat))↔ ∀i,i<m→b8 n (fun j=>ep m n a b i j*x j)=ep m n a b i (n+m):=by
   constructor
   ·intro aa i ai;rw [RD,EW,aa i ai]
   ·intro aa i ai
    have:=aa i ai
    rw [RD,EW] at this
    have h0:=Rw (b i)
    have e:((l4 (b i):Int):Rat)*(b8 n (fun j=>(a i j:Rat)*x j)-(b i:Rat))=0:=by grind
    rcases Rat.mul_eq_zero.1 e with e|e
    ·exact (h0 e).elim
    ·grind
  rw [key]
  constructor
  ·intro aa i ai
   obtain ⟨W,hW⟩:=h.inv.ok.row
   show b8 n (fun j=>t.T (g i) j*x j)=t.T (g i) (n+m)
   rw [hW (g i) (h.lt i ai) (n+m) (Nat.le_refl _),fC (g:=fun j=>b8 m (fun c=>W (g i) c*(ep m n a b c j*x j))) (fun j aC=>by
    rw [hW (g i) (h.lt i ai) j (by omega),← vm];exact fC fun c _=>by grind),pF]
   exact fC fun c aJ=>by rw [ic,aa c aJ]
  ·intro aa c aJ
   have row : ∀i,i<m→b8 n (fun j=>t.T i j*x j)=t.T i (n+m):=fun i ai=>by
    by_cases b0 : ∃q,q<a6∧g q=i
    ·obtain ⟨q,bi,rfl⟩:=b0
     exact aa q bi
    ·obtain ⟨tV,rj⟩:=h.dead i ai fun q bi e=>b0 ⟨q,bi,e⟩
     rw [h.z i ai tV]
     exact mT fun j aC=>by rw [rj j aC];grind
   rw [h.inv.ok.rc c aJ (n+m) (Nat.le_refl _),fC (g:=fun j=>b8 m (fun i=>ep m n a b c (t.B i)*(t.T i j*x j))) (fun j aC=>by
    rw [h.inv.ok.rc c aJ j (by omega),← vm];exact fC fun i _=>by grind),pF]
   exact fC fun i ai=>by rw [ic,row i ai]
 unit:=fun i ai k aX=>by
  show t.T (g i) (t.B (g k))=_
  rw [h.inv.ok.unit _ (h.lt i ai) _ (h.lt k aX)]
  by_cases c:i=k
  ·rw [if_pos c,if_pos (by rw [c])]
  ·rw [if_neg c,if_neg fun e=>c (h.inj i ai k aX e)]
 j8:=hj
 mb:=fun i ai=>h.inv.mb _ (h.lt i ai)
 MQ:=by omega
theorem nV.step {m n:Nat}{a:Nat→Nat→Int}{b:Nat→Int}{t:ct}{a6:Nat}{g:Nat→Nat}{K:Nat}{obj:Nat→Nat→Rat}{b0:Nat→Prop}(h:nV m n (n+m) (ep m n a b) t a6 g)(hj:∀i,i<a6→t.B (g i)<n){u:ct}(b4:pB a6 u (im g t)){r s:Nat}(c8:pK a6 (n+m) K obj b0 u r s)(wh:s<n):
 nV m n (n+m) (ep m n a b) (t.c7 (g r) s) a6 g∧(∀i,i<a6→(t.c7 (g r) s).B (g i)<n)∧pB a6 (u.c7 r s) (im g (t.c7 (g r) s)):=by
 have ap:=c8.ap
 have al:0<t.T (g r) s:=by have:=c8.pos;rw [b4.T r ap] at this;exact this
 have Cs:t.T (g r) s≠0:=by grind
 have Sn:=(b4.c7 ap s).trans (Z7 h.inj t ap s)
 have Gk : ∀d,d<m→(∀i,i<a6→g i≠d)→ ∀j,(t.c7 (g r) s).T d j=t.T d j∧(t.c7 (g r) s).B d=t.B d:=fun d bo hh j=>by
  obtain ⟨tV,rj⟩:=h.dead d bo hh
  simp only [ct.c7]
  rw [if_neg fun e=>hh r ap e.symm,if_neg fun e=>hh r ap e.symm,rj s wh]
  exact ⟨by grind,rfl⟩
 have q6 : ∀i,i<a6→(t.c7 (g r) s).B (g i)<n:=fun i ai=>by
  simp only [ct.c7]
  split
  ·exact wh
  ·exact hj i ai
 have adY:(u.c7 r s).lb a6 (n+m):=c8.BR fun i ai=>by rw [b4.T i ai];exact h.inv.mb _ (h.lt i ai)
 refine ⟨⟨⟨h.inv.ok.c7 (h.lt r ap) (by omega) Cs,fun i ai=> ?_,?_⟩,fun i ai a0=> ?_,h.le,h.lt,h.inj,fun d bo hh=> ?_⟩,q6,Sn⟩
 ·by_cases b0 : ∃q,q<a6∧g q=i
  ·obtain ⟨q,bi,rfl⟩:=b0
   have:=adY q bi
   rw [Sn.T q bi] at this;exact this
  ·rw [(Gk i ai (fun q bi e=>b0 ⟨q,bi,e⟩) _).1];exact h.inv.mb i ai
 ·rw [h.inv.ok.Bs (h.lt r ap) (by omega)]
  have:=h.inv.wS
  grind
 ·by_cases b0 : ∃q,q<a6∧g q=i
  ·obtain ⟨q,bi,rfl⟩:=b0
   have:=q6 q bi;omega
  ·have hh : ∀q,q<a6→g q≠i:=fun q bi e=>b0 ⟨q,bi,e⟩
   obtain ⟨az,aH⟩:=Gk i ai hh (n+m)
   rw [az]
   rw [aH] at a0
   exact h.z i ai a0
 ·obtain ⟨tV,rj⟩:=h.dead d bo hh
  refine ⟨by rw [(Gk d bo hh 0).2];exact tV,fun j aC=>by rw [(Gk d bo hh j).1];exact rj j aC⟩
structure pC (m n:Nat) (a:Nat→Nat→Int) (b:Nat→Int) (a6:Nat) (g:Nat→Nat) (ib:Nat→Nat→Rat) (dk:Nat→Bool) (w:Rat) (u:ct):Prop where
 b0 : ∃t,nV m n (n+m) (ep m n a b) t a6 g∧(∀i,i<a6→t.B (g i)<n)∧pB a6 u (im g t)∧w=hd m (ep m n a b) t
 lt:LT m n a b a6 (n+m) u
 ok:gj a6 a6 (n+m) ib u
 MY : ∀i,i<a6→dk (u.B i)=true
theorem pC.q3 {m n:Nat}{a:Nat→Nat→Int}{b:Nat→Int}{a6:Nat}{g:Nat→Nat}{ib:Nat→Nat→Rat}{dk:Nat→Bool}{w:Rat}{u:ct}(k1:Small m (n+m) (ep m n a b))(h:pC m n a b a6 g ib dk w u):oN a6 (n+m) w u:=by
 obtain ⟨t,o,J,ak,rfl⟩:=h.b0
 exact ak.q3 (o.q3 k1)
theorem pC.g7 {m n:Nat}{a:Nat→Nat→Int}{b:Nat→Int}{a6:Nat}{g:Nat→Nat}{ib:Nat→Nat→Rat}{dk kI:Nat→Bool}{w:Rat}{u:ct}{obj:Nat→Nat→Rat}{K:Nat}(k1:Small m (n+m) (ep m n a b))(h:pC m n a b a6 g ib kI w u)(pZ:∀j,j<n+m→dk j=true→j<n)(adZ:∀j,dk j=true→kI j=true){r s:Nat}(c8:pK a6 (n+m) K obj (fun j=>dk j=true) u r s):
 tC a6 (n+m) w u r s∧pC m n a b a6 g ib kI (pv w u r s) (u.c7 r s):=by
 obtain ⟨t,o,J,ak,ay⟩:=h.b0
 have wh:=pZ s c8.b4 c8.FI
 obtain ⟨g1,g2,g3⟩:=o.step J ak c8 wh
 have al:=c8.pos
 have Tx:t.T (g r) s≠0:=by rw [ak.T r c8.ap] at al;show t.T (g r) s≠0;have:0<t.T (g r) s:=al;grind
 refine ⟨ay▸ak.vU (o.vU k1 c8.ap (by omega) Tx),⟨t.c7 (g r) s,g1,g2,g3,?_⟩,h.lt.c7 c8.ap wh (by grind) (c8.BR h.lt.mb),c8.ok h.ok,fun i ai=> ?_⟩
 ·rw [← KM o.inv.ok o.inv.wS (o.lt r c8.ap) (show s<n+m by omega) Tx,ay]
  unfold pv
  rw [ak.T r c8.ap];rfl
 ·simp only [ct.c7]
  split
  ·exact adZ s c8.FI
  ·exact h.MY i ai
theorem Qr {m n:Nat}{a:Nat→Nat→Int}{b:Nat→Int}{a6:Nat}{g:Nat→Nat}(hm:m≤20)(a0:n≤40)(k1:Small m (n+m) (ep m n a b)){ib:Nat→Nat→Rat}{dk:Nat→Bool}{w:Rat}{u:ct}(h:pC m n a b a6 g ib dk w u)(pZ:∀j,j<n+m→dk j=true→j<n)(inj:∀i,i<a6→ ∀k,k<a6→g i=g k→i=k)(kH:a6≤m)
 (R:Nat→Int) (an : ∀j,-100≤R j∧R j≤100) {c:Nat→Rat} {l:Nat} {V:Nat→Rat} (ad0 : ∀j,((R j:Int):Rat)=h8 c l j) (s:px m n a b c l dk V) {eb:List (List bg)} (gg:kF a6 (n+m) m g w u eb) :
 ∃ok bJ k0 jk kI,sW (bX w).cY (bX w).cB ((n+m:Nat):Int) (gF a6 (n+m) g) eb (eD a6 u) (a2 (n+m) dk) (a2 (n+m) R)=some (ok,(bX bJ).cY,(bX bJ).cB,jk,eD a6 k0,a2 (n+m) kI)∧kF a6 (n+m) m g bJ k0 jk ∧
  ((ok=true∧pC m n a b a6 g ib kI bJ k0∧(∀j,j<n+m→kI j=true→j<n)∧ ∃CK,px m n a b c (l+1) kI CK)∨(ok=false∧LT m n a b a6 (n+m) k0∧ ∃q,q<n∧0<k0.dE a6 (h8 c l) q∧ ∀i,i<a6→ ¬0<k0.T i q)):=by
 have ad1:(fun j=>((R j:Int):Rat))=h8 c l:=funext ad0
 obtain ⟨ok,bJ,k0,jk,kI,e,dw,CB,ei⟩:=OW (eo:=a6) (m:=a6) (N:=n+m) (M:=m) (A:=ib) (h:=g) (by omega) (by omega) inj R (fun j _=>an j) dk
  (fun w u=>pC m n a b a6 g ib dk w u) (fun w u dr=>⟨dr.ok,dr.lt.mb,dr.q3 k1⟩)
  (fun w u r q dr c8=>dr.g7 k1 pZ (fun j aC=>aC) c8) h gg
 rw [ad1] at ei
 refine ⟨ok,bJ,k0,jk,kI,e,CB,?_⟩
 rcases ei with ⟨o,J,ak⟩|⟨o,q,J,cc,ak,ay⟩
 ·left
  have Lr : ∀j,kI j=true→dk j=true:=fun j aC=>by rw [ak,Bool.and_eq_true] at aC;exact aC.1
  refine ⟨o,⟨dw.b0,dw.lt,dw.ok,fun i ai=> ?_⟩,fun j aC sH=>pZ j aC (Lr j sH),px.next dw.lt s (fun j aC cc=>J j (by omega) cc) (fun j aC=>by rw [ak])⟩
  rw [ak]
  simp only
  rw [dw.MY i ai,dw.lt.yn _ ai,decide_eq_false (by grind)];rfl
 ·right
  exact ⟨o,dw.lt,q,pZ q J cc,ak,ay⟩
def dt (x:Rat):Option bF:=some (kL (gu x))
theorem aaX {n d:Int}{x:Rat}(bo:0<d)(e:(d:Rat)*x=n):(n / (Int.gcd n d:Int),d / (Int.gcd n d:Int))=gu x:=by
 have tE:(d:Rat)≠0:=fun c=>by
  have:d=0:=Rat.intCast_inj.1 (by rw [c];rfl)
  omega
 have aa:x=Rat.divInt n d:=by rw [Rat.divInt_eq_div,← e];grind
 have az:(Rat.divInt n d).num=n / (Int.gcd n d:Int):=by rw [Rat.num_divInt,Int.sign_eq_one_of_pos bo,Int.one_mul,Int.gcd_comm]
 have aH:((Rat.divInt n d).den:Int)=d / (Int.gcd n d:Int):=by
  rw [Rat.den_divInt,if_neg (by omega),Int.gcd_comm]
  rw [Int.natCast_ediv,Int.natAbs_of_nonneg (by omega)]
 rw [aa];unfold gu;rw [az,aH]
theorem Kd {n d:Int}{x:Rat}(bo:0<d)(e:(d:Rat)*x=n)(a0:(n.natAbs:Int)<B 50)(wc:d<B 50):rz (hg n) (L d)=some (dt x):=by
 have nk:=(iw (k:=50) (by omega)).2 a0
 have p6:=(iw (k:=50) (by omega)).2 wc
 rw [Yz bo (by omega) (by omega),aaX bo e];rfl
theorem vD {n:Int}(h:oL n):o4 n=some (dt (n:Rat)):=by
 rw [Zr h];unfold dt gu;rw [Rat.num_intCast,Rat.den_intCast];rfl
theorem Ke {a b:Int}(bH:0≤a)(aY:0≤b)(o:a<B 24)(J:b<B 24):a*b<B 48:=by
 have e:B 48=B 24*B 24:=by decide +kernel
 rw [e]
 exact Int.lt_of_le_of_lt (Int.mul_le_mul_of_nonneg_left (Int.le_of_lt J) bH) (Int.mul_lt_mul_of_pos_right o (by omega))
theorem Q6 {x y:Rat}(aa:fO x)(aP:fO y):xX (dt x) (dt y)=some (dt (x*y)):=by
 have p:=aa.dk
 have q:=aP.dk
 have o:=p.vS
 have J:=p.vT
 have ak:=q.vS
 have ay:=q.vT
 have aI:=p.pos
 have bu:=q.pos
 have hj:=RB
 have acq:=pg 48
 have h3:=Ke (by omega) (by omega) p.num q.num
 have gC:=Ke (by omega) (by omega) p.den q.den
 have qD:(((gu x).1*(gu y).1).natAbs:Int)<B 48:=by rw [Int.natAbs_mul];exact h3
 have b4:xX (some (kL (gu x))) (some (kL (gu y)))=((o1 (hg (gu x).1) (hg (gu y).1)).bind fun ba=>(qK (L (gu x).2) (L (gu y).2)).bind fun bI=>(rz ba bI).bind fun bk=>some bk):=rfl
 unfold dt
 rw [b4,PP (by omega) (by omega),Option.bind_some,Ex (kT _) (kT _) (by omega) (by omega),fL (by omega),fL (by omega),Option.bind_some,Kd (x:=x*y) (Int.mul_pos aI bu) ?_ (by omega) (by omega)]
 ·rfl
 ·have:=EN x
  have:=EN y
  simp only [gu,Rat.intCast_mul]
  grind
theorem RE {x y:Rat}(aa:fO x)(aP:fO y):x2 (dt x) (dt y)=some (dt (x+y)):=by
 have p:=aa.dk
 have q:=aP.dk
 have o:=p.vS
 have J:=p.vT
 have ak:=q.vS
 have ay:=q.vT
 have aI:=p.pos
 have bu:=q.pos
 have hj:=RB
 have acq:=pg 48
 obtain ⟨bN,-,-⟩:=Qm p q
 obtain ⟨tV,-,-⟩:=Qm q p
 have gC:=Ke (by omega) (by omega) p.den q.den
 have b4:x2 (some (kL (gu x))) (some (kL (gu y)))=((qG (some (kL (gu x))) (L (gu y).2)).bind fun a9=>(qG (some (kL (gu y))) (L (gu x).2)).bind fun bI=>(ub a9 bI).bind fun bk=>(qK (L (gu x).2) (L (gu y).2)).bind fun cI=>(rz bk cI).bind fun dp=>some dp):=rfl
 unfold dt
 rw [b4,El (by omega) (by omega) (by omega),Option.bind_some,El (by omega) (by omega) (by omega),Option.bind_some,Ql (by omega) (by omega),Option.bind_some,Ex (kT _) (kT _) (by omega) (by omega),fL (by omega),fL (by omega),Option.bind_some,Kd (x:=x+y) (Int.mul_pos aI bu) ?_ (by omega) (by omega)]
 ·rfl
 ·have:=EN x
  have:=EN y
  simp only [gu,Rat.intCast_mul,Rat.intCast_add]
  grind
theorem y8 {x:Rat}(h:fO x):sv (dt x)=some (dt x):=by
 have:=h.dk
 unfold dt
 rw [show kL (gu x)=kL ((gu x).1,(gu x).2) from rfl,aaR (Int.le_of_lt this.pos),if_pos ⟨this.num,this.den⟩];rfl
def m2 (n:Nat)(c:Nat→Int)(l j:Nat):Int:=match l with
 | 0=>if j<n then c j else 0
 | l+1=>if j=l then -1 else 0
def jC (n:Nat)(c:Nat→Int)(j:Nat):Rat:=((m2 n c 0 j:Int):Rat)
theorem Qs (n:Nat)(c:Nat→Int)(l j:Nat):((m2 n c l j:Int):Rat)=h8 (jC n c) l j:=by
 cases l with
 | zero=>rfl
 | succ l=>simp only [m2,h8];split<;>rfl
theorem Q7 {n:Nat}{c:Nat→Int}(h:∀j,j<n→ -100≤c j∧c j≤100)(l j:Nat): -100≤m2 n c l j∧m2 n c l j≤100:=by
 cases l with
 | zero =>
  simp only [m2]
  split
  ·exact h j ‹_›
  ·omega
 | succ l=>simp only [m2];split<;>omega
def Ls (m n:Nat)(a:Nat→Nat→Int)(b c:Nat→Int)(a6:Nat)(g:Nat→Nat)(ib:Nat→Nat→Rat)(l:Nat)(s:Bool×List Int×List Int×List (List bg)×List Int×List Bool):Prop :=
 ∃w u eb dk V R,s=((bX w).cY,(bX w).cB,a2 (n+m) R,eb,eD a6 u,a2 (n+m) dk)∧pC m n a b a6 g ib dk w u∧(∀j,j<n+m→dk j=true→j<n)∧kF a6 (n+m) m g w u eb∧px m n a b (jC n c) l dk V
theorem X2 {m n:Nat}{a:Nat→Nat→Int}{b c:Nat→Int}{a6:Nat}{g:Nat→Nat}{ib:Nat→Nat→Rat}(hm:m≤20)(a0:n≤40)(k1:Small m (n+m) (ep m n a b))(aJ:∀j,j<n→ -100≤c j∧c j≤100)(x0:Int)(eM dM mf:List Int)(k:Nat)(aX:k<n)(s:Bool×List Int×List Int×List (List bg)×List Int×List Bool)(b4:Ls m n a b c a6 g ib (k+1) s):
 ∃bR,u2 (n:Int) x0 eM dM mf ((n+m:Nat):Int) (gF a6 (n+m) g) (k:Int) s.1 s.2.1 s.2.2.1 s.2.2.2.1 s.2.2.2.2.1 s.2.2.2.2.2=some (.inl (((k+1:Nat):Int),bR))∧Ls m n a b c a6 g ib (k+2) bR:=by
 obtain ⟨w,u,eb,dk,V,R,rfl,dr,pZ,gg,uU⟩:=b4
 obtain ⟨t,b0,-⟩:=dr.b0
 obtain ⟨ok,bJ,k0,jk,kI,e,CB,ei⟩:=Qr hm a0 k1 dr pZ b0.inj b0.le (m2 n c (k+1)) (Q7 aJ (k+1)) (Qs n c (k+1)) uU gg
 rcases ei with ⟨rfl,zr,Lr,CK,ad2⟩|⟨-,jY,q,bi,dN,hh⟩
 ·refine ⟨((bX bJ).cY,(bX bJ).cB,a2 (n+m) (m2 n c (k+1)),jk,eD a6 k0,a2 (n+m) kI),?_,bJ,k0,jk,kI,CK,_,rfl,zr,Lr,CB,ad2⟩
  have CS:(List.replicate (a2 (n+m) R).length 0:List Int).set (0+((k:Int)).toNat) (-1)=a2 (n+m) (m2 n c (k+1)):=by
   rw [cW,ow,Int.toNat_natCast,Nat.zero_add,kC];exact fm fun j _=>rfl
  unfold u2
  simp only
  rw [CS]
  refine ed (by omega) (bL (by rw [cW];omega) (bL (by rw [List.length_replicate,cW,Int.toNat_natCast];omega) (aB e ?_)))
  rw [f5 (by omega)]
 ·obtain ⟨i,ai,al⟩:=jY.Yj dN
  exact (hh i ai al).elim
theorem Zy {m n:Nat}{a:Nat→Nat→Int}{b c:Nat→Int}{a6:Nat}{g:Nat→Nat}{ib:Nat→Nat→Rat}(hm:m≤20)(a0:n≤40)(k1:Small m (n+m) (ep m n a b))(aJ:∀j,j<n→ -100≤c j∧c j≤100)(x0:Int)(eM dM mf:List Int){w:Rat}{u:ct}{eb:List (List bg)}{dk:Nat→Bool}{V:Nat→Rat}{R:Nat→Int}(dr:pC m n a b a6 g ib dk w u)(pZ:∀j,j<n+m→dk j=true→j<n)(gg:kF a6 (n+m) m g w u eb)(uU:px m n a b (jC n c) 1 dk V):
 ∃hL js uw sQ,DF (n:Int) x0 eM dM mf ((n+m:Nat):Int) (gF a6 (n+m) g) 0 (bX w).cY (bX w).cB (a2 (n+m) R) eb (eD a6 u) (a2 (n+m) dk)=some ((bX hL).cY,(bX hL).cB,uw,eD a6 js,a2 (n+m) sQ)∧pC m n a b a6 g ib sQ hL js∧kF a6 (n+m) m g hL js uw∧ ∃V,px m n a b (jC n c) (n+1) sQ V:=by
 unfold DF
 obtain ⟨r,e,ap⟩:=te (f:=fun w:Int×Bool×(List Int)×(List Int)×(List (List bg))×(List Int)×(List Bool)=>u2 (n:Int) x0 eM dM mf ((n+m:Nat):Int) (gF a6 (n+m) g) w.1 w.2.1 w.2.2.1 w.2.2.2.1 w.2.2.2.2.1 w.2.2.2.2.2.1 w.2.2.2.2.2.2)
  (fun (k:Nat) (s:Bool×List Int×List Int×List (List bg)×List Int×List Bool)=>((k:Int),s)) n (fun k s=>Ls m n a b c a6 g ib (k+1) s)
  (fun r=> ∃hL js uw sQ,r=((bX hL).cY,(bX hL).cB,uw,eD a6 js,a2 (n+m) sQ)∧pC m n a b a6 g ib sQ hL js∧kF a6 (n+m) m g hL js uw∧ ∃V,px m n a b (jC n c) (n+1) sQ V)
  (fun k aX s b4=> .inl (X2 hm a0 k1 aJ x0 eM dM mf k aX s b4))
  (fun s b4=>by
    obtain ⟨w,u,eb,dk,V,R,rfl,dr,pZ,gg,uU⟩:=b4
    exact ⟨_,by unfold u2;exact d4 (by simp) rfl,w,u,eb,dk,rfl,dr,gg,V,uU⟩)
  ((bX w).cY,(bX w).cB,a2 (n+m) R,eb,eD a6 u,a2 (n+m) dk) ⟨w,u,eb,dk,V,R,rfl,dr,pZ,gg,uU⟩
 obtain ⟨hL,js,uw,sQ,rfl,o,J,ak⟩:=ap
 exact ⟨hL,js,uw,sQ,e,o,J,ak⟩
theorem aaY:B 24≤B 50:=by decide +kernel
theorem aaZ:2≤ea:=by decide +kernel
theorem Lt:40*(ea*100)≤21*100*(ea*ea):=by
 have:=Nat.mul_le_mul_left ea aaZ
 omega
theorem Zz {n:Nat}(x0 fz:Int)(eM dM mf:List Int)(nM:Bool)(se:List Int)(Gl:Int)(aR:List ca)(bb:List (List bg))(b7:List Int)(cC:List Bool)(a0:n≤40):
 DG (n:Int) x0 fz eM dM mf nM se Gl aR bb b7 cC 0 (List.replicate n (none:Option bF))=some (a2 n fun _=>dt 0):=by
 unfold DG
 obtain ⟨s,e,-⟩:=iv (f:=fun w:Int×(List (Option bF))=>xK (n:Int) x0 fz eM dM mf nM se Gl aR bb b7 cC w.1 w.2)
  (fun (k:Nat) (_:Unit)=>((k:Int),a2 n fun j=>if j<k then dt 0 else none)) n (fun _ _=>True) (fun _=>a2 n fun _=>dt 0)
  (fun k aX _ _=>by
    refine ⟨(),?_,trivial⟩
    unfold xK
    refine ed (by simp only;omega) (aB (x:=dt 0) (vD (n:=0) (by rw [mB];omega)) (bL (by simp only;rw [cW];omega) (bL (by simp only;rw [cW,Int.toNat_natCast];omega) ?_)))
    simp only
    rw [f5 (by omega),Int.toNat_natCast,Nat.zero_add,kC]
    congr 3
    refine fm fun j _=> ?_
    by_cases bN:j=k
    ·subst bN;rw [if_pos rfl,if_pos (by omega)]
    ·rw [if_neg bN]
     by_cases c2:j<k
     ·rw [if_pos c2,if_pos (by omega)]
     ·rw [if_neg c2,if_neg (by omega)])
  (fun _ _=>by
    unfold xK
    refine d4 (by simp) ?_
    simp only
    congr 2
    exact fm fun j aC=>by rw [if_pos aC]) () trivial
 have e0:(a2 n fun j=>if j<0 then dt 0 else none)=List.replicate n none:=by
  rw [ow];exact fm fun j _=>by rw [if_neg (by omega)]
 rw [← e0];exact e
theorem ZA {t:ct}{N i j:Nat}:t.gH (i+1) N j=t.gH i N j+if t.B i=j then t.T i N else 0:=rfl
theorem RF {m n:Nat}{a:Nat→Nat→Int}{b:Nat→Int}{a6 N:Nat}{u:ct}(h:LT m n a b a6 N u){i k:Nat}(ai:i<a6)(aX:k<a6)(e:u.B i=u.B k):i=k:=by
 by_cases c:i=k
 ·exact c
 ·have o:=h.unit i ai k aX
  rw [← e,h.unit i ai i ai,if_pos rfl,if_neg c] at o
  grind
theorem YG {m n a6 N:Nat}{a:Nat→Nat→Int}{b:Nat→Int}{g:Nat→Nat}{w:Rat}{u:ct}(x0 fz:Int)(eM dM mf:List Int)(nM:Bool)(cC:List Bool)(hm:a6≤20)(fF:N≤1000)(aL:LT m n a b a6 N u)(f:oN a6 N w u){M:Nat}{eb:List (List bg)}(gg:kF a6 N M g w u eb)(a0:n≤40):
 DH (a6:Int) x0 fz eM dM mf nM (bX w).cB (N:Int) (eD a6 u) (gF a6 N g) eb cC 0 (a2 n fun _=>dt 0)=some (a2 n fun j=>dt (u.gH a6 N j)):=by
 have hw:=KL f.hw
 have ad3:0<w.num:=by
  have:(0:Rat)<((w.num:Int):Rat):=by rw [hw.1];exact f.pos
  exact Rat.intCast_lt_intCast.1 (by rw [show ((0:Int):Rat)=0 from rfl];exact this)
 have acr:(bX w).cB=L w.num:=by
  show L (w.num.natAbs:Int)=_
  rw [Int.natAbs_of_nonneg (by omega)]
 have jz:=vN Fs
 have kc:=vN Lp
 have agC:=aaY
 rw [acr]
 unfold DH
 obtain ⟨s,e,-⟩:=iv (f:=fun v:Int×(List (Option bF))=>xL (a6:Int) x0 fz eM dM mf nM (L w.num) (N:Int) (eD a6 u) (gF a6 N g) eb cC v.1 v.2)
  (fun (k:Nat) (_:Unit)=>((k:Int),a2 n fun j=>dt (u.gH k N j))) a6 (fun _ _=>True) (fun _=>a2 n fun j=>dt (u.gH a6 N j))
  (fun k aX _ _=>by
    refine ⟨(),?_,trivial⟩
    have hj:=aL.j8 k aX
    have ia:=KL (f.ia k aX N (Nat.le_refl _))
    have cv:u.gH k N (u.B k)=0:=ct.Jr fun i ai e=>by have:=RF aL (by omega) aX e;omega
    have Lb:rz (bX (u.T k N*w)) (L w.num)=some (dt (u.T k N)):=by
     refine Kd ad3 ?_ (by omega) (by omega)
     rw [hw.1,ia.1];grind
    unfold xL
    simp only
    refine ed (by omega) (bL (by unfold eD;rw [cW];omega) (aB (x:=((u.B k:Nat):Int)) (by rw [Int.toNat_natCast];exact jQ aX) (bL (by unfold gF;rw [cW];omega) (aB (x:=some (g k,N+1)) (by rw [Int.toNat_natCast];exact jQ aX) (aB (x:=(g k,N+1)) rfl (aB (gg.row k aX) (bL (by simp only;omega) (aB (x:=bX (u.T k N*w)) (by rw [Int.toNat_natCast];exact jQ (by omega)) (aB Lb (bL (by rw [cW];omega) (bL (by rw [cW,Int.toNat_natCast];omega) ?_)))))))))))
    rw [f5 (by omega),Int.toNat_natCast,Nat.zero_add,kC]
    congr 3
    refine fm fun j _=> ?_
    rw [ZA]
    by_cases bN:j=u.B k
    ·subst bN
     rw [if_pos rfl,if_pos rfl,cv]
     congr 1;grind
    ·rw [if_neg bN,if_neg (fun e=>bN e.symm)]
     congr 1;grind)
  (fun _ _=>by unfold xL;exact d4 (by simp) rfl) () trivial
 exact e
theorem Q8 {m n:Nat}{a:Nat→Nat→Int}{b:Nat→Int}{a6 N:Nat}{w:Rat}{u:ct}{K:Nat}(aL:LT m n a b a6 N u)(f:∀i,i<a6→dG K (u.T i N*w))(j:Nat):dG K (u.gH a6 N j*w):=by
 by_cases c : ∃i,i<a6∧u.B i=j
 ·obtain ⟨i,ai,rfl⟩:=c
  have:u.gH a6 N (u.B i)=u.T i N:=by
   unfold ct.gH
   rw [kg ai (f:=fun k=>if u.B k=u.B i then u.T k N else 0) (fun k aX cM=>if_neg fun e=>cM (RF aL aX ai e)),if_pos rfl]
  rw [this];exact f i ai
 ·rw [ct.Jr fun i ai e=>c ⟨i,ai,e⟩]
  exact ⟨0,by rw [Rat.zero_mul];rfl,by simp⟩
theorem aa0 {m n:Nat}{a:Nat→Nat→Int}{b:Nat→Int}{a6 N:Nat}{w:Rat}{u:ct}(aL:LT m n a b a6 N u)(f:oN a6 N w u)(j:Nat):dG ea (u.gH a6 N j*w):=Q8 aL (fun i ai=>f.ia i ai N (Nat.le_refl _)) j
theorem pC.So {m n:Nat}{a:Nat→Nat→Int}{b:Nat→Int}{a6:Nat}{g:Nat→Nat}{w:Rat}{u:ct}{ib:Nat→Nat→Rat}{dk:Nat→Bool}(k1:Small m (n+m) (ep m n a b))(h:pC m n a b a6 g ib dk w u):dG (ky 100 m) w∧ ∀i,i<a6→dG (ky 100 m) (u.T i (n+m)*w):=by
 obtain ⟨t,b0,-,b4,rfl⟩:=h.b0
 have rk:dG (ky 100 m) (1*t.D m (ep m n a b)):=by
  rw [Rat.one_mul]
  exact yW fun i ai c aJ=>k1.p7 c aJ _ (Nat.le_of_lt (b0.inv.ok.j8 i ai))
 refine ⟨by have:=Fc rk;rw [Rat.one_mul] at this;exact this,fun i ai=> ?_⟩
 rw [b4.T i ai]
 refine Fc ?_
 show dG (ky 100 m) (t.T (g i) (n+m)*_)
 rw [← b0.inv.ok.wK (b0.lt i ai) (Nat.le_refl _)]
 refine yW fun k aX c aJ=> ?_
 simp only [gl]
 split
 ·exact k1.p7 c aJ _ (Nat.le_refl _)
 ·exact k1.p7 c aJ _ (Nat.le_of_lt (b0.inv.ok.j8 k aX))
theorem Q9 {n:Nat}{w:Rat}{x:Nat→Rat}{c:Nat→Int}(hw:dG (21*100*ea) w)(al:0<w)(aa:∀j,dG ea (x j*w))(aJ:∀j,j<n→ -100≤c j∧c j≤100){k:Nat}(aX:k≤n)(a0:n≤40):fO (b8 k fun j=>x j*(c j:Rat)):=by
 have o:dG (k*(ea*100)) (b8 k fun j=>x j*w*(c j:Rat)):=dG.sum fun j aC=>(aa j).mul ⟨c j,rfl,by have:=aJ j (by omega);omega⟩
 have J:k*(ea*100)≤40*(ea*100):=Nat.mul_le_mul_right _ (by omega)
 refine Bv (K:=21*100*(ea*ea)) (hw.mono Fs) (o.mono (Nat.le_trans J Lt)) (by grind) ?_ (vN (Nat.le_refl _))
 rw [← ic]
 exact fC fun j _=>by grind
theorem R0 {w x:Rat}(hw:dG (21*100*ea) w)(al:0<w)(aa:dG ea (x*w)):fO x :=
 Bv (K:=21*100*(ea*ea)) (hw.mono Fs) (aa.mono Lp) (by grind) (by grind) (vN (Nat.le_refl _))
theorem aa1 {w x:Rat}{c:Int}(hw:dG (21*100*ea) w)(al:0<w)(aa:dG ea (x*w))(aJ:-100≤c∧c≤100):fO (x*(c:Rat)):=by
 have:=aa.mul (show dG 100 (c:Rat) from ⟨c,rfl,by omega⟩)
 exact Bv (K:=21*100*(ea*ea)) (hw.mono Fs) (this.mono (by have:=Lt;omega)) (by grind) (by grind) (vN (Nat.le_refl _))
theorem Z8 {n:Nat}{w:Rat}(x0 fz:Int)(eM dM mf:List Int){x:Nat→Rat}{c:Nat→Int}(aP:mf=a2 n c)(hw:dG (21*100*ea) w)(al:0<w)(aa:∀j,dG ea (x j*w))(aJ:∀j,j<n→ -100≤c j∧c j≤100)(a0:n≤40):
 DI (n:Int) x0 fz eM dM mf (a2 n fun j=>dt (x j)) (dt 0) 0=some (dt (b8 n fun j=>x j*(c j:Rat))):=by
 subst aP
 unfold DI
 obtain ⟨s,e,-⟩:=iv (f:=fun v:(Option bF)×Int=>xM (n:Int) x0 fz eM dM (a2 n c) (a2 n fun j=>dt (x j)) v.1 v.2)
  (fun (k:Nat) (_:Unit)=>(dt (b8 k fun j=>x j*(c j:Rat)),(k:Int))) n (fun _ _=>True) (fun _=>dt (b8 n fun j=>x j*(c j:Rat)))
  (fun k aX _ _=>by
    refine ⟨(),?_,trivial⟩
    have ad4:=aJ k aX
    have ai:oL (c k):=by rw [mB];omega
    unfold xM
    simp only
    refine ed (by omega) (bL (by rw [cW];omega) (aB (x:=dt (x k)) (by rw [Int.toNat_natCast];exact jQ aX) (bL (by rw [cW];omega) (aB (x:=c k) (by rw [Int.toNat_natCast];exact jQ aX) (aB (vD ai) (aB (Q6 (R0 hw al (aa k)) (vB ai)) (aB (RE (Q9 hw al aa aJ (Nat.le_of_lt aX) a0) (aa1 hw al (aa k) ad4)) ?_)))))))
    rw [f5 (by omega)];rfl)
  (fun _ _=>by unfold xM;exact d4 (by simp) rfl) () trivial
 exact e
theorem aa2 {m n:Nat}{a:Nat→Nat→Int}{b:Nat→Int}{a6 N:Nat}{u:ct}(h:LT m n a b a6 N u)(a0:n≤N):gj a6 a6 N u.T u where
 rc:=fun c aJ j _=>by
  rw [kg aJ (f:=fun i=>u.T c (u.B i)*u.T i j) (fun i ai cM=>by rw [h.unit c aJ i ai,if_neg (fun e=>cM e.symm)];grind),h.unit c aJ c aJ,if_pos rfl];grind
 row:=⟨fun i c=>if i=c then 1 else 0,fun i ai j _=>by
  rw [kg ai (f:=fun c=>(if i=c then (1:Rat) else 0)*u.T c j) (fun c _ cM=>by rw [if_neg (Ne.symm cM)];grind),if_pos rfl];grind⟩
 unit:=h.unit
 j8:=fun i ai=>Nat.lt_of_lt_of_le (h.j8 i ai) a0
theorem Kf {p:nt}{m n:Nat}{a:Nat→Nat→Int}{b:Nat→Int}(h:oa p m n a b){c:Nat→Int}(oZ:p.jt=a2 n c)(aJ:∀j,j<n→ -100≤c j∧c j≤100):
 ∃r,s8 p.kU p.j4 p.fX p.fY p.jt=some r∧((¬rR m n a b∧r=(2,[],none))∨(rR m n a b∧ ¬Bounded m n a b (jC n c)∧r=(3,[],none)) ∨
  (∃x w,tk m n a b (jC n c) x∧(0<w∧dG (ky 100 m) w∧ ∀j,dG (ky 100 m) (x j*w))∧(∀j,fO (x j))∧fO (val n (jC n c) x)∧r=(0,a2 n (fun j=>dt (x j)),dt (val n (jC n c) x)))):=by
 have hm:=h.hm
 have a0:=h.a0
 have k1:=PS h
 obtain ⟨r,e,ap⟩:=Zx h
 unfold s8
 rcases ap with ⟨b4,t,a6,g,eb,rfl,b0,hj,gg⟩|⟨b4,rfl⟩
 ·have aL:=b0.aaW hj
  have dr:pC m n a b a6 g (im g t).T (fun j=>decide (j<n)) (hd m (ep m n a b) t) (im g t) :=
   ⟨⟨t,b0,hj,⟨fun _ _ _=>rfl,fun _ _=>rfl⟩,rfl⟩,aL,aa2 aL (by omega),fun i ai=>decide_eq_true (hj i ai)⟩
  obtain ⟨ok,hL,js,uw,sQ,az,ad5,ei⟩:=Qr hm a0 k1 dr (fun j _ aC=>of_decide_eq_true aC) b0.inj b0.le (m2 n c 0) (Q7 aJ 0) (Qs n c 0) (px.zero (c:=jC n c) (fun j aC=>decide_eq_true aC) (fun _=>0)) gg
  have CS:p.jt++(List.replicate (n+m) 0:List Int).drop p.jt.length=a2 (n+m) (m2 n c 0):=by
   rw [oZ,cW]
   apply List.ext_getElem?
   intro i
   by_cases ci:i<n
   ·rw [List.getElem?_append_left (by rw [cW];exact ci),gO ci,gO (by omega)];simp only [m2];rw [if_pos ci]
   ·rw [List.getElem?_append_right (by rw [cW];omega),cW,List.getElem?_drop,show n+(i-n)=i by omega]
    by_cases Mx:i<n+m
    ·rw [List.getElem?_replicate,if_pos Mx,gO Mx];simp only [m2];rw [if_neg ci]
    ·rw [List.getElem?_replicate,if_neg Mx,List.getElem?_eq_none_iff.2 (by rw [cW];omega)]
  have Ty:p.jt.length=n:=by rw [oZ,cW]
  rcases ei with ⟨rfl,pW,acs,agW,CA⟩|⟨rfl,jY,q,bi,dN,hh⟩
  ·obtain ⟨kq,l9,bG,agD,aH,sK,ad6,agX,ad7⟩:=Zy (R:=m2 n c 0) hm a0 k1 aJ p.kU p.fX p.fY p.jt pW acs ad5 CA
   have f2:=sK.q3 k1
   have Lq:=ad7.l3 sK.lt sK.MY
   have aa:=aa0 sK.lt f2
   have a3:b8 n (fun j=>l9.gH a6 (n+m) j*(c j:Rat))=val n (jC n c) (l9.gH a6 (n+m)):=fC fun j aC=>by
    have:jC n c j=(c j:Rat):=by unfold jC m2;simp only;rw [if_pos aC]
    rw [this];exact Rat.mul_comm _ _
   refine ⟨_,aB e ?_,.inr (.inr ⟨l9.gH a6 (n+m),kq,Lq,⟨f2.pos,(sK.So k1).1,fun j=>Q8 sK.lt (sK.So k1).2 j⟩,fun j=>R0 f2.hw f2.pos (aa j),?_,rfl⟩)⟩
   ·simp only
    refine bL (by omega) (bL (by rw [Ty,Int.toNat_natCast];omega) (aB (by rw [Int.toNat_natCast,CS];exact az) (fc rfl ?_)))
    rw [h.gz,Int.toNat_natCast,Int.toNat_natCast,CS]
    refine aB aH (bL (by omega) (aB (Zz _ _ _ _ _ _ _ _ _ _ _ _ a0) (aB (x:=a2 n fun j=>dt (l9.gH a6 (n+m) j)) ?_ (aB (x:=dt 0) (vD (n:=0) (by rw [mB];omega)) (aB (x:=dt (val n (jC n c) (l9.gH a6 (n+m)))) ?_ rfl)))))
    ·simp only
     rw [show ((eD a6 l9).length:Nat)=a6 from cW ..]
     exact YG _ _ _ _ _ _ _ (by have:=b0.le;omega) (by omega) sK.lt f2 ad6 a0
    ·rw [cW,← a3]
     exact Z8 _ _ _ _ _ oZ f2.hw f2.pos aa aJ a0
   ·rw [← a3];exact Q9 f2.hw f2.pos aa aJ (Nat.le_refl _) a0
  ·refine ⟨_,aB e ?_,.inr (.inl ⟨b4,jY.L0 _ bi dN hh,rfl⟩)⟩
   simp only
   exact bL (by omega) (bL (by rw [Ty,Int.toNat_natCast];omega) (aB (by rw [Int.toNat_natCast,CS];exact az) (gk rfl rfl)))
 ·exact ⟨_,aB e rfl,.inl ⟨b4,rfl⟩⟩
def tD (k:Nat)(x:bP):List ev:=(if x.jS=2 then [] else [⟨(k:Int),1⟩])++(if x.jS=1 then [] else [⟨(k:Int),-1⟩])
def lc (fT:List bP):Nat→List ev
 | 0=>[]
 | n+1=>lc fT n++(match fT[n]? with
  | some x=>tD n x
  | none=>[])
theorem Kg (fT:List bP): ∀n,(lc fT n).length≤2*n
 | 0=>by simp [lc]
 | n+1=>by
  have:=Kg fT n
  rw [lc,List.length_append]
  have J:(match fT[n]? with
   | some x=>tD n x
   | none=>[]).length≤2:=by
   split
   ·rename_i x _;unfold tD;rw [List.length_append];split<;>split<;>simp
   ·simp
  omega
theorem Qt {fT:List bP}: ∀ {n:Nat} {c:ev},n≤fT.length→c∈lc fT n→ ∃k:Nat,c.hr=k∧k<n∧(c.pM=1∨c.pM = -1)
 | 0,c,_,h=>by simp [lc] at h
 | n+1,c,a0,h=>by
  rw [lc,List.mem_append] at h
  rcases h with h|h
  ·obtain ⟨k,o,J,ak⟩:=Qt (by omega) h
   exact ⟨k,o,by omega,ak⟩
  ·rw [List.getElem?_eq_getElem (by omega)] at h
   simp only [tD,List.mem_append] at h
   rcases h with h|h
   ·split at h
    ·simp at h
    ·simp at h;subst h;exact ⟨n,rfl,by omega,.inl rfl⟩
   ·split at h
    ·simp at h
    ·simp at h;subst h;exact ⟨n,rfl,by omega,.inr rfl⟩
theorem yt (s:ck)(dr:s.b5.length≤1000):si s=some (lc s.b5 s.b5.length):=by
 unfold si Hj
 rw [gv]
 obtain ⟨x,e,-⟩:=iv (f:=fun w:Int×List ev=>xc s.b5 (s.b5.length:Nat) w.1 w.2) (fun (n:Nat) (_:Unit)=>((n:Int),lc s.b5 n)) s.b5.length (fun _ _=>True) (fun _=>lc s.b5 s.b5.length)
  (fun n a0 _ _=>by
    refine ⟨(),?_,trivial⟩
    have aa:=List.getElem?_eq_getElem a0
    have aL:=Kg s.b5 n
    have az:lc s.b5 (n+1)=lc s.b5 n++tD n s.b5[n]:=by rw [lc,aa]
    unfold xc
    refine ed (by simp only;omega) (bL (by simp only;omega) (aB (x:=s.b5[n]) (by simp only;rw [Int.toNat_natCast];exact aa) ?_))
    simp only
    rw [f5 (by omega),az]
    unfold tD
    by_cases bN:s.b5[n].jS=2
    ·rw [if_pos bN]
     refine gk (sL bN) (fc (LY (by omega)) (bL (by simp only [List.length_append,List.length_cons,List.length_nil];omega) ?_))
     rw [if_neg (by omega)];simp
    ·rw [if_neg bN]
     refine fc (LY bN) (bL (by simp only [List.length_append,List.length_cons,List.length_nil];omega) ?_)
     by_cases c2:s.b5[n].jS=1
     ·refine gk (sL c2) ?_
      rw [if_pos c2];simp
     ·refine fc (LY c2) (bL (by simp only [List.length_append,List.length_cons,List.length_nil];omega) ?_)
      rw [if_neg c2];simp)
  (fun _ _=>by unfold xc;exact d4 (by simp) rfl) () trivial
 exact aB e rfl
def la (s:ck)(k:Nat):Int×Int:=(sZ s k).getD (0,0)
theorem Kh (s:ck)(h:lK s)(k:Nat)(aX:k<s.b5.length):sZ s k=some (la s k)∧(-100≤(la s k).1∧(la s k).1≤100)∧(-100≤(la s k).2∧(la s k).2≤100):=by
 obtain ⟨x,y,o,ak,ay⟩:=Z5 s h k (by omega) (by omega)
 have e:la s k=(x,y):=by unfold la;rw [o];rfl
 rw [e];exact ⟨o,ak,ay⟩
def hF (s:ck)(j:Int)(eu k:Nat):Int :=
 match s.b5[k]? with
 | none=>0
 | some x=>if j=x.fX then (if eu=0 then (la s k).1 else (la s k).2) else if j=x.fY then -(if eu=0 then (la s k).1 else (la s k).2) else 0
theorem y0 (s:ck)(h:lK s)(j:Int)(eu k:Nat): -100≤hF s j eu k∧hF s j eu k≤100:=by
 unfold hF
 split
 ·omega
 ·rename_i x aa
  obtain ⟨-,ak,ay⟩:=Kh s h k (f9 aa)
  split
  ·split<;>omega
  ·split
   ·split<;>omega
   ·omega
theorem Z9 (s:ck)(h:lK s)(j:Int)(aR:List Int)(bb b7:Int)(cC:List (List Int)):
 C1 s.cE s.b5 j aR bb b7 (len_ dm s.b5) cC 0 (a2 s.b5.length fun _=>(0:Int)) (a2 s.b5.length fun _=>(0:Int))=some (a2 s.b5.length (hF s j 0),a2 s.b5.length (hF s j 1)):=by
 obtain ⟨-,-,f3,f4⟩:=id h
 unfold C1
 rw [gv]
 obtain ⟨x,e,-⟩:=iv (f:=fun w:Int×List Int×List Int=>w7 s.cE s.b5 j aR bb b7 (s.b5.length:Nat) cC w.1 w.2.1 w.2.2) (fun (n:Nat) (_:Unit)=>((n:Int),(a2 s.b5.length fun k=>if k<n then hF s j 0 k else 0),a2 s.b5.length fun k=>if k<n then hF s j 1 k else 0)) s.b5.length (fun _ _=>True) (fun _=>(a2 s.b5.length (hF s j 0),a2 s.b5.length (hF s j 1)))
  (fun n a0 _ _=>by
    refine ⟨(),?_,trivial⟩
    have aa:=List.getElem?_eq_getElem a0
    obtain ⟨v1,v3,v4⟩:=Kh s h n a0
    have c8 : ∀eu v,v=hF s j eu n→(a2 s.b5.length fun k=>if k<n then hF s j eu k else 0).set n v=a2 s.b5.length fun k=>if k<n+1 then hF s j eu k else 0:=fun eu v a3=>by
     rw [kC]
     refine fm fun k _=> ?_
     by_cases c:k=n
     ·subst c;rw [if_pos rfl,if_pos (by omega)];exact a3
     ·rw [if_neg c]
      by_cases c2:k<n
      ·rw [if_pos c2,if_pos (by omega)]
      ·rw [if_neg c2,if_neg (by omega)]
    have g1 : ∀F:Nat→Int,0≤((n:Nat):Int)∧((n:Nat):Int)<((a2 s.b5.length F).length:Nat):=fun F=>by rw [cW];omega
    have g2 : ∀F:Nat→Int,0+((n:Nat):Int).toNat<(a2 s.b5.length F).length:=fun F=>by rw [cW,Int.toNat_natCast];omega
    unfold w7
    refine ed (by simp only;omega) (bL (by simp only;omega) (aB (x:=s.b5[n]) (by simp only;rw [Int.toNat_natCast];exact aa) (aB (x:=la s n) v1 ?_)))
    simp only
    by_cases bN:j=s.b5[n].fX
    ·have e0 : ∀eu,hF s j eu n=if eu=0 then (la s n).1 else (la s n).2:=fun eu=>by unfold hF;rw [aa];simp only [if_pos bN]
     refine fc (zA bN) (bL (g1 _) (bL (g2 _) (bL (g1 _) (bL (g2 _) ?_))))
     rw [f5 (by omega),Int.toNat_natCast,Nat.zero_add,c8 0 _ (by rw [e0];rfl),c8 1 _ (by rw [e0];rfl)]
    ·refine gk (uH bN) ?_
     by_cases c2:j=s.b5[n].fY
     ·have e0 : ∀eu,hF s j eu n = -(if eu=0 then (la s n).1 else (la s n).2):=fun eu=>by unfold hF;rw [aa];simp only [if_neg bN,if_pos c2]
      refine fc (zA c2) (bL (g1 _) (bL (g2 _) (bL (g1 _) (bL (g2 _) ?_))))
      rw [f5 (by omega),Int.toNat_natCast,Nat.zero_add,cX (by omega) (by omega),cX (by omega) (by omega),c8 0 _ (by rw [e0];simp),c8 1 _ (by rw [e0];simp)]
     ·have e0 : ∀eu,hF s j eu n=0:=fun eu=>by unfold hF;rw [aa];simp only [if_neg bN,if_neg c2]
      refine gk (uH c2) ?_
      rw [f5 (by omega)]
      congr 4
      ·refine fm fun k _=> ?_
       by_cases c:k=n
       ·subst c;rw [if_neg (by omega),if_pos (by omega),e0]
       ·by_cases c2:k<n
        ·rw [if_pos c2,if_pos (by omega)]
        ·rw [if_neg c2,if_neg (by omega)]
      ·refine fm fun k _=> ?_
       by_cases c:k=n
       ·subst c;rw [if_neg (by omega),if_pos (by omega),e0]
       ·by_cases c2:k<n
        ·rw [if_pos c2,if_pos (by omega)]
        ·rw [if_neg c2,if_neg (by omega)])
  (fun _ _=>by
    unfold w7
    refine d4 (by simp) ?_
    simp only
    congr 3
    ·exact fm fun k aX=>by rw [if_pos aX]
    ·exact fm fun k aX=>by rw [if_pos aX]) () trivial
 have z : ∀eu,(a2 s.b5.length fun k=>if k<0 then hF s j eu k else 0)=a2 s.b5.length fun _=>(0:Int):=fun eu=>fm fun k _=>by rw [if_neg (by omega)]
 rw [z,z] at e
 exact e
def fV (s:ck)(q:Nat):Nat:=(kW s.cE 0).getD q 0
def dC (s:ck):Nat:=(kW s.cE 0).length
def mJ (s:ck)(r k:Nat):Int:=hF s (fV s (r / 2)) (r % 2) k
theorem EA (s:ck):(kW s.cE 0).map (fun n:Nat=>(n:Int))=a2 (dC s) fun q=>((fV s q:Nat):Int):=by
 apply List.ext_getElem?
 intro q
 rw [List.getElem?_map]
 by_cases c:q<dC s
 ·rw [gO c]
  have h:(kW s.cE 0)[q]? = some (kW s.cE 0)[q]:=List.getElem?_eq_getElem c
  unfold fV
  rw [List.getD_eq_getElem?_getD,h];rfl
 ·rw [List.getElem?_eq_none_iff.2 (by unfold dC at c;omega),List.getElem?_eq_none_iff.2 (by rw [cW];omega)];rfl
theorem E1 (s:ck){q:Nat}(h:q<dC s):fV s q<s.cE.length:=by
 have o:(kW s.cE 0)[q]? = some (kW s.cE 0)[q]:=List.getElem?_eq_getElem h
 have J:fV s q=(kW s.cE 0)[q]:=by unfold fV;rw [List.getD_eq_getElem?_getD,o];rfl
 have:=Kc s.cE 0 _ (List.mem_of_getElem? o)
 omega
theorem tv (s:ck):dC s≤s.cE.length:=Qn s.cE 0
theorem WM (s:ck)(h:lK s):zX s=some (a2 (2*dC s) fun r=>a2 s.b5.length (mJ s r)):=by
 obtain ⟨-,-,f3,f4⟩:=id h
 have tW:=tv s
 unfold zX
 refine aB (DU s (by omega)) ?_
 rw [EA,gP,cW]
 unfold GU
 obtain ⟨x,e,-⟩:=iv (f:=fun w:Int×List (List Int)=>w8 s.cE s.b5 (a2 (dC s) fun q=>((fV s q:Nat):Int)) ((dC s:Nat):Int) w.1 w.2) (fun (n:Nat) (_:Unit)=>((n:Int),a2 (2*n) fun r=>a2 s.b5.length (mJ s r))) (dC s) (fun _ _=>True) (fun _=>a2 (2*dC s) fun r=>a2 s.b5.length (mJ s r))
  (fun n a0 _ _=>by
    refine ⟨(),?_,trivial⟩
    unfold w8
    refine ed (by simp only;omega) (bL (by rw [cW];simp only;omega) (aB (x:=((fV s n:Nat):Int)) (by simp only;rw [Int.toNat_natCast];exact gO a0) (bL (by rw [gv];omega) ?_)))
    refine aB (x:=(a2 s.b5.length (hF s (fV s n) 0),a2 s.b5.length (hF s (fV s n) 1))) (by rw [show (len_ dm s.b5).toNat=s.b5.length by rw [gv,Int.toNat_natCast],ow];exact Z9 s h _ _ _ _ _) (bL (by simp only [List.length_append,cW,List.length_cons,List.length_nil];omega) ?_)
    simp only
    rw [f5 (by omega),show 2*(n+1)=2*n+1+1 by omega,AR (2*n+1),AR (2*n)]
    have aq:a2 s.b5.length (hF s (fV s n) 0)=a2 s.b5.length (mJ s (2*n)):=fm fun k _=>by
     unfold mJ;rw [show 2*n / 2=n by omega,show 2*n % 2=0 by omega]
    have bE:a2 s.b5.length (hF s (fV s n) 1)=a2 s.b5.length (mJ s (2*n+1)):=fm fun k _=>by
     unfold mJ;rw [show (2*n+1) / 2=n by omega,show (2*n+1) % 2=1 by omega]
    rw [aq,bE];simp)
  (fun _ _=>by unfold w8;exact d4 (by simp) rfl) () trivial
 exact aB e rfl
def gz (s:ck):List ev:=lc s.b5 s.b5.length
def bA (s:ck):Nat:=(gz s).length
def hf (s:ck)(c:Nat):Nat:=((gz s).getD c ⟨0,0⟩).hr.toNat
def mR (s:ck)(c:Nat):Int:=((gz s).getD c ⟨0,0⟩).pM
def mz (s:ck)(i c:Nat):Int:=mR s c*mJ s i (hf s c)
def mA (s:ck)(l:List Int)(i:Nat):Int:= -(l.getD (2*fV s (i / 2)+i % 2) 0)
theorem sA (s:ck){c:Nat}(aJ:c<bA s):(gz s)[c]? = some ⟨(hf s c:Int),mR s c⟩∧hf s c<s.b5.length∧(mR s c=1∨mR s c = -1):=by
 have o:(gz s)[c]? = some (gz s)[c]:=List.getElem?_eq_getElem aJ
 have J:(gz s).getD c ⟨0,0⟩=(gz s)[c]:=by rw [List.getD_eq_getElem?_getD,o];rfl
 obtain ⟨k,az,aH,b2⟩:=Qt (Nat.le_refl _) (List.mem_of_getElem? o)
 have dn:hf s c=k:=by unfold hf;rw [J,az];rfl
 have ej:mR s c=((gz s)[c]).pM:=by unfold mR;rw [J]
 refine ⟨?_,by omega,by rw [ej];exact b2⟩
 rw [o,dn,ej,← az]
theorem qZ (s:ck):bA s≤2*s.b5.length:=Kg _ _
theorem K2 (s:ck)(h:lK s)(i:Nat){c:Nat}(aJ:c<bA s): -100≤mz s i c∧mz s i c≤100:=by
 have o:=y0 s h (fV s (i / 2)) (i % 2) (hf s c)
 unfold mz mJ
 rcases (sA s aJ).2.2 with e|e<;>rw [e]<;>omega
def wT (s:ck)(l:List Int):nt:=⟨((2*dC s:Nat):Int),(bA s:Int),a2 (2*dC s*bA s) (fun x=>mz s (x / bA s) (x % bA s)),a2 (2*dC s) (mA s l),a2 (bA s) fun _=>0⟩
theorem aa3 (s:ck)(h:lK s)(l:List Int)(aY:∀x∈l,-100≤x∧x≤100):oa (wT s l) (2*dC s) (bA s) (mz s) (mA s l) where
 rows:=rfl
 gz:=rfl
 oY:=cW ..
 BU:=fun i ai j aC=>by
  have o:i*bA s+j<2*dC s*bA s:=by
   have:(i+1)*bA s≤2*dC s*bA s:=Nat.mul_le_mul_right _ ai
   rw [Nat.succ_mul] at this;omega
  show (a2 _ _)[_]? = _
  rw [gO o]
  have J:(i*bA s+j) / bA s=i:=by rw [Nat.mul_comm,Nat.mul_add_div (by omega),Nat.div_eq_of_lt aC];rfl
  have ak:(i*bA s+j) % bA s=j:=by rw [Nat.mul_comm,Nat.mul_add_mod,Nat.mod_eq_of_lt aC]
  rw [J,ak]
 Gh:=cW ..
 Fq:=fun i ai=>gO ai
 hm:=by
  obtain ⟨-,-,f3,f4⟩:=id h
  have:=tv s;omega
 a0:=by
  obtain ⟨-,-,f3,f4⟩:=id h
  have:=qZ s;omega
 wR:=fun i _ j aC=>K2 s h i aC
 sd:=fun i _=>by
  unfold mA
  rw [List.getD_eq_getElem?_getD]
  cases c:l[2*fV s (i / 2)+i % 2]? with
  | none=>simp
  | some x =>
   have:=aY x (List.mem_of_getElem? c)
   simp only [Option.getD_some];omega
def p8 (s:ck)(r c:Nat):Int:=if r<2*dC s∧c<bA s then mz s r c else 0
def mc (s:ck)(l:List Int)(r:Nat):Int:=if r<2*dC s then mA s l r else 0
def p9 (s:ck)(N i c x:Nat):Int:=if (x / N<i∨(x / N=i∧x % N<c))∧x % N<bA s then mz s (x / N) (x % N) else 0
theorem aa4 (s:ck){T N i c:Nat}(aJ:c<bA s)(fF:bA s≤N)(ia:i*N+c<T){v:Int}(a3:v=mz s i c):(a2 T (p9 s N i c)).set (i*N+c) v=a2 T (p9 s N i (c+1)):=by
 have J:(i*N+c) / N=i:=by rw [Nat.mul_comm,Nat.mul_add_div (by omega),Nat.div_eq_of_lt (by omega)];rfl
 have ak:(i*N+c) % N=c:=by rw [Nat.mul_comm,Nat.mul_add_mod,Nat.mod_eq_of_lt (by omega)]
 rw [kC]
 refine fm fun x _=> ?_
 unfold p9
 by_cases e:x=i*N+c
 ·rw [if_pos e,e,J,ak,if_pos ⟨.inr ⟨rfl,by omega⟩,aJ⟩,a3]
 ·rw [if_neg e]
  have cM : ¬(x / N=i∧x % N=c):=fun ⟨a,b⟩=>e (by rw [← Nat.div_add_mod x N,a,b,Nat.mul_comm])
  by_cases d:(x / N<i∨(x / N=i∧x % N<c))∧x % N<bA s
  ·rw [if_pos d,if_pos ⟨by omega,d.2⟩]
  ·rw [if_neg d,if_neg (fun wQ=>d ⟨by omega,wQ.2⟩)]
theorem aa5 (s:ck)(T N i:Nat):a2 T (p9 s N i (bA s))=a2 T (p9 s N (i+1) 0):=by
 refine fm fun x _=> ?_
 unfold p9
 by_cases d:(x / N<i∨(x / N=i∧x % N<bA s))∧x % N<bA s
 ·rw [if_pos d,if_pos ⟨by omega,d.2⟩]
 ·rw [if_neg d,if_neg (fun wQ=>d ⟨by omega,wQ.2⟩)]
theorem aaa (s:ck)(T N:Nat):a2 T (p9 s N 0 0)=a2 T fun _=>0:=fm fun x _=>by
 unfold p9
 rw [if_neg (fun h=>by rcases h.1 with h|h;exact Nat.not_lt_zero _ h;exact Nat.not_lt_zero _ h.2)]
theorem aa6 (s:ck)(T N:Nat):a2 T (p9 s N (2*dC s) 0)=a2 T fun x=>p8 s (x / N) (x % N):=fm fun x _=>by
 unfold p9 p8
 by_cases d:x / N<2*dC s∧x % N<bA s
 ·rw [if_pos d,if_pos ⟨.inl d.1,d.2⟩]
 ·rw [if_neg d,if_neg (fun wQ=>d ⟨by omega,wQ.2⟩)]
theorem aab (s:ck)(l:List Int)(M:Nat):(a2 M fun x=>if x<0 then mc s l x else 0)=a2 M fun _=>0:=fm fun j _=>by rw [if_neg (by omega)]
theorem aa7 (s:ck)(l:List Int)(M:Nat):(a2 M fun x=>if x<2*dC s then mc s l x else 0)=a2 M (mc s l):=fm fun j _=>by
 by_cases c:j<2*dC s
 ·rw [if_pos c]
 ·rw [if_neg c];unfold mc;rw [if_neg c]
theorem PT (s:ck)(h:lK s)(l:List Int)(aL:l.length=2*s.cE.length)(aY:∀x∈l,-100≤x∧x≤100)(eo ks:Nat)(agE:eo≤100)(agF:ks≤100):
 uZ s l (eo:Int) (ks:Int)=some (((2*dC s+ks:Nat):Int),((bA s+eo:Nat):Int),a2 ((2*dC s+ks)*(bA s+eo)) (fun x=>p8 s (x / (bA s+eo)) (x % (bA s+eo))),a2 (2*dC s+ks) (mc s l),a2 (bA s+eo) fun _=>0):=by
 obtain ⟨-,-,f3,f4⟩:=id h
 have tW:=tv s
 have oZ:=qZ s
 have Tz:(2*dC s+ks)*(bA s+eo)≤112*116:=Nat.mul_le_mul (by omega) (by omega)
 unfold uZ
 refine aB (WM s h) (aB (x:=gz s) (yt s (by omega)) ?_)
 have hL:U ((len_ (dL 1 I) (a2 (2*dC s) fun r=>a2 s.b5.length (mJ s r)))+(ks:Int))=((2*dC s+ks:Nat):Int):=by rw [gv,cW,cX (by omega) (by omega)];omega
 have kq:U ((len_ ek (gz s))+(eo:Int))=((bA s+eo:Nat):Int):=by
  rw [gv];show U (((bA s:Nat):Int)+(eo:Int))=_
  rw [cX (by omega) (by omega)];omega
 have oh:U (((2*dC s+ks:Nat):Int)*((bA s+eo:Nat):Int))=(((2*dC s+ks)*(bA s+eo):Nat):Int):=by rw [← Int.natCast_mul,cX (by omega) (by omega)]
 rw [hL,kq,oh,Int.toNat_natCast,Int.toNat_natCast,Int.toNat_natCast,ow,ow,ow,gv,cW]
 refine bL (by omega) (bL (by omega) (bL (by omega) ?_))
 refine aB (x:=a2 ((2*dC s+ks)*(bA s+eo)) (fun x=>p8 s (x / (bA s+eo)) (x % (bA s+eo)))) ?_ ?_
 ·unfold GK
  obtain ⟨x,e,-⟩:=iv (f:=fun w:Int×List Int=>w2 s.cE s.b5 l (gz s) (a2 (2*dC s) fun r=>a2 s.b5.length (mJ s r)) ((2*dC s:Nat):Int) ((2*dC s+ks:Nat):Int) ((bA s+eo:Nat):Int) (a2 (2*dC s+ks) fun _=>0) (a2 (bA s+eo) fun _=>0) w.1 w.2) (fun (i:Nat) (_:Unit)=>((i:Int),a2 ((2*dC s+ks)*(bA s+eo)) (p9 s (bA s+eo) i 0))) (2*dC s) (fun _ _=>True) (fun _=>a2 ((2*dC s+ks)*(bA s+eo)) (fun x=>p8 s (x / (bA s+eo)) (x % (bA s+eo))))
   (fun i ai _ _=>by
     refine ⟨(),?_,trivial⟩
     have pU:(i+1)*(bA s+eo)≤(2*dC s+ks)*(bA s+eo):=Nat.mul_le_mul_right _ (by omega)
     rw [Nat.succ_mul] at pU
     obtain ⟨y,aH,-⟩:=iv (f:=fun w:Int×List Int=>w1 s.cE s.b5 l (gz s) (i:Int) (a2 s.b5.length (mJ s i)) (a2 (2*dC s) fun r=>a2 s.b5.length (mJ s r)) ((2*dC s:Nat):Int) ((bA s:Nat):Int) ((2*dC s+ks:Nat):Int) ((bA s+eo:Nat):Int) (a2 (2*dC s+ks) fun _=>0) (a2 (bA s+eo) fun _=>0) w.1 w.2) (fun (c:Nat) (_:Unit)=>((c:Int),a2 ((2*dC s+ks)*(bA s+eo)) (p9 s (bA s+eo) i c))) (bA s) (fun _ _=>True) (fun _=>a2 ((2*dC s+ks)*(bA s+eo)) (p9 s (bA s+eo) i (bA s)))
      (fun c aJ _ _=>by
        refine ⟨(),?_,trivial⟩
        obtain ⟨kc,jz,ma⟩:=sA s aJ
        have agG:=K2 s h i aJ
        have aeI:U (U ((i:Int)*((bA s+eo:Nat):Int))+((c:Nat):Int))=((i*(bA s+eo)+c:Nat):Int):=by
         rw [← Int.natCast_mul,cX (x:=((i*(bA s+eo):Nat):Int)) (by omega) (by omega),cX (by omega) (by omega)];omega
        unfold w1
        refine ed (by simp only;omega) (bL (by show _∧((c:Nat):Int)<((bA s:Nat):Int);simp only;omega) (aB (x:=⟨(hf s c:Int),mR s c⟩) (by simp only;rw [Int.toNat_natCast];exact kc) (bL (by rw [cW];simp only;omega) (aB (x:=mJ s i (hf s c)) (by simp only;rw [Int.toNat_natCast];exact gO jz) ?_))))
        simp only
        rw [aeI]
        refine bL (by rw [cW];omega) (bL (by rw [cW,Int.toNat_natCast];omega) ?_)
        rw [f5 (by omega),Int.toNat_natCast,Nat.zero_add,show mR s c*mJ s i (hf s c)=mz s i c from rfl,cX (by omega) (by omega),aa4 s aJ (by omega) (by omega) rfl])
      (fun _ _=>by unfold w1;exact d4 (by simp) rfl) () trivial
     unfold w2
     refine ed (by simp only;omega) (bL (by rw [cW];simp only;omega) (aB (x:=a2 s.b5.length (mJ s i)) (by simp only;rw [Int.toNat_natCast];exact gO ai) (aB (x:=a2 ((2*dC s+ks)*(bA s+eo)) (p9 s (bA s+eo) i (bA s))) (by unfold GJ;rw [gv];exact aH) ?_)))
     simp only
     rw [f5 (by omega),aa5])
   (fun _ _=>by
     unfold w2
     refine d4 (by simp) ?_
     simp only
     rw [aa6]) () trivial
  rw [aaa] at e
  exact e
 refine aB (DU s (by omega)) ?_
 rw [EA,gP,cW]
 refine aB (x:=a2 (2*dC s+ks) (mc s l)) ?_ rfl
 unfold GL
 obtain ⟨x,e,-⟩:=iv (f:=fun w:Int×List Int=>w3 l (a2 (dC s) fun q=>((fV s q:Nat):Int)) ((dC s:Nat):Int) ((2*dC s+ks:Nat):Int) ((bA s+eo:Nat):Int) (a2 ((2*dC s+ks)*(bA s+eo)) (fun x=>p8 s (x / (bA s+eo)) (x % (bA s+eo)))) (a2 (bA s+eo) fun _=>0) w.1 w.2) (fun (n:Nat) (_:Unit)=>((n:Int),a2 (2*dC s+ks) fun x=>if x<2*n then mc s l x else 0)) (dC s) (fun _ _=>True) (fun _=>a2 (2*dC s+ks) (mc s l))
  (fun n a0 _ _=>by
    refine ⟨(),?_,trivial⟩
    have cc:=E1 s a0
    have kq : ∀a:Nat,a≤1000→U ((2:Int)*((a:Nat):Int))=((2*a:Nat):Int):=fun a bH=>by rw [cX (by omega) (by omega)];omega
    have fz:=aY l[2*fV s n] (List.getElem_mem (by omega))
    have fk:=aY l[2*fV s n+1] (List.getElem_mem (by omega))
    have ha:mc s l (2*n) = -l[2*fV s n]:=by
     unfold mc mA
     rw [if_pos (by omega),show 2*n / 2=n by omega,show 2*n % 2=0 by omega,Nat.add_zero,List.getD_eq_getElem?_getD,List.getElem?_eq_getElem (by omega)];rfl
    have h9:mc s l (2*n+1) = -l[2*fV s n+1]:=by
     unfold mc mA
     rw [if_pos (by omega),show (2*n+1) / 2=n by omega,show (2*n+1) % 2=1 by omega,List.getD_eq_getElem?_getD,List.getElem?_eq_getElem (by omega)];rfl
    have c8 : ∀k v,v=mc s l k→(a2 (2*dC s+ks) fun x=>if x<k then mc s l x else 0).set k v=a2 (2*dC s+ks) fun x=>if x<k+1 then mc s l x else 0:=fun k v a3=>by
     rw [kC]
     refine fm fun j _=> ?_
     by_cases c:j=k
     ·subst c;rw [if_pos rfl,if_pos (by omega)];exact a3
     ·rw [if_neg c]
      by_cases c2:j<k
      ·rw [if_pos c2,if_pos (by omega)]
      ·rw [if_neg c2,if_neg (by omega)]
    unfold w3
    refine ed (by simp only;omega) (bL (by rw [cW];simp only;omega) (aB (x:=((fV s n:Nat):Int)) (by simp only;rw [Int.toNat_natCast];exact gO a0) ?_))
    simp only
    rw [kq (fV s n) (by omega),kq n (by omega),f5 (n:=2*fV s n) (by omega),f5 (n:=2*n) (by omega)]
    refine bL (by omega) (aB (x:=l[2*fV s n]) (by rw [Int.toNat_natCast];exact List.getElem?_eq_getElem (by omega)) (bL (by omega) (aB (x:=l[2*fV s n+1]) (by rw [Int.toNat_natCast];exact List.getElem?_eq_getElem (by omega)) ?_)))
    refine bL (by rw [cW];omega) (bL (by rw [cW,Int.toNat_natCast];omega) (bL (by rw [cW];omega) (bL (by rw [List.length_set,cW,Int.toNat_natCast];omega) ?_)))
    rw [f5 (by omega),cX (x:=0-l[2*fV s n]) (by omega) (by omega),cX (x:=0-l[2*fV s n+1]) (by omega) (by omega),Int.toNat_natCast,Int.toNat_natCast,Nat.zero_add,Nat.zero_add,c8 _ _ (by rw [ha];omega),c8 _ _ (by rw [h9];omega),show 2*(n+1)=2*n+1+1 by omega])
  (fun _ _=>by
    unfold w3
    refine d4 (by simp) ?_
    simp only
    rw [aa7]) () trivial
 rw [Nat.mul_zero,aab] at e
 exact e
theorem PU (s:ck)(h:lK s)(l:List Int)(aL:l.length=2*s.cE.length)(aY:∀x∈l,-100≤x∧x≤100):
 uZ s l 0 0=some ((wT s l).kU,(wT s l).j4,(wT s l).fX,(wT s l).fY,(wT s l).jt):=by
 have e:=PT s h l aL aY 0 0 (by omega) (by omega)
 rw [show ((0:Nat):Int)=0 from rfl] at e
 have hA:a2 (2*dC s*bA s) (fun x=>p8 s (x / bA s) (x % bA s))=a2 (2*dC s*bA s) (fun x=>mz s (x / bA s) (x % bA s)):=fm fun x aa=>by
  have oZ:0<bA s:=by
   rcases Nat.eq_zero_or_pos (bA s) with c|c
   ·rw [c,Nat.mul_zero] at aa;omega
   ·exact c
  unfold p8
  rw [if_pos ⟨Nat.div_lt_of_lt_mul (by rw [Nat.mul_comm];exact aa),Nat.mod_lt _ oZ⟩]
 have hj:a2 (2*dC s) (mc s l)=a2 (2*dC s) (mA s l):=fm fun x aa=>by unfold mc;rw [if_pos aa]
 rw [e]
 simp only [Nat.add_zero,wT]
 rw [hA,hj]
theorem ZB {x:Rat}(h:fO x):yq (e5 x)=some true:=by
 have p:=h.dk
 have o:=p.vS
 have J:=p.vT
 obtain ⟨R,-,e,k⟩:=XU (r:=e5 x) (show (L (gu x).1.natAbs).length≤_ by omega) (show (L (gu x).2).length≤_ by omega)
 rw [e,k.2 ⟨gu x,p,rfl⟩]
theorem oB {x:Rat}(h:fO x):qd (e5 x)=some (dt x):=aB (ZB h) (fc rfl rfl)
theorem KN (x:Rat):ru (dt x)=some (mH (gu x).1):=YD
theorem PV {x:Rat}(h:fO x):vf (e5 x)=some (mH (gu x).1):=aB (oB h) (aB (KN x) rfl)
theorem sw {x:Rat}(h:fO x):qL (dt x)=some (e5 x):=by
 have p:=h.dk
 have o:=p.vS
 have J:=p.vT
 refine aB (R:=Ab (kL (gu x)).qq) (x:=hg (gu x).1) ?_ (aB (x:=L (gu x).2) (Kb (a:=L (gu x).2) (by omega)) rfl)
 unfold Ab
 exact d4 (by rw [gP];show ¬(60:Int)<((L ((gu x).1.natAbs:Int)).length:Nat);omega) (aB (x:=L ((gu x).1.natAbs:Int)) (Kb (a:=L ((gu x).1.natAbs:Int)) (by omega)) rfl)
theorem Fe (x:Rat):vv (dt x)=some (dt (-x)):=by
 have e:qb (hg x.num)=some (hg (-x.num)):=by
  have:qb (hg x.num)=(lu (!(decide (x.num<0))) (L (x.num.natAbs:Int))).bind fun r=>some r:=rfl
  rw [this,qN (by omega)]
  have:fa (!(decide (x.num<0))) (x.num.natAbs:Int) = -x.num:=by
   unfold fa
   by_cases c:x.num<0
   ·rw [decide_eq_true c];simp;omega
   ·rw [decide_eq_false c];simp;omega
  rw [this];rfl
 refine aB (R:=qb (hg x.num)) e ?_
 unfold dt gu
 rw [Rat.neg_num,Rat.neg_den];rfl
theorem AX:fO 0:=vB (n:=0) (by rw [mB];omega)
theorem Lu:sm 0=some (e5 0):=aB (vD (n:=0) (by rw [mB];omega)) (aB (sw AX) rfl)
def h2 (s:ck)(k sign:Int)(c:Nat):Int:=if (hf s c:Int)=k then sign*mR s c else 0
theorem aac (s:ck)(k:Int){sign:Int}(h:sign=1∨sign = -1){c:Nat}(aJ:c<bA s): -1≤h2 s k sign c∧h2 s k sign c≤1:=by
 obtain ⟨-,-,ma⟩:=sA s aJ
 unfold h2
 split
 ·rcases h with rfl|rfl<;>rcases ma with e|e<;>rw [e]<;>omega
 ·omega
theorem R1 {p:nt}{m n:Nat}{a:Nat→Nat→Int}{b:Nat→Int}(h:oa p m n a b)(C:List Int):oa ⟨p.kU,p.j4,p.fX,p.fY,C⟩ m n a b :=
 ⟨h.rows,h.gz,h.oY,h.BU,h.Gh,h.Fq,h.hm,h.a0,h.wR,h.sd⟩
theorem PW {fT:List bP}{k:Nat}: ∀ {n:Nat},k<n→n≤fT.length→ ∃x∈lc fT n,x.hr=(k:Int)
 | 0,h,_=>by omega
 | n+1,h,a0=>by
  rw [lc,List.getElem?_eq_getElem (show n<fT.length by omega)]
  by_cases e:k=n
  ·subst e
   simp only
   unfold tD
   by_cases c:fT[k].jS=2
   ·exact ⟨⟨(k:Int),-1⟩,by rw [List.mem_append,List.mem_append,if_neg (show ¬fT[k].jS=1 by omega)];exact .inr (.inr (by simp)),rfl⟩
   ·exact ⟨⟨(k:Int),1⟩,by rw [List.mem_append,List.mem_append,if_neg c];exact .inr (.inl (by simp)),rfl⟩
  ·obtain ⟨x,o,J⟩:=PW (fT:=fT) (k:=k) (n:=n) (by omega) (by omega)
   exact ⟨x,List.mem_append_left _ o,J⟩
theorem ZC (s:ck){k:Nat}(aX:k<s.b5.length): ∃c,c<bA s∧hf s c=k:=by
 obtain ⟨x,o,J⟩:=PW aX (Nat.le_refl _)
 obtain ⟨c,aJ⟩:=List.getElem?_of_mem o
 have aL:c<bA s:=f9 aJ
 obtain ⟨e,-,-⟩:=sA s aL
 have aH:(gz s)[c]? = some x:=aJ
 rw [aH] at e
 have:=Option.some.inj e
 rw [this] at J
 exact ⟨c,aL,by simp only at J;omega⟩
def gh (s:ck)(x:Nat→Rat)(c k:Nat):Rat:=b8 c fun j=>if hf s j=k then (mR s j:Rat)*x j else 0
def rp (s:ck)(c k:Nat):Bool:=(List.range c).any fun j=>hf s j == k
theorem aad (s:ck)(c k:Nat):rp s (c+1) k=(rp s c k || (hf s c == k)):=by
 unfold rp;rw [List.range_succ,List.any_append];simp
theorem abF {s:ck}{x:Nat→Rat}{c k:Nat}(h:rp s c k=false):gh s x c k=0:=by
 unfold rp at h
 rw [List.any_eq_false] at h
 exact mT fun j aC=>if_neg fun e=>h j (List.mem_range.2 aC) (by rw [e];simp)
theorem aa8 (s:ck){k:Nat}(aX:k<s.b5.length):rp s (bA s) k=true:=by
 obtain ⟨c,o,J⟩:=ZC s aX
 unfold rp
 exact List.any_eq_true.2 ⟨c,List.mem_range.2 o,by rw [J];simp⟩
theorem R2 {s:ck}{x:Nat→Rat}{w:Rat}{K:Nat}(aa:∀j,dG K (x j*w)): ∀ {c:Nat} (k:Nat),c≤bA s→dG (c*K) (gh s x c k*w):=fun {c} k aJ=>by
 have:gh s x c k*w=b8 c fun j=>(if hf s j=k then (mR s j:Rat)*x j else 0)*w:=by
  unfold gh
  rw [Rat.mul_comm,← ic]
  exact fC fun j _=>Rat.mul_comm _ _
 rw [this]
 refine dG.sum fun j aC=> ?_
 obtain ⟨-,-,e⟩:=sA s (show j<bA s by omega)
 split
 ·rcases e with e|e<;>rw [e]
  ·rw [show ((1:Int):Rat)*x j*w=x j*w by grind];exact aa j
  ·rw [show ((-1:Int):Rat)*x j*w = -(x j*w) by grind];exact (aa j).neg
 ·exact ⟨0,by rw [Rat.zero_mul];rfl,by simp⟩
theorem K3 {x y:Rat}(aa:fO x)(aP:fO y)(h:fO (x+y)):qg (dt x) (dt y)=some (dt (x+y)):=aB (RE aa aP) (aB (y8 h) rfl)
def q4 (s:ck)(x:Nat→Rat)(c:Nat):List (Option bF):=a2 s.b5.length fun k=>if rp s c k then dt (gh s x c k) else none
theorem Ra (s:ck)(v:lK s){x:Nat→Rat}(aa:∀j,fO (x j))(bo:∀c k,c≤bA s→fO (gh s x c k)):z6 s (a2 (bA s) fun j=>dt (x j))=some (a2 s.b5.length fun k=>dt (gh s x (bA s) k)):=by
 have bn:=v.2.2.2
 have oZ:=qZ s
 have aL:len_ dm s.b5=((s.b5.length:Nat):Int):=gv ..
 have hC:len_ ek (gz s)=((bA s:Nat):Int):=gv ..
 unfold z6
 rw [aL]
 refine bL (by omega) (aB (x:=gz s) (yt s (by omega)) (aB ?_ rfl))
 unfold Hv
 rw [hC]
 obtain ⟨z,e,-⟩:=iv (f:=fun w:Int×(List (Option bF))=>xl (a2 (bA s) fun j=>dt (x j)) (gz s) ((bA s:Nat):Int) w.1 w.2) (fun (c:Nat) (_:Unit)=>((c:Int),q4 s x c)) (bA s) (fun _ _=>True) (fun _=>a2 s.b5.length fun k=>dt (gh s x (bA s) k))
  (fun c aJ _ _=>by
    refine ⟨(),?_,trivial⟩
    obtain ⟨kc,jz,ma⟩:=sA s aJ
    have fin : ∀y,y=dt (gh s x (c+1) (hf s c))→(q4 s x c).set (hf s c) y=q4 s x (c+1):=fun y aP=>by
     unfold q4
     rw [kC]
     refine fm fun k _=> ?_
     rw [aad]
     by_cases e:k=hf s c
     ·subst e;rw [if_pos rfl,aP];simp
     ·have aH:gh s x (c+1) k=gh s x c k:=by
       show gh s x c k+(if hf s c=k then _ else _)=_
       rw [if_neg (fun q=>e q.symm)];grind
      rw [if_neg e,aH,show (hf s c == k)=false from beq_false_of_ne (fun q=>e q.symm),Bool.or_false]
    have last:gh s x (c+1) (hf s c)=gh s x c (hf s c)+(mR s c:Rat)*x c:=by
     show gh s x c _+(if hf s c=hf s c then _ else _)=_
     rw [if_pos rfl]
    have hlen:(q4 s x c).length=s.b5.length:=cW ..
    have Sp:(q4 s x c)[0+((hf s c:Nat):Int).toNat]? = some (if rp s c (hf s c) then dt (gh s x c (hf s c)) else none):=by
     rw [Int.toNat_natCast];exact jQ jz
    have put : ∀ {F:Option (Option bF)→Prop} {y:Rat},y=(mR s c:Rat)*x c→fO y →
     ((if rp s c (hf s c) then dt (gh s x c (hf s c)) else none:Option bF).elim (if (0+((hf s c:Nat):Int).toNat)<(q4 s x c).length then some (Sum.inl (U ((c:Int)+(1:Int)),(q4 s x c).set (0+((hf s c:Nat):Int).toNat) (dt y))) else none)
       fun _=>qg (if rp s c (hf s c) then dt (gh s x c (hf s c)) else none) (dt y) >>= fun dy=>if (0+((hf s c:Nat):Int).toNat)<(q4 s x c).length then some (Sum.inl (U ((c:Int)+(1:Int)),(q4 s x c).set (0+((hf s c:Nat):Int).toNat) dy)) else none)
     = some (Sum.inl (((c+1:Nat):Int),q4 s x (c+1)):(Int×(List (Option bF)))⊕((List (Option bF)))):=fun {F y} aP CT=>by
     rw [f5 (by omega),Int.toNat_natCast,Nat.zero_add]
     cases q:rp s c (hf s c) with
     | false =>
      rw [if_neg (by simp)]
      show (if _ then _ else _)=_
      rw [if_pos (by rw [hlen];exact jz),fin _ (by rw [last,abF q,aP];congr 1;grind)]
     | true =>
      rw [if_pos rfl]
      show (qg (dt (gh s x c (hf s c))) (dt y) >>= _)=_
      have b4:fO (gh s x c (hf s c)+y):=by rw [aP,← last];exact bo _ _ aJ
      refine aB (K3 (bo _ _ (Nat.le_of_lt aJ)) CT b4) ?_
      rw [if_pos (by rw [hlen];exact jz),fin _ (by rw [last,aP])]
    unfold xl
    simp only
    refine ed (by omega) (bL (by show _∧((c:Nat):Int)<((bA s:Nat):Int);omega) (aB kc (bL (by rw [cW];omega) (aB (x:=dt (x c)) (by rw [Int.toNat_natCast];exact gO aJ) ?_))))
    rcases ma with e|e
    ·refine d4 (by simp only;omega) (bL (by rw [hlen];simp only;omega) (aB Sp ?_))
     exact put (F:=fun _=>True) (by rw [e];grind) (aa c)
    ·refine ed (by simp only;omega) (aB (Fe (x c)) (bL (by rw [hlen];simp only;omega) (aB Sp ?_)))
     exact put (F:=fun _=>True) (by rw [e];grind) (aa c).neg)
  (fun _ _=>by
    unfold xl
    refine d4 (by simp) ?_
    simp only
    congr 2
    exact fm fun k aX=>by rw [aa8 s aX,if_pos rfl]) () trivial
 have e0:q4 s x 0=List.replicate (((s.b5.length:Nat):Int).toNat) none:=by
  rw [Int.toNat_natCast,ow];exact fm fun k _=>rfl
 rw [← e0];exact e
theorem Em {n:Nat}(a0:n≤40){y:Nat→Rat}(aP:∀k,k<n→fO (y k)):ta (a2 n fun k=>dt (y k))=some (a2 n (fun k=>e5 (y k)),true):=by
 have aL:len_ (c0 3 bh) (a2 n fun k=>dt (y k))=((n:Nat):Int):=by rw [gv,cW]
 unfold ta
 rw [aL]
 refine bL (by omega) (aB (x:= .inl (a2 n fun k=>e5 (y k))) ?_ rfl)
 unfold Jg
 obtain ⟨z,e,-⟩:=iv (f:=fun w:Int×(List c4)=>xQ (a2 n fun k=>dt (y k)) ((n:Nat):Int) w.1 w.2) (fun (k:Nat) (_:Unit)=>((k:Int),a2 n fun j=>if j<k then e5 (y j) else (⟨⟨false,[]⟩,[]⟩:c4))) n (fun _ _=>True) (fun _=>(.inl (a2 n fun k=>e5 (y k)):(List c4)⊕Unit))
  (fun k aX _ _=>by
    refine ⟨(),?_,trivial⟩
    unfold xQ
    simp only
    refine ed (by omega) (bL (by rw [cW];omega) (aB (x:=dt (y k)) (by rw [Int.toNat_natCast];exact gO aX) ?_))
    show (qL (dt (y k)) >>= _)=_
    refine aB (sw (aP k aX)) (bL (by rw [cW];omega) (bL (by rw [cW,Int.toNat_natCast];omega) ?_))
    rw [f5 (by omega),Int.toNat_natCast,Nat.zero_add,kC]
    congr 3
    refine fm fun j _=> ?_
    by_cases bN:j=k
    ·subst bN;rw [if_pos rfl,if_pos (by omega)]
    ·rw [if_neg bN]
     by_cases c2:j<k
     ·rw [if_pos c2,if_pos (by omega)]
     ·rw [if_neg c2,if_neg (by omega)])
  (fun _ _=>by
    unfold xQ
    refine d4 (by simp) ?_
    simp only
    congr 3
    exact fm fun j aC=>by rw [if_pos aC]) () trivial
 have e0:(a2 n fun j=>if j<0 then e5 (y j) else (⟨⟨false,[]⟩,[]⟩:c4))=List.replicate (((n:Nat):Int).toNat) ⟨⟨false,[]⟩,[]⟩:=by
  rw [Int.toNat_natCast,ow];exact fm fun j _=>by rw [if_neg (by omega)]
 rw [← e0];exact e
structure BV (m n:Nat) (a:Nat→Nat→Int) (b:Nat→Int) (c:Nat→Rat) (x:Nat→Rat) (w:Rat):Prop where
 l3:tk m n a b c x
 pos:0<w
 p7:dG (ky 100 m) w
 TO : ∀j,dG (ky 100 m) (x j*w)
 fit : ∀j,fO (x j)
theorem KO {m:Nat}(hm:m≤20):ky 100 m≤ea:=Fb▸AQ (by omega) hm
theorem KP {s:ck}{x:Nat→Rat}{w:Rat}{m:Nat}(hm:m≤20)(oZ:bA s≤16)(al:0<w)(hw:dG (ky 100 m) w)(aa:∀j,dG (ky 100 m) (x j*w)){c:Nat}(k:Nat)(aJ:c≤bA s):fO (gh s x c k):=by
 have o:=R2 aa k aJ
 have hq:=KO hm
 have J:c*ky 100 m≤16*ea:=Nat.mul_le_mul (by omega) hq
 have ak:16*ea≤40*(ea*100):=by omega
 exact Bv (K:=21*100*(ea*ea)) (hw.mono (Nat.le_trans hq Lp)) (o.mono (Nat.le_trans J (Nat.le_trans ak Lt))) (by grind) (by grind) (vN (Nat.le_refl _))
theorem Qu {α:Type}{T n:Nat}(f:Nat→α)(h:n≤T):(a2 T f).take n=a2 n f:=by
 apply List.ext_getElem?
 intro i
 by_cases c:i<n
 ·rw [List.getElem?_take,if_pos c,gO (by omega),gO c]
 ·rw [List.getElem?_take,if_neg c,List.getElem?_eq_none_iff.2 (by rw [cW];omega)]
theorem aae (s:ck)(v:lK s){p:nt}{m n:Nat}{a:Nat→Nat→Int}{b:Nat→Int}(h:oa p m n a b){c:Nat→Int}(oZ:p.jt=a2 n c)(aJ:∀j,j<n→ -100≤c j∧c j≤100)(a0:bA s≤n):
 (¬rR m n a b∧sY s p.kU p.j4 p.fX p.fY p.jt=some ([],[],false))∨(rR m n a b∧ ¬Bounded m n a b (jC n c)∧sY s p.kU p.j4 p.fX p.fY p.jt=some ([],[],false)) ∨
   ∃x w r,BV m n a b (jC n c) x w∧sY s p.kU p.j4 p.fX p.fY p.jt=some (a2 s.b5.length (fun k=>dt (gh s x (bA s) k)),r,true):=by
 have bn:=v.2.2.2
 have ad8:=qZ s
 obtain ⟨r,e,ap⟩:=Kf h oZ aJ
 rcases ap with ⟨q,rfl⟩|⟨q,bb,rfl⟩|⟨x,w,q,⟨hL,kq,oh⟩,b7,cC,rfl⟩
 ·exact .inl ⟨q,aB e (fc rfl rfl)⟩
 ·exact .inr (.inl ⟨q,bb,aB e (fc rfl rfl)⟩)
 ·have hC:len_ ek (gz s)=((bA s:Nat):Int):=gv ..
  have cc:=Ra s v b7 (fun c k aJ=>KP h.hm (by omega) hL kq oh k aJ)
  have key : ∃r,sY s p.kU p.j4 p.fX p.fY p.jt=some (a2 s.b5.length (fun k=>dt (gh s x (bA s) k)),r,true):=by
   refine ⟨((a2 n fun j=>dt (x j)).drop (bA s)).take (((a2 n fun j=>dt (x j)).map (c0 3 bh)).length-bA s),aB e (gk rfl (aB (x:=gz s) (yt s (by omega)) ?_))⟩
   rw [hC]
   simp only [Int.toNat_natCast]
   refine bL (by omega) (bL (by simp only [cW];omega) (aB ?_ (bL (by simp only [cW];omega) rfl)))
   simp only [List.drop_zero,Nat.sub_zero]
   rw [Qu _ a0]
   exact cc
  obtain ⟨r,ap⟩:=key
  exact .inr (.inr ⟨x,w,r,⟨q,hL,kq,oh,b7⟩,ap⟩)
theorem Xa {m n:Nat}{a:Nat→Nat→Int}{b:Nat→Int}:Bounded m n a b (jC n fun _=>0):=⟨0,fun y _=>by
 unfold val
 rw [mT fun j aC=> ?_]
 ·exact Rat.le_refl
 ·have:jC n (fun _=>0) j=0:=by unfold jC m2;simp only;split<;>rfl
  rw [this];grind⟩
theorem aaf (s:ck)(v:lK s){l:List Int}(ok:yh s l=some true)(aL:l.length=2*s.cE.length)(aY:∀x∈l,-100≤x∧x≤100):
 (¬rR (2*dC s) (bA s) (mz s) (mA s l)∧xY s l=some ([],false)) ∨
   ∃x w,BV (2*dC s) (bA s) (mz s) (mA s l) (jC (bA s) fun _=>0) x w∧xY s l=some (a2 s.b5.length (fun k=>e5 (gh s x (bA s) k)),true):=by
 have bn:=v.2.2.2
 have oZ:=qZ s
 have al:=aa3 s v l aY
 unfold xY
 rcases aae s v al (c:=fun _=>0) rfl (fun j _=>by omega) (Nat.le_refl _) with ⟨q,e⟩|⟨q,bb,e⟩|⟨x,w,r,q,e⟩
 ·exact .inl ⟨q,aB ok (fc rfl (aB (PU s v l aL aY) (aB e (gk rfl rfl))))⟩
 ·exact (bb Xa).elim
 ·refine .inr ⟨x,w,q,aB ok (fc rfl (aB (PU s v l aL aY) (aB e (fc rfl (aB (Em (by omega) fun k _=>KP al.hm (by omega) q.pos q.p7 q.TO k (Nat.le_refl _)) rfl)))))⟩
theorem Xu {wY:Nat}{l:List Int}(h:tu wY l=true):l.length=2*wY∧ ∀x∈l,-100≤x∧x≤100:=by
 unfold tu at h
 rw [Bool.and_eq_true,decide_eq_true_eq,List.all_eq_true] at h
 exact ⟨h.1,fun x aa=>by have:=h.2 x aa;unfold sy at this;simpa using this⟩
def jP (s:ck)(cs:List (List Int))(r q:Nat):Int :=
 if q<bA s then (if r<2*dC s then mz s r q else 0) else if r<2*dC s then (cs.getD (q-bA s) []).getD (2*fV s (r / 2)+r % 2) 0 else 1
def rq (s:ck)(r:Nat):Int:=if r<2*dC s then 0 else 1
def cH (s:ck)(cs:List (List Int)):Nat:=bA s+cs.length
def fH (s:ck):Nat:=2*dC s+1
def k2 (s:ck)(cs:List (List Int)):nt:=⟨(fH s:Int),(cH s cs:Int),a2 (fH s*cH s cs) (fun x=>jP s cs (x / cH s cs) (x % cH s cs)),a2 (fH s) (rq s),a2 (cH s cs) fun _=>0⟩
theorem aa9 (s:ck)(cs:List (List Int)){r q:Nat}(h:q<bA s):jP s cs r q=p8 s r q:=by
 unfold jP p8
 rw [if_pos h]
 by_cases c:r<2*dC s
 ·rw [if_pos c,if_pos ⟨c,h⟩]
 ·rw [if_neg c,if_neg (fun d=>c d.1)]
def o0 (s:ck)(cs:List (List Int))(c i x:Nat):Int :=
 if x % cH s cs<bA s then p8 s (x / cH s cs) (x % cH s cs) else if x % cH s cs<bA s+c∨(x % cH s cs=bA s+c∧x / cH s cs<i) then jP s cs (x / cH s cs) (x % cH s cs) else 0
theorem aag (s:ck)(cs:List (List Int)):a2 (fH s*cH s cs) (o0 s cs 0 0)=a2 (fH s*cH s cs) fun x=>p8 s (x / cH s cs) (x % cH s cs):=fm fun x _=>by
 unfold o0
 by_cases c:x % cH s cs<bA s
 ·rw [if_pos c]
 ·rw [if_neg c,if_neg (fun h=>by rcases h with h|⟨_,h⟩;exact c (by omega);exact Nat.not_lt_zero _ h)]
  unfold p8
  rw [if_neg (fun h=>c h.2)]
theorem aba (s:ck)(cs:List (List Int))(fF:0<cH s cs):a2 (fH s*cH s cs) (o0 s cs cs.length 0)=a2 (fH s*cH s cs) fun x=>jP s cs (x / cH s cs) (x % cH s cs):=fm fun x _=>by
 have:=Nat.mod_lt x fF
 unfold o0
 by_cases c:x % cH s cs<bA s
 ·rw [if_pos c,aa9 s cs c]
 ·rw [if_neg c,if_pos (.inl (by unfold cH at this ⊢;omega))]
theorem aah (s:ck)(cs:List (List Int))(c:Nat):a2 (fH s*cH s cs) (o0 s cs c (fH s))=a2 (fH s*cH s cs) (o0 s cs (c+1) 0):=fm fun x aa=>by
 have ap:x / cH s cs<fH s:=Nat.div_lt_of_lt_mul (by rw [Nat.mul_comm];exact aa)
 unfold o0
 by_cases d:x % cH s cs<bA s
 ·rw [if_pos d,if_pos d]
 ·rw [if_neg d,if_neg d]
  by_cases e:x % cH s cs<bA s+c∨(x % cH s cs=bA s+c∧x / cH s cs<fH s)
  ·rw [if_pos e,if_pos (.inl (by omega))]
  ·rw [if_neg e,if_neg (fun h=>e (by
    rcases h with h|⟨_,h⟩
    ·by_cases g:x % cH s cs<bA s+c
     ·exact .inl g
     ·exact .inr ⟨by omega,ap⟩
    ·exact (Nat.not_lt_zero _ h).elim))]
theorem KQ (s:ck)(cs:List (List Int)){c i:Nat}(aJ:c<cs.length)(ai:i<fH s){v:Int}(a3:v=jP s cs i (bA s+c)):(a2 (fH s*cH s cs) (o0 s cs c i)).set (i*cH s cs+(bA s+c)) v=a2 (fH s*cH s cs) (o0 s cs c (i+1)):=by
 have dB:bA s+c<cH s cs:=by unfold cH;omega
 have J:(i*cH s cs+(bA s+c)) / cH s cs=i:=by rw [Nat.mul_comm,Nat.mul_add_div (by omega),Nat.div_eq_of_lt dB];rfl
 have ak:(i*cH s cs+(bA s+c)) % cH s cs=bA s+c:=by rw [Nat.mul_comm,Nat.mul_add_mod,Nat.mod_eq_of_lt dB]
 rw [kC]
 refine fm fun x _=> ?_
 by_cases e:x=i*cH s cs+(bA s+c)
 ·rw [if_pos e,e]
  unfold o0
  rw [J,ak,if_neg (by omega),if_pos (.inr ⟨rfl,by omega⟩),a3]
 ·rw [if_neg e]
  have cM : ¬(x / cH s cs=i∧x % cH s cs=bA s+c):=fun ⟨a,b⟩=>e (by rw [← Nat.div_add_mod x (cH s cs),a,b,Nat.mul_comm])
  unfold o0
  by_cases d:x % cH s cs<bA s
  ·rw [if_pos d,if_pos d]
  ·rw [if_neg d,if_neg d]
   by_cases g:x % cH s cs<bA s+c∨(x % cH s cs=bA s+c∧x / cH s cs<i)
   ·rw [if_pos g,if_pos (by omega)]
   ·rw [if_neg g,if_neg (fun h=>g (by omega))]
theorem Ku (M N:Nat){i:Nat}(ai:i<M)(dr:M≤1000)(fF:N≤1000)(row:List Int)(aL:row.length=M*N)(aR bb:List Int):s3 (i:Int) (M:Int) (N:Int) row aR bb=some (0+i*N,N):=by
 have o:i*N≤1000*1000:=Nat.mul_le_mul (by omega) fF
 have J:(i+1)*N≤1001*1000:=Nat.mul_le_mul (by omega) fF
 have ak:(i+1)*N≤M*N:=Nat.mul_le_mul_right _ ai
 have ay:(i+1)*N=i*N+N:=Nat.succ_mul i N
 have az:U ((i:Int)*(N:Int))=((i*N:Nat):Int):=by rw [← Int.natCast_mul,cX (by omega) (by omega)]
 have aH:U (U ((i:Int)+1)*(N:Int))=(((i+1)*N:Nat):Int):=by rw [f5 (by omega),← Int.natCast_mul,cX (by omega) (by omega)]
 unfold s3
 rw [az,aH,Int.toNat_natCast,Int.toNat_natCast,aL]
 refine bL (by omega) (bL (by omega) (bL (by omega) ?_))
 rw [show (i+1)*N-i*N=N by omega]
theorem R3 (s:ck)(bu:s.cE.length≤6):fH s≤13:=by
 have:=tv s
 unfold fH;omega
theorem Rb (s:ck){cs:List (List Int)}{c n eu:Nat}{l:List Int}(aL:cs[c]? = some l)(a0:n<dC s)(F2:eu<2){v:Int}(a3:l[2*fV s n+eu]? = some v):jP s cs (2*n+eu) (bA s+c)=v:=by
 unfold jP
 rw [if_neg (by omega),if_pos (by omega),show bA s+c-bA s=c by omega,show (2*n+eu) / 2=n by omega,show (2*n+eu) % 2=eu by omega,List.getD_eq_getElem?_getD,List.getD_eq_getElem?_getD,aL]
 simp only [Option.getD_some]
 rw [a3];rfl
theorem X3 (s:ck)(bu:s.cE.length≤6)(bn:s.b5.length≤8)(cs:List (List Int))(hcs:cs.length≤6){c:Nat}(aJ:c<cs.length){l:List Int}(aL:cs[c]? = some l)(agH:l.length=2*s.cE.length)(aR bb:List Int)(nM:List (List Int))(se:Int):
 CU s.cE s.b5 (bA s:Int) (c:Int) l nM se (a2 (dC s) fun q=>((fV s q:Nat):Int)) ((dC s:Nat):Int) (fH s:Int) (cH s cs:Int) aR bb 0 (a2 (fH s*cH s cs) (o0 s cs c 0))=some (a2 (fH s*cH s cs) (o0 s cs c (2*dC s))):=by
 have tW:=tv s
 have oZ:=qZ s
 have dr:=R3 s bu
 have fF:cH s cs≤22:=by unfold cH;omega
 have dB:bA s+c<cH s cs:=by unfold cH;omega
 have Tz:fH s*cH s cs≤13*22:=Nat.mul_le_mul dr fF
 have MZ:U ((bA s:Int)+(c:Int))=((bA s+c:Nat):Int):=by rw [cX (by omega) (by omega)];omega
 unfold CU
 obtain ⟨_,e,-⟩:=iv (f:=fun w:Int×List Int=>w4 s.cE s.b5 (bA s:Int) (c:Int) l nM se (a2 (dC s) fun q=>((fV s q:Nat):Int)) ((dC s:Nat):Int) (fH s:Int) (cH s cs:Int) aR bb w.1 w.2)
  (fun (n:Nat) (_:Unit)=>((n:Int),a2 (fH s*cH s cs) (o0 s cs c (2*n)))) (dC s) (fun _ _=>True) (fun _=>a2 (fH s*cH s cs) (o0 s cs c (2*dC s)))
  (fun n a0 _ _=>by
    refine ⟨(),?_,trivial⟩
    have cc:=E1 s a0
    have kq : ∀a:Nat,a≤1000→U ((2:Int)*((a:Nat):Int))=((2*a:Nat):Int):=fun a bH=>by rw [cX (by omega) (by omega)];omega
    have g1:=List.getElem?_eq_getElem (show 2*fV s n<l.length by omega)
    have g2:=List.getElem?_eq_getElem (show 2*fV s n+1<l.length by omega)
    have gA:(2*n+1)*cH s cs≤fH s*cH s cs:=Nat.mul_le_mul_right _ (by unfold fH;omega)
    have ho:(2*n+1+1)*cH s cs≤fH s*cH s cs:=Nat.mul_le_mul_right _ (by unfold fH;omega)
    have kO:(2*n+1)*cH s cs=2*n*cH s cs+cH s cs:=Nat.succ_mul _ _
    have rr:(2*n+1+1)*cH s cs=(2*n+1)*cH s cs+cH s cs:=Nat.succ_mul _ _
    simp only
    unfold w4
    rw [MZ,kq n (by omega),f5 (n:=2*n) (by omega),f5 (n:=n) (by omega)]
    refine ed (by omega) (bL (by rw [cW];omega) (aB (gt rfl (gO a0)) (aB (Ku (fH s) (cH s cs) (i:=2*n) (by unfold fH;omega) (by omega) (by omega) _ (cW ..) aR bb) ?_)))
    rw [kq (fV s n) (by omega),f5 (n:=2*fV s n) (by omega)]
    refine bL (by omega) (aB (gt rfl g1) (bL (by simp only;omega) (bL (by rw [cW,Int.toNat_natCast];simp only;omega) ?_)))
    simp only
    have hU:l[2*fV s n]=jP s cs (2*n) (bA s+c):=(Rb s aL a0 (eu:=0) (by omega) g1).symm
    rw [Int.toNat_natCast,Nat.zero_add,KQ s cs aJ (by unfold fH;omega) hU]
    refine aB (Ku (fH s) (cH s cs) (i:=2*n+1) (by unfold fH;omega) (by omega) (by omega) _ (cW ..) aR bb) (bL (by omega) (aB (gt rfl g2) (bL (by simp only;omega) (bL (by rw [cW];simp only;omega) ?_))))
    simp only
    rw [Nat.zero_add,KQ s cs aJ (by unfold fH;omega) (Rb s aL a0 (eu:=1) (by omega) g2).symm,show 2*(n+1)=2*n+1+1 by omega])
  (fun _ _=>by simp only;unfold w4;exact d4 (by omega) rfl) () trivial
 exact e
theorem Wz (s:ck)(h:lK s)(cs:List (List Int))(o:1≤cs.length)(hcs:cs.length≤6)(aY:∀l∈cs,tu s.cE.length l=true):
 xd s cs=some ((fH s:Int),(cH s cs:Int),a2 (fH s*cH s cs) (fun x=>jP s cs (x / cH s cs) (x % cH s cs)),a2 (fH s) (rq s),a2 (cH s cs) fun _=>0):=by
 obtain ⟨-,-,bu,bn⟩:=id h
 have tW:=tv s
 have oZ:=qZ s
 have dr:=R3 s bu
 have fF:cH s cs≤22:=by unfold cH;omega
 have Tz:fH s*cH s cs≤13*22:=Nat.mul_le_mul dr fF
 have M0:U ((2:Int)*(len_ dz s.cE))=((2*s.cE.length:Nat):Int):=by rw [gv,cX (by omega) (by omega)];omega
 have f0:=PT s h (a2 (2*s.cE.length) fun _=>(0:Int)) (cW ..) (fun x aa=>by obtain ⟨i,-,rfl⟩:=QU.1 aa;omega) cs.length 1 (by omega) (by omega)
 unfold xd
 refine aB (x:=gz s) (yt s (by omega)) ?_
 rw [M0,Int.toNat_natCast,ow]
 refine bL (by omega) (aB (by rw [gv];exact f0) ?_)
 simp only
 have b2:CV s.cE s.b5 (len_ ek (gz s)) cs (len_ (dL 1 I) cs) (fH s:Int) (cH s cs:Int) (a2 (2*dC s+1) (mc s (a2 (2*s.cE.length) fun _=>0))) (a2 (bA s+cs.length) fun _=>0) 0 (a2 (fH s*cH s cs) fun x=>p8 s (x / cH s cs) (x % cH s cs))=some (a2 (fH s*cH s cs) (fun x=>jP s cs (x / cH s cs) (x % cH s cs))):=by
  unfold CV
  rw [gv,gv]
  obtain ⟨_,e,-⟩:=iv (f:=fun w:Int×List Int=>w5 s.cE s.b5 (((gz s).length:Nat):Int) cs (cs.length:Nat) (fH s:Int) (cH s cs:Int) (a2 (2*dC s+1) (mc s (a2 (2*s.cE.length) fun _=>0))) (a2 (bA s+cs.length) fun _=>0) w.1 w.2)
   (fun (c:Nat) (_:Unit)=>((c:Int),a2 (fH s*cH s cs) (o0 s cs c 0))) cs.length (fun _ _=>True) (fun _=>a2 (fH s*cH s cs) (fun x=>jP s cs (x / cH s cs) (x % cH s cs)))
   (fun c aJ _ _=>by
     refine ⟨(),?_,trivial⟩
     have dN:=List.getElem?_eq_getElem aJ
     obtain ⟨aL,-⟩:=Xu (aY _ (List.getElem_mem aJ))
     have dB:bA s+c<cH s cs:=by unfold cH;omega
     have MZ:U ((((gz s).length:Nat):Int)+(c:Int))=((bA s+c:Nat):Int):=by
      show U ((bA s:Int)+(c:Int))=_
      rw [cX (by omega) (by omega)];omega
     have M1:U ((fH s:Int)-1)=((2*dC s:Nat):Int):=by unfold fH;rw [cX (by omega) (by omega)];omega
     have kO:fH s*cH s cs=2*dC s*cH s cs+cH s cs:=Nat.succ_mul _ _
     simp only
     unfold w5
     rw [MZ,M1,f5 (n:=c) (by omega)]
     refine ed (by omega) (bL (by omega) (aB (gt rfl dN) (aB (DU s (by omega)) ?_)))
     rw [EA,gP,cW]
     refine aB (X3 s bu bn cs hcs aJ dN aL _ _ _ _) (aB (Ku (fH s) (cH s cs) (i:=2*dC s) (by unfold fH;omega) (by omega) (by omega) _ (cW ..) _ _) (bL (by simp only;omega) (bL (by rw [cW,Int.toNat_natCast];simp only;omega) ?_)))
     simp only
     rw [Int.toNat_natCast,Nat.zero_add,KQ s cs aJ (by unfold fH;omega) (by unfold jP;rw [if_neg (by omega),if_neg (by omega)]),show 2*dC s+1=fH s from rfl,aah])
   (fun _ _=>by
     simp only
     unfold w5
     refine d4 (by omega) ?_
     rw [aba s cs (by unfold cH;omega)]) () trivial
  rw [aag] at e
  exact e
 refine aB b2 ?_
 have M1:U (((2*dC s+1:Nat):Int)-1)=((2*dC s:Nat):Int):=by rw [cX (by omega) (by omega)];omega
 rw [M1,cW,Int.toNat_natCast,Nat.zero_add,kC]
 refine bL (by omega) (bL (by omega) ?_)
 congr 5
 refine fm fun r ap=> ?_
 unfold rq mc mA
 by_cases c:r=2*dC s
 ·rw [if_pos c,if_neg (by omega)]
 ·have g9:r<2*dC s:=by unfold fH at ap;omega
  have cc:=E1 s (show r / 2<dC s by omega)
  rw [if_neg c,if_pos g9,if_pos g9,List.getD_eq_getElem?_getD,gO (by omega)];rfl
theorem RG (x:Int):0≤U (((BitVec.ofInt (IntKind.bits .i64) x &&& BitVec.ofInt (IntKind.bits .i64) (255:Int)).toNat:Int))∧U (((BitVec.ofInt (IntKind.bits .i64) x &&& BitVec.ofInt (IntKind.bits .i64) (255:Int)).toNat:Int))≤255:=by
 have h:(BitVec.ofInt (IntKind.bits .i64) x &&& BitVec.ofInt (IntKind.bits .i64) (255:Int)).toNat≤255:=by
  rw [BitVec.toNat_and]
  exact Nat.le_trans Nat.and_le_right (Nat.le_of_eq (by decide))
 rw [cX (by omega) (by omega)]
 omega
theorem EO (c:List Int)(aJ:c.length≤1048576)(i h:Int)(ai:0≤i): ∃b e8 cw,qI c i h=some (b,e8,cw)∧(0≤b∧b≤255)∧0≤e8:=by
 unfold qI
 by_cases e:i<c.length
 ·have aa:=List.getElem?_eq_getElem (show i.toNat<c.length by omega)
  exact ⟨_,_,_,ed (by show i<((c.map eU8).length:Nat);rw [List.length_map];exact e) (bL ⟨ai,e⟩ (aB aa rfl)),RG _,by rw [cX (by omega) (by omega)];omega⟩
 ·exact ⟨_,_,_,d4 (by show ¬i<((c.map eU8).length:Nat);rw [List.length_map];exact e) rfl,RG _,ai⟩
theorem mj (n:Int)(o:1≤n)(J:n≤256)(c:List Int)(aJ:c.length≤1048576)(i h:Int)(ai:0≤i): ∃b e8 cw,kP n c i h=some (b,e8,cw)∧(0≤b∧b<n)∧0≤e8:=by
 obtain ⟨b,e8,cw,e,aY,jn⟩:=EO c aJ i h ai
 unfold kP
 refine ⟨b.tmod n,e8,cw,d4 (by omega) (ed J (aB e (bL (by omega) rfl))),?_,jn⟩
 rw [Int.tmod_eq_emod_of_nonneg aY.1]
 exact ⟨Int.emod_nonneg _ (by omega),Int.emod_lt_of_pos _ (by omega)⟩
theorem Kv (n:Int)(o:1≤n)(J:n≤256)(c:List Int)(aJ:c.length≤1048576)(i h:Int)(ai:0≤i): ∃b e8 cw,x5 n c i h=some (b,e8,cw)∧0≤e8:=by
 obtain ⟨b,e8,cw,e,-,jn⟩:=mj n o J c aJ i h ai
 exact ⟨b == 0,e8,cw,aB e rfl,jn⟩
theorem Kw (l:List Int)(o:1≤l.length)(J:l.length≤256)(c:List Int)(aJ:c.length≤1048576)(i h:Int)(ai:0≤i): ∃b e8 cw,x6 l c i h=some (b,e8,cw)∧b∈l∧0≤e8:=by
 obtain ⟨b,e8,cw,e,aY,jn⟩:=mj (len_ I l) (by rw [gv];omega) (by rw [gv];omega) c aJ i h ai
 rw [gv] at aY
 have aa:=List.getElem?_eq_getElem (show b.toNat<l.length by omega)
 exact ⟨_,e8,cw,aB e (bL (by simp only;omega) (aB aa rfl)),List.getElem_mem _,jn⟩
theorem RH (c:List Int)(aJ:c.length≤1048576): ∃h,Ai c=some h:=by
 obtain ⟨r,e,-⟩:=te (f:=fun w:Int×Int=>xw c w.1 w.2) (fun (n:Nat) (s:Int)=>(s,(n:Int))) c.length (fun _ _=>True) (fun _=>True)
  (fun n a0 s _=>by
    have aa:=List.getElem?_eq_getElem a0
    simp only
    unfold xw
    have aL:(n:Int)<len_ eU8 c:=by rw [gv];omega
    by_cases d:(n:Int)<4000
    ·exact .inl ⟨_,ed aL (ed d (bL (by omega) (aB (gt rfl aa) (by rw [kA (by omega)])))),trivial⟩
    ·exact .inr ⟨_,ed aL (d4 d rfl),trivial⟩)
  (fun s _=>⟨_,by simp only;unfold xw;exact d4 (by rw [gv];omega) rfl,trivial⟩) (U ((1975:Int)+len_ eU8 c)) trivial
 exact ⟨r,aB e rfl⟩
theorem Qv (c:List Int)(aJ:c.length≤1048576)(n:Nat)(a0:n≤1000): ∃i h,Ak c (n:Int)=some (i,h)∧0≤i:=by
 obtain ⟨h0,e0⟩:=RH c aJ
 obtain ⟨⟨i,h⟩,e,ai⟩:=iv (f:=fun w:Int×Int×Int=>xy (n:Int) c w.1 w.2.1 w.2.2) (fun (k:Nat) (s:Int×Int)=>((k:Int),s.1,s.2)) n (fun _ s=>0≤s.1) (fun s=>s)
  (fun k aX s b4=>by
    obtain ⟨b,e8,cw,e,-,jn⟩:=EO c aJ s.1 s.2 b4
    refine ⟨(e8,cw),?_,jn⟩
    simp only
    unfold xy
    exact ed (by omega) (aB e (by rw [kA (by omega)])))
  (fun s _=>by simp only;unfold xy;exact d4 (by omega) rfl) (0,h0) (by simp)
 exact ⟨i,h,aB e0 (aB e rfl),ai⟩
theorem X4 (c:List Int)(aJ:c.length≤1048576)(n:Nat)(a0:n≤1000): ∃r,DY c (n:Int)=some r∧0≤r:=by
 obtain ⟨i,h,e,ai⟩:=Qv c aJ n a0
 obtain ⟨gA,ad9,uE,az,rY,pU⟩:=EO c aJ i h ai
 obtain ⟨ho,agI,FC,aH,zo,pV⟩:=EO c aJ ad9 uE pU
 refine ⟨_,aB e (aB az (aB aH rfl)),?_⟩
 rw [cX (x:=gA*256) (by omega) (by omega),cX (by omega) (by omega)];omega
theorem abb (s:ck)(v:lK s)(a0:∀(n:Nat) j,s.cE[n]? = some j→vi j.pL=some true)(bo:∀(i k:Nat) x y,s.cE[i]? = some x→s.cE[k]? = some y→i≠k→(x.pL.toList == y.pL.toList)=false):qH s=some true:=by
 obtain ⟨f1,f2,f3,f4⟩:=v
 have Mo:Dg s.cE (len_ dz s.cE) s.b5 0=some (.inl ()):=by
  unfold Dg
  rw [gv]
  obtain ⟨_,e,-⟩:=iv (f:=fun w:Int=>xr s.cE (s.cE.length:Nat) s.b5 w) (fun (i:Nat) (_:Unit)=>(i:Int)) s.cE.length (fun _ _=>True) (fun _=>(Sum.inl ():Unit⊕Unit))
   (fun i ai _ _=>by
     refine ⟨(),?_,trivial⟩
     have aa:=List.getElem?_eq_getElem ai
     obtain ⟨gA,ho,kO,rr⟩:=f1 i _ aa
     have aC:An s.cE[i]=some true:=by
      unfold An
      have p : ∀n:Int,-50≤n→n≤50→yd n=some true:=fun n o J=>by
       unfold yd
       exact ed o (by rw [decide_eq_true J])
      exact aB (a0 i _ aa) (fc rfl (aB (p _ gA ho) (fc rfl (aB (p _ kO rr) rfl))))
     have aX:Ae ⟨s.cE,s.b5⟩ s.cE[i].pL=some (i:Int):=by
      unfold Ae C0 GI
      obtain ⟨r,e,rfl⟩:=te (f:=fun w:Int=>zT s.cE s.cE[i].pL (s.cE.length:Nat) w) (fun (k:Nat) (_:Unit)=>(k:Int)) s.cE.length (fun k _=>k≤i) (fun r=>r=(Sum.inr (i:Int):Unit⊕Int))
       (fun k aX _ agJ=>by
         have aP:=List.getElem?_eq_getElem aX
         unfold zT Ds
         by_cases c:k=i
         ·subst c
          exact .inr ⟨_,ed (by omega) (bL (by omega) (aB (gt rfl aP) (aB rfl (fc (by simp) rfl)))),rfl⟩
         ·exact .inl ⟨(),ed (by omega) (bL (by omega) (aB (gt rfl aP) (aB rfl (gk (bo k i _ _ aP aa c) (by rw [f5 (by omega)]))))),by omega⟩)
       (fun _ h=>by omega) () (Nat.zero_le _)
      rw [gv]
      exact aB (x:=(i:Int)) (aB e rfl) rfl
     unfold xr
     exact ed (by omega) (bL (by omega) (aB (gt rfl aa) (aB aC (fc rfl (aB aX (gk (sL rfl) (by rw [f5 (by omega)]))))))))
   (fun _ _=>by unfold xr;exact d4 (by omega) rfl) () trivial
  exact e
 have q1 : ∀m∈s.b5,qP s.cE m=true:=fun m hm=>by
  obtain ⟨n,a0⟩:=List.getElem?_of_mem hm
  exact f2 n m a0
 have bi:zU s.b5 s=some false:=by
  unfold zU CW GF
  rw [gv]
  obtain ⟨x,e,-⟩:=iv (f:=fun w:Int=>w0 s.b5 s.cE s.b5 (s.b5.length:Nat) w) (fun (i:Nat) (_:Unit)=>(i:Int)) s.b5.length (fun _ _=>True) (fun _=>(Sum.inl ():Unit⊕Int))
   (fun i ai _ _=>by
     refine ⟨(),?_,trivial⟩
     have aa:=List.getElem?_eq_getElem ai
     have aY:=q1 s.b5[i] (List.getElem_mem ai)
     unfold w0 Dm
     refine ed (by omega) (bL (by omega) (aB (gt rfl aa) (aB (x:=false) (aB (Xr _ _) (by simp [aY])) (gk rfl (by rw [f5 (by omega)]))))))
   (fun _ _=>by unfold w0;exact d4 (by omega) rfl) () trivial
  exact aB (x:=(-1:Int)) (aB e rfl) rfl
 unfold qH
 exact d4 (by rw [gv];omega) (d4 (by rw [gv];omega) (aB Mo (aB bi rfl)))
end Go.Proofs.YtgfpnhmcmgnepaeGreat
namespace Go.Proofs.YtgfpnhmcmgnepaeGreat
set_option linter.unusedVariables false
set_option linter.unusedSimpArgs false
open Go Go.VL
def qC:List ByteArray:=[⟨#[97]⟩,⟨#[98]⟩,⟨#[99]⟩,⟨#[100]⟩]
theorem YH {k:Nat}{x:ByteArray}(h:qC[k]? = some x):vi x=some true:=by
 have key : ∀u:UInt8,97≤u.toNat→u.toNat≤122→vi ⟨#[u]⟩=some true:=fun u o J=>by
  unfold vi Jb
  obtain ⟨_,e,-⟩:=iv (f:=fun w:Int=>xN ⟨#[u]⟩ (((⟨#[u]⟩:ByteArray).size:Nat):Int) w) (fun (i:Nat) (_:Unit)=>(i:Int)) 1 (fun _ _=>True) (fun _=>(Sum.inl ():Unit⊕Unit))
   (fun i ai _ _=>by
     obtain rfl:i=0:=by omega
     refine ⟨(),?_,trivial⟩
     unfold xN
     have b4:(((⟨#[u]⟩:ByteArray).size:Nat):Int)=1:=rfl
     rw [b4]
     refine ed (by omega) (bL (by omega) (aB (x:=true) ?_ (fc rfl rfl)))
     unfold DQ
     have dN:((⟨#[u]⟩:ByteArray).data.toList.getD (((0:Nat):Int)).toNat 0)=u:=rfl
     rw [dN]
     exact ed (by omega) (by rw [decide_eq_true (by omega)]))
   (fun _ _=>by unfold xN;exact d4 (by show ¬(1:Int)<1;omega) rfl) () trivial
  refine aB e ?_
  simp only
  have cM:((⟨#[u]⟩:ByteArray).toList == (⟨#[]⟩:ByteArray).toList)=false:=by
   simp [ByteArray.toList,ByteArray.toList.loop,ByteArray.size]
  rw [cM];rfl
 match k,h with
 | 0,h=>obtain rfl:=Option.some.inj h;exact key 97 (by decide) (by decide)
 | 1,h=>obtain rfl:=Option.some.inj h;exact key 98 (by decide) (by decide)
 | 2,h=>obtain rfl:=Option.some.inj h;exact key 99 (by decide) (by decide)
 | 3,h=>obtain rfl:=Option.some.inj h;exact key 100 (by decide) (by decide)
 | k+4,h=>simp [qC] at h
theorem abG {i k:Nat}{x y:ByteArray}(h:qC[i]? = some x)(cw:qC[k]? = some y)(cM:i≠k):(x.toList == y.toList)=false:=by
 have ai:=f9 h
 have aX:=f9 cw
 have key : ∀i k:Fin 4,i≠k→((qC[i.1]!).toList == (qC[k.1]!).toList)=false:=by decide +kernel
 have az:qC[i]! = x:=by simp [h]
 have aH:qC[k]! = y:=by simp [cw]
 have:=key ⟨i,by simpa [qC] using ai⟩ ⟨k,by simpa [qC] using aX⟩ (fun e=>cM (by simpa using congrArg Fin.val e))
 rw [az,aH] at this
 exact this
structure r7 (s:ck):Prop where
 v:lK s
 ok:qH s=some true
 M2:3≤s.cE.length
 gC:2≤s.b5.length
 agY:s.cE.map (·.pL)=qC.take s.cE.length
theorem KR (s:ck)(aC:∀j∈s.cE,-50≤j.mO∧j.mO≤50∧ -50≤j.mP∧j.mP≤50)(hm:∀m∈s.b5,qP s.cE m=true)(bu:s.cE.length≤4)(bn:s.b5.length≤8)(a0:s.cE.map (·.pL)=qC.take s.cE.length)(M2:3≤s.cE.length)(gC:2≤s.b5.length):r7 s:=by
 have v:lK s:=⟨fun n j h=>aC j (List.mem_of_getElem? h),fun n m h=>hm m (List.mem_of_getElem? h),by omega,bn⟩
 have name : ∀(n:Nat) j,s.cE[n]? = some j→qC[n]? = some j.pL:=fun n j h=>by
  have aL:=f9 h
  have e:(s.cE.map (·.pL))[n]? = some j.pL:=by rw [List.getElem?_map,h];rfl
  rw [a0,List.getElem?_take,if_pos aL] at e
  exact e
 exact ⟨v,abb s v (fun n j h=>YH (name n j h)) (fun i k x y aa aP cM=>abG (name i x aa) (name k y aP) cM),M2,gC,a0⟩
theorem abc (c:List Int)(aJ:c.length≤1048576)(i h:Int)(ai:0≤i): ∃gb fT e8 cw,Aj c i h=some (gb,fT,e8,cw)∧r7 ⟨gb,fT⟩∧0≤e8:=by
 unfold Aj
 obtain ⟨gA,kA,o,az,rY,pU⟩:=mj 3 (by omega) (by omega) c aJ i h ai
 obtain ⟨ho,lo,J,aH,zo,pV⟩:=mj 3 (by omega) (by omega) c aJ kA o pU
 obtain ⟨kO,wN,ak,b2,aea,zu⟩:=mj 2 (by omega) (by omega) c aJ lo J pV
 obtain ⟨rr,tS,ay,dn,aeb,My⟩:=mj 3 (by omega) (by omega) c aJ wN ak zu
 obtain ⟨sf,CP,aI,ej,aec,Mz⟩:=mj 2 (by omega) (by omega) c aJ tS ay My
 obtain ⟨sg,M3,bu,fq,aed,MA⟩:=mj 3 (by omega) (by omega) c aJ CP aI Mz
 obtain ⟨uX,M4,bx,fr,MB,MC⟩:=Kw [1,2,3] (by simp) (by simp) c aJ M3 bu MA
 obtain ⟨M5,i8,bn,hB,aee,F3⟩:=mj 3 (by omega) (by omega) c aJ M4 bx MC
 have hL:U ((-1:Int)-rr) = -1-rr:=cX (by omega) (by omega)
 have kq:U ((3:Int)+sf)=3+sf:=cX (by omega) (by omega)
 have oh:U ((-1:Int)-sg) = -1-sg:=cX (by omega) (by omega)
 have aef:1≤uX∧uX≤3:=by simp at MB;omega
 obtain ⟨gb,kX⟩ : ∃gb:List br,gb=([(⟨(⟨#[97]⟩:ByteArray),(-2),gA,true⟩:br),(⟨(⟨#[98]⟩:ByteArray),6,ho,true⟩:br),(⟨(⟨#[99]⟩:ByteArray),kO,-1-rr,false⟩:br),(⟨(⟨#[100]⟩:ByteArray),3+sf,-1-sg,false⟩:br)]:List br):=⟨_,rfl⟩
 have g0:gb[0]? = some ⟨⟨#[97]⟩,-2,gA,true⟩:=by rw [kX];rfl
 have g1:gb[1]? = some ⟨⟨#[98]⟩,6,ho,true⟩:=by rw [kX];rfl
 have g2:gb[2]? = some ⟨⟨#[99]⟩,kO,-1-rr,false⟩:=by rw [kX];rfl
 have g3:gb[3]? = some ⟨⟨#[100]⟩,3+sf,-1-sg,false⟩:=by rw [kX];rfl
 have aL:gb.length=4:=by rw [kX];rfl
 have Gm : ∀a b k:Int,(a=0∨a=1∨a=2∨a=3)→(b=2∨b=3∨b=1)→(b=1→a=3)→(a=2→b=3)→(a=3→b=1)→1≤k→k≤3→qP gb ⟨a,b,k⟩=true:=fun a b k bH aY r4 hy ir agK SS=>by
  unfold qP
  simp only
  rw [aL,decide_eq_true (by omega),Bool.true_and]
  rcases bH with rfl|rfl|rfl|rfl
  ·rcases aY with rfl|rfl|rfl
   ·rw [show (0:Int).toNat=0 from rfl,show (2:Int).toNat=2 from rfl,g0,g2];simp;omega
   ·rw [show (0:Int).toNat=0 from rfl,show (3:Int).toNat=3 from rfl,g0,g3];simp;omega
   ·exact absurd (r4 rfl) (by omega)
  ·rcases aY with rfl|rfl|rfl
   ·rw [show (1:Int).toNat=1 from rfl,show (2:Int).toNat=2 from rfl,g1,g2];simp;omega
   ·rw [show (1:Int).toNat=1 from rfl,show (3:Int).toNat=3 from rfl,g1,g3];simp;omega
   ·exact absurd (r4 rfl) (by omega)
  ·obtain rfl:=hy rfl
   rw [show (2:Int).toNat=2 from rfl,show (3:Int).toNat=3 from rfl,g2,g3];simp;omega
  ·obtain rfl:=ir rfl
   rw [show (3:Int).toNat=3 from rfl,show (1:Int).toNat=1 from rfl,g3,g1];simp;omega
 obtain ⟨⟨n,j,fT⟩,e,aa⟩:=kB (f:=fun w:Int×Int×Int×(List bP)=>xx c gb w.1 w.2.1 w.2.2.1 w.2.2.2) (fun w=>0≤w.1∧0≤w.2.1∧w.2.2.2.length+w.1.toNat≤8∧2≤w.2.2.2.length∧ ∀m∈w.2.2.2,qP gb m=true) (fun w=>w.1.toNat) (fun r=>0≤r.1∧r.2.2.length≤8∧2≤r.2.2.length∧ ∀m∈r.2.2,qP gb m=true)
  (fun w hw=>by
    obtain ⟨n,j,g,fT⟩:=w
    obtain ⟨hi,iu,bK,f7,nK⟩:=hw
    simp only at hi iu bK f7 nK
    by_cases d:0<n
    ·obtain ⟨fz,eM,nM,ha,aR,aq⟩:=mj 2 (by omega) (by omega) c aJ j g iu
     obtain ⟨fk,dM,se,h9,bb,bE⟩:=mj 2 (by omega) (by omega) c aJ eM nM aq
     obtain ⟨aQ,mf,Gl,oW,b7,a9⟩:=mj 3 (by omega) (by omega) c aJ dM se bE
     have v1:U ((2:Int)+fk)=2+fk:=cX (by omega) (by omega)
     have v2:U ((1:Int)+aQ)=1+aQ:=cX (by omega) (by omega)
     refine .inl ⟨(n-1,mf,Gl,fT++[⟨fz,2+fk,1+aQ⟩]),?_,⟨by simp only;omega,a9,by simp only [List.length_append,List.length_singleton];omega,by simp only [List.length_append,List.length_singleton];omega,fun m hm=> ?_⟩,by simp only;omega⟩
     ·simp only
      unfold xx
      refine ed d (aB ha (aB h9 (aB oW ?_)))
      simp only
      rw [v1,v2,cX (x:=n-1) (by omega) (by omega)]
      exact bL (by simp only [List.length_append,List.length_singleton];omega) rfl
     ·simp only [List.mem_append,List.mem_singleton] at hm
      rcases hm with hm|rfl
      ·exact nK m hm
      ·exact Gm _ _ _ (by omega) (by omega) (by omega) (by omega) (by omega) (by omega) (by omega)
    ·refine .inr ⟨(j,g,fT),by simp only;unfold xx;exact d4 d rfl,iu,by simp only;omega,f7,nK⟩)
  (M5,i8,bn,[⟨0,2,1⟩,⟨2,3,uX⟩,⟨3,1,1⟩]) ⟨aee.1,F3,by simp;omega,by simp,fun m hm=>by
    simp at hm
    rcases hm with rfl|rfl|rfl
    ·exact Gm _ _ _ (by omega) (by omega) (by omega) (by omega) (by omega) (by omega) (by omega)
    ·exact Gm _ _ _ (by omega) (by omega) (by omega) (by omega) (by omega) (by omega) (by omega)
    ·exact Gm _ _ _ (by omega) (by omega) (by omega) (by omega) (by omega) (by omega) (by omega)⟩
 obtain ⟨aR,bb,b7,cC⟩:=aa
 refine ⟨gb,fT,n,j,aB az (aB aH (aB b2 (aB dn (aB ej (aB fq (aB fr (aB hB ?_))))))),KR _ (fun j aC=> ?_) cC (by simp only;omega) bb ?_ (by simp only;omega) b7,aR⟩
 ·simp only
  rw [hL,kq,oh,← kX]
  exact aB (x:=(n,j,fT)) e rfl
 ·rw [kX] at aC
  simp at aC
  rcases aC with rfl|rfl|rfl|rfl<;>simp<;>omega
 ·simp only
  rw [aL,kX];rfl
theorem aai (c:List Int)(aJ:c.length≤1048576)(i h:Int)(ai:0≤i): ∃gb fT e8 cw,Ag c i h=some (gb,fT,e8,cw)∧r7 ⟨gb,fT⟩∧0≤e8:=by
 unfold Ag
 obtain ⟨gA,kA,o,az,rY,pU⟩:=mj 4 (by omega) (by omega) c aJ i h ai
 obtain ⟨ho,lo,J,aH,zo,pV⟩:=mj 3 (by omega) (by omega) c aJ kA o pU
 obtain ⟨kO,wN,ak,b2,aea,zu⟩:=mj 4 (by omega) (by omega) c aJ lo J pV
 obtain ⟨rr,tS,ay,dn,aeb,My⟩:=mj 3 (by omega) (by omega) c aJ wN ak zu
 obtain ⟨sf,CP,aI,ej,aec,Mz⟩:=mj 4 (by omega) (by omega) c aJ tS ay My
 obtain ⟨sg,M3,bu,fq,aed,MA⟩:=mj 4 (by omega) (by omega) c aJ CP aI Mz
 obtain ⟨uX,M4,bx,fr,MB,MC⟩:=Kw [1,1,1,3] (by simp) (by simp) c aJ M3 bu MA
 obtain ⟨M5,i8,bn,hB,F3⟩:=Kv 2 (by omega) (by omega) c aJ M4 bx MC
 have hL:U ((-1:Int)-gA) = -1-gA:=cX (by omega) (by omega)
 have kq:U ((3:Int)+kO)=3+kO:=cX (by omega) (by omega)
 have oh:U (sf-(1:Int))=sf-1:=cX (by omega) (by omega)
 have TP:U ((-1:Int)-sg) = -1-sg:=cX (by omega) (by omega)
 have aef:1≤uX∧uX≤3:=by simp at MB;omega
 cases M5 with
 | false =>
  obtain ⟨gb,kX⟩ : ∃gb:List br,gb=([(⟨(⟨#[97]⟩:ByteArray),-1-gA,ho,true⟩:br),(⟨(⟨#[98]⟩:ByteArray),3+kO,rr,true⟩:br),(⟨(⟨#[99]⟩:ByteArray),sf-1,-1-sg,false⟩:br)]:List br):=⟨_,rfl⟩
  have g0:gb[0]? = some ⟨⟨#[97]⟩,-1-gA,ho,true⟩:=by rw [kX];rfl
  have g1:gb[1]? = some ⟨⟨#[98]⟩,3+kO,rr,true⟩:=by rw [kX];rfl
  have g2:gb[2]? = some ⟨⟨#[99]⟩,sf-1,-1-sg,false⟩:=by rw [kX];rfl
  have aL:gb.length=3:=by rw [kX];rfl
  refine ⟨gb,[⟨0,2,1⟩,⟨1,2,uX⟩],i8,bn,aB az (aB aH (aB b2 (aB dn (aB ej (aB fq (aB fr (aB hB (gk rfl ?_)))))))),KR _ (fun j aC=> ?_) (fun m hm=> ?_) (by simp only;omega) (by simp) ?_ (by simp only;omega) (by simp),F3⟩
  ·simp only
   rw [hL,kq,oh,TP,← kX]
  ·rw [kX] at aC
   simp at aC
   rcases aC with rfl|rfl|rfl<;>simp<;>omega
  ·simp at hm
   unfold qP
   rcases hm with rfl|rfl
   ·simp only
    rw [aL,decide_eq_true (by omega),Bool.true_and,show (0:Int).toNat=0 from rfl,show (2:Int).toNat=2 from rfl,g0,g2];simp;omega
   ·simp only
    rw [aL,decide_eq_true (by omega),Bool.true_and,show (1:Int).toNat=1 from rfl,show (2:Int).toNat=2 from rfl,g1,g2];simp;omega
  ·simp only
   rw [aL,kX];rfl
 | true =>
  obtain ⟨Gn,aeJ,cd,aeK,agL,aeg⟩:=mj 5 (by omega) (by omega) c aJ i8 bn F3
  obtain ⟨MD,aeh,cV,aei,acu,acv⟩:=Kw [1,2,3] (by simp) (by simp) c aJ aeJ cd aeg
  have aeL:U (Gn-(1:Int))=Gn-1:=cX (by omega) (by omega)
  have af0:1≤MD∧MD≤3:=by simp at acu;omega
  obtain ⟨gb,kX⟩ : ∃gb:List br,gb=([(⟨(⟨#[97]⟩:ByteArray),-1-gA,ho,true⟩:br),(⟨(⟨#[98]⟩:ByteArray),3+kO,rr,true⟩:br),(⟨(⟨#[99]⟩:ByteArray),sf-1,-1-sg,false⟩:br)]:List br)++([(⟨(⟨#[100]⟩:ByteArray),Gn-1,(-7),true⟩:br)]:List br):=⟨_,rfl⟩
  have g0:gb[0]? = some ⟨⟨#[97]⟩,-1-gA,ho,true⟩:=by rw [kX];rfl
  have g1:gb[1]? = some ⟨⟨#[98]⟩,3+kO,rr,true⟩:=by rw [kX];rfl
  have g2:gb[2]? = some ⟨⟨#[99]⟩,sf-1,-1-sg,false⟩:=by rw [kX];rfl
  have g3:gb[3]? = some ⟨⟨#[100]⟩,Gn-1,-7,true⟩:=by rw [kX];rfl
  have aL:gb.length=4:=by rw [kX];rfl
  refine ⟨gb,([⟨0,2,1⟩,⟨1,2,uX⟩]:List bP)++[⟨3,2,MD⟩],aeh,cV,aB az (aB aH (aB b2 (aB dn (aB ej (aB fq (aB fr (aB hB (fc rfl (aB aeK ?_))))))))),KR _ (fun j aC=> ?_) (fun m hm=> ?_) (by simp only;omega) (by simp) ?_ (by simp only;omega) (by simp),acv⟩
  ·simp only
   rw [hL,kq,oh,TP,aeL,← kX]
   exact bL (by rw [aL];omega) (aB aei (bL (by simp) rfl))
  ·rw [kX] at aC
   simp at aC
   rcases aC with rfl|rfl|rfl|rfl<;>simp<;>omega
  ·simp at hm
   unfold qP
   rcases hm with rfl|rfl|rfl
   ·simp only
    rw [aL,decide_eq_true (by omega),Bool.true_and,show (0:Int).toNat=0 from rfl,show (2:Int).toNat=2 from rfl,g0,g2];simp;omega
   ·simp only
    rw [aL,decide_eq_true (by omega),Bool.true_and,show (1:Int).toNat=1 from rfl,show (2:Int).toNat=2 from rfl,g1,g2];simp;omega
   ·simp only
    rw [aL,decide_eq_true (by omega),Bool.true_and,show (3:Int).toNat=3 from rfl,show (2:Int).toNat=2 from rfl,g3,g2];simp;omega
  ·simp only
   rw [aL,kX];rfl
theorem aaj (c:List Int)(aJ:c.length≤1048576)(i h:Int)(ai:0≤i): ∃gb fT e8 cw,Ah c i h=some (gb,fT,e8,cw)∧r7 ⟨gb,fT⟩∧0≤e8:=by
 obtain ⟨b,kA,o,az,pU⟩:=Kv 3 (by omega) (by omega) c aJ i h ai
 unfold Ah
 cases b with
 | true =>
  obtain ⟨gb,fT,lo,J,e,d,pV⟩:=abc c aJ kA o pU
  exact ⟨gb,fT,lo,J,aB az (fc rfl (aB e rfl)),d,pV⟩
 | false =>
  obtain ⟨gb,fT,lo,J,e,d,pV⟩:=aai c aJ kA o pU
  exact ⟨gb,fT,lo,J,aB az (gk rfl (aB e rfl)),d,pV⟩
def p4 (s:ck)(l:List Int):Prop:=l.length=2*s.cE.length∧ ∀x∈l,-8≤x∧x≤4
theorem Qw (s:ck)(d:r7 s)(c:List Int)(aJ:c.length≤1048576)(i h:Int)(ai:0≤i): ∃l e8 cw,x7 s c i h=some (l,e8,cw)∧p4 s l∧0≤e8:=by
 have bu:=d.v.2.2.1
 have ak:=d.M2
 have M0:U ((2:Int)*(len_ dz s.cE))=((2*s.cE.length:Nat):Int):=by rw [gv,cX (by omega) (by omega)];omega
 unfold x7
 rw [M0,Int.toNat_natCast]
 obtain ⟨⟨j,g,row⟩,e,aR,bb,b7⟩:=iv (f:=fun w:Int×Int×Int×(List Int)=>u0 s.cE (s.cE.length:Nat) c w.1 w.2.1 w.2.2.1 w.2.2.2) (fun (k:Nat) (q:Int×Int×List Int)=>((k:Int),q.1,q.2.1,q.2.2)) s.cE.length (fun _ q=>0≤q.1∧q.2.2.length=2*s.cE.length∧ ∀x∈q.2.2,-8≤x∧x≤4) (fun q=>q)
  (fun k aX q bi=>by
    obtain ⟨j,g,row⟩:=q
    obtain ⟨hi,iu,bK⟩:=bi
    simp only at hi iu bK
    have aa:=List.getElem?_eq_getElem aX
    have kq:U ((2:Int)*((k:Nat):Int))=((2*k:Nat):Int):=by rw [cX (by omega) (by omega)];omega
    by_cases f:s.cE[k].ox=true
    ·refine ⟨(j,g,row),?_,hi,iu,bK⟩
     simp only
     unfold u0
     exact ed (by omega) (bL (by omega) (aB (gt rfl aa) (fc f (by rw [f5 (by omega)]))))
    ·obtain ⟨fz,eM,nM,ha,aq,s1⟩:=mj 7 (by omega) (by omega) c aJ j g hi
     obtain ⟨fk,dM,se,h9,bE,s2⟩:=mj 9 (by omega) (by omega) c aJ eM nM s1
     have v1:U (fz-(3:Int))=fz-3:=cX (by omega) (by omega)
     have v2:U (0-fk)=0-fk:=cX (by omega) (by omega)
     refine ⟨(dM,se,(row.set (2*k) (fz-3)).set (2*k+1) (0-fk)),?_,s2,by simp only [List.length_set];omega,fun x hm=> ?_⟩
     ·simp only
      unfold u0
      rw [kq,f5 (n:=2*k) (by omega),Int.toNat_natCast,Int.toNat_natCast,Nat.zero_add,Nat.zero_add]
      refine ed (by omega) (bL (by omega) (aB (gt rfl aa) (gk (by simpa using f) (aB ha (bL (by omega) (bL (by omega) (aB h9 (bL (by omega) (bL (by rw [List.length_set];omega) ?_)))))))))
      simp only
      rw [v1,v2,f5 (by omega),Int.toNat_natCast]
     ·simp only at hm
      rcases List.mem_or_eq_of_mem_set hm with hm|rfl
      ·rcases List.mem_or_eq_of_mem_set hm with hm|rfl
       ·exact bK x hm
       ·omega
      ·omega)
  (fun q _=>by simp only;unfold u0;exact d4 (by omega) rfl) (i,h,List.replicate (2*s.cE.length) 0) ⟨ai,by simp,fun x aa=>by
    simp only [List.mem_replicate] at aa;omega⟩
 simp only at aR bb b7
 obtain ⟨b,lo,J,aH,pV⟩:=Kv 8 (by omega) (by omega) c aJ j g aR
 have dL:Dr s.cE (len_ dz s.cE) c 0 i h (List.replicate (2*s.cE.length) 0)=some (j,g,row):=by
  unfold Dr
  rw [gv]
  exact e
 cases b with
 | false=>exact ⟨row,lo,J,bL (by omega) (aB dL (aB aH (gk rfl rfl))),⟨bb,b7⟩,pV⟩
 | true =>
  have wl:U (((row.length:Nat):Int)-(1:Int))=((row.length-1:Nat):Int):=by rw [cX (by omega) (by omega)];omega
  refine ⟨row.set (row.length-1) 4,lo,J,bL (by omega) (aB dL (aB aH (fc rfl ?_))),⟨by rw [List.length_set];exact bb,fun x hm=> ?_⟩,pV⟩
  ·simp only
   rw [wl,Int.toNat_natCast,Nat.zero_add]
   exact bL (by omega) (bL (by omega) rfl)
  ·rcases List.mem_or_eq_of_mem_set hm with hm|rfl
   ·exact b7 x hm
   ·omega
theorem Xv (c:List Int)(aJ:c.length≤1048576): ∃s l,DP c=some (s,l)∧r7 s∧p4 s l:=by
 obtain ⟨h0,e0⟩:=RH c aJ
 obtain ⟨gb,fT,kA,o,az,d,pU⟩:=aaj c aJ 0 h0 (by omega)
 obtain ⟨l,lo,J,aH,mS,-⟩:=Qw ⟨gb,fT⟩ d c aJ kA o pU
 exact ⟨⟨gb,fT⟩,l,aB e0 (aB (x:=(gb,fT,l,lo,J)) (aB az (aB aH rfl)) rfl),d,mS⟩
theorem Xw (s:ck)(d:r7 s)(c:List Int)(aJ:c.length≤1048576)(n:Nat)(a0:n≤1000): ∃l,DR c (n:Int) s=some l∧p4 s l:=by
 obtain ⟨i,h,e,ai⟩:=Qv c aJ n a0
 obtain ⟨l,lo,J,aH,mS,-⟩:=Qw s d c aJ i h ai
 exact ⟨l,aB e (aB aH rfl),mS⟩
theorem K4 (s:ck)(d:r7 s)(l:List Int)(aL:l.length=2*s.cE.length)(aY:∀x∈l,-100≤x∧x≤100):va s l=some true∧yh s l=some true:=by
 have e:tu s.cE.length l=true:=by
  unfold tu
  rw [decide_eq_true aL,Bool.true_and,List.all_eq_true]
  intro x aa
  unfold sy
  exact decide_eq_true (aY x aa)
 have f:=Xs s d.v.2.2.1 l (by rw [aL,PQ];have:=d.v.2.2.1;omega)
 rw [e] at f
 exact ⟨f,aB d.ok (fc rfl (aB f rfl))⟩
theorem p4.cU {s:ck}{l:List Int}(h:p4 s l): ∀x∈l,-100≤x∧x≤100:=fun x aa=>by have:=h.2 x aa;omega
theorem Rc {fT:List bP}{k:Nat}{x:bP}(aX:fT[k]? = some x)(o:x.jS=1): ∀ {n:Nat} {c:ev},n≤fT.length→c∈lc fT n→c.hr=(k:Int)→c.pM=1
 | 0,c,_,h,_=>by simp [lc] at h
 | n+1,c,a0,h,e=>by
  rw [lc,List.mem_append] at h
  rcases h with h|h
  ·exact Rc aX o (by omega) h e
  ·rw [List.getElem?_eq_getElem (by omega)] at h
   simp only [tD,List.mem_append] at h
   rcases h with h|h
   ·split at h
    ·simp at h
    ·simp at h;subst h;rfl
   ·split at h
    ·simp at h
    ·rename_i cM
     simp at h;subst h
     simp only at e
     have:n=k:=by omega
     subst this
     rw [List.getElem?_eq_getElem (by omega)] at aX
     exact absurd (by rw [Option.some.inj aX];exact o) cM
theorem aak (s:ck){k:Nat}{m:bP}(aX:s.b5[k]? = some m)(o:m.jS=1){c:Nat}(aJ:c<bA s)(e:hf s c=k):mR s c=1:=by
 obtain ⟨az,-,-⟩:=sA s aJ
 have:=Rc aX o (Nat.le_refl _) (List.mem_of_getElem? (show (lc s.b5 s.b5.length)[c]? = _ from az)) (by simp only;rw [e])
 exact this
theorem aal (s:ck){k:Nat}{m:bP}(aX:s.b5[k]? = some m)(o:m.jS=1)(x:Nat→Rat):gh s x (bA s) k=b8 (bA s) fun j=>if hf s j=k then x j else 0:=by
 unfold gh
 refine fC fun j aC=> ?_
 by_cases e:hf s j=k
 ·rw [if_pos e,if_pos e,aak s aX o aC e];grind
 ·rw [if_neg e,if_neg e]
theorem X5 (s:ck){k:Nat}{m:bP}(aX:s.b5[k]? = some m)(o:m.jS=1){x:Nat→Rat}(aa:∀j,j<bA s→0≤x j):0≤gh s x (bA s) k:=by
 rw [aal s aX o]
 refine rv fun j aC=> ?_
 by_cases e:hf s j=k
 ·rw [if_pos e];exact aa j aC
 ·rw [if_neg e];exact Rat.le_refl
theorem OY (l:List Int)(h:l.length≤1048576):yM l l=some true:=by
 have o:JN l l (len_ I l) 0=some (if l.all (fun _=>true) then .inl () else .inr ()):=by
  refine Qd (f:=fun w=>x3 l l (len_ I l) w) l _ (fun n x aa=> ?_) (by unfold x3;exact d4 (by rw [gv];omega) rfl)
  have dB:=f9 aa
  unfold x3
  rw [kA (by omega)]
  exact ed (by rw [gv];omega) (bL (by omega) (aB (gt rfl aa) (bL (by omega) (aB (gt rfl aa) (gk (sL rfl) rfl)))))
 unfold yM
 exact gk (sL rfl) (aB o (by simp))
theorem Jq {x:Rat}(h:fO x):s7 (e5 x) (e5 x)=some true:=by
 have p:=h.dk
 have o:=p.vS
 have J:=p.vT
 unfold s7
 exact fc (by simp) (aB (OY _ (show (L (gu x).1.natAbs).length≤_ by omega)) (fc rfl (aB (OY _ (show (L (gu x).2).length≤_ by omega)) rfl)))
theorem R4 {x y:Rat}(aa:fO x)(aP:fO y)(h:fO (x*y)):tf (dt x) (dt y)=some (dt (x*y)):=aB (Q6 aa aP) (aB (y8 h) rfl)
theorem Qx {x y:Rat}(aa:fO x)(aP:fO y)(h:fO (x*y)):Az (e5 x) (e5 y)=some (e5 (x*y)):=aB (oB aa) (aB (oB aP) (aB (R4 aa aP h) (aB (sw h) rfl)))
theorem Ki {n:Int}(h:oL n):sm n=some (e5 (n:Rat)):=aB (vD h) (aB (sw (vB h)) rfl)
structure pS (K:Nat) (z:Nat→Rat) (w:Rat):Prop where
 pos:0<w
 p7:dG K w
 M6 : ∀k,dG K (z k*w)
 aej:1000*K≤21*100*(ea*ea)
theorem pS.fit {K:Nat}{z:Nat→Rat}{w x:Rat}(h:pS K z w){a:Nat}(bH:a≤1000)(aa:dG (a*K) (x*w)):fO x:=by
 have al:=h.pos
 have o:=h.aej
 have J:a*K≤1000*K:=Nat.mul_le_mul_right _ bH
 exact Bv (K:=21*100*(ea*ea)) (h.p7.mono (by omega)) (aa.mono (by omega)) (by grind) (by grind) (vN (Nat.le_refl _))
theorem pS.rS {K:Nat}{z:Nat→Rat}{w:Rat}(h:pS K z w)(k:Nat):fO (z k):=h.fit (a:=1) (by omega) (by rw [Nat.one_mul];exact h.M6 k)
theorem dG.int {z:Int}{K:Nat}(h:z.natAbs≤K):dG K (z:Rat):=⟨z,rfl,h⟩
theorem pS.Lv {K:Nat}{z:Nat→Rat}{w:Rat}(h:pS K z w)(k:Nat){e:Int}(he:-100≤e∧e≤100):fO (z k*(e:Rat)):=h.fit (a:=100) (by omega) (by
 have:z k*(e:Rat)*w=(e:Rat)*(z k*w):=by grind
 rw [this];exact (dG.int (by omega)).mul (h.M6 k))
theorem pS.fits {K:Nat}{z:Nat→Rat}{w:Rat}(h:pS K z w){n:Nat}(a0:n≤8){e:Nat→Int}(he:∀k,-100≤e k∧e k≤100){f:Int}(cc:-100≤f∧f≤100):fO (b8 n (fun k=>z k*(e k:Rat))+(f:Rat)):=h.fit (a:=n*100+100) (by omega) (by
 have az:(b8 n (fun k=>z k*(e k:Rat))+(f:Rat))*w=b8 n (fun k=>(e k:Rat)*(z k*w))+(f:Rat)*w:=by
  rw [Rat.add_mul,← vm]
  congr 1
  exact fC fun k _=>by grind
 rw [az,Nat.add_mul]
 refine dG.add ?_ ((dG.int (by omega)).mul h.p7)
 rw [Nat.mul_assoc]
 exact dG.sum fun k _=>(dG.int (by have:=he k;omega)).mul (h.M6 k))
theorem aam (s:ck)(v:lK s){K:Nat}{z:Nat→Rat}{w:Rat}(h:pS K z w)(j:Nat):
 z7 s (a2 s.b5.length fun k=>dt (z k)) (j:Int)=some (dt (b8 s.b5.length fun k=>z k*(hF s (j:Int) 0 k:Rat)),dt (b8 s.b5.length fun k=>z k*(hF s (j:Int) 1 k:Rat))):=by
 obtain ⟨-,v2,-,bn⟩:=id v
 have f0 : ∀n,n≤8→ ∀eu,fO (b8 n fun k=>z k*(hF s (j:Int) eu k:Rat)):=fun n a0 eu=>by
  have:=h.fits a0 (fun k=>y0 s v (j:Int) eu k) (f:=0) (by omega)
  rw [show ((0:Int):Rat)=0 from rfl,Rat.add_zero] at this
  exact this
 unfold z7
 refine aB (vD (n:=0) (by rw [mB];omega)) (aB (x:=(dt (b8 s.b5.length fun k=>z k*(hF s (j:Int) 0 k:Rat)),dt (b8 s.b5.length fun k=>z k*(hF s (j:Int) 1 k:Rat)))) ?_ rfl)
 unfold Hw
 rw [gv]
 obtain ⟨_,e,-⟩:=iv (f:=fun w:(Option bF)×(Option bF)×Int=>xn s.cE s.b5 (a2 s.b5.length fun k=>dt (z k)) (j:Int) (s.b5.length:Nat) w.1 w.2.1 w.2.2)
  (fun (n:Nat) (_:Unit)=>(dt (b8 n fun k=>z k*(hF s (j:Int) 0 k:Rat)),dt (b8 n fun k=>z k*(hF s (j:Int) 1 k:Rat)),(n:Int))) s.b5.length (fun _ _=>True) (fun _=>(dt (b8 s.b5.length fun k=>z k*(hF s (j:Int) 0 k:Rat)),dt (b8 s.b5.length fun k=>z k*(hF s (j:Int) 1 k:Rat))))
  (fun n a0 _ _=>by
    refine ⟨(),?_,trivial⟩
    have aa:=List.getElem?_eq_getElem a0
    obtain ⟨bN,c2,mL⟩:=Kh s v n a0
    have zf : ∀eu,hF s (j:Int) eu n=if (j:Int)=s.b5[n].fX then (if eu=0 then (la s n).1 else (la s n).2) else if (j:Int)=s.b5[n].fY then -(if eu=0 then (la s n).1 else (la s n).2) else 0:=fun eu=>by unfold hF;rw [aa]
    have agZ:=y0 s v (j:Int) 0 n
    have gA:=y0 s v (j:Int) 1 n
    have add : ∀(eu:Nat) (t:Int),t=hF s (j:Int) eu n→o4 t=some (dt (t:Rat))∧tf (dt (z n)) (dt (t:Rat))=some (dt (z n*(t:Rat)))∧qg (dt (b8 n fun k=>z k*(hF s (j:Int) eu k:Rat))) (dt (z n*(t:Rat)))=some (dt (b8 (n+1) fun k=>z k*(hF s (j:Int) eu k:Rat))):=fun eu t cq=>by
     have aeM : -100≤t∧t≤100:=by rw [cq];exact y0 s v (j:Int) eu n
     have Sq:oL t:=mB.2 (by omega)
     have TQ:=h.Lv n aeM
     refine ⟨vD Sq,R4 (h.rS n) (vB Sq) TQ,?_⟩
     have jW:=f0 (n+1) (by omega) eu
     rw [b8,← cq] at jW ⊢
     exact K3 (f0 n (by omega) eu) TQ jW
    have skip : ∀eu,hF s (j:Int) eu n=0→b8 (n+1) (fun k=>z k*(hF s (j:Int) eu k:Rat))=b8 n (fun k=>z k*(hF s (j:Int) eu k:Rat)):=fun eu h0=>by
     rw [b8,h0,show ((0:Int):Rat)=0 from rfl];grind
    simp only
    unfold xn
    rw [f5 (by omega)]
    refine ed (by omega) (bL (by omega) (aB (gt rfl aa) (aB (show sZ ⟨s.cE,s.b5⟩ (n:Int)=_ from bN) ?_)))
    by_cases a:(j:Int)=s.b5[n].fX
    ·obtain ⟨ha,h9,oW⟩:=add 0 (la s n).1 (by rw [zf,if_pos a];rfl)
     obtain ⟨aR,bb,b7⟩:=add 1 (la s n).2 (by rw [zf,if_pos a];rfl)
     exact fc (zA a) (bL (by rw [cW];omega) (aB (x:=dt (z n)) (by rw [Int.toNat_natCast];exact gO a0) (aB ha (aB h9 (aB oW (aB aR (aB bb (aB b7 rfl))))))))
    ·refine gk (uH a) ?_
     by_cases b:(j:Int)=s.b5[n].fY
     ·obtain ⟨ha,h9,oW⟩:=add 0 (U (0-(la s n).1)) (by rw [zf,if_neg a,if_pos b,cX (by omega) (by omega)];simp)
      obtain ⟨aR,bb,b7⟩:=add 1 (U (0-(la s n).2)) (by rw [zf,if_neg a,if_pos b,cX (by omega) (by omega)];simp)
      exact fc (zA b) (bL (by rw [cW];omega) (aB (x:=dt (z n)) (by rw [Int.toNat_natCast];exact gO a0) (aB ha (aB h9 (aB oW (aB aR (aB bb (aB b7 rfl))))))))
     ·refine gk (uH b) ?_
      rw [skip 0 (by rw [zf,if_neg a,if_neg b]),skip 1 (by rw [zf,if_neg a,if_neg b])])
  (fun _ _=>by simp only;unfold xn;exact d4 (by omega) rfl) () trivial
 exact e
theorem ZD {n:Nat}(a0:n≤40){y:Nat→Rat}(aP:∀k,k<n→fO (y k)):AH (a2 n fun k=>e5 (y k))=some (a2 n (fun k=>dt (y k)),true):=by
 have aL:len_ da (a2 n fun k=>e5 (y k))=((n:Nat):Int):=by rw [gv,cW]
 unfold AH
 rw [aL]
 refine bL (by omega) (aB (x:= .inl (a2 n fun k=>dt (y k))) ?_ rfl)
 unfold Jl
 obtain ⟨_,e,-⟩:=iv (f:=fun w:Int×(List (Option bF))=>xT (a2 n fun k=>e5 (y k)) ((n:Nat):Int) w.1 w.2) (fun (k:Nat) (_:Unit)=>((k:Int),a2 n fun j=>if j<k then dt (y j) else none)) n (fun _ _=>True) (fun _=>(.inl (a2 n fun k=>dt (y k)):(List (Option bF))⊕Unit))
  (fun k aX _ _=>by
    refine ⟨(),?_,trivial⟩
    unfold xT
    simp only
    have az:(a2 n fun j=>if j<k then dt (y j) else none).set (0+((k:Nat):Int).toNat) (dt (y k))=a2 n fun j=>if j<k+1 then dt (y j) else none:=by
     rw [Int.toNat_natCast,Nat.zero_add,kC]
     refine fm fun j _=> ?_
     by_cases bN:j=k
     ·subst bN;rw [if_pos rfl,if_pos (by omega)]
     ·rw [if_neg bN]
      by_cases c2:j<k
      ·rw [if_pos c2,if_pos (by omega)]
      ·rw [if_neg c2,if_neg (by omega)]
    refine ed (by omega) (bL (by rw [cW];omega) (aB (x:=e5 (y k)) (by rw [Int.toNat_natCast];exact gO aX) (aB (oB (aP k aX)) (bL (by rw [cW];omega) (bL (by rw [cW,Int.toNat_natCast];omega) ?_)))))
    rw [az,f5 (by omega)]
    refine aB (x:=dt (y k)) (by rw [Int.toNat_natCast,Nat.zero_add,gO aX,if_pos (by omega)]) ?_
    rfl)
  (fun _ _=>by
    unfold xT
    refine d4 (by simp) ?_
    simp only
    congr 3
    exact fm fun j aC=>by rw [if_pos aC]) () trivial
 have e0:(a2 n fun j=>if j<0 then dt (y j) else none)=List.replicate (((n:Nat):Int).toNat) none:=by
  rw [Int.toNat_natCast,ow];exact fm fun j _=>by rw [if_neg (by omega)]
 rw [← e0];exact e
theorem OH (s:ck)(ok:qH s=some true)(bn:s.b5.length≤8){y:Nat→Rat}(aP:∀k,fO (y k)):x9 s (a2 s.b5.length fun k=>e5 (y k))=some (a2 s.b5.length (fun k=>dt (y k)),true):=by
 unfold x9
 exact gk (by rw [gv,gv,cW];exact sL rfl) (aB ok (fc rfl (aB (ZD (by omega) fun k _=>aP k) rfl)))
theorem abd (s:ck)(x:Nat→Rat)(i:Nat):b8 (bA s) (fun c=>(mz s i c:Rat)*x c)=b8 s.b5.length (fun k=>gh s x (bA s) k*(mJ s i k:Rat)):=by
 have e : ∀k,gh s x (bA s) k*(mJ s i k:Rat)=b8 (bA s) fun c=>if hf s c=k then (mR s c:Rat)*x c*(mJ s i k:Rat) else 0:=fun k=>by
  unfold gh
  rw [← vm]
  exact fC fun c _=>by split<;>grind
 rw [fC (n:=s.b5.length) fun k _=>e k,pF]
 refine fC fun c aJ=> ?_
 obtain ⟨-,J,-⟩:=sA s aJ
 rw [kg J fun k _ cM=>if_neg (fun e=>cM e.symm),if_pos rfl]
 unfold mz
 rw [Rat.intCast_mul];grind
def TA (s:ck)(z:Nat→Rat):Prop:= ∀k m,s.b5[k]? = some m→(m.jS=1→0≤z k)∧(m.jS=2→z k≤0)
theorem KS {x:Rat}(h:0≤x): ¬mH (gu x).1<0:=by
 have:0≤(gu x).1:=Rat.num_nonneg.2 h
 unfold mH
 split<;>(try split)<;>omega
theorem abe {x:Rat}(h:x≤0): ¬0<mH (gu x).1:=by
 have o:0≤(-x).num:=Rat.num_nonneg.2 (by grind)
 have:(gu x).1≤0:=by show x.num≤0;rw [Rat.neg_num] at o;omega
 unfold mH
 split<;>(try split)<;>omega
theorem ZE (s:ck)(ok:qH s=some true)(v:lK s){z:Nat→Rat}(cc:∀k,fO (z k))(cv:TA s z):ya s (a2 s.b5.length fun k=>e5 (z k))=some true:=by
 have bn:=v.2.2.2
 unfold ya
 refine aB (OH s ok bn cc) (fc rfl (aB (x:= .inl ()) ?_ rfl))
 unfold IY
 rw [gv]
 obtain ⟨_,e,-⟩:=iv (f:=fun w:Int=>xz (a2 s.b5.length fun k=>dt (z k)) s.b5 (s.b5.length:Nat) w) (fun (n:Nat) (_:Unit)=>(n:Int)) s.b5.length (fun _ _=>True) (fun _=>(.inl ():Unit⊕Unit))
  (fun n a0 _ _=>by
    refine ⟨(),?_,trivial⟩
    have aa:=List.getElem?_eq_getElem a0
    obtain ⟨g1,g2⟩:=cv n _ aa
    unfold xz
    rw [f5 (by omega)]
    refine ed (by omega) (bL (by omega) (aB (gt rfl aa) (bL (by rw [cW];omega) (aB (x:=dt (z n)) (by rw [Int.toNat_natCast];exact gO a0) (aB (KN (z n)) ?_)))))
    by_cases a:s.b5[n].jS=1
    ·exact fc (zA a) (d4 (KS (g1 a)) (gk (uH (by omega)) rfl))
    ·refine gk (uH a) ?_
     by_cases b:s.b5[n].jS=2
     ·exact fc (zA b) (d4 (abe (g2 b)) rfl)
     ·exact gk (uH b) rfl)
  (fun _ _=>by unfold xz;exact d4 (by omega) rfl) () trivial
 exact e
theorem Qy {fT:List bP}{k:Nat}{x:bP}(aX:fT[k]? = some x)(o:x.jS=2): ∀ {n:Nat} {c:ev},n≤fT.length→c∈lc fT n→c.hr=(k:Int)→c.pM = -1
 | 0,c,_,h,_=>by simp [lc] at h
 | n+1,c,a0,h,e=>by
  rw [lc,List.mem_append] at h
  rcases h with h|h
  ·exact Qy aX o (by omega) h e
  ·rw [List.getElem?_eq_getElem (by omega)] at h
   simp only [tD,List.mem_append] at h
   rcases h with h|h
   ·split at h
    ·simp at h
    ·rename_i cM
     simp at h;subst h
     simp only at e
     have:n=k:=by omega
     subst this
     rw [List.getElem?_eq_getElem (by omega)] at aX
     exact absurd (by rw [Option.some.inj aX];exact o) cM
   ·split at h
    ·simp at h
    ·simp at h;subst h;rfl
theorem aan (s:ck){x:Nat→Rat}(aa:∀j,j<bA s→0≤x j):TA s (gh s x (bA s)):=fun k m hm=>by
 refine ⟨fun h=>X5 s hm h aa,fun h=> ?_⟩
 have:0≤ -gh s x (bA s) k:=by
  unfold gh
  rw [show -b8 (bA s) (fun j=>if hf s j=k then (mR s j:Rat)*x j else 0)=b8 (bA s) (fun j=>(-1:Rat)*(if hf s j=k then (mR s j:Rat)*x j else 0)) by rw [ic];grind]
  refine rv fun j aC=> ?_
  have p:=aa j aC
  by_cases e:hf s j=k
  ·obtain ⟨az,-,-⟩:=sA s aC
   have:=Qy hm h (Nat.le_refl _) (List.mem_of_getElem? (show (lc s.b5 s.b5.length)[j]? = _ from az)) (by simp only;rw [e])
   simp only at this
   rw [if_pos e,this,Rat.intCast_neg];grind
  ·rw [if_neg e];grind
 grind
theorem Sr:1000*(16*ea)≤21*100*(ea*ea):=by decide +kernel
theorem AY {s:ck}(v:lK s){m n:Nat}{a:Nat→Nat→Int}{b:Nat→Int}{c x:Nat→Rat}{w:Rat}(q:BV m n a b c x w)(hm:m≤20):pS (16*ea) (gh s x (bA s)) w:=by
 have bn:=v.2.2.2
 have oZ:=qZ s
 have hq:=KO hm
 exact ⟨q.pos,q.p7.mono (by omega),fun k=>(R2 q.TO k (Nat.le_refl _)).mono (Nat.mul_le_mul (by omega) hq),Sr⟩
theorem aao (s:ck){j:Nat}(h:bA s≤j):mR s j=0:=by
 unfold mR
 rw [List.getD_eq_getElem?_getD,List.getElem?_eq_none h];rfl
theorem En (s:ck)(k sign:Int){j:Nat}(h:bA s≤j):h2 s k sign j=0:=by
 unfold h2
 rw [aao s h,Int.mul_zero,ite_self]
theorem Qz (s:ck)(k:Int){sign:Int}(h:sign=1∨sign = -1)(c:Nat): -1≤h2 s k sign c∧h2 s k sign c≤1:=by
 by_cases aJ:c<bA s
 ·exact aac s k h aJ
 ·rw [En s k sign (by omega)];omega
theorem Kx (s:ck)(v:lK s){N:Nat}(fF:bA s≤N)(k sign:Int)(b4:sign=1∨sign = -1)(x0 fz:Int)(eM dM:List Int)(f:Nat→Int)(cc:∀j,bA s≤j→f j=0):t0 s k sign x0 fz eM dM (a2 N f)=some (a2 N (h2 s k sign)):=by
 have oZ:=qZ s
 have v4:=v.2.2.2
 unfold t0
 refine aB (x:=gz s) (yt s (by omega)) (aB ?_ rfl)
 unfold Hn
 have aL:len_ ek (gz s)=((bA s:Nat):Int):=gv ..
 rw [aL]
 obtain ⟨x,e,-⟩:=iv (f:=fun w:Int×List Int=>xe k sign (gz s) ((bA s:Nat):Int) x0 fz eM dM w.1 w.2) (fun (n:Nat) (_:Unit)=>((n:Int),a2 N fun j=>if j<n then h2 s k sign j else f j)) (bA s) (fun _ _=>True) (fun _=>a2 N (h2 s k sign))
  (fun n a0 _ _=>by
    refine ⟨(),?_,trivial⟩
    obtain ⟨kc,jz,ma⟩:=sA s a0
    have c8 : ∀a,(a2 N fun j=>if j<n then h2 s k sign j else f j).set n a=a2 N fun j=>if j=n then a else if j<n then h2 s k sign j else f j:=fun a=>kC ..
    have fin : ∀a,a=h2 s k sign n→(a2 N fun j=>if j=n then a else if j<n then h2 s k sign j else f j)=a2 N fun j=>if j<n+1 then h2 s k sign j else f j:=fun a bH=>fm fun j _=>by
     by_cases c:j=n
     ·subst c;rw [if_pos rfl,if_pos (by omega),bH]
     ·rw [if_neg c]
      by_cases d:j<n
      ·rw [if_pos d,if_pos (by omega)]
      ·rw [if_neg d,if_neg (by omega)]
    unfold xe
    simp only
    rw [f5 (by omega),Int.toNat_natCast,Nat.zero_add,c8]
    refine ed (by omega) (bL (by show _∧((n:Nat):Int)<((bA s:Nat):Int);omega) (aB kc (bL (by rw [cW];omega) (bL (by rw [cW];omega) ?_))))
    by_cases c:(hf s n:Int)=k
    ·refine fc (by simp only;rw [c];simp) (bL (by rw [cW];omega) ?_)
     rw [kC,cX (by rcases b4 with rfl|rfl<;>rcases ma with e|e<;>simp only [e]<;>omega) (by rcases b4 with rfl|rfl<;>rcases ma with e|e<;>simp only [e]<;>omega)]
     congr 3
     rw [← fin (sign*mR s n) (by unfold h2;rw [if_pos c])]
     exact fm fun j _=>by
      by_cases d:j=n
      ·rw [if_pos d,if_pos d]
      ·rw [if_neg d,if_neg d,if_neg d]
    ·refine gk (by simp only;exact beq_false_of_ne c) ?_
     rw [fin 0 (by unfold h2;rw [if_neg c])])
  (fun _ _=>by
    unfold xe
    refine d4 (by simp) ?_
    simp only
    congr 2
    exact fm fun j aC=>by
     by_cases c:j<bA s
     ·rw [if_pos c]
     ·rw [if_neg c,cc j (by omega),En s k sign (by omega)]) () trivial
 have e0:(a2 N fun j=>if j<0 then h2 s k sign j else f j)=a2 N f:=fm fun j _=>by rw [if_neg (by omega)]
 rw [← e0];exact e
theorem ZF (s:ck)(v:lK s){N:Nat}(fF:bA s≤N)(k sign:Int)(b4:sign=1∨sign = -1)(x0 fz:Int)(eM dM:List Int)(f:Nat→Int)(cc:∀j,bA s≤j→f j=0):z0 s k sign x0 fz eM dM (a2 N f)=some (a2 N (h2 s k sign)):=by
 have e:z0 s k sign x0 fz eM dM (a2 N f)=t0 s k sign x0 fz eM dM (a2 N f):=rfl
 rw [e];exact Kx s v fF k sign b4 x0 fz eM dM f cc
theorem rF (s:ck){n:Nat}(a0:bA s≤n)(k:Nat)(sign:Int)(x:Nat→Rat):val n (jC n (h2 s (k:Int) sign)) x=(sign:Rat)*gh s x (bA s) k:=by
 obtain ⟨d,rfl⟩ : ∃d,n=bA s+d:=⟨n-bA s,by omega⟩
 unfold val
 rw [D3,mT (n:=d) fun j aC=>by
  unfold jC m2
  simp only
  rw [En s _ _ (by omega),ite_self]
  grind]
 unfold gh
 rw [← ic,Rat.add_zero]
 refine fC fun j aC=> ?_
 unfold jC m2
 simp only
 rw [if_pos (by omega)]
 unfold h2
 by_cases e:hf s j=k
 ·rw [if_pos (by omega),if_pos e,Rat.intCast_mul];grind
 ·rw [if_neg (by omega),if_neg e];grind
theorem aap (s:ck)(v:lK s){l m:List Int}(aL:∀x∈l,-100≤x∧x≤100)(hm:∀x∈m,-100≤x∧x≤100):oa (k2 s [l,m]) (fH s) (cH s [l,m]) (jP s [l,m]) (rq s) where
 rows:=rfl
 gz:=rfl
 oY:=cW ..
 BU:=fun i ai j aC=>by
  have o:i*cH s [l,m]+j<fH s*cH s [l,m]:=by
   have:(i+1)*cH s [l,m]≤fH s*cH s [l,m]:=Nat.mul_le_mul_right _ ai
   rw [Nat.succ_mul] at this;omega
  show (a2 _ _)[_]? = _
  rw [gO o]
  have J:(i*cH s [l,m]+j) / cH s [l,m]=i:=by rw [Nat.mul_comm,Nat.mul_add_div (by omega),Nat.div_eq_of_lt aC];rfl
  have ak:(i*cH s [l,m]+j) % cH s [l,m]=j:=by rw [Nat.mul_comm,Nat.mul_add_mod,Nat.mod_eq_of_lt aC]
  rw [J,ak]
 Gh:=cW ..
 Fq:=fun i ai=>gO ai
 hm:=by
  obtain ⟨-,-,f3,f4⟩:=id v
  have:=tv s
  show 2*dC s+1≤20;omega
 a0:=by
  obtain ⟨-,-,f3,f4⟩:=id v
  have:=qZ s
  show bA s+2≤40;omega
 wR:=fun i ai j aC=>by
  have g : ∀(L:List Int) (q:Nat),(∀x∈L,-100≤x∧x≤100)→ -100≤L.getD q 0∧L.getD q 0≤100:=fun L q h=>by
   rw [List.getD_eq_getElem?_getD]
   cases e:L[q]? with
   | none=>simp
   | some x=>exact h x (List.mem_of_getElem? e)
  have g2 : ∀c q:Nat,-100≤(([l,m]:List (List Int)).getD c []).getD q 0∧(([l,m]:List (List Int)).getD c []).getD q 0≤100:=fun c q=>by
   match c with
   | 0=>exact g l q aL
   | 1=>exact g m q hm
   | c+2=>show -100≤([]:List Int).getD q 0∧_;exact g [] q (fun x aa=>by simp at aa)
  unfold jP
  split
  ·rename_i c
   split
   ·exact K2 s v i c
   ·omega
  ·split
   ·exact g2 _ _
   ·omega
 sd:=fun i _=>by unfold rq;split<;>omega
theorem QA (s:ck){l m:List Int}{i:Nat}(ai:i<2*dC s)(x:Nat→Rat):b8 (cH s [l,m]) (fun j=>(jP s [l,m] i j:Rat)*x j)=b8 (bA s) (fun j=>(mz s i j:Rat)*x j)-(mA s l i:Rat)*x (bA s)-(mA s m i:Rat)*x (bA s+1):=by
 have e:b8 (bA s) (fun j=>(jP s [l,m] i j:Rat)*x j)=b8 (bA s) (fun j=>(mz s i j:Rat)*x j):=fC fun j aC=>by unfold jP;rw [if_pos aC,if_pos ai]
 have nI:jP s [l,m] i (bA s) = -mA s l i:=by unfold jP mA;rw [if_neg (by omega),if_pos ai,Nat.sub_self,Int.neg_neg];rfl
 have hi:jP s [l,m] i (bA s+1) = -mA s m i:=by unfold jP mA;rw [if_neg (by omega),if_pos ai,show bA s+1-bA s=1 by omega,Int.neg_neg];rfl
 show b8 (bA s+1+1) _=_
 rw [b8,b8,e,nI,hi,Rat.intCast_neg,Rat.intCast_neg]
 grind
theorem PX (s:ck){l m:List Int}(x:Nat→Rat):b8 (cH s [l,m]) (fun j=>(jP s [l,m] (2*dC s) j:Rat)*x j)=x (bA s)+x (bA s+1):=by
 have e:b8 (bA s) (fun j=>(jP s [l,m] (2*dC s) j:Rat)*x j)=0:=mT fun j aC=>by unfold jP;rw [if_pos aC,if_neg (by omega)];grind
 have nI : ∀q,jP s [l,m] (2*dC s) (bA s+q)=1:=fun q=>by unfold jP;rw [if_neg (by omega),if_neg (by omega)]
 show b8 (bA s+1+1) _=_
 rw [b8,b8,e,nI 1,show jP s [l,m] (2*dC s) (bA s)=1 from nI 0]
 grind
theorem Kj {s:ck}{l m:List Int}{x:Nat→Rat}:pY (fH s) (cH s [l,m]) (jP s [l,m]) (rq s) x↔(∀j,j<bA s+2→0≤x j)∧(∀i,i<2*dC s→b8 (bA s) (fun j=>(mz s i j:Rat)*x j)=(mA s l i:Rat)*x (bA s)+(mA s m i:Rat)*x (bA s+1))∧x (bA s)+x (bA s+1)=1:=by
 have fF:cH s [l,m]=bA s+2:=rfl
 have dr:fH s=2*dC s+1:=rfl
 constructor
 ·rintro ⟨o,J⟩
  refine ⟨o,fun i ai=> ?_,?_⟩
  ·have:=J i (by omega)
   rw [QA s ai] at this
   unfold rq at this
   rw [if_pos ai] at this
   grind
  ·have:=J (2*dC s) (by omega)
   rw [PX s] at this
   unfold rq at this
   rw [if_neg (by omega)] at this
   rw [this];rfl
 ·rintro ⟨o,J,ak⟩
  refine ⟨o,fun i ai=> ?_⟩
  by_cases c:i<2*dC s
  ·rw [QA s c,J i c]
   unfold rq;rw [if_pos c];grind
  ·obtain rfl:i=2*dC s:=by omega
   rw [PX s,ak]
   unfold rq;rw [if_neg (by omega)];rfl
theorem EP {s:ck}{l m:List Int}{x:Nat→Rat}{L:List Int}(jY:L=l∨L=m)(h:pY (2*dC s) (bA s) (mz s) (mA s L) x): ∃y,pY (fH s) (cH s [l,m]) (jP s [l,m]) (rq s) y∧ ∀k,gh s y (bA s) k=gh s x (bA s) k:=by
 obtain ⟨o,J⟩:=h
 obtain ⟨y,aP⟩ : ∃y:Nat→Rat,y=fun j=>if j<bA s then x j else if j=bA s then (if L=l then 1 else 0) else (if L=l then 0 else 1):=⟨_,rfl⟩
 have uT : ∀j,j<bA s→y j=x j:=fun j aC=>by rw [aP];exact if_pos aC
 have eM:y (bA s)=if L=l then 1 else 0:=by rw [aP];simp only;rw [if_neg (by omega),if_pos trivial]
 have dM:y (bA s+1)=if L=l then 0 else 1:=by rw [aP];simp only;rw [if_neg (by omega),if_neg (by omega)]
 refine ⟨y,Kj.2 ⟨fun j aC=> ?_,fun i ai=> ?_,?_⟩,fun k=>fC fun j aC=>by rw [uT j aC]⟩
 ·by_cases c:j<bA s
  ·rw [uT j c];exact o j c
  ·have:j=bA s∨j=bA s+1:=by omega
   rcases this with rfl|rfl
   ·rw [eM];split<;>grind
   ·rw [dM];split<;>grind
 ·rw [fC (g:=fun j=>(mz s i j:Rat)*x j) fun j aC=>by rw [uT j aC],J i ai,eM,dM]
  by_cases e:L=l
  ·rw [if_pos e,if_pos e,e];grind
  ·rw [if_neg e,if_neg e,jY.resolve_left e];grind
 ·rw [eM,dM];split<;>grind
theorem ZG (s:ck)(v:lK s){m n:Nat}{x:Nat→Rat}{w X:Rat}{x0 fz:Int}{uT eM dM:List Int}(hm:m≤20)(a0:bA s≤n)(e:s8 x0 fz uT eM dM=some (0,a2 n (fun j=>dt (x j)),dt X))(q:0<w∧dG (ky 100 m) w∧ ∀j,dG (ky 100 m) (x j*w))(b7:∀j,fO (x j)):
 sY s x0 fz uT eM dM=some (a2 s.b5.length (fun k=>dt (gh s x (bA s) k)),a2 (n-bA s) (fun j=>dt (x (bA s+j))),true):=by
 obtain ⟨hL,kq,oh⟩:=q
 have bn:=v.2.2.2
 have ad8:=qZ s
 have hC:len_ ek (gz s)=((bA s:Nat):Int):=gv ..
 have cc:=Ra s v b7 (fun c k aJ=>KP hm (by omega) hL kq oh k aJ)
 have tail:(((a2 n fun j=>dt (x j)).drop (bA s)).take (((a2 n fun j=>dt (x j)).map (c0 3 bh)).length-bA s))=a2 (n-bA s) (fun j=>dt (x (bA s+j))):=by
  rw [List.length_map,cW]
  apply List.ext_getElem?
  intro i
  by_cases c:i<n-bA s
  ·rw [List.getElem?_take,if_pos c,List.getElem?_drop,gO (by omega),gO c]
  ·rw [List.getElem?_take,if_neg c,List.getElem?_eq_none_iff.2 (by rw [cW];omega)]
 refine aB e (gk rfl (aB (x:=gz s) (yt s (by omega)) ?_))
 rw [hC]
 simp only [Int.toNat_natCast]
 refine bL (by omega) (bL (by simp only [cW];omega) (aB ?_ (bL (by simp only [cW];omega) (by rw [tail]))))
 simp only [List.drop_zero,Nat.sub_zero]
 rw [Qu _ a0]
 exact cc
theorem K5 {x y:Rat}(aa:fO x)(aP:fO y): ∃c,s5 (dt x) (dt y)=some c∧(c≤0↔x≤y):=by
 have p:=aa.dk
 have q:=aP.dk
 refine ⟨_,W5 p.pos q.pos p.num p.den q.num q.den (by omega) (by omega) (by omega) (by omega),?_⟩
 have o:lE ((gu x).1*(gu y).2) ((gu y).1*(gu x).2)≤0↔ ¬(gu y).1*(gu x).2<(gu x).1*(gu y).2:=by
  rw [← Zl];omega
 rw [o,← Rat.not_lt,Rat.lt_iff]
 exact Iff.rfl
theorem QB {x y:Rat}(aa:fO x)(aP:fO y)(h:fO (x+y)):yk (e5 x) (e5 y)=some (e5 (x+y)):=aB (oB aa) (aB (oB aP) (aB (K3 aa aP h) (aB (sw h) rfl)))
theorem ZH {x:Rat}(aa:fO x):D6 (e5 x)=some (e5 (-x)):=aB (oB aa) (aB (Fe x) (aB (sw aa.neg) rfl))
theorem Eo {bZ ai v:Rat}{fM rs:Bool}(aL:fO bZ)(fx:fO ai)(a3:fO v)(F6:fM=true→bZ=0)(h0:rs=true→ai=0)(sd:fM=false→bZ≤v)(aY:rs=false→v≤ai):yj ⟨e5 bZ,e5 ai,fM,rs⟩ (e5 v)=some true:=by
 obtain ⟨bN,az,kA⟩:=K5 aL a3
 obtain ⟨c2,aH,lo⟩:=K5 a3 fx
 obtain ⟨mL,b2,wN⟩:=K5 aL fx
 have my:ru (dt 0)=some 0:=KN 0
 have ends:DL ⟨e5 bZ,e5 ai,fM,rs⟩=some (dt bZ,dt ai,true):=by
  cases fM with
  | true =>
   have:=F6 rfl;subst this
   cases rs with
   | true =>
    have:=h0 rfl;subst this
    exact aB (oB aL) (aB (oB fx) (aB my (gk rfl (aB my (gk rfl rfl)))))
   | false=>exact aB (oB aL) (aB (oB fx) (aB my (gk rfl rfl)))
  | false =>
   cases rs with
   | true =>
    have:=h0 rfl;subst this
    exact aB (oB aL) (aB (oB fx) (aB my (gk rfl rfl)))
   | false =>
    have a:=sd rfl
    have b:=aY rfl
    have:mL≤0:=wN.2 (by grind)
    exact aB (oB aL) (aB (oB fx) (aB b2 (by rw [decide_eq_true this])))
 unfold yj
 refine aB ends (aB (oB a3) (fc rfl ?_))
 have ai:rs=false→c2≤0:=fun h=>lo.2 (aY h)
 have TB:fM=false→bN≤0:=fun h=>kA.2 (sd h)
 cases fM<;>cases rs
 ·exact aB az (ed (TB rfl) (aB aH (by rw [decide_eq_true (ai rfl)])))
 ·exact aB az (ed (TB rfl) rfl)
 ·exact aB aH (by rw [decide_eq_true (ai rfl)])
 ·rfl
theorem YI (s:ck)(d:r7 s){l m:List Int}(mS:p4 s l)(qa:p4 s m):ye s [l,m]=some true:=by
 unfold ye
 have hlen:len_ (dL 1 I) [l,m]=2:=by rw [gv];rfl
 rw [hlen]
 refine d4 (by omega) (d4 (by omega) (aB d.ok (fc rfl (aB (x:= .inl ()) ?_ rfl))))
 unfold I2
 obtain ⟨_,e,-⟩:=iv (f:=fun w:Int=>xA s.cE s.b5 [l,m] 2 w) (fun (k:Nat) (_:Unit)=>(k:Int)) 2 (fun _ _=>True) (fun _=>(.inl ():Unit⊕Unit))
  (fun k aX _ _=>by
    refine ⟨(),?_,trivial⟩
    have aa:=List.getElem?_eq_getElem (show k<[l,m].length from aX)
    have wU:p4 s [l,m][k]:=by
     have:k=0∨k=1:=by omega
     rcases this with rfl|rfl
     ·exact mS
     ·exact qa
    unfold xA
    exact ed (by omega) (bL (by show 0≤(k:Int)∧(k:Int)<((2:Nat):Int);omega) (aB (gt rfl aa) (aB (K4 s d _ wU.1 wU.cU).1 (fc rfl (by rw [f5 (by omega)]))))))
  (fun _ _=>by unfold xA;exact d4 (by omega) rfl) () trivial
 exact e
theorem AZ (s:ck)(d:r7 s){l m:List Int}(mS:p4 s l)(qa:p4 s m){k:Nat}(aX:k<s.b5.length)(ok hi:Bool)(iu bK:List Int)(gA:Bool)(ho kO:List Int)(fM rs:Bool)
 (h : ∀L x w,(L=l∨L=m)→BV (2*dC s) (bA s) (mz s) (mA s L) (jC (bA s) fun _=>0) x w→ok=true∧yj ⟨⟨⟨hi,iu⟩,bK⟩,⟨⟨gA,ho⟩,kO⟩,fM,rs⟩ (e5 (gh s x (bA s) k))=some true) :
 Dv l m (k:Int) ok s.cE s.b5 [l,m] hi iu bK gA ho kO fM rs 0=some (.inl ()):=by
 unfold Dv
 obtain ⟨_,e,-⟩:=iv (f:=fun w:Int=>xt l m (k:Int) ok s.cE s.b5 [l,m] hi iu bK gA ho kO fM rs w) (fun (k:Nat) (_:Unit)=>(k:Int)) 2 (fun _ _=>True) (fun _=>(.inl ():Unit⊕Unit))
  (fun n a0 _ _=>by
    refine ⟨(),?_,trivial⟩
    have aa:=List.getElem?_eq_getElem (show n<[l,m].length from a0)
    obtain ⟨L,jY⟩ : ∃L,L=[l,m][n]:=⟨_,rfl⟩
    rw [← jY] at aa
    have TC:L=l∨L=m:=by
     have:n=0∨n=1:=by omega
     rcases this with rfl|rfl
     ·exact .inl jY
     ·exact .inr jY
    have wU:p4 s L:=by rcases TC with rfl|rfl<;>assumption
    unfold xt
    rw [f5 (by omega)]
    refine ed (by omega) (bL (by show 0≤(n:Int)∧(n:Int)<((2:Nat):Int);omega) (aB (x:=L) (by rw [Int.toNat_natCast,Nat.zero_add];exact aa) ?_))
    rcases aaf s d.v (K4 s d L wU.1 wU.cU).2 wU.1 wU.cU with ⟨-,a⟩|⟨x,w,q,a⟩
    ·exact aB a (gk rfl rfl)
    ·obtain ⟨o,J⟩:=h L x w TC q
     exact aB a (fc rfl (fc o (gk (by simp only;rw [gv,gv,cW];exact sL rfl) (bL (by simp only [cW];omega) (aB (gt rfl (gO aX)) (aB J (fc rfl rfl)))))))
    )
  (fun _ _=>by unfold xt;exact d4 (by omega) rfl) () trivial
 exact e
theorem ZI (s:ck)(d:r7 s){l m:List Int}(mS:p4 s l)(qa:p4 s m){x:Nat→Rat}{w:Rat}(h:pS (16*ea) (gh s x (bA s)) w)(hw:pS (16*ea) x w)(b4:pY (fH s) (cH s [l,m]) (jP s [l,m]) (rq s) x):
 Ad l m (a2 s.b5.length fun k=>e5 (gh s x (bA s) k)) (a2 2 fun j=>e5 (x (bA s+j))) (a2 (dC s) fun q=>((fV s q:Nat):Int)) ((dC s:Nat):Int) s.cE s.b5 0=some (.inl ()):=by
 have v:=d.v
 have bn:=v.2.2.2
 have bu:=v.2.2.1
 have tW:=tv s
 obtain ⟨-,s2,-⟩:=Kj.1 b4
 have aL:=mS.1
 have hm:=qa.1
 unfold Ad
 obtain ⟨_,e,-⟩:=iv (f:=fun u:Int=>xv l m (a2 s.b5.length fun k=>e5 (gh s x (bA s) k)) (a2 2 fun j=>e5 (x (bA s+j))) (a2 (dC s) fun q=>((fV s q:Nat):Int)) ((dC s:Nat):Int) s.cE s.b5 u) (fun (n:Nat) (_:Unit)=>(n:Int)) (dC s) (fun _ _=>True) (fun _=>(.inl ():Unit⊕Unit))
  (fun n a0 _ _=>by
    refine ⟨(),?_,trivial⟩
    have cc:=E1 s a0
    obtain ⟨y,aP⟩ : ∃y:Nat→Rat,y=fun eu=>b8 s.b5.length fun k=>gh s x (bA s) k*(hF s (fV s n:Int) eu k:Rat):=⟨_,rfl⟩
    have CT : ∀eu,fO (y eu):=fun eu=>by
     have:=h.fits bn (fun k=>y0 s v (fV s n:Int) eu k) (f:=0) (by omega)
     rw [show ((0:Int):Rat)=0 from rfl,Rat.add_zero] at this
     rw [aP];exact this
    have aek : ∀eu,eu<2→y eu = -(x (bA s)*((l.getD (2*fV s n+eu) 0:Int):Rat)+x (bA s+1)*((m.getD (2*fV s n+eu) 0:Int):Rat)):=fun eu F2=>by
     have e:=s2 (2*n+eu) (by omega)
     rw [abd] at e
     unfold mJ mA at e
     rw [show (2*n+eu) / 2=n by omega,show (2*n+eu) % 2=eu by omega,Rat.intCast_neg,Rat.intCast_neg] at e
     rw [aP];simp only
     rw [e];grind
    have c8:ta [dt (b8 s.b5.length fun k=>gh s x (bA s) k*(hF s (fV s n:Int) 0 k:Rat)),dt (b8 s.b5.length fun k=>gh s x (bA s) k*(hF s (fV s n:Int) 1 k:Rat))]=some (a2 2 fun eu=>e5 (y eu),true):=by
     have:=Em (n:=2) (by omega) (y:=y) fun k _=>CT k
     rw [aP] at this
     rw [aP];exact this
    have pl:Ay s (a2 s.b5.length fun k=>e5 (gh s x (bA s) k)) (fV s n:Int)=some (a2 2 fun eu=>e5 (y eu),true):=by
     unfold Ay
     exact aB (OH s d.ok bn h.rS) (fc rfl (d4 (by omega) (d4 (by rw [gv];omega) (aB (aam s v h (fV s n)) (aB c8 rfl)))))
    have hL:U ((2:Int)*(fV s n:Int))=((2*fV s n:Nat):Int):=by rw [cX (by omega) (by omega)];omega
    have kq:U (((2*fV s n:Nat):Int)+1)=((2*fV s n+1:Nat):Int):=f5 (by omega)
    have aeN:Dw l m (a2 s.b5.length fun k=>e5 (gh s x (bA s) k)) (a2 2 fun j=>e5 (x (bA s+j))) (fV s n:Int) (a2 2 fun eu=>e5 (y eu)) (a2 (dC s) fun q=>((fV s q:Nat):Int)) ((dC s:Nat):Int) (n:Int) s.cE s.b5 0=some (.inl ()):=by
     unfold Dw
     obtain ⟨_,e,-⟩:=iv (f:=fun u:Int=>xu l m (a2 s.b5.length fun k=>e5 (gh s x (bA s) k)) (a2 2 fun j=>e5 (x (bA s+j))) (fV s n:Int) (a2 2 fun eu=>e5 (y eu)) (a2 (dC s) fun q=>((fV s q:Nat):Int)) ((dC s:Nat):Int) (n:Int) s.cE s.b5 u) (fun (n:Nat) (_:Unit)=>(n:Int)) 2 (fun _ _=>True) (fun _=>(.inl ():Unit⊕Unit))
      (fun eu F2 _ _=>by
        refine ⟨(),?_,trivial⟩
        have g1:=List.getElem?_eq_getElem (show 2*fV s n+eu<l.length by omega)
        have g2:=List.getElem?_eq_getElem (show 2*fV s n+eu<m.length by omega)
        have gA:=mS.cU _ (List.mem_of_getElem? g1)
        have ho:=qa.cU _ (List.mem_of_getElem? g2)
        have kA:oL l[2*fV s n+eu]:=mB.2 (by omega)
        have lo:oL m[2*fV s n+eu]:=mB.2 (by omega)
        have f1:=hw.Lv (bA s) gA
        have f2:=hw.Lv (bA s+1) ho
        have e0:=aek eu F2
        rw [List.getD_eq_getElem?_getD,List.getD_eq_getElem?_getD,g1,g2] at e0
        simp only [Option.getD_some] at e0
        have f3:fO (x (bA s)*((l[2*fV s n+eu]:Int):Rat)+x (bA s+1)*((m[2*fV s n+eu]:Int):Rat)):=by
         have:=(CT eu).neg
         rw [e0,Rat.neg_neg] at this
         exact this
        have oh:U (((2*fV s n:Nat):Int)+(eu:Int))=((2*fV s n+eu:Nat):Int):=by rw [cX (by omega) (by omega)];omega
        unfold xu
        rw [hL,oh,f5 (by omega)]
        refine ed (by omega) (bL (by rw [cW];omega) (aB (x:=e5 (x (bA s))) rfl (bL (by omega) (aB (gt rfl g1) (aB (Ki kA) (aB (Qx (hw.rS (bA s)) (vB kA) f1) (bL (by rw [cW];omega) (aB (x:=e5 (x (bA s+1))) rfl (bL (by omega) (aB (gt rfl g2) (aB (Ki lo) (aB (Qx (hw.rS (bA s+1)) (vB lo) f2) (aB (QB f1 f2 f3) (aB (ZH f3) (bL (by rw [cW];omega) (aB (gt rfl (gO F2)) (aB (x:=true) ?_ (fc rfl rfl))))))))))))))))))
        rw [← e0]
        exact Jq (CT eu))
      (fun _ _=>by unfold xu;exact d4 (by omega) rfl) () trivial
     exact e
    unfold xv
    rw [f5 (n:=n) (by omega)]
    exact ed (by omega) (bL (by rw [cW];omega) (aB (gt rfl (gO a0)) (aB pl (fc rfl (gk (by simp only;rw [gv,cW];exact sL rfl) (d4 (by omega) (d4 (by rw [hL,kq,gv];omega) (aB aeN rfl))))))))
    )
  (fun _ _=>by unfold xv;exact d4 (by omega) rfl) () trivial
 exact e
theorem VM (x0:List Int)(i0:(fun l=>l.length≤maxLen∧ ∀x∈l,(fun _=>True) x) x0):DM x0=some true:=by
 unfold DM
 by_cases h0:(1048576:Int)<len_ eU8 x0
 ·exact ed h0 rfl
 have aJ:x0.length≤1048576:=by rw [gv] at h0;omega
 obtain ⟨s,l,az,d,mS⟩:=Xv x0 aJ
 obtain ⟨m,aH,qa⟩:=Xw s d x0 aJ 40 (by omega)
 obtain ⟨qz,b2,ael⟩:=X4 x0 aJ 50 (by omega)
 have v:=d.v
 have bn:=v.2.2.2
 have bu:=v.2.2.1
 have gC:=d.gC
 have tW:=tv s
 have oZ:=qZ s
 obtain ⟨k,aX,MO⟩ : ∃k:Nat,k<s.b5.length∧qz.tmod (len_ dm s.b5)=(k:Int):=by
  refine ⟨(qz % (s.b5.length:Int)).toNat,?_,?_⟩
  ·have a:=Int.emod_nonneg qz (show (s.b5.length:Int)≠0 by omega)
   have b:=Int.emod_lt_of_pos qz (show 0<(s.b5.length:Int) by omega)
   omega
  ·have a:=Int.emod_nonneg qz (show (s.b5.length:Int)≠0 by omega)
   rw [gv,Int.tmod_eq_emod_of_nonneg ael];omega
 have sd : ∀L∈([l,m]:List (List Int)),tu s.cE.length L=true:=fun L jY=>by
  have TR:p4 s L:=by
   simp at jY
   rcases jY with rfl|rfl<;>assumption
  unfold tu
  rw [decide_eq_true TR.1,Bool.true_and,List.all_eq_true]
  intro x aa
  unfold sy
  exact decide_eq_true (TR.cU x aa)
 have P:=aap s v mS.cU qa.cU
 have jr:=Wz s v [l,m] (by simp) (by simp) sd
 have uW:=YI s d mS qa
 have fF:cH s [l,m]=bA s+2:=rfl
 have pD:bA s≤cH s [l,m]:=by omega
 have hi:=Kx s v pD (k:Int) 1 (.inl rfl) (fH s) (cH s [l,m]) (k2 s [l,m]).fX (k2 s [l,m]).fY (fun _=>0) (fun _ _=>rfl)
 have ME:=ZF s v pD (k:Int) 1 (.inl rfl) (fH s) (cH s [l,m]) (k2 s [l,m]).fX (k2 s [l,m]).fY (fun _=>0) (fun _ _=>rfl)
 have iu:=Kx s v pD (k:Int) (-1) (.inr rfl) (fH s) (cH s [l,m]) (k2 s [l,m]).fX (k2 s [l,m]).fY (h2 s (k:Int) 1) (fun j aC=>En s _ _ aC)
 obtain ⟨aq,s1,g1⟩:=Kf (R1 P (a2 (cH s [l,m]) (h2 s (k:Int) 1))) (c:=h2 s (k:Int) 1) rfl (fun j _=>by have:=Qz s (k:Int) (sign:=1) (.inl rfl) j;omega)
 obtain ⟨bE,s2,g2⟩:=Kf (R1 P (a2 (cH s [l,m]) (h2 s (k:Int) (-1)))) (c:=h2 s (k:Int) (-1)) rfl (fun j _=>by have:=Qz s (k:Int) (sign:= -1) (.inr rfl) j;omega)
 have abH:len_ dm s.b5≠0:=by rw [gv];omega
 have hU : ¬(k:Int)<0:=by omega
 have F4 : ¬len_ dm s.b5≤(k:Int):=by rw [gv];omega
 have aem:(a2 (cH s [l,m]) fun _=>(0:Int)).length=(a2 (cH s [l,m]) (h2 s (k:Int) 1)).length:=by rw [cW,cW]
 have F5:(a2 (cH s [l,m]) fun _=>(0:Int)).length=(a2 (cH s [l,m]) (h2 s (k:Int) (-1))).length:=by rw [cW,cW]
 refine d4 h0 (aB az (aB (K4 s d l mS.1 mS.cU).2 (fc rfl (aB d.ok (fc rfl (aB aH (aB b2 (bL abH ?_))))))))
 simp only
 rw [MO]
 have range : ∀ {t},sX s (k:Int) (fH s:Int) (cH s [l,m]:Int) (k2 s [l,m]).fX (k2 s [l,m]).fY (k2 s [l,m]).jt=some t→(a2 (cH s [l,m]) fun _=>(0:Int)).length=t.2.2.2.2.2.2.2.2.2.length→Ac s [l,m] (k:Int)=some (⟨⟨⟨t.1,t.2.1⟩,t.2.2.1⟩,⟨⟨t.2.2.2.1,t.2.2.2.2.1⟩,t.2.2.2.2.2.1⟩,t.2.2.2.2.2.2.1,t.2.2.2.2.2.2.2.1⟩,t.2.2.2.2.2.2.2.2.1):=fun {t} cq aL=>by
  unfold Ac
  exact aB uW (fc rfl (d4 hU (d4 F4 (aB jr (aB cq (bL aL rfl))))))
 rcases g1 with ⟨no,rfl⟩|⟨aeO,ag0,rfl⟩|⟨x,w,op,⟨hL,kq,oh⟩,wV,wW,rfl⟩
 ·
  have sp:sX s (k:Int) (fH s:Int) (cH s [l,m]:Int) (k2 s [l,m]).fX (k2 s [l,m]).fY (k2 s [l,m]).jt=some (false,[],[],false,[],[],false,false,false,a2 (cH s [l,m]) (h2 s (k:Int) 1)):=aB hi (aB s1 (fc rfl rfl))
  have hb:sk s [l,m] (k:Int) true=some ([],[],false):=by
   unfold sk
   exact aB uW (fc rfl (d4 hU (d4 F4 (aB jr (aB (x:=1) rfl (aB ME (aB (x:=([],[],false)) (aB s1 (fc rfl rfl)) (gk rfl rfl))))))))
  refine aB (range sp aem) (aB (AZ s d mS qa aX false _ _ _ _ _ _ _ _ fun L x w jY q=> ?_) (aB hb (gk rfl (gk rfl rfl))))
  obtain ⟨y,aP,-⟩:=EP jY q.l3.1
  exact (no ⟨y,aP⟩).elim
 ·
  have hb:sk s [l,m] (k:Int) true=some ([],[],false):=by
   unfold sk
   exact aB uW (fc rfl (d4 hU (d4 F4 (aB jr (aB (x:=1) rfl (aB ME (aB (x:=([],[],false)) (aB s1 (fc rfl rfl)) (gk rfl rfl))))))))
  rcases g2 with ⟨no,-⟩|⟨-,-,rfl⟩|⟨z,u,MF,⟨js,l9,gK⟩,sR,wX,rfl⟩
  ·exact (no aeO).elim
  ·have sp:sX s (k:Int) (fH s:Int) (cH s [l,m]:Int) (k2 s [l,m]).fX (k2 s [l,m]).fY (k2 s [l,m]).jt=some ((e5 0).fN.cY,(e5 0).fN.cB,(e5 0).gE,(e5 0).fN.cY,(e5 0).fN.cB,(e5 0).gE,true,true,true,a2 (cH s [l,m]) (h2 s (k:Int) (-1))):=aB hi (aB s1 (gk rfl (fc rfl (aB Lu (aB iu (aB s2 (fc rfl rfl)))))))
   refine aB (range sp F5) (aB (AZ s d mS qa aX true _ _ _ _ _ _ _ _ fun L x w jY q=>⟨rfl,?_⟩) (aB hb (gk rfl (fc rfl rfl))))
   exact Eo AX AX ((AY v q (by omega)).rS k) (fun _=>rfl) (fun _=>rfl) (fun h=>by simp at h) (fun h=>by simp at h)
  ·have sp:sX s (k:Int) (fH s:Int) (cH s [l,m]:Int) (k2 s [l,m]).fX (k2 s [l,m]).fY (k2 s [l,m]).jt=some ((e5 (-(val (cH s [l,m]) (jC (cH s [l,m]) (h2 s (k:Int) (-1))) z))).fN.cY,(e5 (-(val (cH s [l,m]) (jC (cH s [l,m]) (h2 s (k:Int) (-1))) z))).fN.cB,(e5 (-(val (cH s [l,m]) (jC (cH s [l,m]) (h2 s (k:Int) (-1))) z))).gE,(e5 0).fN.cY,(e5 0).fN.cB,(e5 0).gE,false,true,true,a2 (cH s [l,m]) (h2 s (k:Int) (-1))):=aB hi (aB s1 (gk rfl (fc rfl (aB Lu (aB iu (aB s2 (gk rfl (aB (Fe _) (aB (y8 wX.neg) (aB (sw wX.neg) rfl))))))))))
   refine aB (range sp F5) (aB (AZ s d mS qa aX true _ _ _ _ _ _ _ _ fun L x w jY q=>⟨rfl,?_⟩) (aB hb (gk rfl (fc rfl rfl))))
   obtain ⟨y,aP,hT⟩:=EP jY q.l3.1
   have sU:=MF.Fo aP
   rw [rF s pD,rF s pD,hT] at sU
   refine Eo wX.neg AX ((AY v q (by omega)).rS k) (fun h=>by simp at h) (fun _=>rfl) (fun _=> ?_) (fun h=>by simp at h)
   rw [rF s pD,Rat.intCast_neg] at *
   grind
 ·
  have bo:pS (16*ea) (gh s x (bA s)) w:=AY v (q:=(⟨op,hL,kq,oh,wV⟩:BV _ _ _ _ _ x w)) (by show 2*dC s+1≤20;omega)
  have hq:ky 100 (fH s)≤ea:=KO (by show 2*dC s+1≤20;omega)
  have aa:pS (16*ea) x w:=⟨hL,kq.mono (by omega),fun j=>(oh j).mono (by omega),Sr⟩
  obtain ⟨bN,c2,mL⟩:=Kj.1 op.1
  have nL:=ZG s v (X:=val (cH s [l,m]) (jC (cH s [l,m]) (h2 s (k:Int) 1)) x) (by show 2*dC s+1≤20;omega) pD s1 ⟨hL,kq,oh⟩ wV
  have hb:sk s [l,m] (k:Int) true=some (a2 s.b5.length (fun k=>e5 (gh s x (bA s) k)),a2 2 (fun j=>e5 (x (bA s+j))),true):=by
   have t2:cH s [l,m]-bA s=2:=by omega
   rw [t2] at nL
   unfold sk
   exact aB uW (fc rfl (d4 hU (d4 F4 (aB jr (aB (x:=1) rfl (aB ME (aB nL (fc rfl (aB (Em (by omega) fun k _=>bo.rS k) (aB (Em (by omega) fun j _=>wV _) (fc rfl (fc rfl rfl))))))))))))
  have hval:val (cH s [l,m]) (jC (cH s [l,m]) (h2 s (k:Int) 1)) x=gh s x (bA s) k:=by rw [rF s pD,show ((1:Int):Rat)=1 from rfl,Rat.one_mul]
  have fin : ∀(X:Option c4) (bZ:c4) (fM:Bool),(sk s [l,m] (k:Int) true >>= fun fw =>
   if fw.2.2=true then
    if ((len_ da fw.2.1) != (2:Int))=true then
     some false
    else
     if ((len_ da fw.1) != (len_ dm s.b5))=true then
      some false
     else
      if 0≤(k:Int)∧(k:Int)<fw.1.length then
      fw.1[(k:Int).toNat]? >>= fun tK =>
      s7 tK (e5 (gh s x (bA s) k)) >>= fun jy =>
      if jy=true then
       ya s fw.1 >>= fun sO =>
       if sO=true then
        if 0≤(0:Int)∧(0:Int)<fw.2.1.length then
        fw.2.1[0]? >>= fun sP =>
        vf sP >>= fun tL =>
        if (decide (tL<(0:Int)))=true then
         some false
        else
         if 0≤(1:Int)∧(1:Int)<fw.2.1.length then
         fw.2.1[1]? >>= fun tM =>
         vf tM >>= fun uJ =>
         if (decide (uJ<(0:Int)))=true then
          some false
         else
          yk sP tM >>= fun zJ =>
          sm 1 >>= fun zK =>
          s7 zJ zK >>= fun qz =>
          if qz=true then
           Af s >>= fun uK =>
           Ad l m fw.1 fw.2.1 uK (len_ I uK) s.cE s.b5 0 >>= fun Cm =>
           match Cm with
           | .inl Cn=>(some true)
           | .inr Cn=>(some false)
          else
           some false
         else none
        else none
       else
        some false
      else
       some false
      else none
   else
    if true=true then
     some false
    else
     some true)=some true:=fun _ _ _=>by
   have kA:oL 1:=mB.2 (by omega)
   have f1:fO (1:Rat):=vB (n:=1) kA
   have dk:Af s=some (a2 (dC s) fun q=>((fV s q:Nat):Int)):=by
    rw [← EA]
    exact aB d.ok (fc rfl (aB (DU s (by omega)) rfl))
   refine aB hb (fc rfl (gk (by simp only;rw [gv,cW];exact sL rfl) (gk (by simp only;rw [gv,gv,cW];exact sL rfl) (bL (by simp only [cW];omega) (aB (gt rfl (gO aX)) (aB (Jq (bo.rS k)) (fc rfl (aB (ZE s d.ok v bo.rS (aan s fun j aC=>bN j (by omega))) (fc rfl (bL (by simp only [cW];omega) (aB (x:=e5 (x (bA s))) rfl (aB (PV (wV _)) (d4 (KS (bN _ (by omega))) (bL (by simp only [cW];omega) (aB (x:=e5 (x (bA s+1))) rfl (aB (PV (wV _)) (d4 (KS (bN _ (by omega))) (aB (QB (wV _) (wV _) (by rw [mL];exact f1)) (aB (Ki kA) (aB (x:=true) ?_ (fc rfl (aB dk ?_))))))))))))))))))))))
   ·rw [mL];exact Jq f1
   ·rw [gP,cW]
    exact aB (ZI s d mS qa bo aa op.1) rfl
  rw [hval] at s1 wW
  rcases g2 with ⟨no,-⟩|⟨-,-,rfl⟩|⟨z,u,MF,⟨js,l9,gK⟩,sR,wX,rfl⟩
  ·exact (no ⟨x,op.1⟩).elim
  ·have sp:sX s (k:Int) (fH s:Int) (cH s [l,m]:Int) (k2 s [l,m]).fX (k2 s [l,m]).fY (k2 s [l,m]).jt=some ((e5 0).fN.cY,(e5 0).fN.cB,(e5 0).gE,(e5 (gh s x (bA s) k)).fN.cY,(e5 (gh s x (bA s) k)).fN.cB,(e5 (gh s x (bA s) k)).gE,true,false,true,a2 (cH s [l,m]) (h2 s (k:Int) (-1))):=aB hi (aB s1 (gk rfl (gk rfl (aB (y8 wW) (aB (sw wW) (aB iu (aB s2 (fc rfl (aB Lu rfl)))))))))
   refine aB (range sp F5) (aB (AZ s d mS qa aX true _ _ _ _ _ _ _ _ fun L y w jY q=>⟨rfl,?_⟩) (fin none (e5 0) true))
   obtain ⟨ln,l2,hT⟩:=EP jY q.l3.1
   have sU:=op.Fo l2
   rw [rF s pD,rF s pD,hT,show ((1:Int):Rat)=1 from rfl,Rat.one_mul,Rat.one_mul] at sU
   exact Eo AX wW ((AY v q (by omega)).rS k) (fun _=>rfl) (fun h=>by simp at h) (fun h=>by simp at h) (fun _=>sU)
  ·have sp:sX s (k:Int) (fH s:Int) (cH s [l,m]:Int) (k2 s [l,m]).fX (k2 s [l,m]).fY (k2 s [l,m]).jt=some ((e5 (-(val (cH s [l,m]) (jC (cH s [l,m]) (h2 s (k:Int) (-1))) z))).fN.cY,(e5 (-(val (cH s [l,m]) (jC (cH s [l,m]) (h2 s (k:Int) (-1))) z))).fN.cB,(e5 (-(val (cH s [l,m]) (jC (cH s [l,m]) (h2 s (k:Int) (-1))) z))).gE,(e5 (gh s x (bA s) k)).fN.cY,(e5 (gh s x (bA s) k)).fN.cB,(e5 (gh s x (bA s) k)).gE,false,false,true,a2 (cH s [l,m]) (h2 s (k:Int) (-1))):=aB hi (aB s1 (gk rfl (gk rfl (aB (y8 wW) (aB (sw wW) (aB iu (aB s2 (gk rfl (aB (Fe _) (aB (y8 wX.neg) (aB (sw wX.neg) rfl)))))))))))
   refine aB (range sp F5) (aB (AZ s d mS qa aX true _ _ _ _ _ _ _ _ fun L y w jY q=>⟨rfl,?_⟩) (fin none (e5 0) true))
   obtain ⟨ln,l2,hT⟩:=EP jY q.l3.1
   have sU:=op.Fo l2
   have ho:=MF.Fo l2
   rw [rF s pD,rF s pD,hT,show ((1:Int):Rat)=1 from rfl,Rat.one_mul,Rat.one_mul] at sU
   rw [rF s pD,rF s pD,hT] at ho
   refine Eo wX.neg wW ((AY v q (by omega)).rS k) (fun h=>by simp at h) (fun h=>by simp at h) (fun _=> ?_) (fun _=>sU)
   rw [rF s pD,Rat.intCast_neg] at *
   grind
end Go.Proofs.YtgfpnhmcmgnepaeGreat
