/- Lemmas, plain functions of the program, and what they answer. No condition. -/
import Derived.Test.YtojbgalflbgajabGreatME
namespace Go.Proofs.YtojbgalflbgajabGreat
set_option linter.unusedVariables false
set_option linter.unusedSimpArgs false
open Go Go.VL
theorem yB {α:Type}(l:List α)(x y:α):(l++[x]).set l.length y=l++[y]:=by simp
theorem QL {p:m8}{m n:Nat}{a:Nat→Nat→Int}{b:Nat→Int}(h:n2 p m n a b){i:Nat}(ag:i<m):xH i p.jL p.i1 p.f9 p.fX p.jT=some (i*n,n):=by
 have hm:=h.hm
 have a0:=h.a0
 have o:i*n≤20*40:=Nat.mul_le_mul (by omega) a0
 have J:(i+1)*n≤20*40:=Nat.mul_le_mul (by omega) a0
 have af:(i+1)*n≤m*n:=Nat.mul_le_mul_right _ ag
 have aC:U ((i:Int)*p.i1)=((i*n:Nat):Int):=by
  rw [h.hl,← Int.natCast_mul,c1 (by omega) (by omega)]
 have aH:U (U ((i:Int)+1)*p.i1)=(((i+1)*n:Nat):Int):=by
  rw [h.hl,gu (by omega),← Int.natCast_mul,c1 (by omega) (by omega)]
 have aF:(i+1)*n=i*n+n:=Nat.succ_mul i n
 unfold xH
 rw [aC,aH,Int.toNat_natCast,Int.toNat_natCast,h.n7]
 refine bP (by omega) (bP (by omega) (bP ⟨by omega,af⟩ ?_))
 rw [show 0+i*n=i*n by omega,show (i+1)*n-i*n=n by omega]
theorem W4 {p:m8}{m n:Nat}{a:Nat→Nat→Int}{b:Nat→Int}(h:n2 p m n a b){i:Nat}(ag:i<m)(aW:b i<0)(x0:Int)(fJ:Bool)(eo:List Int)(bg:List b8)(cI:List Int)(eU:List Bool)(P:List (List bf)):
 Dw x0 (i:Int) P.length (n+m+1) p.jL (i*n) n ((n:Nat):Int) p.i1 p.f9 p.fX p.jT fJ eo bg cI eU 0 (P++[a4 (n+m+1) fun _=>bW 0])=some (P++[a4 (n+m+1) fun j=>if j<n then bW (ex m n a b i j) else bW 0]):=by
 have hm:=h.hm
 have a0:=h.a0
 have b0:mb (b i) = -1:=by unfold mb;rw [if_pos aW]
 unfold Dw
 obtain ⟨s1,aC,-⟩:=iN (f:=fun w:Int×List (List bf)=>xr x0 (i:Int) P.length (n+m+1) p.jL (i*n) n ((n:Nat):Int) p.i1 p.f9 p.fX p.jT fJ eo bg cI eU w.1 w.2)
  (fun (k:Nat) (_:Unit)=>((k:Int),P++[a4 (n+m+1) fun j=>if j<k then bW (ex m n a b i j) else bW 0])) n (fun _ _=>True) (fun _=>P++[a4 (n+m+1) fun j=>if j<n then bW (ex m n a b i j) else bW 0])
  (fun k aY _ _=>by
    refine ⟨(),?_,trivial⟩
    have bH:=h.wK i ag k aY
    have e:U ((-1:Int)*a i k)=oF m n a b i k:=by
     rw [c1 (by omega) (by omega)];unfold oF;rw [if_pos aY,b0]
    unfold xr
    refine ew (by simp only;omega) (bP (by simp only;omega) (aG (x:=a i k) (by simp only;rw [Int.toNat_natCast];exact h.BH i ag k aY) (aG (x:=bW (ex m n a b i k)) (by rw [e];exact sU (by have:=Bh h ag k;rw [mv];omega)) (aG (Kt _ _) (bP (by simp only;omega) (aG (by simp only;rw [Int.toNat_natCast];exact jU (by omega)) ?_))))))
    simp only
    rw [gu (by omega),Int.toNat_natCast,Nat.zero_add,kP,yB]
    congr 5
    refine fy fun j _=> ?_
    by_cases bE:j=k
    ·subst bE;rw [if_pos rfl,if_pos (by omega)]
    ·rw [if_neg bE]
     by_cases cX:j<k
     ·rw [if_pos cX,if_pos (by omega)]
     ·rw [if_neg cX,if_neg (by omega)])
  (fun _ _=>by unfold xr;exact eY (by simp) rfl) () trivial
 have e0:(a4 (n+m+1) fun j=>if j<0 then bW (ex m n a b i j) else bW 0)=a4 (n+m+1) fun _=>bW 0:=fy fun j _=>by rw [if_neg (by omega)]
 rw [e0] at aC
 exact aC
theorem W5 {p:m8}{m n:Nat}{a:Nat→Nat→Int}{b:Nat→Int}(h:n2 p m n a b){i:Nat}(ag:i<m)(aW:¬b i<0)(x0:Int)(fJ:Bool)(eo:List Int)(bg:List b8)(cI:List Int)(eU:List Bool)(P:List (List bf)):
 Dx x0 (i:Int) P.length (n+m+1) p.jL (i*n) n ((n:Nat):Int) p.i1 p.f9 p.fX p.jT fJ eo bg cI eU 0 (P++[a4 (n+m+1) fun _=>bW 0])=some (P++[a4 (n+m+1) fun j=>if j<n then bW (ex m n a b i j) else bW 0]):=by
 have hm:=h.hm
 have a0:=h.a0
 have b0:mb (b i)=1:=by unfold mb;rw [if_neg aW]
 unfold Dx
 obtain ⟨s1,aC,-⟩:=iN (f:=fun w:Int×List (List bf)=>xt x0 (i:Int) P.length (n+m+1) p.jL (i*n) n ((n:Nat):Int) p.i1 p.f9 p.fX p.jT fJ eo bg cI eU w.1 w.2)
  (fun (k:Nat) (_:Unit)=>((k:Int),P++[a4 (n+m+1) fun j=>if j<k then bW (ex m n a b i j) else bW 0])) n (fun _ _=>True) (fun _=>P++[a4 (n+m+1) fun j=>if j<n then bW (ex m n a b i j) else bW 0])
  (fun k aY _ _=>by
    refine ⟨(),?_,trivial⟩
    have bH:=h.wK i ag k aY
    have e:U ((1:Int)*a i k)=oF m n a b i k:=by
     rw [c1 (by omega) (by omega)];unfold oF;rw [if_pos aY,b0]
    unfold xt
    refine ew (by simp only;omega) (bP (by simp only;omega) (aG (x:=a i k) (by simp only;rw [Int.toNat_natCast];exact h.BH i ag k aY) (aG (x:=bW (ex m n a b i k)) (by rw [e];exact sU (by have:=Bh h ag k;rw [mv];omega)) (aG (Kt _ _) (bP (by simp only;omega) (aG (by simp only;rw [Int.toNat_natCast];exact jU (by omega)) ?_))))))
    simp only
    rw [gu (by omega),Int.toNat_natCast,Nat.zero_add,kP,yB]
    congr 5
    refine fy fun j _=> ?_
    by_cases bE:j=k
    ·subst bE;rw [if_pos rfl,if_pos (by omega)]
    ·rw [if_neg bE]
     by_cases cX:j<k
     ·rw [if_pos cX,if_pos (by omega)]
     ·rw [if_neg cX,if_neg (by omega)])
  (fun _ _=>by unfold xt;exact eY (by simp) rfl) () trivial
 have e0:(a4 (n+m+1) fun j=>if j<0 then bW (ex m n a b i j) else bW 0)=a4 (n+m+1) fun _=>bW 0:=fy fun j _=>by rw [if_neg (by omega)]
 rw [e0] at aC
 exact aC
theorem nM {α:Type}(n:Nat)(x:α):List.replicate n x=a4 n fun _=>x:=by
 apply List.ext_getElem?
 intro i
 by_cases c:i<n
 ·rw [gX c];simp [c]
 ·rw [List.getElem?_eq_none_iff.2 (by simp;omega),List.getElem?_eq_none_iff.2 (by rw [c5];omega)]
theorem Ot {p:m8}{m n:Nat}{a:Nat→Nat→Int}{b:Nat→Int}(h:n2 p m n a b)(fJ:Bool)(eo:List Int)(eU:List Bool):
 Dy ((n+m:Nat):Int) p.jL p.i1 p.f9 p.fX p.jT fJ eo eU 0 ([]:List b8) ([]:List (List bf)) ([]:List Int)=some (gZ m (n+m) (fun i=>i),a4 m (fun i=>a4 (n+m+1) fun j=>bW (ex m n a b i j)),e2 m (pz m n a b)):=by
 have hm:=h.hm
 have a0:=h.a0
 unfold Dy
 obtain ⟨s,e,-⟩:=iN (f:=fun w:Int×(List b8)×(List (List bf))×(List Int)=>xu ((n+m:Nat):Int) p.jL p.i1 p.f9 p.fX p.jT fJ eo eU w.1 w.2.1 w.2.2.1 w.2.2.2)
  (fun (i:Nat) (_:Unit)=>((i:Int),a4 i (fun k=>(some (k,n+m+1):b8)),a4 i (fun i=>a4 (n+m+1) fun j=>bW (ex m n a b i j)),a4 i (fun k=>((n+k:Nat):Int)))) m (fun _ _=>True)
  (fun _=>(gZ m (n+m) (fun i=>i),a4 m (fun i=>a4 (n+m+1) fun j=>bW (ex m n a b i j)),e2 m (pz m n a b)))
  (fun i ag _ _=>by
    refine ⟨(),?_,trivial⟩
    have aW:=h.CI i ag
    have iM:U (((n+m:Nat):Int)+1)=((n+m+1:Nat):Int):=gu (by omega)
    have hw:U (p.i1+(i:Int))=((n+i:Nat):Int):=by rw [h.hl,← Int.natCast_add,c1 (by omega) (by omega)]
    have Tg:(a4 i (fun i=>a4 (n+m+1) fun j=>bW (ex m n a b i j))).length=i:=c5 ..
    have qD:oF m n a b i (n+m)=mb (b i)*b i:=by unfold oF;rw [if_neg (by omega),if_pos rfl]
    have dV:((a4 (n+m+1) fun j=>if j<n then bW (ex m n a b i j) else bW 0).set (n+i) (bW ((1:Int):Rat))).set (n+m) (bW (ex m n a b i (n+m)))=a4 (n+m+1) fun j=>bW (ex m n a b i j):=by
     rw [kP,kP]
     refine fy fun j aE=> ?_
     by_cases bE:j=n+m
     ·rw [if_pos bE,bE]
     ·rw [if_neg bE]
      by_cases cX:j=n+i
      ·rw [if_pos cX,cX,vz ag,if_pos rfl];rfl
      ·rw [if_neg cX]
       by_cases pL:j<n
       ·rw [if_pos pL]
       ·rw [if_neg pL]
        obtain ⟨k,rfl⟩ : ∃k,j=n+k:=⟨j-n,by omega⟩
        rw [vz (by omega),if_neg (by omega)]
    unfold xu
    rw [iM,hw,Int.toNat_natCast]
    refine ew (by simp only;rw [h.rows];omega) (bP (by omega) (bP (by simp only;rw [h.MN];omega) (aG (x:=b i) (by simp only [Int.toNat_natCast,Nat.zero_add];exact h.Lk i ag) ?_)))
    have fin:(some (Sum.inl (U ((i:Int)+1),(a4 i (fun k=>(some (k,n+m+1):b8)))++[some (i,n+m+1)],(a4 i (fun i=>a4 (n+m+1) fun j=>bW (ex m n a b i j)))++[a4 (n+m+1) fun j=>bW (ex m n a b i j)],(a4 i fun k=>((n+k:Nat):Int))++[((n+i:Nat):Int)])):Option ((Int×(List b8)×(List (List bf))×(List Int))⊕((List b8)×(List (List bf))×(List Int)))) =
     some (Sum.inl (((i+1:Nat):Int),a4 (i+1) (fun k=>(some (k,n+m+1):b8)),a4 (i+1) (fun i=>a4 (n+m+1) fun j=>bW (ex m n a b i j)),a4 (i+1) (fun k=>((n+k:Nat):Int)))):=by
     rw [gu (by omega),AE i (fun k=>(some (k,n+m+1):b8)),AE i (fun i=>a4 (n+m+1) fun j=>bW (ex m n a b i j)),AE i (fun k=>((n+k:Nat):Int))]
    have aa : ∀(P:List (List bf)) (F:List bf→Option ((Int×(List b8)×(List (List bf))×(List Int))⊕((List b8)×(List (List bf))×(List Int)))) (x:List bf) r,F x=r→(P++[x])[P.length]? >>= F=r:=fun P F x r sI=>aG (Kt P x) sI
    refine Cz (fun c=> ?_) (fun c=> ?_)
    ·have q1:b i<0:=of_decide_eq_true c
     have b0:mb (b i) = -1:=by unfold mb;rw [if_pos q1]
     refine aG (QL h ag) (aG (by rw [QK,nM];exact W4 h ag q1 _ _ _ _ _ _ _) (aG (sU (n:=1) (by rw [mv];omega)) (aa _ _ _ _ ?_)))
     refine bP (by omega) (aG (x:=bW 0) (by rw [Int.toNat_natCast,jU (by omega),if_neg (by omega)]) (aG (x:=bW (ex m n a b i (n+m))) (by
      have e:U ((-1:Int)*b i)=oF m n a b i (n+m):=by rw [qD,b0,c1 (by omega) (by omega)]
      rw [e];exact sU (by have:=Bh h ag (n+m);rw [mv];omega)) ?_))
     rw [yB,Int.toNat_natCast,Nat.zero_add,Int.toNat_natCast,Nat.zero_add]
     refine aa _ _ _ _ (bP (by omega) ?_)
     obtain ⟨v,a6⟩ : ∃v,((a4 (n+m+1) fun j=>if j<n then bW (ex m n a b i j) else bW 0).set (n+i) (bW ((1:Int):Rat)))[n+m]? = some v:=by
      rw [kP,gX (by omega)];exact ⟨_,rfl⟩
     refine aG a6 (bP (by simp only [List.length_append,c5,List.length_cons,List.length_nil];omega) (bP (by simp only [List.length_append,c5,List.length_cons,List.length_nil];omega) ?_))
     rw [yB]
     simp only [Int.toNat_natCast,Nat.zero_add]
     rw [dV,Tg]
     exact fin
    ·have q1 : ¬b i<0:=of_decide_eq_false c
     have b0:mb (b i)=1:=by unfold mb;rw [if_neg q1]
     refine aG (QL h ag) (aG (by rw [QK,nM];exact W5 h ag q1 _ _ _ _ _ _ _) (aG (sU (n:=1) (by rw [mv];omega)) (aa _ _ _ _ ?_)))
     refine bP (by omega) (aG (x:=bW 0) (by rw [Int.toNat_natCast,jU (by omega),if_neg (by omega)]) (aG (x:=bW (ex m n a b i (n+m))) (by
      have e:U ((1:Int)*b i)=oF m n a b i (n+m):=by rw [qD,b0,c1 (by omega) (by omega)]
      rw [e];exact sU (by have:=Bh h ag (n+m);rw [mv];omega)) ?_))
     rw [yB,Int.toNat_natCast,Nat.zero_add,Int.toNat_natCast,Nat.zero_add]
     refine aa _ _ _ _ (bP (by omega) ?_)
     obtain ⟨v,a6⟩ : ∃v,((a4 (n+m+1) fun j=>if j<n then bW (ex m n a b i j) else bW 0).set (n+i) (bW ((1:Int):Rat)))[n+m]? = some v:=by
      rw [kP,gX (by omega)];exact ⟨_,rfl⟩
     refine aG a6 (bP (by simp only [List.length_append,c5,List.length_cons,List.length_nil];omega) (bP (by simp only [List.length_append,c5,List.length_cons,List.length_nil];omega) ?_))
     rw [yB]
     simp only [Int.toNat_natCast,Nat.zero_add]
     rw [dV,Tg]
     exact fin)
  (fun _ _=>by unfold xu;exact eY (by simp only;rw [h.rows];omega) rfl) () trivial
 exact e
def qI (n j:Nat):Int:=if n≤j then -1 else 0
theorem Ro {m n j:Nat}(aE:j<n+m):((qI n j:Int):Rat)=iS m n j:=by
 unfold qI iS
 by_cases c:n≤j
 ·rw [if_pos c,if_pos ⟨c,aE⟩];rfl
 ·rw [if_neg c,if_neg (by omega)];rfl
theorem QM {m n:Nat}{t:cm}(hL:∀i,i<m→t.B i<n+m){j:Nat}(aE:j<n+m):t.dW m (fun j=>((qI n j:Int):Rat)) j=t.dW m (iS m n) j:=by
 unfold cm.dW
 simp only
 rw [Ro aE,fK (g:=fun i=>iS m n (t.B i)*t.T i j) fun i ag=>by rw [Ro (hL i ag)]]
theorem OL {p:m8}{m n:Nat}{a:Nat→Nat→Int}{b:Nat→Int}(h:n2 p m n a b)(x0:Int)(fJ:Bool)(eo:List Int)(bg:List b8)(b1:List (List bf))(cI:List Int):
 Dz x0 ((n+m:Nat):Int) p.jL p.i1 p.f9 p.fX p.jT fJ eo bg b1 cI 0 (a4 (n+m) fun _=>(0:Int)) (a4 (n+m) fun _=>false)=some (a4 (n+m) (qI n),a4 (n+m) fun j=>decide (j<n)):=by
 have hm:=h.hm
 have a0:=h.a0
 unfold Dz
 obtain ⟨s,e,-⟩:=iN (f:=fun w:Int×List Int×List Bool=>xv x0 ((n+m:Nat):Int) p.jL p.i1 p.f9 p.fX p.jT fJ eo bg b1 cI w.1 w.2.1 w.2.2)
  (fun (k:Nat) (_:Unit)=>((k:Int),(a4 (n+m) fun j=>if j<k then qI n j else 0),a4 (n+m) fun j=>if j<k then decide (j<n) else false)) (n+m) (fun _ _=>True) (fun _=>(a4 (n+m) (qI n),a4 (n+m) fun j=>decide (j<n)))
  (fun k aY _ _=>by
    refine ⟨(),?_,trivial⟩
    have aH:(a4 (n+m) fun j=>if j<k then decide (j<n) else false).set (0+((k:Int)).toNat) (decide (k<n))=a4 (n+m) fun j=>if j<k+1 then decide (j<n) else false:=by
     rw [Int.toNat_natCast,Nat.zero_add,kP]
     refine fy fun j _=> ?_
     by_cases c:j=k
     ·subst c;rw [if_pos rfl,if_pos (by omega)]
     ·rw [if_neg c]
      by_cases cX:j<k
      ·rw [if_pos cX,if_pos (by omega)]
      ·rw [if_neg cX,if_neg (by omega)]
    have MQ:decide ((k:Int)<p.i1)=decide (k<n):=by rw [h.hl];simp
    unfold xv
    simp only
    rw [MQ,aH,gu (by omega)]
    refine ew (by omega) (bP (by rw [c5];omega) (bP (by rw [c5,Int.toNat_natCast];omega) ?_))
    by_cases c:n≤k
    ·refine ew (by rw [h.hl];omega) (bP (by rw [c5];omega) (bP (by rw [c5,Int.toNat_natCast];omega) ?_))
     rw [Int.toNat_natCast,Nat.zero_add,kP]
     congr 4
     refine fy fun j _=> ?_
     by_cases bE:j=k
     ·subst bE;rw [if_pos rfl,if_pos (by omega)];unfold qI;rw [if_pos c]
     ·rw [if_neg bE]
      by_cases cX:j<k
      ·rw [if_pos cX,if_pos (by omega)]
      ·rw [if_neg cX,if_neg (by omega)]
    ·refine eY (by rw [h.hl];omega) ?_
     congr 4
     refine fy fun j _=> ?_
     by_cases bE:j=k
     ·subst bE;rw [if_neg (by omega),if_pos (by omega)];unfold qI;rw [if_neg c]
     ·by_cases cX:j<k
      ·rw [if_pos cX,if_pos (by omega)]
      ·rw [if_neg cX,if_neg (by omega)])
  (fun _ _=>by
    unfold xv
    refine eY (by simp) ?_
    simp only
    congr 3
    ·exact fy fun j aE=>by rw [if_pos aE]
    ·exact fy fun j aE=>by rw [if_pos aE]) () trivial
 have pN:(a4 (n+m) fun j=>if j<0 then qI n j else 0)=a4 (n+m) fun _=>(0:Int):=fy fun j _=>by rw [if_neg (by omega)]
 have uH:(a4 (n+m) fun j=>if j<0 then decide (j<n) else false)=a4 (n+m) fun _=>false:=fy fun j _=>by rw [if_neg (by omega)]
 rw [pN,uH] at e
 exact e
theorem W6 {p:m8}{m n:Nat}{a:Nat→Nat→Int}{b:Nat→Int}(h:n2 p m n a b){w:Rat}{t:cm}(f:oV m (n+m) w t){ev:List (List bf)}(gF:k1 m (n+m) m (fun i=>i) w t ev)(fJ:Bool)(eo:List Int)(x0:Int)(q:List Bool):
 ∃r,DA ((n+m:Nat):Int) ((m:Nat):Int) p.jL p.i1 p.f9 p.fX p.jT fJ eo x0 (e2 m t) (gZ m (n+m) fun i=>i) ev q 0=some r∧((r = .inr ()∧ ∃i,i<m∧n≤t.B i∧0<t.T i (n+m))∨(r = .inl ()∧ ∀i,i<m→n≤t.B i→ ¬0<t.T i (n+m))):=by
 have hm:=h.hm
 have a0:=h.a0
 have hw:=f.pos
 unfold DA
 exact sY (f:=fun w:Int=>xw ((n+m:Nat):Int) ((m:Nat):Int) p.jL p.i1 p.f9 p.fX p.jT fJ eo x0 (e2 m t) (gZ m (n+m) fun i=>i) ev q w) (fun (i:Nat) (_:Unit)=>(i:Int)) m (fun k _=> ∀i,i<k→n≤t.B i→ ¬0<t.T i (n+m)) _
  (fun i ag _ dp=>by
    have b0:=tZ ((f.iK i ag (n+m) (Nat.le_refl _)).mono (tm (by have:=qT;generalize ey=q at *;omega)))
    have g1:0≤(i:Int)∧(i:Int)<((e2 m t).length:Nat):=by unfold e2;rw [c5];omega
    have g2:(e2 m t)[(0+((i:Int)).toNat)]? = some ((t.B i:Nat):Int):=by rw [Int.toNat_natCast];exact jU ag
    have g3:0≤(i:Int)∧(i:Int)<((gZ m (n+m) fun i=>i).length:Nat):=by unfold gZ;rw [c5];omega
    have g4:(gZ m (n+m) fun i=>i)[(0+((i:Int)).toNat)]? = some (some (i,n+m+1)):=by rw [Int.toNat_natCast];exact jU ag
    unfold xw
    by_cases uG:n≤t.B i
    ·by_cases kK:0<t.T i (n+m)
     ·right
      exact ⟨_,ew (by omega) (bP g1 (aG g2 (ew (by rw [h.hl];omega) (bP g3 (aG g4 (aG (x:=(i,n+m+1)) rfl (aG (gF.row i ag) (bP (by simp only;omega) (aG (x:=bW (t.T i (n+m)*w)) (by rw [Int.toNat_natCast];exact jU (by omega)) (aG b0 (ew (by rw [yA hw];exact tY.2 kK) rfl))))))))))),.inl ⟨rfl,i,ag,uG,kK⟩⟩
     ·left
      refine ⟨(),ew (by omega) (bP g1 (aG g2 (ew (by rw [h.hl];omega) (bP g3 (aG g4 (aG (x:=(i,n+m+1)) rfl (aG (gF.row i ag) (bP (by simp only;omega) (aG (x:=bW (t.T i (n+m)*w)) (by rw [Int.toNat_natCast];exact jU (by omega)) (aG b0 (eY (by rw [yA hw];exact fun c=>kK (tY.1 c)) (by rw [gu (by omega)])))))))))))),fun k aY=> ?_⟩
      by_cases e:k=i
      ·rw [e];exact fun _=>kK
      ·exact dp k (by omega)
    ·left
     refine ⟨(),ew (by omega) (bP g1 (aG g2 (eY (by rw [h.hl];omega) (by rw [gu (by omega)])))),fun k aY=> ?_⟩
     by_cases e:k=i
     ·rw [e];exact fun c=>(uG c).elim
     ·exact dp k (by omega))
  (fun _ dp=>⟨_,by unfold xw;exact eY (by omega) rfl,.inr ⟨rfl,dp⟩⟩) () (fun k aY=>by omega)
theorem W7 {p:m8}{m n:Nat}{a:Nat→Nat→Int}{b:Nat→Int}(h:n2 p m n a b)(F:Nat→Bool)(fJ:Bool)(eo:List Int)(x0:Int)(bg:List b8)(b1:List (List bf))(cI:List Int):
 DB ((n+m:Nat):Int) p.jL p.i1 p.f9 p.fX p.jT fJ eo x0 bg b1 cI 0 (a4 (n+m) F)=some (a4 (n+m) fun j=>decide (j<n)):=by
 have hm:=h.hm
 have a0:=h.a0
 unfold DB
 obtain ⟨s,e,-⟩:=iN (f:=fun w:Int×List Bool=>xx ((n+m:Nat):Int) p.jL p.i1 p.f9 p.fX p.jT fJ eo x0 bg b1 cI w.1 w.2)
  (fun (k:Nat) (_:Unit)=>((k:Int),a4 (n+m) fun j=>if j<k then decide (j<n) else F j)) (n+m) (fun _ _=>True) (fun _=>a4 (n+m) fun j=>decide (j<n))
  (fun k aY _ _=>by
    refine ⟨(),?_,trivial⟩
    have MQ:decide ((k:Int)<p.i1)=decide (k<n):=by rw [h.hl];simp
    unfold xx
    simp only
    rw [MQ,gu (by omega)]
    refine ew (by omega) (bP (by rw [c5];omega) (bP (by rw [c5,Int.toNat_natCast];omega) ?_))
    rw [Int.toNat_natCast,Nat.zero_add,kP]
    congr 3
    refine fy fun j _=> ?_
    by_cases c:j=k
    ·subst c;rw [if_pos rfl,if_pos (by omega)]
    ·rw [if_neg c]
     by_cases cX:j<k
     ·rw [if_pos cX,if_pos (by omega)]
     ·rw [if_neg cX,if_neg (by omega)])
  (fun _ _=>by
    unfold xx
    refine eY (by simp) ?_
    simp only
    congr 2
    exact fy fun j aE=>by rw [if_pos aE]) () trivial
 have pN:(a4 (n+m) fun j=>if j<0 then decide (j<n) else F j)=a4 (n+m) F:=fy fun j _=>by rw [if_neg (by omega)]
 rw [pN] at e
 exact e
theorem Th {m n:Nat}{a:Nat→Nat→Int}{b:Nat→Int}:hG m (ex m n a b) (pz m n a b)=1:=by
 unfold hG;rw [Rj,if_pos (by grind)]
theorem Kd {p:m8}{m n:Nat}{a:Nat→Nat→Int}{b:Nat→Int}(h:n2 p m n a b):
 ∃r,u5 p.jL p.i1 p.f9 p.fX p.jT=some r∧((ng m n a b∧ ∃t a2 g ev,r = .inl ((bW (hG m (ex m n a b) t)).db,(bW (hG m (ex m n a b) t)).cN,((n+m:Nat):Int),gZ a2 (n+m) g,e2 a2 (iz g t),a4 (n+m) (fun j=>decide (j<n)),ev) ∧
  mT m n (n+m) (ex m n a b) t a2 g∧(∀i,i<a2→t.B (g i)<n)∧k1 a2 (n+m) m g (hG m (ex m n a b) t) (iz g t) ev)∨(¬ng m n a b∧r = .inr ())):=by
 have hm:=h.hm
 have a0:=h.a0
 have kM:=PE h
 have gQ:U (p.i1+p.jL)=((n+m:Nat):Int):=by rw [h.hl,h.rows,← Int.natCast_add,c1 (by omega) (by omega)]
 have ad7:k1 m (n+m) m (fun i=>i) (hG m (ex m n a b) (pz m n a b)) (pz m n a b) (a4 m (fun i=>a4 (n+m+1) fun j=>bW (ex m n a b i j))):=⟨c5 ..,fun i ag=>by
  rw [gX ag,Th]
  congr 1
  exact fy fun j _=>by
   show bW (ex m n a b i j)=bW (ex m n a b i j*1)
   congr 1;grind⟩
 obtain ⟨q,bK,t,ev,k6,e,⟨dp,rfl⟩,gF,eH⟩:=OK (eM:=m) (m:=m) (N:=n+m) (M:=m) (A:=ex m n a b) hm (by omega) (h:=fun i=>i) (fun i _ k _ e=>e) (qI n) (fun j _=>by unfold qI;split<;>omega) (fun j=>decide (j<n))
  (fun w t=>nT m (n+m) (ex m n a b) t∧w=hG m (ex m n a b) t) (fun w t dp=>⟨dp.1.ok,dp.1.lV,dp.2▸dp.1.q2 kM⟩)
  (fun w t r s dp b=>by
    obtain ⟨o,rfl⟩:=dp
    have aj:t.T r s≠0:=by have:=b.pos;grind
    exact ⟨o.vL kM b.ao b.b0 aj,o.hC b,KK o.ok o.tH b.ao b.b0 aj⟩)
  (w:=hG m (ex m n a b) (pz m n a b)) (t:=pz m n a b) ⟨⟨Z3,Yf,Zk⟩,rfl⟩ ad7
 rw [Th] at e
 have Ll : ∀j,j<n→t.dW m (iS m n) j≤0:=by
  rcases eH with ⟨-,eH,-⟩|⟨-,s,b0,-,ei,hK⟩
  ·intro j aE
   have:=eH j (by omega) (by simpa using aE)
   rw [QM dp.ok.kz (by omega)] at this
   grind
  ·rw [QM dp.ok.kz b0] at ei
   obtain ⟨i,ag,aj⟩:=W1 dp.ok b0 ei
   exact (hK i ag aj).elim
 have aC:oI 1=some (bW 1):=by
  have:=sU (n:=1) (by rw [mv];omega)
  rw [show ((1:Int):Rat)=1 from rfl] at this
  exact this
 obtain ⟨r,ae,bq⟩:=W6 h (dp.q2 kM) gF (bW (hG m (ex m n a b) t)).db (bW (hG m (ex m n a b) t)).cN ((n+m:Nat):Int) (a4 (n+m) k6)
 unfold u5
 rw [gQ]
 rcases bq with ⟨rfl,i,ag,hL,iK⟩|⟨rfl,hK⟩
 ·have BN : ¬ng m n a b:=fun b0=>by
   have:=Xm dp.lV (XK dp.ok dp.lV Ll b0) dp.ok.kz i ag hL
   grind
  refine ⟨_,aG aC (bP (by omega) (aG (Ot h _ _ _) (bP (by omega) (aG (x:=(a4 (n+m) (qI n),a4 (n+m) fun j=>decide (j<n))) (by rw [Int.toNat_natCast,nM,nM];exact OL h _ _ _ _ _ _) (aG e ?_))))),.inr ⟨BN,rfl⟩⟩
  refine aG (x:= .inr ()) ?_ rfl
  simp only
  rw [show ((e2 m t).length:Nat)=m from c5 ..]
  exact ae
 ·have ch : ∀i,i<m→n≤t.B i→t.T i (n+m)=0:=fun i ag hL=>by
   have o:=hK i ag hL
   have J:=dp.lV i ag
   grind
  have b0:ng m n a b:=Xl dp.ok dp.lV ch
  obtain ⟨d1,a2,g,jP,ny,p7,F7,j2⟩:=YC (n:=n) kM (by omega) (by omega) (a4 (n+m) fun j=>decide (j<n)) dp ch gF
  refine ⟨_,aG aC (bP (by omega) (aG (Ot h _ _ _) (bP (by omega) (aG (x:=(a4 (n+m) (qI n),a4 (n+m) fun j=>decide (j<n))) (by rw [Int.toNat_natCast,nM,nM];exact OL h _ _ _ _ _ _) (aG e ?_))))),.inl ⟨b0,d1,a2,g,jP,rfl,p7,F7,j2⟩⟩
  refine aG (x:= .inl ()) ?_ ?_
  ·simp only
   rw [show ((e2 m t).length:Nat)=m from c5 ..]
   exact ae
  ·simp only
   rw [show ((a4 (n+m) k6).length:Nat)=n+m from c5 ..]
   refine aG (W7 h k6 _ _ _ _ _ _) ?_
   rw [h.hl]
   exact aG ny rfl
structure pJ (m:Nat) (u v:cm):Prop where
 T : ∀i,i<m→ ∀j,u.T i j=v.T i j
 B : ∀i,i<m→u.B i=v.B i
theorem pJ.q2 {m N:Nat}{w:Rat}{u v:cm}(s:pJ m u v)(h:oV m N w v):oV m N w u :=
 ⟨h.pos,h.hw,fun i ag j aE=>by rw [s.T i ag];exact h.iK i ag j aE,fun i ag=>by rw [s.B i ag];exact h.hL i ag⟩
theorem pJ.cZ {m:Nat}{u v:cm}(s:pJ m u v){r:Nat}(ao:r<m)(k:Nat):pJ m (u.cZ r k) (v.cZ r k) where
 T:=fun i ag j=>by simp only [cm.cZ,s.T i ag,s.T r ao]
 B:=fun i ag=>by simp only [cm.cZ,s.B i ag]
theorem pJ.vL {m N:Nat}{w:Rat}{u v:cm}(s:pJ m u v){r k:Nat}(h:tn m N w v r k):tn m N w u r k :=
 ⟨h.ao,h.aY,by rw [s.T r h.ao];exact h.aj,fun i ag j aE=>by rw [(s.cZ h.ao k).T i ag,s.T r h.ao];exact h.zw i ag j aE⟩
theorem pJ.trans {m:Nat}{u v t:cm}(a:pJ m u v)(b:pJ m v t):pJ m u t:=⟨fun i ag j=>(a.T i ag j).trans (b.T i ag j),fun i ag=>(a.B i ag).trans (b.B i ag)⟩
theorem aaa {a2:Nat}{g:Nat→Nat}(inj:∀i,i<a2→ ∀k,k<a2→g i=g k→i=k)(t:cm){r:Nat}(ao:r<a2)(k:Nat):pJ a2 ((iz g t).cZ r k) (iz g (t.cZ (g r) k)) :=
 ⟨fun i ag j=>(AJ (t:=t) (k:=k) (inj i ag r ao)).1 j,fun i ag=>(AJ (t:=t) (k:=k) (inj i ag r ao)).2⟩
theorem Rp {m n:Nat}{a:Nat→Nat→Int}{b:Nat→Int}{x:Nat→Rat}{c:Nat}:cb n (fun j=>ex m n a b c j*x j)=((mb (b c):Int):Rat)*cb n (fun j=>(a c j:Rat)*x j):=by
 rw [← iO]
 exact fK fun j aE=>by rw [KF aE];grind
theorem mT.Rq {m n:Nat}{a:Nat→Nat→Int}{b:Nat→Int}{t:cm}{a2:Nat}{g:Nat→Nat}(h:mT m n (n+m) (ex m n a b) t a2 g)(hL:∀i,i<a2→t.B (g i)<n):LT m n a b a2 (n+m) (iz g t) where
 eqv:=fun x=>by
  have key:(∀i,i<m→cb n (fun j=>(a i j:Rat)*x j)=(b i:Rat))↔ ∀i,i<m→cb n (fun j=>ex m n a b i j*x j)=ex m n a b i (n+m):=by
   constructor
   ·intro aa i ag;rw [Rp,EP,aa i ag]
   ·intro aa i ag
    have:=aa i ag
    rw [Rp,EP] at this
    have h0:=Ri (b i)
    have e:((mb (b i):Int):Rat)*(cb n (fun j=>(a i j:Rat)*x j)-(b i:Rat))=0:=by grind
    rcases Rat.mul_eq_zero.1 e with e|e
    ·exact (h0 e).elim
    ·grind
  rw [key]
  constructor
  ·intro aa i ag
   obtain ⟨W,hW⟩:=h.inv.ok.row
   show cb n (fun j=>t.T (g i) j*x j)=t.T (g i) (n+m)
   rw [hW (g i) (h.lt i ag) (n+m) (Nat.le_refl _),fK (g:=fun j=>cb m (fun c=>W (g i) c*(ex m n a b c j*x j))) (fun j aE=>by
    rw [hW (g i) (h.lt i ag) j (by omega),← vd];exact fK fun c _=>by grind),pQ]
   exact fK fun c aQ=>by rw [iO,aa c aQ]
  ·intro aa c aQ
   have row : ∀i,i<m→cb n (fun j=>t.T i j*x j)=t.T i (n+m):=fun i ag=>by
    by_cases bT : ∃q,q<a2∧g q=i
    ·obtain ⟨q,bi,rfl⟩:=bT
     exact aa q bi
    ·obtain ⟨tF,rm⟩:=h.dead i ag fun q bi e=>bT ⟨q,bi,e⟩
     rw [h.z i ag tF]
     exact nJ fun j aE=>by rw [rm j aE];grind
   rw [h.inv.ok.rf c aQ (n+m) (Nat.le_refl _),fK (g:=fun j=>cb m (fun i=>ex m n a b c (t.B i)*(t.T i j*x j))) (fun j aE=>by
    rw [h.inv.ok.rf c aQ j (by omega),← vd];exact fK fun i _=>by grind),pQ]
   exact fK fun i ag=>by rw [iO,row i ag]
 unit:=fun i ag k aY=>by
  show t.T (g i) (t.B (g k))=_
  rw [h.inv.ok.unit _ (h.lt i ag) _ (h.lt k aY)]
  by_cases c:i=k
  ·rw [if_pos c,if_pos (by rw [c])]
  ·rw [if_neg c,if_neg fun e=>c (h.inj i ag k aY e)]
 kz:=hL
 lV:=fun i ag=>h.inv.lV _ (h.lt i ag)
 MI:=by omega
theorem mT.step {m n:Nat}{a:Nat→Nat→Int}{b:Nat→Int}{t:cm}{a2:Nat}{g:Nat→Nat}{K:Nat}{obj:Nat→Nat→Rat}{bT:Nat→Prop}(h:mT m n (n+m) (ex m n a b) t a2 g)(hL:∀i,i<a2→t.B (g i)<n){u:cm}(b0:pJ a2 u (iz g t)){r s:Nat}(c6:pT a2 (n+m) K obj bT u r s)(v7:s<n):
 mT m n (n+m) (ex m n a b) (t.cZ (g r) s) a2 g∧(∀i,i<a2→(t.cZ (g r) s).B (g i)<n)∧pJ a2 (u.cZ r s) (iz g (t.cZ (g r) s)):=by
 have ao:=c6.ao
 have aj:0<t.T (g r) s:=by have:=c6.pos;rw [b0.T r ao] at this;exact this
 have Ci:t.T (g r) s≠0:=by grind
 have Sf:=(b0.cZ ao s).trans (aaa h.inj t ao s)
 have Gb : ∀d,d<m→(∀i,i<a2→g i≠d)→ ∀j,(t.cZ (g r) s).T d j=t.T d j∧(t.cZ (g r) s).B d=t.B d:=fun d bc hK j=>by
  obtain ⟨tF,rm⟩:=h.dead d bc hK
  simp only [cm.cZ]
  rw [if_neg fun e=>hK r ao e.symm,if_neg fun e=>hK r ao e.symm,rm s v7]
  exact ⟨by grind,rfl⟩
 have q6 : ∀i,i<a2→(t.cZ (g r) s).B (g i)<n:=fun i ag=>by
  simp only [cm.cZ]
  split
  ·exact v7
  ·exact hL i ag
 have ad8:(u.cZ r s).lz a2 (n+m):=c6.BE fun i ag=>by rw [b0.T i ag];exact h.inv.lV _ (h.lt i ag)
 refine ⟨⟨⟨h.inv.ok.cZ (h.lt r ao) (by omega) Ci,fun i ag=> ?_,?_⟩,fun i ag a0=> ?_,h.le,h.lt,h.inj,fun d bc hK=> ?_⟩,q6,Sf⟩
 ·by_cases bT : ∃q,q<a2∧g q=i
  ·obtain ⟨q,bi,rfl⟩:=bT
   have:=ad8 q bi
   rw [Sf.T q bi] at this;exact this
  ·rw [(Gb i ag (fun q bi e=>bT ⟨q,bi,e⟩) _).1];exact h.inv.lV i ag
 ·rw [h.inv.ok.Bf (h.lt r ao) (by omega)]
  have:=h.inv.tH
  grind
 ·by_cases bT : ∃q,q<a2∧g q=i
  ·obtain ⟨q,bi,rfl⟩:=bT
   have:=q6 q bi;omega
  ·have hK : ∀q,q<a2→g q≠i:=fun q bi e=>bT ⟨q,bi,e⟩
   obtain ⟨aC,aH⟩:=Gb i ag hK (n+m)
   rw [aC]
   rw [aH] at a0
   exact h.z i ag a0
 ·obtain ⟨tF,rm⟩:=h.dead d bc hK
  refine ⟨by rw [(Gb d bc hK 0).2];exact tF,fun j aE=>by rw [(Gb d bc hK j).1];exact rm j aE⟩
structure pK (m n:Nat) (a:Nat→Nat→Int) (b:Nat→Int) (a2:Nat) (g:Nat→Nat) (hP:Nat→Nat→Rat) (dj:Nat→Bool) (w:Rat) (u:cm):Prop where
 bT : ∃t,mT m n (n+m) (ex m n a b) t a2 g∧(∀i,i<a2→t.B (g i)<n)∧pJ a2 u (iz g t)∧w=hG m (ex m n a b) t
 lt:LT m n a b a2 (n+m) u
 ok:gA a2 a2 (n+m) hP u
 MR : ∀i,i<a2→dj (u.B i)=true
theorem pK.q2 {m n:Nat}{a:Nat→Nat→Int}{b:Nat→Int}{a2:Nat}{g:Nat→Nat}{hP:Nat→Nat→Rat}{dj:Nat→Bool}{w:Rat}{u:cm}(kM:Small m (n+m) (ex m n a b))(h:pK m n a b a2 g hP dj w u):oV a2 (n+m) w u:=by
 obtain ⟨t,o,J,af,rfl⟩:=h.bT
 exact af.q2 (o.q2 kM)
theorem pK.hC {m n:Nat}{a:Nat→Nat→Int}{b:Nat→Int}{a2:Nat}{g:Nat→Nat}{hP:Nat→Nat→Rat}{dj k6:Nat→Bool}{w:Rat}{u:cm}{obj:Nat→Nat→Rat}{K:Nat}(kM:Small m (n+m) (ex m n a b))(h:pK m n a b a2 g hP k6 w u)(p1:∀j,j<n+m→dj j=true→j<n)(ad9:∀j,dj j=true→k6 j=true){r s:Nat}(c6:pT a2 (n+m) K obj (fun j=>dj j=true) u r s):
 tn a2 (n+m) w u r s∧pK m n a b a2 g hP k6 (pD w u r s) (u.cZ r s):=by
 obtain ⟨t,o,J,af,aF⟩:=h.bT
 have v7:=p1 s c6.b0 c6.FH
 obtain ⟨g1,g2,g3⟩:=o.step J af c6 v7
 have aj:=c6.pos
 have Ti:t.T (g r) s≠0:=by rw [af.T r c6.ao] at aj;show t.T (g r) s≠0;have:0<t.T (g r) s:=aj;grind
 refine ⟨aF▸af.vL (o.vL kM c6.ao (by omega) Ti),⟨t.cZ (g r) s,g1,g2,g3,?_⟩,h.lt.cZ c6.ao v7 (by grind) (c6.BE h.lt.lV),c6.ok h.ok,fun i ag=> ?_⟩
 ·rw [← KK o.inv.ok o.inv.tH (o.lt r c6.ao) (show s<n+m by omega) Ti,aF]
  unfold pD
  rw [af.T r c6.ao];rfl
 ·simp only [cm.cZ]
  split
  ·exact ad9 s c6.FH
  ·exact h.MR i ag
theorem P9 {m n:Nat}{a:Nat→Nat→Int}{b:Nat→Int}{a2:Nat}{g:Nat→Nat}(hm:m≤20)(a0:n≤40)(kM:Small m (n+m) (ex m n a b)){hP:Nat→Nat→Rat}{dj:Nat→Bool}{w:Rat}{u:cm}(h:pK m n a b a2 g hP dj w u)(p1:∀j,j<n+m→dj j=true→j<n)(inj:∀i,i<a2→ ∀k,k<a2→g i=g k→i=k)(k4:a2≤m)
 (R:Nat→Int) (al : ∀j,-100≤R j∧R j≤100) {c:Nat→Rat} {l:Nat} {V:Nat→Rat} (aea : ∀j,((R j:Int):Rat)=iI c l j) (s:pF m n a b c l dj V) {ev:List (List bf)} (gF:k1 a2 (n+m) m g w u ev) :
 ∃ok bK ls jP k6,sL (bW w).db (bW w).cN ((n+m:Nat):Int) (gZ a2 (n+m) g) ev (e2 a2 u) (a4 (n+m) dj) (a4 (n+m) R)=some (ok,(bW bK).db,(bW bK).cN,jP,e2 a2 ls,a4 (n+m) k6)∧k1 a2 (n+m) m g bK ls jP ∧
  ((ok=true∧pK m n a b a2 g hP k6 bK ls∧(∀j,j<n+m→k6 j=true→j<n)∧ ∃CB,pF m n a b c (l+1) k6 CB)∨(ok=false∧LT m n a b a2 (n+m) ls∧ ∃q,q<n∧0<ls.dW a2 (iI c l) q∧ ∀i,i<a2→ ¬0<ls.T i q)):=by
 have aeb:(fun j=>((R j:Int):Rat))=iI c l:=funext aea
 obtain ⟨ok,bK,ls,jP,k6,e,dp,Cr,eH⟩:=OK (eM:=a2) (m:=a2) (N:=n+m) (M:=m) (A:=hP) (h:=g) (by omega) (by omega) inj R (fun j _=>al j) dj
  (fun w u=>pK m n a b a2 g hP dj w u) (fun w u d2=>⟨d2.ok,d2.lt.lV,d2.q2 kM⟩)
  (fun w u r q d2 c6=>d2.hC kM p1 (fun j aE=>aE) c6) h gF
 rw [aeb] at eH
 refine ⟨ok,bK,ls,jP,k6,e,Cr,?_⟩
 rcases eH with ⟨o,J,af⟩|⟨o,q,J,ca,af,aF⟩
 ·left
  have Lm : ∀j,k6 j=true→dj j=true:=fun j aE=>by rw [af,Bool.and_eq_true] at aE;exact aE.1
  refine ⟨o,⟨dp.bT,dp.lt,dp.ok,fun i ag=> ?_⟩,fun j aE sy=>p1 j aE (Lm j sy),pF.next dp.lt s (fun j aE ca=>J j (by omega) ca) (fun j aE=>by rw [af])⟩
  rw [af]
  simp only
  rw [dp.MR i ag,dp.lt.ya _ ag,decide_eq_false (by grind)];rfl
 ·right
  exact ⟨o,dp.lt,q,p1 q J ca,af,aF⟩
def cT (x:Rat):Option bj:=some (k9 (gl x))
theorem aa2 {n d:Int}{x:Rat}(bc:0<d)(e:(d:Rat)*x=n):(n / (Int.gcd n d:Int),d / (Int.gcd n d:Int))=gl x:=by
 have tp:(d:Rat)≠0:=fun c=>by
  have:d=0:=Rat.intCast_inj.1 (by rw [c];rfl)
  omega
 have aa:x=Rat.divInt n d:=by rw [Rat.divInt_eq_div,← e];grind
 have aC:(Rat.divInt n d).num=n / (Int.gcd n d:Int):=by rw [Rat.num_divInt,Int.sign_eq_one_of_pos bc,Int.one_mul,Int.gcd_comm]
 have aH:((Rat.divInt n d).den:Int)=d / (Int.gcd n d:Int):=by
  rw [Rat.den_divInt,if_neg (by omega),Int.gcd_comm]
  rw [Int.natCast_ediv,Int.natAbs_of_nonneg (by omega)]
 rw [aa];unfold gl;rw [aC,aH]
theorem Ke {n d:Int}{x:Rat}(bc:0<d)(e:(d:Rat)*x=n)(a0:(n.natAbs:Int)<B 50)(vX:d<B 50):rz (hJ n) (L d)=some (cT x):=by
 have ny:=(iV (k:=50) (by omega)).2 a0
 have p7:=(iV (k:=50) (by omega)).2 vX
 rw [Yw bc (by omega) (by omega),aa2 bc e];rfl
theorem s5 {n:Int}(h:om n):m7 n=some (cT (n:Rat)):=by
 rw [Zv h];unfold cT gl;rw [Rat.num_intCast,Rat.den_intCast];rfl
theorem Kf {a b:Int}(bH:0≤a)(aW:0≤b)(o:a<B 24)(J:b<B 24):a*b<B 48:=by
 have e:B 48=B 24*B 24:=by decide +kernel
 rw [e]
 exact Int.lt_of_le_of_lt (Int.mul_le_mul_of_nonneg_left (Int.le_of_lt J) bH) (Int.mul_lt_mul_of_pos_right o (by omega))
theorem QN {x y:Rat}(aa:fS x)(aP:fS y):xO (cT x) (cT y)=some (cT (x*y)):=by
 have p:=aa.dj
 have q:=aP.dj
 have o:=p.y1
 have J:=p.y2
 have af:=q.y1
 have aF:=q.y2
 have aJ:=p.pos
 have bp:=q.pos
 have hL:=Rn
 have acE:=pp 48
 have iA:=Kf (by omega) (by omega) p.num q.num
 have hd:=Kf (by omega) (by omega) p.den q.den
 have qE:(((gl x).1*(gl y).1).natAbs:Int)<B 48:=by rw [Int.natAbs_mul];exact iA
 have b0:xO (some (k9 (gl x))) (some (k9 (gl y)))=((o7 (hJ (gl x).1) (hJ (gl y).1)).bind fun br=>(qM (L (gl x).2) (L (gl y).2)).bind fun bZ=>(rz br bZ).bind fun ba=>some ba):=rfl
 unfold cT
 rw [b0,PB (by omega) (by omega),Option.bind_some,Ep (li _) (li _) (by omega) (by omega),gb (by omega),gb (by omega),Option.bind_some,Ke (x:=x*y) (Int.mul_pos aJ bp) ?_ (by omega) (by omega)]
 ·rfl
 ·have:=EH x
  have:=EH y
  simp only [gl,Rat.intCast_mul]
  grind
theorem Rr {x y:Rat}(aa:fS x)(aP:fS y):xT (cT x) (cT y)=some (cT (x+y)):=by
 have p:=aa.dj
 have q:=aP.dj
 have o:=p.y1
 have J:=p.y2
 have af:=q.y1
 have aF:=q.y2
 have aJ:=p.pos
 have bp:=q.pos
 have hL:=Rn
 have acE:=pp 48
 obtain ⟨bE,-,-⟩:=P4 p q
 obtain ⟨tF,-,-⟩:=P4 q p
 have hd:=Kf (by omega) (by omega) p.den q.den
 have b0:xT (some (k9 (gl x))) (some (k9 (gl y)))=((qJ (some (k9 (gl x))) (L (gl y).2)).bind fun bl=>(qJ (some (k9 (gl y))) (L (gl x).2)).bind fun bZ=>(tL bl bZ).bind fun ba=>(qM (L (gl x).2) (L (gl y).2)).bind fun cE=>(rz ba cE).bind fun ed=>some ed):=rfl
 unfold cT
 rw [b0,Eh (by omega) (by omega) (by omega),Option.bind_some,Eh (by omega) (by omega) (by omega),Option.bind_some,P3 (by omega) (by omega),Option.bind_some,Ep (li _) (li _) (by omega) (by omega),gb (by omega),gb (by omega),Option.bind_some,Ke (x:=x+y) (Int.mul_pos aJ bp) ?_ (by omega) (by omega)]
 ·rfl
 ·have:=EH x
  have:=EH y
  simp only [gl,Rat.intCast_mul,Rat.intCast_add]
  grind
theorem yU {x:Rat}(h:fS x):sm (cT x)=some (cT x):=by
 have:=h.dj
 unfold cT
 rw [show k9 (gl x)=k9 ((gl x).1,(gl x).2) from rfl,aaX (Int.le_of_lt this.pos),if_pos ⟨this.num,this.den⟩];rfl
def ni (n:Nat)(c:Nat→Int)(l j:Nat):Int:=match l with
 | 0=>if j<n then c j else 0
 | l+1=>if j=l then -1 else 0
def lf (n:Nat)(c:Nat→Int)(j:Nat):Rat:=((ni n c 0 j:Int):Rat)
theorem Qa (n:Nat)(c:Nat→Int)(l j:Nat):((ni n c l j:Int):Rat)=iI (lf n c) l j:=by
 cases l with
 | zero=>rfl
 | succ l=>simp only [ni,iI];split<;>rfl
theorem QO {n:Nat}{c:Nat→Int}(h:∀j,j<n→ -100≤c j∧c j≤100)(l j:Nat): -100≤ni n c l j∧ni n c l j≤100:=by
 cases l with
 | zero =>
  simp only [ni]
  split
  ·exact h j ‹_›
  ·omega
 | succ l=>simp only [ni];split<;>omega
def Ln (m n:Nat)(a:Nat→Nat→Int)(b c:Nat→Int)(a2:Nat)(g:Nat→Nat)(hP:Nat→Nat→Rat)(l:Nat)(s:Bool×List Int×List Int×List (List bf)×List Int×List Bool):Prop :=
 ∃w u ev dj V R,s=((bW w).db,(bW w).cN,a4 (n+m) R,ev,e2 a2 u,a4 (n+m) dj)∧pK m n a b a2 g hP dj w u∧(∀j,j<n+m→dj j=true→j<n)∧k1 a2 (n+m) m g w u ev∧pF m n a b (lf n c) l dj V
theorem X0 {m n:Nat}{a:Nat→Nat→Int}{b c:Nat→Int}{a2:Nat}{g:Nat→Nat}{hP:Nat→Nat→Rat}(hm:m≤20)(a0:n≤40)(kM:Small m (n+m) (ex m n a b))(aQ:∀j,j<n→ -100≤c j∧c j≤100)(x0:Int)(fJ eo mm:List Int)(k:Nat)(aY:k<n)(s:Bool×List Int×List Int×List (List bf)×List Int×List Bool)(b0:Ln m n a b c a2 g hP (k+1) s):
 ∃bR,uQ (n:Int) x0 fJ eo mm ((n+m:Nat):Int) (gZ a2 (n+m) g) (k:Int) s.1 s.2.1 s.2.2.1 s.2.2.2.1 s.2.2.2.2.1 s.2.2.2.2.2=some (.inl (((k+1:Nat):Int),bR))∧Ln m n a b c a2 g hP (k+2) bR:=by
 obtain ⟨w,u,ev,dj,V,R,rfl,d2,p1,gF,n9⟩:=b0
 obtain ⟨t,bT,-⟩:=d2.bT
 obtain ⟨ok,bK,ls,jP,k6,e,Cr,eH⟩:=P9 hm a0 kM d2 p1 bT.inj bT.le (ni n c (k+1)) (QO aQ (k+1)) (Qa n c (k+1)) n9 gF
 rcases eH with ⟨rfl,zf,Lm,CB,aec⟩|⟨-,rp,q,bi,ei,hK⟩
 ·refine ⟨((bW bK).db,(bW bK).cN,a4 (n+m) (ni n c (k+1)),jP,e2 a2 ls,a4 (n+m) k6),?_,bK,ls,jP,k6,CB,_,rfl,zf,Lm,Cr,aec⟩
  have CK:(List.replicate (a4 (n+m) R).length 0:List Int).set (0+((k:Int)).toNat) (-1)=a4 (n+m) (ni n c (k+1)):=by
   rw [c5,nM,Int.toNat_natCast,Nat.zero_add,kP];exact fy fun j _=>rfl
  unfold uQ
  simp only
  rw [CK]
  refine ew (by omega) (bP (by rw [c5];omega) (bP (by rw [List.length_replicate,c5,Int.toNat_natCast];omega) (aG e ?_)))
  rw [gu (by omega)]
 ·obtain ⟨i,ag,aj⟩:=rp.Yg ei
  exact (hK i ag aj).elim
theorem ZB {m n:Nat}{a:Nat→Nat→Int}{b c:Nat→Int}{a2:Nat}{g:Nat→Nat}{hP:Nat→Nat→Rat}(hm:m≤20)(a0:n≤40)(kM:Small m (n+m) (ex m n a b))(aQ:∀j,j<n→ -100≤c j∧c j≤100)(x0:Int)(fJ eo mm:List Int){w:Rat}{u:cm}{ev:List (List bf)}{dj:Nat→Bool}{V:Nat→Rat}{R:Nat→Int}(d2:pK m n a b a2 g hP dj w u)(p1:∀j,j<n+m→dj j=true→j<n)(gF:k1 a2 (n+m) m g w u ev)(n9:pF m n a b (lf n c) 1 dj V):
 ∃iM kh ug sG,DC (n:Int) x0 fJ eo mm ((n+m:Nat):Int) (gZ a2 (n+m) g) 0 (bW w).db (bW w).cN (a4 (n+m) R) ev (e2 a2 u) (a4 (n+m) dj)=some ((bW iM).db,(bW iM).cN,ug,e2 a2 kh,a4 (n+m) sG)∧pK m n a b a2 g hP sG iM kh∧k1 a2 (n+m) m g iM kh ug∧ ∃V,pF m n a b (lf n c) (n+1) sG V:=by
 unfold DC
 obtain ⟨r,e,ao⟩:=sY (f:=fun w:Int×Bool×(List Int)×(List Int)×(List (List bf))×(List Int)×(List Bool)=>uQ (n:Int) x0 fJ eo mm ((n+m:Nat):Int) (gZ a2 (n+m) g) w.1 w.2.1 w.2.2.1 w.2.2.2.1 w.2.2.2.2.1 w.2.2.2.2.2.1 w.2.2.2.2.2.2)
  (fun (k:Nat) (s:Bool×List Int×List Int×List (List bf)×List Int×List Bool)=>((k:Int),s)) n (fun k s=>Ln m n a b c a2 g hP (k+1) s)
  (fun r=> ∃iM kh ug sG,r=((bW iM).db,(bW iM).cN,ug,e2 a2 kh,a4 (n+m) sG)∧pK m n a b a2 g hP sG iM kh∧k1 a2 (n+m) m g iM kh ug∧ ∃V,pF m n a b (lf n c) (n+1) sG V)
  (fun k aY s b0=> .inl (X0 hm a0 kM aQ x0 fJ eo mm k aY s b0))
  (fun s b0=>by
    obtain ⟨w,u,ev,dj,V,R,rfl,d2,p1,gF,n9⟩:=b0
    exact ⟨_,by unfold uQ;exact eY (by simp) rfl,w,u,ev,dj,rfl,d2,gF,V,n9⟩)
  ((bW w).db,(bW w).cN,a4 (n+m) R,ev,e2 a2 u,a4 (n+m) dj) ⟨w,u,ev,dj,V,R,rfl,d2,p1,gF,n9⟩
 obtain ⟨iM,kh,ug,sG,rfl,o,J,af⟩:=ao
 exact ⟨iM,kh,ug,sG,e,o,J,af⟩
theorem aa3:B 24≤B 50:=by decide +kernel
theorem aa4:2≤ey:=by decide +kernel
theorem Lo:40*(ey*100)≤21*100*(ey*ey):=by
 have:=Nat.mul_le_mul_left ey aa4
 omega
theorem ZC {n:Nat}(x0 f8:Int)(fJ eo mm:List Int)(pN:Bool)(uH:List Int)(Gc:Int)(aL:List b8)(bg:List (List bf))(b1:List Int)(cI:List Bool)(a0:n≤40):
 DD (n:Int) x0 f8 fJ eo mm pN uH Gc aL bg b1 cI 0 (List.replicate n (none:Option bj))=some (a4 n fun _=>cT 0):=by
 unfold DD
 obtain ⟨s,e,-⟩:=iN (f:=fun w:Int×(List (Option bj))=>xz (n:Int) x0 f8 fJ eo mm pN uH Gc aL bg b1 cI w.1 w.2)
  (fun (k:Nat) (_:Unit)=>((k:Int),a4 n fun j=>if j<k then cT 0 else none)) n (fun _ _=>True) (fun _=>a4 n fun _=>cT 0)
  (fun k aY _ _=>by
    refine ⟨(),?_,trivial⟩
    unfold xz
    refine ew (by simp only;omega) (aG (x:=cT 0) (s5 (n:=0) (by rw [mv];omega)) (bP (by simp only;rw [c5];omega) (bP (by simp only;rw [c5,Int.toNat_natCast];omega) ?_)))
    simp only
    rw [gu (by omega),Int.toNat_natCast,Nat.zero_add,kP]
    congr 3
    refine fy fun j _=> ?_
    by_cases bE:j=k
    ·subst bE;rw [if_pos rfl,if_pos (by omega)]
    ·rw [if_neg bE]
     by_cases cX:j<k
     ·rw [if_pos cX,if_pos (by omega)]
     ·rw [if_neg cX,if_neg (by omega)])
  (fun _ _=>by
    unfold xz
    refine eY (by simp) ?_
    simp only
    congr 2
    exact fy fun j aE=>by rw [if_pos aE]) () trivial
 have e0:(a4 n fun j=>if j<0 then cT 0 else none)=List.replicate n none:=by
  rw [nM];exact fy fun j _=>by rw [if_neg (by omega)]
 rw [← e0];exact e
theorem ZD {t:cm}{N i j:Nat}:t.hc (i+1) N j=t.hc i N j+if t.B i=j then t.T i N else 0:=rfl
theorem Rs {m n:Nat}{a:Nat→Nat→Int}{b:Nat→Int}{a2 N:Nat}{u:cm}(h:LT m n a b a2 N u){i k:Nat}(ag:i<a2)(aY:k<a2)(e:u.B i=u.B k):i=k:=by
 by_cases c:i=k
 ·exact c
 ·have o:=h.unit i ag k aY
  rw [← e,h.unit i ag i ag,if_pos rfl,if_neg c] at o
  grind
theorem YD {m n a2 N:Nat}{a:Nat→Nat→Int}{b:Nat→Int}{g:Nat→Nat}{w:Rat}{u:cm}(x0 f8:Int)(fJ eo mm:List Int)(pN:Bool)(cI:List Bool)(hm:a2≤20)(gQ:N≤1000)(aT:LT m n a b a2 N u)(f:oV a2 N w u){M:Nat}{ev:List (List bf)}(gF:k1 a2 N M g w u ev)(a0:n≤40):
 DE (a2:Int) x0 f8 fJ eo mm pN (bW w).cN (N:Int) (e2 a2 u) (gZ a2 N g) ev cI 0 (a4 n fun _=>cT 0)=some (a4 n fun j=>cT (u.hc a2 N j)):=by
 have hw:=KJ f.hw
 have aed:0<w.num:=by
  have:(0:Rat)<((w.num:Int):Rat):=by rw [hw.1];exact f.pos
  exact Rat.intCast_lt_intCast.1 (by rw [show ((0:Int):Rat)=0 from rfl];exact this)
 have acF:(bW w).cN=L w.num:=by
  show L (w.num.natAbs:Int)=_
  rw [Int.natAbs_of_nonneg (by omega)]
 have j1:=tf Fq
 have kE:=tf BI
 have agP:=aa3
 rw [acF]
 unfold DE
 obtain ⟨s,e,-⟩:=iN (f:=fun v:Int×(List (Option bj))=>xA (a2:Int) x0 f8 fJ eo mm pN (L w.num) (N:Int) (e2 a2 u) (gZ a2 N g) ev cI v.1 v.2)
  (fun (k:Nat) (_:Unit)=>((k:Int),a4 n fun j=>cT (u.hc k N j))) a2 (fun _ _=>True) (fun _=>a4 n fun j=>cT (u.hc a2 N j))
  (fun k aY _ _=>by
    refine ⟨(),?_,trivial⟩
    have hL:=aT.kz k aY
    have iK:=KJ (f.iK k aY N (Nat.le_refl _))
    have ch:u.hc k N (u.B k)=0:=cm.Jr fun i ag e=>by have:=Rs aT (by omega) aY e;omega
    have K5:rz (bW (u.T k N*w)) (L w.num)=some (cT (u.T k N)):=by
     refine Ke aed ?_ (by omega) (by omega)
     rw [hw.1,iK.1];grind
    unfold xA
    simp only
    refine ew (by omega) (bP (by unfold e2;rw [c5];omega) (aG (x:=((u.B k:Nat):Int)) (by rw [Int.toNat_natCast];exact jU aY) (bP (by unfold gZ;rw [c5];omega) (aG (x:=some (g k,N+1)) (by rw [Int.toNat_natCast];exact jU aY) (aG (x:=(g k,N+1)) rfl (aG (gF.row k aY) (bP (by simp only;omega) (aG (x:=bW (u.T k N*w)) (by rw [Int.toNat_natCast];exact jU (by omega)) (aG K5 (bP (by rw [c5];omega) (bP (by rw [c5,Int.toNat_natCast];omega) ?_)))))))))))
    rw [gu (by omega),Int.toNat_natCast,Nat.zero_add,kP]
    congr 3
    refine fy fun j _=> ?_
    rw [ZD]
    by_cases bE:j=u.B k
    ·subst bE
     rw [if_pos rfl,if_pos rfl,ch]
     congr 1;grind
    ·rw [if_neg bE,if_neg (fun e=>bE e.symm)]
     congr 1;grind)
  (fun _ _=>by unfold xA;exact eY (by simp) rfl) () trivial
 exact e
theorem QP {m n:Nat}{a:Nat→Nat→Int}{b:Nat→Int}{a2 N:Nat}{w:Rat}{u:cm}{K:Nat}(aT:LT m n a b a2 N u)(f:∀i,i<a2→dv K (u.T i N*w))(j:Nat):dv K (u.hc a2 N j*w):=by
 by_cases c : ∃i,i<a2∧u.B i=j
 ·obtain ⟨i,ag,rfl⟩:=c
  have:u.hc a2 N (u.B i)=u.T i N:=by
   unfold cm.hc
   rw [kp ag (f:=fun k=>if u.B k=u.B i then u.T k N else 0) (fun k aY cM=>if_neg fun e=>cM (Rs aT aY ag e)),if_pos rfl]
  rw [this];exact f i ag
 ·rw [cm.Jr fun i ag e=>c ⟨i,ag,e⟩]
  exact ⟨0,by rw [Rat.zero_mul];rfl,by simp⟩
theorem aa5 {m n:Nat}{a:Nat→Nat→Int}{b:Nat→Int}{a2 N:Nat}{w:Rat}{u:cm}(aT:LT m n a b a2 N u)(f:oV a2 N w u)(j:Nat):dv ey (u.hc a2 N j*w):=QP aT (fun i ag=>f.iK i ag N (Nat.le_refl _)) j
theorem pK.Sg {m n:Nat}{a:Nat→Nat→Int}{b:Nat→Int}{a2:Nat}{g:Nat→Nat}{w:Rat}{u:cm}{hP:Nat→Nat→Rat}{dj:Nat→Bool}(kM:Small m (n+m) (ex m n a b))(h:pK m n a b a2 g hP dj w u):dv (kf 100 m) w∧ ∀i,i<a2→dv (kf 100 m) (u.T i (n+m)*w):=by
 obtain ⟨t,bT,-,b0,rfl⟩:=h.bT
 have rn:dv (kf 100 m) (1*t.D m (ex m n a b)):=by
  rw [Rat.one_mul]
  exact yG fun i ag c aQ=>kM.nH c aQ _ (Nat.le_of_lt (bT.inv.ok.kz i ag))
 refine ⟨by have:=E8 rn;rw [Rat.one_mul] at this;exact this,fun i ag=> ?_⟩
 rw [b0.T i ag]
 refine E8 ?_
 show dv (kf 100 m) (t.T (g i) (n+m)*_)
 rw [← bT.inv.ok.wF (bT.lt i ag) (Nat.le_refl _)]
 refine yG fun k aY c aQ=> ?_
 simp only [gJ]
 split
 ·exact kM.nH c aQ _ (Nat.le_refl _)
 ·exact kM.nH c aQ _ (Nat.le_of_lt (bT.inv.ok.kz k aY))
theorem QQ {n:Nat}{w:Rat}{x:Nat→Rat}{c:Nat→Int}(hw:dv (21*100*ey) w)(aj:0<w)(aa:∀j,dv ey (x j*w))(aQ:∀j,j<n→ -100≤c j∧c j≤100){k:Nat}(aY:k≤n)(a0:n≤40):fS (cb k fun j=>x j*(c j:Rat)):=by
 have o:dv (k*(ey*100)) (cb k fun j=>x j*w*(c j:Rat)):=dv.sum fun j aE=>(aa j).mul ⟨c j,rfl,by have:=aQ j (by omega);omega⟩
 have J:k*(ey*100)≤40*(ey*100):=Nat.mul_le_mul_right _ (by omega)
 refine vF (K:=21*100*(ey*ey)) (hw.mono Fq) (o.mono (Nat.le_trans J Lo)) (by grind) ?_ (tf (Nat.le_refl _))
 rw [← iO]
 exact fK fun j _=>by grind
theorem RS {w x:Rat}(hw:dv (21*100*ey) w)(aj:0<w)(aa:dv ey (x*w)):fS x :=
 vF (K:=21*100*(ey*ey)) (hw.mono Fq) (aa.mono BI) (by grind) (by grind) (tf (Nat.le_refl _))
theorem aa6 {w x:Rat}{c:Int}(hw:dv (21*100*ey) w)(aj:0<w)(aa:dv ey (x*w))(aQ:-100≤c∧c≤100):fS (x*(c:Rat)):=by
 have:=aa.mul (show dv 100 (c:Rat) from ⟨c,rfl,by omega⟩)
 exact vF (K:=21*100*(ey*ey)) (hw.mono Fq) (this.mono (by have:=Lo;omega)) (by grind) (by grind) (tf (Nat.le_refl _))
theorem aab {n:Nat}{w:Rat}(x0 f8:Int)(fJ eo mm:List Int){x:Nat→Rat}{c:Nat→Int}(aP:mm=a4 n c)(hw:dv (21*100*ey) w)(aj:0<w)(aa:∀j,dv ey (x j*w))(aQ:∀j,j<n→ -100≤c j∧c j≤100)(a0:n≤40):
 DF (n:Int) x0 f8 fJ eo mm (a4 n fun j=>cT (x j)) (cT 0) 0=some (cT (cb n fun j=>x j*(c j:Rat))):=by
 subst aP
 unfold DF
 obtain ⟨s,e,-⟩:=iN (f:=fun v:(Option bj)×Int=>xB (n:Int) x0 f8 fJ eo (a4 n c) (a4 n fun j=>cT (x j)) v.1 v.2)
  (fun (k:Nat) (_:Unit)=>(cT (cb k fun j=>x j*(c j:Rat)),(k:Int))) n (fun _ _=>True) (fun _=>cT (cb n fun j=>x j*(c j:Rat)))
  (fun k aY _ _=>by
    refine ⟨(),?_,trivial⟩
    have aee:=aQ k aY
    have ag:om (c k):=by rw [mv];omega
    unfold xB
    simp only
    refine ew (by omega) (bP (by rw [c5];omega) (aG (x:=cT (x k)) (by rw [Int.toNat_natCast];exact jU aY) (bP (by rw [c5];omega) (aG (x:=c k) (by rw [Int.toNat_natCast];exact jU aY) (aG (s5 ag) (aG (QN (RS hw aj (aa k)) (tX ag)) (aG (Rr (QQ hw aj aa aQ (Nat.le_of_lt aY) a0) (aa6 hw aj (aa k) aee)) ?_)))))))
    rw [gu (by omega)];rfl)
  (fun _ _=>by unfold xB;exact eY (by simp) rfl) () trivial
 exact e
theorem aa7 {m n:Nat}{a:Nat→Nat→Int}{b:Nat→Int}{a2 N:Nat}{u:cm}(h:LT m n a b a2 N u)(a0:n≤N):gA a2 a2 N u.T u where
 rf:=fun c aQ j _=>by
  rw [kp aQ (f:=fun i=>u.T c (u.B i)*u.T i j) (fun i ag cM=>by rw [h.unit c aQ i ag,if_neg (fun e=>cM e.symm)];grind),h.unit c aQ c aQ,if_pos rfl];grind
 row:=⟨fun i c=>if i=c then 1 else 0,fun i ag j _=>by
  rw [kp ag (f:=fun c=>(if i=c then (1:Rat) else 0)*u.T c j) (fun c _ cM=>by rw [if_neg (Ne.symm cM)];grind),if_pos rfl];grind⟩
 unit:=h.unit
 kz:=fun i ag=>Nat.lt_of_lt_of_le (h.kz i ag) a0
theorem Et {p:m8}{m n:Nat}{a:Nat→Nat→Int}{b:Nat→Int}(h:n2 p m n a b){c:Nat→Int}(oa:p.jT=a4 n c)(aQ:∀j,j<n→ -100≤c j∧c j≤100):
 ∃r,sg p.jL p.i1 p.f9 p.fX p.jT=some r∧((¬ng m n a b∧r=(2,[],none))∨(ng m n a b∧ ¬Bounded m n a b (lf n c)∧r=(3,[],none)) ∨
  (∃x w,s7 m n a b (lf n c) x∧(0<w∧dv (kf 100 m) w∧ ∀j,dv (kf 100 m) (x j*w))∧(∀j,fS (x j))∧fS (val n (lf n c) x)∧r=(0,a4 n (fun j=>cT (x j)),cT (val n (lf n c) x)))):=by
 have hm:=h.hm
 have a0:=h.a0
 have kM:=PE h
 obtain ⟨r,e,ao⟩:=Kd h
 unfold sg
 rcases ao with ⟨b0,t,a2,g,ev,rfl,bT,hL,gF⟩|⟨b0,rfl⟩
 ·have aT:=bT.Rq hL
  have d2:pK m n a b a2 g (iz g t).T (fun j=>decide (j<n)) (hG m (ex m n a b) t) (iz g t) :=
   ⟨⟨t,bT,hL,⟨fun _ _ _=>rfl,fun _ _=>rfl⟩,rfl⟩,aT,aa7 aT (by omega),fun i ag=>decide_eq_true (hL i ag)⟩
  obtain ⟨ok,iM,kh,ug,sG,aC,aef,eH⟩:=P9 hm a0 kM d2 (fun j _ aE=>of_decide_eq_true aE) bT.inj bT.le (ni n c 0) (QO aQ 0) (Qa n c 0) (pF.zero (c:=lf n c) (fun j aE=>decide_eq_true aE) (fun _=>0)) gF
  have CK:p.jT++(List.replicate (n+m) 0:List Int).drop p.jT.length=a4 (n+m) (ni n c 0):=by
   rw [oa,c5]
   apply List.ext_getElem?
   intro i
   by_cases ci:i<n
   ·rw [List.getElem?_append_left (by rw [c5];exact ci),gX ci,gX (by omega)];simp only [ni];rw [if_pos ci]
   ·rw [List.getElem?_append_right (by rw [c5];omega),c5,List.getElem?_drop,show n+(i-n)=i by omega]
    by_cases Mt:i<n+m
    ·rw [List.getElem?_replicate,if_pos Mt,gX Mt];simp only [ni];rw [if_neg ci]
    ·rw [List.getElem?_replicate,if_neg Mt,List.getElem?_eq_none_iff.2 (by rw [c5];omega)]
  have Tj:p.jT.length=n:=by rw [oa,c5]
  rcases eH with ⟨rfl,pZ,acG,ag8,Cq⟩|⟨rfl,rp,q,bi,ei,hK⟩
  ·obtain ⟨mo,m3,bG,agQ,aH,sC,aeg,ag9,aeh⟩:=ZB (R:=ni n c 0) hm a0 kM aQ p.jL p.f9 p.fX p.jT pZ acG aef Cq
   have f2:=sC.q2 kM
   have Ll:=aeh.k5 sC.lt sC.MR
   have aa:=aa5 sC.lt f2
   have a6:cb n (fun j=>m3.hc a2 (n+m) j*(c j:Rat))=val n (lf n c) (m3.hc a2 (n+m)):=fK fun j aE=>by
    have:lf n c j=(c j:Rat):=by unfold lf ni;simp only;rw [if_pos aE]
    rw [this];exact Rat.mul_comm _ _
   refine ⟨_,aG e ?_,.inr (.inr ⟨m3.hc a2 (n+m),mo,Ll,⟨f2.pos,(sC.Sg kM).1,fun j=>QP sC.lt (sC.Sg kM).2 j⟩,fun j=>RS f2.hw f2.pos (aa j),?_,rfl⟩)⟩
   ·simp only
    refine bP (by omega) (bP (by rw [Tj,Int.toNat_natCast];omega) (aG (by rw [Int.toNat_natCast,CK];exact aC) (fr rfl ?_)))
    rw [h.hl,Int.toNat_natCast,Int.toNat_natCast,CK]
    refine aG aH (bP (by omega) (aG (ZC _ _ _ _ _ _ _ _ _ _ _ _ a0) (aG (x:=a4 n fun j=>cT (m3.hc a2 (n+m) j)) ?_ (aG (x:=cT 0) (s5 (n:=0) (by rw [mv];omega)) (aG (x:=cT (val n (lf n c) (m3.hc a2 (n+m)))) ?_ rfl)))))
    ·simp only
     rw [show ((e2 a2 m3).length:Nat)=a2 from c5 ..]
     exact YD _ _ _ _ _ _ _ (by have:=bT.le;omega) (by omega) sC.lt f2 aeg a0
    ·rw [c5,← a6]
     exact aab _ _ _ _ _ oa f2.hw f2.pos aa aQ a0
   ·rw [← a6];exact QQ f2.hw f2.pos aa aQ (Nat.le_refl _) a0
  ·refine ⟨_,aG e ?_,.inr (.inl ⟨b0,rp.LW _ bi ei hK,rfl⟩)⟩
   simp only
   exact bP (by omega) (bP (by rw [Tj,Int.toNat_natCast];omega) (aG (by rw [Int.toNat_natCast,CK];exact aC) (gS rfl rfl)))
 ·exact ⟨_,aG e rfl,.inl ⟨b0,rfl⟩⟩
def uz (n N j:Nat):Nat:=if j=n then N else j
theorem KL {n N j:Nat}(h:j<n):uz n N j=j:=by unfold uz;rw [if_neg (by omega)]
theorem E9 {n N:Nat}:uz n N n=N:=by unfold uz;rw [if_pos rfl]
theorem Rt {n N j:Nat}(a0:n≤N)(h:j≤n):uz n N j≤N:=by unfold uz;split<;>omega
structure Fs (m n:Nat) (a:Nat→Nat→Int) (b:Nat→Int) (a2:Nat) (g:Nat→Nat) (hP:Nat→Nat→Rat) (u:cm):Prop where
 ok:gA a2 a2 n hP u
 bT : ∃t,mT m n (n+m) (ex m n a b) t a2 g∧(∀i,i<a2→t.B (g i)<n)∧ ∀i,i<a2→(∀j,j≤n→u.T i j=t.T (g i) (uz n (n+m) j))∧u.B i=t.B (g i)
theorem aac {m n:Nat}{a:Nat→Nat→Int}{b:Nat→Int}{a2:Nat}{g:Nat→Nat}{u t:cm}(o:mT m n (n+m) (ex m n a b) t a2 g)(J:∀i,i<a2→t.B (g i)<n)(af:∀i,i<a2→(∀j,j≤n→u.T i j=t.T (g i) (uz n (n+m) j))∧u.B i=t.B (g i)):LT m n a b a2 n u:=by
 have L:=o.Rq J
 refine ⟨fun x=> ?_,fun i ag k aY=> ?_,fun i ag=>by rw [(af i ag).2];exact J i ag,fun i ag=> ?_,Nat.le_refl _⟩
 ·rw [L.eqv x]
  constructor<;>intro aa i ag
  ·have:=aa i ag
   rw [(af i ag).1 n (Nat.le_refl _),E9,fK (g:=fun j=>(iz g t).T i j*x j) fun j aE=>by rw [(af i ag).1 j (by omega),KL aE];rfl]
   exact this
  ·have:=aa i ag
   rw [(af i ag).1 n (Nat.le_refl _),E9,fK (g:=fun j=>(iz g t).T i j*x j) fun j aE=>by rw [(af i ag).1 j (by omega),KL aE];rfl] at this
   exact this
 ·have aW:t.B (g k)<n:=J k aY
  rw [(af k aY).2,(af i ag).1 _ (by omega),KL aW]
  exact L.unit i ag k aY
 ·show 0≤u.T i n
  rw [(af i ag).1 n (Nat.le_refl _),E9]
  exact L.lV i ag
theorem Fs.lt {m n:Nat}{a:Nat→Nat→Int}{b:Nat→Int}{a2:Nat}{g:Nat→Nat}{hP:Nat→Nat→Rat}{u:cm}(h:Fs m n a b a2 g hP u):LT m n a b a2 n u:=by
 obtain ⟨t,o,J,af⟩:=h.bT
 exact aac o J af
theorem Fs.fits {m n:Nat}{a:Nat→Nat→Int}{b:Nat→Int}{a2:Nat}{g:Nat→Nat}{hP:Nat→Nat→Rat}{u:cm}(kM:Small m (n+m) (ex m n a b))(h:Fs m n a b a2 g hP u):
 (∀i,i<a2→ ∀j,j≤n→fS (u.T i j))∧(∀i,i<a2→ ∀j,j≤n→0<u.T i j→fS (u.T i n / u.T i j)):=by
 obtain ⟨t,o,J,af⟩:=h.bT
 refine ⟨fun i ag j aE=> ?_,fun i ag j aE aj=> ?_⟩
 ·rw [(af i ag).1 j aE];exact o.inv.acy kM (o.lt i ag) (Rt (by omega) aE)
 ·rw [(af i ag).1 j aE] at aj ⊢
  rw [(af i ag).1 n (Nat.le_refl _),E9]
  exact o.inv.acz kM (o.lt i ag) (Rt (by omega) aE) aj
structure Lp (m n:Nat) (a:Nat→Nat→Int) (b:Nat→Int) (i:Nat) (t:cm):Prop where
 bT:mT m n (n+m) (ex m n a b) t m fun q=>q
 TA : ∀q,q<i→t.B q<n∨ ∀j,j<n→t.T q j=0
theorem Lp.cZ {m n:Nat}{a:Nat→Nat→Int}{b:Nat→Int}{i:Nat}{t:cm}(h:Lp m n a b i t){k:Nat}(ag:i<m)(aY:k<n)(aW:n≤t.B i)(aj:t.T i k≠0):Lp m n a b i (t.cZ i k) where
 bT:=h.bT.cZ (by omega) ag aY aW aj
 TA:=fun q bi=>by
  simp only [cm.cZ]
  rw [if_neg (by omega)]
  rcases h.TA q bi with d|d
  ·exact .inl d
  ·exact .inr fun j aE=>by rw [if_neg (by omega),d j aE,d k aY];grind
def q3 (k:Nat)(x:bF):List ez:=(if x.gr=2 then [] else [⟨(k:Int),1⟩])++(if x.gr=1 then [] else [⟨(k:Int),-1⟩])
def kS (fR:List bF):Nat→List ez
 | 0=>[]
 | n+1=>kS fR n++(match fR[n]? with
  | some x=>q3 n x
  | none=>[])
theorem Kg (fR:List bF): ∀n,(kS fR n).length≤2*n
 | 0=>by simp [kS]
 | n+1=>by
  have:=Kg fR n
  rw [kS,List.length_append]
  have J:(match fR[n]? with
   | some x=>q3 n x
   | none=>[]).length≤2:=by
   split
   ·rename_i x _;unfold q3;rw [List.length_append];split<;>split<;>simp
   ·simp
  omega
theorem Qb {fR:List bF}: ∀ {n:Nat} {c:ez},n≤fR.length→c∈kS fR n→ ∃k:Nat,c.fj=k∧k<n∧(c.og=1∨c.og = -1)
 | 0,c,_,h=>by simp [kS] at h
 | n+1,c,a0,h=>by
  rw [kS,List.mem_append] at h
  rcases h with h|h
  ·obtain ⟨k,o,J,af⟩:=Qb (by omega) h
   exact ⟨k,o,by omega,af⟩
  ·rw [List.getElem?_eq_getElem (by omega)] at h
   simp only [q3,List.mem_append] at h
   rcases h with h|h
   ·split at h
    ·simp at h
    ·simp at h;subst h;exact ⟨n,rfl,by omega,.inl rfl⟩
   ·split at h
    ·simp at h
    ·simp at h;subst h;exact ⟨n,rfl,by omega,.inr rfl⟩
theorem Aw (s:b4)(d2:s.bz.length≤1000):sb s=some (kS s.bz s.bz.length):=by
 unfold sb Hl
 rw [gY]
 obtain ⟨x,e,-⟩:=iN (f:=fun w:Int×List ez=>w0 s.bz (s.bz.length:Nat) w.1 w.2) (fun (n:Nat) (_:Unit)=>((n:Int),kS s.bz n)) s.bz.length (fun _ _=>True) (fun _=>kS s.bz s.bz.length)
  (fun n a0 _ _=>by
    refine ⟨(),?_,trivial⟩
    have aa:=List.getElem?_eq_getElem a0
    have aT:=Kg s.bz n
    have aC:kS s.bz (n+1)=kS s.bz n++q3 n s.bz[n]:=by rw [kS,aa]
    unfold w0
    refine ew (by simp only;omega) (bP (by simp only;omega) (aG (x:=s.bz[n]) (by simp only;rw [Int.toNat_natCast];exact aa) ?_))
    simp only
    rw [gu (by omega),aC]
    unfold q3
    by_cases bE:s.bz[n].gr=2
    ·rw [if_pos bE]
     refine gS (zo bE) (fr (LU (by omega)) (bP (by simp only [List.length_append,List.length_cons,List.length_nil];omega) ?_))
     rw [if_neg (by omega)];simp
    ·rw [if_neg bE]
     refine fr (LU bE) (bP (by simp only [List.length_append,List.length_cons,List.length_nil];omega) ?_)
     by_cases cX:s.bz[n].gr=1
     ·refine gS (zo cX) ?_
      rw [if_pos cX];simp
     ·refine fr (LU cX) (bP (by simp only [List.length_append,List.length_cons,List.length_nil];omega) ?_)
      rw [if_neg cX];simp)
  (fun _ _=>by unfold w0;exact eY (by simp) rfl) () trivial
 exact aG e rfl
def kY (s:b4)(k:Nat):Int×Int:=(ru s k).getD (0,0)
theorem Kh (s:b4)(h:lE s)(k:Nat)(aY:k<s.bz.length):ru s k=some (kY s k)∧(-100≤(kY s k).1∧(kY s k).1≤100)∧(-100≤(kY s k).2∧(kY s k).2≤100):=by
 obtain ⟨x,y,o,af,aF⟩:=Z8 s h k (by omega) (by omega)
 have e:kY s k=(x,y):=by unfold kY;rw [o];rfl
 rw [e];exact ⟨o,af,aF⟩
def hE (s:b4)(j:Int)(gm k:Nat):Int :=
 match s.bz[k]? with
 | none=>0
 | some x=>if j=x.f9 then (if gm=0 then (kY s k).1 else (kY s k).2) else if j=x.fX then -(if gm=0 then (kY s k).1 else (kY s k).2) else 0
theorem yL (s:b4)(h:lE s)(j:Int)(gm k:Nat): -100≤hE s j gm k∧hE s j gm k≤100:=by
 unfold hE
 split
 ·omega
 ·rename_i x aa
  obtain ⟨-,af,aF⟩:=Kh s h k (gp aa)
  split
  ·split<;>omega
  ·split
   ·split<;>omega
   ·omega
theorem aad (s:b4)(h:lE s)(j:Int)(aL:List Int)(bg b1:Int)(cI:List (List Int)):
 CW s.cj s.bz j aL bg b1 (len_ c3 s.bz) cI 0 (a4 s.bz.length fun _=>(0:Int)) (a4 s.bz.length fun _=>(0:Int))=some (a4 s.bz.length (hE s j 0),a4 s.bz.length (hE s j 1)):=by
 obtain ⟨-,-,f3,f4⟩:=id h
 unfold CW
 rw [gY]
 obtain ⟨x,e,-⟩:=iN (f:=fun w:Int×List Int×List Int=>wV s.cj s.bz j aL bg b1 (s.bz.length:Nat) cI w.1 w.2.1 w.2.2) (fun (n:Nat) (_:Unit)=>((n:Int),(a4 s.bz.length fun k=>if k<n then hE s j 0 k else 0),a4 s.bz.length fun k=>if k<n then hE s j 1 k else 0)) s.bz.length (fun _ _=>True) (fun _=>(a4 s.bz.length (hE s j 0),a4 s.bz.length (hE s j 1)))
  (fun n a0 _ _=>by
    refine ⟨(),?_,trivial⟩
    have aa:=List.getElem?_eq_getElem a0
    obtain ⟨v1,v3,v4⟩:=Kh s h n a0
    have c6 : ∀gm v,v=hE s j gm n→(a4 s.bz.length fun k=>if k<n then hE s j gm k else 0).set n v=a4 s.bz.length fun k=>if k<n+1 then hE s j gm k else 0:=fun gm v a6=>by
     rw [kP]
     refine fy fun k _=> ?_
     by_cases c:k=n
     ·subst c;rw [if_pos rfl,if_pos (by omega)];exact a6
     ·rw [if_neg c]
      by_cases cX:k<n
      ·rw [if_pos cX,if_pos (by omega)]
      ·rw [if_neg cX,if_neg (by omega)]
    have g1 : ∀F:Nat→Int,0≤((n:Nat):Int)∧((n:Nat):Int)<((a4 s.bz.length F).length:Nat):=fun F=>by rw [c5];omega
    have g2 : ∀F:Nat→Int,0+((n:Nat):Int).toNat<(a4 s.bz.length F).length:=fun F=>by rw [c5,Int.toNat_natCast];omega
    unfold wV
    refine ew (by simp only;omega) (bP (by simp only;omega) (aG (x:=s.bz[n]) (by simp only;rw [Int.toNat_natCast];exact aa) (aG (x:=kY s n) v1 ?_)))
    simp only
    by_cases bE:j=s.bz[n].f9
    ·have e0 : ∀gm,hE s j gm n=if gm=0 then (kY s n).1 else (kY s n).2:=fun gm=>by unfold hE;rw [aa];simp only [if_pos bE]
     refine fr (re bE) (bP (g1 _) (bP (g2 _) (bP (g1 _) (bP (g2 _) ?_))))
     rw [gu (by omega),Int.toNat_natCast,Nat.zero_add,c6 0 _ (by rw [e0];rfl),c6 1 _ (by rw [e0];rfl)]
    ·refine gS (oz bE) ?_
     by_cases cX:j=s.bz[n].fX
     ·have e0 : ∀gm,hE s j gm n = -(if gm=0 then (kY s n).1 else (kY s n).2):=fun gm=>by unfold hE;rw [aa];simp only [if_neg bE,if_pos cX]
      refine fr (re cX) (bP (g1 _) (bP (g2 _) (bP (g1 _) (bP (g2 _) ?_))))
      rw [gu (by omega),Int.toNat_natCast,Nat.zero_add,c1 (by omega) (by omega),c1 (by omega) (by omega),c6 0 _ (by rw [e0];simp),c6 1 _ (by rw [e0];simp)]
     ·have e0 : ∀gm,hE s j gm n=0:=fun gm=>by unfold hE;rw [aa];simp only [if_neg bE,if_neg cX]
      refine gS (oz cX) ?_
      rw [gu (by omega)]
      congr 4
      ·refine fy fun k _=> ?_
       by_cases c:k=n
       ·subst c;rw [if_neg (by omega),if_pos (by omega),e0]
       ·by_cases cX:k<n
        ·rw [if_pos cX,if_pos (by omega)]
        ·rw [if_neg cX,if_neg (by omega)]
      ·refine fy fun k _=> ?_
       by_cases c:k=n
       ·subst c;rw [if_neg (by omega),if_pos (by omega),e0]
       ·by_cases cX:k<n
        ·rw [if_pos cX,if_pos (by omega)]
        ·rw [if_neg cX,if_neg (by omega)])
  (fun _ _=>by
    unfold wV
    refine eY (by simp) ?_
    simp only
    congr 3
    ·exact fy fun k aY=>by rw [if_pos aY]
    ·exact fy fun k aY=>by rw [if_pos aY]) () trivial
 have z : ∀gm,(a4 s.bz.length fun k=>if k<0 then hE s j gm k else 0)=a4 s.bz.length fun _=>(0:Int):=fun gm=>fy fun k _=>by rw [if_neg (by omega)]
 rw [z,z] at e
 exact e
def ib (s:b4)(q:Nat):Nat:=(ll s.cj 0).getD q 0
def eb (s:b4):Nat:=(ll s.cj 0).length
def i9 (s:b4)(r k:Nat):Int:=hE s (ib s (r / 2)) (r % 2) k
theorem Ki (s:b4):(ll s.cj 0).map (fun n:Nat=>(n:Int))=a4 (eb s) fun q=>((ib s q:Nat):Int):=by
 apply List.ext_getElem?
 intro q
 rw [List.getElem?_map]
 by_cases c:q<eb s
 ·rw [gX c]
  have h:(ll s.cj 0)[q]? = some (ll s.cj 0)[q]:=List.getElem?_eq_getElem c
  unfold ib
  rw [List.getD_eq_getElem?_getD,h];rfl
 ·rw [List.getElem?_eq_none_iff.2 (by unfold eb at c;omega),List.getElem?_eq_none_iff.2 (by rw [c5];omega)];rfl
theorem A2 (s:b4){q:Nat}(h:q<eb s):ib s q<s.cj.length:=by
 have o:(ll s.cj 0)[q]? = some (ll s.cj 0)[q]:=List.getElem?_eq_getElem h
 have J:ib s q=(ll s.cj 0)[q]:=by unfold ib;rw [List.getD_eq_getElem?_getD,o];rfl
 have:=Kc s.cj 0 _ (List.mem_of_getElem? o)
 omega
theorem uh (s:b4):eb s≤s.cj.length:=P5 s.cj 0
theorem Ob (s:b4)(h:lE s):xd s=some (a4 (2*eb s) fun r=>a4 s.bz.length (i9 s r)):=by
 obtain ⟨-,-,f3,f4⟩:=id h
 have sI:=uh s
 unfold xd
 refine aG (Jq s (by omega)) ?_
 rw [Ki,hk,c5]
 unfold GS
 obtain ⟨x,e,-⟩:=iN (f:=fun w:Int×List (List Int)=>wW s.cj s.bz (a4 (eb s) fun q=>((ib s q:Nat):Int)) ((eb s:Nat):Int) w.1 w.2) (fun (n:Nat) (_:Unit)=>((n:Int),a4 (2*n) fun r=>a4 s.bz.length (i9 s r))) (eb s) (fun _ _=>True) (fun _=>a4 (2*eb s) fun r=>a4 s.bz.length (i9 s r))
  (fun n a0 _ _=>by
    refine ⟨(),?_,trivial⟩
    unfold wW
    refine ew (by simp only;omega) (bP (by rw [c5];simp only;omega) (aG (x:=((ib s n:Nat):Int)) (by simp only;rw [Int.toNat_natCast];exact gX a0) (bP (by rw [gY];omega) ?_)))
    refine aG (x:=(a4 s.bz.length (hE s (ib s n) 0),a4 s.bz.length (hE s (ib s n) 1))) (by rw [show (len_ c3 s.bz).toNat=s.bz.length by rw [gY,Int.toNat_natCast],nM];exact aad s h _ _ _ _ _) (bP (by simp only [List.length_append,c5,List.length_cons,List.length_nil];omega) ?_)
    simp only
    rw [gu (by omega),show 2*(n+1)=2*n+1+1 by omega,AE (2*n+1),AE (2*n)]
    have ae:a4 s.bz.length (hE s (ib s n) 0)=a4 s.bz.length (i9 s (2*n)):=fy fun k _=>by
     unfold i9;rw [show 2*n / 2=n by omega,show 2*n % 2=0 by omega]
    have bq:a4 s.bz.length (hE s (ib s n) 1)=a4 s.bz.length (i9 s (2*n+1)):=fy fun k _=>by
     unfold i9;rw [show (2*n+1) / 2=n by omega,show (2*n+1) % 2=1 by omega]
    rw [ae,bq];simp)
  (fun _ _=>by unfold wW;exact eY (by simp) rfl) () trivial
 exact aG e rfl
def hl (s:b4):List ez:=kS s.bz s.bz.length
def b9 (s:b4):Nat:=(hl s).length
def hs (s:b4)(c:Nat):Nat:=((hl s).getD c ⟨0,0⟩).fj.toNat
def mq (s:b4)(c:Nat):Int:=((hl s).getD c ⟨0,0⟩).og
def j3 (s:b4)(i c:Nat):Int:=mq s c*i9 s i (hs s c)
def kG (s:b4)(l:List Int)(i:Nat):Int:= -(l.getD (2*ib s (i / 2)+i % 2) 0)
theorem sq (s:b4){c:Nat}(aQ:c<b9 s):(hl s)[c]? = some ⟨(hs s c:Int),mq s c⟩∧hs s c<s.bz.length∧(mq s c=1∨mq s c = -1):=by
 have o:(hl s)[c]? = some (hl s)[c]:=List.getElem?_eq_getElem aQ
 have J:(hl s).getD c ⟨0,0⟩=(hl s)[c]:=by rw [List.getD_eq_getElem?_getD,o];rfl
 obtain ⟨k,aC,aH,cd⟩:=Qb (Nat.le_refl _) (List.mem_of_getElem? o)
 have dh:hs s c=k:=by unfold hs;rw [J,aC];rfl
 have eR:mq s c=((hl s)[c]).og:=by unfold mq;rw [J]
 refine ⟨?_,by omega,by rw [eR];exact cd⟩
 rw [o,dh,eR,← aC]
theorem tg (s:b4):b9 s≤2*s.bz.length:=Kg _ _
theorem RT (s:b4)(h:lE s)(i:Nat){c:Nat}(aQ:c<b9 s): -100≤j3 s i c∧j3 s i c≤100:=by
 have o:=yL s h (ib s (i / 2)) (i % 2) (hs s c)
 unfold j3 i9
 rcases (sq s aQ).2.2 with e|e<;>rw [e]<;>omega
def kn (s:b4)(l:List Int):m8:=⟨((2*eb s:Nat):Int),(b9 s:Int),a4 (2*eb s*b9 s) (fun x=>j3 s (x / b9 s) (x % b9 s)),a4 (2*eb s) (kG s l),a4 (b9 s) fun _=>0⟩
theorem A3 (s:b4)(h:lE s)(l:List Int)(aW:∀x∈l,-100≤x∧x≤100):n2 (kn s l) (2*eb s) (b9 s) (j3 s) (kG s l) where
 rows:=rfl
 hl:=rfl
 n7:=c5 ..
 BH:=fun i ag j aE=>by
  have o:i*b9 s+j<2*eb s*b9 s:=by
   have:(i+1)*b9 s≤2*eb s*b9 s:=Nat.mul_le_mul_right _ ag
   rw [Nat.succ_mul] at this;omega
  show (a4 _ _)[_]? = _
  rw [gX o]
  have J:(i*b9 s+j) / b9 s=i:=by rw [Nat.mul_comm,Nat.mul_add_div (by omega),Nat.div_eq_of_lt aE];rfl
  have af:(i*b9 s+j) % b9 s=j:=by rw [Nat.mul_comm,Nat.mul_add_mod,Nat.mod_eq_of_lt aE]
  rw [J,af]
 MN:=c5 ..
 Lk:=fun i ag=>gX ag
 hm:=by
  obtain ⟨-,-,f3,f4⟩:=id h
  have:=uh s;omega
 a0:=by
  obtain ⟨-,-,f3,f4⟩:=id h
  have:=tg s;omega
 wK:=fun i _ j aE=>RT s h i aE
 CI:=fun i _=>by
  unfold kG
  rw [List.getD_eq_getElem?_getD]
  cases c:l[2*ib s (i / 2)+i % 2]? with
  | none=>simp
  | some x =>
   have:=aW x (List.mem_of_getElem? c)
   simp only [Option.getD_some];omega
def uI (s:b4)(r c:Nat):Int:=if r<2*eb s∧c<b9 s then j3 s r c else 0
def nF (s:b4)(l:List Int)(r:Nat):Int:=if r<2*eb s then kG s l r else 0
def p8 (s:b4)(N i c x:Nat):Int:=if (x / N<i∨(x / N=i∧x % N<c))∧x % N<b9 s then j3 s (x / N) (x % N) else 0
theorem aa8 (s:b4){T N i c:Nat}(aQ:c<b9 s)(gQ:b9 s≤N)(iK:i*N+c<T){v:Int}(a6:v=j3 s i c):(a4 T (p8 s N i c)).set (i*N+c) v=a4 T (p8 s N i (c+1)):=by
 have J:(i*N+c) / N=i:=by rw [Nat.mul_comm,Nat.mul_add_div (by omega),Nat.div_eq_of_lt (by omega)];rfl
 have af:(i*N+c) % N=c:=by rw [Nat.mul_comm,Nat.mul_add_mod,Nat.mod_eq_of_lt (by omega)]
 rw [kP]
 refine fy fun x _=> ?_
 unfold p8
 by_cases e:x=i*N+c
 ·rw [if_pos e,e,J,af,if_pos ⟨.inr ⟨rfl,by omega⟩,aQ⟩,a6]
 ·rw [if_neg e]
  have cM : ¬(x / N=i∧x % N=c):=fun ⟨a,b⟩=>e (by rw [← Nat.div_add_mod x N,a,b,Nat.mul_comm])
  by_cases d:(x / N<i∨(x / N=i∧x % N<c))∧x % N<b9 s
  ·rw [if_pos d,if_pos ⟨by omega,d.2⟩]
  ·rw [if_neg d,if_neg (fun wJ=>d ⟨by omega,wJ.2⟩)]
theorem aa9 (s:b4)(T N i:Nat):a4 T (p8 s N i (b9 s))=a4 T (p8 s N (i+1) 0):=by
 refine fy fun x _=> ?_
 unfold p8
 by_cases d:(x / N<i∨(x / N=i∧x % N<b9 s))∧x % N<b9 s
 ·rw [if_pos d,if_pos ⟨by omega,d.2⟩]
 ·rw [if_neg d,if_neg (fun wJ=>d ⟨by omega,wJ.2⟩)]
theorem aae (s:b4)(T N:Nat):a4 T (p8 s N 0 0)=a4 T fun _=>0:=fy fun x _=>by
 unfold p8
 rw [if_neg (fun h=>by rcases h.1 with h|h;exact Nat.not_lt_zero _ h;exact Nat.not_lt_zero _ h.2)]
theorem aba (s:b4)(T N:Nat):a4 T (p8 s N (2*eb s) 0)=a4 T fun x=>uI s (x / N) (x % N):=fy fun x _=>by
 unfold p8 uI
 by_cases d:x / N<2*eb s∧x % N<b9 s
 ·rw [if_pos d,if_pos ⟨.inl d.1,d.2⟩]
 ·rw [if_neg d,if_neg (fun wJ=>d ⟨by omega,wJ.2⟩)]
theorem aaf (s:b4)(l:List Int)(M:Nat):(a4 M fun x=>if x<0 then nF s l x else 0)=a4 M fun _=>0:=fy fun j _=>by rw [if_neg (by omega)]
theorem abb (s:b4)(l:List Int)(M:Nat):(a4 M fun x=>if x<2*eb s then nF s l x else 0)=a4 M (nF s l):=fy fun j _=>by
 by_cases c:j<2*eb s
 ·rw [if_pos c]
 ·rw [if_neg c];unfold nF;rw [if_neg c]
theorem YE (s:b4)(h:lE s)(l:List Int)(aT:l.length=2*s.cj.length)(aW:∀x∈l,-100≤x∧x≤100)(eM kN:Nat)(agR:eM≤100)(agS:kN≤100):
 sK s l (eM:Int) (kN:Int)=some (((2*eb s+kN:Nat):Int),((b9 s+eM:Nat):Int),a4 ((2*eb s+kN)*(b9 s+eM)) (fun x=>uI s (x / (b9 s+eM)) (x % (b9 s+eM))),a4 (2*eb s+kN) (nF s l),a4 (b9 s+eM) fun _=>0):=by
 obtain ⟨-,-,f3,f4⟩:=id h
 have sI:=uh s
 have oa:=tg s
 have agT:(2*eb s+kN)*(b9 s+eM)≤112*116:=Nat.mul_le_mul (by omega) (by omega)
 unfold sK
 refine aG (Ob s h) (aG (x:=hl s) (Aw s (by omega)) ?_)
 have iM:U ((len_ (fi 1 I) (a4 (2*eb s) fun r=>a4 s.bz.length (i9 s r)))+(kN:Int))=((2*eb s+kN:Nat):Int):=by rw [gY,c5,c1 (by omega) (by omega)];omega
 have mo:U ((len_ et (hl s))+(eM:Int))=((b9 s+eM:Nat):Int):=by
  rw [gY];show U (((b9 s:Nat):Int)+(eM:Int))=_
  rw [c1 (by omega) (by omega)];omega
 have rr:U (((2*eb s+kN:Nat):Int)*((b9 s+eM:Nat):Int))=(((2*eb s+kN)*(b9 s+eM):Nat):Int):=by rw [← Int.natCast_mul,c1 (by omega) (by omega)]
 rw [iM,mo,rr,Int.toNat_natCast,Int.toNat_natCast,Int.toNat_natCast,nM,nM,nM,gY,c5]
 refine bP (by omega) (bP (by omega) (bP (by omega) ?_))
 refine aG (x:=a4 ((2*eb s+kN)*(b9 s+eM)) (fun x=>uI s (x / (b9 s+eM)) (x % (b9 s+eM)))) ?_ ?_
 ·unfold GI
  obtain ⟨x,e,-⟩:=iN (f:=fun w:Int×List Int=>wQ s.cj s.bz l (hl s) (a4 (2*eb s) fun r=>a4 s.bz.length (i9 s r)) ((2*eb s:Nat):Int) ((2*eb s+kN:Nat):Int) ((b9 s+eM:Nat):Int) (a4 (2*eb s+kN) fun _=>0) (a4 (b9 s+eM) fun _=>0) w.1 w.2) (fun (i:Nat) (_:Unit)=>((i:Int),a4 ((2*eb s+kN)*(b9 s+eM)) (p8 s (b9 s+eM) i 0))) (2*eb s) (fun _ _=>True) (fun _=>a4 ((2*eb s+kN)*(b9 s+eM)) (fun x=>uI s (x / (b9 s+eM)) (x % (b9 s+eM))))
   (fun i ag _ _=>by
     refine ⟨(),?_,trivial⟩
     have rb:(i+1)*(b9 s+eM)≤(2*eb s+kN)*(b9 s+eM):=Nat.mul_le_mul_right _ (by omega)
     rw [Nat.succ_mul] at rb
     obtain ⟨y,aH,-⟩:=iN (f:=fun w:Int×List Int=>wP s.cj s.bz l (hl s) (i:Int) (a4 s.bz.length (i9 s i)) (a4 (2*eb s) fun r=>a4 s.bz.length (i9 s r)) ((2*eb s:Nat):Int) ((b9 s:Nat):Int) ((2*eb s+kN:Nat):Int) ((b9 s+eM:Nat):Int) (a4 (2*eb s+kN) fun _=>0) (a4 (b9 s+eM) fun _=>0) w.1 w.2) (fun (c:Nat) (_:Unit)=>((c:Int),a4 ((2*eb s+kN)*(b9 s+eM)) (p8 s (b9 s+eM) i c))) (b9 s) (fun _ _=>True) (fun _=>a4 ((2*eb s+kN)*(b9 s+eM)) (p8 s (b9 s+eM) i (b9 s)))
      (fun c aQ _ _=>by
        refine ⟨(),?_,trivial⟩
        obtain ⟨kE,j1,mj⟩:=sq s aQ
        have agU:=RT s h i aQ
        have aeT:U (U ((i:Int)*((b9 s+eM:Nat):Int))+((c:Nat):Int))=((i*(b9 s+eM)+c:Nat):Int):=by
         rw [← Int.natCast_mul,c1 (x:=((i*(b9 s+eM):Nat):Int)) (by omega) (by omega),c1 (by omega) (by omega)];omega
        unfold wP
        refine ew (by simp only;omega) (bP (by show _∧((c:Nat):Int)<((b9 s:Nat):Int);simp only;omega) (aG (x:=⟨(hs s c:Int),mq s c⟩) (by simp only;rw [Int.toNat_natCast];exact kE) (bP (by rw [c5];simp only;omega) (aG (x:=i9 s i (hs s c)) (by simp only;rw [Int.toNat_natCast];exact gX j1) ?_))))
        simp only
        rw [aeT]
        refine bP (by rw [c5];omega) (bP (by rw [c5,Int.toNat_natCast];omega) ?_)
        rw [gu (by omega),Int.toNat_natCast,Nat.zero_add,show mq s c*i9 s i (hs s c)=j3 s i c from rfl,c1 (by omega) (by omega),aa8 s aQ (by omega) (by omega) rfl])
      (fun _ _=>by unfold wP;exact eY (by simp) rfl) () trivial
     unfold wQ
     refine ew (by simp only;omega) (bP (by rw [c5];simp only;omega) (aG (x:=a4 s.bz.length (i9 s i)) (by simp only;rw [Int.toNat_natCast];exact gX ag) (aG (x:=a4 ((2*eb s+kN)*(b9 s+eM)) (p8 s (b9 s+eM) i (b9 s))) (by unfold GH;rw [gY];exact aH) ?_)))
     simp only
     rw [gu (by omega),aa9])
   (fun _ _=>by
     unfold wQ
     refine eY (by simp) ?_
     simp only
     rw [aba]) () trivial
  rw [aae] at e
  exact e
 refine aG (Jq s (by omega)) ?_
 rw [Ki,hk,c5]
 refine aG (x:=a4 (2*eb s+kN) (nF s l)) ?_ rfl
 unfold GJ
 obtain ⟨x,e,-⟩:=iN (f:=fun w:Int×List Int=>wR l (a4 (eb s) fun q=>((ib s q:Nat):Int)) ((eb s:Nat):Int) ((2*eb s+kN:Nat):Int) ((b9 s+eM:Nat):Int) (a4 ((2*eb s+kN)*(b9 s+eM)) (fun x=>uI s (x / (b9 s+eM)) (x % (b9 s+eM)))) (a4 (b9 s+eM) fun _=>0) w.1 w.2) (fun (n:Nat) (_:Unit)=>((n:Int),a4 (2*eb s+kN) fun x=>if x<2*n then nF s l x else 0)) (eb s) (fun _ _=>True) (fun _=>a4 (2*eb s+kN) (nF s l))
  (fun n a0 _ _=>by
    refine ⟨(),?_,trivial⟩
    have ca:=A2 s a0
    have mo : ∀a:Nat,a≤1000→U ((2:Int)*((a:Nat):Int))=((2*a:Nat):Int):=fun a bH=>by rw [c1 (by omega) (by omega)];omega
    have f8:=aW l[2*ib s n] (List.getElem_mem (by omega))
    have fo:=aW l[2*ib s n+1] (List.getElem_mem (by omega))
    have ho:nF s l (2*n) = -l[2*ib s n]:=by
     unfold nF kG
     rw [if_pos (by omega),show 2*n / 2=n by omega,show 2*n % 2=0 by omega,Nat.add_zero,List.getD_eq_getElem?_getD,List.getElem?_eq_getElem (by omega)];rfl
    have iq:nF s l (2*n+1) = -l[2*ib s n+1]:=by
     unfold nF kG
     rw [if_pos (by omega),show (2*n+1) / 2=n by omega,show (2*n+1) % 2=1 by omega,List.getD_eq_getElem?_getD,List.getElem?_eq_getElem (by omega)];rfl
    have c6 : ∀k v,v=nF s l k→(a4 (2*eb s+kN) fun x=>if x<k then nF s l x else 0).set k v=a4 (2*eb s+kN) fun x=>if x<k+1 then nF s l x else 0:=fun k v a6=>by
     rw [kP]
     refine fy fun j _=> ?_
     by_cases c:j=k
     ·subst c;rw [if_pos rfl,if_pos (by omega)];exact a6
     ·rw [if_neg c]
      by_cases cX:j<k
      ·rw [if_pos cX,if_pos (by omega)]
      ·rw [if_neg cX,if_neg (by omega)]
    unfold wR
    refine ew (by simp only;omega) (bP (by rw [c5];simp only;omega) (aG (x:=((ib s n:Nat):Int)) (by simp only;rw [Int.toNat_natCast];exact gX a0) ?_))
    simp only
    rw [mo (ib s n) (by omega),mo n (by omega),gu (n:=2*ib s n) (by omega),gu (n:=2*n) (by omega)]
    refine bP (by omega) (aG (x:=l[2*ib s n]) (by rw [Int.toNat_natCast];exact List.getElem?_eq_getElem (by omega)) (bP (by omega) (aG (x:=l[2*ib s n+1]) (by rw [Int.toNat_natCast];exact List.getElem?_eq_getElem (by omega)) ?_)))
    refine bP (by rw [c5];omega) (bP (by rw [c5,Int.toNat_natCast];omega) (bP (by rw [c5];omega) (bP (by rw [List.length_set,c5,Int.toNat_natCast];omega) ?_)))
    rw [gu (by omega),c1 (x:=0-l[2*ib s n]) (by omega) (by omega),c1 (x:=0-l[2*ib s n+1]) (by omega) (by omega),Int.toNat_natCast,Int.toNat_natCast,Nat.zero_add,Nat.zero_add,c6 _ _ (by rw [ho];omega),c6 _ _ (by rw [iq];omega),show 2*(n+1)=2*n+1+1 by omega])
  (fun _ _=>by
    unfold wR
    refine eY (by simp) ?_
    simp only
    rw [abb]) () trivial
 rw [Nat.mul_zero,aaf] at e
 exact e
theorem yk (s:b4)(h:lE s)(l:List Int)(aT:l.length=2*s.cj.length)(aW:∀x∈l,-100≤x∧x≤100):
 sK s l 0 0=some ((kn s l).jL,(kn s l).i1,(kn s l).f9,(kn s l).fX,(kn s l).jT):=by
 have e:=YE s h l aT aW 0 0 (by omega) (by omega)
 rw [show ((0:Nat):Int)=0 from rfl] at e
 have hA:a4 (2*eb s*b9 s) (fun x=>uI s (x / b9 s) (x % b9 s))=a4 (2*eb s*b9 s) (fun x=>j3 s (x / b9 s) (x % b9 s)):=fy fun x aa=>by
  have oa:0<b9 s:=by
   rcases Nat.eq_zero_or_pos (b9 s) with c|c
   ·rw [c,Nat.mul_zero] at aa;omega
   ·exact c
  unfold uI
  rw [if_pos ⟨Nat.div_lt_of_lt_mul (by rw [Nat.mul_comm];exact aa),Nat.mod_lt _ oa⟩]
 have hL:a4 (2*eb s) (nF s l)=a4 (2*eb s) (kG s l):=fy fun x aa=>by unfold nF;rw [if_pos aa]
 rw [e]
 simp only [Nat.add_zero,kn]
 rw [hA,hL]
theorem ZE {x:Rat}(h:fS x):yd (ie x)=some true:=by
 have p:=h.dj
 have o:=p.y1
 have J:=p.y2
 obtain ⟨R,-,e,k⟩:=XS (r:=ie x) (show (L (gl x).1.natAbs).length≤_ by omega) (show (L (gl x).2).length≤_ by omega)
 rw [e,k.2 ⟨gl x,p,rfl⟩]
theorem EU {x:Rat}(h:fS x):vf (ie x)=some (cT x):=aG (ZE h) (fr rfl rfl)
theorem EV (x:Rat):sN (cT x)=some (ma (gl x).1):=YA
theorem YF {x:Rat}(h:fS x):DW (ie x)=some (ma (gl x).1):=aG (EU h) (aG (EV x) rfl)
theorem vv {x:Rat}(h:fS x):sT (cT x)=some (ie x):=by
 have p:=h.dj
 have o:=p.y1
 have J:=p.y2
 refine aG (R:=zX (k9 (gl x)).qn) (x:=hJ (gl x).1) ?_ (aG (x:=L (gl x).2) (Kb (a:=L (gl x).2) (by omega)) rfl)
 unfold zX
 exact eY (by rw [hk];show ¬(60:Int)<((L ((gl x).1.natAbs:Int)).length:Nat);omega) (aG (x:=L ((gl x).1.natAbs:Int)) (Kb (a:=L ((gl x).1.natAbs:Int)) (by omega)) rfl)
theorem KX (x:Rat):vn (cT x)=some (cT (-x)):=by
 have e:p9 (hJ x.num)=some (hJ (-x.num)):=by
  have:p9 (hJ x.num)=(lL (!(decide (x.num<0))) (L (x.num.natAbs:Int))).bind fun r=>some r:=rfl
  rw [this,qO (by omega)]
  have:fB (!(decide (x.num<0))) (x.num.natAbs:Int) = -x.num:=by
   unfold fB
   by_cases c:x.num<0
   ·rw [decide_eq_true c];simp;omega
   ·rw [decide_eq_false c];simp;omega
  rw [this];rfl
 refine aG (R:=p9 (hJ x.num)) e ?_
 unfold cT gl
 rw [Rat.neg_num,Rat.neg_den];rfl
theorem yr:fS 0:=tX (n:=0) (by rw [mv];omega)
theorem Lq:rv 0=some (ie 0):=aG (s5 (n:=0) (by rw [mv];omega)) (aG (vv yr) rfl)
def k2 (s:b4)(k sign:Int)(c:Nat):Int:=if (hs s c:Int)=k then sign*mq s c else 0
theorem QR (s:b4)(k:Int){sign:Int}(h:sign=1∨sign = -1){c:Nat}(aQ:c<b9 s): -1≤k2 s k sign c∧k2 s k sign c≤1:=by
 obtain ⟨-,-,mj⟩:=sq s aQ
 unfold k2
 split
 ·rcases h with rfl|rfl<;>rcases mj with e|e<;>rw [e]<;>omega
 ·omega
theorem Ru (s:b4)(v:lE s)(k sign:Int)(b0:sign=1∨sign = -1)(x0 f8:Int)(fJ eo:List Int)(f:Nat→Int):uR s k sign x0 f8 fJ eo (a4 (b9 s) f)=some (a4 (b9 s) (k2 s k sign)):=by
 have oa:=tg s
 have v4:=v.2.2.2
 unfold uR
 refine aG (x:=hl s) (Aw s (by omega)) (aG ?_ rfl)
 unfold Hw
 have aT:len_ et (hl s)=((b9 s:Nat):Int):=gY ..
 rw [aT]
 obtain ⟨x,e,-⟩:=iN (f:=fun w:Int×List Int=>w9 k sign (hl s) ((b9 s:Nat):Int) x0 f8 fJ eo w.1 w.2) (fun (n:Nat) (_:Unit)=>((n:Int),a4 (b9 s) fun j=>if j<n then k2 s k sign j else f j)) (b9 s) (fun _ _=>True) (fun _=>a4 (b9 s) (k2 s k sign))
  (fun n a0 _ _=>by
    refine ⟨(),?_,trivial⟩
    obtain ⟨kE,j1,mj⟩:=sq s a0
    have c6 : ∀a,(a4 (b9 s) fun j=>if j<n then k2 s k sign j else f j).set n a=a4 (b9 s) fun j=>if j=n then a else if j<n then k2 s k sign j else f j:=fun a=>kP ..
    have fin : ∀a,a=k2 s k sign n→(a4 (b9 s) fun j=>if j=n then a else if j<n then k2 s k sign j else f j)=a4 (b9 s) fun j=>if j<n+1 then k2 s k sign j else f j:=fun a bH=>fy fun j _=>by
     by_cases c:j=n
     ·subst c;rw [if_pos rfl,if_pos (by omega),bH]
     ·rw [if_neg c]
      by_cases d:j<n
      ·rw [if_pos d,if_pos (by omega)]
      ·rw [if_neg d,if_neg (by omega)]
    unfold w9
    simp only
    rw [gu (by omega),Int.toNat_natCast,Nat.zero_add,c6]
    refine ew (by omega) (bP (by show _∧((n:Nat):Int)<((b9 s:Nat):Int);omega) (aG kE (bP (by rw [c5];omega) (bP (by rw [c5];omega) ?_))))
    by_cases c:(hs s n:Int)=k
    ·refine fr (by simp only;rw [c];simp) (bP (by rw [c5];omega) ?_)
     rw [kP,c1 (by rcases b0 with rfl|rfl<;>rcases mj with e|e<;>simp only [e]<;>omega) (by rcases b0 with rfl|rfl<;>rcases mj with e|e<;>simp only [e]<;>omega)]
     congr 3
     rw [← fin (sign*mq s n) (by unfold k2;rw [if_pos c])]
     exact fy fun j _=>by
      by_cases d:j=n
      ·rw [if_pos d,if_pos d]
      ·rw [if_neg d,if_neg d,if_neg d]
    ·refine gS (by simp only;exact beq_false_of_ne c) ?_
     rw [fin 0 (by unfold k2;rw [if_neg c])])
  (fun _ _=>by
    unfold w9
    refine eY (by simp) ?_
    simp only
    congr 2
    exact fy fun j aE=>by rw [if_pos aE]) () trivial
 have e0:(a4 (b9 s) fun j=>if j<0 then k2 s k sign j else f j)=a4 (b9 s) f:=fy fun j _=>by rw [if_neg (by omega)]
 rw [← e0];exact e
theorem RU {p:m8}{m n:Nat}{a:Nat→Nat→Int}{b:Nat→Int}(h:n2 p m n a b)(C:List Int):n2 ⟨p.jL,p.i1,p.f9,p.fX,C⟩ m n a b :=
 ⟨h.rows,h.hl,h.n7,h.BH,h.MN,h.Lk,h.hm,h.a0,h.wK,h.CI⟩
theorem YG (s:b4)(v:lE s)(l:List Int)(aW:∀x∈l,-100≤x∧x≤100)(n9:ng (2*eb s) (b9 s) (j3 s) (kG s l))(k:Int){sign:Int}(b0:sign=1∨sign = -1):
 ∃r,sg (kn s l).jL (kn s l).i1 (kn s l).f9 (kn s l).fX (a4 (b9 s) (k2 s k sign))=some r∧(r=(3,[],none)∨ ∃X y,fS y∧r=(0,X,cT y)):=by
 obtain ⟨r,e,h⟩:=Et (RU (A3 s v l aW) (a4 (b9 s) (k2 s k sign))) (c:=k2 s k sign) rfl (fun j aE=>by have:=QR s k b0 aE;omega)
 refine ⟨r,e,?_⟩
 rcases h with ⟨h,-⟩|⟨-,-,h⟩|⟨x,w,-,-,-,o,J⟩
 ·exact (h n9).elim
 ·exact .inl h
 ·exact .inr ⟨_,_,o,J⟩
theorem PF {fR:List bF}{k:Nat}: ∀ {n:Nat},k<n→n≤fR.length→ ∃x∈kS fR n,x.fj=(k:Int)
 | 0,h,_=>by omega
 | n+1,h,a0=>by
  rw [kS,List.getElem?_eq_getElem (show n<fR.length by omega)]
  by_cases e:k=n
  ·subst e
   simp only
   unfold q3
   by_cases c:fR[k].gr=2
   ·exact ⟨⟨(k:Int),-1⟩,by rw [List.mem_append,List.mem_append,if_neg (show ¬fR[k].gr=1 by omega)];exact .inr (.inr (by simp)),rfl⟩
   ·exact ⟨⟨(k:Int),1⟩,by rw [List.mem_append,List.mem_append,if_neg c];exact .inr (.inl (by simp)),rfl⟩
  ·obtain ⟨x,o,J⟩:=PF (fR:=fR) (k:=k) (n:=n) (by omega) (by omega)
   exact ⟨x,List.mem_append_left _ o,J⟩
theorem ZF (s:b4){k:Nat}(aY:k<s.bz.length): ∃c,c<b9 s∧hs s c=k:=by
 obtain ⟨x,o,J⟩:=PF aY (Nat.le_refl _)
 obtain ⟨c,aQ⟩:=List.getElem?_of_mem o
 have aT:c<b9 s:=gp aQ
 obtain ⟨e,-,-⟩:=sq s aT
 have aH:(hl s)[c]? = some x:=aQ
 rw [aH] at e
 have:=Option.some.inj e
 rw [this] at J
 exact ⟨c,aT,by simp only at J;omega⟩
def gT (s:b4)(x:Nat→Rat)(c k:Nat):Rat:=cb c fun j=>if hs s j=k then (mq s j:Rat)*x j else 0
def rs (s:b4)(c k:Nat):Bool:=(List.range c).any fun j=>hs s j == k
theorem aag (s:b4)(c k:Nat):rs s (c+1) k=(rs s c k || (hs s c == k)):=by
 unfold rs;rw [List.range_succ,List.any_append];simp
theorem abP {s:b4}{x:Nat→Rat}{c k:Nat}(h:rs s c k=false):gT s x c k=0:=by
 unfold rs at h
 rw [List.any_eq_false] at h
 exact nJ fun j aE=>if_neg fun e=>h j (List.mem_range.2 aE) (by rw [e];simp)
theorem abc (s:b4){k:Nat}(aY:k<s.bz.length):rs s (b9 s) k=true:=by
 obtain ⟨c,o,J⟩:=ZF s aY
 unfold rs
 exact List.any_eq_true.2 ⟨c,List.mem_range.2 o,by rw [J];simp⟩
theorem KY {s:b4}{x:Nat→Rat}{w:Rat}{K:Nat}(aa:∀j,dv K (x j*w)): ∀ {c:Nat} (k:Nat),c≤b9 s→dv (c*K) (gT s x c k*w):=fun {c} k aQ=>by
 have:gT s x c k*w=cb c fun j=>(if hs s j=k then (mq s j:Rat)*x j else 0)*w:=by
  unfold gT
  rw [Rat.mul_comm,← iO]
  exact fK fun j _=>Rat.mul_comm _ _
 rw [this]
 refine dv.sum fun j aE=> ?_
 obtain ⟨-,-,e⟩:=sq s (show j<b9 s by omega)
 split
 ·rcases e with e|e<;>rw [e]
  ·rw [show ((1:Int):Rat)*x j*w=x j*w by grind];exact aa j
  ·rw [show ((-1:Int):Rat)*x j*w = -(x j*w) by grind];exact (aa j).neg
 ·exact ⟨0,by rw [Rat.zero_mul];rfl,by simp⟩
theorem Bj {x y:Rat}(aa:fS x)(aP:fS y)(h:fS (x+y)):m9 (cT x) (cT y)=some (cT (x+y)):=aG (Rr aa aP) (aG (yU h) rfl)
def q4 (s:b4)(x:Nat→Rat)(c:Nat):List (Option bj):=a4 s.bz.length fun k=>if rs s c k then cT (gT s x c k) else none
theorem QS (s:b4)(v:lE s){x:Nat→Rat}(aa:∀j,fS (x j))(bc:∀c k,c≤b9 s→fS (gT s x c k)):zS s (a4 (b9 s) fun j=>cT (x j))=some (a4 s.bz.length fun k=>cT (gT s x (b9 s) k)):=by
 have bu:=v.2.2.2
 have oa:=tg s
 have aT:len_ c3 s.bz=((s.bz.length:Nat):Int):=gY ..
 have hZ:len_ et (hl s)=((b9 s:Nat):Int):=gY ..
 unfold zS
 rw [aT]
 refine bP (by omega) (aG (x:=hl s) (Aw s (by omega)) (aG ?_ rfl))
 unfold HD
 rw [hZ]
 obtain ⟨z,e,-⟩:=iN (f:=fun w:Int×(List (Option bj))=>xc (a4 (b9 s) fun j=>cT (x j)) (hl s) ((b9 s:Nat):Int) w.1 w.2) (fun (c:Nat) (_:Unit)=>((c:Int),q4 s x c)) (b9 s) (fun _ _=>True) (fun _=>a4 s.bz.length fun k=>cT (gT s x (b9 s) k))
  (fun c aQ _ _=>by
    refine ⟨(),?_,trivial⟩
    obtain ⟨kE,j1,mj⟩:=sq s aQ
    have fin : ∀y,y=cT (gT s x (c+1) (hs s c))→(q4 s x c).set (hs s c) y=q4 s x (c+1):=fun y aP=>by
     unfold q4
     rw [kP]
     refine fy fun k _=> ?_
     rw [aag]
     by_cases e:k=hs s c
     ·subst e;rw [if_pos rfl,aP];simp
     ·have aH:gT s x (c+1) k=gT s x c k:=by
       show gT s x c k+(if hs s c=k then _ else _)=_
       rw [if_neg (fun q=>e q.symm)];grind
      rw [if_neg e,aH,show (hs s c == k)=false from beq_false_of_ne (fun q=>e q.symm),Bool.or_false]
    have last:gT s x (c+1) (hs s c)=gT s x c (hs s c)+(mq s c:Rat)*x c:=by
     show gT s x c _+(if hs s c=hs s c then _ else _)=_
     rw [if_pos rfl]
    have hlen:(q4 s x c).length=s.bz.length:=c5 ..
    have Sh:(q4 s x c)[0+((hs s c:Nat):Int).toNat]? = some (if rs s c (hs s c) then cT (gT s x c (hs s c)) else none):=by
     rw [Int.toNat_natCast];exact jU j1
    have put : ∀ {F:Option (Option bj)→Prop} {y:Rat},y=(mq s c:Rat)*x c→fS y →
     ((if rs s c (hs s c) then cT (gT s x c (hs s c)) else none:Option bj).elim (if (0+((hs s c:Nat):Int).toNat)<(q4 s x c).length then some (Sum.inl (U ((c:Int)+(1:Int)),(q4 s x c).set (0+((hs s c:Nat):Int).toNat) (cT y))) else none)
       fun _=>m9 (if rs s c (hs s c) then cT (gT s x c (hs s c)) else none) (cT y) >>= fun df=>if (0+((hs s c:Nat):Int).toNat)<(q4 s x c).length then some (Sum.inl (U ((c:Int)+(1:Int)),(q4 s x c).set (0+((hs s c:Nat):Int).toNat) df)) else none)
     = some (Sum.inl (((c+1:Nat):Int),q4 s x (c+1)):(Int×(List (Option bj)))⊕((List (Option bj)))):=fun {F y} aP aeU=>by
     rw [gu (by omega),Int.toNat_natCast,Nat.zero_add]
     cases q:rs s c (hs s c) with
     | false =>
      rw [if_neg (by simp)]
      show (if _ then _ else _)=_
      rw [if_pos (by rw [hlen];exact j1),fin _ (by rw [last,abP q,aP];congr 1;grind)]
     | true =>
      rw [if_pos rfl]
      show (m9 (cT (gT s x c (hs s c))) (cT y) >>= _)=_
      have b0:fS (gT s x c (hs s c)+y):=by rw [aP,← last];exact bc _ _ aQ
      refine aG (Bj (bc _ _ (Nat.le_of_lt aQ)) aeU b0) ?_
      rw [if_pos (by rw [hlen];exact j1),fin _ (by rw [last,aP])]
    unfold xc
    simp only
    refine ew (by omega) (bP (by show _∧((c:Nat):Int)<((b9 s:Nat):Int);omega) (aG kE (bP (by rw [c5];omega) (aG (x:=cT (x c)) (by rw [Int.toNat_natCast];exact gX aQ) ?_))))
    rcases mj with e|e
    ·refine eY (by simp only;omega) (bP (by rw [hlen];simp only;omega) (aG Sh ?_))
     exact put (F:=fun _=>True) (by rw [e];grind) (aa c)
    ·refine ew (by simp only;omega) (aG (KX (x c)) (bP (by rw [hlen];simp only;omega) (aG Sh ?_)))
     exact put (F:=fun _=>True) (by rw [e];grind) (aa c).neg)
  (fun _ _=>by
    unfold xc
    refine eY (by simp) ?_
    simp only
    congr 2
    exact fy fun k aY=>by rw [abc s aY,if_pos rfl]) () trivial
 have e0:q4 s x 0=List.replicate (((s.bz.length:Nat):Int).toNat) none:=by
  rw [Int.toNat_natCast,nM];exact fy fun k _=>rfl
 rw [← e0];exact e
theorem JX {n:Nat}(a0:n≤40){y:Nat→Rat}(aP:∀k,k<n→fS (y k)):va (a4 n fun k=>cT (y k))=some (a4 n (fun k=>ie (y k)),true):=by
 have aT:len_ (bM 3 aS) (a4 n fun k=>cT (y k))=((n:Nat):Int):=by rw [gY,c5]
 unfold va
 rw [aT]
 refine bP (by omega) (aG (x:= .inl (a4 n fun k=>ie (y k))) ?_ rfl)
 unfold Je
 obtain ⟨z,e,-⟩:=iN (f:=fun w:Int×(List ep)=>xG (a4 n fun k=>cT (y k)) ((n:Nat):Int) w.1 w.2) (fun (k:Nat) (_:Unit)=>((k:Int),a4 n fun j=>if j<k then ie (y j) else (⟨⟨false,[]⟩,[]⟩:ep))) n (fun _ _=>True) (fun _=>(.inl (a4 n fun k=>ie (y k)):(List ep)⊕Unit))
  (fun k aY _ _=>by
    refine ⟨(),?_,trivial⟩
    unfold xG
    simp only
    refine ew (by omega) (bP (by rw [c5];omega) (aG (x:=cT (y k)) (by rw [Int.toNat_natCast];exact gX aY) ?_))
    show (sT (cT (y k)) >>= _)=_
    refine aG (vv (aP k aY)) (bP (by rw [c5];omega) (bP (by rw [c5,Int.toNat_natCast];omega) ?_))
    rw [gu (by omega),Int.toNat_natCast,Nat.zero_add,kP]
    congr 3
    refine fy fun j _=> ?_
    by_cases bE:j=k
    ·subst bE;rw [if_pos rfl,if_pos (by omega)]
    ·rw [if_neg bE]
     by_cases cX:j<k
     ·rw [if_pos cX,if_pos (by omega)]
     ·rw [if_neg cX,if_neg (by omega)])
  (fun _ _=>by
    unfold xG
    refine eY (by simp) ?_
    simp only
    congr 3
    exact fy fun j aE=>by rw [if_pos aE]) () trivial
 have e0:(a4 n fun j=>if j<0 then ie (y j) else (⟨⟨false,[]⟩,[]⟩:ep))=List.replicate (((n:Nat):Int).toNat) ⟨⟨false,[]⟩,[]⟩:=by
  rw [Int.toNat_natCast,nM];exact fy fun j _=>by rw [if_neg (by omega)]
 rw [← e0];exact e
structure vM (m n:Nat) (a:Nat→Nat→Int) (b:Nat→Int) (c:Nat→Rat) (x:Nat→Rat) (w:Rat):Prop where
 k5:s7 m n a b c x
 pos:0<w
 nH:dv (kf 100 m) w
 MS : ∀j,dv (kf 100 m) (x j*w)
 fit : ∀j,fS (x j)
theorem abd {m:Nat}(hm:m≤20):kf 100 m≤ey:=E7▸vm (by omega) hm
theorem KM {s:b4}{x:Nat→Rat}{w:Rat}{m:Nat}(hm:m≤20)(oa:b9 s≤16)(aj:0<w)(hw:dv (kf 100 m) w)(aa:∀j,dv (kf 100 m) (x j*w)){c:Nat}(k:Nat)(aQ:c≤b9 s):fS (gT s x c k):=by
 have o:=KY aa k aQ
 have hF:=abd hm
 have J:c*kf 100 m≤16*ey:=Nat.mul_le_mul (by omega) hF
 have af:16*ey≤40*(ey*100):=by omega
 exact vF (K:=21*100*(ey*ey)) (hw.mono (Nat.le_trans hF BI)) (o.mono (Nat.le_trans J (Nat.le_trans af Lo))) (by grind) (by grind) (tf (Nat.le_refl _))
theorem Qc {α:Type}{T n:Nat}(f:Nat→α)(h:n≤T):(a4 T f).take n=a4 n f:=by
 apply List.ext_getElem?
 intro i
 by_cases c:i<n
 ·rw [List.getElem?_take,if_pos c,gX (by omega),gX c]
 ·rw [List.getElem?_take,if_neg c,List.getElem?_eq_none_iff.2 (by rw [c5];omega)]
theorem aah (s:b4)(v:lE s){p:m8}{m n:Nat}{a:Nat→Nat→Int}{b:Nat→Int}(h:n2 p m n a b){c:Nat→Int}(oa:p.jT=a4 n c)(aQ:∀j,j<n→ -100≤c j∧c j≤100)(a0:b9 s≤n):
 (¬ng m n a b∧uN s p.jL p.i1 p.f9 p.fX p.jT=some ([],[],false))∨(ng m n a b∧ ¬Bounded m n a b (lf n c)∧uN s p.jL p.i1 p.f9 p.fX p.jT=some ([],[],false)) ∨
   ∃x w r,vM m n a b (lf n c) x w∧uN s p.jL p.i1 p.f9 p.fX p.jT=some (a4 s.bz.length (fun k=>cT (gT s x (b9 s) k)),r,true):=by
 have bu:=v.2.2.2
 have aei:=tg s
 obtain ⟨r,e,ao⟩:=Et h oa aQ
 rcases ao with ⟨q,rfl⟩|⟨q,bg,rfl⟩|⟨x,w,q,⟨iM,mo,rr⟩,b1,cI,rfl⟩
 ·exact .inl ⟨q,aG e (fr rfl rfl)⟩
 ·exact .inr (.inl ⟨q,bg,aG e (fr rfl rfl)⟩)
 ·have hZ:len_ et (hl s)=((b9 s:Nat):Int):=gY ..
  have ca:=QS s v b1 (fun c k aQ=>KM h.hm (by omega) iM mo rr k aQ)
  have key : ∃r,uN s p.jL p.i1 p.f9 p.fX p.jT=some (a4 s.bz.length (fun k=>cT (gT s x (b9 s) k)),r,true):=by
   refine ⟨((a4 n fun j=>cT (x j)).drop (b9 s)).take (((a4 n fun j=>cT (x j)).map (bM 3 aS)).length-b9 s),aG e (gS rfl (aG (x:=hl s) (Aw s (by omega)) ?_))⟩
   rw [hZ]
   simp only [Int.toNat_natCast]
   refine bP (by omega) (bP (by simp only [c5];omega) (aG ?_ (bP (by simp only [c5];omega) rfl)))
   simp only [List.drop_zero,Nat.sub_zero]
   rw [Qc _ a0]
   exact ca
  obtain ⟨r,ao⟩:=key
  exact .inr (.inr ⟨x,w,r,⟨q,iM,mo,rr,b1⟩,ao⟩)
theorem Ou {m n:Nat}{a:Nat→Nat→Int}{b:Nat→Int}:Bounded m n a b (lf n fun _=>0):=⟨0,fun y _=>by
 unfold val
 rw [nJ fun j aE=> ?_]
 ·exact Rat.le_refl
 ·have:lf n (fun _=>0) j=0:=by unfold lf ni;simp only;split<;>rfl
  rw [this];grind⟩
theorem aai (s:b4)(v:lE s){l:List Int}(ok:tO s l=some true)(aT:l.length=2*s.cj.length)(aW:∀x∈l,-100≤x∧x≤100):
 (¬ng (2*eb s) (b9 s) (j3 s) (kG s l)∧xP s l=some ([],false)) ∨
   ∃x w,vM (2*eb s) (b9 s) (j3 s) (kG s l) (lf (b9 s) fun _=>0) x w∧xP s l=some (a4 s.bz.length (fun k=>ie (gT s x (b9 s) k)),true):=by
 have bu:=v.2.2.2
 have oa:=tg s
 have aj:=A3 s v l aW
 unfold xP
 rcases aah s v aj (c:=fun _=>0) rfl (fun j _=>by omega) (Nat.le_refl _) with ⟨q,e⟩|⟨q,bg,e⟩|⟨x,w,r,q,e⟩
 ·exact .inl ⟨q,aG ok (fr rfl (aG (yk s v l aT aW) (aG e (gS rfl rfl))))⟩
 ·exact (bg Ou).elim
 ·refine .inr ⟨x,w,q,aG ok (fr rfl (aG (yk s v l aT aW) (aG e (fr rfl (aG (JX (by omega) fun k _=>KM aj.hm (by omega) q.pos q.nH q.MS k (Nat.le_refl _)) rfl)))))⟩
theorem Rv (x:Int):0≤U (((BitVec.ofInt (IntKind.bits .i64) x &&& BitVec.ofInt (IntKind.bits .i64) (255:Int)).toNat:Int))∧U (((BitVec.ofInt (IntKind.bits .i64) x &&& BitVec.ofInt (IntKind.bits .i64) (255:Int)).toNat:Int))≤255:=by
 have h:(BitVec.ofInt (IntKind.bits .i64) x &&& BitVec.ofInt (IntKind.bits .i64) (255:Int)).toNat≤255:=by
  rw [BitVec.toNat_and]
  exact Nat.le_trans Nat.and_le_right (Nat.le_of_eq (by decide))
 rw [c1 (by omega) (by omega)]
 omega
theorem aaj (c:List Int)(aQ:c.length≤1048576)(i h:Int)(ag:0≤i): ∃b fD cA,sP c i h=some (b,fD,cA)∧(0≤b∧b≤255)∧0≤fD:=by
 unfold sP
 by_cases e:i<c.length
 ·have aa:=List.getElem?_eq_getElem (show i.toNat<c.length by omega)
  exact ⟨_,_,_,ew (by show i<((c.map eU8).length:Nat);rw [List.length_map];exact e) (bP ⟨ag,e⟩ (aG aa rfl)),Rv _,by rw [c1 (by omega) (by omega)];omega⟩
 ·exact ⟨_,_,_,eY (by show ¬i<((c.map eU8).length:Nat);rw [List.length_map];exact e) rfl,Rv _,ag⟩
theorem mw (n:Int)(o:1≤n)(J:n≤256)(c:List Int)(aQ:c.length≤1048576)(i h:Int)(ag:0≤i): ∃b fD cA,lg n c i h=some (b,fD,cA)∧(0≤b∧b<n)∧0≤fD:=by
 obtain ⟨b,fD,cA,e,aW,ke⟩:=aaj c aQ i h ag
 unfold lg
 refine ⟨b.tmod n,fD,cA,eY (by omega) (ew J (aG e (bP (by omega) rfl))),?_,ke⟩
 rw [Int.tmod_eq_emod_of_nonneg aW.1]
 exact ⟨Int.emod_nonneg _ (by omega),Int.emod_lt_of_pos _ (by omega)⟩
theorem Ku (n:Int)(o:1≤n)(J:n≤256)(c:List Int)(aQ:c.length≤1048576)(i h:Int)(ag:0≤i): ∃b fD cA,xW n c i h=some (b,fD,cA)∧0≤fD:=by
 obtain ⟨b,fD,cA,e,-,ke⟩:=mw n o J c aQ i h ag
 exact ⟨b == 0,fD,cA,aG e rfl,ke⟩
theorem Kv (l:List Int)(o:1≤l.length)(J:l.length≤256)(c:List Int)(aQ:c.length≤1048576)(i h:Int)(ag:0≤i): ∃b fD cA,xX l c i h=some (b,fD,cA)∧b∈l∧0≤fD:=by
 obtain ⟨b,fD,cA,e,aW,ke⟩:=mw (len_ I l) (by rw [gY];omega) (by rw [gY];omega) c aQ i h ag
 rw [gY] at aW
 have aa:=List.getElem?_eq_getElem (show b.toNat<l.length by omega)
 exact ⟨_,fD,cA,aG e (bP (by simp only;omega) (aG aa rfl)),List.getElem_mem _,ke⟩
theorem abe (c:List Int)(aQ:c.length≤1048576): ∃h,DL c=some h:=by
 obtain ⟨r,e,-⟩:=sY (f:=fun w:Int×Int=>xm c w.1 w.2) (fun (n:Nat) (s:Int)=>(s,(n:Int))) c.length (fun _ _=>True) (fun _=>True)
  (fun n a0 s _=>by
    have aa:=List.getElem?_eq_getElem a0
    simp only
    unfold xm
    have aT:(n:Int)<len_ eU8 c:=by rw [gY];omega
    by_cases d:(n:Int)<4000
    ·exact .inl ⟨_,ew aT (ew d (bP (by omega) (aG (gt rfl aa) (by rw [m5 (by omega)])))),trivial⟩
    ·exact .inr ⟨_,ew aT (eY d rfl),trivial⟩)
  (fun s _=>⟨_,by simp only;unfold xm;exact eY (by rw [gY];omega) rfl,trivial⟩) (U ((1975:Int)+len_ eU8 c)) trivial
 exact ⟨r,aG e rfl⟩
theorem abf (s:b4)(v:lE s)(a0:∀(n:Nat) j,s.cj[n]? = some j→u9 j.pU=some true)(bc:∀(i k:Nat) x y,s.cj[i]? = some x→s.cj[k]? = some y→i≠k→(x.pU.toList == y.pU.toList)=false):o8 s=some true:=by
 obtain ⟨f1,f2,f3,f4⟩:=v
 have Mk:De s.cj (len_ dk s.cj) s.bz 0=some (.inl ()):=by
  unfold De
  rw [gY]
  obtain ⟨_,e,-⟩:=iN (f:=fun w:Int=>xj s.cj (s.cj.length:Nat) s.bz w) (fun (i:Nat) (_:Unit)=>(i:Int)) s.cj.length (fun _ _=>True) (fun _=>(Sum.inl ():Unit⊕Unit))
   (fun i ag _ _=>by
     refine ⟨(),?_,trivial⟩
     have aa:=List.getElem?_eq_getElem ag
     obtain ⟨hz,iL,mK,r7⟩:=f1 i _ aa
     have aE:Aa s.cj[i]=some true:=by
      unfold Aa
      have p : ∀n:Int,-50≤n→n≤50→x3 n=some true:=fun n o J=>by
       unfold x3
       exact ew o (by rw [decide_eq_true J])
      exact aG (a0 i _ aa) (fr rfl (aG (p _ hz iL) (fr rfl (aG (p _ mK r7) rfl))))
     have aY:zZ ⟨s.cj,s.bz⟩ s.cj[i].pU=some (i:Int):=by
      unfold zZ CV GG
      obtain ⟨r,e,rfl⟩:=sY (f:=fun w:Int=>zF s.cj s.cj[i].pU (s.cj.length:Nat) w) (fun (k:Nat) (_:Unit)=>(k:Int)) s.cj.length (fun k _=>k≤i) (fun r=>r=(Sum.inr (i:Int):Unit⊕Int))
       (fun k aY _ agV=>by
         have aP:=List.getElem?_eq_getElem aY
         unfold zF Dq
         by_cases c:k=i
         ·subst c
          exact .inr ⟨_,ew (by omega) (bP (by omega) (aG (gt rfl aP) (aG rfl (fr (by simp) rfl)))),rfl⟩
         ·exact .inl ⟨(),ew (by omega) (bP (by omega) (aG (gt rfl aP) (aG rfl (gS (bc k i _ _ aP aa c) (by rw [gu (by omega)]))))),by omega⟩)
       (fun _ h=>by omega) () (Nat.zero_le _)
      rw [gY]
      exact aG (x:=(i:Int)) (aG e rfl) rfl
     unfold xj
     exact ew (by omega) (bP (by omega) (aG (gt rfl aa) (aG aE (fr rfl (aG aY (gS (zo rfl) (by rw [gu (by omega)]))))))))
   (fun _ _=>by unfold xj;exact eY (by omega) rfl) () trivial
  exact e
 have qZ : ∀m∈s.bz,qf s.cj m=true:=fun m hm=>by
  obtain ⟨n,a0⟩:=List.getElem?_of_mem hm
  exact f2 n m a0
 have bi:zG s.bz s=some false:=by
  unfold zG CR GC
  rw [gY]
  obtain ⟨x,e,-⟩:=iN (f:=fun w:Int=>wO s.bz s.cj s.bz (s.bz.length:Nat) w) (fun (i:Nat) (_:Unit)=>(i:Int)) s.bz.length (fun _ _=>True) (fun _=>(Sum.inl ():Unit⊕Int))
   (fun i ag _ _=>by
     refine ⟨(),?_,trivial⟩
     have aa:=List.getElem?_eq_getElem ag
     have aW:=qZ s.bz[i] (List.getElem_mem ag)
     unfold wO Dj
     refine ew (by omega) (bP (by omega) (aG (gt rfl aa) (aG (x:=false) (aG (Xo _ _) (by simp [aW])) (gS rfl (by rw [gu (by omega)]))))))
   (fun _ _=>by unfold wO;exact eY (by omega) rfl) () trivial
  exact aG (x:=(-1:Int)) (aG e rfl) rfl
 unfold o8
 exact eY (by rw [gY];omega) (eY (by rw [gY];omega) (aG Mk (aG bi rfl)))
def p4:List ByteArray:=[⟨#[97]⟩,⟨#[98]⟩,⟨#[99]⟩,⟨#[100]⟩]
theorem YH {k:Nat}{x:ByteArray}(h:p4[k]? = some x):u9 x=some true:=by
 have key : ∀u:UInt8,97≤u.toNat→u.toNat≤122→u9 ⟨#[u]⟩=some true:=fun u o J=>by
  unfold u9 I9
  obtain ⟨_,e,-⟩:=iN (f:=fun w:Int=>xC ⟨#[u]⟩ (((⟨#[u]⟩:ByteArray).size:Nat):Int) w) (fun (i:Nat) (_:Unit)=>(i:Int)) 1 (fun _ _=>True) (fun _=>(Sum.inl ():Unit⊕Unit))
   (fun i ag _ _=>by
     obtain rfl:i=0:=by omega
     refine ⟨(),?_,trivial⟩
     unfold xC
     have b0:(((⟨#[u]⟩:ByteArray).size:Nat):Int)=1:=rfl
     rw [b0]
     refine ew (by omega) (bP (by omega) (aG (x:=true) ?_ (fr rfl rfl)))
     unfold DN
     have ei:((⟨#[u]⟩:ByteArray).data.toList.getD (((0:Nat):Int)).toNat 0)=u:=rfl
     rw [ei]
     exact ew (by omega) (by rw [decide_eq_true (by omega)]))
   (fun _ _=>by unfold xC;exact eY (by show ¬(1:Int)<1;omega) rfl) () trivial
  refine aG e ?_
  simp only
  have cM:((⟨#[u]⟩:ByteArray).toList == (⟨#[]⟩:ByteArray).toList)=false:=by
   simp [ByteArray.toList,ByteArray.toList.loop,ByteArray.size]
  rw [cM];rfl
 match k,h with
 | 0,h=>obtain rfl:=Option.some.inj h;exact key 97 (by decide) (by decide)
 | 1,h=>obtain rfl:=Option.some.inj h;exact key 98 (by decide) (by decide)
 | 2,h=>obtain rfl:=Option.some.inj h;exact key 99 (by decide) (by decide)
 | 3,h=>obtain rfl:=Option.some.inj h;exact key 100 (by decide) (by decide)
 | k+4,h=>simp [p4] at h
theorem abQ {i k:Nat}{x y:ByteArray}(h:p4[i]? = some x)(cA:p4[k]? = some y)(cM:i≠k):(x.toList == y.toList)=false:=by
 have ag:=gp h
 have aY:=gp cA
 have key : ∀i k:Fin 4,i≠k→((p4[i.1]!).toList == (p4[k.1]!).toList)=false:=by decide +kernel
 have aC:p4[i]! = x:=by simp [h]
 have aH:p4[k]! = y:=by simp [cA]
 have:=key ⟨i,by simpa [p4] using ag⟩ ⟨k,by simpa [p4] using aY⟩ (fun e=>cM (by simpa using congrArg Fin.val e))
 rw [aC,aH] at this
 exact this
structure lo (s:b4):Prop where
 v:lE s
 ok:o8 s=some true
 MT:3≤s.cj.length
 hd:2≤s.bz.length
 aeV:s.cj.map (·.pU)=p4.take s.cj.length
 uG : ∀j∈s.cj,-4≤j.lc∧j.lc≤8∧ -9≤j.ld∧j.ld≤3
theorem KN (s:b4)(aE:∀j∈s.cj,-4≤j.lc∧j.lc≤8∧ -9≤j.ld∧j.ld≤3)(hm:∀m∈s.bz,qf s.cj m=true)(bp:s.cj.length≤4)(bu:s.bz.length≤8)(a0:s.cj.map (·.pU)=p4.take s.cj.length)(MT:3≤s.cj.length)(hd:2≤s.bz.length):lo s:=by
 have v:lE s:=⟨fun n j h=>by have:=aE j (List.mem_of_getElem? h);omega,fun n m h=>hm m (List.mem_of_getElem? h),by omega,bu⟩
 have name : ∀(n:Nat) j,s.cj[n]? = some j→p4[n]? = some j.pU:=fun n j h=>by
  have aT:=gp h
  have e:(s.cj.map (·.pU))[n]? = some j.pU:=by rw [List.getElem?_map,h];rfl
  rw [a0,List.getElem?_take,if_pos aT] at e
  exact e
 exact ⟨v,abf s v (fun n j h=>YH (name n j h)) (fun i k x y aa aP cM=>abQ (name i x aa) (name k y aP) cM),MT,hd,a0,aE⟩
theorem abg (c:List Int)(aQ:c.length≤1048576)(i h:Int)(ag:0≤i): ∃gy fR fD cA,z5 c i h=some (gy,fR,fD,cA)∧lo ⟨gy,fR⟩∧0≤fD:=by
 unfold z5
 obtain ⟨hz,m5,o,aC,sx,rb⟩:=mw 3 (by omega) (by omega) c aQ i h ag
 obtain ⟨iL,mJ,J,aH,BU,qu⟩:=mw 3 (by omega) (by omega) c aQ m5 o rb
 obtain ⟨mK,CE,af,cd,aej,zi⟩:=mw 2 (by omega) (by omega) c aQ mJ J qu
 obtain ⟨r7,tC,aF,dh,aek,Mu⟩:=mw 3 (by omega) (by omega) c aQ CE af zi
 obtain ⟨r8,CF,aJ,eR,ael,Mv⟩:=mw 2 (by omega) (by omega) c aQ tC aF Mu
 obtain ⟨r9,MU,bp,fG,aem,Mw⟩:=mw 3 (by omega) (by omega) c aQ CF aJ Mv
 obtain ⟨uJ,MV,bJ,fC,Mx,My⟩:=Kv [1,2,3] (by simp) (by simp) c aQ MU bp Mw
 obtain ⟨MW,i8,bu,h6,aen,F1⟩:=mw 3 (by omega) (by omega) c aQ MV bJ My
 have iM:U ((-1:Int)-r7) = -1-r7:=c1 (by omega) (by omega)
 have mo:U ((3:Int)+r8)=3+r8:=c1 (by omega) (by omega)
 have rr:U ((-1:Int)-r9) = -1-r9:=c1 (by omega) (by omega)
 have aeo:1≤uJ∧uJ≤3:=by simp at Mx;omega
 obtain ⟨gy,lp⟩ : ∃gy:List bs,gy=([(⟨(⟨#[97]⟩:ByteArray),(-2),hz,true⟩:bs),(⟨(⟨#[98]⟩:ByteArray),6,iL,true⟩:bs),(⟨(⟨#[99]⟩:ByteArray),mK,-1-r7,false⟩:bs),(⟨(⟨#[100]⟩:ByteArray),3+r8,-1-r9,false⟩:bs)]:List bs):=⟨_,rfl⟩
 have g0:gy[0]? = some ⟨⟨#[97]⟩,-2,hz,true⟩:=by rw [lp];rfl
 have g1:gy[1]? = some ⟨⟨#[98]⟩,6,iL,true⟩:=by rw [lp];rfl
 have g2:gy[2]? = some ⟨⟨#[99]⟩,mK,-1-r7,false⟩:=by rw [lp];rfl
 have g3:gy[3]? = some ⟨⟨#[100]⟩,3+r8,-1-r9,false⟩:=by rw [lp];rfl
 have aT:gy.length=4:=by rw [lp];rfl
 have Gd : ∀a b k:Int,(a=0∨a=1∨a=2∨a=3)→(b=2∨b=3∨b=1)→(b=1→a=3)→(a=2→b=3)→(a=3→b=1)→1≤k→k≤3→qf gy ⟨a,b,k⟩=true:=fun a b k bH aW rX lT js agW SL=>by
  unfold qf
  simp only
  rw [aT,decide_eq_true (by omega),Bool.true_and]
  rcases bH with rfl|rfl|rfl|rfl
  ·rcases aW with rfl|rfl|rfl
   ·rw [show (0:Int).toNat=0 from rfl,show (2:Int).toNat=2 from rfl,g0,g2];simp;omega
   ·rw [show (0:Int).toNat=0 from rfl,show (3:Int).toNat=3 from rfl,g0,g3];simp;omega
   ·exact absurd (rX rfl) (by omega)
  ·rcases aW with rfl|rfl|rfl
   ·rw [show (1:Int).toNat=1 from rfl,show (2:Int).toNat=2 from rfl,g1,g2];simp;omega
   ·rw [show (1:Int).toNat=1 from rfl,show (3:Int).toNat=3 from rfl,g1,g3];simp;omega
   ·exact absurd (rX rfl) (by omega)
  ·obtain rfl:=lT rfl
   rw [show (2:Int).toNat=2 from rfl,show (3:Int).toNat=3 from rfl,g2,g3];simp;omega
  ·obtain rfl:=js rfl
   rw [show (3:Int).toNat=3 from rfl,show (1:Int).toNat=1 from rfl,g3,g1];simp;omega
 obtain ⟨⟨n,j,fR⟩,e,aa⟩:=kX (f:=fun w:Int×Int×Int×(List bF)=>xn c gy w.1 w.2.1 w.2.2.1 w.2.2.2) (fun w=>0≤w.1∧0≤w.2.1∧w.2.2.2.length+w.1.toNat≤8∧2≤w.2.2.2.length∧ ∀m∈w.2.2.2,qf gy m=true) (fun w=>w.1.toNat) (fun r=>0≤r.1∧r.2.2.length≤8∧2≤r.2.2.length∧ ∀m∈r.2.2,qf gy m=true)
  (fun w hw=>by
    obtain ⟨n,j,g,fR⟩:=w
    obtain ⟨ir,ja,bN,gH,gM⟩:=hw
    simp only at ir ja bN gH gM
    by_cases d:0<n
    ·obtain ⟨f8,fJ,pN,ho,aL,ae⟩:=mw 2 (by omega) (by omega) c aQ j g ja
     obtain ⟨fo,eo,uH,iq,bg,bq⟩:=mw 2 (by omega) (by omega) c aQ fJ pN ae
     obtain ⟨aM,mm,Gc,n6,b1,bl⟩:=mw 3 (by omega) (by omega) c aQ eo uH bq
     have v1:U ((2:Int)+fo)=2+fo:=c1 (by omega) (by omega)
     have v2:U ((1:Int)+aM)=1+aM:=c1 (by omega) (by omega)
     refine .inl ⟨(n-1,mm,Gc,fR++[⟨f8,2+fo,1+aM⟩]),?_,⟨by simp only;omega,bl,by simp only [List.length_append,List.length_singleton];omega,by simp only [List.length_append,List.length_singleton];omega,fun m hm=> ?_⟩,by simp only;omega⟩
     ·simp only
      unfold xn
      refine ew d (aG ho (aG iq (aG n6 ?_)))
      simp only
      rw [v1,v2,c1 (x:=n-1) (by omega) (by omega)]
      exact bP (by simp only [List.length_append,List.length_singleton];omega) rfl
     ·simp only [List.mem_append,List.mem_singleton] at hm
      rcases hm with hm|rfl
      ·exact gM m hm
      ·exact Gd _ _ _ (by omega) (by omega) (by omega) (by omega) (by omega) (by omega) (by omega)
    ·refine .inr ⟨(j,g,fR),by simp only;unfold xn;exact eY d rfl,ja,by simp only;omega,gH,gM⟩)
  (MW,i8,bu,[⟨0,2,1⟩,⟨2,3,uJ⟩,⟨3,1,1⟩]) ⟨aen.1,F1,by simp;omega,by simp,fun m hm=>by
    simp at hm
    rcases hm with rfl|rfl|rfl
    ·exact Gd _ _ _ (by omega) (by omega) (by omega) (by omega) (by omega) (by omega) (by omega)
    ·exact Gd _ _ _ (by omega) (by omega) (by omega) (by omega) (by omega) (by omega) (by omega)
    ·exact Gd _ _ _ (by omega) (by omega) (by omega) (by omega) (by omega) (by omega) (by omega)⟩
 obtain ⟨aL,bg,b1,cI⟩:=aa
 refine ⟨gy,fR,n,j,aG aC (aG aH (aG cd (aG dh (aG eR (aG fG (aG fC (aG h6 ?_))))))),KN _ (fun j aE=> ?_) cI (by simp only;omega) bg ?_ (by simp only;omega) b1,aL⟩
 ·simp only
  rw [iM,mo,rr,← lp]
  exact aG (x:=(n,j,fR)) e rfl
 ·rw [lp] at aE
  simp at aE
  rcases aE with rfl|rfl|rfl|rfl<;>simp<;>omega
 ·simp only
  rw [aT,lp];rfl
end Go.Proofs.YtojbgalflbgajabGreat
namespace Go.Proofs.YtojbgalflbgajabGreat
set_option linter.unusedVariables false
set_option linter.unusedSimpArgs false
open Go Go.VL
theorem aak (c:List Int)(aQ:c.length≤1048576)(i h:Int)(ag:0≤i): ∃gy fR fD cA,z2 c i h=some (gy,fR,fD,cA)∧lo ⟨gy,fR⟩∧0≤fD:=by
 unfold z2
 obtain ⟨hz,m5,o,aC,sx,rb⟩:=mw 4 (by omega) (by omega) c aQ i h ag
 obtain ⟨iL,mJ,J,aH,BU,qu⟩:=mw 3 (by omega) (by omega) c aQ m5 o rb
 obtain ⟨mK,CE,af,cd,aej,zi⟩:=mw 4 (by omega) (by omega) c aQ mJ J qu
 obtain ⟨r7,tC,aF,dh,aek,Mu⟩:=mw 3 (by omega) (by omega) c aQ CE af zi
 obtain ⟨r8,CF,aJ,eR,ael,Mv⟩:=mw 4 (by omega) (by omega) c aQ tC aF Mu
 obtain ⟨r9,MU,bp,fG,aem,Mw⟩:=mw 4 (by omega) (by omega) c aQ CF aJ Mv
 obtain ⟨uJ,MV,bJ,fC,Mx,My⟩:=Kv [1,1,1,3] (by simp) (by simp) c aQ MU bp Mw
 obtain ⟨MW,i8,bu,h6,F1⟩:=Ku 2 (by omega) (by omega) c aQ MV bJ My
 have iM:U ((-1:Int)-hz) = -1-hz:=c1 (by omega) (by omega)
 have mo:U ((3:Int)+mK)=3+mK:=c1 (by omega) (by omega)
 have rr:U (r8-(1:Int))=r8-1:=c1 (by omega) (by omega)
 have TB:U ((-1:Int)-r9) = -1-r9:=c1 (by omega) (by omega)
 have aeo:1≤uJ∧uJ≤3:=by simp at Mx;omega
 cases MW with
 | false =>
  obtain ⟨gy,lp⟩ : ∃gy:List bs,gy=([(⟨(⟨#[97]⟩:ByteArray),-1-hz,iL,true⟩:bs),(⟨(⟨#[98]⟩:ByteArray),3+mK,r7,true⟩:bs),(⟨(⟨#[99]⟩:ByteArray),r8-1,-1-r9,false⟩:bs)]:List bs):=⟨_,rfl⟩
  have g0:gy[0]? = some ⟨⟨#[97]⟩,-1-hz,iL,true⟩:=by rw [lp];rfl
  have g1:gy[1]? = some ⟨⟨#[98]⟩,3+mK,r7,true⟩:=by rw [lp];rfl
  have g2:gy[2]? = some ⟨⟨#[99]⟩,r8-1,-1-r9,false⟩:=by rw [lp];rfl
  have aT:gy.length=3:=by rw [lp];rfl
  refine ⟨gy,[⟨0,2,1⟩,⟨1,2,uJ⟩],i8,bu,aG aC (aG aH (aG cd (aG dh (aG eR (aG fG (aG fC (aG h6 (gS rfl ?_)))))))),KN _ (fun j aE=> ?_) (fun m hm=> ?_) (by simp only;omega) (by simp) ?_ (by simp only;omega) (by simp),F1⟩
  ·simp only
   rw [iM,mo,rr,TB,← lp]
  ·rw [lp] at aE
   simp at aE
   rcases aE with rfl|rfl|rfl<;>simp<;>omega
  ·simp at hm
   unfold qf
   rcases hm with rfl|rfl
   ·simp only
    rw [aT,decide_eq_true (by omega),Bool.true_and,show (0:Int).toNat=0 from rfl,show (2:Int).toNat=2 from rfl,g0,g2];simp;omega
   ·simp only
    rw [aT,decide_eq_true (by omega),Bool.true_and,show (1:Int).toNat=1 from rfl,show (2:Int).toNat=2 from rfl,g1,g2];simp;omega
  ·simp only
   rw [aT,lp];rfl
 | true =>
  obtain ⟨Ge,aeW,c9,aeX,agX,aep⟩:=mw 5 (by omega) (by omega) c aQ i8 bu F1
  obtain ⟨Mz,aeq,da,aer,acH,acI⟩:=Kv [1,2,3] (by simp) (by simp) c aQ aeW c9 aep
  have aeY:U (Ge-(1:Int))=Ge-1:=c1 (by omega) (by omega)
  have agd:1≤Mz∧Mz≤3:=by simp at acH;omega
  obtain ⟨gy,lp⟩ : ∃gy:List bs,gy=([(⟨(⟨#[97]⟩:ByteArray),-1-hz,iL,true⟩:bs),(⟨(⟨#[98]⟩:ByteArray),3+mK,r7,true⟩:bs),(⟨(⟨#[99]⟩:ByteArray),r8-1,-1-r9,false⟩:bs)]:List bs)++([(⟨(⟨#[100]⟩:ByteArray),Ge-1,(-7),true⟩:bs)]:List bs):=⟨_,rfl⟩
  have g0:gy[0]? = some ⟨⟨#[97]⟩,-1-hz,iL,true⟩:=by rw [lp];rfl
  have g1:gy[1]? = some ⟨⟨#[98]⟩,3+mK,r7,true⟩:=by rw [lp];rfl
  have g2:gy[2]? = some ⟨⟨#[99]⟩,r8-1,-1-r9,false⟩:=by rw [lp];rfl
  have g3:gy[3]? = some ⟨⟨#[100]⟩,Ge-1,-7,true⟩:=by rw [lp];rfl
  have aT:gy.length=4:=by rw [lp];rfl
  refine ⟨gy,([⟨0,2,1⟩,⟨1,2,uJ⟩]:List bF)++[⟨3,2,Mz⟩],aeq,da,aG aC (aG aH (aG cd (aG dh (aG eR (aG fG (aG fC (aG h6 (fr rfl (aG aeX ?_))))))))),KN _ (fun j aE=> ?_) (fun m hm=> ?_) (by simp only;omega) (by simp) ?_ (by simp only;omega) (by simp),acI⟩
  ·simp only
   rw [iM,mo,rr,TB,aeY,← lp]
   exact bP (by rw [aT];omega) (aG aer (bP (by simp) rfl))
  ·rw [lp] at aE
   simp at aE
   rcases aE with rfl|rfl|rfl|rfl<;>simp<;>omega
  ·simp at hm
   unfold qf
   rcases hm with rfl|rfl|rfl
   ·simp only
    rw [aT,decide_eq_true (by omega),Bool.true_and,show (0:Int).toNat=0 from rfl,show (2:Int).toNat=2 from rfl,g0,g2];simp;omega
   ·simp only
    rw [aT,decide_eq_true (by omega),Bool.true_and,show (1:Int).toNat=1 from rfl,show (2:Int).toNat=2 from rfl,g1,g2];simp;omega
   ·simp only
    rw [aT,decide_eq_true (by omega),Bool.true_and,show (3:Int).toNat=3 from rfl,show (2:Int).toNat=2 from rfl,g3,g2];simp;omega
  ·simp only
   rw [aT,lp];rfl
theorem aal (c:List Int)(aQ:c.length≤1048576)(i h:Int)(ag:0≤i): ∃gy fR fD cA,z3 c i h=some (gy,fR,fD,cA)∧lo ⟨gy,fR⟩∧0≤fD:=by
 obtain ⟨b,m5,o,aC,rb⟩:=Ku 3 (by omega) (by omega) c aQ i h ag
 unfold z3
 cases b with
 | true =>
  obtain ⟨gy,fR,mJ,J,e,d,qu⟩:=abg c aQ m5 o rb
  exact ⟨gy,fR,mJ,J,aG aC (fr rfl (aG e rfl)),d,qu⟩
 | false =>
  obtain ⟨gy,fR,mJ,J,e,d,qu⟩:=aak c aQ m5 o rb
  exact ⟨gy,fR,mJ,J,aG aC (gS rfl (aG e rfl)),d,qu⟩
def zx (s:b4)(l:List Int):Prop:=l.length=2*s.cj.length∧ ∀x∈l,-8≤x∧x≤4
theorem ZG (s:b4)(d:lo s)(c:List Int)(aQ:c.length≤1048576)(i h:Int)(ag:0≤i): ∃l fD cA,z4 s c i h=some (l,fD,cA)∧zx s l∧0≤fD:=by
 have bp:=d.v.2.2.1
 have af:=d.MT
 have CL:U ((2:Int)*(len_ dk s.cj))=((2*s.cj.length:Nat):Int):=by rw [gY,c1 (by omega) (by omega)];omega
 unfold z4
 rw [CL,Int.toNat_natCast]
 obtain ⟨⟨j,g,row⟩,e,aL,bg,b1⟩:=iN (f:=fun w:Int×Int×Int×(List Int)=>uO s.cj (s.cj.length:Nat) c w.1 w.2.1 w.2.2.1 w.2.2.2) (fun (k:Nat) (q:Int×Int×List Int)=>((k:Int),q.1,q.2.1,q.2.2)) s.cj.length (fun _ q=>0≤q.1∧q.2.2.length=2*s.cj.length∧ ∀x∈q.2.2,-8≤x∧x≤4) (fun q=>q)
  (fun k aY q bi=>by
    obtain ⟨j,g,row⟩:=q
    obtain ⟨ir,ja,bN⟩:=bi
    simp only at ir ja bN
    have aa:=List.getElem?_eq_getElem aY
    have mo:U ((2:Int)*((k:Nat):Int))=((2*k:Nat):Int):=by rw [c1 (by omega) (by omega)];omega
    by_cases f:s.cj[k].oN=true
    ·refine ⟨(j,g,row),?_,ir,ja,bN⟩
     simp only
     unfold uO
     exact ew (by omega) (bP (by omega) (aG (gt rfl aa) (fr f (by rw [gu (by omega)]))))
    ·obtain ⟨f8,fJ,pN,ho,ae,s1⟩:=mw 7 (by omega) (by omega) c aQ j g ir
     obtain ⟨fo,eo,uH,iq,bq,s2⟩:=mw 9 (by omega) (by omega) c aQ fJ pN s1
     have v1:U (f8-(3:Int))=f8-3:=c1 (by omega) (by omega)
     have v2:U (0-fo)=0-fo:=c1 (by omega) (by omega)
     refine ⟨(eo,uH,(row.set (2*k) (f8-3)).set (2*k+1) (0-fo)),?_,s2,by simp only [List.length_set];omega,fun x hm=> ?_⟩
     ·simp only
      unfold uO
      rw [mo,gu (n:=2*k) (by omega),Int.toNat_natCast,Int.toNat_natCast,Nat.zero_add,Nat.zero_add]
      refine ew (by omega) (bP (by omega) (aG (gt rfl aa) (gS (by simpa using f) (aG ho (bP (by omega) (bP (by omega) (aG iq (bP (by omega) (bP (by rw [List.length_set];omega) ?_)))))))))
      simp only
      rw [v1,v2,gu (by omega),Int.toNat_natCast]
     ·simp only at hm
      rcases List.mem_or_eq_of_mem_set hm with hm|rfl
      ·rcases List.mem_or_eq_of_mem_set hm with hm|rfl
       ·exact bN x hm
       ·omega
      ·omega)
  (fun q _=>by simp only;unfold uO;exact eY (by omega) rfl) (i,h,List.replicate (2*s.cj.length) 0) ⟨ag,by simp,fun x aa=>by
    simp only [List.mem_replicate] at aa;omega⟩
 simp only at aL bg b1
 obtain ⟨b,mJ,J,aH,qu⟩:=Ku 8 (by omega) (by omega) c aQ j g aL
 have fi:Dp s.cj (len_ dk s.cj) c 0 i h (List.replicate (2*s.cj.length) 0)=some (j,g,row):=by
  unfold Dp
  rw [gY]
  exact e
 cases b with
 | false=>exact ⟨row,mJ,J,bP (by omega) (aG fi (aG aH (gS rfl rfl))),⟨bg,b1⟩,qu⟩
 | true =>
  have wl:U (((row.length:Nat):Int)-(1:Int))=((row.length-1:Nat):Int):=by rw [c1 (by omega) (by omega)];omega
  refine ⟨row.set (row.length-1) 4,mJ,J,bP (by omega) (aG fi (aG aH (fr rfl ?_))),⟨by rw [List.length_set];exact bg,fun x hm=> ?_⟩,qu⟩
  ·simp only
   rw [wl,Int.toNat_natCast,Nat.zero_add]
   exact bP (by omega) (bP (by omega) rfl)
  ·rcases List.mem_or_eq_of_mem_set hm with hm|rfl
   ·exact b1 x hm
   ·omega
theorem Xr (c:List Int)(aQ:c.length≤1048576): ∃s l,DM c=some (s,l)∧lo s∧zx s l:=by
 obtain ⟨h0,e0⟩:=abe c aQ
 obtain ⟨gy,fR,m5,o,aC,d,rb⟩:=aal c aQ 0 h0 (by omega)
 obtain ⟨l,mJ,J,aH,mM,-⟩:=ZG ⟨gy,fR⟩ d c aQ m5 o rb
 exact ⟨⟨gy,fR⟩,l,aG e0 (aG (x:=(gy,fR,l,mJ,J)) (aG aC (aG aH rfl)) rfl),d,mM⟩
theorem Xs (s:b4)(v:lE s)(l:List Int)(aT:l.length=2*s.cj.length)(aW:∀x∈l,-100≤x∧x≤100): ∃r,xl s l=some r∧(r=true↔ng (2*eb s) (b9 s) (j3 s) (kG s l)):=by
 obtain ⟨q,aL,bg⟩:=Kd (A3 s v l aW)
 unfold xl
 rcases bg with ⟨b0,t,a2,g,ev,rfl,-⟩|⟨b0,rfl⟩
 ·exact ⟨true,aG (yk s v l aT aW) (aG aL rfl),by simp [b0]⟩
 ·exact ⟨false,aG (yk s v l aT aW) (aG aL rfl),by simp [b0]⟩
theorem Fa (s:b4)(d:lo s)(l:List Int)(aT:l.length=2*s.cj.length)(aW:∀x∈l,-100≤x∧x≤100):sR s l=some true∧tO s l=some true:=by
 have e:E6 s.cj.length l=true:=by
  unfold E6
  rw [decide_eq_true aT,Bool.true_and,List.all_eq_true]
  intro x aa
  unfold t8
  exact decide_eq_true (aW x aa)
 have f:=Xp s d.v.2.2.1 l (by rw [aT,PC];have:=d.v.2.2.1;omega)
 rw [e] at f
 exact ⟨f,aG d.ok (fr rfl (aG f rfl))⟩
theorem Si (s:b4)(d:lo s)(l:List Int)(aT:l.length=2*s.cj.length)(aW:∀x∈l,-100≤x∧x≤100): ∃r,DP s l=some r∧xl s l=some r∧(r=true↔ng (2*eb s) (b9 s) (j3 s) (kG s l)):=by
 obtain ⟨r,ae,bq⟩:=Xs s d.v l aT aW
 exact ⟨r,aG (Fa s d l aT aW).2 (fr rfl (aG ae rfl)),ae,bq⟩
theorem zx.c4 {s:b4}{l:List Int}(h:zx s l): ∀x∈l,-100≤x∧x≤100:=fun x aa=>by have:=h.2 x aa;omega
theorem QT {fR:List bF}{k:Nat}{x:bF}(aY:fR[k]? = some x)(o:x.gr=1): ∀ {n:Nat} {c:ez},n≤fR.length→c∈kS fR n→c.fj=(k:Int)→c.og=1
 | 0,c,_,h,_=>by simp [kS] at h
 | n+1,c,a0,h,e=>by
  rw [kS,List.mem_append] at h
  rcases h with h|h
  ·exact QT aY o (by omega) h e
  ·rw [List.getElem?_eq_getElem (by omega)] at h
   simp only [q3,List.mem_append] at h
   rcases h with h|h
   ·split at h
    ·simp at h
    ·simp at h;subst h;rfl
   ·split at h
    ·simp at h
    ·rename_i cM
     simp at h;subst h
     simp only at e
     have:n=k:=by omega
     subst this
     rw [List.getElem?_eq_getElem (by omega)] at aY
     exact absurd (by rw [Option.some.inj aY];exact o) cM
theorem aam (s:b4){k:Nat}{m:bF}(aY:s.bz[k]? = some m)(o:m.gr=1){c:Nat}(aQ:c<b9 s)(e:hs s c=k):mq s c=1:=by
 obtain ⟨aC,-,-⟩:=sq s aQ
 have:=QT aY o (Nat.le_refl _) (List.mem_of_getElem? (show (kS s.bz s.bz.length)[c]? = _ from aC)) (by simp only;rw [e])
 exact this
theorem aan (s:b4){k:Nat}{m:bF}(aY:s.bz[k]? = some m)(o:m.gr=1)(x:Nat→Rat):gT s x (b9 s) k=cb (b9 s) fun j=>if hs s j=k then x j else 0:=by
 unfold gT
 refine fK fun j aE=> ?_
 by_cases e:hs s j=k
 ·rw [if_pos e,if_pos e,aam s aY o aE e];grind
 ·rw [if_neg e,if_neg e]
theorem X1 (s:b4){k:Nat}{m:bF}(aY:s.bz[k]? = some m)(o:m.gr=1){x:Nat→Rat}(aa:∀j,j<b9 s→0≤x j):0≤gT s x (b9 s) k:=by
 rw [aan s aY o]
 refine ry fun j aE=> ?_
 by_cases e:hs s j=k
 ·rw [if_pos e];exact aa j aE
 ·rw [if_neg e];exact Rat.le_refl
theorem abR {x y:Rat}(aa:fS x)(aP:fS y)(h:fS (x*y)):tT (cT x) (cT y)=some (cT (x*y)):=aG (QN aa aP) (aG (yU h) rfl)
theorem Qd {n:Int}(h:om n):rv n=some (ie (n:Rat)):=aG (s5 h) (aG (vv (tX h)) rfl)
structure oo (K:Nat) (z:Nat→Rat) (w:Rat):Prop where
 pos:0<w
 nH:dv K w
 CM : ∀k,dv K (z k*w)
 aes:1000*K≤21*100*(ey*ey)
theorem oo.fit {K:Nat}{z:Nat→Rat}{w x:Rat}(h:oo K z w){a:Nat}(bH:a≤1000)(aa:dv (a*K) (x*w)):fS x:=by
 have aj:=h.pos
 have o:=h.aes
 have J:a*K≤1000*K:=Nat.mul_le_mul_right _ bH
 exact vF (K:=21*100*(ey*ey)) (h.nH.mono (by omega)) (aa.mono (by omega)) (by grind) (by grind) (tf (Nat.le_refl _))
theorem oo.rO {K:Nat}{z:Nat→Rat}{w:Rat}(h:oo K z w)(k:Nat):fS (z k):=h.fit (a:=1) (by omega) (by rw [Nat.one_mul];exact h.CM k)
theorem dv.int {z:Int}{K:Nat}(h:z.natAbs≤K):dv K (z:Rat):=⟨z,rfl,h⟩
theorem oo.acJ {K:Nat}{z:Nat→Rat}{w:Rat}(h:oo K z w)(k:Nat){e:Int}(he:-100≤e∧e≤100):fS (z k*(e:Rat)):=h.fit (a:=100) (by omega) (by
 have:z k*(e:Rat)*w=(e:Rat)*(z k*w):=by grind
 rw [this];exact (dv.int (by omega)).mul (h.CM k))
theorem oo.fits {K:Nat}{z:Nat→Rat}{w:Rat}(h:oo K z w){n:Nat}(a0:n≤8){e:Nat→Int}(he:∀k,-100≤e k∧e k≤100){f:Int}(ca:-100≤f∧f≤100):fS (cb n (fun k=>z k*(e k:Rat))+(f:Rat)):=h.fit (a:=n*100+100) (by omega) (by
 have aC:(cb n (fun k=>z k*(e k:Rat))+(f:Rat))*w=cb n (fun k=>(e k:Rat)*(z k*w))+(f:Rat)*w:=by
  rw [Rat.add_mul,← vd]
  congr 1
  exact fK fun k _=>by grind
 rw [aC,Nat.add_mul]
 refine dv.add ?_ ((dv.int (by omega)).mul h.nH)
 rw [Nat.mul_assoc]
 exact dv.sum fun k _=>(dv.int (by have:=he k;omega)).mul (h.CM k))
theorem aao (s:b4)(v:lE s){K:Nat}{z:Nat→Rat}{w:Rat}(h:oo K z w)(j:Nat):
 zR s (a4 s.bz.length fun k=>cT (z k)) (j:Int)=some (cT (cb s.bz.length fun k=>z k*(hE s (j:Int) 0 k:Rat)),cT (cb s.bz.length fun k=>z k*(hE s (j:Int) 1 k:Rat))):=by
 obtain ⟨-,v2,-,bu⟩:=id v
 have f0 : ∀n,n≤8→ ∀gm,fS (cb n fun k=>z k*(hE s (j:Int) gm k:Rat)):=fun n a0 gm=>by
  have:=h.fits a0 (fun k=>yL s v (j:Int) gm k) (f:=0) (by omega)
  rw [show ((0:Int):Rat)=0 from rfl,Rat.add_zero] at this
  exact this
 unfold zR
 refine aG (s5 (n:=0) (by rw [mv];omega)) (aG (x:=(cT (cb s.bz.length fun k=>z k*(hE s (j:Int) 0 k:Rat)),cT (cb s.bz.length fun k=>z k*(hE s (j:Int) 1 k:Rat)))) ?_ rfl)
 unfold HC
 rw [gY]
 obtain ⟨_,e,-⟩:=iN (f:=fun w:(Option bj)×(Option bj)×Int=>xb s.cj s.bz (a4 s.bz.length fun k=>cT (z k)) (j:Int) (s.bz.length:Nat) w.1 w.2.1 w.2.2)
  (fun (n:Nat) (_:Unit)=>(cT (cb n fun k=>z k*(hE s (j:Int) 0 k:Rat)),cT (cb n fun k=>z k*(hE s (j:Int) 1 k:Rat)),(n:Int))) s.bz.length (fun _ _=>True) (fun _=>(cT (cb s.bz.length fun k=>z k*(hE s (j:Int) 0 k:Rat)),cT (cb s.bz.length fun k=>z k*(hE s (j:Int) 1 k:Rat))))
  (fun n a0 _ _=>by
    refine ⟨(),?_,trivial⟩
    have aa:=List.getElem?_eq_getElem a0
    obtain ⟨bE,cX,pL⟩:=Kh s v n a0
    have y3 : ∀gm,hE s (j:Int) gm n=if (j:Int)=s.bz[n].f9 then (if gm=0 then (kY s n).1 else (kY s n).2) else if (j:Int)=s.bz[n].fX then -(if gm=0 then (kY s n).1 else (kY s n).2) else 0:=fun gm=>by unfold hE;rw [aa]
    have aha:=yL s v (j:Int) 0 n
    have hz:=yL s v (j:Int) 1 n
    have add : ∀(gm:Nat) (t:Int),t=hE s (j:Int) gm n→m7 t=some (cT (t:Rat))∧tT (cT (z n)) (cT (t:Rat))=some (cT (z n*(t:Rat)))∧m9 (cT (cb n fun k=>z k*(hE s (j:Int) gm k:Rat))) (cT (z n*(t:Rat)))=some (cT (cb (n+1) fun k=>z k*(hE s (j:Int) gm k:Rat))):=fun gm t cv=>by
     have aeZ : -100≤t∧t≤100:=by rw [cv];exact yL s v (j:Int) gm n
     have Sj:om t:=mv.2 (by omega)
     have TC:=h.acJ n aeZ
     refine ⟨s5 Sj,abR (h.rO n) (tX Sj) TC,?_⟩
     have kl:=f0 (n+1) (by omega) gm
     rw [cb,← cv] at kl ⊢
     exact Bj (f0 n (by omega) gm) TC kl
    have skip : ∀gm,hE s (j:Int) gm n=0→cb (n+1) (fun k=>z k*(hE s (j:Int) gm k:Rat))=cb n (fun k=>z k*(hE s (j:Int) gm k:Rat)):=fun gm h0=>by
     rw [cb,h0,show ((0:Int):Rat)=0 from rfl];grind
    simp only
    unfold xb
    rw [gu (by omega)]
    refine ew (by omega) (bP (by omega) (aG (gt rfl aa) (aG (show ru ⟨s.cj,s.bz⟩ (n:Int)=_ from bE) ?_)))
    by_cases a:(j:Int)=s.bz[n].f9
    ·obtain ⟨ho,iq,n6⟩:=add 0 (kY s n).1 (by rw [y3,if_pos a];rfl)
     obtain ⟨aL,bg,b1⟩:=add 1 (kY s n).2 (by rw [y3,if_pos a];rfl)
     exact fr (re a) (bP (by rw [c5];omega) (aG (x:=cT (z n)) (by rw [Int.toNat_natCast];exact gX a0) (aG ho (aG iq (aG n6 (aG aL (aG bg (aG b1 rfl))))))))
    ·refine gS (oz a) ?_
     by_cases b:(j:Int)=s.bz[n].fX
     ·obtain ⟨ho,iq,n6⟩:=add 0 (U (0-(kY s n).1)) (by rw [y3,if_neg a,if_pos b,c1 (by omega) (by omega)];simp)
      obtain ⟨aL,bg,b1⟩:=add 1 (U (0-(kY s n).2)) (by rw [y3,if_neg a,if_pos b,c1 (by omega) (by omega)];simp)
      exact fr (re b) (bP (by rw [c5];omega) (aG (x:=cT (z n)) (by rw [Int.toNat_natCast];exact gX a0) (aG ho (aG iq (aG n6 (aG aL (aG bg (aG b1 rfl))))))))
     ·refine gS (oz b) ?_
      rw [skip 0 (by rw [y3,if_neg a,if_neg b]),skip 1 (by rw [y3,if_neg a,if_neg b])])
  (fun _ _=>by simp only;unfold xb;exact eY (by omega) rfl) () trivial
 exact e
theorem Qe {n:Nat}(a0:n≤40){y:Nat→Rat}(aP:∀k,k<n→fS (y k)):ye (a4 n fun k=>ie (y k))=some (a4 n (fun k=>cT (y k)),true):=by
 have aT:len_ eE (a4 n fun k=>ie (y k))=((n:Nat):Int):=by rw [gY,c5]
 unfold ye
 rw [aT]
 refine bP (by omega) (aG (x:= .inl (a4 n fun k=>cT (y k))) ?_ rfl)
 unfold Jl
 obtain ⟨_,e,-⟩:=iN (f:=fun w:Int×(List (Option bj))=>xJ (a4 n fun k=>ie (y k)) ((n:Nat):Int) w.1 w.2) (fun (k:Nat) (_:Unit)=>((k:Int),a4 n fun j=>if j<k then cT (y j) else none)) n (fun _ _=>True) (fun _=>(.inl (a4 n fun k=>cT (y k)):(List (Option bj))⊕Unit))
  (fun k aY _ _=>by
    refine ⟨(),?_,trivial⟩
    unfold xJ
    simp only
    have aC:(a4 n fun j=>if j<k then cT (y j) else none).set (0+((k:Nat):Int).toNat) (cT (y k))=a4 n fun j=>if j<k+1 then cT (y j) else none:=by
     rw [Int.toNat_natCast,Nat.zero_add,kP]
     refine fy fun j _=> ?_
     by_cases bE:j=k
     ·subst bE;rw [if_pos rfl,if_pos (by omega)]
     ·rw [if_neg bE]
      by_cases cX:j<k
      ·rw [if_pos cX,if_pos (by omega)]
      ·rw [if_neg cX,if_neg (by omega)]
    refine ew (by omega) (bP (by rw [c5];omega) (aG (x:=ie (y k)) (by rw [Int.toNat_natCast];exact gX aY) (aG (EU (aP k aY)) (bP (by rw [c5];omega) (bP (by rw [c5,Int.toNat_natCast];omega) ?_)))))
    rw [aC,gu (by omega)]
    refine aG (x:=cT (y k)) (by rw [Int.toNat_natCast,Nat.zero_add,gX aY,if_pos (by omega)]) ?_
    rfl)
  (fun _ _=>by
    unfold xJ
    refine eY (by simp) ?_
    simp only
    congr 3
    exact fy fun j aE=>by rw [if_pos aE]) () trivial
 have e0:(a4 n fun j=>if j<0 then cT (y j) else none)=List.replicate (((n:Nat):Int).toNat) none:=by
  rw [Int.toNat_natCast,nM];exact fy fun j _=>by rw [if_neg (by omega)]
 rw [← e0];exact e
theorem Jw (s:b4)(ok:o8 s=some true)(bu:s.bz.length≤8){y:Nat→Rat}(aP:∀k,fS (y k)):uZ s (a4 s.bz.length fun k=>ie (y k))=some (a4 s.bz.length (fun k=>cT (y k)),true):=by
 unfold uZ
 exact gS (by rw [gY,gY,c5];exact zo rfl) (aG ok (fr rfl (aG (Qe (by omega) fun k _=>aP k) rfl)))
theorem KO (s:b4)(x:Nat→Rat)(i:Nat):cb (b9 s) (fun c=>(j3 s i c:Rat)*x c)=cb s.bz.length (fun k=>gT s x (b9 s) k*(i9 s i k:Rat)):=by
 have e : ∀k,gT s x (b9 s) k*(i9 s i k:Rat)=cb (b9 s) fun c=>if hs s c=k then (mq s c:Rat)*x c*(i9 s i k:Rat) else 0:=fun k=>by
  unfold gT
  rw [← vd]
  exact fK fun c _=>by split<;>grind
 rw [fK (n:=s.bz.length) fun k _=>e k,pQ]
 refine fK fun c aQ=> ?_
 obtain ⟨-,J,-⟩:=sq s aQ
 rw [kp J fun k _ cM=>if_neg (fun e=>cM e.symm),if_pos rfl]
 unfold j3
 rw [Rat.intCast_mul];grind
def wq (s:b4)(l:List Int)(z:Nat→Rat):Prop:= ∀i,i<2*eb s→cb s.bz.length (fun k=>z k*(i9 s i k:Rat))=(kG s l i:Rat)
theorem aap {s:b4}{l:List Int}{x:Nat→Rat}(h:o2 (2*eb s) (b9 s) (j3 s) (kG s l) x):wq s l (gT s x (b9 s)):=fun i ag=>by rw [← KO];exact h.2 i ag
theorem Xt (s:b4)(ok:o8 s=some true)(v:lE s){l:List Int}(aT:l.length=2*s.cj.length)(aW:∀x∈l,-100≤x∧x≤100)(CN:sR s l=some true){K:Nat}{z:Nat→Rat}{w:Rat}(h:oo K z w)(ch:wq s l z):
 z1 s l (a4 s.bz.length fun k=>ie (z k))=some true:=by
 obtain ⟨-,-,bp,bu⟩:=id v
 have sI:=uh s
 unfold z1
 refine aG (Jw s ok bu h.rO) (fr rfl (aG CN (fr rfl (aG (Jq s (by omega)) ?_))))
 rw [Ki,hk,c5]
 refine aG (x:= .inl ()) ?_ rfl
 unfold IC
 obtain ⟨_,e,-⟩:=iN (f:=fun w:Int=>xk l (a4 s.bz.length fun k=>cT (z k)) (a4 (eb s) fun q=>((ib s q:Nat):Int)) (eb s:Nat) s.cj s.bz w) (fun (n:Nat) (_:Unit)=>(n:Int)) (eb s) (fun _ _=>True) (fun _=>(.inl ():Unit⊕Unit))
  (fun n a0 _ _=>by
    refine ⟨(),?_,trivial⟩
    have ca:=A2 s a0
    have iM:U ((2:Int)*(ib s n:Int))=((2*ib s n:Nat):Int):=by rw [c1 (by omega) (by omega)];omega
    have mo:U (((2*ib s n:Nat):Int)+1)=((2*ib s n+1:Nat):Int):=gu (by omega)
    have zero : ∀(gm:Nat),gm<2→ ∃y,l[2*ib s n+gm]? = some y∧m7 y=some (cT (y:Rat))∧m9 (cT (cb s.bz.length fun k=>z k*(hE s (ib s n:Int) gm k:Rat))) (cT (y:Rat))=some (cT 0):=fun gm bH=>by
     have aP:=List.getElem?_eq_getElem (show 2*ib s n+gm<l.length by omega)
     have Tk:=aW _ (List.mem_of_getElem? aP)
     have i64:om l[2*ib s n+gm]:=mv.2 (by omega)
     refine ⟨_,aP,s5 i64,?_⟩
     have e0:cb s.bz.length (fun k=>z k*(hE s (ib s n:Int) gm k:Rat))+((l[2*ib s n+gm]:Int):Rat)=0:=by
      have:=ch (2*n+gm) (by omega)
      unfold i9 kG at this
      rw [show (2*n+gm) / 2=n by omega,show (2*n+gm) % 2=gm by omega,List.getD_eq_getElem?_getD,aP] at this
      rw [this]
      simp only [Option.getD_some]
      rw [Rat.intCast_neg];grind
     have f1:fS (cb s.bz.length fun k=>z k*(hE s (ib s n:Int) gm k:Rat)):=by
      have:=h.fits bu (fun k=>yL s v (ib s n:Int) gm k) (f:=0) (by omega)
      rw [show ((0:Int):Rat)=0 from rfl,Rat.add_zero] at this
      exact this
     rw [← e0]
     exact Bj f1 (tX i64) (by rw [e0];exact yr)
    obtain ⟨CH,ho,iq,n6⟩:=zero 0 (by omega)
    obtain ⟨fJ,aL,bg,b1⟩:=zero 1 (by omega)
    have mL:Ao (cT 0)=some true:=aG (EV 0) rfl
    unfold xk
    refine ew (by omega) (bP (by rw [c5];omega) (aG (gt rfl (gX a0)) (aG (aao s v h (ib s n)) ?_)))
    rw [iM,mo]
    refine bP (by omega) (aG (gt rfl ho) (aG iq (aG n6 (aG mL (fr rfl (bP (by omega) (aG (gt rfl aL) (aG bg (aG b1 (aG mL (fr rfl ?_)))))))))))
    rw [gu (by omega)])
  (fun _ _=>by unfold xk;exact eY (by omega) rfl) () trivial
 exact e
def wt (s:b4)(z:Nat→Rat):Prop:= ∀k m,s.bz[k]? = some m→(m.gr=1→0≤z k)∧(m.gr=2→z k≤0)
theorem abh {x:Rat}(h:0≤x): ¬ma (gl x).1<0:=by
 have:0≤(gl x).1:=Rat.num_nonneg.2 h
 unfold ma
 split<;>(try split)<;>omega
theorem abi {x:Rat}(h:x≤0): ¬0<ma (gl x).1:=by
 have o:0≤(-x).num:=Rat.num_nonneg.2 (by grind)
 have:(gl x).1≤0:=by show x.num≤0;rw [Rat.neg_num] at o;omega
 unfold ma
 split<;>(try split)<;>omega
theorem ZH (s:b4)(ok:o8 s=some true)(v:lE s){z:Nat→Rat}(ca:∀k,fS (z k))(ch:wt s z):z8 s (a4 s.bz.length fun k=>ie (z k))=some true:=by
 have bu:=v.2.2.2
 unfold z8
 refine aG (Jw s ok bu ca) (fr rfl (aG (x:= .inl ()) ?_ rfl))
 unfold IY
 rw [gY]
 obtain ⟨_,e,-⟩:=iN (f:=fun w:Int=>xo (a4 s.bz.length fun k=>cT (z k)) s.bz (s.bz.length:Nat) w) (fun (n:Nat) (_:Unit)=>(n:Int)) s.bz.length (fun _ _=>True) (fun _=>(.inl ():Unit⊕Unit))
  (fun n a0 _ _=>by
    refine ⟨(),?_,trivial⟩
    have aa:=List.getElem?_eq_getElem a0
    obtain ⟨g1,g2⟩:=ch n _ aa
    unfold xo
    rw [gu (by omega)]
    refine ew (by omega) (bP (by omega) (aG (gt rfl aa) (bP (by rw [c5];omega) (aG (x:=cT (z n)) (by rw [Int.toNat_natCast];exact gX a0) (aG (EV (z n)) ?_)))))
    by_cases a:s.bz[n].gr=1
    ·exact fr (re a) (eY (abh (g1 a)) (gS (oz (by omega)) rfl))
    ·refine gS (oz a) ?_
     by_cases b:s.bz[n].gr=2
     ·exact fr (re b) (eY (abi (g2 b)) rfl)
     ·exact gS (oz b) rfl)
  (fun _ _=>by unfold xo;exact eY (by omega) rfl) () trivial
 exact e
theorem Qf {fR:List bF}{k:Nat}{x:bF}(aY:fR[k]? = some x)(o:x.gr=2): ∀ {n:Nat} {c:ez},n≤fR.length→c∈kS fR n→c.fj=(k:Int)→c.og = -1
 | 0,c,_,h,_=>by simp [kS] at h
 | n+1,c,a0,h,e=>by
  rw [kS,List.mem_append] at h
  rcases h with h|h
  ·exact Qf aY o (by omega) h e
  ·rw [List.getElem?_eq_getElem (by omega)] at h
   simp only [q3,List.mem_append] at h
   rcases h with h|h
   ·split at h
    ·simp at h
    ·rename_i cM
     simp at h;subst h
     simp only at e
     have:n=k:=by omega
     subst this
     rw [List.getElem?_eq_getElem (by omega)] at aY
     exact absurd (by rw [Option.some.inj aY];exact o) cM
   ·split at h
    ·simp at h
    ·simp at h;subst h;rfl
theorem QU (s:b4){x:Nat→Rat}(aa:∀j,j<b9 s→0≤x j):wt s (gT s x (b9 s)):=fun k m hm=>by
 refine ⟨fun h=>X1 s hm h aa,fun h=> ?_⟩
 have:0≤ -gT s x (b9 s) k:=by
  unfold gT
  rw [show -cb (b9 s) (fun j=>if hs s j=k then (mq s j:Rat)*x j else 0)=cb (b9 s) (fun j=>(-1:Rat)*(if hs s j=k then (mq s j:Rat)*x j else 0)) by rw [iO];grind]
  refine ry fun j aE=> ?_
  have p:=aa j aE
  by_cases e:hs s j=k
  ·obtain ⟨aC,-,-⟩:=sq s aE
   have:=Qf hm h (Nat.le_refl _) (List.mem_of_getElem? (show (kS s.bz s.bz.length)[j]? = _ from aC)) (by simp only;rw [e])
   simp only at this
   rw [if_pos e,this,Rat.intCast_neg];grind
  ·rw [if_neg e];grind
 grind
theorem QV (s:b4)(ok:o8 s=some true)(v:lE s){l:List Int}(aT:l.length=2*s.cj.length)(aW:∀x∈l,-100≤x∧x≤100)(CN:sR s l=some true){K:Nat}{z:Nat→Rat}{w:Rat}(h:oo K z w)(ch:wq s l z)(b0:wt s z):
 zV s l (a4 s.bz.length fun k=>ie (z k))=some true:=aG (Xt s ok v aT aW CN h ch) (fr rfl (aG (ZH s ok v h.rO b0) rfl))
@[irreducible] def pO:Nat:=16*kf 100 8
theorem Fb:16*kf 100 8=pO:=by unfold pO;rfl
theorem abj:1000*pO≤21*100*(ey*ey):=by unfold pO;decide +kernel
theorem lo.zA {s:b4}(d:lo s):s.cj.length≤4:=by
 have:=congrArg List.length d.aeV
 rw [List.length_map,List.length_take] at this
 have e:p4.length=4:=rfl
 omega
theorem aaq {s:b4}(d:lo s){l:List Int}{c x:Nat→Rat}{w:Rat}(q:vM (2*eb s) (b9 s) (j3 s) (kG s l) c x w):oo pO (gT s x (b9 s)) w:=by
 have bu:=d.v.2.2.2
 have oa:=tg s
 have sI:=uh s
 have aF:=d.zA
 have hF:kf 100 (2*eb s)≤kf 100 8:=vm (by omega) (by omega)
 refine ⟨q.pos,q.nH.mono ?_,fun k=>(KY q.MS k (Nat.le_refl _)).mono ?_,abj⟩
 ·rw [← Fb];omega
 ·rw [← Fb];exact Nat.mul_le_mul (by omega) hF
theorem aar (s:b4){j:Nat}(h:b9 s≤j):mq s j=0:=by
 unfold mq
 rw [List.getD_eq_getElem?_getD,List.getElem?_eq_none h];rfl
theorem YI (s:b4)(k sign:Int){j:Nat}(h:b9 s≤j):k2 s k sign j=0:=by
 unfold k2
 rw [aar s h,Int.mul_zero,ite_self]
theorem aas (s:b4){n:Nat}(a0:b9 s≤n)(k:Nat)(sign:Int)(x:Nat→Rat):val n (lf n (k2 s (k:Int) sign)) x=(sign:Rat)*gT s x (b9 s) k:=by
 obtain ⟨d,rfl⟩ : ∃d,n=b9 s+d:=⟨n-b9 s,by omega⟩
 unfold val
 rw [Aj,nJ (n:=d) fun j aE=>by
  unfold lf ni
  simp only
  rw [YI s _ _ (by omega),ite_self]
  grind]
 unfold gT
 rw [← iO,Rat.add_zero]
 refine fK fun j aE=> ?_
 unfold lf ni
 simp only
 rw [if_pos (by omega)]
 unfold k2
 by_cases e:hs s j=k
 ·rw [if_pos (by omega),if_pos e,Rat.intCast_mul];grind
 ·rw [if_neg (by omega),if_neg e];grind
def tI (m:bF):Int:=if m.gr=1 then 1 else if m.gr=2 then -1 else 0
def sa (s:b4)(k:Nat):Int:=match s.bz[k]? with
 | some m=>tI m
 | none=>0
theorem OM (m:bF):xZ m.gr=some (tI m):=by
 unfold xZ tI
 by_cases a:m.gr=1
 ·rw [if_pos a];exact fr (re a) rfl
 ·rw [if_neg a]
  by_cases b:m.gr=2
  ·rw [if_pos b];exact gS (oz a) (fr (re b) rfl)
  ·rw [if_neg b];exact gS (oz a) (gS (oz b) rfl)
theorem Fc {s:b4}{k:Nat}{m:bF}(h:s.bz[k]? = some m):sa s k=tI m:=by unfold sa;rw [h]
theorem Fe (s:b4)(k:Nat): -1≤sa s k∧sa s k≤1:=by
 unfold sa tI
 split
 ·split
  ·omega
  ·split<;>omega
 ·omega
def lK (s:b4)(i:Nat):Nat→Int
 | 0=>0
 | n+1=>lK s i n-i9 s i n*sa s n
theorem lo.RV {s:b4}(d:lo s)(j:Int)(gm k:Nat): -12≤hE s j gm k∧hE s j gm k≤12:=by
 have v:=d.v
 cases hm:s.bz[k]? with
 | none=>unfold hE;rw [hm];simp
 | some m =>
  have aY:=gp hm
  have aW:=v.2.1 k m hm
  unfold qf at aW
  simp only [Bool.and_eq_true,decide_eq_true_eq] at aW
  obtain ⟨⟨g1,g2,g3,g4,-⟩,-⟩:=aW
  have bH:=List.getElem?_eq_getElem (show m.f9.toNat<s.cj.length by omega)
  have Tl:=List.getElem?_eq_getElem (show m.fX.toNat<s.cj.length by omega)
  have cn:=d.uG _ (List.mem_of_getElem? bH)
  have uG:=d.uG _ (List.mem_of_getElem? Tl)
  have e:ru s (k:Int)=some (s.cj[m.fX.toNat].lc-s.cj[m.f9.toNat].lc,s.cj[m.fX.toNat].ld-s.cj[m.f9.toNat].ld):=by
   unfold ru
   refine bP (by omega) (aG (gt rfl hm) (bP (by omega) (aG Tl (bP (by omega) (aG bH ?_)))))
   rw [c1 (by omega) (by omega),c1 (by omega) (by omega)]
  have hO:kY s k=(s.cj[m.fX.toNat].lc-s.cj[m.f9.toNat].lc,s.cj[m.fX.toNat].ld-s.cj[m.f9.toNat].ld):=by unfold kY;rw [e];rfl
  unfold hE
  rw [hm,hO]
  simp only
  split
  ·split<;>omega
  ·split
   ·split<;>omega
   ·omega
theorem Rw {x t:Int}(h:-1≤t∧t≤1)(aa:-12≤x∧x≤12): -12≤x*t∧x*t≤12:=by
 have:t = -1∨t=0∨t=1:=by omega
 rcases this with rfl|rfl|rfl<;>omega
theorem KZ {s:b4}(d:lo s)(i:Nat): ∀n:Nat,-(12*(n:Int))≤lK s i n∧lK s i n≤12*(n:Int)
 | 0=>by simp [lK]
 | n+1=>by
  have ih:=KZ d i n
  have m:=Rw (Fe s n) (d.RV (ib s (i / 2)) (i % 2) n)
  unfold lK
  unfold i9
  omega
theorem Rx (s:b4)(i:Nat): ∀n,(lK s i n:Rat) = - cb n fun k=>(sa s k:Rat)*(i9 s i k:Rat)
 | 0=>rfl
 | n+1=>by
  unfold lK
  rw [Rat.intCast_sub,Rat.intCast_mul,Rx s i n,cb];grind
def uK (s:b4):m8:=⟨((2*eb s:Nat):Int),(b9 s:Int),(kn s (a4 (2*s.cj.length) fun _=>0)).f9,a4 (2*eb s) fun r=>lK s r s.bz.length,a4 (b9 s) fun _=>0⟩
theorem vG (s:b4):(a4 (2*s.cj.length) fun _=>(0:Int)).length=2*s.cj.length∧ ∀x∈(a4 (2*s.cj.length) fun _=>(0:Int)),-100≤x∧x≤100:=⟨c5 ..,fun x aa=>by obtain ⟨i,-,rfl⟩:=QA.1 aa;omega⟩
theorem Ry {s:b4}(d:lo s):n2 (uK s) (2*eb s) (b9 s) (j3 s) (fun r=>lK s r s.bz.length):=by
 have h:=A3 s d.v _ (vG s).2
 have bu:=d.v.2.2.2
 exact ⟨rfl,rfl,h.n7,h.BH,c5 ..,fun i ag=>gX ag,h.hm,h.a0,h.wK,fun i _=>by have:=KZ d i s.bz.length;omega⟩
theorem Xu {s:b4}(d:lo s){i:Nat}(ag:i<2*eb s)(z:Int)(t18:List (List Int))(x0 f8:Int)(CH eo:List Int):
 CQ s.cj s.bz (i:Int) (a4 s.bz.length (i9 s i)) t18 z (s.bz.length:Nat) x0 f8 CH eo 0 (a4 (2*eb s) fun r=>if r<i then lK s r s.bz.length else 0)=some (a4 (2*eb s) fun r=>if r<i+1 then lK s r s.bz.length else 0):=by
 have bu:=d.v.2.2.2
 have bp:=d.v.2.2.1
 have sI:=uh s
 unfold CQ
 obtain ⟨_,e,-⟩:=iN (f:=fun w:Int×List Int=>wS s.cj s.bz (i:Int) (a4 s.bz.length (i9 s i)) t18 z (s.bz.length:Nat) x0 f8 CH eo w.1 w.2) (fun (n:Nat) (_:Unit)=>((n:Int),a4 (2*eb s) fun r=>if r<i then lK s r s.bz.length else if r=i then lK s r n else 0)) s.bz.length (fun _ _=>True) (fun _=>a4 (2*eb s) fun r=>if r<i+1 then lK s r s.bz.length else 0)
  (fun n a0 _ _=>by
    refine ⟨(),?_,trivial⟩
    have aa:=List.getElem?_eq_getElem a0
    have hz:=KZ d i n
    have iL:=d.RV (ib s (i / 2)) (i % 2) n
    have mK:=Rw (Fe s n) iL
    have ae0:tI s.bz[n]=sa s n:=(Fc aa).symm
    simp only
    unfold wS
    refine ew (by omega) (bP (by omega) (aG (gt rfl aa) (bP (by rw [c5];omega) (aG (x:=lK s i n) (by rw [Int.toNat_natCast,jU ag,if_neg (by omega),if_pos rfl]) (bP (by rw [c5];omega) (aG (gt rfl (gX a0)) (aG (OM _) (bP (by rw [c5,Int.toNat_natCast];omega) ?_))))))))
    rw [ae0,gu (by omega),c1 (x:=i9 s i n*sa s n) (by unfold i9;omega) (by unfold i9;omega),c1 (by unfold i9;omega) (by unfold i9;omega),Int.toNat_natCast,Nat.zero_add,kP]
    congr 3
    refine fy fun r _=> ?_
    by_cases c:r=i
    ·subst c;rw [if_pos rfl,if_neg (by omega),if_pos rfl];rfl
    ·rw [if_neg c,if_neg c,if_neg c])
  (fun _ _=>by
    simp only
    unfold wS
    refine eY (by omega) ?_
    congr 2
    refine fy fun r _=> ?_
    by_cases c:r<i
    ·rw [if_pos c,if_pos (by omega)]
    ·rw [if_neg c]
     by_cases g:r=i
     ·rw [if_pos g,if_pos (by omega)]
     ·rw [if_neg g,if_neg (by omega)]) () trivial
 have e0:(a4 (2*eb s) fun r=>if r<i then lK s r s.bz.length else if r=i then lK s r 0 else 0)=a4 (2*eb s) fun r=>if r<i then lK s r s.bz.length else 0:=fy fun r _=>by
  by_cases c:r<i
  ·rw [if_pos c,if_pos c]
  ·rw [if_neg c,if_neg c];split<;>rfl
 rw [e0] at e
 exact e
theorem Kj {s:b4}(d:lo s):w1 s=some ((uK s).jL,(uK s).i1,(uK s).f9,(uK s).fX,(uK s).jT):=by
 have v:=d.v
 have bp:=v.2.2.1
 have sI:=uh s
 have CL:U ((2:Int)*(len_ dk s.cj))=((2*s.cj.length:Nat):Int):=by rw [gY,c1 (by omega) (by omega)];omega
 have hlen:len_ (fi 1 I) (a4 (2*eb s) fun r=>a4 s.bz.length (i9 s r))=((2*eb s:Nat):Int):=by rw [gY,c5]
 have fX:(kn s (a4 (2*s.cj.length) fun _=>0)).fX=a4 (2*eb s) fun r=>if r<0 then lK s r s.bz.length else 0:=by
  show a4 (2*eb s) (kG s _)=_
  refine fy fun r ao=> ?_
  rw [if_neg (by omega)]
  unfold kG
  have:=A2 s (show r / 2<eb s by omega)
  rw [List.getD_eq_getElem?_getD,gX (by omega)];rfl
 unfold w1
 rw [CL,Int.toNat_natCast,nM]
 refine bP (by omega) (aG (yk s v _ (vG s).1 (vG s).2) (aG (Ob s v) ?_))
 simp only
 rw [hlen,fX]
 refine aG (x:=(uK s).fX) ?_ rfl
 unfold GK
 obtain ⟨_,e,-⟩:=iN (f:=fun w:Int×List Int=>wT s.cj s.bz (a4 (2*eb s) fun r=>a4 s.bz.length (i9 s r)) ((2*eb s:Nat):Int) (kn s (a4 (2*s.cj.length) fun _=>0)).jL (kn s (a4 (2*s.cj.length) fun _=>0)).i1 (kn s (a4 (2*s.cj.length) fun _=>0)).f9 (kn s (a4 (2*s.cj.length) fun _=>0)).jT w.1 w.2) (fun (i:Nat) (_:Unit)=>((i:Int),a4 (2*eb s) fun r=>if r<i then lK s r s.bz.length else 0)) (2*eb s) (fun _ _=>True) (fun _=>(uK s).fX)
  (fun i ag _ _=>by
    refine ⟨(),?_,trivial⟩
    simp only
    unfold wT
    refine ew (by omega) (bP (by rw [c5];omega) (aG (gt rfl (gX ag)) (aG (x:=a4 (2*eb s) fun r=>if r<i+1 then lK s r s.bz.length else 0) ?_ (by rw [gu (by omega)]))))
    rw [gY]
    exact Xu d ag _ _ _ _ _ _)
  (fun _ _=>by
    simp only
    unfold wT
    refine eY (by omega) ?_
    congr 2
    exact fy fun r ao=>by rw [if_pos ao]) () trivial
 exact e
theorem ZI (s:b4)(v:lE s){p:m8}{m n:Nat}{a:Nat→Nat→Int}{b:Nat→Int}(h:n2 p m n a b)(oa:p.jT=a4 n fun _=>0)(a0:b9 s≤n):
 (¬ng m n a b∧zJ s p.jL p.i1 p.f9 p.fX p.jT=some (.inl ()))∨ ∃x w r,vM m n a b (lf n fun _=>0) x w∧zJ s p.jL p.i1 p.f9 p.fX p.jT=some (.inr (r,a4 s.bz.length (fun k=>cT (gT s x (b9 s) k)))):=by
 have bu:=v.2.2.2
 have aei:=tg s
 have hZ:len_ et (hl s)=((b9 s:Nat):Int):=gY ..
 obtain ⟨r,e,ao⟩:=Et h oa (fun j _=>by omega)
 rcases ao with ⟨q,rfl⟩|⟨q,bg,rfl⟩|⟨x,w,q,⟨iM,mo,rr⟩,b1,cI,rfl⟩
 ·exact .inl ⟨q,aG e (fr rfl rfl)⟩
 ·exact (bg Ou).elim
 ·have ca:=QS s v b1 (fun c k aQ=>KM h.hm (by omega) iM mo rr k aQ)
  have aet:C7 s (a4 (b9 s) fun j=>cT (x j))=some (a4 s.bz.length fun k=>cT (gT s x (b9 s) k)):=ca
  refine .inr ⟨x,w,((a4 n fun j=>cT (x j)).drop (b9 s)).take (((a4 n fun j=>cT (x j)).map (bM 3 aS)).length-b9 s),⟨q,iM,mo,rr,b1⟩,aG e (gS rfl (aG (x:=hl s) (Aw s (by omega)) ?_))⟩
  rw [hZ]
  simp only [Int.toNat_natCast]
  refine bP (by omega) (bP (by simp only [c5];omega) (aG ?_ (bP (by simp only [c5];omega) rfl)))
  simp only [List.drop_zero,Nat.sub_zero]
  rw [Qc _ a0]
  exact aet
def mN (s:b4)(x:Nat→Rat)(k:Nat):Rat:=gT s x (b9 s) k+(sa s k:Rat)
theorem Sk:1000*(2*pO)≤21*100*(ey*ey):=by unfold pO;decide +kernel
theorem acK:kf 100 8≤pO:=by rw [← Fb];omega
theorem Qg {s:b4}(d:lo s){b:Nat→Int}{c x:Nat→Rat}{w:Rat}(q:vM (2*eb s) (b9 s) (j3 s) b c x w):0<w∧dv pO w∧ ∀k,dv pO (gT s x (b9 s) k*w):=by
 have bu:=d.v.2.2.2
 have oa:=tg s
 have sI:=uh s
 have aF:=d.zA
 have hF:kf 100 (2*eb s)≤kf 100 8:=vm (by omega) (by omega)
 refine ⟨q.pos,q.nH.mono (Nat.le_trans hF acK),fun k=>(KY q.MS k (Nat.le_refl _)).mono ?_⟩
 rw [← Fb];exact Nat.mul_le_mul (by omega) hF
theorem QW {s:b4}(d:lo s){b:Nat→Int}{c x:Nat→Rat}{w:Rat}(q:vM (2*eb s) (b9 s) (j3 s) b c x w):oo (2*pO) (mN s x) w:=by
 obtain ⟨o,J,af⟩:=Qg d q
 refine ⟨o,J.mono (by omega),fun k=> ?_,Sk⟩
 unfold mN
 rw [Rat.add_mul]
 have t:=Fe s k
 exact ((af k).add ((dv.int (K:=1) (by omega)).mul J)).mono (by omega)
theorem abk {s:b4}{l:List Int}{x:Nat→Rat}(h:o2 (2*eb s) (b9 s) (j3 s) (fun r=>lK s r s.bz.length) x):wq s (a4 (2*s.cj.length) fun _=>0) (mN s x):=fun i ag=>by
 have e:=h.2 i ag
 rw [KO,Rx] at e
 have aj:kG s (a4 (2*s.cj.length) fun _=>0) i=0:=by
  unfold kG
  have:=A2 s (show i / 2<eb s by omega)
  rw [List.getD_eq_getElem?_getD,gX (by omega)];rfl
 rw [aj]
 unfold mN
 rw [fK (g:=fun k=>gT s x (b9 s) k*(i9 s i k:Rat)+(sa s k:Rat)*(i9 s i k:Rat)) fun k _=>Rat.add_mul ..,sV,e]
 show _=(0:Rat)
 grind
theorem Qh {s:b4}{x:Nat→Rat}(aa:∀j,j<b9 s→0≤x j){k:Nat}{m:bF}(hm:s.bz[k]? = some m):(m.gr=1→1≤mN s x k)∧(m.gr=2→mN s x k≤ -1):=by
 obtain ⟨g1,g2⟩:=QU s aa k m hm
 unfold mN
 rw [Fc hm]
 unfold tI
 constructor
 ·intro h
  have:=g1 h
  rw [if_pos h,show ((1:Int):Rat)=1 from rfl];grind
 ·intro h
  have:=g2 h
  rw [if_neg (by omega),if_pos h,show ((-1:Int):Rat) = -1 from rfl];grind
theorem abl {s:b4}{x:Nat→Rat}(aa:∀j,j<b9 s→0≤x j):wt s (mN s x):=fun k m hm=>by
 obtain ⟨g1,g2⟩:=Qh aa hm
 exact ⟨fun h=>by have:=g1 h;grind,fun h=>by have:=g2 h;grind⟩
theorem YJ {s:b4}(d:lo s):
 (uX s=some ([],false)∧uT s=some false)∨ ∃x w,vM (2*eb s) (b9 s) (j3 s) (fun r=>lK s r s.bz.length) (lf (b9 s) fun _=>0) x w∧uX s=some (a4 s.bz.length (fun k=>ie (mN s x k)),true)∧uT s=some true:=by
 have v:=d.v
 have bu:=v.2.2.2
 obtain ⟨q,aL,bg⟩:=Kd (Ry d)
 have can : ∀r,(r=true↔ng (2*eb s) (b9 s) (j3 s) fun r=>lK s r s.bz.length)→uT s=some r:=fun r ao=>by
  unfold uT
  refine aG d.ok (fr rfl (aG (Kj d) (aG aL ?_)))
  rcases bg with ⟨b0,t,a2,g,ev,rfl,-⟩|⟨b0,rfl⟩
  ·rw [ao.2 b0]
  ·cases r with
   | false=>rfl
   | true=>exact (b0 (ao.1 rfl)).elim
 rcases ZI s v (Ry d) rfl (Nat.le_refl _) with ⟨no,e⟩|⟨x,w,r,q,e⟩
 ·refine .inl ⟨?_,can false (by simp [no])⟩
  unfold uX
  exact aG d.ok (fr rfl (aG (Kj d) (aG e rfl)))
 ·refine .inr ⟨x,w,q,?_,can true (by simp only [true_iff];exact ⟨x,q.k5.1⟩)⟩
  have D:=QW d q
  obtain ⟨o,J,af⟩:=Qg d q
  have ae1:oo (2*pO) (gT s x (b9 s)) w:=⟨o,J.mono (by omega),fun k=>(af k).mono (by omega),Sk⟩
  unfold uX
  refine aG d.ok (fr rfl (aG (Kj d) (aG e ?_)))
  simp only
  refine aG (x:=a4 s.bz.length fun k=>cT (mN s x k)) ?_ (aG (JX (by omega) fun k _=>D.rO k) rfl)
  rw [gY]
  unfold H5
  obtain ⟨_,e,-⟩:=iN (f:=fun u:Int×(List (Option bj))=>xh s.bz (s.bz.length:Nat) u.1 u.2) (fun (n:Nat) (_:Unit)=>((n:Int),a4 s.bz.length fun k=>if k<n then cT (mN s x k) else cT (gT s x (b9 s) k))) s.bz.length (fun _ _=>True) (fun _=>a4 s.bz.length fun k=>cT (mN s x k))
   (fun n a0 _ _=>by
     refine ⟨(),?_,trivial⟩
     have aa:=List.getElem?_eq_getElem a0
     have bb:=Fe s n
     have i64:om (tI s.bz[n]):=mv.2 (by rw [← Fc aa];omega)
     have qD:gT s x (b9 s) n+(tI s.bz[n]:Rat)=mN s x n:=by unfold mN;rw [Fc aa]
     simp only
     unfold xh
     refine ew (by omega) (bP (by omega) (aG (gt rfl aa) (bP (by rw [c5];omega) (aG (x:=cT (gT s x (b9 s) n)) (by rw [Int.toNat_natCast,jU a0,if_neg (by omega)]) (aG (OM _) (aG (s5 i64) (aG (Bj (ae1.rO n) (tX i64) (by rw [qD];exact D.rO n)) (bP (by rw [c5,Int.toNat_natCast];omega) ?_))))))))
     rw [qD,gu (by omega),Int.toNat_natCast,Nat.zero_add,kP]
     congr 3
     refine fy fun k _=> ?_
     by_cases c:k=n
     ·subst c;rw [if_pos rfl,if_pos (by omega)]
     ·rw [if_neg c]
      by_cases g:k<n
      ·rw [if_pos g,if_pos (by omega)]
      ·rw [if_neg g,if_neg (by omega)])
   (fun _ _=>by
     simp only
     unfold xh
     refine eY (by omega) ?_
     congr 2
     exact fy fun k aY=>by rw [if_pos aY]) () trivial
  have e0:(a4 s.bz.length fun k=>if k<0 then cT (mN s x k) else cT (gT s x (b9 s) k))=a4 s.bz.length fun k=>cT (gT s x (b9 s) k):=fy fun k _=>by rw [if_neg (by omega)]
  rw [e0] at e
  exact e
theorem PG {α:Type}(f:α→Rat)(d:α)(a b:List α):cb (a++b).length (fun c=>f ((a++b).getD c d))=cb a.length (fun c=>f (a.getD c d))+cb b.length (fun c=>f (b.getD c d)):=by
 rw [List.length_append,Aj]
 congr 1
 ·exact fK fun i ag=>by rw [List.getD_eq_getElem?_getD,List.getD_eq_getElem?_getD,List.getElem?_append_left ag]
 ·exact fK fun i ag=>by rw [List.getD_eq_getElem?_getD,List.getD_eq_getElem?_getD,List.getElem?_append_right (by omega),Nat.add_sub_cancel_left]
def BJ (g:Int→Int→Rat)(fR:List bF)(j:Nat):Rat:=match fR[j]? with
 | some x=>(if x.gr=2 then 0 else g (j:Int) 1)+(if x.gr=1 then 0 else g (j:Int) (-1))
 | none=>0
theorem ZJ (g:Int→Int→Rat)(k:Nat)(x:bF):cb (q3 k x).length (fun c=>(fun q:ez=>g q.fj q.og) ((q3 k x).getD c ⟨0,0⟩))=(if x.gr=2 then 0 else g (k:Int) 1)+(if x.gr=1 then 0 else g (k:Int) (-1)):=by
 unfold q3
 rw [PG (fun q:ez=>g q.fj q.og)]
 congr 1
 ·split
  ·rfl
  ·show (0:Rat)+_=_;grind
 ·split
  ·rfl
  ·show (0:Rat)+_=_;grind
theorem QX (g:Int→Int→Rat)(fR:List bF): ∀n,cb (kS fR n).length (fun c=>(fun q:ez=>g q.fj q.og) ((kS fR n).getD c ⟨0,0⟩))=cb n (BJ g fR)
 | 0=>rfl
 | n+1=>by
  rw [kS,PG (fun q:ez=>g q.fj q.og),QX g fR n,cb]
  congr 1
  unfold BJ
  cases fR[n]? with
  | none=>rfl
  | some x=>exact ZJ g n x
def Cs (s:b4)(z:Nat→Rat)(c:Nat):Rat:=if 0<(mq s c:Rat)*z (hs s c) then (mq s c:Rat)*z (hs s c) else 0
theorem abm (s:b4)(z:Nat→Rat)(c:Nat):0≤Cs s z c:=by unfold Cs;split<;>grind
theorem Rz {s:b4}{z:Nat→Rat}(h:wt s z){k:Nat}(aY:k<s.bz.length):gT s (Cs s z) (b9 s) k=z k:=by
 have e:=QX (fun a b=>if a.toNat=k then (b:Rat)*(if 0<(b:Rat)*z a.toNat then (b:Rat)*z a.toNat else 0) else 0) s.bz s.bz.length
 have aH:gT s (Cs s z) (b9 s) k=cb s.bz.length (BJ (fun a b=>if a.toNat=k then (b:Rat)*(if 0<(b:Rat)*z a.toNat then (b:Rat)*z a.toNat else 0) else 0) s.bz):=by rw [← e];rfl
 rw [aH,kp aY fun i _ cM=>by
  unfold BJ
  split
  ·simp only [Int.toNat_natCast,if_neg cM,ite_self];grind
  ·rfl]
 have hm:=List.getElem?_eq_getElem aY
 obtain ⟨g1,g2⟩:=h k _ hm
 unfold BJ
 rw [hm]
 simp only [Int.toNat_natCast,if_true,show ((1:Int):Rat)=1 from rfl,show ((-1:Int):Rat) = -1 from rfl]
 by_cases a:s.bz[k].gr=1
 ·have:=g1 a
  rw [if_neg (by omega),if_pos a]
  split<;>grind
 ·by_cases b:s.bz[k].gr=2
  ·have:=g2 b
   rw [if_pos b,if_neg a]
   split<;>grind
  ·rw [if_neg b,if_neg a]
   split<;>split<;>grind
theorem aat {s:b4}{l:List Int}{z:Nat→Rat}(h:wt s z)(ch:wq s l z):o2 (2*eb s) (b9 s) (j3 s) (kG s l) (Cs s z) :=
 ⟨fun j _=>abm s z j,fun i ag=>by rw [KO,← ch i ag];exact fK fun k aY=>by rw [Rz h aY]⟩
theorem ZK {K L:Nat}{x y:Nat→Rat}{w u:Rat}(h:oo K x w)(g:oo L y u)(aW:1000*(2*(K*L))≤21*100*(ey*ey)):oo (2*(K*L)) (fun k=>x k+y k) (w*u) :=
 ⟨Rat.mul_pos h.pos g.pos,(h.nH.mul g.nH).mono (by omega),fun k=>by
  have e:(x k+y k)*(w*u)=x k*w*u+w*(y k*u):=by grind
  rw [e]
  exact (((h.CM k).mul g.nH).add (h.nH.mul (g.CM k))).mono (by omega),aW⟩
theorem abn {n:Nat}(a0:n≤24){x y:Nat→Rat}(aa:∀k,fS (x k))(aP:∀k,fS (y k))(ch:∀k,fS (x k+y k)):zY (a4 n fun k=>ie (x k)) (a4 n fun k=>ie (y k))=some (a4 n (fun k=>ie (x k+y k)),true):=by
 have aT : ∀f:Nat→Rat,len_ (bM 3 aS) (a4 n fun k=>cT (f k))=((n:Nat):Int):=fun f=>by rw [gY,c5]
 have bi : ∀f:Nat→Rat,len_ eE (a4 n fun k=>ie (f k))=((n:Nat):Int):=fun f=>by rw [gY,c5]
 have TD : ∀f:Nat→Rat,(∀k,fS (f k))→xU (a4 n fun k=>ie (f k))=some (a4 n (fun k=>cT (f k)),true):=fun f ca=>by
  unfold xU
  rw [bi]
  exact eY (by omega) (aG (Qe (by omega) fun k _=>ca k) rfl)
 have L:C6 (a4 n fun k=>cT (x k)) (a4 n fun k=>cT (y k)) ((n:Nat):Int) 0 (List.replicate ((n:Nat):Int).toNat none)=some (a4 n fun k=>cT (x k+y k)):=by
  unfold C6
  obtain ⟨_,e,-⟩:=iN (f:=fun u:Int×(List (Option bj))=>w8 (a4 n fun k=>cT (x k)) (a4 n fun k=>cT (y k)) ((n:Nat):Int) u.1 u.2) (fun (k:Nat) (_:Unit)=>((k:Int),a4 n fun j=>if j<k then cT (x j+y j) else none)) n (fun _ _=>True) (fun _=>a4 n fun k=>cT (x k+y k))
   (fun k aY _ _=>by
     refine ⟨(),?_,trivial⟩
     unfold w8
     simp only
     have aC:(a4 n fun j=>if j<k then cT (x j+y j) else none).set (0+((k:Nat):Int).toNat) (cT (x k+y k))=a4 n fun j=>if j<k+1 then cT (x j+y j) else none:=by
      rw [Int.toNat_natCast,Nat.zero_add,kP]
      refine fy fun j _=> ?_
      by_cases bE:j=k
      ·subst bE;rw [if_pos rfl,if_pos (by omega)]
      ·rw [if_neg bE]
       by_cases cX:j<k
       ·rw [if_pos cX,if_pos (by omega)]
       ·rw [if_neg cX,if_neg (by omega)]
     refine ew (by omega) (bP (by rw [c5];omega) (aG (x:=cT (x k)) (by rw [Int.toNat_natCast];exact gX aY) (bP (by rw [c5];omega) (aG (x:=cT (y k)) (by rw [Int.toNat_natCast];exact gX aY) (aG (Bj (aa k) (aP k) (ch k)) (bP (by rw [c5];omega) (bP (by rw [c5,Int.toNat_natCast];omega) ?_)))))))
     rw [aC,gu (by omega)])
   (fun _ _=>by
     unfold w8
     refine eY (by simp) ?_
     simp only
     congr 2
     exact fy fun j aE=>by rw [if_pos aE]) () trivial
  have e0:(a4 n fun j=>if j<0 then cT (x j+y j) else none)=List.replicate (((n:Nat):Int).toNat) none:=by
   rw [Int.toNat_natCast,nM];exact fy fun j _=>by rw [if_neg (by omega)]
  rw [← e0];exact e
 unfold zY DG
 refine aG (x:=(a4 n (fun k=>ie (x k+y k)),true)) (aG (x:=(a4 n (fun k=>cT (x k+y k)),true)) ?_ (fr rfl (aG (JX (by omega) fun k _=>ch k) rfl))) rfl
 unfold Dc
 refine aG (TD x aa) (aG (TD y aP) (fr rfl (fr rfl (gS (by simp only [aT];exact zo rfl) ?_))))
 simp only [aT]
 exact bP (by omega) (aG L rfl)
theorem RW {x:Rat}(h:0<x):0<ma (gl x).1:=by
 have:0<(gl x).1:=by
  have:=(Rat.lt_iff _ _).1 h
  simp at this
  show 0<x.num
  omega
 unfold ma
 split<;>(try split)<;>omega
theorem aau {s:b4}(d:lo s){z:Nat→Rat}(ca:∀k,fS (z k))(ch:∀k m,s.bz[k]? = some m→m.gr=1→0<z k):Af s (a4 s.bz.length fun k=>ie (z k))=some []:=by
 have bu:=d.v.2.2.2
 unfold Af
 refine aG (Jw s d.ok bu ca) (fr rfl (aG (x:=[]) ?_ rfl))
 refine aG (x:=[]) ?_ rfl
 unfold Gk
 rw [gY]
 obtain ⟨_,e,-⟩:=iN (f:=fun w:Int×List Int=>wN s.cj s.bz (a4 s.bz.length fun k=>cT (z k)) (s.bz.length:Nat) w.1 w.2) (fun (n:Nat) (_:Unit)=>((n:Int),([]:List Int))) s.bz.length (fun _ _=>True) (fun _=>([]:List Int))
  (fun n a0 _ _=>by
    refine ⟨(),?_,trivial⟩
    have aa:=List.getElem?_eq_getElem a0
    have ao:tJ ⟨s.cj,s.bz⟩ (n:Int)=some (s.bz[n].gr == 1):=by
     unfold tJ
     exact ew (by omega) (ew (by simp only;rw [gY];omega) (bP (by simp only;omega) (aG (gt rfl aa) rfl)))
    simp only
    unfold wN
    rw [gu (by omega)]
    refine ew (by omega) (aG ao ?_)
    by_cases a:s.bz[n].gr=1
    ·have p:=RW (ch n _ aa a)
     refine fr (re a) (aG (x:=false) ?_ (gS rfl rfl))
     unfold DI
     refine bP (by rw [c5];omega) (aG (x:=cT (z n)) (by rw [Int.toNat_natCast];exact gX a0) (aG (EV (z n)) ?_))
     rw [oz (by omega)]
    ·exact gS (oz a) rfl)
  (fun _ _=>by simp only;unfold wN;exact eY (by omega) rfl) () trivial
 exact e
theorem aav (s:b4)(v:lE s)(l:List Int)(aW:∀x∈l,-100≤x∧x≤100)(n9:ng (2*eb s) (b9 s) (j3 s) (kG s l))(k:Nat):
 ∃bU ag hh CO C,fS bU∧fS ag∧C.length=b9 s∧(CO=false→ ∀y,o2 (2*eb s) (b9 s) (j3 s) (kG s l) y→gT s y (b9 s) k≤ag)∧zM s (k:Int) (kn s l).jL (kn s l).i1 (kn s l).f9 (kn s l).fX (kn s l).jT=some ((ie bU).ik.db,(ie bU).ik.cN,(ie bU).iy,(ie ag).ik.db,(ie ag).ik.cN,(ie ag).iy,hh,CO,true,C):=by
 obtain ⟨ae,aC,g1⟩:=Et (RU (A3 s v l aW) (a4 (b9 s) (k2 s (k:Int) 1))) (c:=k2 s (k:Int) 1) rfl (fun j aE=>by have:=QR s (k:Int) (sign:=1) (.inl rfl) aE;omega)
 obtain ⟨bq,aH,J⟩:=YG s v l aW n9 (k:Int) (sign:= -1) (.inr rfl)
 have ir:=Ru s v (k:Int) 1 (.inl rfl) (kn s l).jL (kn s l).i1 (kn s l).f9 (kn s l).fX (fun _=>0)
 have ja:=Ru s v (k:Int) (-1) (.inr rfl) (kn s l).jL (kn s l).i1 (kn s l).f9 (kn s l).fX (k2 s (k:Int) 1)
 have aQ:(a4 (b9 s) (k2 s (k:Int) (-1))).length=b9 s:=c5 ..
 unfold zM
 rcases g1 with ⟨q,-⟩|⟨-,-,rfl⟩|⟨x,w,op,-,-,aP,rfl⟩
 ·exact (q n9).elim
 ·rcases J with rfl|⟨Z,z,ch,rfl⟩
  ·exact ⟨0,0,true,true,_,yr,yr,aQ,fun h=>(nomatch h),aG ir (aG aC (gS rfl (fr rfl (aG Lq (aG ja (aG aH (fr rfl rfl)))))))⟩
  ·exact ⟨-z,0,false,true,_,ch.neg,yr,aQ,fun h=>(nomatch h),aG ir (aG aC (gS rfl (fr rfl (aG Lq (aG ja (aG aH (gS rfl (aG (KX z) (aG (yU ch.neg) (aG (vv ch.neg) rfl))))))))))⟩
 ·have Fo : ∀y,o2 (2*eb s) (b9 s) (j3 s) (kG s l) y→gT s y (b9 s) k≤val (b9 s) (lf (b9 s) (k2 s (k:Int) 1)) x:=fun y aP=>by
   have b:=op.Fo aP
   rw [aas s (Nat.le_refl _) k 1 y,show ((1:Int):Rat)=1 from rfl,Rat.one_mul] at b
   exact b
  rcases J with rfl|⟨Z,z,ch,rfl⟩
  ·exact ⟨0,_,true,false,_,yr,aP,aQ,fun _=>Fo,aG ir (aG aC (gS rfl (gS rfl (aG (yU aP) (aG (vv aP) (aG ja (aG aH (fr rfl (aG Lq rfl)))))))))⟩
  ·exact ⟨-z,_,false,false,_,ch.neg,aP,aQ,fun _=>Fo,aG ir (aG aC (gS rfl (gS rfl (aG (yU aP) (aG (vv aP) (aG ja (aG aH (gS rfl (aG (KX z) (aG (yU ch.neg) (aG (vv ch.neg) rfl)))))))))))⟩
theorem X2 {s:b4}(d:lo s){l:List Int}(mM:zx s l)(n9:ng (2*eb s) (b9 s) (j3 s) (kG s l))(pos:∀k m,s.bz[k]? = some m→m.gr=1→ ∃y,o2 (2*eb s) (b9 s) (j3 s) (kG s l) y∧0<gT s y (b9 s) k):tM s l=some true:=by
 have v:=d.v
 have bu:=v.2.2.2
 have bU:=(Fa s d l mM.1 mM.c4).2
 obtain ⟨r,bE,-,cX⟩:=Si s d l mM.1 mM.c4
 unfold tM
 refine aG bE (fr (cX.2 n9) (aG (x:=[]) ?_ rfl))
 refine aG (x:=[]) ?_ rfl
 unfold Gi
 rw [gY]
 obtain ⟨_,e,-⟩:=iN (f:=fun w:Int×List Int=>wM s.cj s.bz s.cj s.bz l (s.bz.length:Nat) w.1 w.2) (fun (n:Nat) (_:Unit)=>((n:Int),([]:List Int))) s.bz.length (fun _ _=>True) (fun _=>([]:List Int))
  (fun n a0 _ _=>by
    refine ⟨(),?_,trivial⟩
    have aa:=List.getElem?_eq_getElem a0
    have ao:tJ ⟨s.cj,s.bz⟩ (n:Int)=some (s.bz[n].gr == 1):=by
     unfold tJ
     exact ew (by omega) (ew (by simp only;rw [gY];omega) (bP (by simp only;omega) (aG (gt rfl aa) rfl)))
    simp only
    unfold wM
    rw [gu (by omega)]
    refine ew (by omega) (aG ao ?_)
    by_cases a:s.bz[n].gr=1
    ·refine fr (re a) (aG (x:=false) ?_ (gS rfl rfl))
     obtain ⟨y,aP,ahb⟩:=pos n _ aa a
     obtain ⟨f8,fo,hh,CO,C,f1,f2,oa,gd,e⟩:=aav s v l mM.c4 n9 n
     have aeu:Ag ⟨s.cj,s.bz⟩ l (n:Int)=some (⟨ie f8,ie fo,hh,CO⟩,true):=by
      unfold Ag
      exact aG bU (fr rfl (eY (by omega) (eY (by simp only;rw [gY];omega) (aG (yk s v l mM.1 mM.c4) (aG e (bP (by simp only;rw [oa];exact c5 ..) rfl))))))
     unfold Ds
     refine aG aeu ?_
     cases CO with
     | true=>exact fr rfl rfl
     | false =>
      have:=gd rfl y aP
      have p:=RW (show 0<fo by grind)
      refine gS (by simp) (aG (YF f2) ?_)
      rw [decide_eq_false (by omega)]
    ·exact gS (oz a) rfl)
  (fun _ _=>by simp only;unfold wM;exact eY (by omega) rfl) () trivial
 exact e
theorem YK {s:b4}(d:lo s){l:List Int}(mM:zx s l)(n9:¬ng (2*eb s) (b9 s) (j3 s) (kG s l)):tM s l=some false:=by
 obtain ⟨r,bE,-,cX⟩:=Si s d l mM.1 mM.c4
 unfold tM
 refine aG bE ?_
 cases r with
 | false=>rfl
 | true=>exact (n9 (cX.1 rfl)).elim
theorem abS {x y:Rat}(aa:fS x)(aP:fS y): ∃c,tN (cT x) (cT y)=some c∧(c≤0↔x≤y):=by
 have p:=aa.dj
 have q:=aP.dj
 refine ⟨_,Oo p.pos q.pos p.num p.den q.num q.den (by omega) (by omega) (by omega) (by omega),?_⟩
 have o:lm ((gl x).1*(gl y).2) ((gl y).1*(gl x).2)≤0↔ ¬(gl y).1*(gl x).2<(gl x).1*(gl y).2:=by
  rw [← Zp];omega
 rw [o,← Rat.not_lt,Rat.lt_iff]
 exact Iff.rfl
theorem abo {x y:Rat}(aa:fS x)(aP:fS y): ∃c,tN (cT x) (cT y)=some c∧(0≤c↔y≤x):=by
 have p:=aa.dj
 have q:=aP.dj
 refine ⟨_,Oo p.pos q.pos p.num p.den q.num q.den (by omega) (by omega) (by omega) (by omega),?_⟩
 have o:0≤lm ((gl x).1*(gl y).2) ((gl y).1*(gl x).2)↔ ¬(gl x).1*(gl y).2<(gl y).1*(gl x).2:=by
  unfold lm
  split<;>(try split)<;>omega
 rw [o,← Rat.not_lt,Rat.lt_iff]
 exact Iff.rfl
theorem YL {s:b4}(d:lo s):An s=some (a4 (2*s.cj.length) fun _=>0):=by
 have bp:=d.v.2.2.1
 have CL:U ((2:Int)*(len_ dk s.cj))=((2*s.cj.length:Nat):Int):=by rw [gY,c1 (by omega) (by omega)];omega
 unfold An
 rw [CL,Int.toNat_natCast,nM]
 exact aG d.ok (fr rfl (bP (by omega) rfl))
theorem ZL {s:b4}(d:lo s)(l:List Int){z:Nat→Rat}(ca:∀k,fS (z k))(ch:∀k m,s.bz[k]? = some m→(m.gr=1→1≤z k)∧(m.gr=2→z k≤ -1)):
 Dd l (a4 s.bz.length fun k=>ie (z k)) s.bz (s.bz.length:Nat) s.cj 0=some (.inl ()):=by
 have bu:=d.v.2.2.2
 have m5:om 1:=mv.2 (by omega)
 have mJ:om (-1):=mv.2 (by omega)
 have f1:fS (1:Rat):=tX (n:=1) m5
 have f2:fS (-1:Rat):=tX (n:= -1) mJ
 have ae:rv 1=some (ie 1):=Qd m5
 have bq:rv (-1)=some (ie (-1)):=Qd mJ
 have TE : ∀ {x y:Rat},fS x→fS y→ ∀c,tN (cT x) (cT y)=some c→x7 (ie x) (ie y)=some c:=fun aa aP c e=>aG (EU aa) (aG (EU aP) (aG e rfl))
 unfold Dd
 obtain ⟨_,e,-⟩:=iN (f:=fun u:Int=>xi l (a4 s.bz.length fun k=>ie (z k)) s.bz (s.bz.length:Nat) s.cj u) (fun (n:Nat) (_:Unit)=>(n:Int)) s.bz.length (fun _ _=>True) (fun _=>(.inl ():Unit⊕Unit))
  (fun n a0 _ _=>by
    refine ⟨(),?_,trivial⟩
    have aa:=List.getElem?_eq_getElem a0
    obtain ⟨g1,g2⟩:=ch n _ aa
    unfold xi
    rw [gu (by omega)]
    refine ew (by omega) (bP (by omega) (aG (gt rfl aa) ?_))
    by_cases a:s.bz[n].gr=1
    ·obtain ⟨en,mG,oY⟩:=abo (ca n) f1
     exact fr (re a) (bP (by rw [c5];omega) (aG (gt rfl (gX a0)) (aG ae (aG (TE (ca n) f1 _ mG) (eY (by have:=oY.2 (g1 a);omega) (gS (oz (by omega)) rfl))))))
    ·refine gS (oz a) ?_
     by_cases b:s.bz[n].gr=2
     ·obtain ⟨c,aC,aH⟩:=abS (ca n) f2
      exact fr (re b) (bP (by rw [c5];omega) (aG (gt rfl (gX a0)) (aG bq (aG (TE (ca n) f2 _ aC) (eY (by have:=aH.2 (g2 b);omega) rfl)))))
     ·exact gS (oz b) rfl)
  (fun _ _=>by unfold xi;exact eY (by omega) rfl) () trivial
 exact e
theorem acL:1000*(2*(pO*(2*pO)))≤21*100*(ey*ey):=by unfold pO;decide +kernel
theorem Vr (x0:List Int)(i0:(fun l=>l.length≤maxLen∧ ∀x∈l,(fun _=>True) x) x0):Dt x0=some true:=by
 unfold Dt
 by_cases h0:(1048576:Int)<len_ eU8 x0
 ·exact ew h0 rfl
 have aQ:x0.length≤1048576:=by rw [gY] at h0;omega
 obtain ⟨s,l,aC,d,mM⟩:=Xr x0 aQ
 have v:=d.v
 have bu:=v.2.2.2
 obtain ⟨CN,bU⟩:=Fa s d l mM.1 mM.c4
 refine eY h0 (aG aC (aG bU (fr rfl (aG d.ok (fr rfl ?_)))))
 rcases YJ d with ⟨p,c⟩|⟨x,w,q,p,c⟩
 ·exact aG p (aG c (fr rfl (gS rfl rfl)))
 have D:=QW d q
 have aa : ∀j,j<b9 s→0≤x j:=q.k5.1.1
 have ch:wq s (a4 (2*s.cj.length) fun _=>0) (mN s x):=abk (l:=[]) q.k5.1
 have b0:=abl aa
 have aev:=QV s d.ok v (vG s).1 (vG s).2 (Fa s d _ (vG s).1 (vG s).2).1 D ch b0
 have MX : ∀k m,s.bz[k]? = some m→(m.gr=1→1≤mN s x k)∧(m.gr=2→mN s x k≤ -1):=fun k m hm=>Qh aa hm
 have gv:=aau d D.rO fun k m hm o=>by have:=(MX k m hm).1 o;grind
 refine aG p (aG c (fr rfl (fr rfl (gS (by simp only;rw [gY,gY,c5];exact zo rfl) (aG (YL d) (aG aev (fr rfl (aG gv (eY (by rw [gY];simp) ?_)))))))))
 rw [gY]
 refine aG (ZL d _ D.rO MX) ?_
 simp only
 rcases aai s v bU mM.1 mM.c4 with ⟨no,a⟩|⟨y,u,r,a⟩
 ·exact aG a (gS rfl (aG (YK d mM no) rfl))
 ·have TF:=aaq d r
  have TG:=ZK TF D acL
  have aP : ∀j,j<b9 s→0≤y j:=r.k5.1.1
  have Tk:=aap r.k5.1
  have TH:=QU s aP
  have TI:wq s l fun k=>gT s y (b9 s) k+mN s x k:=fun i ag=>by
   have aC:=Tk i ag
   have aH:=ch i ag
   have aj:kG s (a4 (2*s.cj.length) fun _=>0) i=0:=by
    unfold kG
    have:=A2 s (show i / 2<eb s by omega)
    rw [List.getD_eq_getElem?_getD,gX (by omega)];rfl
   rw [aj] at aH
   rw [fK (g:=fun k=>gT s y (b9 s) k*(i9 s i k:Rat)+mN s x k*(i9 s i k:Rat)) fun k _=>Rat.add_mul ..,sV,aC,aH]
   show _+(0:Rat)=_
   grind
  have MY:wt s fun k=>gT s y (b9 s) k+mN s x k:=fun k m hm=>by
   obtain ⟨ir,ja⟩:=TH k m hm
   obtain ⟨hz,iL⟩:=b0 k m hm
   exact ⟨fun h=>by have:=ir h;have:=hz h;grind,fun h=>by have:=ja h;have:=iL h;grind⟩
  refine aG a (fr rfl (aG (abn (by omega) TF.rO D.rO TG.rO) (fr rfl (aG (QV s d.ok v mM.1 mM.c4 CN TG TI MY) (fr rfl ?_)))))
  refine aG (X2 d mM ⟨y,r.k5.1⟩ fun k m hm o=>⟨_,aat MY TI,?_⟩) rfl
  rw [Rz MY (gp hm)]
  have:=(TH k m hm).1 o
  have:=(MX k m hm).1 o
  grind
end Go.Proofs.YtojbgalflbgajabGreat
