/- Lemmas, plain functions of the program, and what they answer. No condition. -/
import Derived.Test.YtjkpomjgokofmacMD
namespace Go.Proofs.Ytjkpomjgokofmac
set_option linter.unusedVariables false
set_option linter.unusedSimpArgs false
open Go Go.VL
def fT (m N:Nat)(h:Nat→Nat):List bL:=bs m fun i=>some (h i,N+1)
structure kN (m N M:Nat) (h:Nat→Nat) (w:Rat) (t:b5) (dY:List (List ba)):Prop where
 len:dY.length=M
 row : ∀i,i<m→dY[h i]? = some (fE N w t i)
theorem yt {α:Type}{l:List α}{i:Nat}{x y:α}(h:l[i]? = some x):(l.set i y)[i]? = some y:=by
 rw [List.getElem?_set,if_pos rfl,if_pos (List.getElem?_eq_some_iff.1 h).1]
theorem C5 {α:Type}{l:List α}{i k:Nat}{y:α}(h:i≠k):(l.set i y)[k]? = l[k]? := by
 rw [List.getElem?_set,if_neg h]
theorem set_set {α:Type}(l:List α)(i:Nat)(x y:α):(l.set i x).set i y=l.set i y:=by
 rw [List.set_set]
structure pS (m N:Nat) (w:Rat) (t:b5) (r k:Nat):Prop where
 ah:r<m
 aV:k<N
 ae:t.T r k≠0
 uS : ∀i,i<m→ ∀j,j≤N→el gR ((t.cg r k).T i j*(t.T r k*w))
theorem Qx {m N:Nat}(fb:N<1000){h:Nat→Nat}{w:Rat}{t:b5}{r k:Nat}(f:nb m N w t)(g:pS m N w t r k){i:Nat}(af:i<m)(T5:i≠r)(cf:h i≠h r){dY:List (List ba)}(o:dY[h i]? = some (fE N w t i))(J:dY[h r]? = some (fE N w t r))
 (fq ek:Int) (a4:Int) (aZ:List bL) (bg:List Int) (ck:List Bool) (v1 v2:Int) :
 xR v1 v2 (some (h r,N+1)) (some (h i,N+1)) fq ek (((N+1:Nat):Nat):Int) (bB w).dj (bB w).db a4 aZ bg ck (bB (t.T r k*w)).dj (bB (t.T r k*w)).db (bB (t.T i k*w)).dj (bB (t.T i k*w)).db 0 dY=some (dY.set (h i) (fE N (t.T r k*w) (t.cg r k) i)):=by
 have hw:=f.pos
 have lZ : ∀i,i<m→ ∀j,j≤N→el iN (t.T i j*w):=fun i af j av=>(f.iD i af j av).mono (pR (by have:=pb;generalize gR=q at *;omega))
 have UP:el iN w:=f.hw.mono (pR (Nat.le_refl _))
 have UQ : ∀i,i<m→ ∀j,j≤N→el iN ((t.cg r k).T i j*(t.T r k*w)):=fun i af j av=>(g.uS i af j av).mono (pR (by have:=pb;generalize gR=q at *;omega))
 have xG : ∀i,i<m→ ∀j,j≤N→ ∀dU,dU<m→ ∀gl,gl≤N→el iN (t.T i j*w*(t.T dU gl*w)):=fun i af j av dU hS gl qK=>((f.iD i af j av).mul (f.iD dU hS gl qK)).mono (by
  refine Nat.le_trans ?_ (Nat.le_trans (Nat.le_add_right _ _) wz)
  exact Nat.mul_le_mul (by generalize gR=q;omega) (by generalize gR=q;omega))
 have T6 : ∀j,j≤N→el iN ((t.cg r k).T i j*(t.T r k*w)*w):=fun j av=>((g.uS i af j av).mul f.hw).mono (by
  refine Nat.le_trans ?_ (Nat.le_trans (Nat.le_add_right _ _) wz)
  exact Nat.mul_le_mul (by generalize gR=q;omega) (Nat.le_refl _))
 have ah:=g.ah
 have aV:=g.aV
 have ae:=g.ae
 have FK : ∀j,(t.cg r k).T i j=t.T i j-t.T i k*(t.T r j / t.T r k):=fun j=>by simp [b5.cg,T5]
 have El:w≠0:=by grind
 unfold xR
 obtain ⟨s,e,-⟩:=jc (f:=fun q:Int×List (List ba)=>sT v1 v2 (some (h r,N+1)) (some (h i,N+1)) fq ek (((N+1:Nat):Nat):Int) (bB w).dj (bB w).db a4 aZ bg ck (bB (t.T r k*w)).dj (bB (t.T r k*w)).db (bB (t.T i k*w)).dj (bB (t.T i k*w)).db q.1 q.2)
  (fun (c:Nat) (_:Unit)=>((c:Int),dY.set (h i) (bs (N+1) fun j=>if j<c then bB ((t.cg r k).T i j*(t.T r k*w)) else bB (t.T i j*w)))) (N+1) (fun _ _=>True)
  (fun _=>dY.set (h i) (fE N (t.T r k*w) (t.cg r k) i))
  (fun c aL _ _=>by
    refine ⟨(),?_,trivial⟩
    have fin:(some (Sum.inl (U ((c:Int)+1),(dY.set (h i) (bs (N+1) fun j=>if j<c then bB ((t.cg r k).T i j*(t.T r k*w)) else bB (t.T i j*w))).set (h i) ((bs (N+1) fun j=>if j<c then bB ((t.cg r k).T i j*(t.T r k*w)) else bB (t.T i j*w)).set (0+((c:Int)).toNat) (bB ((t.cg r k).T i c*(t.T r k*w)))))):Option ((Int×List (List ba))⊕List (List ba))) =
     some (Sum.inl (((c+1:Nat):Int),dY.set (h i) (bs (N+1) fun j=>if j<c+1 then bB ((t.cg r k).T i j*(t.T r k*w)) else bB (t.T i j*w)))):=by
     rw [fS (by omega),Int.toNat_natCast,Nat.zero_add,set_set,l3]
     congr 4
     refine fI fun j _=> ?_
     by_cases bH:j=c
     ·subst bH;rw [if_pos rfl,if_pos (by omega)]
     ·rw [if_neg bH]
      by_cases cq:j<c
      ·rw [if_pos cq,if_pos (by omega)]
      ·rw [if_neg cq,if_neg (by omega)]
    have gu:qf (bB ((t.cg r k).T i c*(t.T r k*w)*w)) (bB w)=some (bB ((t.cg r k).T i c*(t.T r k*w))):=O8 (UQ i af c (by omega)) UP (T6 c (by omega)) El
    unfold sT
    refine dM (by simp only;omega) (aS (x:=(h i,N+1)) rfl (aS (x:=bs (N+1) fun j=>if j<c then bB ((t.cg r k).T i j*(t.T r k*w)) else bB (t.T i j*w)) (by simp only;exact yt o) (bV (by simp only;omega) (aS (x:=bB (t.T i c*w)) (by simp only;rw [Int.toNat_natCast,jd aL,if_neg (by omega)]) ?_))))
    refine aS (tR (lZ i af c (by omega)) (lZ r ah k (by omega))) (aS (qt (lZ i af k (by omega))) (xw (fun d=> ?_) (fun d=> ?_)))
    ·refine aS (x:=(h r,N+1)) rfl (aS (x:=fE N w t r) (by simp only;rw [C5 cf];exact J) (bV (by simp only;omega) (aS (x:=bB (t.T r c*w)) (by simp only;rw [Int.toNat_natCast];exact jd aL) (aS (qt (lZ r ah c (by omega))) (xw (fun pq=> ?_) (fun pq=> ?_))))))
     ·refine aS (tR (lZ i af k (by omega)) (lZ r ah c (by omega))) (aS (Il (xG i af c (by omega) r ah k (by omega)) (xG i af k (by omega) r ah c (by omega))) (aS ?_ fin))
      rw [show t.T i c*w*(t.T r k*w)-t.T i k*w*(t.T r c*w)=(t.cg r k).T i c*(t.T r k*w)*w by rw [FK];grind]
      exact gu
     ·have b6:t.T r c=0:=by have:=vQ.1 (by simpa using pq);grind
      refine aS ?_ fin
      rw [show t.T i c*w*(t.T r k*w)=(t.cg r k).T i c*(t.T r k*w)*w by rw [FK,b6];grind]
      exact gu
    ·have b6:t.T i k=0:=by have:=vQ.1 (by simpa using d);grind
     refine aS ?_ fin
     rw [show t.T i c*w*(t.T r k*w)=(t.cg r k).T i c*(t.T r k*w)*w by rw [FK,b6];grind]
     exact gu)
  (fun _ _=>by
    unfold sT
    refine eb (by simp) ?_
    simp only
    congr 3
    exact fI fun j av=>by rw [if_pos av]) () trivial
 have e0:dY.set (h i) (bs (N+1) fun j=>if j<0 then bB ((t.cg r k).T i j*(t.T r k*w)) else bB (t.T i j*w))=dY:=by
  have:(bs (N+1) fun j=>if j<0 then bB ((t.cg r k).T i j*(t.T r k*w)) else bB (t.T i j*w))=fE N w t i:=fI fun j _=>by rw [if_neg (by omega)]
  rw [this]
  apply List.ext_getElem?
  intro c
  rw [List.getElem?_set]
  split
  ·rename_i e;subst e
   rw [if_pos (List.getElem?_eq_some_iff.1 o).1,o]
  ·rfl
 rw [e0] at e
 exact e
theorem Qy {m N:Nat}(fb:N<1000){h:Nat→Nat}{w:Rat}{t:b5}(iD:∀i,i<m→ ∀j,j≤N→el gR (t.T i j*w)){i:Nat}(af:i<m){dY:List (List ba)}(o:dY[h i]? = some (fE N w t i))
 (fq ek:Int) (fB:Bool) (gA:List Int) (a4:Int) (aZ:List bL) (bg:List Int) (ck:List Bool) :
 xT (some (h i,N+1)) fq ek (((N+1:Nat):Nat):Int) fB gA a4 aZ bg ck 0 dY=some (dY.set (h i) (fE N (-w) t i)):=by
 have lZ : ∀j,j≤N→el iN (t.T i j*w):=fun j av=>(iD i af j av).mono (pR (by have:=pb;generalize gR=q at *;omega))
 unfold xT
 obtain ⟨s,e,-⟩:=jc (f:=fun q:Int×List (List ba)=>sV (some (h i,N+1)) fq ek (((N+1:Nat):Nat):Int) fB gA a4 aZ bg ck q.1 q.2)
  (fun (c:Nat) (_:Unit)=>((c:Int),dY.set (h i) (bs (N+1) fun j=>if j<c then bB (t.T i j * -w) else bB (t.T i j*w)))) (N+1) (fun _ _=>True)
  (fun _=>dY.set (h i) (fE N (-w) t i))
  (fun c aL _ _=>by
    refine ⟨(),?_,trivial⟩
    unfold sV
    refine dM (by simp only;omega) (aS (x:=(h i,N+1)) rfl (aS (x:=bs (N+1) fun j=>if j<c then bB (t.T i j * -w) else bB (t.T i j*w)) (by simp only;exact yt o) (bV (by simp only;omega) (aS (x:=bB (t.T i c*w)) (by simp only;rw [Int.toNat_natCast,jd aL,if_neg (by omega)]) (aS (Ha (lZ c (by omega))) ?_)))))
    simp only
    rw [fS (by omega),Int.toNat_natCast,Nat.zero_add,set_set,l3]
    congr 4
    refine fI fun j _=> ?_
    by_cases bH:j=c
    ·subst bH;rw [if_pos rfl,if_pos (by omega)];congr 1;grind
    ·rw [if_neg bH]
     by_cases cq:j<c
     ·rw [if_pos cq,if_pos (by omega)]
     ·rw [if_neg cq,if_neg (by omega)])
  (fun _ _=>by
    unfold sV
    refine eb (by simp) ?_
    simp only
    congr 3
    exact fI fun j av=>by rw [if_pos av]) () trivial
 have e0:dY.set (h i) (bs (N+1) fun j=>if j<0 then bB (t.T i j * -w) else bB (t.T i j*w))=dY:=by
  have:(bs (N+1) fun j=>if j<0 then bB (t.T i j * -w) else bB (t.T i j*w))=fE N w t i:=fI fun j _=>by rw [if_neg (by omega)]
  rw [this]
  apply List.ext_getElem?
  intro c
  rw [List.getElem?_set]
  split
  ·rename_i e;subst e
   rw [if_pos (List.getElem?_eq_some_iff.1 o).1,o]
  ·rfl
 rw [e0] at e
 exact e
def mN (w:Rat)(t:b5)(r k:Nat):Rat:=if 0<t.T r k then t.T r k*w else -(t.T r k*w)
theorem IX {m N M:Nat}(hm:m≤20)(fb:N<1000){h:Nat→Nat}(inj:∀i,i<m→ ∀k,k<m→h i=h k→i=k){w:Rat}{t:b5}{r k:Nat}(f:nb m N w t)(g:pS m N w t r k){dY:List (List ba)}(fP:kN m N M h w t dY)(gV:Int)(free:List Bool):
 ∃ji,td r k (bB w).dj (bB w).db gV (fT m N h) dY (d7 m t) free=some ((bB (mN w t r k)).dj,(bB (mN w t r k)).db,ji,d7 m (t.cg r k))∧kN m N M h (mN w t r k) (t.cg r k) ji:=by
 have ah:=g.ah
 have aV:=g.aV
 have ae:=g.ae
 have hw:=f.pos
 have lZ : ∀i,i<m→ ∀j,j≤N→el iN (t.T i j*w):=fun i af j av=>(f.iD i af j av).mono (pR (by have:=pb;generalize gR=q at *;omega))
 have Lo:fE N (t.T r k*w) (t.cg r k) r=fE N w t r:=fI fun j _=>by
  simp only [b5.cg,if_true];congr 1;grind
 have u0:(fT m N h).length=m:=ee ..
 unfold td
 obtain ⟨ga,ar,lV,ax⟩:=jc (f:=fun q:Int×List (List ba)=>sU (r:Int) (k:Int) (some (h r,N+1)) ((m:Nat):Int) (bB w).dj (bB w).db gV (fT m N h) (d7 m t) free (bB (t.T r k*w)).dj (bB (t.T r k*w)).db q.1 q.2)
  (fun (i:Nat) (p:List (List ba))=>((i:Int),p)) m (fun n p=>p.length=M∧ ∀i,i<m→p[h i]? = some (if i=r∨i<n then fE N (t.T r k*w) (t.cg r k) i else fE N w t i)) (fun p=>p)
  (fun n a5 p cZ=>by
    obtain ⟨aG,cZ⟩:=cZ
    unfold sU
    by_cases c:n=r
    ·subst c
     refine ⟨p,dM (by simp only;omega) (bV (by rw [u0];simp only;omega) (aS (x:=some (h n,N+1)) (by simp only;rw [Int.toNat_natCast];exact jd a5) (gm (by simp) ?_))),aG,fun i af=> ?_⟩
     ·simp only;rw [fS (by omega)]
     ·rw [cZ i af]
      by_cases bH:i=n∨i<n
      ·rw [if_pos bH,if_pos (by omega)]
      ·rw [if_neg bH,if_neg (by omega)]
    ·have cf:h n≠h r:=fun e=>c (inj n a5 r ah e)
     have o:p[h n]? = some (fE N w t n):=by rw [cZ n a5,if_neg (by omega)]
     have J:p[h r]? = some (fE N w t r):=by rw [cZ r ah,if_pos (.inl rfl),Lo]
     refine ⟨p.set (h n) (fE N (t.T r k*w) (t.cg r k) n),dM (by simp only;omega) (bV (by rw [u0];simp only;omega) (aS (x:=some (h n,N+1)) (by simp only;rw [Int.toNat_natCast];exact jd a5) (jq (by simp;omega) (aS (x:=(h n,N+1)) rfl (aS o (bV (by simp only;omega) (aS (x:=bB (t.T n k*w)) (by rw [Int.toNat_natCast];exact jd (by omega)) (aS (Qx fb f g a5 c cf o J _ _ _ _ _ _ _ _) ?_)))))))),by rw [List.length_set];exact aG,fun i af=> ?_⟩
     ·simp only;rw [fS (by omega)]
     ·by_cases bH:i=n
      ·subst bH;rw [yt o,if_pos (.inr (by omega))]
      ·rw [C5 (fun e=>bH (inj i af n a5 e.symm)),cZ i af]
       by_cases cq:i=r∨i<n
       ·rw [if_pos cq,if_pos (by omega)]
       ·rw [if_neg cq,if_neg (by omega)])
  (fun p _=>by unfold sU;exact eb (by simp) rfl) dY ⟨fP.len,fun i af=>by
    rw [fP.row i af]
    by_cases c:i=r
    ·rw [if_pos (.inl c),c,Lo]
    ·rw [if_neg (by omega)]⟩
 have K3 : ∀i,i<m→ga[h i]? = some (fE N (t.T r k*w) (t.cg r k) i):=fun i af=>by rw [ax i af,if_pos (.inr af)]
 have SK:(d7 m t).set (0+((r:Int)).toNat) (k:Int)=d7 m (t.cg r k):=by
  rw [Int.toNat_natCast,Nat.zero_add]
  unfold d7
  rw [l3]
  exact fI fun i _=>by
   simp only [b5.cg]
   split<;>rfl
 have lead :
  (if 0≤(r:Int)∧(r:Int)<((fT m N h).length:Nat) then
    (fT m N h)[(0+((r:Int)).toNat)]? >>= fun ek =>
    ek >>= fun q3 =>
    dY[q3.1]? >>= fun uZ =>
    if 0≤(k:Int)∧(k:Int)<(q3.2:Nat) then
    uZ[(0+((k:Int)).toNat)]? >>= fun fc =>
    xS (r:Int) (k:Int) ek (((fT m N h).length:Nat):Int) (bB w).dj (bB w).db gV (fT m N h) (d7 m t) free fc.dj fc.db 0 dY >>= fun dh =>
    if 0≤(r:Int)∧(r:Int)<((d7 m t).length:Nat) then
    if (0+((r:Int)).toNat)<(d7 m t).length then
    mZ fc >>= fun eR =>
    if (decide ((0:Int)<eR))=true then
     some (fc.dj,fc.db,dh,(d7 m t).set (0+((r:Int)).toNat) (k:Int))
    else
     pu fc >>= fun dT =>
     vc (((fT m N h).length:Nat):Int) dT.dj dT.db gV (fT m N h) ((d7 m t).set (0+((r:Int)).toNat) (k:Int)) free 0 dh >>= fun jM =>
     some (dT.dj,dT.db,jM,(d7 m t).set (0+((r:Int)).toNat) (k:Int))
    else none else none else none else none)=(if (decide ((0:Int)<j3 (t.T r k)))=true then
     some ((bB (t.T r k*w)).dj,(bB (t.T r k*w)).db,ga,d7 m (t.cg r k))
    else
     pu (bB (t.T r k*w)) >>= fun dT =>
     vc ((m:Nat):Int) dT.dj dT.db gV (fT m N h) (d7 m (t.cg r k)) free 0 ga >>= fun jM =>
     some (dT.dj,dT.db,jM,d7 m (t.cg r k))):=by
  refine bV (by rw [u0];omega) (aS (x:=some (h r,N+1)) (by rw [Int.toNat_natCast];exact jd ah) (aS (x:=(h r,N+1)) rfl (aS (fP.row r ah) (bV (by simp only;omega) (aS (x:=bB (t.T r k*w)) (by rw [Int.toNat_natCast];exact jd (by omega)) (aS (x:=ga) (by unfold xS;rw [u0];exact ar) (bV (by unfold d7;rw [ee];omega) (bV (by unfold d7;rw [ee,Int.toNat_natCast];omega) (aS (qt (lZ r ah k (by omega))) ?_)))))))))
  rw [t8 hw,SK,u0]
 by_cases iS:0<t.T r k
 ·have q5:mN w t r k=t.T r k*w:=if_pos iS
  refine ⟨ga,lead.trans ?_,lV,fun i af=>by rw [q5];exact K3 i af⟩
  rw [q5]
  exact dM (qs.2 iS) rfl
 ·have q5:mN w t r k = -(t.T r k*w):=if_neg iS
  obtain ⟨hj,ay,od,bJ⟩:=jc (f:=fun q:Int×List (List ba)=>sW ((m:Nat):Int) (bB (-(t.T r k*w))).dj (bB (-(t.T r k*w))).db gV (fT m N h) (d7 m (t.cg r k)) free q.1 q.2)
   (fun (i:Nat) (p:List (List ba))=>((i:Int),p)) m (fun n p=>p.length=M∧ ∀i,i<m→p[h i]? = some (if i<n then fE N (-(t.T r k*w)) (t.cg r k) i else fE N (t.T r k*w) (t.cg r k) i)) (fun p=>p)
   (fun n a5 p cZ=>by
     obtain ⟨aG,cZ⟩:=cZ
     have o:p[h n]? = some (fE N (t.T r k*w) (t.cg r k) n):=by rw [cZ n a5,if_neg (by omega)]
     unfold sW
     refine ⟨p.set (h n) (fE N (-(t.T r k*w)) (t.cg r k) n),dM (by simp only;omega) (bV (by rw [u0];simp only;omega) (aS (x:=some (h n,N+1)) (by simp only;rw [Int.toNat_natCast];exact jd a5) (aS (x:=(h n,N+1)) rfl (aS o (aS (Qy fb g.uS a5 o _ _ _ _ _ _ _ _) ?_))))),by rw [List.length_set];exact aG,fun i af=> ?_⟩
     ·simp only;rw [fS (by omega)]
     ·by_cases bH:i=n
      ·subst bH;rw [yt o,if_pos (by omega)]
      ·rw [C5 (fun e=>bH (inj i af n a5 e.symm)),cZ i af]
       by_cases cq:i<n
       ·rw [if_pos cq,if_pos (by omega)]
       ·rw [if_neg cq,if_neg (by omega)])
   (fun p _=>by unfold sW;exact eb (by simp) rfl) ga ⟨lV,fun i af=>by rw [K3 i af,if_neg (by omega)]⟩
  refine ⟨hj,lead.trans ?_,od,fun i af=>by rw [q5,bJ i af,if_pos af]⟩
  rw [q5]
  exact eb (fun c=>iS (qs.1 c)) (aS (Ha (lZ r ah k (by omega))) (aS (x:=hj) (by unfold vc;exact ay) rfl))
theorem GX {m:Nat}(hm:m≤1000)(t:b5)(j:Nat): ∃b,tJ (d7 m t) (j:Int)=some b∧(b=true↔ ∃i,i<m∧t.B i=j):=by
 unfold tJ yW C3
 obtain ⟨r,e,h⟩:=qn (f:=fun w:Int=>tv (d7 m t) (j:Int) ((m:Nat):Int) w) (fun (i:Nat) (_:Unit)=>(i:Int)) m (fun i _=> ∀k,k<i→t.B k≠j)
  (fun r=>(∃i:Nat,r = .inr (i:Int)∧i<m∧t.B i=j)∨(r = .inl ()∧ ¬∃i,i<m∧t.B i=j))
  (fun i af _ cZ=>by
    unfold tv
    by_cases c:t.B i=j
    ·right
     exact ⟨_,dM (by omega) (bV (by unfold d7;rw [ee];omega) (aS (x:=((t.B i:Nat):Int)) (by rw [Int.toNat_natCast];exact hM af) (gm (by simp [c]) rfl))),.inl ⟨i,rfl,af,c⟩⟩
    ·left
     refine ⟨(),dM (by omega) (bV (by unfold d7;rw [ee];omega) (aS (x:=((t.B i:Nat):Int)) (by rw [Int.toNat_natCast];exact hM af) (jq (by simp;omega) (by rw [fS (by omega)])))),fun k aV=> ?_⟩
     by_cases e:k=i
     ·rw [e];exact c
     ·exact cZ k (by omega))
  (fun _ cZ=>⟨_,by unfold tv;exact eb (by omega) rfl,.inr ⟨rfl,fun ⟨i,af,e⟩=>cZ i af e⟩⟩) () (fun k aV=>by omega)
 rw [iQ,show (d7 m t).length=m from ee ..]
 rcases h with ⟨i,rfl,o,J⟩|⟨rfl,h⟩
 ·exact ⟨true,aS (x:=(i:Int)) (aS e rfl) (by simp),by simp only [true_iff];exact ⟨i,o,J⟩⟩
 ·exact ⟨false,aS (x:=(-1:Int)) (aS e rfl) rfl,by simp [h]⟩
theorem vY {m N M:Nat}{h:Nat→Nat}{w:Rat}{t:b5}{dY:List (List ba)}(fP:kN m N M h w t dY):(fT m N h).all (sk dY)=true:=by
 rw [List.all_eq_true]
 intro x aa
 obtain ⟨i,af,rfl⟩:=IP.1 aa
 simp only [sk]
 have o:=fP.row i af
 have J:dY.getD (h i) []=fE N w t i:=by rw [List.getD_eq_getElem?_getD,o];rfl
 rw [J,show (fE N w t i).length=N+1 from ee ..]
 simp [(List.getElem?_eq_some_iff.1 o).1]
theorem rI {m N M:Nat}{h:Nat→Nat}{w:Rat}{t:b5}{dY:List (List ba)}(fP:kN m N M h w t dY):(fT m N h).map (ks dY)=bs m (fE N w t):=by
 unfold fT
 rw [QU]
 exact fI fun i af=>by
  have J:dY.getD (h i) []=fE N w t i:=by rw [List.getD_eq_getElem?_getD,fP.row i af];rfl
  simp only [ks]
  rw [J]
  exact List.take_of_length_le (Nat.le_of_eq (ee ..))
theorem K4 {m:Nat}{I:Nat→Rat}{t:b5}{j:Nat}:t.Ae m 1 (fun _=>I) j↔0<t.cH m I j:=SH (g:=fun _=>t.cH m I j)
theorem Pa {fG m N M:Nat}{A:Nat→Nat→Rat}(hm:m≤20)(fb:N<1000){h:Nat→Nat}(inj:∀i,i<m→ ∀k,k<m→h i=h k→i=k){w:Rat}{t:b5}(ok:e3 fG m N A t)(f:nb m N w t)(I:Nat→Int)(ad:∀j,j<N→ -100≤I j∧I j≤100)(dB:Nat→Bool)
 (UR : ∀r s,m6 m N 1 (fun _ j=>(I j:Rat)) (fun j=>dB j=true) t r s→pS m N w t r s) {dY:List (List ba)} (fP:kN m N M h w t dY) :
 ∃x,sY (N:Int) (bB w).dj (bB w).db (fT m N h) dY (d7 m t) (bs N dB) (bs N I) 0=some x ∧
  ((x = .inl (false,(bB w).dj,(bB w).db,dY,d7 m t)∧ ∀j,j<N→dB j=true→ ¬0<t.cH m (fun j=>(I j:Rat)) j) ∨
   (∃r s ji,x = .inl (true,(bB (mN w t r s)).dj,(bB (mN w t r s)).db,ji,d7 m (t.cg r s))∧m6 m N 1 (fun _ j=>(I j:Rat)) (fun j=>dB j=true) t r s∧kN m N M h (mN w t r s) (t.cg r s) ji) ∨
   (x = .inr ()∧ ∃s,s<N∧dB s=true∧0<t.cH m (fun j=>(I j:Rat)) s∧ ∀i,i<m→ ¬0<t.T i s)):=by
 unfold sY
 refine qn (f:=fun q:Int=>sP (N:Int) (bB w).dj (bB w).db (fT m N h) dY (d7 m t) (bs N dB) (bs N I) q) (fun (i:Nat) (_:Unit)=>(i:Int)) N
  (fun n _=> ∀j,j<n→dB j=true→ ¬0<t.cH m (fun j=>(I j:Rat)) j) _ (fun n a5 _ cZ=> ?_) (fun _ cZ=> ?_) () (fun j av=>by omega)
 ·have next : ∀(gr:dB n=true→ ¬0<t.cH m (fun j=>(I j:Rat)) n),∀j,j<n+1→dB j=true→ ¬0<t.cH m (fun j=>(I j:Rat)) j:=fun gr j av=>by
   by_cases c:j=n
   ·subst c;exact gr
   ·exact cZ j (by omega)
  have g1:0≤((n:Nat):Int)∧((n:Nat):Int)<((bs N dB).length:Nat):=by rw [ee];omega
  have g2:(bs N dB)[(0+((n:Nat):Int).toNat)]? = some (dB n):=by rw [Int.toNat_natCast];exact jd a5
  have k5:U ((n:Int)+1)=((n+1:Nat):Int):=fS (by omega)
  unfold sP
  by_cases nL:dB n=true
  ·obtain ⟨b,fB,gA⟩:=GX (m:=m) (by omega) t n
   cases b with
   | true =>
    obtain ⟨i,af,hk⟩:=gA.1 rfl
    left
    refine ⟨(),dM (by omega) (bV g1 (aS g2 (gm nL (aS fB (gm rfl (by rw [k5])))))),next fun _=> ?_⟩
    rw [← hk,ok.vF _ af];grind
   | false =>
    have dd:=IW hm fb f I ad ((⟨(bB w).dj,(bB w).db⟩:ba)) rfl (N:Int) (bs N dB) a5
    by_cases ps:0<t.cH m (fun j=>(I j:Rat)) n
    ·obtain ⟨q,aZ,bg⟩:=O9 hm fb f ((⟨(bB w).dj,(bB w).db⟩:ba)) (bs N dB) (k:=n) (by omega)
     have bT : ¬j3 (t.cH m (fun j=>(I j:Rat)) n)≤0:=by have:=qs.2 ps;omega
     right
     rcases bg with ⟨rfl,J⟩|⟨b,rfl,aP,nG,ao,aO⟩
     ·exact ⟨_,dM (by omega) (bV g1 (aS g2 (gm nL (aS fB (jq rfl (bV (vY fP) (aS (by rw [rI fP];exact dd) (eb bT (aS (by rw [rI fP];exact aZ) (dM (by decide) rfl)))))))))),.inr (.inr ⟨rfl,n,a5,nL,ps,J⟩)⟩
     ·have cm:m6 m N 1 (fun _ j=>(I j:Rat)) (fun j=>dB j=true) t b n:=⟨a5,nL,K4.2 ps,fun j av bM dd=>cZ j av bM (K4.1 dd),aP,nG,ao,aO⟩
      obtain ⟨ji,ar,ay⟩:=IX hm fb inj f (UR b n cm) fP (N:Int) (bs N dB)
      exact ⟨_,dM (by omega) (bV g1 (aS g2 (gm nL (aS fB (jq rfl (bV (vY fP) (aS (by rw [rI fP];exact dd) (eb bT (aS (by rw [rI fP];exact aZ) (eb (by omega) (aS ar rfl))))))))))),.inr (.inl ⟨b,n,ji,rfl,cm,ay⟩)⟩
    ·left
     have bT:j3 (t.cH m (fun j=>(I j:Rat)) n)≤0:=by
      have : ¬0<j3 (t.cH m (fun j=>(I j:Rat)) n):=fun c=>ps (qs.1 c)
      omega
     exact ⟨(),dM (by omega) (bV g1 (aS g2 (gm nL (aS fB (jq rfl (bV (vY fP) (aS (by rw [rI fP];exact dd) (dM bT (by rw [k5]))))))))),next fun _=>ps⟩
  ·left
   have z6:dB n=false:=by simpa using nL
   exact ⟨(),dM (by omega) (bV g1 (aS g2 (jq z6 (by rw [k5])))),next fun c=>(nL c).elim⟩
 ·exact ⟨_,by unfold sP;exact eb (by omega) rfl,.inl ⟨rfl,cZ⟩⟩
def qH (N:Int)(n3:List bL)(free:List Bool)(obj:List Int)(s:Bool×List Int×List (List ba)×List Int):Option ((Bool×List Int×List (List ba)×List Int)⊕((Bool×List Int×List (List ba)×List Int)⊕(Bool×List Int×List (List ba)×List Int))) :=
 match sY N s.1 s.2.1 n3 s.2.2.1 s.2.2.2 free obj 0 with
 | none=>none
 | some (.inl (true,bo))=>some (.inl bo)
 | some (.inl (false,bo))=>some (.inr (.inl bo))
 | some (.inr ())=>some (.inr (.inr s))
theorem Qz {N:Int}{n3:List bL}{free:List Bool}{obj:List Int}: ∀s r,iter (qH N n3 free obj) s=some r→xP N n3 free obj true s.1 s.2.1 s.2.2.1 s.2.2.2=some r:=by
 unfold xP
 apply iter.partial_correctness (qH N n3 free obj) (fun s r=>iter (fun w:Bool×Bool×(List Int)×(List (List ba))×(List Int)=>ra N n3 free obj w.1 w.2.1 w.2.2.1 w.2.2.2.1 w.2.2.2.2) (true,s.1,s.2.1,s.2.2.1,s.2.2.2)=some r)
 intro it ih s r ah
 cases aa:sY N s.1 s.2.1 n3 s.2.2.1 s.2.2.2 free obj 0 with
 | none=>unfold qH at ah;rw [aa] at ah;simp at ah
 | some x =>
  have hm:ra N n3 free obj true s.1 s.2.1 s.2.2.1 s.2.2.2=match x with
   | .inl gP=>(some (.inl (gP.1,gP.2.1,gP.2.2.1,gP.2.2.2.1,gP.2.2.2.2)))
   | .inr gP=>(some (.inr (.inr (s.1,s.2.1,s.2.2.1,s.2.2.2)))):=by
   unfold ra
   refine gm rfl ?_
   cases x with
   | inl a=>exact aS aa rfl
   | inr a=>exact aS aa rfl
  unfold qH at ah
  rw [aa] at ah
  rw [iter]
  simp only
  rw [hm]
  match x,ah with
  | .inl (true,bo),ah=>exact ih _ _ ah
  | .inl (false,bo),ah =>
   simp at ah
   subst ah
   show iter _ (false,bo.1,bo.2.1,bo.2.2.1,bo.2.2.2)=_
   rw [iter]
   simp only
   unfold ra
   rfl
  | .inr (),ah =>
   simp at ah
   subst ah
   rfl
theorem QA {fG m N M:Nat}{A:Nat→Nat→Rat}(hm:m≤20)(fb:N<1000){h:Nat→Nat}{w:Rat}{t:b5}(ok:e3 fG m N A t)(f:nb m N w t)(I:Nat→Int)(ad:∀j,j<N→ -100≤I j∧I j≤100)(dB:Nat→Bool){dY:List (List ba)}(fP:kN m N M h w t dY):
 xQ (N:Int) (bB w).dj (bB w).db (fT m N h) dY (d7 m t) (bs N I) 0 (bs N dB)=some (bs N fun j=>dB j && !decide (t.cH m (fun j=>(I j:Rat)) j<0)):=by
 unfold xQ
 obtain ⟨s,e,-⟩:=jc (f:=fun q:Int×List Bool=>sQ (N:Int) (bB w).dj (bB w).db (fT m N h) dY (d7 m t) (bs N I) q.1 q.2)
  (fun (i:Nat) (_:Unit)=>((i:Int),bs N fun j=>if j<i then dB j && !decide (t.cH m (fun j=>(I j:Rat)) j<0) else dB j)) N (fun _ _=>True) (fun _=>bs N fun j=>dB j && !decide (t.cH m (fun j=>(I j:Rat)) j<0))
  (fun n a5 _ _=>by
    refine ⟨(),?_,trivial⟩
    have same:dB n=(dB n && !decide (t.cH m (fun j=>(I j:Rat)) n<0))→(U ((n:Int)+1),bs N fun j=>if j<n then dB j && !decide (t.cH m (fun j=>(I j:Rat)) j<0) else dB j)=(((n+1:Nat):Int),bs N fun j=>if j<n+1 then dB j && !decide (t.cH m (fun j=>(I j:Rat)) j<0) else dB j):=fun he=>by
     rw [fS (by omega)]
     congr 1
     refine fI fun j _=> ?_
     by_cases c:j=n
     ·subst c;rw [if_neg (by omega),if_pos (by omega)];exact he
     ·by_cases cq:j<n
      ·rw [if_pos cq,if_pos (by omega)]
      ·rw [if_neg cq,if_neg (by omega)]
    have g1 : ∀F:Nat→Bool,0≤((n:Nat):Int)∧((n:Nat):Int)<((bs N F).length:Nat):=fun F=>by rw [ee];omega
    have g2:(bs N fun j=>if j<n then dB j && !decide (t.cH m (fun j=>(I j:Rat)) j<0) else dB j)[(0+((n:Nat):Int).toNat)]? = some (dB n):=by rw [Int.toNat_natCast,jd a5,if_neg (by omega)]
    unfold sQ
    by_cases nL:dB n=true
    ·obtain ⟨b,fB,gA⟩:=GX (m:=m) (by omega) t n
     cases b with
     | true =>
      obtain ⟨i,af,hk⟩:=gA.1 rfl
      refine dM (by simp only;omega) (bV (g1 _) (aS g2 (gm nL (aS fB (gm rfl ?_)))))
      simp only
      rw [same]
      rw [← hk,ok.vF _ af,decide_eq_false (by grind)];simp
     | false =>
      have dd:=IW hm fb f I ad ((⟨(bB w).dj,(bB w).db⟩:ba)) rfl (N:Int) (bs N fun j=>if j<n then dB j && !decide (t.cH m (fun j=>(I j:Rat)) j<0) else dB j) a5
      have bT:j3 (t.cH m (fun j=>(I j:Rat)) n)<0↔t.cH m (fun j=>(I j:Rat)) n<0:=by
       unfold j3
       by_cases c:t.cH m (fun j=>(I j:Rat)) n=0
       ·rw [if_pos c,c];constructor
        ·intro h;omega
        ·intro h;grind
       ·rw [if_neg c]
        by_cases cq:t.cH m (fun j=>(I j:Rat)) n<0
        ·rw [if_pos cq];simp [cq]
        ·rw [if_neg cq];constructor
         ·intro h;omega
         ·intro h;exact (cq h).elim
      by_cases ps:t.cH m (fun j=>(I j:Rat)) n<0
      ·refine dM (by simp only;omega) (bV (g1 _) (aS g2 (gm nL (aS fB (jq rfl (bV (vY fP) (aS (by rw [rI fP];exact dd) (dM (bT.2 ps) (bV (by rw [ee,Int.toNat_natCast];omega) ?_)))))))))
       simp only
       rw [fS (by omega),Int.toNat_natCast,Nat.zero_add,l3]
       congr 3
       refine fI fun j _=> ?_
       by_cases c:j=n
       ·subst c;rw [if_pos rfl,if_pos (by omega),decide_eq_true ps];simp
       ·rw [if_neg c]
        by_cases cq:j<n
        ·rw [if_pos cq,if_pos (by omega)]
        ·rw [if_neg cq,if_neg (by omega)]
      ·refine dM (by simp only;omega) (bV (g1 _) (aS g2 (gm nL (aS fB (jq rfl (bV (vY fP) (aS (by rw [rI fP];exact dd) (eb (fun c=>ps (bT.1 c)) ?_))))))))
       simp only
       rw [same]
       rw [decide_eq_false ps];simp
    ·have z6:dB n=false:=by simpa using nL
     refine dM (by simp only;omega) (bV (g1 _) (aS g2 (jq z6 ?_)))
     simp only
     rw [same]
     rw [z6];simp)
  (fun _ _=>by
    unfold sQ
    refine eb (by simp) ?_
    simp only
    congr 2
    exact fI fun j av=>by rw [if_pos av]) () trivial
 have e0:(bs N fun j=>if j<0 then dB j && !decide (t.cH m (fun j=>(I j:Rat)) j<0) else dB j)=bs N dB:=fI fun j _=>by rw [if_neg (by omega)]
 rw [e0] at e
 exact e
theorem OA {fG m N M:Nat}{A:Nat→Nat→Rat}(hm:m≤20)(fb:N<1000){h:Nat→Nat}(inj:∀i,i<m→ ∀k,k<m→h i=h k→i=k)(I:Nat→Int)(ad:∀j,j<N→ -100≤I j∧I j≤100)(dB:Nat→Bool)
 (Inv:Rat→b5→Prop) (inv : ∀w t,Inv w t→e3 fG m N A t∧t.jv m N∧nb m N w t)
 (fO : ∀w t r s,Inv w t→m6 m N 1 (fun _ j=>(I j:Rat)) (fun j=>dB j=true) t r s→pS m N w t r s∧Inv (mN w t r s) (t.cg r s)) {w:Rat} {t:b5} (cZ:Inv w t) {dY:List (List ba)} (fP:kN m N M h w t dY) :
 ∃b bm cJ ji mQ,s4 (bB w).dj (bB w).db (N:Int) (fT m N h) dY (d7 m t) (bs N dB) (bs N I)=some (b,(bB bm).dj,(bB bm).db,ji,d7 m cJ,bs N mQ)∧Inv bm cJ∧kN m N M h bm cJ ji ∧
  ((b=true∧(∀j,j<N→dB j=true→ ¬0<cJ.cH m (fun j=>(I j:Rat)) j)∧mQ=fun j=>dB j && !decide (cJ.cH m (fun j=>(I j:Rat)) j<0))∨(b=false∧ ∃s,s<N∧dB s=true∧0<cJ.cH m (fun j=>(I j:Rat)) s∧ ∀i,i<m→ ¬0<cJ.T i s)):=by
 obtain ⟨ok,k4,xq⟩:=inv w t cZ
 obtain ⟨x,cG,cJ,e,-,-,-,bm,ji,o,J,ao⟩:=OU (fG:=fG) (m:=m) (N:=N) (K:=1) (A:=A) (obj:=fun _ j=>(I j:Rat)) (bC:=fun j=>dB j=true)
  (f:=qH (N:Int) (fT m N h) (bs N dB) (bs N I))
  (fun s t=> ∃w dY,s=((bB w).dj,(bB w).db,dY,d7 m t)∧Inv w t∧kN m N M h w t dY)
  (fun s x t=> ∃w dY,Inv w t∧kN m N M h w t dY∧((x = .inl ((bB w).dj,(bB w).db,dY,d7 m t)∧ ∀j,j<N→dB j=true→ ¬0<t.cH m (fun j=>(I j:Rat)) j) ∨
    (x = .inr ((bB w).dj,(bB w).db,dY,d7 m t)∧ ∃s,s<N∧dB s=true∧0<t.cH m (fun j=>(I j:Rat)) s∧ ∀i,i<m→ ¬0<t.T i s)))
  (fun s t ch ok _=>by
    obtain ⟨w,dY,rfl,cZ,fP⟩:=ch
    obtain ⟨x,e,aa⟩:=Pa hm fb inj ok (inv w t cZ).2.2 I ad dB (fun r s b=>(fO w t r s cZ b).1) fP
    rcases aa with ⟨rfl,aa⟩|⟨r,s,ji,rfl,cm,T7⟩|⟨rfl,aa⟩
    ·left
     exact ⟨_,by unfold qH;simp only;rw [e],w,dY,cZ,fP,.inl ⟨rfl,aa⟩⟩
    ·right
     exact ⟨_,r,s,by unfold qH;simp only;rw [e],cm,mN w t r s,ji,rfl,(fO w t r s cZ cm).2,T7⟩
    ·left
     exact ⟨_,by unfold qH;simp only;rw [e],w,dY,cZ,fP,.inr ⟨rfl,aa⟩⟩)
  (a:=((bB w).dj,(bB w).db,dY,d7 m t)) (t:=t) ⟨w,dY,rfl,cZ,fP⟩ ok k4
 have ay:=Qz _ _ e
 obtain ⟨i4,WS,T8⟩:=inv bm cJ o
 rcases ao with ⟨rfl,ao⟩|⟨rfl,ao⟩
 ·refine ⟨true,bm,cJ,ji,_,?_,o,J,.inl ⟨rfl,ao,rfl⟩⟩
  unfold s4
  exact aS ay (aS (QA hm fb i4 T8 I ad dB J) rfl)
 ·refine ⟨false,bm,cJ,ji,dB,?_,o,J,.inr ⟨rfl,ao⟩⟩
  unfold s4
  exact aS ay rfl
def fQ (m:Nat)(A:Nat→Nat→Rat)(t:b5):Rat:=if 0<t.D m A then t.D m A else -(t.D m A)
theorem Ry {m N:Nat}{A:Nat→Nat→Rat}{t:b5}(h:t.D m A≠0):0<fQ m A t:=by
 unfold fQ;split<;>grind
theorem JN {m K:Nat}{A:Nat→Nat→Rat}{t:b5}{x:Rat}(h:el K (x*t.D m A)):el K (x*fQ m A t):=by
 unfold fQ;split
 ·exact h
 ·have:=h.neg
  rw [show x * -(t.D m A) = -(x*t.D m A) by grind];exact this
theorem na.pf {m N:Nat}{A:Nat→Nat→Rat}(s:Small m N A){t:b5}(h:na m N A t):nb m N (fQ m A t) t where
 pos:=Ry (N:=N) h.sG
 hw:=by
  have o:el gR (1*t.D m A):=by rw [Rat.one_mul];exact h.TY s
  have:=JN o
  rw [Rat.one_mul] at this
  exact this.mono (by generalize gR=q;omega)
 iD:=fun i af j av=>JN (h.TZ s af av)
 hk:=h.ok.jK
theorem na.rZ {m N:Nat}{A:Nat→Nat→Rat}(s:Small m N A){t:b5}(h:na m N A t){r k:Nat}(ah:r<m)(aV:k<N)(ae:t.T r k≠0):pS m N (fQ m A t) t r k where
 ah:=ah
 aV:=aV
 ae:=ae
 uS:=fun i af j av=>by
  have i4:=h.ok.cg ah aV ae
  have o:el gR ((t.cg r k).T i j*(t.cg r k).D m A):=by
   rw [← i4.uY af av]
   refine el.mono (y6 fun cU kU c aL=> ?_) (DV▸yO (by omega) s.hm)
   simp only [e8]
   split
   ·exact s.xF c aL j av
   ·exact s.xF c aL _ (Nat.le_of_lt (i4.jK cU kU))
  rw [h.ok.wv ah aV] at o
  unfold fQ
  split
  ·exact o
  ·have:=o.neg
   rw [show (t.cg r k).T i j*(t.T r k * -(t.D m A)) = -((t.cg r k).T i j*(t.T r k*t.D m A)) by grind];exact this
theorem DN {m N:Nat}{A:Nat→Nat→Rat}{t:b5}(h:e3 m m N A t)(bq:t.D m A≠0){r k:Nat}(ah:r<m)(aV:k<N)(ae:t.T r k≠0):mN (fQ m A t) t r k=fQ m A (t.cg r k):=by
 have e:=h.wv ah aV
 unfold mN fQ
 rw [e]
 by_cases bH:0<t.T r k<;>by_cases cq:0<t.D m A
 ·rw [if_pos bH,if_pos cq,if_pos (Rat.mul_pos bH cq)]
 ·have:=Rat.mul_pos bH (show 0 < -(t.D m A) by grind)
  rw [if_pos bH,if_neg cq,if_neg (by grind)];grind
 ·have:=Rat.mul_pos (show 0 < -(t.T r k) by grind) cq
  rw [if_neg bH,if_pos cq,if_neg (by grind)]
 ·have:=Rat.mul_pos (show 0 < -(t.T r k) by grind) (show 0 < -(t.D m A) by grind)
  rw [if_neg bH,if_neg cq,if_pos (by grind)];grind
def hc (h:Nat→Nat)(t:b5):b5:=⟨fun i j=>t.T (h i) j,fun i=>t.B (h i)⟩
theorem vR {h:Nat→Nat}{t:b5}{r k i:Nat}(eK:h i=h r→i=r):(∀j,((hc h t).cg r k).T i j=(hc h (t.cg (h r) k)).T i j)∧((hc h t).cg r k).B i=(hc h (t.cg (h r) k)).B i:=by
 simp only [b5.cg,hc]
 by_cases c:i=r
 ·subst c;simp
 ·have:h i≠h r:=fun e=>c (eK e)
  simp [c,this]
theorem Hw {α:Type}{m i:Nat}(af:i<m)(f:Nat→α):(bs m f).take (i-0)++((bs m f).drop (0+(i+1))).take (m-(i+1))=bs (m-1) (skip i f):=by
 apply List.ext_getElem?
 intro j
 rw [Nat.sub_zero,Nat.zero_add]
 have aG:((bs m f).take i).length=i:=by rw [List.length_take,ee];omega
 by_cases c:j<i
 ·rw [List.getElem?_append_left (by omega),List.getElem?_take,if_pos c,hM (by omega),hM (by omega)]
  simp only [skip];rw [if_pos c]
 ·rw [List.getElem?_append_right (by omega),aG,List.getElem?_take,List.getElem?_drop]
  by_cases cq:j<m-1
  ·rw [if_pos (by omega),hM (by omega),hM cq]
   simp only [skip];rw [if_neg c];congr 2;omega
  ·rw [if_neg (by omega)]
   symm
   rw [List.getElem?_eq_none_iff,ee];omega
theorem OB {m N M n:Nat}(fb:N<1000)(a5:n≤N){h:Nat→Nat}{w:Rat}{t:b5}(f:nb m N w t){dY:List (List ba)}(fP:kN m N M h w t dY){i:Nat}(af:i<m)(fB:Bool)(gA:List Int)(a4:Int)(bg:List Int)(ck:List Bool):
 ∃k:Nat,xU (n:Int) (i:Int) fB gA a4 (fT m N h) dY bg ck 0=some (k:Int)∧k≤n∧(k<n→t.T i k≠0)∧ ∀j,j<k→t.T i j=0:=by
 unfold xU
 obtain ⟨r,e,k,rfl,o,J,ao⟩:=qn (f:=fun q:Int=>sX (n:Int) (i:Int) fB gA a4 (fT m N h) dY bg ck q) (fun (c:Nat) (_:Unit)=>(c:Int)) n (fun c _=> ∀j,j<c→t.T i j=0)
  (fun r=> ∃k:Nat,r=(k:Int)∧k≤n∧(k<n→t.T i k≠0)∧ ∀j,j<k→t.T i j=0)
  (fun c aL _ cZ=>by
    have hw:=f.pos
    have bT:=qt ((f.iD i af c (by omega)).mono (pR (by have:=pb;generalize gR=q at *;omega)))
    unfold sX
    by_cases Ai:t.T i c=0
    ·left
     refine ⟨(),dM (by omega) (bV (by unfold fT;rw [ee];omega) (aS (x:=some (h i,N+1)) (by rw [Int.toNat_natCast];exact jd af) (aS (x:=(h i,N+1)) rfl (aS (fP.row i af) (bV (by simp only;omega) (aS (x:=bB (t.T i c*w)) (by rw [Int.toNat_natCast];exact jd (by omega)) (aS bT (gm (by rw [t8 hw,vQ.2 Ai];rfl) (by rw [fS (by omega)]))))))))),fun j av=> ?_⟩
     by_cases e:j=c
     ·rw [e];exact Ai
     ·exact cZ j (by omega)
    ·right
     exact ⟨_,dM (by omega) (bV (by unfold fT;rw [ee];omega) (aS (x:=some (h i,N+1)) (by rw [Int.toNat_natCast];exact jd af) (aS (x:=(h i,N+1)) rfl (aS (fP.row i af) (bV (by simp only;omega) (aS (x:=bB (t.T i c*w)) (by rw [Int.toNat_natCast];exact jd (by omega)) (aS bT (jq (by rw [t8 hw];exact EL (fun c=>Ai (vQ.1 c))) rfl)))))))),c,rfl,by omega,fun _=>Ai,cZ⟩)
  (fun _ cZ=>⟨_,by unfold sX;exact eb (by omega) rfl,n,rfl,Nat.le_refl _,fun c=>by omega,cZ⟩) () (fun j av=>by omega)
 exact ⟨k,e,o,J,ao⟩
structure mG (m n N:Nat) (A:Nat→Nat→Rat) (t:b5) (a8:Nat) (h:Nat→Nat):Prop where
 inv:na m N A t
 z : ∀i,i<m→n≤t.B i→t.T i N=0
 le:a8≤m
 lt : ∀i,i<a8→h i<m
 inj : ∀i,i<a8→ ∀k,k<a8→h i=h k→i=k
 dead : ∀d,d<m→(∀i,i<a8→h i≠d)→n≤t.B d∧ ∀j,j<n→t.T d j=0
theorem mG.pf {m n N a8:Nat}{A:Nat→Nat→Rat}{t:b5}{h:Nat→Nat}(s:Small m N A)(a:mG m n N A t a8 h):nb a8 N (fQ m A t) (hc h t) :=
 have f:=a.inv.pf s
 ⟨f.pos,f.hw,fun i af j av=>f.iD (h i) (a.lt i af) j av,fun i af=>f.hk (h i) (a.lt i af)⟩
theorem mG.rZ {m n N a8:Nat}{A:Nat→Nat→Rat}{t:b5}{h:Nat→Nat}(s:Small m N A)(a:mG m n N A t a8 h){r k:Nat}(ah:r<a8)(aV:k<N)(ae:t.T (h r) k≠0):pS a8 N (fQ m A t) (hc h t) r k :=
 have f:=a.inv.rZ s (a.lt r ah) aV ae
 ⟨ah,aV,ae,fun i af j av=>by
  rw [(vR (t:=t) (k:=k) (a.inj i af r ah)).1 j]
  exact f.uS (h i) (a.lt i af) j av⟩
theorem mG.cg {m n N a8:Nat}{A:Nat→Nat→Rat}{t:b5}{h:Nat→Nat}(Fi:n≤N)(a:mG m n N A t a8 h){r k:Nat}(ah:r<a8)(aV:k<n)(aP:n≤t.B (h r))(ae:t.T (h r) k≠0):mG m n N A (t.cg (h r) k) a8 h:=by
 have b6:=a.z (h r) (a.lt r ah) aP
 have fo : ∀i,(t.cg (h r) k).T i N=t.T i N:=fun i=>by
  simp only [b5.cg]
  split
  ·rename_i e;rw [e,b6];grind
  ·rw [b6];grind
 refine ⟨⟨a.inv.ok.cg (a.lt r ah) (by omega) ae,fun i af=>by rw [fo];exact a.inv.k4 i af,?_⟩,fun i af hk=> ?_,a.le,a.lt,a.inj,fun d bq gr=> ?_⟩
 ·rw [a.inv.ok.wv (a.lt r ah) (by omega)]
  have:=a.inv.sG
  grind
 ·rw [fo]
  simp only [b5.cg] at hk
  by_cases c:i=h r
  ·rw [if_pos c] at hk;omega
  ·rw [if_neg c] at hk;exact a.z i af hk
 ·obtain ⟨o,J⟩:=a.dead d bq gr
  have cf:d≠h r:=fun e=>gr r ah e.symm
  simp only [b5.cg,if_neg cf]
  refine ⟨o,fun j av=> ?_⟩
  rw [J j av,J k aV];grind
theorem PM {m n N:Nat}{A:Nat→Nat→Rat}(s:Small m N A)(fb:N<1000)(Fi:n≤N)(free:List Bool){t:b5}(b1:na m N A t)(b6:∀i,i<m→n≤t.B i→t.T i N=0){dY:List (List ba)}(fP:kN m N m (fun i=>i) (fQ m A t) t dY):
 ∃cJ a8 h ji,vf (n:Int) (bB (fQ m A t)).dj (bB (fQ m A t)).db (N:Int) (fT m N fun i=>i) dY (d7 m t) free=some ((bB (fQ m A cJ)).dj,(bB (fQ m A cJ)).db,fT a8 N h,ji,d7 a8 (hc h cJ)) ∧
  mG m n N A cJ a8 h∧(∀i,i<a8→cJ.B (h i)<n)∧kN a8 N m h (fQ m A cJ) (hc h cJ) ji:=by
 have hm:=s.hm
 unfold vf Bd
 obtain ⟨x,e,cJ,a8,h,ji,rfl,o,J,ao⟩:=lz (f:=fun w:Int×Bool×(List Int)×(List bL)×(List (List ba))×(List Int)=>u7 (n:Int) (N:Int) free w.1 w.2.1 w.2.2.1 w.2.2.2.1 w.2.2.2.2.1 w.2.2.2.2.2)
  (fun w=> ∃(i a8:Nat) (h:Nat→Nat) (t:b5) (p:List (List ba)),w=((i:Int),(bB (fQ m A t)).dj,(bB (fQ m A t)).db,fT a8 N h,p,d7 a8 (hc h t))∧i≤a8∧mG m n N A t a8 h∧(∀q,q<i→t.B (h q)<n)∧kN a8 N m h (fQ m A t) (hc h t) p)
  (fun w=>w.2.2.2.1.length-w.1.toNat)
  (fun x=> ∃cJ a8 h ji,x=((bB (fQ m A cJ)).dj,(bB (fQ m A cJ)).db,fT a8 N h,ji,d7 a8 (hc h cJ))∧mG m n N A cJ a8 h∧(∀i,i<a8→cJ.B (h i)<n)∧kN a8 N m h (fQ m A cJ) (hc h cJ) ji)
  (fun w hw=>by
    obtain ⟨i,a8,h,t,p,rfl,af,bx,a1,ae⟩:=hw
    have jj:=bx.le
    have p1:(fT a8 N h).length=a8:=ee ..
    have Fj:(d7 a8 (hc h t)).length=a8:=ee ..
    simp only
    unfold u7
    by_cases c:i<a8
    ·left
     have g1:0≤(i:Int)∧(i:Int)<((d7 a8 (hc h t)).length:Nat):=by rw [Fj];omega
     have g2:(d7 a8 (hc h t))[(0+((i:Int)).toNat)]? = some ((t.B (h i):Nat):Int):=by rw [Int.toNat_natCast];exact jd c
     by_cases Aj:t.B (h i)<n
     ·refine ⟨(((i+1:Nat):Int),(bB (fQ m A t)).dj,(bB (fQ m A t)).db,fT a8 N h,p,d7 a8 (hc h t)),dM (by rw [p1];omega) (bV g1 (aS g2 (dM (by omega) (by rw [fS (by omega)])))),⟨i+1,a8,h,t,p,rfl,by omega,bx,fun q lj=> ?_,ae⟩,by simp only [p1];omega⟩
      by_cases e:q=i
      ·rw [e];exact Aj
      ·exact a1 q (by omega)
     ·obtain ⟨k,j5,jz,mX,FH⟩:=OB fb Fi (bx.pf s) ae c (bB (fQ m A t)).dj (bB (fQ m A t)).db (N:Int) (d7 a8 (hc h t)) free
      by_cases FL:k<n
      ·have Fk:t.T (h i) k≠0:=mX FL
       obtain ⟨iB,ar,ay⟩:=IX (by omega) fb bx.inj (bx.pf s) (bx.rZ s c (by omega) Fk) ae (N:Int) free
       have q5:mN (fQ m A t) (hc h t) i k=fQ m A (t.cg (h i) k):=DN bx.inv.ok bx.inv.sG (bx.lt i c) (by omega) Fk
       have US:d7 a8 ((hc h t).cg i k)=d7 a8 (hc h (t.cg (h i) k)):=fI fun q lj=>by
        have:=(vR (t:=t) (k:=k) (bx.inj q lj i c)).2
        rw [this]
       rw [q5,US] at ar
       rw [q5] at ay
       refine ⟨(((i+1:Nat):Int),(bB (fQ m A (t.cg (h i) k))).dj,(bB (fQ m A (t.cg (h i) k))).db,fT a8 N h,iB,d7 a8 (hc h (t.cg (h i) k))),dM (by rw [p1];omega) (bV g1 (aS g2 (eb (by omega) (aS j5 (dM (by omega) (aS ar (by rw [fS (by omega)]))))))),⟨i+1,a8,h,t.cg (h i) k,iB,rfl,by omega,bx.cg Fi c FL (by omega) Fk,fun q lj=> ?_,ay.len,fun q lj=> ?_⟩,by simp only [p1];omega⟩
       ·simp only [b5.cg]
        split
        ·exact FL
        ·rename_i cf
         have:q≠i:=fun e=>cf (by rw [e])
         exact a1 q (by omega)
       ·rw [ay.row q lj]
        congr 1
        exact fI fun j _=>by rw [(vR (t:=t) (k:=k) (bx.inj q lj i c)).1 j]
      ·have WT:k=n:=by omega
       have xm:U ((i:Int)+1)=((i+1:Nat):Int):=fS (by omega)
       have z2:(((fT a8 N h).drop (0+(i+1))).take (a8-(i+1))).length=a8-(i+1):=by rw [List.length_take,List.length_drop,p1];omega
       have zS:(((d7 a8 (hc h t)).drop (0+(i+1))).take (a8-(i+1))).length=a8-(i+1):=by rw [List.length_take,List.length_drop,Fj];omega
       have bN:(fT a8 N h).take (i-0)++((fT a8 N h).drop (0+(i+1))).take (a8-(i+1))=fT (a8-1) N (skip i h):=Hw c _
       have df:(d7 a8 (hc h t)).take (i-0)++((d7 a8 (hc h t)).drop (0+(i+1))).take (a8-(i+1))=d7 (a8-1) (hc (skip i h) t):=Hw c _
       refine ⟨((i:Int),(bB (fQ m A t)).dj,(bB (fQ m A t)).db,fT (a8-1) N (skip i h),p,d7 (a8-1) (hc (skip i h) t)),dM (by rw [p1];omega) (bV g1 (aS g2 (eb (by omega) (aS j5 (eb (by omega) ?_))))),⟨i,a8-1,skip i h,t,p,rfl,by omega,⟨bx.inv,bx.z,by omega,fun q lj=> ?_,fun q lj bg zx e=> ?_,fun d bq gr=> ?_⟩,fun q lj=> ?_,ae.len,fun q lj=> ?_⟩,?_⟩
       ·rw [xm,Int.toNat_natCast,Int.toNat_natCast,p1,Fj,z2,zS,bN,df]
        exact bV (by omega) (bV (by omega) (bV (by omega) (bV (by omega) (bV (by omega) (bV (by omega) (bV (by omega) (bV (by omega) (bV (by omega) (bV (by omega) (bV (by omega) (bV (by omega) rfl)))))))))))
       ·simp only [skip];split<;>exact bx.lt _ (by omega)
       ·simp only [skip] at e
        have:=bx.inj _ (by split<;>omega) _ (by split<;>omega) e
        split at this<;>split at this<;>omega
       ·by_cases Lp:d=h i
        ·rw [Lp]
         exact ⟨by omega,fun j av=>FH j (by omega)⟩
        ·refine bx.dead d bq fun q lj=> ?_
         by_cases bH:q<i
         ·have:=gr q (by omega);simp only [skip] at this;rw [if_pos bH] at this;exact this
         ·by_cases cq:q=i
          ·rw [cq];exact fun e=>Lp e.symm
          ·have:=gr (q-1) (by omega);simp only [skip] at this;rw [if_neg (by omega),show q-1+1=q by omega] at this;exact this
       ·simp only [skip];rw [if_pos lj];exact a1 q lj
       ·simp only [skip]
        by_cases bH:q<i
        ·rw [if_pos bH,ae.row q (by omega)];congr 1
         exact fI fun j _=>by simp only [hc,skip];rw [if_pos bH]
        ·rw [if_neg bH,ae.row (q+1) (by omega)];congr 1
         exact fI fun j _=>by simp only [hc,skip];rw [if_neg bH]
       ·simp only [p1,show (fT (a8-1) N (skip i h)).length=a8-1 from ee ..];omega
    ·right
     have T9:i=a8:=by omega
     subst T9
     exact ⟨_,eb (by rw [p1];omega) rfl,t,i,h,p,rfl,bx,a1,ae⟩)
  ((0:Int),(bB (fQ m A t)).dj,(bB (fQ m A t)).db,fT m N (fun i=>i),dY,d7 m t)
  ⟨0,m,fun i=>i,t,dY,rfl,by omega,⟨b1,b6,Nat.le_refl _,fun i af=>af,fun i _ k _ e=>e,fun d bq gr=>(gr d bq rfl).elim⟩,fun q a1=>by omega,fP.len,fP.row⟩
 exact ⟨cJ,a8,h,ji,aS e rfl,o,J,ao⟩
theorem IY:(⟨false,([]:List Int)⟩:ba)=bB 0:=by
 show _=iI (0:Rat).num
 rw [show (0:Rat).num=0 from rfl]
 unfold iI
 rw [show L ((0:Int).natAbs:Int)=[] from wt.2 (by simp)];rfl
theorem Dw {α:Type}(l:List α)(x:α):(l++[x])[l.length]? = some x:=by simp
theorem t9 {α:Type}(l:List α)(x y:α):(l++[x]).set l.length y=l++[y]:=by simp
theorem IZ {p:jt}{m n:Nat}{a:Nat→Nat→Int}{b:Nat→Int}(h:nH p m n a b){i:Nat}(af:i<m):tt p i=some (bs n (a i)):=by
 have:=Rw h af
 unfold CW at this
 unfold tt
 exact this
theorem Oc {p:jt}{m n:Nat}{a:Nat→Nat→Int}{b:Nat→Int}(h:nH p m n a b){i:Nat}(af:i<m)(aP:b i<0)(x0:Int)(jr:Bool)(fh:List Int)(bg:List bL)(cS:List Int)(eB:List Bool)(P:List (List ba)):
 yc p.fW p.en p.e1 p.fH p.kk x0 (i:Int) P.length (n+m+1) (bs n (a i)) (len_ R (bs n (a i))) jr fh bg cS eB 0 (P++[bs (n+m+1) fun _=>bB 0])=some (P++[bs (n+m+1) fun j=>if j<n then bB (dR m n a b i j) else bB 0]):=by
 have hm:=h.hm
 have a5:=h.a5
 have bT:kt (b i) = -1:=by unfold kt;rw [if_pos aP]
 unfold yc
 rw [iQ,ee]
 obtain ⟨s1,ar,-⟩:=jc (f:=fun w:Int×List (List ba)=>te p.fW p.en p.e1 p.fH p.kk x0 (i:Int) P.length (n+m+1) (bs n (a i)) ((n:Nat):Int) jr fh bg cS eB w.1 w.2)
  (fun (k:Nat) (_:Unit)=>((k:Int),P++[bs (n+m+1) fun j=>if j<k then bB (dR m n a b i j) else bB 0])) n (fun _ _=>True) (fun _=>P++[bs (n+m+1) fun j=>if j<n then bB (dR m n a b i j) else bB 0])
  (fun k aV _ _=>by
    refine ⟨(),?_,trivial⟩
    have bx:=h.xE i af k aV
    have e:U ((-1:Int)*a i k)=lY m n a b i k:=by
     rw [cN (by omega) (by omega)];unfold lY;rw [if_pos aV,bT]
    unfold te
    refine dM (by simp only;omega) (bV (by rw [ee];simp only;omega) (aS (x:=a i k) (by simp only;rw [Int.toNat_natCast];exact hM aV) (aS (x:=bB (dR m n a b i k)) (by rw [e];exact pB (by have:=wy h af k;rw [pE];omega)) (aS (Dw _ _) (bV (by simp only;omega) (aS (by simp only;rw [Int.toNat_natCast];exact jd (by omega)) ?_))))))
    simp only
    rw [fS (by omega),Int.toNat_natCast,Nat.zero_add,l3,t9]
    congr 5
    refine fI fun j _=> ?_
    by_cases bH:j=k
    ·subst bH;rw [if_pos rfl,if_pos (by omega)]
    ·rw [if_neg bH]
     by_cases cq:j<k
     ·rw [if_pos cq,if_pos (by omega)]
     ·rw [if_neg cq,if_neg (by omega)])
  (fun _ _=>by unfold te;exact eb (by simp) rfl) () trivial
 have e0:(bs (n+m+1) fun j=>if j<0 then bB (dR m n a b i j) else bB 0)=bs (n+m+1) fun _=>bB 0:=fI fun j _=>by rw [if_neg (by omega)]
 rw [e0] at ar
 exact ar
theorem Od {p:jt}{m n:Nat}{a:Nat→Nat→Int}{b:Nat→Int}(h:nH p m n a b){i:Nat}(af:i<m)(aP:¬b i<0)(x0:Int)(jr:Bool)(fh:List Int)(bg:List bL)(cS:List Int)(eB:List Bool)(P:List (List ba)):
 yd p.fW p.en p.e1 p.fH p.kk x0 (i:Int) P.length (n+m+1) (bs n (a i)) (len_ R (bs n (a i))) jr fh bg cS eB 0 (P++[bs (n+m+1) fun _=>bB 0])=some (P++[bs (n+m+1) fun j=>if j<n then bB (dR m n a b i j) else bB 0]):=by
 have hm:=h.hm
 have a5:=h.a5
 have bT:kt (b i)=1:=by unfold kt;rw [if_neg aP]
 unfold yd
 rw [iQ,ee]
 obtain ⟨s1,ar,-⟩:=jc (f:=fun w:Int×List (List ba)=>tf p.fW p.en p.e1 p.fH p.kk x0 (i:Int) P.length (n+m+1) (bs n (a i)) ((n:Nat):Int) jr fh bg cS eB w.1 w.2)
  (fun (k:Nat) (_:Unit)=>((k:Int),P++[bs (n+m+1) fun j=>if j<k then bB (dR m n a b i j) else bB 0])) n (fun _ _=>True) (fun _=>P++[bs (n+m+1) fun j=>if j<n then bB (dR m n a b i j) else bB 0])
  (fun k aV _ _=>by
    refine ⟨(),?_,trivial⟩
    have bx:=h.xE i af k aV
    have e:U ((1:Int)*a i k)=lY m n a b i k:=by
     rw [cN (by omega) (by omega)];unfold lY;rw [if_pos aV,bT]
    unfold tf
    refine dM (by simp only;omega) (bV (by rw [ee];simp only;omega) (aS (x:=a i k) (by simp only;rw [Int.toNat_natCast];exact hM aV) (aS (x:=bB (dR m n a b i k)) (by rw [e];exact pB (by have:=wy h af k;rw [pE];omega)) (aS (Dw _ _) (bV (by simp only;omega) (aS (by simp only;rw [Int.toNat_natCast];exact jd (by omega)) ?_))))))
    simp only
    rw [fS (by omega),Int.toNat_natCast,Nat.zero_add,l3,t9]
    congr 5
    refine fI fun j _=> ?_
    by_cases bH:j=k
    ·subst bH;rw [if_pos rfl,if_pos (by omega)]
    ·rw [if_neg bH]
     by_cases cq:j<k
     ·rw [if_pos cq,if_pos (by omega)]
     ·rw [if_neg cq,if_neg (by omega)])
  (fun _ _=>by unfold tf;exact eb (by simp) rfl) () trivial
 have e0:(bs (n+m+1) fun j=>if j<0 then bB (dR m n a b i j) else bB 0)=bs (n+m+1) fun _=>bB 0:=fI fun j _=>by rw [if_neg (by omega)]
 rw [e0] at ar
 exact ar
theorem oy {α:Type}(n:Nat)(x:α):List.replicate n x=bs n fun _=>x:=by
 apply List.ext_getElem?
 intro i
 by_cases c:i<n
 ·rw [hM c];simp [c]
 ·rw [List.getElem?_eq_none_iff.2 (by simp;omega),List.getElem?_eq_none_iff.2 (by rw [ee];omega)]
theorem GY {p:jt}{m n:Nat}{a:Nat→Nat→Int}{b:Nat→Int}(h:nH p m n a b)(jr:Bool)(fh:List Int)(eB:List Bool):
 ye p.fW p.en p.e1 p.fH p.kk ((n+m:Nat):Int) jr fh eB 0 ([]:List bL) ([]:List (List ba)) ([]:List Int)=some (fT m (n+m) (fun i=>i),bs m (fun i=>bs (n+m+1) fun j=>bB (dR m n a b i j)),d7 m (mK m n a b)):=by
 have hm:=h.hm
 have a5:=h.a5
 unfold ye
 obtain ⟨s,e,-⟩:=jc (f:=fun w:Int×(List bL)×(List (List ba))×(List Int)=>tg p.fW p.en p.e1 p.fH p.kk ((n+m:Nat):Int) jr fh eB w.1 w.2.1 w.2.2.1 w.2.2.2)
  (fun (i:Nat) (_:Unit)=>((i:Int),bs i (fun k=>(some (k,n+m+1):bL)),bs i (fun i=>bs (n+m+1) fun j=>bB (dR m n a b i j)),bs i (fun k=>((n+k:Nat):Int)))) m (fun _ _=>True)
  (fun _=>(fT m (n+m) (fun i=>i),bs m (fun i=>bs (n+m+1) fun j=>bB (dR m n a b i j)),d7 m (mK m n a b)))
  (fun i af _ _=>by
    refine ⟨(),?_,trivial⟩
    have aP:=h.Ah i af
    have k5:U (((n+m:Nat):Int)+1)=((n+m+1:Nat):Int):=fS (by omega)
    have hw:U (p.en+(i:Int))=((n+i:Nat):Int):=by rw [h.gV,← Int.natCast_add,cN (by omega) (by omega)]
    have K5:(bs i (fun i=>bs (n+m+1) fun j=>bB (dR m n a b i j))).length=i:=ee ..
    have po:lY m n a b i (n+m)=kt (b i)*b i:=by unfold lY;rw [if_neg (by omega),if_pos rfl]
    have cE:((bs (n+m+1) fun j=>if j<n then bB (dR m n a b i j) else bB 0).set (n+i) (bB ((1:Int):Rat))).set (n+m) (bB (dR m n a b i (n+m)))=bs (n+m+1) fun j=>bB (dR m n a b i j):=by
     rw [l3,l3]
     refine fI fun j av=> ?_
     by_cases bH:j=n+m
     ·rw [if_pos bH,bH]
     ·rw [if_neg bH]
      by_cases cq:j=n+i
      ·rw [if_pos cq,cq,rN af,if_pos rfl];rfl
      ·rw [if_neg cq]
       by_cases mj:j<n
       ·rw [if_pos mj]
       ·rw [if_neg mj]
        obtain ⟨k,rfl⟩ : ∃k,j=n+k:=⟨j-n,by omega⟩
        rw [rN (by omega),if_neg (by omega)]
    unfold tg
    rw [k5,hw,Int.toNat_natCast]
    refine dM (by simp only;rw [h.rows];omega) (bV (by omega) (bV (by simp only;rw [h.Lm];omega) (aS (x:=b i) (by first|exact h.zw i af|(rw [Int.toNat_natCast];exact h.zw i af)|(simp only;rw [Int.toNat_natCast];exact h.zw i af)) ?_)))
    have fin:(some (Sum.inl (U ((i:Int)+1),(bs i (fun k=>(some (k,n+m+1):bL)))++[some (i,n+m+1)],(bs i (fun i=>bs (n+m+1) fun j=>bB (dR m n a b i j)))++[bs (n+m+1) fun j=>bB (dR m n a b i j)],(bs i fun k=>((n+k:Nat):Int))++[((n+i:Nat):Int)])):Option ((Int×(List bL)×(List (List ba))×(List Int))⊕((List bL)×(List (List ba))×(List Int)))) =
     some (Sum.inl (((i+1:Nat):Int),bs (i+1) (fun k=>(some (k,n+m+1):bL)),bs (i+1) (fun i=>bs (n+m+1) fun j=>bB (dR m n a b i j)),bs (i+1) (fun k=>((n+k:Nat):Int)))):=by
     rw [fS (by omega),vP i (fun k=>(some (k,n+m+1):bL)),vP i (fun i=>bs (n+m+1) fun j=>bB (dR m n a b i j)),vP i (fun k=>((n+k:Nat):Int))]
    have aa : ∀(P:List (List ba)) (F:List ba→Option ((Int×(List bL)×(List (List ba))×(List Int))⊕((List bL)×(List (List ba))×(List Int)))) (x:List ba) r,F x=r→(P++[x])[P.length]? >>= F=r:=fun P F x r xv=>aS (Dw P x) xv
    refine xw (fun c=> ?_) (fun c=> ?_)
    ·have n2:b i<0:=of_decide_eq_true c
     have bT:kt (b i) = -1:=by unfold kt;rw [if_pos n2]
     refine aS (IZ h af) (aS (by rw [IY,oy];exact Oc h af n2 _ _ _ _ _ _ _) (aS (pB (n:=1) (by rw [pE];omega)) (aa _ _ _ _ ?_)))
     refine bV (by omega) (aS (x:=bB 0) (by rw [Int.toNat_natCast,jd (by omega),if_neg (by omega)]) (aS (x:=bB (dR m n a b i (n+m))) (by
      have e:U ((-1:Int)*b i)=lY m n a b i (n+m):=by rw [po,bT,cN (by omega) (by omega)]
      rw [e];exact pB (by have:=wy h af (n+m);rw [pE];omega)) ?_))
     rw [t9,Int.toNat_natCast,Nat.zero_add,Int.toNat_natCast,Nat.zero_add]
     refine aa _ _ _ _ (bV (by omega) ?_)
     obtain ⟨v,aX⟩ : ∃v,((bs (n+m+1) fun j=>if j<n then bB (dR m n a b i j) else bB 0).set (n+i) (bB ((1:Int):Rat)))[n+m]? = some v:=by
      rw [l3,hM (by omega)];exact ⟨_,rfl⟩
     refine aS aX (bV (by simp only [List.length_append,ee,List.length_cons,List.length_nil];omega) (bV (by simp only [List.length_append,ee,List.length_cons,List.length_nil];omega) ?_))
     rw [t9]
     simp only [Int.toNat_natCast,Nat.zero_add]
     rw [cE,K5]
     exact fin
    ·have n2 : ¬b i<0:=of_decide_eq_false c
     have bT:kt (b i)=1:=by unfold kt;rw [if_neg n2]
     refine aS (IZ h af) (aS (by rw [IY,oy];exact Od h af n2 _ _ _ _ _ _ _) (aS (pB (n:=1) (by rw [pE];omega)) (aa _ _ _ _ ?_)))
     refine bV (by omega) (aS (x:=bB 0) (by rw [Int.toNat_natCast,jd (by omega),if_neg (by omega)]) (aS (x:=bB (dR m n a b i (n+m))) (by
      have e:U ((1:Int)*b i)=lY m n a b i (n+m):=by rw [po,bT,cN (by omega) (by omega)]
      rw [e];exact pB (by have:=wy h af (n+m);rw [pE];omega)) ?_))
     rw [t9,Int.toNat_natCast,Nat.zero_add,Int.toNat_natCast,Nat.zero_add]
     refine aa _ _ _ _ (bV (by omega) ?_)
     obtain ⟨v,aX⟩ : ∃v,((bs (n+m+1) fun j=>if j<n then bB (dR m n a b i j) else bB 0).set (n+i) (bB ((1:Int):Rat)))[n+m]? = some v:=by
      rw [l3,hM (by omega)];exact ⟨_,rfl⟩
     refine aS aX (bV (by simp only [List.length_append,ee,List.length_cons,List.length_nil];omega) (bV (by simp only [List.length_append,ee,List.length_cons,List.length_nil];omega) ?_))
     rw [t9]
     simp only [Int.toNat_natCast,Nat.zero_add]
     rw [cE,K5]
     exact fin)
  (fun _ _=>by unfold tg;exact eb (by simp only;rw [h.rows];omega) rfl) () trivial
 exact e
def nM (n j:Nat):Int:=if n≤j then -1 else 0
theorem Jq {m n j:Nat}(av:j<n+m):((nM n j:Int):Rat)=gE m n j:=by
 unfold nM gE
 by_cases c:n≤j
 ·rw [if_pos c,if_pos ⟨c,av⟩];rfl
 ·rw [if_neg c,if_neg (by omega)];rfl
theorem I0 {m n:Nat}{t:b5}(hk:∀i,i<m→t.B i<n+m){j:Nat}(av:j<n+m):t.cH m (fun j=>((nM n j:Int):Rat)) j=t.cH m (gE m n) j:=by
 unfold b5.cH
 simp only
 rw [Jq av,fr (g:=fun i=>gE m n (t.B i)*t.T i j) fun i af=>by rw [Jq (hk i af)]]
theorem Hb {p:jt}{m n:Nat}{a:Nat→Nat→Int}{b:Nat→Int}(h:nH p m n a b)(x0:Int)(jr:Bool)(fh:List Int)(bg:List bL)(ck:List (List ba))(cS:List Int):
 yf p.fW p.en p.e1 p.fH p.kk x0 ((n+m:Nat):Int) jr fh bg ck cS 0 (bs (n+m) fun _=>(0:Int)) (bs (n+m) fun _=>false)=some (bs (n+m) (nM n),bs (n+m) fun j=>decide (j<n)):=by
 have hm:=h.hm
 have a5:=h.a5
 unfold yf
 obtain ⟨s,e,-⟩:=jc (f:=fun w:Int×List Int×List Bool=>th p.fW p.en p.e1 p.fH p.kk x0 ((n+m:Nat):Int) jr fh bg ck cS w.1 w.2.1 w.2.2)
  (fun (k:Nat) (_:Unit)=>((k:Int),(bs (n+m) fun j=>if j<k then nM n j else 0),bs (n+m) fun j=>if j<k then decide (j<n) else false)) (n+m) (fun _ _=>True) (fun _=>(bs (n+m) (nM n),bs (n+m) fun j=>decide (j<n)))
  (fun k aV _ _=>by
    refine ⟨(),?_,trivial⟩
    have ay:(bs (n+m) fun j=>if j<k then decide (j<n) else false).set (0+((k:Int)).toNat) (decide (k<n))=bs (n+m) fun j=>if j<k+1 then decide (j<n) else false:=by
     rw [Int.toNat_natCast,Nat.zero_add,l3]
     refine fI fun j _=> ?_
     by_cases c:j=k
     ·subst c;rw [if_pos rfl,if_pos (by omega)]
     ·rw [if_neg c]
      by_cases cq:j<k
      ·rw [if_pos cq,if_pos (by omega)]
      ·rw [if_neg cq,if_neg (by omega)]
    have FM:decide ((k:Int)<p.en)=decide (k<n):=by rw [h.gV];simp
    unfold th
    simp only
    rw [FM,ay,fS (by omega)]
    refine dM (by omega) (bV (by rw [ee];omega) (bV (by rw [ee,Int.toNat_natCast];omega) ?_))
    by_cases c:n≤k
    ·refine dM (by rw [h.gV];omega) (bV (by rw [ee];omega) (bV (by rw [ee,Int.toNat_natCast];omega) ?_))
     rw [Int.toNat_natCast,Nat.zero_add,l3]
     congr 4
     refine fI fun j _=> ?_
     by_cases bH:j=k
     ·subst bH;rw [if_pos rfl,if_pos (by omega)];unfold nM;rw [if_pos c]
     ·rw [if_neg bH]
      by_cases cq:j<k
      ·rw [if_pos cq,if_pos (by omega)]
      ·rw [if_neg cq,if_neg (by omega)]
    ·refine eb (by rw [h.gV];omega) ?_
     congr 4
     refine fI fun j _=> ?_
     by_cases bH:j=k
     ·subst bH;rw [if_neg (by omega),if_pos (by omega)];unfold nM;rw [if_neg c]
     ·by_cases cq:j<k
      ·rw [if_pos cq,if_pos (by omega)]
      ·rw [if_neg cq,if_neg (by omega)])
  (fun _ _=>by
    unfold th
    refine eb (by simp) ?_
    simp only
    congr 3
    ·exact fI fun j av=>by rw [if_pos av]
    ·exact fI fun j av=>by rw [if_pos av]) () trivial
 have mY:(bs (n+m) fun j=>if j<0 then nM n j else 0)=bs (n+m) fun _=>(0:Int):=fI fun j _=>by rw [if_neg (by omega)]
 have q6:(bs (n+m) fun j=>if j<0 then decide (j<n) else false)=bs (n+m) fun _=>false:=fI fun j _=>by rw [if_neg (by omega)]
 rw [mY,q6] at e
 exact e
theorem Oe {p:jt}{m n:Nat}{a:Nat→Nat→Int}{b:Nat→Int}(h:nH p m n a b){w:Rat}{t:b5}(f:nb m (n+m) w t){dY:List (List ba)}(fP:kN m (n+m) m (fun i=>i) w t dY)(jr:Bool)(fh:List Int)(x0:Int)(q:List Bool):
 ∃r,yg p.fW p.en p.e1 p.fH p.kk ((n+m:Nat):Int) ((m:Nat):Int) jr fh x0 (d7 m t) (fT m (n+m) fun i=>i) dY q 0=some r∧((r = .inr ()∧ ∃i,i<m∧n≤t.B i∧0<t.T i (n+m))∨(r = .inl ()∧ ∀i,i<m→n≤t.B i→ ¬0<t.T i (n+m))):=by
 have hm:=h.hm
 have a5:=h.a5
 have hw:=f.pos
 unfold yg
 exact qn (f:=fun w:Int=>ti p.fW p.en p.e1 p.fH p.kk ((n+m:Nat):Int) ((m:Nat):Int) jr fh x0 (d7 m t) (fT m (n+m) fun i=>i) dY q w) (fun (i:Nat) (_:Unit)=>(i:Int)) m (fun k _=> ∀i,i<k→n≤t.B i→ ¬0<t.T i (n+m)) _
  (fun i af _ cZ=>by
    have bT:=qt ((f.iD i af (n+m) (Nat.le_refl _)).mono (pR (by have:=pb;generalize gR=q at *;omega)))
    have g1:0≤(i:Int)∧(i:Int)<((d7 m t).length:Nat):=by unfold d7;rw [ee];omega
    have g2:(d7 m t)[(0+((i:Int)).toNat)]? = some ((t.B i:Nat):Int):=by rw [Int.toNat_natCast];exact jd af
    have g3:0≤(i:Int)∧(i:Int)<((fT m (n+m) fun i=>i).length:Nat):=by unfold fT;rw [ee];omega
    have g4:(fT m (n+m) fun i=>i)[(0+((i:Int)).toNat)]? = some (some (i,n+m+1)):=by rw [Int.toNat_natCast];exact jd af
    unfold ti
    by_cases Aj:n≤t.B i
    ·by_cases iL:0<t.T i (n+m)
     ·right
      exact ⟨_,dM (by omega) (bV g1 (aS g2 (dM (by rw [h.gV];omega) (bV g3 (aS g4 (aS (x:=(i,n+m+1)) rfl (aS (fP.row i af) (bV (by simp only;omega) (aS (x:=bB (t.T i (n+m)*w)) (by rw [Int.toNat_natCast];exact jd (by omega)) (aS bT (dM (by rw [t8 hw];exact qs.2 iL) rfl))))))))))),.inl ⟨rfl,i,af,Aj,iL⟩⟩
     ·left
      refine ⟨(),dM (by omega) (bV g1 (aS g2 (dM (by rw [h.gV];omega) (bV g3 (aS g4 (aS (x:=(i,n+m+1)) rfl (aS (fP.row i af) (bV (by simp only;omega) (aS (x:=bB (t.T i (n+m)*w)) (by rw [Int.toNat_natCast];exact jd (by omega)) (aS bT (eb (by rw [t8 hw];exact fun c=>iL (qs.1 c)) (by rw [fS (by omega)])))))))))))),fun k aV=> ?_⟩
      by_cases e:k=i
      ·rw [e];exact fun _=>iL
      ·exact cZ k (by omega)
    ·left
     refine ⟨(),dM (by omega) (bV g1 (aS g2 (eb (by rw [h.gV];omega) (by rw [fS (by omega)])))),fun k aV=> ?_⟩
     by_cases e:k=i
     ·rw [e];exact fun c=>(Aj c).elim
     ·exact cZ k (by omega))
  (fun _ cZ=>⟨_,by unfold ti;exact eb (by omega) rfl,.inr ⟨rfl,cZ⟩⟩) () (fun k aV=>by omega)
theorem Of {p:jt}{m n:Nat}{a:Nat→Nat→Int}{b:Nat→Int}(h:nH p m n a b)(F:Nat→Bool)(jr:Bool)(fh:List Int)(x0:Int)(bg:List bL)(ck:List (List ba))(cS:List Int):
 yh p.fW p.en p.e1 p.fH p.kk ((n+m:Nat):Int) jr fh x0 bg ck cS 0 (bs (n+m) F)=some (bs (n+m) fun j=>decide (j<n)):=by
 have hm:=h.hm
 have a5:=h.a5
 unfold yh
 obtain ⟨s,e,-⟩:=jc (f:=fun w:Int×List Bool=>tj p.fW p.en p.e1 p.fH p.kk ((n+m:Nat):Int) jr fh x0 bg ck cS w.1 w.2)
  (fun (k:Nat) (_:Unit)=>((k:Int),bs (n+m) fun j=>if j<k then decide (j<n) else F j)) (n+m) (fun _ _=>True) (fun _=>bs (n+m) fun j=>decide (j<n))
  (fun k aV _ _=>by
    refine ⟨(),?_,trivial⟩
    have FM:decide ((k:Int)<p.en)=decide (k<n):=by rw [h.gV];simp
    unfold tj
    simp only
    rw [FM,fS (by omega)]
    refine dM (by omega) (bV (by rw [ee];omega) (bV (by rw [ee,Int.toNat_natCast];omega) ?_))
    rw [Int.toNat_natCast,Nat.zero_add,l3]
    congr 3
    refine fI fun j _=> ?_
    by_cases c:j=k
    ·subst c;rw [if_pos rfl,if_pos (by omega)]
    ·rw [if_neg c]
     by_cases cq:j<k
     ·rw [if_pos cq,if_pos (by omega)]
     ·rw [if_neg cq,if_neg (by omega)])
  (fun _ _=>by
    unfold tj
    refine eb (by simp) ?_
    simp only
    congr 2
    exact fI fun j av=>by rw [if_pos av]) () trivial
 have mY:(bs (n+m) fun j=>if j<0 then decide (j<n) else F j)=bs (n+m) F:=fI fun j _=>by rw [if_neg (by omega)]
 rw [mY] at e
 exact e
theorem K6 {m n:Nat}{a:Nat→Nat→Int}{b:Nat→Int}:fQ m (dR m n a b) (mK m n a b)=1:=by
 unfold fQ;rw [Jl,if_pos (by grind)]
theorem QB {p:jt}{m n:Nat}{a:Nat→Nat→Int}{b:Nat→Int}(h:nH p m n a b):
 ∃r,vu p=some r∧((oI m n a b∧ ∃t a8 g dY,r = .inl ((bB (fQ m (dR m n a b) t)).dj,(bB (fQ m (dR m n a b) t)).db,((n+m:Nat):Int),fT a8 (n+m) g,d7 a8 (hc g t),bs (n+m) (fun j=>decide (j<n)),dY) ∧
  mG m n (n+m) (dR m n a b) t a8 g∧(∀i,i<a8→t.B (g i)<n)∧kN a8 (n+m) m g (fQ m (dR m n a b) t) (hc g t) dY)∨(¬oI m n a b∧r = .inr ())):=by
 have hm:=h.hm
 have a5:=h.a5
 have q7:=PL h
 have fb:U (p.en+p.fW)=((n+m:Nat):Int):=by rw [h.gV,h.rows,← Int.natCast_add,cN (by omega) (by omega)]
 have Ua:kN m (n+m) m (fun i=>i) (fQ m (dR m n a b) (mK m n a b)) (mK m n a b) (bs m (fun i=>bs (n+m+1) fun j=>bB (dR m n a b i j))):=⟨ee ..,fun i af=>by
  rw [hM af,K6]
  congr 1
  exact fI fun j _=>by
   show bB (dR m n a b i j)=bB (dR m n a b i j*1)
   congr 1;grind⟩
 obtain ⟨q,bm,t,dY,mQ,e,⟨cZ,rfl⟩,fP,dz⟩:=OA (fG:=m) (m:=m) (N:=n+m) (M:=m) (A:=dR m n a b) hm (by omega) (h:=fun i=>i) (fun i _ k _ e=>e) (nM n) (fun j _=>by unfold nM;split<;>omega) (fun j=>decide (j<n))
  (fun w t=>na m (n+m) (dR m n a b) t∧w=fQ m (dR m n a b) t) (fun w t cZ=>⟨cZ.1.ok,cZ.1.k4,cZ.2▸cZ.1.pf q7⟩)
  (fun w t r s cZ b=>by
    obtain ⟨o,rfl⟩:=cZ
    have ae:t.T r s≠0:=by have:=b.pos;grind
    exact ⟨o.rZ q7 b.ah b.bT ae,o.fO b,DN o.ok o.sG b.ah b.bT ae⟩)
  (w:=fQ m (dR m n a b) (mK m n a b)) (t:=mK m n a b) ⟨⟨QW,Pq,Qm⟩,rfl⟩ Ua
 rw [K6] at e
 have SL : ∀j,j<n→t.cH m (gE m n) j≤0:=by
  rcases dz with ⟨-,dz,-⟩|⟨-,s,bT,-,dd,gr⟩
  ·intro j av
   have:=dz j (by omega) (by simpa using av)
   rw [I0 cZ.ok.jK (by omega)] at this
   grind
  ·rw [I0 cZ.ok.jK bT] at dd
   obtain ⟨i,af,ae⟩:=N7 cZ.ok bT dd
   exact (gr i af ae).elim
 have ar:mr 1=some (bB 1):=by
  have:=pB (n:=1) (by rw [pE];omega)
  rw [show ((1:Int):Rat)=1 from rfl] at this
  exact this
 obtain ⟨r,ax,bJ⟩:=Oe h (cZ.pf q7) fP (bB (fQ m (dR m n a b) t)).dj (bB (fQ m (dR m n a b) t)).db ((n+m:Nat):Int) (bs (n+m) mQ)
 unfold vu
 rw [fb]
 rcases bJ with ⟨rfl,i,af,hk,iD⟩|⟨rfl,gr⟩
 ·have wW : ¬oI m n a b:=fun bT=>by
   have:=Ow cZ.k4 (OV cZ.ok cZ.k4 SL bT) cZ.ok.jK i af hk
   grind
  refine ⟨_,aS ar (bV (by omega) (aS (GY h _ _ _) (bV (by omega) (aS (x:=(bs (n+m) (nM n),bs (n+m) fun j=>decide (j<n))) (by rw [Int.toNat_natCast,oy,oy];exact Hb h _ _ _ _ _ _) (aS e ?_))))),.inr ⟨wW,rfl⟩⟩
  refine aS (x:= .inr ()) ?_ rfl
  simp only
  rw [show ((d7 m t).length:Nat)=m from ee ..]
  exact ax
 ·have b6 : ∀i,i<m→n≤t.B i→t.T i (n+m)=0:=fun i af hk=>by
   have o:=gr i af hk
   have J:=cZ.k4 i af
   grind
  have bT:oI m n a b:=Ov cZ.ok cZ.k4 b6
  obtain ⟨cJ,a8,g,ji,lV,od,FD,ic⟩:=PM (n:=n) q7 (by omega) (by omega) (bs (n+m) fun j=>decide (j<n)) cZ b6 fP
  refine ⟨_,aS ar (bV (by omega) (aS (GY h _ _ _) (bV (by omega) (aS (x:=(bs (n+m) (nM n),bs (n+m) fun j=>decide (j<n))) (by rw [Int.toNat_natCast,oy,oy];exact Hb h _ _ _ _ _ _) (aS e ?_))))),.inl ⟨bT,cJ,a8,g,ji,rfl,od,FD,ic⟩⟩
  refine aS (x:= .inl ()) ?_ ?_
  ·simp only
   rw [show ((d7 m t).length:Nat)=m from ee ..]
   exact ax
  ·simp only
   rw [show ((bs (n+m) mQ).length:Nat)=n+m from ee ..]
   refine aS (Of h mQ _ _ _ _ _ _) ?_
   rw [h.gV]
   exact aS lV rfl
structure mV (m:Nat) (u v:b5):Prop where
 T : ∀i,i<m→ ∀j,u.T i j=v.T i j
 B : ∀i,i<m→u.B i=v.B i
theorem mV.pf {m N:Nat}{w:Rat}{u v:b5}(s:mV m u v)(h:nb m N w v):nb m N w u :=
 ⟨h.pos,h.hw,fun i af j av=>by rw [s.T i af];exact h.iD i af j av,fun i af=>by rw [s.B i af];exact h.hk i af⟩
theorem mV.cg {m:Nat}{u v:b5}(s:mV m u v){r:Nat}(ah:r<m)(k:Nat):mV m (u.cg r k) (v.cg r k) where
 T:=fun i af j=>by simp only [b5.cg,s.T i af,s.T r ah]
 B:=fun i af=>by simp only [b5.cg,s.B i af]
theorem mV.rZ {m N:Nat}{w:Rat}{u v:b5}(s:mV m u v){r k:Nat}(h:pS m N w v r k):pS m N w u r k :=
 ⟨h.ah,h.aV,by rw [s.T r h.ah];exact h.ae,fun i af j av=>by rw [(s.cg h.ah k).T i af,s.T r h.ah];exact h.uS i af j av⟩
theorem mV.trans {m:Nat}{u v t:b5}(a:mV m u v)(b:mV m v t):mV m u t:=⟨fun i af j=>(a.T i af j).trans (b.T i af j),fun i af=>(a.B i af).trans (b.B i af)⟩
theorem Q1 {a8:Nat}{g:Nat→Nat}(inj:∀i,i<a8→ ∀k,k<a8→g i=g k→i=k)(t:b5){r:Nat}(ah:r<a8)(k:Nat):mV a8 ((hc g t).cg r k) (hc g (t.cg (g r) k)) :=
 ⟨fun i af j=>(vR (t:=t) (k:=k) (inj i af r ah)).1 j,fun i af=>(vR (t:=t) (k:=k) (inj i af r ah)).2⟩
theorem mG.step {m n:Nat}{a:Nat→Nat→Int}{b:Nat→Int}{t:b5}{a8:Nat}{g:Nat→Nat}{K:Nat}{obj:Nat→Nat→Rat}{bC:Nat→Prop}(h:mG m n (n+m) (dR m n a b) t a8 g)(hk:∀i,i<a8→t.B (g i)<n){u:b5}(bT:mV a8 u (hc g t)){r s:Nat}(cm:m6 a8 (n+m) K obj bC u r s)(sj:s<n):
 mG m n (n+m) (dR m n a b) (t.cg (g r) s) a8 g∧(∀i,i<a8→(t.cg (g r) s).B (g i)<n)∧mV a8 (u.cg r s) (hc g (t.cg (g r) s)):=by
 have ah:=cm.ah
 have ae:0<t.T (g r) s:=by have:=cm.pos;rw [bT.T r ah] at this;exact this
 have Ub:t.T (g r) s≠0:=by grind
 have J9:=(bT.cg ah s).trans (Q1 h.inj t ah s)
 have Ak : ∀d,d<m→(∀i,i<a8→g i≠d)→ ∀j,(t.cg (g r) s).T d j=t.T d j∧(t.cg (g r) s).B d=t.B d:=fun d bq gr j=>by
  obtain ⟨uV,pq⟩:=h.dead d bq gr
  simp only [b5.cg]
  rw [if_neg fun e=>gr r ah e.symm,if_neg fun e=>gr r ah e.symm,pq s sj]
  exact ⟨by grind,rfl⟩
 have n4 : ∀i,i<a8→(t.cg (g r) s).B (g i)<n:=fun i af=>by
  simp only [b5.cg]
  split
  ·exact sj
  ·exact hk i af
 have Uc:(u.cg r s).jv a8 (n+m):=cm.wS fun i af=>by rw [bT.T i af];exact h.inv.k4 _ (h.lt i af)
 refine ⟨⟨⟨h.inv.ok.cg (h.lt r ah) (by omega) Ub,fun i af=> ?_,?_⟩,fun i af a5=> ?_,h.le,h.lt,h.inj,fun d bq gr=> ?_⟩,n4,J9⟩
 ·by_cases bC : ∃q,q<a8∧g q=i
  ·obtain ⟨q,a1,rfl⟩:=bC
   have:=Uc q a1
   rw [J9.T q a1] at this;exact this
  ·rw [(Ak i af (fun q a1 e=>bC ⟨q,a1,e⟩) _).1];exact h.inv.k4 i af
 ·rw [h.inv.ok.wv (h.lt r ah) (by omega)]
  have:=h.inv.sG
  grind
 ·by_cases bC : ∃q,q<a8∧g q=i
  ·obtain ⟨q,a1,rfl⟩:=bC
   have:=n4 q a1;omega
  ·have gr : ∀q,q<a8→g q≠i:=fun q a1 e=>bC ⟨q,a1,e⟩
   obtain ⟨ar,ay⟩:=Ak i af gr (n+m)
   rw [ar]
   rw [ay] at a5
   exact h.z i af a5
 ·obtain ⟨uV,pq⟩:=h.dead d bq gr
  refine ⟨by rw [(Ak d bq gr 0).2];exact uV,fun j av=>by rw [(Ak d bq gr j).1];exact pq j av⟩
structure xn (m n:Nat) (a:Nat→Nat→Int) (b:Nat→Int) (a8:Nat) (g:Nat→Nat) (jP:Nat→Nat→Rat) (dB:Nat→Bool) (w:Rat) (u:b5):Prop where
 bC : ∃t,mG m n (n+m) (dR m n a b) t a8 g∧(∀i,i<a8→t.B (g i)<n)∧mV a8 u (hc g t)∧w=fQ m (dR m n a b) t
 lt:LT m n a b a8 (n+m) u
 ok:e3 a8 a8 (n+m) jP u
 UT : ∀i,i<a8→dB (u.B i)=true
theorem xn.pf {m n:Nat}{a:Nat→Nat→Int}{b:Nat→Int}{a8:Nat}{g:Nat→Nat}{jP:Nat→Nat→Rat}{dB:Nat→Bool}{w:Rat}{u:b5}(q7:Small m (n+m) (dR m n a b))(h:xn m n a b a8 g jP dB w u):nb a8 (n+m) w u:=by
 obtain ⟨t,o,J,ao,rfl⟩:=h.bC
 exact ao.pf (o.pf q7)
theorem xn.fO {m n:Nat}{a:Nat→Nat→Int}{b:Nat→Int}{a8:Nat}{g:Nat→Nat}{jP:Nat→Nat→Rat}{dB mQ:Nat→Bool}{w:Rat}{u:b5}{obj:Nat→Nat→Rat}{K:Nat}(q7:Small m (n+m) (dR m n a b))(h:xn m n a b a8 g jP mQ w u)(sn:∀j,j<n+m→dB j=true→j<n)(Ud:∀j,dB j=true→mQ j=true){r s:Nat}(cm:m6 a8 (n+m) K obj (fun j=>dB j=true) u r s):
 pS a8 (n+m) w u r s∧xn m n a b a8 g jP mQ (mN w u r s) (u.cg r s):=by
 obtain ⟨t,o,J,ao,aO⟩:=h.bC
 have sj:=sn s cm.bT cm.zQ
 obtain ⟨g1,g2,g3⟩:=o.step J ao cm sj
 have ae:=cm.pos
 have K7:t.T (g r) s≠0:=by rw [ao.T r cm.ah] at ae;show t.T (g r) s≠0;have:0<t.T (g r) s:=ae;grind
 refine ⟨aO▸ao.rZ (o.rZ q7 cm.ah (by omega) K7),⟨t.cg (g r) s,g1,g2,g3,?_⟩,h.lt.cg cm.ah sj (by grind) (cm.wS h.lt.k4),cm.ok h.ok,fun i af=> ?_⟩
 ·rw [← DN o.inv.ok o.inv.sG (o.lt r cm.ah) (show s<n+m by omega) K7,aO]
  unfold mN
  rw [ao.T r cm.ah];rfl
 ·simp only [b5.cg]
  split
  ·exact Ud s cm.zQ
  ·exact h.UT i af
def ux (k:Nat)(x:bu):List eh:=(if x.l7=2 then [] else [⟨(k:Int),1⟩])++(if x.l7=1 then [] else [⟨(k:Int),-1⟩])
def nc (fL:List bu):Nat→List eh
 | 0=>[]
 | n+1=>nc fL n++(match fL[n]? with
  | some x=>ux n x
  | none=>[])
theorem Dp (fL:List bu): ∀n,(nc fL n).length≤2*n
 | 0=>by simp [nc]
 | n+1=>by
  have:=Dp fL n
  rw [nc,List.length_append]
  have J:(match fL[n]? with
   | some x=>ux n x
   | none=>[]).length≤2:=by
   split
   ·rename_i x _;unfold ux;rw [List.length_append];split<;>split<;>simp
   ·simp
  omega
theorem Io {fL:List bu}: ∀ {n:Nat} {c:eh},n≤fL.length→c∈nc fL n→ ∃k:Nat,c.t6=k∧k<n∧(c.rU=1∨c.rU = -1)
 | 0,c,_,h=>by simp [nc] at h
 | n+1,c,a5,h=>by
  rw [nc,List.mem_append] at h
  rcases h with h|h
  ·obtain ⟨k,o,J,ao⟩:=Io (by omega) h
   exact ⟨k,o,by omega,ao⟩
  ·rw [List.getElem?_eq_getElem (by omega)] at h
   simp only [ux,List.mem_append] at h
   rcases h with h|h
   ·split at h
    ·simp at h
    ·simp at h;subst h;exact ⟨n,rfl,by omega,.inl rfl⟩
   ·split at h
    ·simp at h
    ·simp at h;subst h;exact ⟨n,rfl,by omega,.inr rfl⟩
theorem Pb (s:cQ)(de:s.cK.length≤1000):vd s=some (nc s.cK s.cK.length):=by
 unfold vd A6
 rw [hX]
 obtain ⟨x,e,-⟩:=jc (f:=fun w:Int×List eh=>sR s.cK (s.cK.length:Nat) w.1 w.2) (fun (n:Nat) (_:Unit)=>((n:Int),nc s.cK n)) s.cK.length (fun _ _=>True) (fun _=>nc s.cK s.cK.length)
  (fun n a5 _ _=>by
    refine ⟨(),?_,trivial⟩
    have aa:=List.getElem?_eq_getElem a5
    have aG:=Dp s.cK n
    have ar:nc s.cK (n+1)=nc s.cK n++ux n s.cK[n]:=by rw [nc,aa]
    unfold sR
    refine dM (by simp only;omega) (bV (by simp only;omega) (aS (x:=s.cK[n]) (by simp only;rw [Int.toNat_natCast];exact aa) ?_))
    simp only
    rw [fS (by omega),ar]
    unfold ux
    by_cases bH:s.cK[n].l7=2
    ·rw [if_pos bH]
     refine jq (zP bH) (gm (EM (by omega)) (bV (by simp only [List.length_append,List.length_cons,List.length_nil];omega) ?_))
     rw [if_neg (by omega)];simp
    ·rw [if_neg bH]
     refine gm (EM bH) (bV (by simp only [List.length_append,List.length_cons,List.length_nil];omega) ?_)
     by_cases cq:s.cK[n].l7=1
     ·refine jq (zP cq) ?_
      rw [if_pos cq];simp
     ·refine gm (EM cq) (bV (by simp only [List.length_append,List.length_cons,List.length_nil];omega) ?_)
      rw [if_neg cq];simp)
  (fun _ _=>by unfold sR;exact eb (by simp) rfl) () trivial
 exact aS e rfl
def mb (s:cQ)(k:Nat):Int×Int:=(rf s k).getD (0,0)
theorem Ip (s:cQ)(h:ob s)(k:Nat)(aV:k<s.cK.length):rf s k=some (mb s k)∧(-100≤(mb s k).1∧(mb s k).1≤100)∧(-100≤(mb s k).2∧(mb s k).2≤100):=by
 obtain ⟨x,y,o,ao,aO⟩:=QZ s h k (by omega) (by omega)
 have e:mb s k=(x,y):=by unfold mb;rw [o];rfl
 rw [e];exact ⟨o,ao,aO⟩
def jx (s:cQ)(j:Int)(jD k:Nat):Int :=
 match s.cK[k]? with
 | none=>0
 | some x=>if j=x.e1 then (if jD=0 then (mb s k).1 else (mb s k).2) else if j=x.fH then -(if jD=0 then (mb s k).1 else (mb s k).2) else 0
theorem Rz (s:cQ)(h:ob s)(j:Int)(jD k:Nat): -100≤jx s j jD k∧jx s j jD k≤100:=by
 unfold jx
 split
 ·omega
 ·rename_i x aa
  obtain ⟨-,ao,aO⟩:=Ip s h k (e2 aa)
  split
  ·split<;>omega
  ·split
   ·split<;>omega
   ·omega
theorem Q2 (s:cQ)(h:ob s)(j:Int)(aZ:List Int)(bg ck:Int)(cS:List (List Int)):
 xN s.cc s.cK j aZ bg ck (len_ dr s.cK) cS 0 (bs s.cK.length fun _=>(0:Int)) (bs s.cK.length fun _=>(0:Int))=some (bs s.cK.length (jx s j 0),bs s.cK.length (jx s j 1)):=by
 obtain ⟨-,-,f3,f4⟩:=id h
 unfold xN
 rw [hX]
 obtain ⟨x,e,-⟩:=jc (f:=fun w:Int×List Int×List Int=>sN s.cc s.cK j aZ bg ck (s.cK.length:Nat) cS w.1 w.2.1 w.2.2) (fun (n:Nat) (_:Unit)=>((n:Int),(bs s.cK.length fun k=>if k<n then jx s j 0 k else 0),bs s.cK.length fun k=>if k<n then jx s j 1 k else 0)) s.cK.length (fun _ _=>True) (fun _=>(bs s.cK.length (jx s j 0),bs s.cK.length (jx s j 1)))
  (fun n a5 _ _=>by
    refine ⟨(),?_,trivial⟩
    have aa:=List.getElem?_eq_getElem a5
    obtain ⟨v1,v3,v4⟩:=Ip s h n a5
    have cm : ∀jD v,v=jx s j jD n→(bs s.cK.length fun k=>if k<n then jx s j jD k else 0).set n v=bs s.cK.length fun k=>if k<n+1 then jx s j jD k else 0:=fun jD v aX=>by
     rw [l3]
     refine fI fun k _=> ?_
     by_cases c:k=n
     ·subst c;rw [if_pos rfl,if_pos (by omega)];exact aX
     ·rw [if_neg c]
      by_cases cq:k<n
      ·rw [if_pos cq,if_pos (by omega)]
      ·rw [if_neg cq,if_neg (by omega)]
    have g1 : ∀F:Nat→Int,0≤((n:Nat):Int)∧((n:Nat):Int)<((bs s.cK.length F).length:Nat):=fun F=>by rw [ee];omega
    have g2 : ∀F:Nat→Int,0+((n:Nat):Int).toNat<(bs s.cK.length F).length:=fun F=>by rw [ee,Int.toNat_natCast];omega
    unfold sN
    refine dM (by simp only;omega) (bV (by simp only;omega) (aS (x:=s.cK[n]) (by simp only;rw [Int.toNat_natCast];exact aa) (aS (x:=mb s n) v1 ?_)))
    simp only
    by_cases bH:j=s.cK[n].e1
    ·have e0 : ∀jD,jx s j jD n=if jD=0 then (mb s n).1 else (mb s n).2:=fun jD=>by unfold jx;rw [aa];simp only [if_pos bH]
     refine gm (Kx bH) (bV (g1 _) (bV (g2 _) (bV (g1 _) (bV (g2 _) ?_))))
     rw [fS (by omega),Int.toNat_natCast,Nat.zero_add,cm 0 _ (by rw [e0];rfl),cm 1 _ (by rw [e0];rfl)]
    ·refine jq (EL bH) ?_
     by_cases cq:j=s.cK[n].fH
     ·have e0 : ∀jD,jx s j jD n = -(if jD=0 then (mb s n).1 else (mb s n).2):=fun jD=>by unfold jx;rw [aa];simp only [if_neg bH,if_pos cq]
      refine gm (Kx cq) (bV (g1 _) (bV (g2 _) (bV (g1 _) (bV (g2 _) ?_))))
      rw [fS (by omega),Int.toNat_natCast,Nat.zero_add,cN (by omega) (by omega),cN (by omega) (by omega),cm 0 _ (by rw [e0];simp),cm 1 _ (by rw [e0];simp)]
     ·have e0 : ∀jD,jx s j jD n=0:=fun jD=>by unfold jx;rw [aa];simp only [if_neg bH,if_neg cq]
      refine jq (EL cq) ?_
      rw [fS (by omega)]
      congr 4
      ·refine fI fun k _=> ?_
       by_cases c:k=n
       ·subst c;rw [if_neg (by omega),if_pos (by omega),e0]
       ·by_cases cq:k<n
        ·rw [if_pos cq,if_pos (by omega)]
        ·rw [if_neg cq,if_neg (by omega)]
      ·refine fI fun k _=> ?_
       by_cases c:k=n
       ·subst c;rw [if_neg (by omega),if_pos (by omega),e0]
       ·by_cases cq:k<n
        ·rw [if_pos cq,if_pos (by omega)]
        ·rw [if_neg cq,if_neg (by omega)])
  (fun _ _=>by
    unfold sN
    refine eb (by simp) ?_
    simp only
    congr 3
    ·exact fI fun k aV=>by rw [if_pos aV]
    ·exact fI fun k aV=>by rw [if_pos aV]) () trivial
 have z : ∀jD,(bs s.cK.length fun k=>if k<0 then jx s j jD k else 0)=bs s.cK.length fun _=>(0:Int):=fun jD=>fI fun k _=>by rw [if_neg (by omega)]
 rw [z,z] at e
 exact e
def iV (s:cQ)(q:Nat):Nat:=(jh s.cc 0).getD q 0
def fv (s:cQ):Nat:=(jh s.cc 0).length
def mh (s:cQ)(r k:Nat):Int:=jx s (iV s (r / 2)) (r % 2) k
theorem Iq (s:cQ):(jh s.cc 0).map (fun n:Nat=>(n:Int))=bs (fv s) fun q=>((iV s q:Nat):Int):=by
 apply List.ext_getElem?
 intro q
 rw [List.getElem?_map]
 by_cases c:q<fv s
 ·rw [hM c]
  have h:(jh s.cc 0)[q]? = some (jh s.cc 0)[q]:=List.getElem?_eq_getElem c
  unfold iV
  rw [List.getD_eq_getElem?_getD,h];rfl
 ·rw [List.getElem?_eq_none_iff.2 (by unfold fv at c;omega),List.getElem?_eq_none_iff.2 (by rw [ee];omega)];rfl
theorem Jr (s:cQ){q:Nat}(h:q<fv s):iV s q<s.cc.length:=by
 have o:(jh s.cc 0)[q]? = some (jh s.cc 0)[q]:=List.getElem?_eq_getElem h
 have J:iV s q=(jh s.cc 0)[q]:=by unfold iV;rw [List.getD_eq_getElem?_getD,o];rfl
 have:=Dn s.cc 0 _ (List.mem_of_getElem? o)
 omega
theorem DW (s:cQ):fv s≤s.cc.length:=Ij s.cc 0
theorem NT (s:cQ)(h:ob s):va s=some (bs (2*fv s) fun r=>bs s.cK.length (mh s r)):=by
 obtain ⟨-,-,f3,f4⟩:=id h
 have xv:=DW s
 unfold va
 refine aS (GU s (by omega)) ?_
 rw [Iq,iQ,ee]
 unfold AQ
 obtain ⟨x,e,-⟩:=jc (f:=fun w:Int×List (List Int)=>sO s.cc s.cK (bs (fv s) fun q=>((iV s q:Nat):Int)) ((fv s:Nat):Int) w.1 w.2) (fun (n:Nat) (_:Unit)=>((n:Int),bs (2*n) fun r=>bs s.cK.length (mh s r))) (fv s) (fun _ _=>True) (fun _=>bs (2*fv s) fun r=>bs s.cK.length (mh s r))
  (fun n a5 _ _=>by
    refine ⟨(),?_,trivial⟩
    unfold sO
    refine dM (by simp only;omega) (bV (by rw [ee];simp only;omega) (aS (x:=((iV s n:Nat):Int)) (by simp only;rw [Int.toNat_natCast];exact hM a5) (bV (by rw [hX];omega) ?_)))
    refine aS (x:=(bs s.cK.length (jx s (iV s n) 0),bs s.cK.length (jx s (iV s n) 1))) (by rw [show (len_ dr s.cK).toNat=s.cK.length by rw [hX,Int.toNat_natCast],oy];exact Q2 s h _ _ _ _ _) (bV (by simp only [List.length_append,ee,List.length_cons,List.length_nil];omega) ?_)
    simp only
    rw [fS (by omega),show 2*(n+1)=2*n+1+1 by omega,vP (2*n+1),vP (2*n)]
    have ax:bs s.cK.length (jx s (iV s n) 0)=bs s.cK.length (mh s (2*n)):=fI fun k _=>by
     unfold mh;rw [show 2*n / 2=n by omega,show 2*n % 2=0 by omega]
    have bJ:bs s.cK.length (jx s (iV s n) 1)=bs s.cK.length (mh s (2*n+1)):=fI fun k _=>by
     unfold mh;rw [show (2*n+1) / 2=n by omega,show (2*n+1) % 2=1 by omega]
    rw [ax,bJ];simp)
  (fun _ _=>by unfold sO;exact eb (by simp) rfl) () trivial
 exact aS e rfl
def gV (s:cQ):List eh:=nc s.cK s.cK.length
def d4 (s:cQ):Nat:=(gV s).length
def qc (s:cQ)(c:Nat):Nat:=((gV s).getD c ⟨0,0⟩).t6.toNat
def q8 (s:cQ)(c:Nat):Int:=((gV s).getD c ⟨0,0⟩).rU
def km (s:cQ)(i c:Nat):Int:=q8 s c*mh s i (qc s c)
def k6 (s:cQ)(l:List Int)(i:Nat):Int:= -(l.getD (2*iV s (i / 2)+i % 2) 0)
theorem Js (s:cQ){c:Nat}(aL:c<d4 s):(gV s)[c]? = some ⟨(qc s c:Int),q8 s c⟩∧qc s c<s.cK.length∧(q8 s c=1∨q8 s c = -1):=by
 have o:(gV s)[c]? = some (gV s)[c]:=List.getElem?_eq_getElem aL
 have J:(gV s).getD c ⟨0,0⟩=(gV s)[c]:=by rw [List.getD_eq_getElem?_getD,o];rfl
 obtain ⟨k,ar,ay,bR⟩:=Io (Nat.le_refl _) (List.mem_of_getElem? o)
 have dc:qc s c=k:=by unfold qc;rw [J,ar];rfl
 have ed:q8 s c=((gV s)[c]).rU:=by unfold q8;rw [J]
 refine ⟨?_,by omega,by rw [ed];exact bR⟩
 rw [o,dc,ed,← ar]
theorem JO (s:cQ):d4 s≤2*s.cK.length:=Dp _ _
theorem JP (s:cQ)(h:ob s)(i:Nat){c:Nat}(aL:c<d4 s): -100≤km s i c∧km s i c≤100:=by
 have o:=Rz s h (iV s (i / 2)) (i % 2) (qc s c)
 unfold km mh
 rcases (Js s aL).2.2 with e|e<;>rw [e]<;>omega
def Lq (s:cQ)(l:List Int):jt:=⟨((2*fv s:Nat):Int),(d4 s:Int),bs (2*fv s*d4 s) (fun x=>km s (x / d4 s) (x % d4 s)),bs (2*fv s) (k6 s l),bs (d4 s) fun _=>0⟩
theorem RA (s:cQ)(h:ob s)(l:List Int)(aP:∀x∈l,-100≤x∧x≤100):nH (Lq s l) (2*fv s) (d4 s) (km s) (k6 s l) where
 rows:=rfl
 gV:=rfl
 nk:=ee ..
 J7:=fun i af j av=>by
  have o:i*d4 s+j<2*fv s*d4 s:=by
   have:(i+1)*d4 s≤2*fv s*d4 s:=Nat.mul_le_mul_right _ af
   rw [Nat.succ_mul] at this;omega
  show (bs _ _)[_]? = _
  rw [hM o]
  have J:(i*d4 s+j) / d4 s=i:=by rw [Nat.mul_comm,Nat.mul_add_div (by omega),Nat.div_eq_of_lt av];rfl
  have ao:(i*d4 s+j) % d4 s=j:=by rw [Nat.mul_comm,Nat.mul_add_mod,Nat.mod_eq_of_lt av]
  rw [J,ao]
 Lm:=ee ..
 zw:=fun i af=>hM af
 hm:=by
  obtain ⟨-,-,f3,f4⟩:=id h
  have:=DW s;omega
 a5:=by
  obtain ⟨-,-,f3,f4⟩:=id h
  have:=JO s;omega
 xE:=fun i _ j av=>JP s h i av
 Ah:=fun i _=>by
  unfold k6
  rw [List.getD_eq_getElem?_getD]
  cases c:l[2*iV s (i / 2)+i % 2]? with
  | none=>simp
  | some x =>
   have:=aP x (List.mem_of_getElem? c)
   simp only [Option.getD_some];omega
def upto (n:Nat)(f:Nat→Int)(k:Nat):List Int:=bs n fun x=>if x<k then f x else 0
theorem Dq {n k:Nat}{f:Nat→Int}(aV:k<n){v:Int}(aX:v=f k):(upto n f k).set k v=upto n f (k+1):=by
 unfold upto
 rw [l3]
 refine fI fun j _=> ?_
 by_cases c:j=k
 ·subst c;rw [if_pos rfl,if_pos (by omega)];exact aX
 ·rw [if_neg c]
  by_cases cq:j<k
  ·rw [if_pos cq,if_pos (by omega)]
  ·rw [if_neg cq,if_neg (by omega)]
theorem HV (n:Nat)(f:Nat→Int):upto n f 0=bs n fun _=>0:=fI fun j _=>by rw [if_neg (by omega)]
theorem Ir (n:Nat)(f:Nat→Int):upto n f n=bs n f:=fI fun j av=>by rw [if_pos av]
theorem tS (n:Nat)(f:Nat→Int)(k:Nat):(upto n f k).length=n:=ee ..
theorem GK (s:cQ)(h:ob s)(l:List Int)(aG:l.length=2*s.cc.length)(aP:∀x∈l,-100≤x∧x≤100):u9 s l 0 0=some (Lq s l):=by
 obtain ⟨-,-,f3,f4⟩:=id h
 have xv:=DW s
 have Xb:=JO s
 have WU:2*fv s*d4 s≤12*16:=Nat.mul_le_mul (by omega) (by omega)
 unfold u9
 refine aS (NT s h) (aS (x:=gV s) (Pb s (by omega)) ?_)
 have k5:U ((len_ (cl 1 R) (bs (2*fv s) fun r=>bs s.cK.length (mh s r)))+0)=((2*fv s:Nat):Int):=by rw [hX,ee,cN (by omega) (by omega)];omega
 have ol:U ((len_ fi (gV s))+0)=((d4 s:Nat):Int):=by
  rw [hX];show U (((d4 s:Nat):Int)+0)=_
  rw [cN (by omega) (by omega)];omega
 have u1:U (((2*fv s:Nat):Int)*((d4 s:Nat):Int))=((2*fv s*d4 s:Nat):Int):=by rw [← Int.natCast_mul,cN (by omega) (by omega)]
 rw [k5,ol,u1,Int.toNat_natCast,Int.toNat_natCast,Int.toNat_natCast,oy,oy,oy,hX,ee]
 refine bV (by omega) (bV (by omega) (bV (by omega) ?_))
 refine aS (x:=bs (2*fv s*d4 s) (fun x=>km s (x / d4 s) (x % d4 s))) ?_ ?_
 ·unfold AM
  obtain ⟨x,e,-⟩:=jc (f:=fun w:Int×List Int=>sL s.cc s.cK l (gV s) (bs (2*fv s) fun r=>bs s.cK.length (mh s r)) ((2*fv s:Nat):Int) ((2*fv s:Nat):Int) ((d4 s:Nat):Int) (bs (2*fv s) fun _=>0) (bs (d4 s) fun _=>0) w.1 w.2) (fun (i:Nat) (_:Unit)=>((i:Int),upto (2*fv s*d4 s) (fun x=>km s (x / d4 s) (x % d4 s)) (i*d4 s))) (2*fv s) (fun _ _=>True) (fun _=>bs (2*fv s*d4 s) (fun x=>km s (x / d4 s) (x % d4 s)))
   (fun i af _ _=>by
     refine ⟨(),?_,trivial⟩
     have nf:(i+1)*d4 s≤2*fv s*d4 s:=Nat.mul_le_mul_right _ af
     rw [Nat.succ_mul] at nf
     obtain ⟨y,ay,-⟩:=jc (f:=fun w:Int×List Int=>sK s.cc s.cK l (gV s) (i:Int) (bs s.cK.length (mh s i)) (bs (2*fv s) fun r=>bs s.cK.length (mh s r)) ((2*fv s:Nat):Int) ((d4 s:Nat):Int) ((2*fv s:Nat):Int) ((d4 s:Nat):Int) (bs (2*fv s) fun _=>0) (bs (d4 s) fun _=>0) w.1 w.2) (fun (c:Nat) (_:Unit)=>((c:Int),upto (2*fv s*d4 s) (fun x=>km s (x / d4 s) (x % d4 s)) (i*d4 s+c))) (d4 s) (fun _ _=>True) (fun _=>upto (2*fv s*d4 s) (fun x=>km s (x / d4 s) (x % d4 s)) (i*d4 s+d4 s))
      (fun c aL _ _=>by
        refine ⟨(),?_,trivial⟩
        obtain ⟨j5,jz,mX⟩:=Js s aL
        have WV:=JP s h i aL
        have UU:U (U ((i:Int)*((d4 s:Nat):Int))+((c:Nat):Int))=((i*d4 s+c:Nat):Int):=by
         rw [← Int.natCast_mul,cN (x:=((i*d4 s:Nat):Int)) (by omega) (by omega),cN (by omega) (by omega)];omega
        have J:(i*d4 s+c) / d4 s=i:=by rw [Nat.mul_comm,Nat.mul_add_div (by omega),Nat.div_eq_of_lt aL];rfl
        have ao:(i*d4 s+c) % d4 s=c:=by rw [Nat.mul_comm,Nat.mul_add_mod,Nat.mod_eq_of_lt aL]
        unfold sK
        refine dM (by simp only;omega) (bV (by show _∧((c:Nat):Int)<((d4 s:Nat):Int);simp only;omega) (aS (x:=⟨(qc s c:Int),q8 s c⟩) (by simp only;rw [Int.toNat_natCast];exact j5) (bV (by rw [ee];simp only;omega) (aS (x:=mh s i (qc s c)) (by simp only;rw [Int.toNat_natCast];exact hM jz) ?_))))
        simp only
        rw [UU]
        refine bV (by rw [tS];omega) (bV (by rw [tS,Int.toNat_natCast];omega) ?_)
        rw [fS (by omega),Int.toNat_natCast,Nat.zero_add,show q8 s c*mh s i (qc s c)=km s i c from rfl,cN (by omega) (by omega),Dq (by omega) (by rw [J,ao]),Nat.add_assoc])
      (fun _ _=>by unfold sK;exact eb (by simp) rfl) () trivial
     unfold sL
     refine dM (by simp only;omega) (bV (by rw [ee];simp only;omega) (aS (x:=bs s.cK.length (mh s i)) (by simp only;rw [Int.toNat_natCast];exact hM af) (aS (x:=upto (2*fv s*d4 s) (fun x=>km s (x / d4 s) (x % d4 s)) (i*d4 s+d4 s)) (by unfold AL;rw [hX];exact ay) ?_)))
     simp only
     rw [fS (by omega),Nat.succ_mul i (d4 s)])
   (fun _ _=>by
     unfold sL
     refine eb (by simp) ?_
     simp only
     rw [Ir]) () trivial
  rw [Nat.zero_mul,HV] at e
  exact e
 refine aS (GU s (by omega)) ?_
 rw [Iq,iQ,ee]
 refine aS (x:=bs (2*fv s) (k6 s l)) ?_ rfl
 unfold AN
 obtain ⟨x,e,-⟩:=jc (f:=fun w:Int×List Int=>sM l (bs (fv s) fun q=>((iV s q:Nat):Int)) ((fv s:Nat):Int) ((2*fv s:Nat):Int) ((d4 s:Nat):Int) (bs (2*fv s*d4 s) (fun x=>km s (x / d4 s) (x % d4 s))) (bs (d4 s) fun _=>0) w.1 w.2) (fun (n:Nat) (_:Unit)=>((n:Int),upto (2*fv s) (k6 s l) (2*n))) (fv s) (fun _ _=>True) (fun _=>bs (2*fv s) (k6 s l))
  (fun n a5 _ _=>by
    refine ⟨(),?_,trivial⟩
    have bM:=Jr s a5
    have ol : ∀a:Nat,a≤1000→U ((2:Int)*((a:Nat):Int))=((2*a:Nat):Int):=fun a bx=>by rw [cN (by omega) (by omega)];omega
    have fq:=aP l[2*iV s n] (List.getElem_mem (by omega))
    have ek:=aP l[2*iV s n+1] (List.getElem_mem (by omega))
    have ga:k6 s l (2*n) = -l[2*iV s n]:=by
     unfold k6
     rw [show 2*n / 2=n by omega,show 2*n % 2=0 by omega,Nat.add_zero,List.getD_eq_getElem?_getD,List.getElem?_eq_getElem (by omega)];rfl
    have hj:k6 s l (2*n+1) = -l[2*iV s n+1]:=by
     unfold k6
     rw [show (2*n+1) / 2=n by omega,show (2*n+1) % 2=1 by omega,List.getD_eq_getElem?_getD,List.getElem?_eq_getElem (by omega)];rfl
    unfold sM
    refine dM (by simp only;omega) (bV (by rw [ee];simp only;omega) (aS (x:=((iV s n:Nat):Int)) (by simp only;rw [Int.toNat_natCast];exact hM a5) ?_))
    simp only
    rw [ol (iV s n) (by omega),ol n (by omega),fS (n:=2*iV s n) (by omega),fS (n:=2*n) (by omega)]
    refine bV (by omega) (aS (x:=l[2*iV s n]) (by rw [Int.toNat_natCast];exact List.getElem?_eq_getElem (by omega)) (bV (by omega) (aS (x:=l[2*iV s n+1]) (by rw [Int.toNat_natCast];exact List.getElem?_eq_getElem (by omega)) ?_)))
    refine bV (by rw [tS];omega) (bV (by rw [tS,Int.toNat_natCast];omega) (bV (by rw [tS];omega) (bV (by rw [List.length_set,tS,Int.toNat_natCast];omega) ?_)))
    rw [fS (by omega),cN (x:=0-l[2*iV s n]) (by omega) (by omega),cN (x:=0-l[2*iV s n+1]) (by omega) (by omega),Int.toNat_natCast,Int.toNat_natCast,Nat.zero_add,Nat.zero_add,Dq (by omega) (by rw [ga];omega),Dq (by omega) (by rw [hj];omega),show 2*(n+1)=2*n+1+1 by omega])
  (fun _ _=>by
    unfold sM
    refine eb (by simp) ?_
    simp only
    rw [Ir]) () trivial
 rw [Nat.mul_zero,HV] at e
 exact e
theorem Jt (x:Int):0≤U (((BitVec.ofInt (IntKind.bits .i64) x &&& BitVec.ofInt (IntKind.bits .i64) (255:Int)).toNat:Int))∧U (((BitVec.ofInt (IntKind.bits .i64) x &&& BitVec.ofInt (IntKind.bits .i64) (255:Int)).toNat:Int))≤255:=by
 have h:(BitVec.ofInt (IntKind.bits .i64) x &&& BitVec.ofInt (IntKind.bits .i64) (255:Int)).toNat≤255:=by
  rw [BitVec.toNat_and]
  exact Nat.le_trans Nat.and_le_right (Nat.le_of_eq (by decide))
 rw [cN (by omega) (by omega)]
 omega
theorem yY (c:List Int)(aL:c.length≤1048576)(i h:Int)(af:0≤i): ∃b dU bX,nO c i h=some (b,dU,bX)∧(0≤b∧b≤255)∧0≤dU:=by
 unfold nO
 by_cases e:i<c.length
 ·have aa:=List.getElem?_eq_getElem (show i.toNat<c.length by omega)
  exact ⟨_,_,_,dM (by show i<((c.map eU8).length:Nat);rw [List.length_map];exact e) (bV ⟨af,e⟩ (aS aa rfl)),Jt _,by rw [cN (by omega) (by omega)];omega⟩
 ·exact ⟨_,_,_,eb (by show ¬i<((c.map eU8).length:Nat);rw [List.length_map];exact e) rfl,Jt _,af⟩
theorem j9 (n:Int)(o:1≤n)(J:n≤256)(c:List Int)(aL:c.length≤1048576)(i h:Int)(af:0≤i): ∃b dU bX,jb n c i h=some (b,dU,bX)∧(0≤b∧b<n)∧0≤dU:=by
 obtain ⟨b,dU,bX,e,aP,hS⟩:=yY c aL i h af
 unfold jb
 refine ⟨b.tmod n,dU,bX,eb (by omega) (dM J (aS e (bV (by omega) rfl))),?_,hS⟩
 rw [Int.tmod_eq_emod_of_nonneg aP.1]
 exact ⟨Int.emod_nonneg _ (by omega),Int.emod_lt_of_pos _ (by omega)⟩
theorem Dx (n:Int)(o:1≤n)(J:n≤256)(c:List Int)(aL:c.length≤1048576)(i h:Int)(af:0≤i): ∃b dU bX,tx n c i h=some (b,dU,bX)∧0≤dU:=by
 obtain ⟨b,dU,bX,e,-,hS⟩:=j9 n o J c aL i h af
 exact ⟨b == 0,dU,bX,aS e rfl,hS⟩
theorem Dy (l:List Int)(o:1≤l.length)(J:l.length≤256)(c:List Int)(aL:c.length≤1048576)(i h:Int)(af:0≤i): ∃b dU bX,ty l c i h=some (b,dU,bX)∧b∈l∧0≤dU:=by
 obtain ⟨b,dU,bX,e,aP,hS⟩:=j9 (len_ R l) (by rw [hX];omega) (by rw [hX];omega) c aL i h af
 rw [hX] at aP
 have aa:=List.getElem?_eq_getElem (show b.toNat<l.length by omega)
 exact ⟨_,dU,bX,aS e (bV (by simp only;omega) (aS aa rfl)),List.getElem_mem _,hS⟩
theorem Ju (c:List Int)(aL:c.length≤1048576): ∃h,vj c=some h:=by
 obtain ⟨r,e,-⟩:=qn (f:=fun w:Int×Int=>s6 c w.1 w.2) (fun (n:Nat) (s:Int)=>(s,(n:Int))) c.length (fun _ _=>True) (fun _=>True)
  (fun n a5 s _=>by
    have aa:=List.getElem?_eq_getElem a5
    simp only
    unfold s6
    have aG:(n:Int)<len_ eU8 c:=by rw [hX];omega
    by_cases d:(n:Int)<4000
    ·exact .inl ⟨_,dM aG (dM d (bV (by omega) (aS (gt rfl aa) (by rw [mq (by omega)])))),trivial⟩
    ·exact .inr ⟨_,dM aG (eb d rfl),trivial⟩)
  (fun s _=>⟨_,by simp only;unfold s6;exact eb (by rw [hX];omega) rfl,trivial⟩) (U ((1975:Int)+len_ eU8 c)) trivial
 exact ⟨r,aS e rfl⟩
theorem Is (c:List Int)(aL:c.length≤1048576)(n:Nat)(a5:n≤1000): ∃i h,vl c (n:Int)=some (i,h)∧0≤i:=by
 obtain ⟨h0,e0⟩:=Ju c aL
 obtain ⟨⟨i,h⟩,e,af⟩:=jc (f:=fun w:Int×Int×Int=>s8 (n:Int) c w.1 w.2.1 w.2.2) (fun (k:Nat) (s:Int×Int)=>((k:Int),s.1,s.2)) n (fun _ s=>0≤s.1) (fun s=>s)
  (fun k aV s bT=>by
    obtain ⟨b,dU,bX,e,-,hS⟩:=yY c aL s.1 s.2 bT
    refine ⟨(dU,bX),?_,hS⟩
    simp only
    unfold s8
    exact dM (by omega) (aS e (by rw [mq (by omega)])))
  (fun s _=>by simp only;unfold s8;exact eb (by omega) rfl) (0,h0) (by simp)
 exact ⟨i,h,aS e0 (aS e rfl),af⟩
theorem Hx (c:List Int)(aL:c.length≤1048576)(n:Nat)(a5:n≤1000): ∃r,vp c (n:Int)=some r∧0≤r:=by
 obtain ⟨i,h,e,af⟩:=Is c aL n a5
 obtain ⟨fB,Ue,qL,ar,r8,nf⟩:=yY c aL i h af
 obtain ⟨gA,WW,zH,ay,uE,ng⟩:=yY c aL Ue qL nf
 refine ⟨_,aS e (aS ar (aS ay rfl)),?_⟩
 rw [cN (x:=fB*256) (by omega) (by omega),cN (by omega) (by omega)];omega
theorem RB (s:cQ)(v:ob s)(a5:∀(n:Nat) j,s.cc[n]? = some j→ry j.nu=some true)(bq:∀(i k:Nat) x y,s.cc[i]? = some x→s.cc[k]? = some y→i≠k→(x.nu.toList == y.nu.toList)=false):pw s=some true:=by
 obtain ⟨f1,f2,f3,f4⟩:=v
 have Fc:xW s.cc (len_ cA s.cc) s.cK 0=some (.inl ()):=by
  unfold xW
  rw [hX]
  obtain ⟨_,e,-⟩:=jc (f:=fun w:Int=>s3 s.cc (s.cc.length:Nat) s.cK w) (fun (i:Nat) (_:Unit)=>(i:Int)) s.cc.length (fun _ _=>True) (fun _=>(Sum.inl ():Unit⊕Unit))
   (fun i af _ _=>by
     refine ⟨(),?_,trivial⟩
     have aa:=List.getElem?_eq_getElem af
     obtain ⟨fB,gA,lX,o0⟩:=f1 i _ aa
     have av:vq s.cc[i]=some true:=by
      unfold vq
      have p : ∀n:Int,-50≤n→n≤50→tE n=some true:=fun n o J=>by
       unfold tE
       exact dM o (by rw [decide_eq_true J])
      exact aS (a5 i _ aa) (gm rfl (aS (p _ fB gA) (gm rfl (aS (p _ lX o0) rfl))))
     have aV:vg ⟨s.cc,s.cK⟩ s.cc[i].nu=some (i:Int):=by
      unfold vg xM AE
      obtain ⟨r,e,rfl⟩:=qn (f:=fun w:Int=>u4 s.cc s.cc[i].nu (s.cc.length:Nat) w) (fun (k:Nat) (_:Unit)=>(k:Int)) s.cc.length (fun k _=>k≤i) (fun r=>r=(Sum.inr (i:Int):Unit⊕Int))
       (fun k aV _ WX=>by
         have aN:=List.getElem?_eq_getElem aV
         unfold u4 x4
         by_cases c:k=i
         ·subst c
          exact .inr ⟨_,dM (by omega) (bV (by omega) (aS (gt rfl aN) (aS rfl (gm (by simp) rfl)))),rfl⟩
         ·exact .inl ⟨(),dM (by omega) (bV (by omega) (aS (gt rfl aN) (aS rfl (jq (bq k i _ _ aN aa c) (by rw [fS (by omega)]))))),by omega⟩)
       (fun _ h=>by omega) () (Nat.zero_le _)
      rw [hX]
      exact aS (x:=(i:Int)) (aS e rfl) rfl
     unfold s3
     exact dM (by omega) (bV (by omega) (aS (gt rfl aa) (aS av (gm rfl (aS aV (jq (zP rfl) (by rw [fS (by omega)]))))))))
   (fun _ _=>by unfold s3;exact eb (by omega) rfl) () trivial
  exact e
 have n1 : ∀m∈s.cK,nS s.cc m=true:=fun m hm=>by
  obtain ⟨n,a5⟩:=List.getElem?_of_mem hm
  exact f2 n m a5
 have a1:u5 s.cK s=some false:=by
  unfold u5 xI AA
  rw [hX]
  obtain ⟨x,e,-⟩:=jc (f:=fun w:Int=>sI s.cK s.cc s.cK (s.cK.length:Nat) w) (fun (i:Nat) (_:Unit)=>(i:Int)) s.cK.length (fun _ _=>True) (fun _=>(Sum.inl ():Unit⊕Int))
   (fun i af _ _=>by
     refine ⟨(),?_,trivial⟩
     have aa:=List.getElem?_eq_getElem af
     have aP:=n1 s.cK[i] (List.getElem_mem af)
     unfold sI x1
     refine dM (by omega) (bV (by omega) (aS (gt rfl aa) (aS (x:=false) (aS (Oy _ _) (by simp [aP])) (jq rfl (by rw [fS (by omega)]))))))
   (fun _ _=>by unfold sI;exact eb (by omega) rfl) () trivial
  exact aS (x:=(-1:Int)) (aS e rfl) rfl
 unfold pw
 exact eb (by rw [hX];omega) (eb (by rw [hX];omega) (aS Fc (aS a1 rfl)))
def oc:List ByteArray:=[⟨#[97]⟩,⟨#[98]⟩,⟨#[99]⟩,⟨#[100]⟩]
theorem PN {k:Nat}{x:ByteArray}(h:oc[k]? = some x):ry x=some true:=by
 have key : ∀u:UInt8,97≤u.toNat→u.toNat≤122→ry ⟨#[u]⟩=some true:=fun u o J=>by
  unfold ry CC
  obtain ⟨_,e,-⟩:=jc (f:=fun w:Int=>tk ⟨#[u]⟩ (((⟨#[u]⟩:ByteArray).size:Nat):Int) w) (fun (i:Nat) (_:Unit)=>(i:Int)) 1 (fun _ _=>True) (fun _=>(Sum.inl ():Unit⊕Unit))
   (fun i af _ _=>by
     obtain rfl:i=0:=by omega
     refine ⟨(),?_,trivial⟩
     unfold tk
     have bT:(((⟨#[u]⟩:ByteArray).size:Nat):Int)=1:=rfl
     rw [bT]
     refine dM (by omega) (bV (by omega) (aS (x:=true) ?_ (gm rfl rfl)))
     unfold ym
     have dd:((⟨#[u]⟩:ByteArray).data.toList.getD (((0:Nat):Int)).toNat 0)=u:=rfl
     rw [dd]
     exact dM (by omega) (by rw [decide_eq_true (by omega)]))
   (fun _ _=>by unfold tk;exact eb (by show ¬(1:Int)<1;omega) rfl) () trivial
  refine aS e ?_
  simp only
  have cf:((⟨#[u]⟩:ByteArray).toList == (⟨#[]⟩:ByteArray).toList)=false:=by
   simp [ByteArray.toList,ByteArray.toList.loop,ByteArray.size]
  rw [cf];rfl
 match k,h with
 | 0,h=>obtain rfl:=Option.some.inj h;exact key 97 (by decide) (by decide)
 | 1,h=>obtain rfl:=Option.some.inj h;exact key 98 (by decide) (by decide)
 | 2,h=>obtain rfl:=Option.some.inj h;exact key 99 (by decide) (by decide)
 | 3,h=>obtain rfl:=Option.some.inj h;exact key 100 (by decide) (by decide)
 | k+4,h=>simp [oc] at h
theorem R2 {i k:Nat}{x y:ByteArray}(h:oc[i]? = some x)(bX:oc[k]? = some y)(cf:i≠k):(x.toList == y.toList)=false:=by
 have af:=e2 h
 have aV:=e2 bX
 have key : ∀i k:Fin 4,i≠k→((oc[i.1]!).toList == (oc[k.1]!).toList)=false:=by decide +kernel
 have ar:oc[i]! = x:=by simp [h]
 have ay:oc[k]! = y:=by simp [bX]
 have:=key ⟨i,by simpa [oc] using af⟩ ⟨k,by simpa [oc] using aV⟩ (fun e=>cf (by simpa using congrArg Fin.val e))
 rw [ar,ay] at this
 exact this
structure pn (s:cQ):Prop where
 v:ob s
 ok:pw s=some true
 FN:3≤s.cc.length
 fA:2≤s.cK.length
theorem DO (s:cQ)(av:∀j∈s.cc,-50≤j.kF∧j.kF≤50∧ -50≤j.kG∧j.kG≤50)(hm:∀m∈s.cK,nS s.cc m=true)(bW:s.cc.length≤4)(bG:s.cK.length≤8)(a5:s.cc.map (·.nu)=oc.take s.cc.length)(FN:3≤s.cc.length)(fA:2≤s.cK.length):pn s:=by
 have v:ob s:=⟨fun n j h=>av j (List.mem_of_getElem? h),fun n m h=>hm m (List.mem_of_getElem? h),by omega,bG⟩
 have name : ∀(n:Nat) j,s.cc[n]? = some j→oc[n]? = some j.nu:=fun n j h=>by
  have aG:=e2 h
  have e:(s.cc.map (·.nu))[n]? = some j.nu:=by rw [List.getElem?_map,h];rfl
  rw [a5,List.getElem?_take,if_pos aG] at e
  exact e
 exact ⟨v,RB s v (fun n j h=>PN (name n j h)) (fun i k x y aa aN cf=>R2 (name i x aa) (name k y aN) cf),FN,fA⟩
theorem RC (c:List Int)(aL:c.length≤1048576)(i h:Int)(af:0≤i): ∃eS fL dU bX,vk c i h=some (eS,fL,dU,bX)∧pn ⟨eS,fL⟩∧0≤dU:=by
 unfold vk
 obtain ⟨fB,mq,o,ar,r8,nf⟩:=j9 3 (by omega) (by omega) c aL i h af
 obtain ⟨gA,kZ,J,ay,uE,ng⟩:=j9 3 (by omega) (by omega) c aL mq o nf
 obtain ⟨lX,xB,ao,bR,Uf,uJ⟩:=j9 2 (by omega) (by omega) c aL kZ J ng
 obtain ⟨o0,p5,aO,dc,Ug,Fl⟩:=j9 3 (by omega) (by omega) c aL xB ao uJ
 obtain ⟨o1,xC,aM,ed,Uh,Fm⟩:=j9 2 (by omega) (by omega) c aL p5 aO Fl
 obtain ⟨o2,FO,bW,eW,Ui,Fo⟩:=j9 3 (by omega) (by omega) c aL xC aM Fm
 obtain ⟨q9,FP,bK,fm,Fp,Fq⟩:=Dy [1,2,3] (by simp) (by simp) c aL FO bW Fo
 obtain ⟨FQ,i8,bG,ja,Uj,z7⟩:=j9 3 (by omega) (by omega) c aL FP bK Fq
 have k5:U ((-1:Int)-o0) = -1-o0:=cN (by omega) (by omega)
 have ol:U ((3:Int)+o1)=3+o1:=cN (by omega) (by omega)
 have u1:U ((-1:Int)-o2) = -1-o2:=cN (by omega) (by omega)
 have Uk:1≤q9∧q9≤3:=by simp at Fp;omega
 obtain ⟨eS,jm⟩ : ∃eS:List a9,eS=([(⟨(⟨#[97]⟩:ByteArray),(-2),fB,true⟩:a9),(⟨(⟨#[98]⟩:ByteArray),6,gA,true⟩:a9),(⟨(⟨#[99]⟩:ByteArray),lX,-1-o0,false⟩:a9),(⟨(⟨#[100]⟩:ByteArray),3+o1,-1-o2,false⟩:a9)]:List a9):=⟨_,rfl⟩
 have g0:eS[0]? = some ⟨⟨#[97]⟩,-2,fB,true⟩:=by rw [jm];rfl
 have g1:eS[1]? = some ⟨⟨#[98]⟩,6,gA,true⟩:=by rw [jm];rfl
 have g2:eS[2]? = some ⟨⟨#[99]⟩,lX,-1-o0,false⟩:=by rw [jm];rfl
 have g3:eS[3]? = some ⟨⟨#[100]⟩,3+o1,-1-o2,false⟩:=by rw [jm];rfl
 have aG:eS.length=4:=by rw [jm];rfl
 have Al : ∀a b k:Int,(a=0∨a=1∨a=2∨a=3)→(b=2∨b=3∨b=1)→(b=1→a=3)→(a=2→b=3)→(a=3→b=1)→1≤k→k≤3→nS eS ⟨a,b,k⟩=true:=fun a b k bx aP pi im gZ WY zR=>by
  unfold nS
  simp only
  rw [aG,decide_eq_true (by omega),Bool.true_and]
  rcases bx with rfl|rfl|rfl|rfl
  ·rcases aP with rfl|rfl|rfl
   ·rw [show (0:Int).toNat=0 from rfl,show (2:Int).toNat=2 from rfl,g0,g2];simp;omega
   ·rw [show (0:Int).toNat=0 from rfl,show (3:Int).toNat=3 from rfl,g0,g3];simp;omega
   ·exact absurd (pi rfl) (by omega)
  ·rcases aP with rfl|rfl|rfl
   ·rw [show (1:Int).toNat=1 from rfl,show (2:Int).toNat=2 from rfl,g1,g2];simp;omega
   ·rw [show (1:Int).toNat=1 from rfl,show (3:Int).toNat=3 from rfl,g1,g3];simp;omega
   ·exact absurd (pi rfl) (by omega)
  ·obtain rfl:=im rfl
   rw [show (2:Int).toNat=2 from rfl,show (3:Int).toNat=3 from rfl,g2,g3];simp;omega
  ·obtain rfl:=gZ rfl
   rw [show (3:Int).toNat=3 from rfl,show (1:Int).toNat=1 from rfl,g3,g1];simp;omega
 obtain ⟨⟨n,j,fL⟩,e,aa⟩:=lz (f:=fun w:Int×Int×Int×(List bu)=>s7 c eS w.1 w.2.1 w.2.2.1 w.2.2.2) (fun w=>0≤w.1∧0≤w.2.1∧w.2.2.2.length+w.1.toNat≤8∧2≤w.2.2.2.length∧ ∀m∈w.2.2.2,nS eS m=true) (fun w=>w.1.toNat) (fun r=>0≤r.1∧r.2.2.length≤8∧2≤r.2.2.length∧ ∀m∈r.2.2,nS eS m=true)
  (fun w hw=>by
    obtain ⟨n,j,g,fL⟩:=w
    obtain ⟨hU,iK,dn,gP,eX⟩:=hw
    simp only at hU iK dn gP eX
    by_cases d:0<n
    ·obtain ⟨fq,jr,mY,ga,aZ,ax⟩:=j9 2 (by omega) (by omega) c aL j g iK
     obtain ⟨ek,fh,q6,hj,bg,bJ⟩:=j9 2 (by omega) (by omega) c aL jr mY ax
     obtain ⟨a4,UW,FR,oe,ck,bh⟩:=j9 3 (by omega) (by omega) c aL fh q6 bJ
     have v1:U ((2:Int)+ek)=2+ek:=cN (by omega) (by omega)
     have v2:U ((1:Int)+a4)=1+a4:=cN (by omega) (by omega)
     refine .inl ⟨(n-1,UW,FR,fL++[⟨fq,2+ek,1+a4⟩]),?_,⟨by simp only;omega,bh,by simp only [List.length_append,List.length_singleton];omega,by simp only [List.length_append,List.length_singleton];omega,fun m hm=> ?_⟩,by simp only;omega⟩
     ·simp only
      unfold s7
      refine dM d (aS ga (aS hj (aS oe ?_)))
      simp only
      rw [v1,v2,cN (x:=n-1) (by omega) (by omega)]
      exact bV (by simp only [List.length_append,List.length_singleton];omega) rfl
     ·simp only [List.mem_append,List.mem_singleton] at hm
      rcases hm with hm|rfl
      ·exact eX m hm
      ·exact Al _ _ _ (by omega) (by omega) (by omega) (by omega) (by omega) (by omega) (by omega)
    ·refine .inr ⟨(j,g,fL),by simp only;unfold s7;exact eb d rfl,iK,by simp only;omega,gP,eX⟩)
  (FQ,i8,bG,[⟨0,2,1⟩,⟨2,3,q9⟩,⟨3,1,1⟩]) ⟨Uj.1,z7,by simp;omega,by simp,fun m hm=>by
    simp at hm
    rcases hm with rfl|rfl|rfl
    ·exact Al _ _ _ (by omega) (by omega) (by omega) (by omega) (by omega) (by omega) (by omega)
    ·exact Al _ _ _ (by omega) (by omega) (by omega) (by omega) (by omega) (by omega) (by omega)
    ·exact Al _ _ _ (by omega) (by omega) (by omega) (by omega) (by omega) (by omega) (by omega)⟩
 obtain ⟨aZ,bg,ck,cS⟩:=aa
 refine ⟨eS,fL,n,j,aS ar (aS ay (aS bR (aS dc (aS ed (aS eW (aS fm (aS ja ?_))))))),DO _ (fun j av=> ?_) cS (by simp only;omega) bg ?_ (by simp only;omega) ck,aZ⟩
 ·simp only
  rw [k5,ol,u1,← jm]
  exact aS (x:=(n,j,fL)) e rfl
 ·rw [jm] at av
  simp at av
  rcases av with rfl|rfl|rfl|rfl<;>simp<;>omega
 ·simp only
  rw [aG,jm];rfl
end Go.Proofs.Ytjkpomjgokofmac
namespace Go.Proofs.Ytjkpomjgokofmac
set_option linter.unusedVariables false
set_option linter.unusedSimpArgs false
open Go Go.VL
theorem Q3 (c:List Int)(aL:c.length≤1048576)(i h:Int)(af:0≤i): ∃eS fL dU bX,vh c i h=some (eS,fL,dU,bX)∧pn ⟨eS,fL⟩∧0≤dU:=by
 unfold vh
 obtain ⟨fB,mq,o,ar,r8,nf⟩:=j9 4 (by omega) (by omega) c aL i h af
 obtain ⟨gA,kZ,J,ay,uE,ng⟩:=j9 3 (by omega) (by omega) c aL mq o nf
 obtain ⟨lX,xB,ao,bR,Uf,uJ⟩:=j9 4 (by omega) (by omega) c aL kZ J ng
 obtain ⟨o0,p5,aO,dc,Ug,Fl⟩:=j9 3 (by omega) (by omega) c aL xB ao uJ
 obtain ⟨o1,xC,aM,ed,Uh,Fm⟩:=j9 4 (by omega) (by omega) c aL p5 aO Fl
 obtain ⟨o2,FO,bW,eW,Ui,Fo⟩:=j9 4 (by omega) (by omega) c aL xC aM Fm
 obtain ⟨q9,FP,bK,fm,Fp,Fq⟩:=Dy [1,1,1,3] (by simp) (by simp) c aL FO bW Fo
 obtain ⟨FQ,i8,bG,ja,z7⟩:=Dx 2 (by omega) (by omega) c aL FP bK Fq
 have k5:U ((-1:Int)-fB) = -1-fB:=cN (by omega) (by omega)
 have ol:U ((3:Int)+lX)=3+lX:=cN (by omega) (by omega)
 have u1:U (o1-(1:Int))=o1-1:=cN (by omega) (by omega)
 have Lr:U ((-1:Int)-o2) = -1-o2:=cN (by omega) (by omega)
 have Uk:1≤q9∧q9≤3:=by simp at Fp;omega
 cases FQ with
 | false =>
  obtain ⟨eS,jm⟩ : ∃eS:List a9,eS=([(⟨(⟨#[97]⟩:ByteArray),-1-fB,gA,true⟩:a9),(⟨(⟨#[98]⟩:ByteArray),3+lX,o0,true⟩:a9),(⟨(⟨#[99]⟩:ByteArray),o1-1,-1-o2,false⟩:a9)]:List a9):=⟨_,rfl⟩
  have g0:eS[0]? = some ⟨⟨#[97]⟩,-1-fB,gA,true⟩:=by rw [jm];rfl
  have g1:eS[1]? = some ⟨⟨#[98]⟩,3+lX,o0,true⟩:=by rw [jm];rfl
  have g2:eS[2]? = some ⟨⟨#[99]⟩,o1-1,-1-o2,false⟩:=by rw [jm];rfl
  have aG:eS.length=3:=by rw [jm];rfl
  refine ⟨eS,[⟨0,2,1⟩,⟨1,2,q9⟩],i8,bG,aS ar (aS ay (aS bR (aS dc (aS ed (aS eW (aS fm (aS ja (jq rfl ?_)))))))),DO _ (fun j av=> ?_) (fun m hm=> ?_) (by simp only;omega) (by simp) ?_ (by simp only;omega) (by simp),z7⟩
  ·simp only
   rw [k5,ol,u1,Lr,← jm]
  ·rw [jm] at av
   simp at av
   rcases av with rfl|rfl|rfl<;>simp<;>omega
  ·simp at hm
   unfold nS
   rcases hm with rfl|rfl
   ·simp only
    rw [aG,decide_eq_true (by omega),Bool.true_and,show (0:Int).toNat=0 from rfl,show (2:Int).toNat=2 from rfl,g0,g2];simp;omega
   ·simp only
    rw [aG,decide_eq_true (by omega),Bool.true_and,show (1:Int).toNat=1 from rfl,show (2:Int).toNat=2 from rfl,g1,g2];simp;omega
  ·simp only
   rw [aG,jm];rfl
 | true =>
  obtain ⟨Am,UX,d8,UY,WZ,Ul⟩:=j9 5 (by omega) (by omega) c aL i8 bG z7
  obtain ⟨Fs,Um,dZ,Un,SM,SN⟩:=Dy [1,2,3] (by simp) (by simp) c aL UX d8 Ul
  have UZ:U (Am-(1:Int))=Am-1:=cN (by omega) (by omega)
  have Wi:1≤Fs∧Fs≤3:=by simp at SM;omega
  obtain ⟨eS,jm⟩ : ∃eS:List a9,eS=([(⟨(⟨#[97]⟩:ByteArray),-1-fB,gA,true⟩:a9),(⟨(⟨#[98]⟩:ByteArray),3+lX,o0,true⟩:a9),(⟨(⟨#[99]⟩:ByteArray),o1-1,-1-o2,false⟩:a9)]:List a9)++([(⟨(⟨#[100]⟩:ByteArray),Am-1,(-7),true⟩:a9)]:List a9):=⟨_,rfl⟩
  have g0:eS[0]? = some ⟨⟨#[97]⟩,-1-fB,gA,true⟩:=by rw [jm];rfl
  have g1:eS[1]? = some ⟨⟨#[98]⟩,3+lX,o0,true⟩:=by rw [jm];rfl
  have g2:eS[2]? = some ⟨⟨#[99]⟩,o1-1,-1-o2,false⟩:=by rw [jm];rfl
  have g3:eS[3]? = some ⟨⟨#[100]⟩,Am-1,-7,true⟩:=by rw [jm];rfl
  have aG:eS.length=4:=by rw [jm];rfl
  refine ⟨eS,([⟨0,2,1⟩,⟨1,2,q9⟩]:List bu)++[⟨3,2,Fs⟩],Um,dZ,aS ar (aS ay (aS bR (aS dc (aS ed (aS eW (aS fm (aS ja (gm rfl (aS UY ?_))))))))),DO _ (fun j av=> ?_) (fun m hm=> ?_) (by simp only;omega) (by simp) ?_ (by simp only;omega) (by simp),SN⟩
  ·simp only
   rw [k5,ol,u1,Lr,UZ,← jm]
   exact bV (by rw [aG];omega) (aS Un (bV (by simp) rfl))
  ·rw [jm] at av
   simp at av
   rcases av with rfl|rfl|rfl|rfl<;>simp<;>omega
  ·simp at hm
   unfold nS
   rcases hm with rfl|rfl|rfl
   ·simp only
    rw [aG,decide_eq_true (by omega),Bool.true_and,show (0:Int).toNat=0 from rfl,show (2:Int).toNat=2 from rfl,g0,g2];simp;omega
   ·simp only
    rw [aG,decide_eq_true (by omega),Bool.true_and,show (1:Int).toNat=1 from rfl,show (2:Int).toNat=2 from rfl,g1,g2];simp;omega
   ·simp only
    rw [aG,decide_eq_true (by omega),Bool.true_and,show (3:Int).toNat=3 from rfl,show (2:Int).toNat=2 from rfl,g3,g2];simp;omega
  ·simp only
   rw [aG,jm];rfl
theorem Q4 (c:List Int)(aL:c.length≤1048576)(i h:Int)(af:0≤i): ∃eS fL dU bX,vi c i h=some (eS,fL,dU,bX)∧pn ⟨eS,fL⟩∧0≤dU:=by
 obtain ⟨b,mq,o,ar,nf⟩:=Dx 3 (by omega) (by omega) c aL i h af
 unfold vi
 cases b with
 | true =>
  obtain ⟨eS,fL,kZ,J,e,d,ng⟩:=RC c aL mq o nf
  exact ⟨eS,fL,kZ,J,aS ar (gm rfl (aS e rfl)),d,ng⟩
 | false =>
  obtain ⟨eS,fL,kZ,J,e,d,ng⟩:=Q3 c aL mq o nf
  exact ⟨eS,fL,kZ,J,aS ar (jq rfl (aS e rfl)),d,ng⟩
def mW (s:cQ)(l:List Int):Prop:=l.length=2*s.cc.length∧ ∀x∈l,-8≤x∧x≤4
theorem It (s:cQ)(d:pn s)(c:List Int)(aL:c.length≤1048576)(i h:Int)(af:0≤i): ∃l dU bX,tz s c i h=some (l,dU,bX)∧mW s l∧0≤dU:=by
 have bW:=d.v.2.2.1
 have ao:=d.FN
 have FT:U ((2:Int)*(len_ cA s.cc))=((2*s.cc.length:Nat):Int):=by rw [hX,cN (by omega) (by omega)];omega
 unfold tz
 rw [FT,Int.toNat_natCast]
 obtain ⟨⟨j,g,row⟩,e,aZ,bg,ck⟩:=jc (f:=fun w:Int×Int×Int×(List Int)=>rc s.cc (s.cc.length:Nat) c w.1 w.2.1 w.2.2.1 w.2.2.2) (fun (k:Nat) (q:Int×Int×List Int)=>((k:Int),q.1,q.2.1,q.2.2)) s.cc.length (fun _ q=>0≤q.1∧q.2.2.length=2*s.cc.length∧ ∀x∈q.2.2,-8≤x∧x≤4) (fun q=>q)
  (fun k aV q a1=>by
    obtain ⟨j,g,row⟩:=q
    obtain ⟨hU,iK,dn⟩:=a1
    simp only at hU iK dn
    have aa:=List.getElem?_eq_getElem aV
    have ol:U ((2:Int)*((k:Nat):Int))=((2*k:Nat):Int):=by rw [cN (by omega) (by omega)];omega
    by_cases f:s.cc[k].l4=true
    ·refine ⟨(j,g,row),?_,hU,iK,dn⟩
     simp only
     unfold rc
     exact dM (by omega) (bV (by omega) (aS (gt rfl aa) (gm f (by rw [fS (by omega)]))))
    ·obtain ⟨fq,jr,mY,ga,ax,s1⟩:=j9 7 (by omega) (by omega) c aL j g hU
     obtain ⟨ek,fh,q6,hj,bJ,s2⟩:=j9 9 (by omega) (by omega) c aL jr mY s1
     have v1:U (fq-(3:Int))=fq-3:=cN (by omega) (by omega)
     have v2:U (0-ek)=0-ek:=cN (by omega) (by omega)
     refine ⟨(fh,q6,(row.set (2*k) (fq-3)).set (2*k+1) (0-ek)),?_,s2,by simp only [List.length_set];omega,fun x hm=> ?_⟩
     ·simp only
      unfold rc
      rw [ol,fS (n:=2*k) (by omega),Int.toNat_natCast,Int.toNat_natCast,Nat.zero_add,Nat.zero_add]
      refine dM (by omega) (bV (by omega) (aS (gt rfl aa) (jq (by simpa using f) (aS ga (bV (by omega) (bV (by omega) (aS hj (bV (by omega) (bV (by rw [List.length_set];omega) ?_)))))))))
      simp only
      rw [v1,v2,fS (by omega),Int.toNat_natCast]
     ·simp only at hm
      rcases List.mem_or_eq_of_mem_set hm with hm|rfl
      ·rcases List.mem_or_eq_of_mem_set hm with hm|rfl
       ·exact dn x hm
       ·omega
      ·omega)
  (fun q _=>by simp only;unfold rc;exact eb (by omega) rfl) (i,h,List.replicate (2*s.cc.length) 0) ⟨af,by simp,fun x aa=>by
    simp only [List.mem_replicate] at aa;omega⟩
 simp only at aZ bg ck
 obtain ⟨b,kZ,J,ay,ng⟩:=Dx 8 (by omega) (by omega) c aL j g aZ
 have cl:x3 s.cc (len_ cA s.cc) c 0 i h (List.replicate (2*s.cc.length) 0)=some (j,g,row):=by
  unfold x3
  rw [hX]
  exact e
 cases b with
 | false=>exact ⟨row,kZ,J,bV (by omega) (aS cl (aS ay (jq rfl rfl))),⟨bg,ck⟩,ng⟩
 | true =>
  have wl:U (((row.length:Nat):Int)-(1:Int))=((row.length-1:Nat):Int):=by rw [cN (by omega) (by omega)];omega
  refine ⟨row.set (row.length-1) 4,kZ,J,bV (by omega) (aS cl (aS ay (gm rfl ?_))),⟨by rw [List.length_set];exact bg,fun x hm=> ?_⟩,ng⟩
  ·simp only
   rw [wl,Int.toNat_natCast,Nat.zero_add]
   exact bV (by omega) (bV (by omega) rfl)
  ·rcases List.mem_or_eq_of_mem_set hm with hm|rfl
   ·exact ck x hm
   ·omega
theorem OC (c:List Int)(aL:c.length≤1048576): ∃s l,yk c=some (s,l)∧pn s∧mW s l:=by
 obtain ⟨h0,e0⟩:=Ju c aL
 obtain ⟨eS,fL,mq,o,ar,d,nf⟩:=Q4 c aL 0 h0 (by omega)
 obtain ⟨l,kZ,J,ay,pt,-⟩:=It ⟨eS,fL⟩ d c aL mq o nf
 exact ⟨⟨eS,fL⟩,l,aS e0 (aS (x:=(eS,fL,l,kZ,J)) (aS ar (aS ay rfl)) rfl),d,pt⟩
theorem OD (s:cQ)(d:pn s)(c:List Int)(aL:c.length≤1048576)(n:Nat)(a5:n≤1000): ∃l,yl c (n:Int) s=some l∧mW s l:=by
 obtain ⟨i,h,e,af⟩:=Is c aL n a5
 obtain ⟨l,kZ,J,ay,pt,-⟩:=It s d c aL i h af
 exact ⟨l,aS e (aS ay rfl),pt⟩
theorem OE (s:cQ)(v:ob s)(l:List Int)(aG:l.length=2*s.cc.length)(aP:∀x∈l,-100≤x∧x≤100): ∃r,qd s l=some r∧(r=true↔oI (2*fv s) (d4 s) (km s) (k6 s l)):=by
 obtain ⟨q,aZ,bg⟩:=QB (RA s v l aP)
 unfold qd
 rcases bg with ⟨bT,t,a8,g,dY,rfl,-⟩|⟨bT,rfl⟩
 ·exact ⟨true,aS (GK s v l aG aP) (aS aZ rfl),by simp [bT]⟩
 ·exact ⟨false,aS (GK s v l aG aP) (aS aZ rfl),by simp [bT]⟩
theorem zk (s:cQ)(d:pn s)(l:List Int)(aG:l.length=2*s.cc.length)(aP:∀x∈l,-100≤x∧x≤100):om s l=some true∧yw s l=some true:=by
 have e:zj s.cc.length l=true:=by
  unfold zj
  rw [decide_eq_true aG,Bool.true_and,List.all_eq_true]
  intro x aa
  unfold qv
  exact decide_eq_true (aP x aa)
 have f:=Oz s d.v.2.2.1 l (by rw [aG,HT];have:=d.v.2.2.1;omega)
 rw [e] at f
 exact ⟨f,aS d.ok (gm rfl (aS f rfl))⟩
theorem Ef (s:cQ)(d:pn s)(l:List Int)(aG:l.length=2*s.cc.length)(aP:∀x∈l,-100≤x∧x≤100): ∃r,tB s l=some r∧qd s l=some r∧(r=true↔oI (2*fv s) (d4 s) (km s) (k6 s l)):=by
 obtain ⟨r,ax,bJ⟩:=OE s d.v l aG aP
 exact ⟨r,aS (zk s d l aG aP).2 (gm rfl (aS ax rfl)),ax,bJ⟩
theorem mW.eV {s:cQ}{l:List Int}(h:mW s l): ∀x∈l,-100≤x∧x≤100:=fun x aa=>by have:=h.2 x aa;omega
theorem xH {α β:Type}{f:α→Option (α⊕β)}{a cG:α}{r:Option β}(h:f a=some (.inl cG))(k:iter f cG=r):iter f a=r:=by rw [iter,h];exact k
theorem An {α β:Type}{f:α→Option (α⊕β)}{a:α}{b:β}(h:f a=some (.inr b)):iter f a=some b:=by rw [iter,h];rfl
def pT (l m:List Int)(u v:Int):List Int:=bs l.length fun i=>l.getD i 0*u+m.getD i 0*v
theorem zl {x u:Int}(o:-8≤x∧x≤4)(J:0≤u∧u≤3): -24≤x*u∧x*u≤12:=by
 have:u=0∨u=1∨u=2∨u=3:=by omega
 rcases this with rfl|rfl|rfl|rfl<;>omega
theorem Dz {s:cQ}{l:List Int}(h:mW s l)(i:Nat): -8≤l.getD i 0∧l.getD i 0≤4:=by
 rw [List.getD_eq_getElem?_getD]
 cases e:l[i]? with
 | none=>simp
 | some x=>exact h.2 x (List.mem_of_getElem? e)
theorem I1 {s:cQ}{l m:List Int}(aG:mW s l)(hm:mW s m){u v:Int}(hu:0≤u∧u≤3)(aX:0≤v∧v≤3):(pT l m u v).length=2*s.cc.length∧ ∀x∈pT l m u v,-100≤x∧x≤100:=by
 refine ⟨by unfold pT;rw [ee];exact aG.1,fun x aa=> ?_⟩
 obtain ⟨i,-,rfl⟩:=IP.1 aa
 have a:=zl (Dz aG i) hu
 have b:=zl (Dz hm i) aX
 omega
theorem PO {s:cQ}{l:List Int}(aG:mW s l)(bW:s.cc.length≤6)(ws:List Int)(k:Nat){u:Int}(aV:ws[k]? = some u)(hu:0≤u∧u≤3)(mY:List (List Int))(q6:Int)(f:Nat→Int)(bM:∀i,-100≤f i∧f i≤100):
 x7 ws (k:Int) mY q6 l (len_ R l) s.cc s.cK 0 (bs l.length f)=some (bs l.length fun i=>f i+l.getD i 0*u):=by
 have W0:=e2 aV
 have z2:=aG.1
 unfold x7
 rw [hX]
 obtain ⟨_,e,-⟩:=jc (f:=fun w:Int×List Int=>s9 ws (k:Int) mY q6 l (l.length:Nat) s.cc s.cK w.1 w.2) (fun (n:Nat) (_:Unit)=>((n:Int),bs l.length fun i=>if i<n then f i+l.getD i 0*u else f i)) l.length (fun _ _=>True) (fun _=>bs l.length fun i=>f i+l.getD i 0*u)
  (fun n a5 _ _=>by
    refine ⟨(),?_,trivial⟩
    have aa:=List.getElem?_eq_getElem a5
    have bq:l.getD n 0=l[n]:=by rw [List.getD_eq_getElem?_getD,aa];rfl
    have fB:=zl (aG.2 _ (List.getElem_mem a5)) hu
    have gA:=bM n
    simp only
    unfold s9
    refine dM (by omega) (bV (by omega) (aS (gt rfl aa) (bV (by rw [ee];omega) (aS (x:=f n) (by rw [Int.toNat_natCast,jd a5,if_neg (by omega)]) (bV (by omega) (aS (gt rfl aV) (bV (by rw [ee,Int.toNat_natCast];omega) ?_)))))))
    rw [fS (by omega),cN (x:=l[n]*u) (by omega) (by omega),cN (x:=f n+l[n]*u) (by omega) (by omega),Int.toNat_natCast,Nat.zero_add,l3]
    congr 3
    refine fI fun i _=> ?_
    by_cases c:i=n
    ·subst c;rw [if_pos rfl,if_pos (by omega),bq]
    ·rw [if_neg c]
     by_cases d:i<n
     ·rw [if_pos d,if_pos (by omega)]
     ·rw [if_neg d,if_neg (by omega)])
  (fun _ _=>by
    simp only
    unfold s9
    refine eb (by omega) ?_
    rw [fI (g:=fun i=>f i+l.getD i 0*u) fun i af=>if_pos af]) () trivial
 rw [fI (g:=f) fun i _=>if_neg (by omega)] at e
 exact e
theorem RD (s:cQ)(d:pn s)(l m:List Int)(aG:mW s l)(hm:mW s m)(u v:Int)(hu:0≤u∧u≤3)(aX:0≤v∧v≤3):vn s [l,m] [u,v]=some (pT l m u v,true):=by
 have bW:=d.v.2.2.1
 have FT:U ((2:Int)*(len_ cA s.cc))=((2*s.cc.length:Nat):Int):=by rw [hX,cN (by omega) (by omega)];omega
 have fb:vm s=some (.inl (bs l.length fun _=>(0:Int))):=by
  unfold vm
  refine aS d.ok (gm rfl ?_)
  rw [FT,Int.toNat_natCast,oy,aG.1]
  exact bV (by omega) rfl
 obtain ⟨fB,gA⟩:=I1 aG hm hu aX
 have Uo:m.length=l.length:=by rw [aG.1,hm.1]
 have bR:x8 [u,v] [l,m] (len_ (cl 1 R) [l,m]) s.cc s.cK 0 (bs l.length fun _=>(0:Int))=some (.inl (pT l m u v)):=by
  unfold x8
  have hlen:len_ (cl 1 R) [l,m]=2:=by rw [hX];rfl
  rw [hlen]
  have cm : ∀(k:Nat) (x:List Int) (w:Int) (f g:Nat→Int),[l,m][k]? = some x→[u,v][k]? = some w→mW s x→x.length=l.length→0≤w∧w≤3→(∀i,-100≤f i∧f i≤100)→(∀i,i<l.length→f i+x.getD i 0*w=g i)→re [u,v] [l,m] 2 s.cc s.cK (k:Int) (bs l.length f)=some (.inl (((k+1:Nat):Int),bs l.length g)):=fun k x w f g aa hw u2 Ep Up bM dd=>by
   have aV:=e2 aa
   have zR:k<2:=aV
   unfold re
   refine dM (by omega) (bV (by show 0≤(k:Int)∧(k:Int)<((2:Nat):Int);omega) (aS (gt rfl aa) (aS (zk s d x u2.1 u2.eV).1 (gm rfl (bV (by show 0≤(k:Int)∧(k:Int)<((2:Nat):Int);omega) (aS (gt rfl hw) (eb (by omega) (eb (by omega) (aS (x:=bs l.length g) ?_ (by rw [fS (by omega)]))))))))))
   have:=PO u2 bW [u,v] k hw Up [l,m] 2 f bM
   rw [Ep] at this
   rw [this,fI dd]
  have gB:=cm 0 l u (fun _=>0) (fun i=>l.getD i 0*u) rfl rfl aG rfl hu (fun i=>by omega) (fun i _=>by omega)
  have s1:=cm 1 m v (fun i=>l.getD i 0*u) (fun i=>l.getD i 0*u+m.getD i 0*v) rfl rfl hm Uo aX (fun i=>by have:=zl (Dz aG i) hu;omega) (fun i _=>rfl)
  have s2:re [u,v] [l,m] 2 s.cc s.cK ((2:Nat):Int) (bs l.length fun i=>l.getD i 0*u+m.getD i 0*v)=some (.inr (.inl (pT l m u v))):=by
   unfold re
   exact eb (by omega) rfl
  exact xH (cG:=(((1:Nat):Int),_)) gB (xH (cG:=(((2:Nat):Int),_)) s1 (An s2))
 unfold vn
 exact jq (zP rfl) (eb (by rw [hX];simp) (aS d.ok (gm rfl (aS fb (aS bR (aS (zk s d _ fB gA).1 (gm rfl rfl)))))))
theorem QC (s:cQ)(l m:List Int)(aG:mW s l)(hm:mW s m){u v:Int}(hu:0≤u)(aX:0≤v)(o:oI (2*fv s) (d4 s) (km s) (k6 s l))(J:oI (2*fv s) (d4 s) (km s) (k6 s m)):oI (2*fv s) (d4 s) (km s) (k6 s (pT l m u v)):=by
 obtain ⟨x,fq,ek⟩:=o
 obtain ⟨y,jr,fh⟩:=J
 have lh:(0:Rat)≤(u:Rat):=Rat.intCast_nonneg.2 hu
 have r4:(0:Rat)≤(v:Rat):=Rat.intCast_nonneg.2 aX
 refine ⟨fun j=>(u:Rat)*x j+(v:Rat)*y j,fun j av=> ?_,fun i af=> ?_⟩
 ·have a:=Rat.mul_nonneg lh (fq j av)
  have b:=Rat.mul_nonneg r4 (jr j av)
  grind
 ·have e:ca (d4 s) (fun j=>(km s i j:Rat)*((u:Rat)*x j+(v:Rat)*y j))=(u:Rat)*ca (d4 s) (fun j=>(km s i j:Rat)*x j)+(v:Rat)*ca (d4 s) (fun j=>(km s i j:Rat)*y j):=by
   rw [← hx,← hx,← ql]
   exact fr fun j _=>by grind
  have bM:=Jr s (show i / 2<fv s by omega)
  have ae:k6 s (pT l m u v) i=k6 s l i*u+k6 s m i*v:=by
   unfold k6 pT
   rw [List.getD_eq_getElem?_getD,hM (by rw [aG.1];omega)]
   simp only [Option.getD_some]
   rw [Int.neg_mul,Int.neg_mul];omega
  rw [e,ek i af,fh i af,ae,Rat.intCast_add,Rat.intCast_mul,Rat.intCast_mul];grind
theorem Nn (x0:List Int)(i0:(fun l=>l.length≤maxLen∧ ∀x∈l,(fun _=>True) x) x0):ys x0=some true:=by
 unfold ys
 by_cases h0:(1048576:Int)<len_ eU8 x0
 ·exact dM h0 rfl
 have aL:x0.length≤1048576:=by rw [hX] at h0;omega
 obtain ⟨s,l,ar,d,pt⟩:=OC x0 aL
 obtain ⟨m,ay,u3⟩:=OD s d x0 aL 40 (by omega)
 obtain ⟨cj,bR,U0⟩:=Hx x0 aL 50 (by omega)
 obtain ⟨fu,dc,U1⟩:=Hx x0 aL 52 (by omega)
 have fl:0≤cj.tmod 4∧cj.tmod 4≤3:=by rw [Int.tmod_eq_emod_of_nonneg U0];omega
 have v3:0≤fu.tmod 4∧fu.tmod 4≤3:=by rw [Int.tmod_eq_emod_of_nonneg U1];omega
 obtain ⟨fB,gA⟩:=I1 pt u3 fl v3
 obtain ⟨p,bH,cq,mj⟩:=Ef s d l pt.1 pt.eV
 obtain ⟨q,g1,g2,g3⟩:=Ef s d m u3.1 u3.eV
 obtain ⟨z,mY,-,FR⟩:=Ef s d _ fB gA
 refine eb h0 (aS ar (aS ay (aS bR (aS dc (aS (RD s d l m pt u3 _ _ fl v3) ?_)))))
 have hcs:rq s [l,m]=some true:=by
  unfold rq
  have hlen:len_ (cl 1 R) [l,m]=2:=by rw [hX];rfl
  rw [hlen]
  refine eb (by omega) (eb (by omega) (aS d.ok (gm rfl (aS (x:= .inl ()) ?_ rfl))))
  unfold Cu
  obtain ⟨_,e,-⟩:=jc (f:=fun w:Int=>ta s.cc s.cK [l,m] 2 w) (fun (k:Nat) (_:Unit)=>(k:Int)) 2 (fun _ _=>True) (fun _=>(.inl ():Unit⊕Unit))
   (fun k aV _ _=>by
     refine ⟨(),?_,trivial⟩
     have aa:=List.getElem?_eq_getElem (show k<[l,m].length from aV)
     have u2:mW s [l,m][k]:=by
      have:k=0∨k=1:=by omega
      rcases this with rfl|rfl
      ·exact pt
      ·exact u3
     unfold ta
     exact dM (by omega) (bV (by show 0≤(k:Int)∧(k:Int)<((2:Nat):Int);omega) (aS (gt rfl aa) (aS (zk s d _ u2.1 u2.eV).1 (gm rfl (by rw [fS (by omega)]))))))
   (fun _ _=>by unfold ta;exact eb (by omega) rfl) () trivial
  exact e
 have Ka:s5 s [l,m]=some (if p then (if q then -1 else 1) else 0):=by
  unfold s5 A8
  have hlen:len_ (cl 1 R) [l,m]=2:=by rw [hX];rfl
  rw [hlen]
  have cm : ∀(k:Nat) (x:List Int) (r:Bool),[l,m][k]? = some x→qd s x=some r→rb s.cc s.cK [l,m] 2 (k:Int)=some (if r then .inl ((k+1:Nat):Int) else .inr (.inr (k:Int))):=fun k x r aa ah=>by
   have aV:=e2 aa
   have zR:k<2:=aV
   unfold rb
   refine dM (by omega) (bV (by show 0≤(k:Int)∧(k:Int)<((2:Nat):Int);omega) (aS (gt rfl aa) (aS ah ?_)))
   rw [fS (by omega)]
   cases r<;>rfl
  have gB:=cm 0 l p rfl cq
  have s1:=cm 1 m q rfl g2
  have s2:rb s.cc s.cK [l,m] 2 ((2:Nat):Int)=some (.inr (.inl ())):=by unfold rb;exact eb (by omega) rfl
  cases p with
  | false=>exact aS (x:= .inr 0) (An (b:=(Sum.inr (0:Int):Unit⊕Int)) gB) rfl
  | true =>
   cases q with
   | false=>exact aS (x:= .inr 1) (xH (cG:=((1:Nat):Int)) gB (An (b:=(Sum.inr (1:Int):Unit⊕Int)) s1)) rfl
   | true=>exact aS (x:= .inl ()) (xH (cG:=((1:Nat):Int)) gB (xH (cG:=((2:Nat):Int)) s1 (An s2))) rfl
 have sn:x6 s [l,m]=some (if p then (if q then -1 else 1) else 0):=aS hcs (gm rfl (aS Ka rfl))
 have Uq:yr s [l,m]=some true:=aS hcs rfl
 have Ur:yi s [l,m]=some (decide ((if p then (if q then (-1:Int) else 1) else 0)<0)):=aS hcs (gm rfl (aS Ka rfl))
 refine aS sn (gm rfl (aS Uq (gm rfl (aS Ur (gm (by simp) ?_)))))
 cases p with
 | false=>exact eb (by simp) (dM (by simp) (bV (by simp) (aS (x:=l) rfl (aS bH (jq rfl rfl)))))
 | true =>
  cases q with
  | false=>exact eb (by simp) (dM (by simp) (bV (by simp) (aS (x:=m) rfl (aS g1 (jq rfl rfl)))))
  | true =>
   have b6:z=true:=FR.2 (QC s l m pt u3 fl.1 v3.1 (mj.1 rfl) (g3.1 rfl))
   rw [b6] at mY
   exact eb (by simp) (eb (by simp) (dM (by simp) (aS mY rfl)))
end Go.Proofs.Ytjkpomjgokofmac
