/- Lemmas, plain functions of the program, and what they answer. No condition. -/
import Derived.Test.YtamedijmgkdlgabGreatME
namespace Go.Proofs.YtamedijmgkdlgabGreat
set_option linter.unusedVariables false
set_option linter.unusedSimpArgs false
open Go Go.VL
theorem aba (s:ct)(i0:jn s)(h:j5 s=some true)(j:Int)(q1:List Int)(a2 bO:Int)(b4:List (List Int)):
 Cq s.bZ s.bB j q1 a2 bO (len_ bU s.bB) b4 0 (a7 s.bB.length fun _=>(0:Int)) (a7 s.bB.length fun _=>(0:Int))=some (a7 s.bB.length (iy s j 0),a7 s.bB.length (iy s j 1)):=by
 obtain ⟨-,-,f3,f4⟩:=nR s i0 h
 unfold Cq
 rw [e5]
 obtain ⟨x,e,-⟩:=hT (f:=fun w:Int×List Int×List Int=>vH s.bZ s.bB j q1 a2 bO (s.bB.length:Nat) b4 w.1 w.2.1 w.2.2) (fun (n:Nat) (_:Unit)=>((n:Int),(a7 s.bB.length fun k=>if k<n then iy s j 0 k else 0),a7 s.bB.length fun k=>if k<n then iy s j 1 k else 0)) s.bB.length (fun _ _=>True) (fun _=>(a7 s.bB.length (iy s j 0),a7 s.bB.length (iy s j 1)))
  (fun n a4 _ _=>by
    refine ⟨(),?_,trivial⟩
    have U:=List.getElem?_eq_getElem a4
    obtain ⟨v1,-,v3,v4⟩:=J9 s i0 h n a4
    have dy : ∀i6 v,v=iy s j i6 n→(a7 s.bB.length fun k=>if k<n then iy s j i6 k else 0).set n v=a7 s.bB.length fun k=>if k<n+1 then iy s j i6 k else 0:=fun i6 v bh=>by
     rw [k4]
     refine e4 fun k _=> ?_
     by_cases c:k=n
     ·subst c;rw [if_pos rfl,if_pos (by omega)];exact bh
     ·rw [if_neg c]
      by_cases cg:k<n
      ·rw [if_pos cg,if_pos (by omega)]
      ·rw [if_neg cg,if_neg (by omega)]
    have g1 : ∀F:Nat→Int,0≤((n:Nat):Int)∧((n:Nat):Int)<((a7 s.bB.length F).length:Nat):=fun F=>by rw [cZ];omega
    have g2 : ∀F:Nat→Int,0+((n:Nat):Int).toNat<(a7 s.bB.length F).length:=fun F=>by rw [cZ,Int.toNat_natCast];omega
    unfold vH
    refine dz (by simp only;omega) (bH (by simp only;omega) (aR (x:=s.bB[n]) (by simp only;rw [Int.toNat_natCast];exact U) (aR (x:=lK s n) v1 ?_)))
    simp only
    by_cases bu:j=s.bB[n].dI
    ·have e0 : ∀i6,iy s j i6 n=if i6=0 then (lK s n).1 else (lK s n).2:=fun i6=>by unfold iy;rw [U];simp only [if_pos bu]
     refine f7 (sn bu) (bH (g1 _) (bH (g2 _) (bH (g1 _) (bH (g2 _) ?_))))
     rw [fo (by omega),Int.toNat_natCast,Nat.zero_add,dy 0 _ (by rw [e0];rfl),dy 1 _ (by rw [e0];rfl)]
    ·refine h4 (va bu) ?_
     by_cases cg:j=s.bB[n].el
     ·have e0 : ∀i6,iy s j i6 n = -(if i6=0 then (lK s n).1 else (lK s n).2):=fun i6=>by unfold iy;rw [U];simp only [if_neg bu,if_pos cg]
      refine f7 (sn cg) (bH (g1 _) (bH (g2 _) (bH (g1 _) (bH (g2 _) ?_))))
      rw [fo (by omega),Int.toNat_natCast,Nat.zero_add,cy (by omega) (by omega),cy (by omega) (by omega),dy 0 _ (by rw [e0];simp),dy 1 _ (by rw [e0];simp)]
     ·have e0 : ∀i6,iy s j i6 n=0:=fun i6=>by unfold iy;rw [U];simp only [if_neg bu,if_neg cg]
      refine h4 (va cg) ?_
      rw [fo (by omega)]
      congr 4
      ·refine e4 fun k _=> ?_
       by_cases c:k=n
       ·subst c;rw [if_neg (by omega),if_pos (by omega),e0]
       ·by_cases cg:k<n
        ·rw [if_pos cg,if_pos (by omega)]
        ·rw [if_neg cg,if_neg (by omega)]
      ·refine e4 fun k _=> ?_
       by_cases c:k=n
       ·subst c;rw [if_neg (by omega),if_pos (by omega),e0]
       ·by_cases cg:k<n
        ·rw [if_pos cg,if_pos (by omega)]
        ·rw [if_neg cg,if_neg (by omega)])
  (fun _ _=>by
    unfold vH
    refine dZ (by simp) ?_
    simp only
    congr 3
    ·exact e4 fun k a8=>by rw [if_pos a8]
    ·exact e4 fun k a8=>by rw [if_pos a8]) () trivial
 have z : ∀i6,(a7 s.bB.length fun k=>if k<0 then iy s j i6 k else 0)=a7 s.bB.length fun _=>(0:Int):=fun i6=>e4 fun k _=>by rw [if_neg (by omega)]
 rw [z,z] at e
 exact e
def ho (s:ct)(q:Nat):Nat:=(kK s.bZ 0).getD q 0
def fr (s:ct):Nat:=(kK s.bZ 0).length
def kq (s:ct)(r k:Nat):Int:=iy s (ho s (r / 2)) (r % 2) k
theorem Ag (s:ct):(kK s.bZ 0).map (fun n:Nat=>(n:Int))=a7 (fr s) fun q=>((ho s q:Nat):Int):=by
 apply List.ext_getElem?
 intro q
 rw [List.getElem?_map]
 by_cases c:q<fr s
 ·rw [f9 c]
  have h:(kK s.bZ 0)[q]? = some (kK s.bZ 0)[q]:=List.getElem?_eq_getElem c
  unfold ho
  rw [List.getD_eq_getElem?_getD,h];rfl
 ·rw [List.getElem?_eq_none_iff.2 (by unfold fr at c;omega),List.getElem?_eq_none_iff.2 (by rw [cZ];omega)];rfl
theorem QK (s:ct){q:Nat}(h:q<fr s):ho s q<s.bZ.length:=by
 have h1:(kK s.bZ 0)[q]? = some (kK s.bZ 0)[q]:=List.getElem?_eq_getElem h
 have o:ho s q=(kK s.bZ 0)[q]:=by unfold ho;rw [List.getD_eq_getElem?_getD,h1];rfl
 have:=J5 s.bZ 0 _ (List.mem_of_getElem? h1)
 omega
theorem x3 (s:ct):fr s≤s.bZ.length:=PE s.bZ 0
theorem Kk {α:Type}(r n:Nat)(e:Nat→Nat→α):(a7 (r*n) fun x=>e (x / n) (x % n))++a7 n (e r)=a7 ((r+1)*n) fun x=>e (x / n) (x % n):=by
 rw [Nat.succ_mul,aa8]
 congr 1
 refine e4 fun j aF=> ?_
 have h1:(r*n+j) / n=r:=by rw [Nat.mul_comm,Nat.mul_add_div (by omega),Nat.div_eq_of_lt aF];rfl
 have o:(r*n+j) % n=j:=by rw [Nat.mul_comm,Nat.mul_add_mod,Nat.mod_eq_of_lt aF]
 rw [h1,o]
theorem Y3 (s:ct)(i0:jn s)(h:j5 s=some true):zK s=some (a7 (2*fr s*s.bB.length) fun x=>kq s (x / s.bB.length) (x % s.bB.length)):=by
 obtain ⟨-,-,f3,f4⟩:=nR s i0 h
 have tC:=x3 s
 unfold zK
 refine aR (JH s (by omega)) ?_
 rw [Ag,fO,cZ]
 unfold IM
 obtain ⟨x,e,-⟩:=hT (f:=fun w:Int×List Int=>wB (a7 (fr s) fun q=>((ho s q:Nat):Int)) ((fr s:Nat):Int) s.bZ s.bB w.1 w.2) (fun (n:Nat) (_:Unit)=>((n:Int),a7 (2*n*s.bB.length) fun x=>kq s (x / s.bB.length) (x % s.bB.length))) (fr s) (fun _ _=>True) (fun _=>a7 (2*fr s*s.bB.length) fun x=>kq s (x / s.bB.length) (x % s.bB.length))
  (fun n a4 _ _=>by
    refine ⟨(),?_,trivial⟩
    have aS:2*n*s.bB.length≤12*8:=Nat.mul_le_mul (by omega) f4
    unfold wB
    refine dz (by simp only;omega) (bH (by rw [cZ];simp only;omega) (aR (x:=((ho s n:Nat):Int)) (by simp only;rw [Int.toNat_natCast];exact f9 a4) (aR (aa9 s i0 h _ _ _ _ _) ?_)))
    refine bH (by simp only [List.length_append,cZ];omega) (bH (by simp only [List.length_append,cZ];omega) ?_)
    simp only
    rw [fo (by omega)]
    have r1:a7 s.bB.length (iy s (ho s n) 0)=a7 s.bB.length (kq s (2*n)):=e4 fun k _=>by
     unfold kq;rw [show 2*n / 2=n by omega,show 2*n % 2=0 by omega]
    have b1:a7 s.bB.length (iy s (ho s n) 1)=a7 s.bB.length (kq s (2*n+1)):=e4 fun k _=>by
     unfold kq;rw [show (2*n+1) / 2=n by omega,show (2*n+1) % 2=1 by omega]
    rw [r1,b1,Kk (2*n),Kk (2*n+1),show 2*n+1+1=2*(n+1) by omega])
  (fun _ _=>by unfold wB;exact dZ (by simp) rfl) () trivial
 have z:(a7 (2*0*s.bB.length) fun x=>kq s (x / s.bB.length) (x % s.bB.length))=[]:=by simp [a7]
 rw [z] at e
 exact aR e rfl
theorem Xs (s:ct)(i0:jn s)(h:j5 s=some true):yT s=some (a7 (2*fr s) fun r=>a7 s.bB.length (kq s r)):=by
 obtain ⟨-,-,f3,f4⟩:=nR s i0 h
 have tC:=x3 s
 unfold yT
 refine aR (NQ s (by omega)) ?_
 rw [Ag,fO,cZ]
 unfold Fs
 obtain ⟨x,e,-⟩:=hT (f:=fun w:Int×List (List Int)=>vI s.bZ s.bB (a7 (fr s) fun q=>((ho s q:Nat):Int)) ((fr s:Nat):Int) w.1 w.2) (fun (n:Nat) (_:Unit)=>((n:Int),a7 (2*n) fun r=>a7 s.bB.length (kq s r))) (fr s) (fun _ _=>True) (fun _=>a7 (2*fr s) fun r=>a7 s.bB.length (kq s r))
  (fun n a4 _ _=>by
    refine ⟨(),?_,trivial⟩
    unfold vI
    refine dz (by simp only;omega) (bH (by rw [cZ];simp only;omega) (aR (x:=((ho s n:Nat):Int)) (by simp only;rw [Int.toNat_natCast];exact f9 a4) (bH (by rw [e5];omega) ?_)))
    refine aR (x:=(a7 s.bB.length (iy s (ho s n) 0),a7 s.bB.length (iy s (ho s n) 1))) (by rw [show (len_ bU s.bB).toNat=s.bB.length by rw [e5,Int.toNat_natCast],qu];exact aba s i0 h _ _ _ _ _) (bH (by simp only [List.length_append,cZ,List.length_cons,List.length_nil];omega) ?_)
    simp only
    rw [fo (by omega),show 2*(n+1)=2*n+1+1 by omega,k3 (2*n+1),k3 (2*n)]
    have r1:a7 s.bB.length (iy s (ho s n) 0)=a7 s.bB.length (kq s (2*n)):=e4 fun k _=>by
     unfold kq;rw [show 2*n / 2=n by omega,show 2*n % 2=0 by omega]
    have b1:a7 s.bB.length (iy s (ho s n) 1)=a7 s.bB.length (kq s (2*n+1)):=e4 fun k _=>by
     unfold kq;rw [show (2*n+1) / 2=n by omega,show (2*n+1) % 2=1 by omega]
    rw [r1,b1];simp)
  (fun _ _=>by unfold vI;exact dZ (by simp) rfl) () trivial
 exact aR e rfl
def gr (s:ct):List eA:=lx s.bB s.bB.length
def dq (s:ct):Nat:=(gr s).length
def mC (s:ct)(c:Nat):Nat:=((gr s).getD c ⟨0,0⟩).mG.toNat
def pK (s:ct)(c:Nat):Int:=((gr s).getD c ⟨0,0⟩).p4
def kI (s:ct)(i c:Nat):Int:=pK s c*kq s i (mC s c)
def mf (s:ct)(l:List Int)(i:Nat):Int:= -(l.getD (2*ho s (i / 2)+i % 2) 0)
theorem AE (s:ct){c:Nat}(bf:c<dq s):(gr s)[c]? = some ⟨(mC s c:Int),pK s c⟩∧mC s c<s.bB.length∧(pK s c=1∨pK s c = -1):=by
 have h1:(gr s)[c]? = some (gr s)[c]:=List.getElem?_eq_getElem bf
 have o:(gr s).getD c ⟨0,0⟩=(gr s)[c]:=by rw [List.getD_eq_getElem?_getD,h1];rfl
 obtain ⟨k,e1,aD,bS⟩:=PI (Nat.le_refl _) (List.mem_of_getElem? h1)
 have da:mC s c=k:=by unfold mC;rw [o,e1];rfl
 have dl:pK s c=((gr s)[c]).p4:=by unfold pK;rw [o]
 refine ⟨?_,by omega,by rw [dl];exact bS⟩
 rw [h1,da,dl,← e1]
theorem KL (s:ct):dq s≤2*s.bB.length:=DD _ _
theorem abb (s:ct):(gr s).map eA.mG=a7 (dq s) fun c=>((mC s c:Nat):Int):=by
 apply List.ext_getElem?
 intro c
 rw [List.getElem?_map]
 by_cases h:c<dq s
 ·rw [(AE s h).1,f9 h];rfl
 ·rw [List.getElem?_eq_none_iff.2 (by unfold dq at h;omega),List.getElem?_eq_none_iff.2 (by rw [cZ];omega)];rfl
theorem abc (s:ct):(gr s).map eA.p4=a7 (dq s) (pK s):=by
 apply List.ext_getElem?
 intro c
 rw [List.getElem?_map]
 by_cases h:c<dq s
 ·rw [(AE s h).1,f9 h];rfl
 ·rw [List.getElem?_eq_none_iff.2 (by unfold dq at h;omega),List.getElem?_eq_none_iff.2 (by rw [cZ];omega)];rfl
theorem KM (s:ct)(i0:jn s)(h:j5 s=some true)(i:Nat){c:Nat}(bf:c<dq s): -100≤kI s i c∧kI s i c≤100:=by
 have h1:=abH s i0 h (ho s (i / 2)) (i % 2) (mC s c)
 unfold kI kq
 rcases (AE s bf).2.2 with e|e<;>rw [e]<;>omega
theorem aaE (s:ct)(i0:jn s)(h:j5 s=some true)(l:List Int)(aT:l.length=2*s.bZ.length)(aS:∀x∈l,-100≤x∧x≤100):zu s l=some (a7 (2*fr s) (mf s l)):=by
 obtain ⟨-,-,f3,f4⟩:=nR s i0 h
 have tC:=x3 s
 unfold zu
 refine aR (JH s (by omega)) ?_
 rw [Ag,fO,cZ]
 unfold Iy
 obtain ⟨x,e,-⟩:=hT (f:=fun w:Int×List Int=>wt l (a7 (fr s) fun q=>((ho s q:Nat):Int)) ((fr s:Nat):Int) w.1 w.2) (fun (n:Nat) (_:Unit)=>((n:Int),a7 (2*n) (mf s l))) (fr s) (fun _ _=>True) (fun _=>a7 (2*fr s) (mf s l))
  (fun n a4 _ _=>by
    refine ⟨(),?_,trivial⟩
    have cl:=QK s a4
    have pI:R ((2:Int)*((ho s n:Nat):Int))=((2*ho s n:Nat):Int):=by rw [cy (by omega) (by omega)];omega
    have tG:R (((2*ho s n:Nat):Int)+1)=((2*ho s n+1:Nat):Int):=fo (by omega)
    have x1:=aS l[2*ho s n] (List.getElem_mem (by omega))
    have dY:=aS l[2*ho s n+1] (List.getElem_mem (by omega))
    have p1:mf s l (2*n) = -l[2*ho s n]:=by
     unfold mf
     rw [show 2*n / 2=n by omega,show 2*n % 2=0 by omega,Nat.add_zero,List.getD_eq_getElem?_getD,List.getElem?_eq_getElem (by omega)];rfl
    have hi:mf s l (2*n+1) = -l[2*ho s n+1]:=by
     unfold mf
     rw [show (2*n+1) / 2=n by omega,show (2*n+1) % 2=1 by omega,List.getD_eq_getElem?_getD,List.getElem?_eq_getElem (by omega)];rfl
    unfold wt
    refine dz (by simp only;omega) (bH (by rw [cZ];simp only;omega) (aR (x:=((ho s n:Nat):Int)) (by simp only;rw [Int.toNat_natCast];exact f9 a4) ?_))
    rw [pI,tG]
    refine bH (by omega) (aR (x:=l[2*ho s n]) (by rw [Int.toNat_natCast];exact List.getElem?_eq_getElem (by omega)) (bH (by omega) (aR (x:=l[2*ho s n+1]) (by rw [Int.toNat_natCast];exact List.getElem?_eq_getElem (by omega)) (bH (by simp only [List.length_append,cZ,List.length_cons,List.length_nil];omega) ?_))))
    simp only
    rw [fo (by omega),cy (by omega) (by omega),cy (by omega) (by omega),show 2*(n+1)=2*n+1+1 by omega,k3 (2*n+1),k3 (2*n),p1,hi]
    simp)
  (fun _ _=>by unfold wt;exact dZ (by simp) rfl) () trivial
 exact aR e rfl
def Ml (s:ct)(l:List Int):hp:=⟨((2*fr s:Nat):Int),(dq s:Int),a7 (2*fr s*dq s) (fun x=>kI s (x / dq s) (x % dq s)),a7 (2*fr s) (mf s l),a7 (dq s) fun _=>0⟩
theorem abI (s:ct)(i0:jn s)(h:j5 s=some true)(l:List Int)(aS:∀x∈l,-100≤x∧x≤100):ma (Ml s l) (2*fr s) (dq s) (kI s) (mf s l) where
 rows:=rfl
 gr:=rfl
 gw:=cZ ..
 K8:=fun i aq j aF=>by
  have h1:i*dq s+j<2*fr s*dq s:=by
   have:(i+1)*dq s≤2*fr s*dq s:=Nat.mul_le_mul_right _ aq
   rw [Nat.succ_mul] at this;omega
  show (a7 _ _)[_]? = _
  rw [f9 h1]
  have o:(i*dq s+j) / dq s=i:=by rw [Nat.mul_comm,Nat.mul_add_div (by omega),Nat.div_eq_of_lt aF];rfl
  have ab:(i*dq s+j) % dq s=j:=by rw [Nat.mul_comm,Nat.mul_add_mod,Nat.mod_eq_of_lt aF]
  rw [o,ab]
 vB:=cZ ..
 ya:=fun i aq=>f9 aq
 hm:=by
  obtain ⟨-,-,f3,f4⟩:=nR s i0 h
  have:=x3 s;omega
 a4:=by
  obtain ⟨-,-,f3,f4⟩:=nR s i0 h
  have:=KL s;omega
 sE:=fun i _ j aF=>KM s i0 h i aF
 vA:=fun i _=>by
  unfold mf
  rw [List.getD_eq_getElem?_getD]
  cases c:l[2*ho s (i / 2)+i % 2]? with
  | none=>simp
  | some x =>
   have:=aS x (List.mem_of_getElem? c)
   simp only [Option.getD_some];omega
theorem XI (s:ct)(i0:jn s)(h:j5 s=some true)(l:List Int)(aT:l.length=2*s.bZ.length)(aS:∀x∈l,-100≤x∧x≤100):ub s l=some (Ml s l):=by
 obtain ⟨-,-,f3,f4⟩:=nR s i0 h
 have tC:=x3 s
 have Cj:=KL s
 unfold ub
 refine aR (XH s (by omega)) (aR (Y3 s i0 h) (aR (JH s (by omega)) (aR (aaE s i0 h l aT aS) ?_)))
 show (if 0≤len_ eI ((gr s).map eA.mG)∧_ then _ else none)=_
 rw [Ag]
 show (if 0≤len_ eI ((gr s).map eA.mG)∧(8:Int)*len_ eI ((gr s).map eA.mG)≤281474976710656∧len_ eI ((gr s).map eA.mG)<9223372036854775808 then
  CF ((gr s).map eA.mG) ((gr s).map eA.p4) (len_ bU s.bB) _ (R ((2:Int)*len_ eI (a7 (fr s) fun q=>((ho s q:Nat):Int)))) (len_ eI ((gr s).map eA.mG)) (a7 (2*fr s) (mf s l)) (List.replicate (len_ eI ((gr s).map eA.mG)).toNat 0) 0 [] >>= fun eg=>some (⟨R ((2:Int)*len_ eI (a7 (fr s) fun q=>((ho s q:Nat):Int))),len_ eI ((gr s).map eA.mG),eg,a7 (2*fr s) (mf s l),List.replicate (len_ eI ((gr s).map eA.mG)).toNat 0⟩:hp) else none)=_
 rw [abb,abc,fO,cZ,fO,cZ,Int.toNat_natCast,e5,show R ((2:Int)*(fr s:Nat))=((2*fr s:Nat):Int) by rw [cy (by omega) (by omega)];omega,qu]
 refine bH (by omega) (aR (x:=a7 (2*fr s*dq s) (fun x=>kI s (x / dq s) (x % dq s))) ?_ rfl)
 unfold CF
 obtain ⟨x,e,-⟩:=hT (f:=fun w:Int×List Int=>wc (a7 (dq s) fun c=>((mC s c:Nat):Int)) (a7 (dq s) (pK s)) (s.bB.length:Nat) (a7 (2*fr s*s.bB.length) fun x=>kq s (x / s.bB.length) (x % s.bB.length)) ((2*fr s:Nat):Int) ((dq s:Nat):Int) (a7 (2*fr s) (mf s l)) (a7 (dq s) fun _=>0) w.1 w.2) (fun (i:Nat) (_:Unit)=>((i:Int),a7 (i*dq s) (fun x=>kI s (x / dq s) (x % dq s)))) (2*fr s) (fun _ _=>True) (fun _=>a7 (2*fr s*dq s) (fun x=>kI s (x / dq s) (x % dq s)))
  (fun i aq _ _=>by
    refine ⟨(),?_,trivial⟩
    have R2:i*dq s≤12*16:=Nat.mul_le_mul (by omega) (by omega)
    have lQ:i*s.bB.length≤12*8:=Nat.mul_le_mul (by omega) f4
    obtain ⟨y,aD,-⟩:=hT (f:=fun w:Int×List Int=>wb (a7 (dq s) fun c=>((mC s c:Nat):Int)) (a7 (dq s) (pK s)) (s.bB.length:Nat) (a7 (2*fr s*s.bB.length) fun x=>kq s (x / s.bB.length) (x % s.bB.length)) (i:Int) ((dq s:Nat):Int) ((2*fr s:Nat):Int) ((dq s:Nat):Int) (a7 (2*fr s) (mf s l)) (a7 (dq s) fun _=>0) w.1 w.2)
     (fun (c:Nat) (_:Unit)=>((c:Int),(a7 (i*dq s) fun x=>kI s (x / dq s) (x % dq s))++a7 c (kI s i))) (dq s) (fun _ _=>True) (fun _=>(a7 (i*dq s) fun x=>kI s (x / dq s) (x % dq s))++a7 (dq s) (kI s i))
     (fun c bf _ _=>by
       refine ⟨(),?_,trivial⟩
       obtain ⟨-,ll,qi⟩:=AE s bf
       have o9:(i+1)*s.bB.length≤2*fr s*s.bB.length:=Nat.mul_le_mul_right _ aq
       rw [Nat.succ_mul] at o9
       have kh:R (R ((i:Int)*((s.bB.length:Nat):Int))+((mC s c:Nat):Int))=((i*s.bB.length+mC s c:Nat):Int):=by
        rw [← Int.natCast_mul,cy (x:=((i*s.bB.length:Nat):Int)) (by omega) (by omega),cy (by omega) (by omega)];omega
       have o:(i*s.bB.length+mC s c) / s.bB.length=i:=by rw [Nat.mul_comm,Nat.mul_add_div (by omega),Nat.div_eq_of_lt ll];rfl
       have ab:(i*s.bB.length+mC s c) % s.bB.length=mC s c:=by rw [Nat.mul_comm,Nat.mul_add_mod,Nat.mod_eq_of_lt ll]
       have ad6:=KM s i0 h i bf
       unfold wb
       refine dz (by simp only;omega) (bH (by rw [cZ];simp only;omega) (aR (x:=((mC s c:Nat):Int)) (by simp only;rw [Int.toNat_natCast];exact f9 bf) (bH (by rw [cZ];simp only;omega) (aR (x:=pK s c) (by simp only;rw [Int.toNat_natCast];exact f9 bf) ?_))))
       rw [kh]
       refine bH (by rw [cZ];omega) (aR (x:=kq s i (mC s c)) (by rw [Int.toNat_natCast,f9 (by omega),o,ab]) (bH (by simp only [List.length_append,cZ,List.length_cons,List.length_nil];omega) ?_))
       simp only
       rw [fo (by omega),k3,show pK s c*kq s i (mC s c)=kI s i c from rfl,cy (by omega) (by omega),List.append_assoc])
     (fun _ _=>by unfold wb;exact dZ (by simp) rfl) () trivial
    have z:(a7 (i*dq s) fun x=>kI s (x / dq s) (x % dq s))++a7 0 (kI s i)=a7 (i*dq s) fun x=>kI s (x / dq s) (x % dq s):=by simp [a7]
    rw [z] at aD
    unfold wc
    refine dz (by simp only;omega) (aR (x:=(a7 (i*dq s) fun x=>kI s (x / dq s) (x % dq s))++a7 (dq s) (kI s i)) (by unfold HS;rw [fO,cZ];exact aD) ?_)
    simp only
    rw [fo (by omega),Kk])
  (fun _ _=>by unfold wc;exact dZ (by simp) rfl) () trivial
 have z:(a7 (0*dq s) fun x=>kI s (x / dq s) (x % dq s))=[]:=by simp [a7]
 rw [z] at e
 exact e
def upto (n:Nat)(f:Nat→Int)(k:Nat):List Int:=a7 n fun x=>if x<k then f x else 0
theorem Ka {n k:Nat}{f:Nat→Int}(a8:k<n){v:Int}(bh:v=f k):(upto n f k).set k v=upto n f (k+1):=by
 unfold upto
 rw [k4]
 refine e4 fun j _=> ?_
 by_cases c:j=k
 ·subst c;rw [if_pos rfl,if_pos (by omega)];exact bh
 ·rw [if_neg c]
  by_cases cg:j<k
  ·rw [if_pos cg,if_pos (by omega)]
  ·rw [if_neg cg,if_neg (by omega)]
theorem Pa (n:Nat)(f:Nat→Int):upto n f 0=a7 n fun _=>0:=e4 fun j _=>by rw [if_neg (by omega)]
theorem PJ (n:Nat)(f:Nat→Int):upto n f n=a7 n f:=e4 fun j aF=>by rw [if_pos aF]
theorem xC (n:Nat)(f:Nat→Int)(k:Nat):(upto n f k).length=n:=cZ ..
theorem W9 (s:ct)(i0:jn s)(h:j5 s=some true)(l:List Int)(aT:l.length=2*s.bZ.length)(aS:∀x∈l,-100≤x∧x≤100):yS s l 0 0=some (Ml s l):=by
 obtain ⟨-,-,f3,f4⟩:=nR s i0 h
 have tC:=x3 s
 have Cj:=KL s
 have agl:2*fr s*dq s≤12*16:=Nat.mul_le_mul (by omega) (by omega)
 unfold yS
 refine aR (Xs s i0 h) (aR (x:=gr s) (Y2 s (by omega)) ?_)
 have kh:R ((len_ (eu 1 eI) (a7 (2*fr s) fun r=>a7 s.bB.length (kq s r)))+0)=((2*fr s:Nat):Int):=by rw [e5,cZ,cy (by omega) (by omega)];omega
 have pI:R ((len_ gn (gr s))+0)=((dq s:Nat):Int):=by
  rw [e5];show R (((dq s:Nat):Int)+0)=_
  rw [cy (by omega) (by omega)];omega
 have tG:R (((2*fr s:Nat):Int)*((dq s:Nat):Int))=((2*fr s*dq s:Nat):Int):=by rw [← Int.natCast_mul,cy (by omega) (by omega)]
 rw [kh,pI,tG,Int.toNat_natCast,Int.toNat_natCast,Int.toNat_natCast,qu,qu,qu,e5,cZ]
 refine bH (by omega) (bH (by omega) (bH (by omega) ?_))
 refine aR (x:=a7 (2*fr s*dq s) (fun x=>kI s (x / dq s) (x % dq s))) ?_ ?_
 ·unfold Fo
  obtain ⟨x,e,-⟩:=hT (f:=fun w:Int×List Int=>vF s.bZ s.bB l (gr s) (a7 (2*fr s) fun r=>a7 s.bB.length (kq s r)) ((2*fr s:Nat):Int) ((2*fr s:Nat):Int) ((dq s:Nat):Int) (a7 (2*fr s) fun _=>0) (a7 (dq s) fun _=>0) w.1 w.2) (fun (i:Nat) (_:Unit)=>((i:Int),upto (2*fr s*dq s) (fun x=>kI s (x / dq s) (x % dq s)) (i*dq s))) (2*fr s) (fun _ _=>True) (fun _=>a7 (2*fr s*dq s) (fun x=>kI s (x / dq s) (x % dq s)))
   (fun i aq _ _=>by
     refine ⟨(),?_,trivial⟩
     have BF:(i+1)*dq s≤2*fr s*dq s:=Nat.mul_le_mul_right _ aq
     rw [Nat.succ_mul] at BF
     obtain ⟨y,aD,-⟩:=hT (f:=fun w:Int×List Int=>vE s.bZ s.bB l (gr s) (i:Int) (a7 s.bB.length (kq s i)) (a7 (2*fr s) fun r=>a7 s.bB.length (kq s r)) ((2*fr s:Nat):Int) ((dq s:Nat):Int) ((2*fr s:Nat):Int) ((dq s:Nat):Int) (a7 (2*fr s) fun _=>0) (a7 (dq s) fun _=>0) w.1 w.2) (fun (c:Nat) (_:Unit)=>((c:Int),upto (2*fr s*dq s) (fun x=>kI s (x / dq s) (x % dq s)) (i*dq s+c))) (dq s) (fun _ _=>True) (fun _=>upto (2*fr s*dq s) (fun x=>kI s (x / dq s) (x % dq s)) (i*dq s+dq s))
      (fun c bf _ _=>by
        refine ⟨(),?_,trivial⟩
        obtain ⟨mX,ll,qi⟩:=AE s bf
        have ad6:=KM s i0 h i bf
        have aeA:R (R ((i:Int)*((dq s:Nat):Int))+((c:Nat):Int))=((i*dq s+c:Nat):Int):=by
         rw [← Int.natCast_mul,cy (x:=((i*dq s:Nat):Int)) (by omega) (by omega),cy (by omega) (by omega)];omega
        have o:(i*dq s+c) / dq s=i:=by rw [Nat.mul_comm,Nat.mul_add_div (by omega),Nat.div_eq_of_lt bf];rfl
        have ab:(i*dq s+c) % dq s=c:=by rw [Nat.mul_comm,Nat.mul_add_mod,Nat.mod_eq_of_lt bf]
        unfold vE
        refine dz (by simp only;omega) (bH (by show _∧((c:Nat):Int)<((dq s:Nat):Int);simp only;omega) (aR (x:=⟨(mC s c:Int),pK s c⟩) (by simp only;rw [Int.toNat_natCast];exact mX) (bH (by rw [cZ];simp only;omega) (aR (x:=kq s i (mC s c)) (by simp only;rw [Int.toNat_natCast];exact f9 ll) ?_))))
        simp only
        rw [aeA]
        refine bH (by rw [xC];omega) (bH (by rw [xC,Int.toNat_natCast];omega) ?_)
        rw [fo (by omega),Int.toNat_natCast,Nat.zero_add,show pK s c*kq s i (mC s c)=kI s i c from rfl,cy (by omega) (by omega),Ka (by omega) (by rw [o,ab]),Nat.add_assoc])
      (fun _ _=>by unfold vE;exact dZ (by simp) rfl) () trivial
     unfold vF
     refine dz (by simp only;omega) (bH (by rw [cZ];simp only;omega) (aR (x:=a7 s.bB.length (kq s i)) (by simp only;rw [Int.toNat_natCast];exact f9 aq) (aR (x:=upto (2*fr s*dq s) (fun x=>kI s (x / dq s) (x % dq s)) (i*dq s+dq s)) (by unfold Fm;rw [e5];exact aD) ?_)))
     simp only
     rw [fo (by omega),Nat.succ_mul i (dq s)])
   (fun _ _=>by
     unfold vF
     refine dZ (by simp) ?_
     simp only
     rw [PJ]) () trivial
  rw [Nat.zero_mul,Pa] at e
  exact e
 refine aR (NQ s (by omega)) ?_
 rw [Ag,fO,cZ]
 refine aR (x:=a7 (2*fr s) (mf s l)) ?_ rfl
 unfold Fp
 obtain ⟨x,e,-⟩:=hT (f:=fun w:Int×List Int=>vG l (a7 (fr s) fun q=>((ho s q:Nat):Int)) ((fr s:Nat):Int) ((2*fr s:Nat):Int) ((dq s:Nat):Int) (a7 (2*fr s*dq s) (fun x=>kI s (x / dq s) (x % dq s))) (a7 (dq s) fun _=>0) w.1 w.2) (fun (n:Nat) (_:Unit)=>((n:Int),upto (2*fr s) (mf s l) (2*n))) (fr s) (fun _ _=>True) (fun _=>a7 (2*fr s) (mf s l))
  (fun n a4 _ _=>by
    refine ⟨(),?_,trivial⟩
    have cl:=QK s a4
    have pI : ∀a:Nat,a≤1000→R ((2:Int)*((a:Nat):Int))=((2*a:Nat):Int):=fun a bF=>by rw [cy (by omega) (by omega)];omega
    have x1:=aS l[2*ho s n] (List.getElem_mem (by omega))
    have dY:=aS l[2*ho s n+1] (List.getElem_mem (by omega))
    have p1:mf s l (2*n) = -l[2*ho s n]:=by
     unfold mf
     rw [show 2*n / 2=n by omega,show 2*n % 2=0 by omega,Nat.add_zero,List.getD_eq_getElem?_getD,List.getElem?_eq_getElem (by omega)];rfl
    have hi:mf s l (2*n+1) = -l[2*ho s n+1]:=by
     unfold mf
     rw [show (2*n+1) / 2=n by omega,show (2*n+1) % 2=1 by omega,List.getD_eq_getElem?_getD,List.getElem?_eq_getElem (by omega)];rfl
    unfold vG
    refine dz (by simp only;omega) (bH (by rw [cZ];simp only;omega) (aR (x:=((ho s n:Nat):Int)) (by simp only;rw [Int.toNat_natCast];exact f9 a4) ?_))
    simp only
    rw [pI (ho s n) (by omega),pI n (by omega),fo (n:=2*ho s n) (by omega),fo (n:=2*n) (by omega)]
    refine bH (by omega) (aR (x:=l[2*ho s n]) (by rw [Int.toNat_natCast];exact List.getElem?_eq_getElem (by omega)) (bH (by omega) (aR (x:=l[2*ho s n+1]) (by rw [Int.toNat_natCast];exact List.getElem?_eq_getElem (by omega)) ?_)))
    refine bH (by rw [xC];omega) (bH (by rw [xC,Int.toNat_natCast];omega) (bH (by rw [xC];omega) (bH (by rw [List.length_set,xC,Int.toNat_natCast];omega) ?_)))
    rw [fo (by omega),cy (x:=0-l[2*ho s n]) (by omega) (by omega),cy (x:=0-l[2*ho s n+1]) (by omega) (by omega),Int.toNat_natCast,Int.toNat_natCast,Nat.zero_add,Nat.zero_add,Ka (by omega) (by rw [p1];omega),Ka (by omega) (by rw [hi];omega),show 2*(n+1)=2*n+1+1 by omega])
  (fun _ _=>by
    unfold vG
    refine dZ (by simp) ?_
    simp only
    rw [PJ]) () trivial
 rw [Nat.mul_zero,Pa] at e
 exact e
theorem X3 (s:ct)(i0:jn s)(h:j5 s=some true)(l:List Int)(aT:l.length=2*s.bZ.length)(aS:∀x∈l,-100≤x∧x≤100):
 ∃r,(ub s l >>= fun p=>t8 p)=some r∧sH s l=some r:=by
 have ak:=abI s i0 h l aS
 obtain ⟨r,e1,aD⟩:=Xr ak (cZ ..) (fun x U=>by
  obtain ⟨i,-,rfl⟩:=Kf.1 U
  omega)
 obtain ⟨q,q1,a2⟩:=aaD ak
 refine ⟨r,aR (XI s i0 h l aT aS) e1,?_⟩
 unfold sH
 refine aR (W9 s i0 h l aT aS) (aR q1 ?_)
 rcases a2 with ⟨b0,t,cx,g,e9,rfl,-⟩|⟨b0,rfl⟩
 ·rw [aD.2 b0]
 ·have:r=false:=by
   cases r
   ·rfl
   ·exact (b0 (aD.1 rfl)).elim
  rw [this]
theorem Xt (gU:List bD)(n:Int)(d6 ad7:List bP):q6 gU n ad7 0=q6 gU n d6 0:=by
 unfold q6
 congr 1
theorem Xa (s:ct)(i0:jn s)(h:j5 s=some true)(d6:List bP)(b0:∀m∈d6,m∈s.bB)(aT:d6.length≤s.bB.length):j5 ⟨s.bZ,d6⟩=some true:=by
 obtain ⟨-,f2,f3,f4⟩:=nR s i0 h
 obtain ⟨r,ar⟩:=Iu s i0
 have d1:decide ((6:Int)<len_ bL s.bZ)=false:=by rw [e5];exact decide_eq_false (by omega)
 have d2:decide ((8:Int)<len_ bU s.bB)=false:=by rw [e5];exact decide_eq_false (by omega)
 have Ca:decide ((8:Int)<len_ bU d6)=false:=by rw [e5];exact decide_eq_false (by omega)
 have sr:r = .inl ():=by
  cases r with
  | inl a=>rfl
  | inr a =>
   unfold j5 at h
   rw [d1,d2,ar] at h
   simp at h
 subst sr
 have p6 : ∀m∈d6,qs s.bZ m=true:=fun m hm=>by
  obtain ⟨n,a4⟩:=List.getElem?_of_mem (b0 m hm)
  exact f2 n m a4
 have bc:tJ d6 s.bZ d6 (len_ bU d6) 0=some (.inl ()):=by
  unfold tJ
  rw [e5]
  obtain ⟨x,e,-⟩:=hT (f:=fun w:Int=>nQ d6 s.bZ d6 (d6.length:Nat) w) (fun (i:Nat) (_:Unit)=>(i:Int)) d6.length (fun _ _=>True) (fun _=>(Sum.inl ():Unit⊕Int))
   (fun i aq _ _=>by
     refine ⟨(),?_,trivial⟩
     have U:=List.getElem?_eq_getElem aq
     have aS:=p6 d6[i] (List.getElem_mem aq)
     unfold nQ tX
     refine dz (by omega) (bH (by omega) (aR (x:=d6[i]) (by rw [Int.toNat_natCast];exact U) (aR (x:=false) (aR (Df _ _) (by simp [aS])) (h4 rfl (by rw [fo (by omega)])))))
     )
   (fun _ _=>by unfold nQ;exact dZ (by omega) rfl) () trivial
  exact e
 have LX:CB (R (len_ bL s.bZ-1)) d6 (len_ bU d6) s.bZ 0=some (Sum.map id (fun _=>()) (Sum.inl ():Unit⊕Int)) :=
  Pp (f:=fun w=>nQ d6 s.bZ d6 (len_ bU d6) w) (Sum.map id fun _=>()) (fun _=>True) (fun _ _ _ _=>trivial)
   (fun i _=>NJ s.bZ d6 (by omega) (by omega) i) 0 _ bc trivial
 unfold j5
 simp only [d1,Ca,Bool.false_eq_true,if_false]
 rw [Xt s.bZ _ s.bB d6,ar]
 exact aR rfl (aR LX rfl)
def nl (d6:List bP)(list:List Int):Nat→List bP
 | 0=>[]
 | n+1=>nl d6 list n++(match d6[n]? with
  | some x=>if (n:Int)∈list then [] else [x]
  | none=>[])
theorem Aq (d6:List bP)(list:List Int): ∀n,(nl d6 list n).length≤n
 | 0=>by simp [nl]
 | n+1=>by
  have:=Aq d6 list n
  rw [nl,List.length_append]
  have o:(match d6[n]? with
   | some x=>if (n:Int)∈list then [] else [x]
   | none=>[]).length≤1:=by
   split
   ·split<;>simp
   ·simp
  omega
theorem Kl {d6:List bP}{list:List Int}: ∀ {n:Nat} {m:bP},m∈nl d6 list n→m∈d6
 | 0,m,h=>by simp [nl] at h
 | n+1,m,h=>by
  rw [nl,List.mem_append] at h
  rcases h with h|h
  ·exact Kl h
  ·split at h
   ·rename_i x U
    split at h
    ·simp at h
    ·simp at h;subst h;exact List.mem_of_getElem? U
   ·simp at h
def su (s:ct)(list:List Int):ct:=⟨s.bZ,nl s.bB list s.bB.length⟩
theorem Rr {n:Nat}(h:n<1000000000000):R ((n:Int)+1)=((n+1:Nat):Int):=by
 rw [cy (by omega) (by omega)];omega
theorem abJ (list:List Int)(aT:list.length≤1048576)(k:Int):zU list k=some (decide (k∈list)):=by
 unfold zU I9
 rw [fO]
 obtain ⟨r,e,h⟩:=qp (f:=fun w:Int=>wP k list (list.length:Nat) w) (fun (i:Nat) (_:Unit)=>(i:Int)) list.length (fun i _=> ∀j,j<i→list[j]? ≠ some k) (fun r=>(r = .inr ()∧k∈list)∨(r = .inl ()∧k ∉ list))
  (fun i aq _ cK=>by
    have U:=List.getElem?_eq_getElem aq
    unfold wP
    by_cases c:list[i]=k
    ·right
     exact ⟨_,dz (by omega) (bH (by omega) (aR (x:=list[i]) (by rw [Int.toNat_natCast];exact U) (f7 (sn c) rfl))),.inl ⟨rfl,c▸List.getElem_mem aq⟩⟩
    ·left
     refine ⟨(),dz (by omega) (bH (by omega) (aR (x:=list[i]) (by rw [Int.toNat_natCast];exact U) (h4 (va c) (by rw [Rr (by omega)])))),fun j aF=> ?_⟩
     by_cases e:j=i
     ·rw [e,U];exact fun h=>c (Option.some.inj h)
     ·exact cK j (by omega))
  (fun _ cK=>⟨_,by unfold wP;exact dZ (by omega) rfl,.inr ⟨rfl,fun a8=>by
    obtain ⟨j,aF,e⟩:=List.getElem_of_mem a8
    exact cK j aF (by rw [List.getElem?_eq_getElem aF,e])⟩⟩) () (fun j aF=>by omega)
 rcases h with ⟨rfl,h⟩|⟨rfl,h⟩
 ·exact aR e (by rw [decide_eq_true h])
 ·exact aR e (by rw [decide_eq_false h])
theorem Yq (list:List Int)(aT:list.length≤1048576)(k:Int):rP list k=some (decide (k∈list)):=by
 unfold rP Am Dk
 rw [fO]
 obtain ⟨r,e,h⟩:=qp (f:=fun w:Int=>rJ list k (list.length:Nat) w) (fun (i:Nat) (_:Unit)=>(i:Int)) list.length (fun i _=> ∀j,j<i→list[j]? ≠ some k) (fun r=>(∃i:Nat,r = .inr (i:Int)∧k∈list)∨(r = .inl ()∧k ∉ list))
  (fun i aq _ cK=>by
    have U:=List.getElem?_eq_getElem aq
    unfold rJ
    by_cases c:list[i]=k
    ·right
     exact ⟨_,dz (by omega) (bH (by omega) (aR (x:=list[i]) (by rw [Int.toNat_natCast];exact U) (f7 (sn c.symm) rfl))),.inl ⟨i,rfl,c▸List.getElem_mem aq⟩⟩
    ·left
     refine ⟨(),dz (by omega) (bH (by omega) (aR (x:=list[i]) (by rw [Int.toNat_natCast];exact U) (h4 (va (Ne.symm c)) (by rw [Rr (by omega)])))),fun j aF=> ?_⟩
     by_cases e:j=i
     ·rw [e,U];exact fun h=>c (Option.some.inj h)
     ·exact cK j (by omega))
  (fun _ cK=>⟨_,by unfold rJ;exact dZ (by omega) rfl,.inr ⟨rfl,fun a8=>by
    obtain ⟨j,aF,e⟩:=List.getElem_of_mem a8
    exact cK j aF (by rw [List.getElem?_eq_getElem aF,e])⟩⟩) () (fun j aF=>by omega)
 rcases h with ⟨i,rfl,h⟩|⟨rfl,h⟩
 ·exact aR (x:=(i:Int)) (aR e rfl) (by rw [decide_eq_true h];simp)
 ·exact aR (x:=(-1:Int)) (aR e rfl) (by rw [decide_eq_false h];rfl)
theorem Yr (s:ct)(aF:s.bZ.length≤1000)(hm:s.bB.length≤1000)(list:List Int)(aT:list.length≤1048576):wQ s list=some (su s list):=by
 unfold wQ Gv
 rw [e5,List.nil_append]
 obtain ⟨x,e,-⟩:=hT (f:=fun w:Int×List bP=>vU list s.bB (s.bB.length:Nat) s.bZ w.1 w.2) (fun (i:Nat) (_:Unit)=>((i:Int),nl s.bB list i)) s.bB.length (fun _ _=>True) (fun _=>nl s.bB list s.bB.length)
  (fun i aq _ _=>by
    refine ⟨(),?_,trivial⟩
    have U:=List.getElem?_eq_getElem aq
    have hw:=Aq s.bB list i
    have e1:nl s.bB list (i+1)=nl s.bB list i++(if (i:Int)∈list then [] else [s.bB[i]]):=by rw [nl,U]
    unfold vU
    refine dz (by simp only;omega) (bH (by simp only;omega) (aR (x:=s.bB[i]) (by simp only;rw [Int.toNat_natCast];exact U) (aR (abJ list aT _) ?_)))
    simp only
    rw [fo (by omega),e1]
    by_cases c:(i:Int)∈list
    ·rw [if_pos c]
     exact f7 (decide_eq_true c) (by rw [List.append_nil])
    ·rw [if_neg c]
     exact h4 (decide_eq_false c) (bH (by simp only [List.length_append,List.length_cons,List.length_nil];omega) rfl))
  (fun _ _=>by unfold vU;exact dZ (by simp) rfl) () trivial
 exact bH (by omega) (aR e rfl)
theorem Ys (s:ct)(aF:s.bZ.length≤1000)(hm:s.bB.length≤1000)(list:List Int)(aT:list.length≤1048576):wT s list=some (su s list):=by
 unfold wT Gz C4
 rw [e5]
 refine aR (x:=s.bZ) (bH (by omega) rfl) ?_
 obtain ⟨x,e,-⟩:=hT (f:=fun w:Int×List bP=>vV list s.bB (s.bB.length:Nat) s.bZ w.1 w.2) (fun (i:Nat) (_:Unit)=>((i:Int),nl s.bB list i)) s.bB.length (fun _ _=>True) (fun _=>nl s.bB list s.bB.length)
  (fun i aq _ _=>by
    refine ⟨(),?_,trivial⟩
    have U:=List.getElem?_eq_getElem aq
    have hw:=Aq s.bB list i
    have e1:nl s.bB list (i+1)=nl s.bB list i++(if (i:Int)∈list then [] else [s.bB[i]]):=by rw [nl,U]
    unfold vV
    refine dz (by simp only;omega) (bH (by simp only;omega) (aR (x:=s.bB[i]) (by simp only;rw [Int.toNat_natCast];exact U) (aR (Yq list aT _) ?_)))
    simp only
    rw [fo (by omega),e1]
    by_cases c:(i:Int)∈list
    ·rw [if_pos c]
     exact f7 (decide_eq_true c) (by rw [List.append_nil])
    ·rw [if_neg c]
     exact h4 (decide_eq_false c) (bH (by simp only [List.length_append,List.length_cons,List.length_nil];omega) rfl))
  (fun _ _=>by unfold vV;exact dZ (by simp) rfl) () trivial
 exact aR e rfl
theorem Yt {vC:Nat}{l:List Int}(h:qC vC l=true):l.length=2*vC∧ ∀x∈l,-100≤x∧x≤100:=by
 unfold qC at h
 rw [Bool.and_eq_true,decide_eq_true_eq,List.all_eq_true] at h
 exact ⟨h.1,fun x U=>by have:=h.2 x U;unfold pX at this;simpa using this⟩
theorem JT (s:ct)(i0:jn s)(l:List Int)(aT:l.length≤maxLen):
 (rM s l=some true∧sR s l=some true∧j5 s=some true∧qC s.bZ.length l=true)∨(rM s l=some false∧sR s l=some false):=by
 obtain ⟨p,p1,hi⟩:=Nq s i0
 have q3:p=true→s.bZ.length≤6:=fun h=>(nR s i0 (h▸p1)).2.2.1
 have e:=O8 s p p1 q3 l aT
 cases p with
 | false=>exact .inr ⟨e,aR hi (h4 rfl rfl)⟩
 | true =>
  rw [Bool.true_and] at e
  have aD:sR s l=some (qC s.bZ.length l):=aR hi (f7 rfl (aR (Yl s (q3 rfl) l aT) rfl))
  by_cases c:qC s.bZ.length l=true
  ·rw [c] at e aD;exact .inl ⟨e,aD,p1,c⟩
  ·rw [Bool.not_eq_true] at c
   rw [c] at e aD;exact .inr ⟨e,aD⟩
theorem QL (s:ct)(i0:jn s)(l:List Int)(aT:l.length≤maxLen)(h:j5 s=some true)(aS:qC s.bZ.length l=true):
 ∃r,ud s l=some r∧sH s l=some r:=by
 obtain ⟨f1,f2⟩:=Yt aS
 obtain ⟨r,r1,b1⟩:=X3 s i0 h l f1 f2
 have e:=O8 s true h (fun _=>(nR s i0 h).2.2.1) l aT
 rw [aS] at e
 refine ⟨r,aR e (f7 rfl ?_),b1⟩
 cases ak:ub s l with
 | none=>rw [ak] at r1;cases r1
 | some p =>
  rw [ak] at r1
  exact aR rfl (aR (show t8 p=some r from r1) rfl)
theorem aaF (s:ct)(i0:jn s)(h:j5 s=some true)(list:List Int):
 jn (su s list)∧j5 (su s list)=some true:=by
 refine ⟨⟨i0.1,?_⟩,Xa s i0 h _ (fun m hm=>Kl hm) (Aq ..)⟩
 refine ⟨?_,fun m hm=>i0.2.2 m (Kl hm)⟩
 exact Nat.le_trans (Aq ..) i0.2.1
theorem aaG (s:ct)(i0:jn s)(l:List Int)(aT:l.length≤maxLen)(h:j5 s=some true)(aS:qC s.bZ.length l=true)(list:List Int)(B2:list.length≤1048576):
 ∃r,(wQ s list=some (su s list)∧ud (su s list) l=some r)∧wT s list=some (su s list)∧sH (su s list) l=some r:=by
 obtain ⟨-,-,aZ,bl⟩:=nR s i0 h
 obtain ⟨kh,pI⟩:=aaF s i0 h list
 obtain ⟨r,r1,b1⟩:=QL (su s list) kh l aT pI aS
 exact ⟨r,⟨Yr s (by omega) (by omega) list B2,r1⟩,Ys s (by omega) (by omega) list B2,b1⟩
theorem XJ (s:ct)(i0:jn s)(l:List Int)(aT:l.length≤maxLen)(k:Int)(agv:n7 k): ∃r,sN s l k=some r∧ue s l k=some r:=by
 rcases JT s i0 l aT with ⟨e1,aD,h,aS⟩|⟨e1,aD⟩
 ·obtain ⟨-,-,aZ,bl⟩:=nR s i0 h
  obtain ⟨r,⟨kh,pI⟩,tG,SH⟩:=aaG s i0 l aT h aS [k] (by simp)
  have hw:R (len_ bU s.bB-1)=(s.bB.length:Int)-1:=by rw [e5,cy (by omega) (by omega)]
  by_cases c:0≤k∧k<s.bB.length
  ·refine ⟨r,?_,?_⟩
   ·unfold sN
    refine aR e1 (f7 rfl (aR (by rw [hw,pS]) (f7 (decide_eq_true (by omega)) (aR kh (aR pI rfl)))))
   ·unfold ue
    refine aR aD (f7 rfl (dZ (by omega) (dZ (by rw [e5];omega) (aR tG (aR SH rfl)))))
  ·refine ⟨false,?_,?_⟩
   ·unfold sN
    refine aR e1 (f7 rfl (aR (by rw [hw,pS]) (h4 (decide_eq_false (by omega)) rfl)))
   ·unfold ue
    refine aR aD (f7 rfl ?_)
    by_cases di:k<0
    ·exact dz di rfl
    ·exact dZ di (dz (by rw [e5];omega) rfl)
 ·exact ⟨false,aR e1 (h4 rfl rfl),aR aD (h4 rfl rfl)⟩
def mm (p:Nat→Bool):Nat→List Int
 | 0=>[]
 | n+1=>if p n then mm p n++[(n:Int)] else mm p n
theorem DE (p:Nat→Bool): ∀n,(mm p n).length≤n
 | 0=>Nat.le_refl _
 | n+1=>by
  have:=DE p n
  rw [mm]
  split
  ·rw [List.length_append,List.length_singleton];omega
  ·omega
theorem PK {f:Int×List Int→Option ((Int×List Int)⊕List Int)}(p:Nat→Bool)(N:Nat)
 (h : ∀n,n<N→f ((n:Int),mm p n)=some (.inl (((n+1:Nat):Int),if p n then mm p n++[(n:Int)] else mm p n)))
 (he:f ((N:Int),mm p N)=some (.inr (mm p N))):iter f (0,[])=some (mm p N):=by
 obtain ⟨x,e,-⟩:=hT (f:=f) (fun (i:Nat) (_:Unit)=>((i:Int),mm p i)) N (fun _ _=>True) (fun _=>mm p N) (fun n a4 _ _=>⟨(),h n a4,trivial⟩) (fun _ _=>he) () trivial
 exact e
theorem aaH (s:ct)(i0:jn s)(l:List Int)(aT:l.length≤maxLen): ∃r,ud s l=some r∧C3 s l=some r:=by
 rcases JT s i0 l aT with ⟨e1,aD,h,aS⟩|⟨e1,aD⟩
 ·obtain ⟨r,r1,b1⟩:=QL s i0 l aT h aS
  exact ⟨r,r1,aR aD (f7 rfl (aR b1 rfl))⟩
 ·exact ⟨false,aR e1 (h4 rfl rfl),aR aD (h4 rfl rfl)⟩
noncomputable def mw (s:ct)(l:List Int)(n:Nat):Bool:= !(sN s l (n:Int)).getD false
theorem Oe (s:ct)(i0:jn s)(l:List Int)(aT:l.length≤maxLen)(n:Nat)(a4:n≤8):sN s l (n:Int)=some (!mw s l n)∧ue s l (n:Int)=some (!mw s l n):=by
 obtain ⟨r,r1,b1⟩:=XJ s i0 l aT n (mg.2 (by omega))
 have:(!mw s l n)=r:=by unfold mw;rw [r1];simp
 rw [this];exact ⟨r1,b1⟩
theorem Y4 (s:ct)(i0:jn s)(l:List Int)(aT:l.length≤maxLen)(bl:s.bB.length≤8)(n:Nat)(a4:n<s.bB.length):
 vM l (s.bB.length:Nat) s.bZ s.bB n (mm (mw s l) n)=some (.inl (((n+1:Nat):Int),if mw s l n then mm (mw s l) n++[(n:Int)] else mm (mw s l) n)):=by
 have cl:=DE (mw s l) n
 obtain ⟨e1,-⟩:=Oe s i0 l aT n (by omega)
 unfold vM
 refine dz (by omega) (aR e1 ?_)
 rw [fo (by omega)]
 cases mw s l n with
 | true=>exact h4 rfl (bH (by rw [List.length_append,List.length_singleton];omega) rfl)
 | false=>exact f7 rfl rfl
theorem Y5 (s:ct)(i0:jn s)(l:List Int)(aT:l.length≤maxLen)(bl:s.bB.length≤8)(n:Nat)(a4:n<s.bB.length):
 vT l (s.bB.length:Nat) s.bZ s.bB n (mm (mw s l) n)=some (.inl (((n+1:Nat):Int),if mw s l n then mm (mw s l) n++[(n:Int)] else mm (mw s l) n)):=by
 have cl:=DE (mw s l) n
 obtain ⟨-,e1⟩:=Oe s i0 l aT n (by omega)
 unfold vT
 refine dz (by omega) (aR e1 ?_)
 rw [fo (by omega)]
 cases mw s l n with
 | true=>exact h4 rfl (bH (by rw [List.length_append,List.length_singleton];omega) rfl)
 | false=>exact f7 rfl rfl
theorem Vq (s:ct)(i0:jn s)(l:List Int)(aT:l.length≤maxLen): ∃r,y2 s l=some r∧y5 s l=some r∧r.length≤8:=by
 unfold y2 y5
 rcases JT s i0 l aT with ⟨e1,aD,h,aS⟩|⟨e1,aD⟩
 ·obtain ⟨-,-,aZ,bl⟩:=nR s i0 h
  have f1:Gf l (len_ bU s.bB) s.bZ s.bB 0 []=some (mm (mw s l) s.bB.length):=by
   rw [e5]
   exact PK (mw s l) s.bB.length (fun n a4=>Y4 s i0 l aT bl n a4) (by simp only;unfold vM;exact dZ (by omega) rfl)
  have f2:Gk l (len_ bU s.bB) s.bZ s.bB 0 []=some (mm (mw s l) s.bB.length):=by
   rw [e5]
   exact PK (mw s l) s.bB.length (fun n a4=>Y5 s i0 l aT bl n a4) (by simp only;unfold vT;exact dZ (by omega) rfl)
  exact ⟨_,aR e1 (f7 rfl (aR f1 rfl)),aR aD (f7 rfl (aR f2 rfl)),Nat.le_trans (DE ..) bl⟩
 ·exact ⟨[],aR e1 (h4 rfl rfl),aR aD (h4 rfl rfl),by simp⟩
theorem XK (s:ct)(i0:jn s)(l:List Int)(aT:l.length≤maxLen): ∃r,zC s l=some r∧zF s l=some r:=by
 obtain ⟨c,bu,cg⟩:=aaH s i0 l aT
 obtain ⟨r,r1,b1,-⟩:=Vq s i0 l aT
 unfold zC zF
 cases c with
 | true=>exact ⟨_,aR bu (f7 rfl (aR r1 rfl)),aR cg (f7 rfl (aR b1 rfl))⟩
 | false=>exact ⟨false,aR bu (h4 rfl rfl),aR cg (h4 rfl rfl)⟩
theorem T4 (x0:ct)(x1:List Int)(i0:jn x0)(i1:(fun l=>l.length≤maxLen∧ ∀x∈l,n7 x) x1):CA x0 x1=some true:=by
 unfold CA
 rw [fO]
 by_cases h1:(1048576:Int)<(x1.length:Nat)
 ·exact dz h1 rfl
 refine dZ h1 ?_
 obtain ⟨r,r1,b1⟩:=WN x0 i0 1048576 (by omega) (by omega)
 refine aR r1 ?_
 by_cases o:r<0
 ·exact dz o rfl
 obtain ⟨gB,hx⟩:=b1 (by omega)
 obtain ⟨q,q1,a2⟩:=XK x0 i0 x1 i1.1
 exact dZ o (aR (WO x0 gB hx) (aR (Ym x1 (by omega)) (aR q1 (aR a2 (f7 (by simp) (aR (WM x0 gB hx) (f7 rfl (aR (Yh x1 (by omega)) (f7 rfl rfl)))))))))
end Go.Proofs.YtamedijmgkdlgabGreat
