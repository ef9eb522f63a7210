/- Lemmas, plain functions of the program, and what they answer. No condition. -/
import Derived.Test.YtdkjpcaalflfhaaGreatME
namespace Go.Proofs.YtdkjpcaalflfhaaGreat
set_option linter.unusedVariables false
set_option linter.unusedSimpArgs false
open Go Go.VL
theorem aaE (s:cI)(i0:ks s)(h:j2 s=some true)(j:Int)(q1:List Int)(q2 bK:Int)(bW:List (List Int)):
 Ci s.bZ s.bG j q1 q2 bK (len_ bS s.bG) bW 0 (a4 s.bG.length fun _=>(0:Int)) (a4 s.bG.length fun _=>(0:Int))=some (a4 s.bG.length (iu s j 0),a4 s.bG.length (iu s j 1)):=by
 obtain ⟨-,-,f3,f4⟩:=od s i0 h
 unfold Ci
 rw [fa]
 obtain ⟨x,e,-⟩:=hY (f:=fun w:Int×List Int×List Int=>vC s.bZ s.bG j q1 q2 bK (s.bG.length:Nat) bW w.1 w.2.1 w.2.2) (fun (n:Nat) (_:Unit)=>((n:Int),(a4 s.bG.length fun k=>if k<n then iu s j 0 k else 0),a4 s.bG.length fun k=>if k<n then iu s j 1 k else 0)) s.bG.length (fun _ _=>True) (fun _=>(a4 s.bG.length (iu s j 0),a4 s.bG.length (iu s j 1)))
  (fun n a2 _ _=>by
    refine ⟨(),?_,trivial⟩
    have R:=List.getElem?_eq_getElem a2
    obtain ⟨v1,-,v3,v4⟩:=JT s i0 h n a2
    have dt : ∀i3 v,v=iu s j i3 n→(a4 s.bG.length fun k=>if k<n then iu s j i3 k else 0).set n v=a4 s.bG.length fun k=>if k<n+1 then iu s j i3 k else 0:=fun i3 v bc=>by
     rw [k1]
     refine eX fun k _=> ?_
     by_cases c:k=n
     ·subst c;rw [if_pos rfl,if_pos (by omega)];exact bc
     ·rw [if_neg c]
      by_cases cb:k<n
      ·rw [if_pos cb,if_pos (by omega)]
      ·rw [if_neg cb,if_neg (by omega)]
    have g1 : ∀F:Nat→Int,0≤((n:Nat):Int)∧((n:Nat):Int)<((a4 s.bG.length F).length:Nat):=fun F=>by rw [cS];omega
    have g2 : ∀F:Nat→Int,0+((n:Nat):Int).toNat<(a4 s.bG.length F).length:=fun F=>by rw [cS,Int.toNat_natCast];omega
    unfold vC
    refine dx (by simp only;omega) (bD (by simp only;omega) (aQ (x:=s.bG[n]) (by simp only;rw [Int.toNat_natCast];exact R) (aQ (x:=lH s n) v1 ?_)))
    simp only
    by_cases br:j=s.bG[n].dE
    ·have e0 : ∀i3,iu s j i3 n=if i3=0 then (lH s n).1 else (lH s n).2:=fun i3=>by unfold iu;rw [R];simp only [if_pos br]
     refine gz (sj br) (bD (g1 _) (bD (g2 _) (bD (g1 _) (bD (g2 _) ?_))))
     rw [fq (by omega),Int.toNat_natCast,Nat.zero_add,dt 0 _ (by rw [e0];rfl),dt 1 _ (by rw [e0];rfl)]
    ·refine jH (u4 br) ?_
     by_cases cb:j=s.bG[n].eg
     ·have e0 : ∀i3,iu s j i3 n = -(if i3=0 then (lH s n).1 else (lH s n).2):=fun i3=>by unfold iu;rw [R];simp only [if_neg br,if_pos cb]
      refine gz (sj cb) (bD (g1 _) (bD (g2 _) (bD (g1 _) (bD (g2 _) ?_))))
      rw [fq (by omega),Int.toNat_natCast,Nat.zero_add,cr (by omega) (by omega),cr (by omega) (by omega),dt 0 _ (by rw [e0];simp),dt 1 _ (by rw [e0];simp)]
     ·have e0 : ∀i3,iu s j i3 n=0:=fun i3=>by unfold iu;rw [R];simp only [if_neg br,if_neg cb]
      refine jH (u4 cb) ?_
      rw [fq (by omega)]
      congr 4
      ·refine eX fun k _=> ?_
       by_cases c:k=n
       ·subst c;rw [if_neg (by omega),if_pos (by omega),e0]
       ·by_cases cb:k<n
        ·rw [if_pos cb,if_pos (by omega)]
        ·rw [if_neg cb,if_neg (by omega)]
      ·refine eX fun k _=> ?_
       by_cases c:k=n
       ·subst c;rw [if_neg (by omega),if_pos (by omega),e0]
       ·by_cases cb:k<n
        ·rw [if_pos cb,if_pos (by omega)]
        ·rw [if_neg cb,if_neg (by omega)])
  (fun _ _=>by
    unfold vC
    refine dY (by simp) ?_
    simp only
    congr 3
    ·exact eX fun k a5=>by rw [if_pos a5]
    ·exact eX fun k a5=>by rw [if_pos a5]) () trivial
 have z : ∀i3,(a4 s.bG.length fun k=>if k<0 then iu s j i3 k else 0)=a4 s.bG.length fun _=>(0:Int):=fun i3=>eX fun k _=>by rw [if_neg (by omega)]
 rw [z,z] at e
 exact e
def hj (s:cI)(q:Nat):Nat:=(kI s.bZ 0).getD q 0
def fm (s:cI):Nat:=(kI s.bZ 0).length
def kn (s:cI)(r k:Nat):Int:=iu s (hj s (r / 2)) (r % 2) k
theorem z8 (s:cI):(kI s.bZ 0).map (fun n:Nat=>(n:Int))=a4 (fm s) fun q=>((hj s q:Nat):Int):=by
 apply List.ext_getElem?
 intro q
 rw [List.getElem?_map]
 by_cases c:q<fm s
 ·rw [fZ c]
  have h:(kI s.bZ 0)[q]? = some (kI s.bZ 0)[q]:=List.getElem?_eq_getElem c
  unfold hj
  rw [List.getD_eq_getElem?_getD,h];rfl
 ·rw [List.getElem?_eq_none_iff.2 (by unfold fm at c;omega),List.getElem?_eq_none_iff.2 (by rw [cS];omega)];rfl
theorem Qp (s:cI){q:Nat}(h:q<fm s):hj s q<s.bZ.length:=by
 have h1:(kI s.bZ 0)[q]? = some (kI s.bZ 0)[q]:=List.getElem?_eq_getElem h
 have h2:hj s q=(kI s.bZ 0)[q]:=by unfold hj;rw [List.getD_eq_getElem?_getD,h1];rfl
 have:=JP s.bZ 0 _ (List.mem_of_getElem? h1)
 omega
theorem xW (s:cI):fm s≤s.bZ.length:=Pk s.bZ 0
theorem J4 {α:Type}(r n:Nat)(e:Nat→Nat→α):(a4 (r*n) fun x=>e (x / n) (x % n))++a4 n (e r)=a4 ((r+1)*n) fun x=>e (x / n) (x % n):=by
 rw [Nat.succ_mul,aaC]
 congr 1
 refine eX fun j aC=> ?_
 have h1:(r*n+j) / n=r:=by rw [Nat.mul_comm,Nat.mul_add_div (by omega),Nat.div_eq_of_lt aC];rfl
 have h2:(r*n+j) % n=j:=by rw [Nat.mul_comm,Nat.mul_add_mod,Nat.mod_eq_of_lt aC]
 rw [h1,h2]
theorem Yz (s:cI)(i0:ks s)(h:j2 s=some true):zC s=some (a4 (2*fm s*s.bG.length) fun x=>kn s (x / s.bG.length) (x % s.bG.length)):=by
 obtain ⟨-,-,f3,f4⟩:=od s i0 h
 have tx:=xW s
 unfold zC
 refine aQ (Js s (by omega)) ?_
 rw [z8,fL,cS]
 unfold Iz
 obtain ⟨x,e,-⟩:=hY (f:=fun w:Int×List Int=>wt (a4 (fm s) fun q=>((hj s q:Nat):Int)) ((fm s:Nat):Int) s.bZ s.bG w.1 w.2) (fun (n:Nat) (_:Unit)=>((n:Int),a4 (2*n*s.bG.length) fun x=>kn s (x / s.bG.length) (x % s.bG.length))) (fm s) (fun _ _=>True) (fun _=>a4 (2*fm s*s.bG.length) fun x=>kn s (x / s.bG.length) (x % s.bG.length))
  (fun n a2 _ _=>by
    refine ⟨(),?_,trivial⟩
    have aP:2*n*s.bG.length≤12*8:=Nat.mul_le_mul (by omega) f4
    unfold wt
    refine dx (by simp only;omega) (bD (by rw [cS];simp only;omega) (aQ (x:=((hj s n:Nat):Int)) (by simp only;rw [Int.toNat_natCast];exact fZ a2) (aQ (aaD s i0 h _ _ _ _ _) ?_)))
    refine bD (by simp only [List.length_append,cS];omega) (bD (by simp only [List.length_append,cS];omega) ?_)
    simp only
    rw [fq (by omega)]
    have r1:a4 s.bG.length (iu s (hj s n) 0)=a4 s.bG.length (kn s (2*n)):=eX fun k _=>by
     unfold kn;rw [show 2*n / 2=n by omega,show 2*n % 2=0 by omega]
    have r2:a4 s.bG.length (iu s (hj s n) 1)=a4 s.bG.length (kn s (2*n+1)):=eX fun k _=>by
     unfold kn;rw [show (2*n+1) / 2=n by omega,show (2*n+1) % 2=1 by omega]
    rw [r1,r2,J4 (2*n),J4 (2*n+1),show 2*n+1+1=2*(n+1) by omega])
  (fun _ _=>by unfold wt;exact dY (by simp) rfl) () trivial
 have z:(a4 (2*0*s.bG.length) fun x=>kn s (x / s.bG.length) (x % s.bG.length))=[]:=by simp [a4]
 rw [z] at e
 exact aQ e rfl
theorem WZ (s:cI)(i0:ks s)(h:j2 s=some true):yP s=some (a4 (2*fm s) fun r=>a4 s.bG.length (kn s r)):=by
 obtain ⟨-,-,f3,f4⟩:=od s i0 h
 have tx:=xW s
 unfold yP
 refine aQ (Nx s (by omega)) ?_
 rw [z8,fL,cS]
 unfold Fh
 obtain ⟨x,e,-⟩:=hY (f:=fun w:Int×List (List Int)=>vD s.bZ s.bG (a4 (fm s) fun q=>((hj s q:Nat):Int)) ((fm s:Nat):Int) w.1 w.2) (fun (n:Nat) (_:Unit)=>((n:Int),a4 (2*n) fun r=>a4 s.bG.length (kn s r))) (fm s) (fun _ _=>True) (fun _=>a4 (2*fm s) fun r=>a4 s.bG.length (kn s r))
  (fun n a2 _ _=>by
    refine ⟨(),?_,trivial⟩
    unfold vD
    refine dx (by simp only;omega) (bD (by rw [cS];simp only;omega) (aQ (x:=((hj s n:Nat):Int)) (by simp only;rw [Int.toNat_natCast];exact fZ a2) (bD (by rw [fa];omega) ?_)))
    refine aQ (x:=(a4 s.bG.length (iu s (hj s n) 0),a4 s.bG.length (iu s (hj s n) 1))) (by rw [show (len_ bS s.bG).toNat=s.bG.length by rw [fa,Int.toNat_natCast],qp];exact aaE s i0 h _ _ _ _ _) (bD (by simp only [List.length_append,cS,List.length_cons,List.length_nil];omega) ?_)
    simp only
    rw [fq (by omega),show 2*(n+1)=2*n+1+1 by omega,k0 (2*n+1),k0 (2*n)]
    have r1:a4 s.bG.length (iu s (hj s n) 0)=a4 s.bG.length (kn s (2*n)):=eX fun k _=>by
     unfold kn;rw [show 2*n / 2=n by omega,show 2*n % 2=0 by omega]
    have r2:a4 s.bG.length (iu s (hj s n) 1)=a4 s.bG.length (kn s (2*n+1)):=eX fun k _=>by
     unfold kn;rw [show (2*n+1) / 2=n by omega,show (2*n+1) % 2=1 by omega]
    rw [r1,r2];simp)
  (fun _ _=>by unfold vD;exact dY (by simp) rfl) () trivial
 exact aQ e rfl
def gm (s:cI):List ev:=ls s.bG s.bG.length
def dj (s:cI):Nat:=(gm s).length
def mw (s:cI)(c:Nat):Nat:=((gm s).getD c ⟨0,0⟩).mB.toNat
def pF (s:cI)(c:Nat):Int:=((gm s).getD c ⟨0,0⟩).pW
def kG (s:cI)(i c:Nat):Int:=pF s c*kn s i (mw s c)
def mb (s:cI)(l:List Int)(i:Nat):Int:= -(l.getD (2*hj s (i / 2)+i % 2) 0)
theorem Av (s:cI){c:Nat}(ba:c<dj s):(gm s)[c]? = some ⟨(mw s c:Int),pF s c⟩∧mw s c<s.bG.length∧(pF s c=1∨pF s c = -1):=by
 have h1:(gm s)[c]? = some (gm s)[c]:=List.getElem?_eq_getElem ba
 have h2:(gm s).getD c ⟨0,0⟩=(gm s)[c]:=by rw [List.getD_eq_getElem?_getD,h1];rfl
 obtain ⟨k,e1,e2,bO⟩:=Po (Nat.le_refl _) (List.mem_of_getElem? h1)
 have c5:mw s c=k:=by unfold mw;rw [h2,e1];rfl
 have dg:pF s c=((gm s)[c]).pW:=by unfold pF;rw [h2]
 refine ⟨?_,by omega,by rw [dg];exact bO⟩
 rw [h1,c5,dg,← e1]
theorem Kv (s:cI):dj s≤2*s.bG.length:=Dv _ _
theorem aaF (s:cI):(gm s).map ev.mB=a4 (dj s) fun c=>((mw s c:Nat):Int):=by
 apply List.ext_getElem?
 intro c
 rw [List.getElem?_map]
 by_cases h:c<dj s
 ·rw [(Av s h).1,fZ h];rfl
 ·rw [List.getElem?_eq_none_iff.2 (by unfold dj at h;omega),List.getElem?_eq_none_iff.2 (by rw [cS];omega)];rfl
theorem aaG (s:cI):(gm s).map ev.pW=a4 (dj s) (pF s):=by
 apply List.ext_getElem?
 intro c
 rw [List.getElem?_map]
 by_cases h:c<dj s
 ·rw [(Av s h).1,fZ h];rfl
 ·rw [List.getElem?_eq_none_iff.2 (by unfold dj at h;omega),List.getElem?_eq_none_iff.2 (by rw [cS];omega)];rfl
theorem Kw (s:cI)(i0:ks s)(h:j2 s=some true)(i:Nat){c:Nat}(ba:c<dj s): -100≤kG s i c∧kG s i c≤100:=by
 have h1:=aba s i0 h (hj s (i / 2)) (i % 2) (mw s c)
 unfold kG kn
 rcases (Av s ba).2.2 with e|e<;>rw [e]<;>omega
theorem Z9 (s:cI)(i0:ks s)(h:j2 s=some true)(l:List Int)(aV:l.length=2*s.bZ.length)(aP:∀x∈l,-100≤x∧x≤100):zn s l=some (a4 (2*fm s) (mb s l)):=by
 obtain ⟨-,-,f3,f4⟩:=od s i0 h
 have tx:=xW s
 unfold zn
 refine aQ (Js s (by omega)) ?_
 rw [z8,fL,cS]
 unfold Ik
 obtain ⟨x,e,-⟩:=hY (f:=fun w:Int×List Int=>wh l (a4 (fm s) fun q=>((hj s q:Nat):Int)) ((fm s:Nat):Int) w.1 w.2) (fun (n:Nat) (_:Unit)=>((n:Int),a4 (2*n) (mb s l))) (fm s) (fun _ _=>True) (fun _=>a4 (2*fm s) (mb s l))
  (fun n a2 _ _=>by
    refine ⟨(),?_,trivial⟩
    have cg:=Qp s a2
    have pD:J ((2:Int)*((hj s n:Nat):Int))=((2*hj s n:Nat):Int):=by rw [cr (by omega) (by omega)];omega
    have tB:J (((2*hj s n:Nat):Int)+1)=((2*hj s n+1:Nat):Int):=fq (by omega)
    have x1:=aP l[2*hj s n] (List.getElem_mem (by omega))
    have x2:=aP l[2*hj s n+1] (List.getElem_mem (by omega))
    have p1:mb s l (2*n) = -l[2*hj s n]:=by
     unfold mb
     rw [show 2*n / 2=n by omega,show 2*n % 2=0 by omega,Nat.add_zero,List.getD_eq_getElem?_getD,List.getElem?_eq_getElem (by omega)];rfl
    have p2:mb s l (2*n+1) = -l[2*hj s n+1]:=by
     unfold mb
     rw [show (2*n+1) / 2=n by omega,show (2*n+1) % 2=1 by omega,List.getD_eq_getElem?_getD,List.getElem?_eq_getElem (by omega)];rfl
    unfold wh
    refine dx (by simp only;omega) (bD (by rw [cS];simp only;omega) (aQ (x:=((hj s n:Nat):Int)) (by simp only;rw [Int.toNat_natCast];exact fZ a2) ?_))
    rw [pD,tB]
    refine bD (by omega) (aQ (x:=l[2*hj s n]) (by rw [Int.toNat_natCast];exact List.getElem?_eq_getElem (by omega)) (bD (by omega) (aQ (x:=l[2*hj s n+1]) (by rw [Int.toNat_natCast];exact List.getElem?_eq_getElem (by omega)) (bD (by simp only [List.length_append,cS,List.length_cons,List.length_nil];omega) ?_))))
    simp only
    rw [fq (by omega),cr (by omega) (by omega),cr (by omega) (by omega),show 2*(n+1)=2*n+1+1 by omega,k0 (2*n+1),k0 (2*n),p1,p2]
    simp)
  (fun _ _=>by unfold wh;exact dY (by simp) rfl) () trivial
 exact aQ e rfl
def L5 (s:cI)(l:List Int):hk:=⟨((2*fm s:Nat):Int),(dj s:Int),a4 (2*fm s*dj s) (fun x=>kG s (x / dj s) (x % dj s)),a4 (2*fm s) (mb s l),a4 (dj s) fun _=>0⟩
theorem abb (s:cI)(i0:ks s)(h:j2 s=some true)(l:List Int)(aP:∀x∈l,-100≤x∧x≤100):l7 (L5 s l) (2*fm s) (dj s) (kG s) (mb s l) where
 rows:=rfl
 gm:=rfl
 gy:=cS ..
 KS:=fun i ao j aC=>by
  have h1:i*dj s+j<2*fm s*dj s:=by
   have:(i+1)*dj s≤2*fm s*dj s:=Nat.mul_le_mul_right _ ao
   rw [Nat.succ_mul] at this;omega
  show (a4 _ _)[_]? = _
  rw [fZ h1]
  have h2:(i*dj s+j) / dj s=i:=by rw [Nat.mul_comm,Nat.mul_add_div (by omega),Nat.div_eq_of_lt aC];rfl
  have ab:(i*dj s+j) % dj s=j:=by rw [Nat.mul_comm,Nat.mul_add_mod,Nat.mod_eq_of_lt aC]
  rw [h2,ab]
 vw:=cS ..
 x6:=fun i ao=>fZ ao
 hm:=by
  obtain ⟨-,-,f3,f4⟩:=od s i0 h
  have:=xW s;omega
 a2:=by
  obtain ⟨-,-,f3,f4⟩:=od s i0 h
  have:=Kv s;omega
 sA:=fun i _ j aC=>Kw s i0 h i aC
 vv:=fun i _=>by
  unfold mb
  rw [List.getD_eq_getElem?_getD]
  cases c:l[2*hj s (i / 2)+i % 2]? with
  | none=>simp
  | some x =>
   have:=aP x (List.mem_of_getElem? c)
   simp only [Option.getD_some];omega
theorem Xf (s:cI)(i0:ks s)(h:j2 s=some true)(l:List Int)(aV:l.length=2*s.bZ.length)(aP:∀x∈l,-100≤x∧x≤100):tZ s l=some (L5 s l):=by
 obtain ⟨-,-,f3,f4⟩:=od s i0 h
 have tx:=xW s
 have Cb:=Kv s
 unfold tZ
 refine aQ (Xe s (by omega)) (aQ (Yz s i0 h) (aQ (Js s (by omega)) (aQ (Z9 s i0 h l aV aP) ?_)))
 show (if 0≤len_ eI ((gm s).map ev.mB)∧_ then _ else none)=_
 rw [z8]
 show (if 0≤len_ eI ((gm s).map ev.mB)∧(8:Int)*len_ eI ((gm s).map ev.mB)≤281474976710656∧len_ eI ((gm s).map ev.mB)<9223372036854775808 then
  Cx ((gm s).map ev.mB) ((gm s).map ev.pW) (len_ bS s.bG) _ (J ((2:Int)*len_ eI (a4 (fm s) fun q=>((hj s q:Nat):Int)))) (len_ eI ((gm s).map ev.mB)) (a4 (2*fm s) (mb s l)) (List.replicate (len_ eI ((gm s).map ev.mB)).toNat 0) 0 [] >>= fun ec=>some (⟨J ((2:Int)*len_ eI (a4 (fm s) fun q=>((hj s q:Nat):Int))),len_ eI ((gm s).map ev.mB),ec,a4 (2*fm s) (mb s l),List.replicate (len_ eI ((gm s).map ev.mB)).toNat 0⟩:hk) else none)=_
 rw [aaF,aaG,fL,cS,fL,cS,Int.toNat_natCast,fa,show J ((2:Int)*(fm s:Nat))=((2*fm s:Nat):Int) by rw [cr (by omega) (by omega)];omega,qp]
 refine bD (by omega) (aQ (x:=a4 (2*fm s*dj s) (fun x=>kG s (x / dj s) (x % dj s))) ?_ rfl)
 unfold Cx
 obtain ⟨x,e,-⟩:=hY (f:=fun w:Int×List Int=>vZ (a4 (dj s) fun c=>((mw s c:Nat):Int)) (a4 (dj s) (pF s)) (s.bG.length:Nat) (a4 (2*fm s*s.bG.length) fun x=>kn s (x / s.bG.length) (x % s.bG.length)) ((2*fm s:Nat):Int) ((dj s:Nat):Int) (a4 (2*fm s) (mb s l)) (a4 (dj s) fun _=>0) w.1 w.2) (fun (i:Nat) (_:Unit)=>((i:Int),a4 (i*dj s) (fun x=>kG s (x / dj s) (x % dj s)))) (2*fm s) (fun _ _=>True) (fun _=>a4 (2*fm s*dj s) (fun x=>kG s (x / dj s) (x % dj s)))
  (fun i ao _ _=>by
    refine ⟨(),?_,trivial⟩
    have RG:i*dj s≤12*16:=Nat.mul_le_mul (by omega) (by omega)
    have lN:i*s.bG.length≤12*8:=Nat.mul_le_mul (by omega) f4
    obtain ⟨y,e2,-⟩:=hY (f:=fun w:Int×List Int=>vY (a4 (dj s) fun c=>((mw s c:Nat):Int)) (a4 (dj s) (pF s)) (s.bG.length:Nat) (a4 (2*fm s*s.bG.length) fun x=>kn s (x / s.bG.length) (x % s.bG.length)) (i:Int) ((dj s:Nat):Int) ((2*fm s:Nat):Int) ((dj s:Nat):Int) (a4 (2*fm s) (mb s l)) (a4 (dj s) fun _=>0) w.1 w.2)
     (fun (c:Nat) (_:Unit)=>((c:Int),(a4 (i*dj s) fun x=>kG s (x / dj s) (x % dj s))++a4 c (kG s i))) (dj s) (fun _ _=>True) (fun _=>(a4 (i*dj s) fun x=>kG s (x / dj s) (x % dj s))++a4 (dj s) (kG s i))
     (fun c ba _ _=>by
       refine ⟨(),?_,trivial⟩
       obtain ⟨-,li,qd⟩:=Av s ba
       have o5:(i+1)*s.bG.length≤2*fm s*s.bG.length:=Nat.mul_le_mul_right _ ao
       rw [Nat.succ_mul] at o5
       have ke:J (J ((i:Int)*((s.bG.length:Nat):Int))+((mw s c:Nat):Int))=((i*s.bG.length+mw s c:Nat):Int):=by
        rw [← Int.natCast_mul,cr (x:=((i*s.bG.length:Nat):Int)) (by omega) (by omega),cr (by omega) (by omega)];omega
       have h2:(i*s.bG.length+mw s c) / s.bG.length=i:=by rw [Nat.mul_comm,Nat.mul_add_div (by omega),Nat.div_eq_of_lt li];rfl
       have ab:(i*s.bG.length+mw s c) % s.bG.length=mw s c:=by rw [Nat.mul_comm,Nat.mul_add_mod,Nat.mod_eq_of_lt li]
       have adB:=Kw s i0 h i ba
       unfold vY
       refine dx (by simp only;omega) (bD (by rw [cS];simp only;omega) (aQ (x:=((mw s c:Nat):Int)) (by simp only;rw [Int.toNat_natCast];exact fZ ba) (bD (by rw [cS];simp only;omega) (aQ (x:=pF s c) (by simp only;rw [Int.toNat_natCast];exact fZ ba) ?_))))
       rw [ke]
       refine bD (by rw [cS];omega) (aQ (x:=kn s i (mw s c)) (by rw [Int.toNat_natCast,fZ (by omega),h2,ab]) (bD (by simp only [List.length_append,cS,List.length_cons,List.length_nil];omega) ?_))
       simp only
       rw [fq (by omega),k0,show pF s c*kn s i (mw s c)=kG s i c from rfl,cr (by omega) (by omega),List.append_assoc])
     (fun _ _=>by unfold vY;exact dY (by simp) rfl) () trivial
    have z:(a4 (i*dj s) fun x=>kG s (x / dj s) (x % dj s))++a4 0 (kG s i)=a4 (i*dj s) fun x=>kG s (x / dj s) (x % dj s):=by simp [a4]
    rw [z] at e2
    unfold vZ
    refine dx (by simp only;omega) (aQ (x:=(a4 (i*dj s) fun x=>kG s (x / dj s) (x % dj s))++a4 (dj s) (kG s i)) (by unfold HF;rw [fL,cS];exact e2) ?_)
    simp only
    rw [fq (by omega),J4])
  (fun _ _=>by unfold vZ;exact dY (by simp) rfl) () trivial
 have z:(a4 (0*dj s) fun x=>kG s (x / dj s) (x % dj s))=[]:=by simp [a4]
 rw [z] at e
 exact e
def upto (n:Nat)(f:Nat→Int)(k:Nat):List Int:=a4 n fun x=>if x<k then f x else 0
theorem JU {n k:Nat}{f:Nat→Int}(a5:k<n){v:Int}(bc:v=f k):(upto n f k).set k v=upto n f (k+1):=by
 unfold upto
 rw [k1]
 refine eX fun j _=> ?_
 by_cases c:j=k
 ·subst c;rw [if_pos rfl,if_pos (by omega)];exact bc
 ·rw [if_neg c]
  by_cases cb:j<k
  ·rw [if_pos cb,if_pos (by omega)]
  ·rw [if_neg cb,if_neg (by omega)]
theorem OQ (n:Nat)(f:Nat→Int):upto n f 0=a4 n fun _=>0:=eX fun j _=>by rw [if_neg (by omega)]
theorem Pp (n:Nat)(f:Nat→Int):upto n f n=a4 n f:=eX fun j aC=>by rw [if_pos aC]
theorem xx (n:Nat)(f:Nat→Int)(k:Nat):(upto n f k).length=n:=cS ..
theorem WD (s:cI)(i0:ks s)(h:j2 s=some true)(l:List Int)(aV:l.length=2*s.bZ.length)(aP:∀x∈l,-100≤x∧x≤100):yO s l 0 0=some (L5 s l):=by
 obtain ⟨-,-,f3,f4⟩:=od s i0 h
 have tx:=xW s
 have Cb:=Kv s
 have afP:2*fm s*dj s≤12*16:=Nat.mul_le_mul (by omega) (by omega)
 unfold yO
 refine aQ (WZ s i0 h) (aQ (x:=gm s) (Yy s (by omega)) ?_)
 have ke:J ((len_ (en 1 eI) (a4 (2*fm s) fun r=>a4 s.bG.length (kn s r)))+0)=((2*fm s:Nat):Int):=by rw [fa,cS,cr (by omega) (by omega)];omega
 have pD:J ((len_ gj (gm s))+0)=((dj s:Nat):Int):=by
  rw [fa];show J (((dj s:Nat):Int)+0)=_
  rw [cr (by omega) (by omega)];omega
 have tB:J (((2*fm s:Nat):Int)*((dj s:Nat):Int))=((2*fm s*dj s:Nat):Int):=by rw [← Int.natCast_mul,cr (by omega) (by omega)]
 rw [ke,pD,tB,Int.toNat_natCast,Int.toNat_natCast,Int.toNat_natCast,qp,qp,qp,fa,cS]
 refine bD (by omega) (bD (by omega) (bD (by omega) ?_))
 refine aQ (x:=a4 (2*fm s*dj s) (fun x=>kG s (x / dj s) (x % dj s))) ?_ ?_
 ·unfold Fe
  obtain ⟨x,e,-⟩:=hY (f:=fun w:Int×List Int=>vA s.bZ s.bG l (gm s) (a4 (2*fm s) fun r=>a4 s.bG.length (kn s r)) ((2*fm s:Nat):Int) ((2*fm s:Nat):Int) ((dj s:Nat):Int) (a4 (2*fm s) fun _=>0) (a4 (dj s) fun _=>0) w.1 w.2) (fun (i:Nat) (_:Unit)=>((i:Int),upto (2*fm s*dj s) (fun x=>kG s (x / dj s) (x % dj s)) (i*dj s))) (2*fm s) (fun _ _=>True) (fun _=>a4 (2*fm s*dj s) (fun x=>kG s (x / dj s) (x % dj s)))
   (fun i ao _ _=>by
     refine ⟨(),?_,trivial⟩
     have Bx:(i+1)*dj s≤2*fm s*dj s:=Nat.mul_le_mul_right _ ao
     rw [Nat.succ_mul] at Bx
     obtain ⟨y,e2,-⟩:=hY (f:=fun w:Int×List Int=>vz s.bZ s.bG l (gm s) (i:Int) (a4 s.bG.length (kn s i)) (a4 (2*fm s) fun r=>a4 s.bG.length (kn s r)) ((2*fm s:Nat):Int) ((dj s:Nat):Int) ((2*fm s:Nat):Int) ((dj s:Nat):Int) (a4 (2*fm s) fun _=>0) (a4 (dj s) fun _=>0) w.1 w.2) (fun (c:Nat) (_:Unit)=>((c:Int),upto (2*fm s*dj s) (fun x=>kG s (x / dj s) (x % dj s)) (i*dj s+c))) (dj s) (fun _ _=>True) (fun _=>upto (2*fm s*dj s) (fun x=>kG s (x / dj s) (x % dj s)) (i*dj s+dj s))
      (fun c ba _ _=>by
        refine ⟨(),?_,trivial⟩
        obtain ⟨mS,li,qd⟩:=Av s ba
        have adB:=Kw s i0 h i ba
        have ad5:J (J ((i:Int)*((dj s:Nat):Int))+((c:Nat):Int))=((i*dj s+c:Nat):Int):=by
         rw [← Int.natCast_mul,cr (x:=((i*dj s:Nat):Int)) (by omega) (by omega),cr (by omega) (by omega)];omega
        have h2:(i*dj s+c) / dj s=i:=by rw [Nat.mul_comm,Nat.mul_add_div (by omega),Nat.div_eq_of_lt ba];rfl
        have ab:(i*dj s+c) % dj s=c:=by rw [Nat.mul_comm,Nat.mul_add_mod,Nat.mod_eq_of_lt ba]
        unfold vz
        refine dx (by simp only;omega) (bD (by show _∧((c:Nat):Int)<((dj s:Nat):Int);simp only;omega) (aQ (x:=⟨(mw s c:Int),pF s c⟩) (by simp only;rw [Int.toNat_natCast];exact mS) (bD (by rw [cS];simp only;omega) (aQ (x:=kn s i (mw s c)) (by simp only;rw [Int.toNat_natCast];exact fZ li) ?_))))
        simp only
        rw [ad5]
        refine bD (by rw [xx];omega) (bD (by rw [xx,Int.toNat_natCast];omega) ?_)
        rw [fq (by omega),Int.toNat_natCast,Nat.zero_add,show pF s c*kn s i (mw s c)=kG s i c from rfl,cr (by omega) (by omega),JU (by omega) (by rw [h2,ab]),Nat.add_assoc])
      (fun _ _=>by unfold vz;exact dY (by simp) rfl) () trivial
     unfold vA
     refine dx (by simp only;omega) (bD (by rw [cS];simp only;omega) (aQ (x:=a4 s.bG.length (kn s i)) (by simp only;rw [Int.toNat_natCast];exact fZ ao) (aQ (x:=upto (2*fm s*dj s) (fun x=>kG s (x / dj s) (x % dj s)) (i*dj s+dj s)) (by unfold Fc;rw [fa];exact e2) ?_)))
     simp only
     rw [fq (by omega),Nat.succ_mul i (dj s)])
   (fun _ _=>by
     unfold vA
     refine dY (by simp) ?_
     simp only
     rw [Pp]) () trivial
  rw [Nat.zero_mul,OQ] at e
  exact e
 refine aQ (Nx s (by omega)) ?_
 rw [z8,fL,cS]
 refine aQ (x:=a4 (2*fm s) (mb s l)) ?_ rfl
 unfold Ff
 obtain ⟨x,e,-⟩:=hY (f:=fun w:Int×List Int=>vB l (a4 (fm s) fun q=>((hj s q:Nat):Int)) ((fm s:Nat):Int) ((2*fm s:Nat):Int) ((dj s:Nat):Int) (a4 (2*fm s*dj s) (fun x=>kG s (x / dj s) (x % dj s))) (a4 (dj s) fun _=>0) w.1 w.2) (fun (n:Nat) (_:Unit)=>((n:Int),upto (2*fm s) (mb s l) (2*n))) (fm s) (fun _ _=>True) (fun _=>a4 (2*fm s) (mb s l))
  (fun n a2 _ _=>by
    refine ⟨(),?_,trivial⟩
    have cg:=Qp s a2
    have pD : ∀a:Nat,a≤1000→J ((2:Int)*((a:Nat):Int))=((2*a:Nat):Int):=fun a bA=>by rw [cr (by omega) (by omega)];omega
    have x1:=aP l[2*hj s n] (List.getElem_mem (by omega))
    have x2:=aP l[2*hj s n+1] (List.getElem_mem (by omega))
    have p1:mb s l (2*n) = -l[2*hj s n]:=by
     unfold mb
     rw [show 2*n / 2=n by omega,show 2*n % 2=0 by omega,Nat.add_zero,List.getD_eq_getElem?_getD,List.getElem?_eq_getElem (by omega)];rfl
    have p2:mb s l (2*n+1) = -l[2*hj s n+1]:=by
     unfold mb
     rw [show (2*n+1) / 2=n by omega,show (2*n+1) % 2=1 by omega,List.getD_eq_getElem?_getD,List.getElem?_eq_getElem (by omega)];rfl
    unfold vB
    refine dx (by simp only;omega) (bD (by rw [cS];simp only;omega) (aQ (x:=((hj s n:Nat):Int)) (by simp only;rw [Int.toNat_natCast];exact fZ a2) ?_))
    simp only
    rw [pD (hj s n) (by omega),pD n (by omega),fq (n:=2*hj s n) (by omega),fq (n:=2*n) (by omega)]
    refine bD (by omega) (aQ (x:=l[2*hj s n]) (by rw [Int.toNat_natCast];exact List.getElem?_eq_getElem (by omega)) (bD (by omega) (aQ (x:=l[2*hj s n+1]) (by rw [Int.toNat_natCast];exact List.getElem?_eq_getElem (by omega)) ?_)))
    refine bD (by rw [xx];omega) (bD (by rw [xx,Int.toNat_natCast];omega) (bD (by rw [xx];omega) (bD (by rw [List.length_set,xx,Int.toNat_natCast];omega) ?_)))
    rw [fq (by omega),cr (x:=0-l[2*hj s n]) (by omega) (by omega),cr (x:=0-l[2*hj s n+1]) (by omega) (by omega),Int.toNat_natCast,Int.toNat_natCast,Nat.zero_add,Nat.zero_add,JU (by omega) (by rw [p1];omega),JU (by omega) (by rw [p2];omega),show 2*(n+1)=2*n+1+1 by omega])
  (fun _ _=>by
    unfold vB
    refine dY (by simp) ?_
    simp only
    rw [Pp]) () trivial
 rw [Nat.mul_zero,OQ] at e
 exact e
theorem Xz (s:cI)(i0:ks s)(h:j2 s=some true)(l:List Int)(aV:l.length=2*s.bZ.length)(aP:∀x∈l,-100≤x∧x≤100):
 ∃r,(tZ s l >>= fun p=>tX p)=some r∧tI s l=some r:=by
 have aj:=abb s i0 h l aP
 obtain ⟨r,e1,e2⟩:=WY aj (cS ..) (fun x R=>by
  obtain ⟨i,-,rfl⟩:=JZ.1 R
  omega)
 obtain ⟨q,q1,q2⟩:=Z8 aj
 refine ⟨r,aQ (Xf s i0 h l aV aP) e1,?_⟩
 unfold tI
 refine aQ (WD s i0 h l aV aP) (aQ q1 ?_)
 rcases q2 with ⟨bV,t,cq,g,e5,rfl,-⟩|⟨bV,rfl⟩
 ·rw [e2.2 bV]
 ·have:r=false:=by
   cases r
   ·rfl
   ·exact (bV (e2.1 rfl)).elim
  rw [this]
theorem W0 (gO:List bE)(n:Int)(dX adC:List bP):q3 gO n adC 0=q3 gO n dX 0:=by
 unfold q3
 congr 1
theorem WE (s:cI)(i0:ks s)(h:j2 s=some true)(dX:List bP)(bV:∀m∈dX,m∈s.bG)(aV:dX.length≤s.bG.length):j2 ⟨s.bZ,dX⟩=some true:=by
 obtain ⟨-,f2,f3,f4⟩:=od s i0 h
 obtain ⟨r,aq⟩:=Ig s i0
 have d1:decide ((6:Int)<len_ bI s.bZ)=false:=by rw [fa];exact decide_eq_false (by omega)
 have d2:decide ((8:Int)<len_ bS s.bG)=false:=by rw [fa];exact decide_eq_false (by omega)
 have d3:decide ((8:Int)<len_ bS dX)=false:=by rw [fa];exact decide_eq_false (by omega)
 have sm:r = .inl ():=by
  cases r with
  | inl a=>rfl
  | inr a =>
   unfold j2 at h
   rw [d1,d2,aq] at h
   simp at h
 subst sm
 have pY : ∀m∈dX,qn s.bZ m=true:=fun m hm=>by
  obtain ⟨n,a2⟩:=List.getElem?_of_mem (bV m hm)
  exact f2 n m a2
 have a8:tE dX s.bZ dX (len_ bS dX) 0=some (.inl ()):=by
  unfold tE
  rw [fa]
  obtain ⟨x,e,-⟩:=hY (f:=fun w:Int=>nM dX s.bZ dX (dX.length:Nat) w) (fun (i:Nat) (_:Unit)=>(i:Int)) dX.length (fun _ _=>True) (fun _=>(Sum.inl ():Unit⊕Int))
   (fun i ao _ _=>by
     refine ⟨(),?_,trivial⟩
     have R:=List.getElem?_eq_getElem ao
     have aP:=pY dX[i] (List.getElem_mem ao)
     unfold nM tT
     refine dx (by omega) (bD (by omega) (aQ (x:=dX[i]) (by rw [Int.toNat_natCast];exact R) (aQ (x:=false) (aQ (C7 _ _) (by simp [aP])) (jH rfl (by rw [fq (by omega)])))))
     )
   (fun _ _=>by unfold nM;exact dY (by omega) rfl) () trivial
  exact e
 have LG:Ct (J (len_ bI s.bZ-1)) dX (len_ bS dX) s.bZ 0=some (Sum.map id (fun _=>()) (Sum.inl ():Unit⊕Int)) :=
  O4 (f:=fun w=>nM dX s.bZ dX (len_ bS dX) w) (Sum.map id fun _=>()) (fun _=>True) (fun _ _ _ _=>trivial)
   (fun i _=>Nq s.bZ dX (by omega) (by omega) i) 0 _ a8 trivial
 unfold j2
 simp only [d1,d3,Bool.false_eq_true,if_false]
 rw [W0 s.bZ _ s.bG dX,aq]
 exact aQ rfl (aQ LG rfl)
def nf (dX:List bP)(list:List Int):Nat→List bP
 | 0=>[]
 | n+1=>nf dX list n++(match dX[n]? with
  | some x=>if (n:Int)∈list then [] else [x]
  | none=>[])
theorem Ai (dX:List bP)(list:List Int): ∀n,(nf dX list n).length≤n
 | 0=>by simp [nf]
 | n+1=>by
  have:=Ai dX list n
  rw [nf,List.length_append]
  have h2:(match dX[n]? with
   | some x=>if (n:Int)∈list then [] else [x]
   | none=>[]).length≤1:=by
   split
   ·split<;>simp
   ·simp
  omega
theorem J5 {dX:List bP}{list:List Int}: ∀ {n:Nat} {m:bP},m∈nf dX list n→m∈dX
 | 0,m,h=>by simp [nf] at h
 | n+1,m,h=>by
  rw [nf,List.mem_append] at h
  rcases h with h|h
  ·exact J5 h
  ·split at h
   ·rename_i x R
    split at h
    ·simp at h
    ·simp at h;subst h;exact List.mem_of_getElem? R
   ·simp at h
def sq (s:cI)(list:List Int):cI:=⟨s.bZ,nf s.bG list s.bG.length⟩
theorem Q5 {n:Nat}(h:n<1000000000000):J ((n:Int)+1)=((n+1:Nat):Int):=by
 rw [cr (by omega) (by omega)];omega
theorem abc (list:List Int)(aV:list.length≤1048576)(k:Int):zL list k=some (decide (k∈list)):=by
 unfold zL IJ
 rw [fL]
 obtain ⟨r,e,h⟩:=ql (f:=fun w:Int=>wF k list (list.length:Nat) w) (fun (i:Nat) (_:Unit)=>(i:Int)) list.length (fun i _=> ∀j,j<i→list[j]? ≠ some k) (fun r=>(r = .inr ()∧k∈list)∨(r = .inl ()∧k ∉ list))
  (fun i ao _ cE=>by
    have R:=List.getElem?_eq_getElem ao
    unfold wF
    by_cases c:list[i]=k
    ·right
     exact ⟨_,dx (by omega) (bD (by omega) (aQ (x:=list[i]) (by rw [Int.toNat_natCast];exact R) (gz (sj c) rfl))),.inl ⟨rfl,c▸List.getElem_mem ao⟩⟩
    ·left
     refine ⟨(),dx (by omega) (bD (by omega) (aQ (x:=list[i]) (by rw [Int.toNat_natCast];exact R) (jH (u4 c) (by rw [Q5 (by omega)])))),fun j aC=> ?_⟩
     by_cases e:j=i
     ·rw [e,R];exact fun h=>c (Option.some.inj h)
     ·exact cE j (by omega))
  (fun _ cE=>⟨_,by unfold wF;exact dY (by omega) rfl,.inr ⟨rfl,fun a5=>by
    obtain ⟨j,aC,e⟩:=List.getElem_of_mem a5
    exact cE j aC (by rw [List.getElem?_eq_getElem aC,e])⟩⟩) () (fun j aC=>by omega)
 rcases h with ⟨rfl,h⟩|⟨rfl,h⟩
 ·exact aQ e (by rw [decide_eq_true h])
 ·exact aQ e (by rw [decide_eq_false h])
theorem XW (list:List Int)(aV:list.length≤1048576)(k:Int):rL list k=some (decide (k∈list)):=by
 unfold rL Ae Dc
 rw [fL]
 obtain ⟨r,e,h⟩:=ql (f:=fun w:Int=>rF list k (list.length:Nat) w) (fun (i:Nat) (_:Unit)=>(i:Int)) list.length (fun i _=> ∀j,j<i→list[j]? ≠ some k) (fun r=>(∃i:Nat,r = .inr (i:Int)∧k∈list)∨(r = .inl ()∧k ∉ list))
  (fun i ao _ cE=>by
    have R:=List.getElem?_eq_getElem ao
    unfold rF
    by_cases c:list[i]=k
    ·right
     exact ⟨_,dx (by omega) (bD (by omega) (aQ (x:=list[i]) (by rw [Int.toNat_natCast];exact R) (gz (sj c.symm) rfl))),.inl ⟨i,rfl,c▸List.getElem_mem ao⟩⟩
    ·left
     refine ⟨(),dx (by omega) (bD (by omega) (aQ (x:=list[i]) (by rw [Int.toNat_natCast];exact R) (jH (u4 (Ne.symm c)) (by rw [Q5 (by omega)])))),fun j aC=> ?_⟩
     by_cases e:j=i
     ·rw [e,R];exact fun h=>c (Option.some.inj h)
     ·exact cE j (by omega))
  (fun _ cE=>⟨_,by unfold rF;exact dY (by omega) rfl,.inr ⟨rfl,fun a5=>by
    obtain ⟨j,aC,e⟩:=List.getElem_of_mem a5
    exact cE j aC (by rw [List.getElem?_eq_getElem aC,e])⟩⟩) () (fun j aC=>by omega)
 rcases h with ⟨i,rfl,h⟩|⟨rfl,h⟩
 ·exact aQ (x:=(i:Int)) (aQ e rfl) (by rw [decide_eq_true h];simp)
 ·exact aQ (x:=(-1:Int)) (aQ e rfl) (by rw [decide_eq_false h];rfl)
theorem XX (s:cI)(aC:s.bZ.length≤1000)(hm:s.bG.length≤1000)(list:List Int)(aV:list.length≤1048576):wG s list=some (sq s list):=by
 unfold wG F9
 rw [fa,List.nil_append]
 obtain ⟨x,e,-⟩:=hY (f:=fun w:Int×List bP=>vN list s.bG (s.bG.length:Nat) s.bZ w.1 w.2) (fun (i:Nat) (_:Unit)=>((i:Int),nf s.bG list i)) s.bG.length (fun _ _=>True) (fun _=>nf s.bG list s.bG.length)
  (fun i ao _ _=>by
    refine ⟨(),?_,trivial⟩
    have R:=List.getElem?_eq_getElem ao
    have hw:=Ai s.bG list i
    have e1:nf s.bG list (i+1)=nf s.bG list i++(if (i:Int)∈list then [] else [s.bG[i]]):=by rw [nf,R]
    unfold vN
    refine dx (by simp only;omega) (bD (by simp only;omega) (aQ (x:=s.bG[i]) (by simp only;rw [Int.toNat_natCast];exact R) (aQ (abc list aV _) ?_)))
    simp only
    rw [fq (by omega),e1]
    by_cases c:(i:Int)∈list
    ·rw [if_pos c]
     exact gz (decide_eq_true c) (by rw [List.append_nil])
    ·rw [if_neg c]
     exact jH (decide_eq_false c) (bD (by simp only [List.length_append,List.length_cons,List.length_nil];omega) rfl))
  (fun _ _=>by unfold vN;exact dY (by simp) rfl) () trivial
 exact bD (by omega) (aQ e rfl)
theorem XY (s:cI)(aC:s.bZ.length≤1000)(hm:s.bG.length≤1000)(list:List Int)(aV:list.length≤1048576):wK s list=some (sq s list):=by
 unfold wK Gi CW
 rw [fa]
 refine aQ (x:=s.bZ) (bD (by omega) rfl) ?_
 obtain ⟨x,e,-⟩:=hY (f:=fun w:Int×List bP=>vO list s.bG (s.bG.length:Nat) s.bZ w.1 w.2) (fun (i:Nat) (_:Unit)=>((i:Int),nf s.bG list i)) s.bG.length (fun _ _=>True) (fun _=>nf s.bG list s.bG.length)
  (fun i ao _ _=>by
    refine ⟨(),?_,trivial⟩
    have R:=List.getElem?_eq_getElem ao
    have hw:=Ai s.bG list i
    have e1:nf s.bG list (i+1)=nf s.bG list i++(if (i:Int)∈list then [] else [s.bG[i]]):=by rw [nf,R]
    unfold vO
    refine dx (by simp only;omega) (bD (by simp only;omega) (aQ (x:=s.bG[i]) (by simp only;rw [Int.toNat_natCast];exact R) (aQ (XW list aV _) ?_)))
    simp only
    rw [fq (by omega),e1]
    by_cases c:(i:Int)∈list
    ·rw [if_pos c]
     exact gz (decide_eq_true c) (by rw [List.append_nil])
    ·rw [if_neg c]
     exact jH (decide_eq_false c) (bD (by simp only [List.length_append,List.length_cons,List.length_nil];omega) rfl))
  (fun _ _=>by unfold vO;exact dY (by simp) rfl) () trivial
 exact aQ e rfl
theorem XZ {vx:Nat}{l:List Int}(h:qy vx l=true):l.length=2*vx∧ ∀x∈l,-100≤x∧x≤100:=by
 unfold qy at h
 rw [Bool.and_eq_true,decide_eq_true_eq,List.all_eq_true] at h
 exact ⟨h.1,fun x R=>by have:=h.2 x R;unfold pR at this;simpa using this⟩
theorem Zh (s:cI)(i0:ks s)(l:List Int)(aV:l.length≤maxLen):
 (sJ s l=some true∧xg s l=some true∧j2 s=some true∧qy s.bZ.length l=true)∨(sJ s l=some false∧xg s l=some false):=by
 obtain ⟨p,p1,p2⟩:=M4 s i0
 have qX:p=true→s.bZ.length≤6:=fun h=>(od s i0 (h▸p1)).2.2.1
 have e:=OO s p p1 qX l aV
 cases p with
 | false=>exact .inr ⟨e,aQ p2 (jH rfl rfl)⟩
 | true =>
  rw [Bool.true_and] at e
  have e2:xg s l=some (qy s.bZ.length l):=aQ p2 (gz rfl (aQ (XR s (qX rfl) l aV) rfl))
  by_cases c:qy s.bZ.length l=true
  ·rw [c] at e e2;exact .inl ⟨e,e2,p1,c⟩
  ·rw [Bool.not_eq_true] at c
   rw [c] at e e2;exact .inr ⟨e,e2⟩
theorem abd (s:cI)(i0:ks s)(l:List Int)(aV:l.length≤maxLen)(h:j2 s=some true)(aP:qy s.bZ.length l=true):
 ∃r,zv s l=some r∧tI s l=some r:=by
 obtain ⟨f1,f2⟩:=XZ aP
 obtain ⟨r,r1,r2⟩:=Xz s i0 h l f1 f2
 have e:=OO s true h (fun _=>(od s i0 h).2.2.1) l aV
 rw [aP] at e
 refine ⟨r,aQ e (gz rfl ?_),r2⟩
 cases aj:tZ s l with
 | none=>rw [aj] at r1;cases r1
 | some p =>
  rw [aj] at r1
  exact aQ rfl (aQ (show tX p=some r from r1) rfl)
theorem aaa (s:cI)(i0:ks s)(h:j2 s=some true)(list:List Int):
 ks (sq s list)∧j2 (sq s list)=some true:=by
 refine ⟨⟨i0.1,?_⟩,WE s i0 h _ (fun m hm=>J5 hm) (Ai ..)⟩
 refine ⟨?_,fun m hm=>i0.2.2 m (J5 hm)⟩
 exact Nat.le_trans (Ai ..) i0.2.1
theorem aab (s:cI)(i0:ks s)(l:List Int)(aV:l.length≤maxLen)(h:j2 s=some true)(aP:qy s.bZ.length l=true)(list:List Int)(BU:list.length≤1048576):
 ∃r,(wG s list=some (sq s list)∧zv (sq s list) l=some r)∧wK s list=some (sq s list)∧tI (sq s list) l=some r:=by
 obtain ⟨-,-,aX,bi⟩:=od s i0 h
 obtain ⟨ke,pD⟩:=aaa s i0 h list
 obtain ⟨r,r1,r2⟩:=abd (sq s list) ke l aV pD aP
 exact ⟨r,⟨XX s (by omega) (by omega) list BU,r1⟩,XY s (by omega) (by omega) list BU,r2⟩
theorem Xg (s:cI)(i0:ks s)(l:List Int)(aV:l.length≤maxLen)(k:Int)(afZ:nx k): ∃r,w6 s l k=some r∧w7 s l k=some r:=by
 rcases Zh s i0 l aV with ⟨e1,e2,h,aP⟩|⟨e1,e2⟩
 ·obtain ⟨-,-,aX,bi⟩:=od s i0 h
  obtain ⟨r,⟨ke,pD⟩,tB,Sl⟩:=aab s i0 l aV h aP [k] (by simp)
  have hw:J (len_ bS s.bG-1)=(s.bG.length:Int)-1:=by rw [fa,cr (by omega) (by omega)]
  by_cases c:0≤k∧k<s.bG.length
  ·refine ⟨r,?_,?_⟩
   ·unfold w6
    refine aQ e1 (gz rfl (aQ (by rw [hw,pM]) (gz (decide_eq_true (by omega)) (aQ ke (aQ pD rfl)))))
   ·unfold w7
    refine aQ e2 (gz rfl (dY (by omega) (dY (by rw [fa];omega) (aQ tB (aQ Sl rfl)))))
  ·refine ⟨false,?_,?_⟩
   ·unfold w6
    refine aQ e1 (gz rfl (aQ (by rw [hw,pM]) (jH (decide_eq_false (by omega)) rfl)))
   ·unfold w7
    refine aQ e2 (gz rfl ?_)
    by_cases dh:k<0
    ·exact dx dh rfl
    ·exact dY dh (dx (by rw [fa];omega) rfl)
 ·exact ⟨false,aQ e1 (jH rfl rfl),aQ e2 (jH rfl rfl)⟩
theorem TF (x0:cI)(x1:List Int)(x2:Int)(i0:ks x0)(i1:(fun l=>l.length≤maxLen∧ ∀x∈l,nx x) x1)(i2:nx x2):Cs x0 x1 x2=some true:=by
 unfold Cs
 rw [fL]
 by_cases h1:(1048576:Int)<(x1.length:Nat)
 ·exact dx h1 rfl
 refine dY h1 ?_
 obtain ⟨r,r1,r2⟩:=Wi x0 i0 1048576 (by omega) (by omega)
 refine aQ r1 ?_
 by_cases h2:r<0
 ·exact dx h2 rfl
 obtain ⟨gv,hr⟩:=r2 (by omega)
 obtain ⟨q,q1,q2⟩:=Xg x0 i0 x1 i1.1 x2 i2
 exact dY h2 (aQ (Wj x0 gv hr) (aQ (XS x1 (by omega)) (aQ q1 (aQ q2 (gz (by simp) (aQ (Wh x0 gv hr) (gz rfl (aQ (XN x1 (by omega)) (gz rfl rfl)))))))))
end Go.Proofs.YtdkjpcaalflfhaaGreat
