/- Lemmas, plain functions of the program, and what they answer. No condition. -/
import Derived.Test.YtamedijmgkdlgaaGreatME
namespace Go.Proofs.YtamedijmgkdlgaaGreat
set_option linter.unusedVariables false
set_option linter.unusedSimpArgs false
open Go Go.VL
theorem aa8 (s:ct)(i0:kt s)(h:j5 s=some true)(j:Int)(q1:List Int)(q2 bL:Int)(bZ:List (List Int)):
 Cw s.bY s.bt j q1 q2 bL (len_ bQ s.bt) bZ 0 (a4 s.bt.length fun _=>(0:Int)) (a4 s.bt.length fun _=>(0:Int))=some (a4 s.bt.length (iw s j 0),a4 s.bt.length (iw s j 1)):=by
 obtain ⟨-,-,f3,f4⟩:=ol s i0 h
 unfold Cw
 rw [fa]
 obtain ⟨x,e,-⟩:=h5 (f:=fun w:Int×List Int×List Int=>vK s.bY s.bt j q1 q2 bL (s.bt.length:Nat) bZ w.1 w.2.1 w.2.2) (fun (n:Nat) (_:Unit)=>((n:Int),(a4 s.bt.length fun k=>if k<n then iw s j 0 k else 0),a4 s.bt.length fun k=>if k<n then iw s j 1 k else 0)) s.bt.length (fun _ _=>True) (fun _=>(a4 s.bt.length (iw s j 0),a4 s.bt.length (iw s j 1)))
  (fun n a2 _ _=>by
    refine ⟨(),?_,trivial⟩
    have J:=List.getElem?_eq_getElem a2
    obtain ⟨v1,-,v3,v4⟩:=Ka s i0 h n a2
    have dx : ∀i6 v,v=iw s j i6 n→(a4 s.bt.length fun k=>if k<n then iw s j i6 k else 0).set n v=a4 s.bt.length fun k=>if k<n+1 then iw s j i6 k else 0:=fun i6 v bd=>by
     rw [k1]
     refine eY fun k _=> ?_
     by_cases c:k=n
     ·subst c;rw [if_pos rfl,if_pos (by omega)];exact bd
     ·rw [if_neg c]
      by_cases cb:k<n
      ·rw [if_pos cb,if_pos (by omega)]
      ·rw [if_neg cb,if_neg (by omega)]
    have g1 : ∀F:Nat→Int,0≤((n:Nat):Int)∧((n:Nat):Int)<((a4 s.bt.length F).length:Nat):=fun F=>by rw [cX];omega
    have g2 : ∀F:Nat→Int,0+((n:Nat):Int).toNat<(a4 s.bt.length F).length:=fun F=>by rw [cX,Int.toNat_natCast];omega
    unfold vK
    refine dn (by simp only;omega) (bC (by simp only;omega) (aN (x:=s.bt[n]) (by simp only;rw [Int.toNat_natCast];exact J) (aN (x:=lK s n) v1 ?_)))
    simp only
    by_cases br:j=s.bt[n].dG
    ·have e0 : ∀i6,iw s j i6 n=if i6=0 then (lK s n).1 else (lK s n).2:=fun i6=>by unfold iw;rw [J];simp only [if_pos br]
     refine f7 (sl br) (bC (g1 _) (bC (g2 _) (bC (g1 _) (bC (g2 _) ?_))))
     rw [fs (by omega),Int.toNat_natCast,Nat.zero_add,dx 0 _ (by rw [e0];rfl),dx 1 _ (by rw [e0];rfl)]
    ·refine iS (tm br) ?_
     by_cases cb:j=s.bt[n].ei
     ·have e0 : ∀i6,iw s j i6 n = -(if i6=0 then (lK s n).1 else (lK s n).2):=fun i6=>by unfold iw;rw [J];simp only [if_neg br,if_pos cb]
      refine f7 (sl cb) (bC (g1 _) (bC (g2 _) (bC (g1 _) (bC (g2 _) ?_))))
      rw [fs (by omega),Int.toNat_natCast,Nat.zero_add,cu (by omega) (by omega),cu (by omega) (by omega),dx 0 _ (by rw [e0];simp),dx 1 _ (by rw [e0];simp)]
     ·have e0 : ∀i6,iw s j i6 n=0:=fun i6=>by unfold iw;rw [J];simp only [if_neg br,if_neg cb]
      refine iS (tm cb) ?_
      rw [fs (by omega)]
      congr 4
      ·refine eY fun k _=> ?_
       by_cases c:k=n
       ·subst c;rw [if_neg (by omega),if_pos (by omega),e0]
       ·by_cases cb:k<n
        ·rw [if_pos cb,if_pos (by omega)]
        ·rw [if_neg cb,if_neg (by omega)]
      ·refine eY fun k _=> ?_
       by_cases c:k=n
       ·subst c;rw [if_neg (by omega),if_pos (by omega),e0]
       ·by_cases cb:k<n
        ·rw [if_pos cb,if_pos (by omega)]
        ·rw [if_neg cb,if_neg (by omega)])
  (fun _ _=>by
    unfold vK
    refine dZ (by simp) ?_
    simp only
    congr 3
    ·exact eY fun k a5=>by rw [if_pos a5]
    ·exact eY fun k a5=>by rw [if_pos a5]) () trivial
 have z : ∀i6,(a4 s.bt.length fun k=>if k<0 then iw s j i6 k else 0)=a4 s.bt.length fun _=>(0:Int):=fun i6=>eY fun k _=>by rw [if_neg (by omega)]
 rw [z,z] at e
 exact e
def hl (s:ct)(q:Nat):Nat:=(kJ s.bY 0).getD q 0
def fp (s:ct):Nat:=(kJ s.bY 0).length
def ko (s:ct)(r k:Nat):Int:=iw s (hl s (r / 2)) (r % 2) k
theorem Al (s:ct):(kJ s.bY 0).map (fun n:Nat=>(n:Int))=a4 (fp s) fun q=>((hl s q:Nat):Int):=by
 apply List.ext_getElem?
 intro q
 rw [List.getElem?_map]
 by_cases c:q<fp s
 ·rw [f8 c]
  have h:(kJ s.bY 0)[q]? = some (kJ s.bY 0)[q]:=List.getElem?_eq_getElem c
  unfold hl
  rw [List.getD_eq_getElem?_getD,h];rfl
 ·rw [List.getElem?_eq_none_iff.2 (by unfold fp at c;omega),List.getElem?_eq_none_iff.2 (by rw [cX];omega)];rfl
theorem QN (s:ct){q:Nat}(h:q<fp s):hl s q<s.bY.length:=by
 have h1:(kJ s.bY 0)[q]? = some (kJ s.bY 0)[q]:=List.getElem?_eq_getElem h
 have h2:hl s q=(kJ s.bY 0)[q]:=by unfold hl;rw [List.getD_eq_getElem?_getD,h1];rfl
 have:=J6 s.bY 0 _ (List.mem_of_getElem? h1)
 omega
theorem x9 (s:ct):fp s≤s.bY.length:=PI s.bY 0
theorem Kl {α:Type}(r n:Nat)(e:Nat→Nat→α):(a4 (r*n) fun x=>e (x / n) (x % n))++a4 n (e r)=a4 ((r+1)*n) fun x=>e (x / n) (x % n):=by
 rw [Nat.succ_mul,aa6]
 congr 1
 refine eY fun j aD=> ?_
 have h1:(r*n+j) / n=r:=by rw [Nat.mul_comm,Nat.mul_add_div (by omega),Nat.div_eq_of_lt aD];rfl
 have h2:(r*n+j) % n=j:=by rw [Nat.mul_comm,Nat.mul_add_mod,Nat.mod_eq_of_lt aD]
 rw [h1,h2]
theorem Y2 (s:ct)(i0:kt s)(h:j5 s=some true):zQ s=some (a4 (2*fp s*s.bt.length) fun x=>ko s (x / s.bt.length) (x % s.bt.length)):=by
 obtain ⟨-,-,f3,f4⟩:=ol s i0 h
 have tC:=x9 s
 unfold zQ
 refine aN (JJ s (by omega)) ?_
 rw [Al,fC,cX]
 unfold IV
 obtain ⟨x,e,-⟩:=h5 (f:=fun w:Int×List Int=>wD (a4 (fp s) fun q=>((hl s q:Nat):Int)) ((fp s:Nat):Int) s.bY s.bt w.1 w.2) (fun (n:Nat) (_:Unit)=>((n:Int),a4 (2*n*s.bt.length) fun x=>ko s (x / s.bt.length) (x % s.bt.length))) (fp s) (fun _ _=>True) (fun _=>a4 (2*fp s*s.bt.length) fun x=>ko s (x / s.bt.length) (x % s.bt.length))
  (fun n a2 _ _=>by
    refine ⟨(),?_,trivial⟩
    have aP:2*n*s.bt.length≤12*8:=Nat.mul_le_mul (by omega) f4
    unfold wD
    refine dn (by simp only;omega) (bC (by rw [cX];simp only;omega) (aN (x:=((hl s n:Nat):Int)) (by simp only;rw [Int.toNat_natCast];exact f8 a2) (aN (aa7 s i0 h _ _ _ _ _) ?_)))
    refine bC (by simp only [List.length_append,cX];omega) (bC (by simp only [List.length_append,cX];omega) ?_)
    simp only
    rw [fs (by omega)]
    have r1:a4 s.bt.length (iw s (hl s n) 0)=a4 s.bt.length (ko s (2*n)):=eY fun k _=>by
     unfold ko;rw [show 2*n / 2=n by omega,show 2*n % 2=0 by omega]
    have r2:a4 s.bt.length (iw s (hl s n) 1)=a4 s.bt.length (ko s (2*n+1)):=eY fun k _=>by
     unfold ko;rw [show (2*n+1) / 2=n by omega,show (2*n+1) % 2=1 by omega]
    rw [r1,r2,Kl (2*n),Kl (2*n+1),show 2*n+1+1=2*(n+1) by omega])
  (fun _ _=>by unfold wD;exact dZ (by simp) rfl) () trivial
 have z:(a4 (2*0*s.bt.length) fun x=>ko s (x / s.bt.length) (x % s.bt.length))=[]:=by simp [a4]
 rw [z] at e
 exact aN e rfl
theorem Xv (s:ct)(i0:kt s)(h:j5 s=some true):yZ s=some (a4 (2*fp s) fun r=>a4 s.bt.length (ko s r)):=by
 obtain ⟨-,-,f3,f4⟩:=ol s i0 h
 have tC:=x9 s
 unfold yZ
 refine aN (NS s (by omega)) ?_
 rw [Al,fC,cX]
 unfold FA
 obtain ⟨x,e,-⟩:=h5 (f:=fun w:Int×List (List Int)=>vL s.bY s.bt (a4 (fp s) fun q=>((hl s q:Nat):Int)) ((fp s:Nat):Int) w.1 w.2) (fun (n:Nat) (_:Unit)=>((n:Int),a4 (2*n) fun r=>a4 s.bt.length (ko s r))) (fp s) (fun _ _=>True) (fun _=>a4 (2*fp s) fun r=>a4 s.bt.length (ko s r))
  (fun n a2 _ _=>by
    refine ⟨(),?_,trivial⟩
    unfold vL
    refine dn (by simp only;omega) (bC (by rw [cX];simp only;omega) (aN (x:=((hl s n:Nat):Int)) (by simp only;rw [Int.toNat_natCast];exact f8 a2) (bC (by rw [fa];omega) ?_)))
    refine aN (x:=(a4 s.bt.length (iw s (hl s n) 0),a4 s.bt.length (iw s (hl s n) 1))) (by rw [show (len_ bQ s.bt).toNat=s.bt.length by rw [fa,Int.toNat_natCast],qv];exact aa8 s i0 h _ _ _ _ _) (bC (by simp only [List.length_append,cX,List.length_cons,List.length_nil];omega) ?_)
    simp only
    rw [fs (by omega),show 2*(n+1)=2*n+1+1 by omega,k0 (2*n+1),k0 (2*n)]
    have r1:a4 s.bt.length (iw s (hl s n) 0)=a4 s.bt.length (ko s (2*n)):=eY fun k _=>by
     unfold ko;rw [show 2*n / 2=n by omega,show 2*n % 2=0 by omega]
    have r2:a4 s.bt.length (iw s (hl s n) 1)=a4 s.bt.length (ko s (2*n+1)):=eY fun k _=>by
     unfold ko;rw [show (2*n+1) / 2=n by omega,show (2*n+1) % 2=1 by omega]
    rw [r1,r2];simp)
  (fun _ _=>by unfold vL;exact dZ (by simp) rfl) () trivial
 exact aN e rfl
def gp (s:ct):List eu:=lx s.bt s.bt.length
def dq (s:ct):Nat:=(gp s).length
def mz (s:ct)(c:Nat):Nat:=((gp s).getD c ⟨0,0⟩).mD.toNat
def pL (s:ct)(c:Nat):Int:=((gp s).getD c ⟨0,0⟩).p5
def kG (s:ct)(i c:Nat):Int:=pL s c*ko s i (mz s c)
def mf (s:ct)(l:List Int)(i:Nat):Int:= -(l.getD (2*hl s (i / 2)+i % 2) 0)
theorem AL (s:ct){c:Nat}(bb:c<dq s):(gp s)[c]? = some ⟨(mz s c:Int),pL s c⟩∧mz s c<s.bt.length∧(pL s c=1∨pL s c = -1):=by
 have h1:(gp s)[c]? = some (gp s)[c]:=List.getElem?_eq_getElem bb
 have h2:(gp s).getD c ⟨0,0⟩=(gp s)[c]:=by rw [List.getD_eq_getElem?_getD,h1];rfl
 obtain ⟨k,e1,e2,bR⟩:=PM (Nat.le_refl _) (List.mem_of_getElem? h1)
 have c7:mz s c=k:=by unfold mz;rw [h2,e1];rfl
 have dh:pL s c=((gp s)[c]).p5:=by unfold pL;rw [h2]
 refine ⟨?_,by omega,by rw [dh];exact bR⟩
 rw [h1,c7,dh,← e1]
theorem KM (s:ct):dq s≤2*s.bt.length:=DK _ _
theorem aa9 (s:ct):(gp s).map eu.mD=a4 (dq s) fun c=>((mz s c:Nat):Int):=by
 apply List.ext_getElem?
 intro c
 rw [List.getElem?_map]
 by_cases h:c<dq s
 ·rw [(AL s h).1,f8 h];rfl
 ·rw [List.getElem?_eq_none_iff.2 (by unfold dq at h;omega),List.getElem?_eq_none_iff.2 (by rw [cX];omega)];rfl
theorem aba (s:ct):(gp s).map eu.p5=a4 (dq s) (pL s):=by
 apply List.ext_getElem?
 intro c
 rw [List.getElem?_map]
 by_cases h:c<dq s
 ·rw [(AL s h).1,f8 h];rfl
 ·rw [List.getElem?_eq_none_iff.2 (by unfold dq at h;omega),List.getElem?_eq_none_iff.2 (by rw [cX];omega)];rfl
theorem KN (s:ct)(i0:kt s)(h:j5 s=some true)(i:Nat){c:Nat}(bb:c<dq s): -100≤kG s i c∧kG s i c≤100:=by
 have h1:=abF s i0 h (hl s (i / 2)) (i % 2) (mz s c)
 unfold kG ko
 rcases (AL s bb).2.2 with e|e<;>rw [e]<;>omega
theorem aaD (s:ct)(i0:kt s)(h:j5 s=some true)(l:List Int)(aU:l.length=2*s.bY.length)(aP:∀x∈l,-100≤x∧x≤100):zB s l=some (a4 (2*fp s) (mf s l)):=by
 obtain ⟨-,-,f3,f4⟩:=ol s i0 h
 have tC:=x9 s
 unfold zB
 refine aN (JJ s (by omega)) ?_
 rw [Al,fC,cX]
 unfold ID
 obtain ⟨x,e,-⟩:=h5 (f:=fun w:Int×List Int=>wv l (a4 (fp s) fun q=>((hl s q:Nat):Int)) ((fp s:Nat):Int) w.1 w.2) (fun (n:Nat) (_:Unit)=>((n:Int),a4 (2*n) (mf s l))) (fp s) (fun _ _=>True) (fun _=>a4 (2*fp s) (mf s l))
  (fun n a2 _ _=>by
    refine ⟨(),?_,trivial⟩
    have cf:=QN s a2
    have pJ:R ((2:Int)*((hl s n:Nat):Int))=((2*hl s n:Nat):Int):=by rw [cu (by omega) (by omega)];omega
    have tG:R (((2*hl s n:Nat):Int)+1)=((2*hl s n+1:Nat):Int):=fs (by omega)
    have x1:=aP l[2*hl s n] (List.getElem_mem (by omega))
    have x2:=aP l[2*hl s n+1] (List.getElem_mem (by omega))
    have p1:mf s l (2*n) = -l[2*hl s n]:=by
     unfold mf
     rw [show 2*n / 2=n by omega,show 2*n % 2=0 by omega,Nat.add_zero,List.getD_eq_getElem?_getD,List.getElem?_eq_getElem (by omega)];rfl
    have p2:mf s l (2*n+1) = -l[2*hl s n+1]:=by
     unfold mf
     rw [show (2*n+1) / 2=n by omega,show (2*n+1) % 2=1 by omega,List.getD_eq_getElem?_getD,List.getElem?_eq_getElem (by omega)];rfl
    unfold wv
    refine dn (by simp only;omega) (bC (by rw [cX];simp only;omega) (aN (x:=((hl s n:Nat):Int)) (by simp only;rw [Int.toNat_natCast];exact f8 a2) ?_))
    rw [pJ,tG]
    refine bC (by omega) (aN (x:=l[2*hl s n]) (by rw [Int.toNat_natCast];exact List.getElem?_eq_getElem (by omega)) (bC (by omega) (aN (x:=l[2*hl s n+1]) (by rw [Int.toNat_natCast];exact List.getElem?_eq_getElem (by omega)) (bC (by simp only [List.length_append,cX,List.length_cons,List.length_nil];omega) ?_))))
    simp only
    rw [fs (by omega),cu (by omega) (by omega),cu (by omega) (by omega),show 2*(n+1)=2*n+1+1 by omega,k0 (2*n+1),k0 (2*n),p1,p2]
    simp)
  (fun _ _=>by unfold wv;exact dZ (by simp) rfl) () trivial
 exact aN e rfl
def Ml (s:ct)(l:List Int):hn:=⟨((2*fp s:Nat):Int),(dq s:Int),a4 (2*fp s*dq s) (fun x=>kG s (x / dq s) (x % dq s)),a4 (2*fp s) (mf s l),a4 (dq s) fun _=>0⟩
theorem abG (s:ct)(i0:kt s)(h:j5 s=some true)(l:List Int)(aP:∀x∈l,-100≤x∧x≤100):mb (Ml s l) (2*fp s) (dq s) (kG s) (mf s l) where
 rows:=rfl
 gp:=rfl
 gz:=cX ..
 K9:=fun i an j aD=>by
  have h1:i*dq s+j<2*fp s*dq s:=by
   have:(i+1)*dq s≤2*fp s*dq s:=Nat.mul_le_mul_right _ an
   rw [Nat.succ_mul] at this;omega
  show (a4 _ _)[_]? = _
  rw [f8 h1]
  have h2:(i*dq s+j) / dq s=i:=by rw [Nat.mul_comm,Nat.mul_add_div (by omega),Nat.div_eq_of_lt aD];rfl
  have ab:(i*dq s+j) % dq s=j:=by rw [Nat.mul_comm,Nat.mul_add_mod,Nat.mod_eq_of_lt aD]
  rw [h2,ab]
 vD:=cX ..
 yg:=fun i an=>f8 an
 hm:=by
  obtain ⟨-,-,f3,f4⟩:=ol s i0 h
  have:=x9 s;omega
 a2:=by
  obtain ⟨-,-,f3,f4⟩:=ol s i0 h
  have:=KM s;omega
 sB:=fun i _ j aD=>KN s i0 h i aD
 vC:=fun i _=>by
  unfold mf
  rw [List.getD_eq_getElem?_getD]
  cases c:l[2*hl s (i / 2)+i % 2]? with
  | none=>simp
  | some x =>
   have:=aP x (List.mem_of_getElem? c)
   simp only [Option.getD_some];omega
theorem XL (s:ct)(i0:kt s)(h:j5 s=some true)(l:List Int)(aU:l.length=2*s.bY.length)(aP:∀x∈l,-100≤x∧x≤100):ud s l=some (Ml s l):=by
 obtain ⟨-,-,f3,f4⟩:=ol s i0 h
 have tC:=x9 s
 have Co:=KM s
 unfold ud
 refine aN (XK s (by omega)) (aN (Y2 s i0 h) (aN (JJ s (by omega)) (aN (aaD s i0 h l aU aP) ?_)))
 show (if 0≤len_ eI ((gp s).map eu.mD)∧_ then _ else none)=_
 rw [Al]
 show (if 0≤len_ eI ((gp s).map eu.mD)∧(8:Int)*len_ eI ((gp s).map eu.mD)≤281474976710656∧len_ eI ((gp s).map eu.mD)<9223372036854775808 then
  CL ((gp s).map eu.mD) ((gp s).map eu.p5) (len_ bQ s.bt) _ (R ((2:Int)*len_ eI (a4 (fp s) fun q=>((hl s q:Nat):Int)))) (len_ eI ((gp s).map eu.mD)) (a4 (2*fp s) (mf s l)) (List.replicate (len_ eI ((gp s).map eu.mD)).toNat 0) 0 [] >>= fun cY=>some (⟨R ((2:Int)*len_ eI (a4 (fp s) fun q=>((hl s q:Nat):Int))),len_ eI ((gp s).map eu.mD),cY,a4 (2*fp s) (mf s l),List.replicate (len_ eI ((gp s).map eu.mD)).toNat 0⟩:hn) else none)=_
 rw [aa9,aba,fC,cX,fC,cX,Int.toNat_natCast,fa,show R ((2:Int)*(fp s:Nat))=((2*fp s:Nat):Int) by rw [cu (by omega) (by omega)];omega,qv]
 refine bC (by omega) (aN (x:=a4 (2*fp s*dq s) (fun x=>kG s (x / dq s) (x % dq s))) ?_ rfl)
 unfold CL
 obtain ⟨x,e,-⟩:=h5 (f:=fun w:Int×List Int=>we (a4 (dq s) fun c=>((mz s c:Nat):Int)) (a4 (dq s) (pL s)) (s.bt.length:Nat) (a4 (2*fp s*s.bt.length) fun x=>ko s (x / s.bt.length) (x % s.bt.length)) ((2*fp s:Nat):Int) ((dq s:Nat):Int) (a4 (2*fp s) (mf s l)) (a4 (dq s) fun _=>0) w.1 w.2) (fun (i:Nat) (_:Unit)=>((i:Int),a4 (i*dq s) (fun x=>kG s (x / dq s) (x % dq s)))) (2*fp s) (fun _ _=>True) (fun _=>a4 (2*fp s*dq s) (fun x=>kG s (x / dq s) (x % dq s)))
  (fun i an _ _=>by
    refine ⟨(),?_,trivial⟩
    have R4:i*dq s≤12*16:=Nat.mul_le_mul (by omega) (by omega)
    have lR:i*s.bt.length≤12*8:=Nat.mul_le_mul (by omega) f4
    obtain ⟨y,e2,-⟩:=h5 (f:=fun w:Int×List Int=>wc (a4 (dq s) fun c=>((mz s c:Nat):Int)) (a4 (dq s) (pL s)) (s.bt.length:Nat) (a4 (2*fp s*s.bt.length) fun x=>ko s (x / s.bt.length) (x % s.bt.length)) (i:Int) ((dq s:Nat):Int) ((2*fp s:Nat):Int) ((dq s:Nat):Int) (a4 (2*fp s) (mf s l)) (a4 (dq s) fun _=>0) w.1 w.2)
     (fun (c:Nat) (_:Unit)=>((c:Int),(a4 (i*dq s) fun x=>kG s (x / dq s) (x % dq s))++a4 c (kG s i))) (dq s) (fun _ _=>True) (fun _=>(a4 (i*dq s) fun x=>kG s (x / dq s) (x % dq s))++a4 (dq s) (kG s i))
     (fun c bb _ _=>by
       refine ⟨(),?_,trivial⟩
       obtain ⟨-,li,qj⟩:=AL s bb
       have o8:(i+1)*s.bt.length≤2*fp s*s.bt.length:=Nat.mul_le_mul_right _ an
       rw [Nat.succ_mul] at o8
       have kh:R (R ((i:Int)*((s.bt.length:Nat):Int))+((mz s c:Nat):Int))=((i*s.bt.length+mz s c:Nat):Int):=by
        rw [← Int.natCast_mul,cu (x:=((i*s.bt.length:Nat):Int)) (by omega) (by omega),cu (by omega) (by omega)];omega
       have h2:(i*s.bt.length+mz s c) / s.bt.length=i:=by rw [Nat.mul_comm,Nat.mul_add_div (by omega),Nat.div_eq_of_lt li];rfl
       have ab:(i*s.bt.length+mz s c) % s.bt.length=mz s c:=by rw [Nat.mul_comm,Nat.mul_add_mod,Nat.mod_eq_of_lt li]
       have ad4:=KN s i0 h i bb
       unfold wc
       refine dn (by simp only;omega) (bC (by rw [cX];simp only;omega) (aN (x:=((mz s c:Nat):Int)) (by simp only;rw [Int.toNat_natCast];exact f8 bb) (bC (by rw [cX];simp only;omega) (aN (x:=pL s c) (by simp only;rw [Int.toNat_natCast];exact f8 bb) ?_))))
       rw [kh]
       refine bC (by rw [cX];omega) (aN (x:=ko s i (mz s c)) (by rw [Int.toNat_natCast,f8 (by omega),h2,ab]) (bC (by simp only [List.length_append,cX,List.length_cons,List.length_nil];omega) ?_))
       simp only
       rw [fs (by omega),k0,show pL s c*ko s i (mz s c)=kG s i c from rfl,cu (by omega) (by omega),List.append_assoc])
     (fun _ _=>by unfold wc;exact dZ (by simp) rfl) () trivial
    have z:(a4 (i*dq s) fun x=>kG s (x / dq s) (x % dq s))++a4 0 (kG s i)=a4 (i*dq s) fun x=>kG s (x / dq s) (x % dq s):=by simp [a4]
    rw [z] at e2
    unfold we
    refine dn (by simp only;omega) (aN (x:=(a4 (i*dq s) fun x=>kG s (x / dq s) (x % dq s))++a4 (dq s) (kG s i)) (by unfold HX;rw [fC,cX];exact e2) ?_)
    simp only
    rw [fs (by omega),Kl])
  (fun _ _=>by unfold we;exact dZ (by simp) rfl) () trivial
 have z:(a4 (0*dq s) fun x=>kG s (x / dq s) (x % dq s))=[]:=by simp [a4]
 rw [z] at e
 exact e
def upto (n:Nat)(f:Nat→Int)(k:Nat):List Int:=a4 n fun x=>if x<k then f x else 0
theorem Kb {n k:Nat}{f:Nat→Int}(a5:k<n){v:Int}(bd:v=f k):(upto n f k).set k v=upto n f (k+1):=by
 unfold upto
 rw [k1]
 refine eY fun j _=> ?_
 by_cases c:j=k
 ·subst c;rw [if_pos rfl,if_pos (by omega)];exact bd
 ·rw [if_neg c]
  by_cases cb:j<k
  ·rw [if_pos cb,if_pos (by omega)]
  ·rw [if_neg cb,if_neg (by omega)]
theorem Pd (n:Nat)(f:Nat→Int):upto n f 0=a4 n fun _=>0:=eY fun j _=>by rw [if_neg (by omega)]
theorem PN (n:Nat)(f:Nat→Int):upto n f n=a4 n f:=eY fun j aD=>by rw [if_pos aD]
theorem xH (n:Nat)(f:Nat→Int)(k:Nat):(upto n f k).length=n:=cX ..
theorem Xb (s:ct)(i0:kt s)(h:j5 s=some true)(l:List Int)(aU:l.length=2*s.bY.length)(aP:∀x∈l,-100≤x∧x≤100):yY s l 0 0=some (Ml s l):=by
 obtain ⟨-,-,f3,f4⟩:=ol s i0 h
 have tC:=x9 s
 have Co:=KM s
 have agj:2*fp s*dq s≤12*16:=Nat.mul_le_mul (by omega) (by omega)
 unfold yY
 refine aN (Xv s i0 h) (aN (x:=gp s) (Y1 s (by omega)) ?_)
 have kh:R ((len_ (en 1 eI) (a4 (2*fp s) fun r=>a4 s.bt.length (ko s r)))+0)=((2*fp s:Nat):Int):=by rw [fa,cX,cu (by omega) (by omega)];omega
 have pJ:R ((len_ gl (gp s))+0)=((dq s:Nat):Int):=by
  rw [fa];show R (((dq s:Nat):Int)+0)=_
  rw [cu (by omega) (by omega)];omega
 have tG:R (((2*fp s:Nat):Int)*((dq s:Nat):Int))=((2*fp s*dq s:Nat):Int):=by rw [← Int.natCast_mul,cu (by omega) (by omega)]
 rw [kh,pJ,tG,Int.toNat_natCast,Int.toNat_natCast,Int.toNat_natCast,qv,qv,qv,fa,cX]
 refine bC (by omega) (bC (by omega) (bC (by omega) ?_))
 refine aN (x:=a4 (2*fp s*dq s) (fun x=>kG s (x / dq s) (x % dq s))) ?_ ?_
 ·unfold Fx
  obtain ⟨x,e,-⟩:=h5 (f:=fun w:Int×List Int=>vI s.bY s.bt l (gp s) (a4 (2*fp s) fun r=>a4 s.bt.length (ko s r)) ((2*fp s:Nat):Int) ((2*fp s:Nat):Int) ((dq s:Nat):Int) (a4 (2*fp s) fun _=>0) (a4 (dq s) fun _=>0) w.1 w.2) (fun (i:Nat) (_:Unit)=>((i:Int),upto (2*fp s*dq s) (fun x=>kG s (x / dq s) (x % dq s)) (i*dq s))) (2*fp s) (fun _ _=>True) (fun _=>a4 (2*fp s*dq s) (fun x=>kG s (x / dq s) (x % dq s)))
   (fun i an _ _=>by
     refine ⟨(),?_,trivial⟩
     have BK:(i+1)*dq s≤2*fp s*dq s:=Nat.mul_le_mul_right _ an
     rw [Nat.succ_mul] at BK
     obtain ⟨y,e2,-⟩:=h5 (f:=fun w:Int×List Int=>vH s.bY s.bt l (gp s) (i:Int) (a4 s.bt.length (ko s i)) (a4 (2*fp s) fun r=>a4 s.bt.length (ko s r)) ((2*fp s:Nat):Int) ((dq s:Nat):Int) ((2*fp s:Nat):Int) ((dq s:Nat):Int) (a4 (2*fp s) fun _=>0) (a4 (dq s) fun _=>0) w.1 w.2) (fun (c:Nat) (_:Unit)=>((c:Int),upto (2*fp s*dq s) (fun x=>kG s (x / dq s) (x % dq s)) (i*dq s+c))) (dq s) (fun _ _=>True) (fun _=>upto (2*fp s*dq s) (fun x=>kG s (x / dq s) (x % dq s)) (i*dq s+dq s))
      (fun c bb _ _=>by
        refine ⟨(),?_,trivial⟩
        obtain ⟨mU,li,qj⟩:=AL s bb
        have ad4:=KN s i0 h i bb
        have aey:R (R ((i:Int)*((dq s:Nat):Int))+((c:Nat):Int))=((i*dq s+c:Nat):Int):=by
         rw [← Int.natCast_mul,cu (x:=((i*dq s:Nat):Int)) (by omega) (by omega),cu (by omega) (by omega)];omega
        have h2:(i*dq s+c) / dq s=i:=by rw [Nat.mul_comm,Nat.mul_add_div (by omega),Nat.div_eq_of_lt bb];rfl
        have ab:(i*dq s+c) % dq s=c:=by rw [Nat.mul_comm,Nat.mul_add_mod,Nat.mod_eq_of_lt bb]
        unfold vH
        refine dn (by simp only;omega) (bC (by show _∧((c:Nat):Int)<((dq s:Nat):Int);simp only;omega) (aN (x:=⟨(mz s c:Int),pL s c⟩) (by simp only;rw [Int.toNat_natCast];exact mU) (bC (by rw [cX];simp only;omega) (aN (x:=ko s i (mz s c)) (by simp only;rw [Int.toNat_natCast];exact f8 li) ?_))))
        simp only
        rw [aey]
        refine bC (by rw [xH];omega) (bC (by rw [xH,Int.toNat_natCast];omega) ?_)
        rw [fs (by omega),Int.toNat_natCast,Nat.zero_add,show pL s c*ko s i (mz s c)=kG s i c from rfl,cu (by omega) (by omega),Kb (by omega) (by rw [h2,ab]),Nat.add_assoc])
      (fun _ _=>by unfold vH;exact dZ (by simp) rfl) () trivial
     unfold vI
     refine dn (by simp only;omega) (bC (by rw [cX];simp only;omega) (aN (x:=a4 s.bt.length (ko s i)) (by simp only;rw [Int.toNat_natCast];exact f8 an) (aN (x:=upto (2*fp s*dq s) (fun x=>kG s (x / dq s) (x % dq s)) (i*dq s+dq s)) (by unfold Fw;rw [fa];exact e2) ?_)))
     simp only
     rw [fs (by omega),Nat.succ_mul i (dq s)])
   (fun _ _=>by
     unfold vI
     refine dZ (by simp) ?_
     simp only
     rw [PN]) () trivial
  rw [Nat.zero_mul,Pd] at e
  exact e
 refine aN (NS s (by omega)) ?_
 rw [Al,fC,cX]
 refine aN (x:=a4 (2*fp s) (mf s l)) ?_ rfl
 unfold Fy
 obtain ⟨x,e,-⟩:=h5 (f:=fun w:Int×List Int=>vJ l (a4 (fp s) fun q=>((hl s q:Nat):Int)) ((fp s:Nat):Int) ((2*fp s:Nat):Int) ((dq s:Nat):Int) (a4 (2*fp s*dq s) (fun x=>kG s (x / dq s) (x % dq s))) (a4 (dq s) fun _=>0) w.1 w.2) (fun (n:Nat) (_:Unit)=>((n:Int),upto (2*fp s) (mf s l) (2*n))) (fp s) (fun _ _=>True) (fun _=>a4 (2*fp s) (mf s l))
  (fun n a2 _ _=>by
    refine ⟨(),?_,trivial⟩
    have cf:=QN s a2
    have pJ : ∀a:Nat,a≤1000→R ((2:Int)*((a:Nat):Int))=((2*a:Nat):Int):=fun a bE=>by rw [cu (by omega) (by omega)];omega
    have x1:=aP l[2*hl s n] (List.getElem_mem (by omega))
    have x2:=aP l[2*hl s n+1] (List.getElem_mem (by omega))
    have p1:mf s l (2*n) = -l[2*hl s n]:=by
     unfold mf
     rw [show 2*n / 2=n by omega,show 2*n % 2=0 by omega,Nat.add_zero,List.getD_eq_getElem?_getD,List.getElem?_eq_getElem (by omega)];rfl
    have p2:mf s l (2*n+1) = -l[2*hl s n+1]:=by
     unfold mf
     rw [show (2*n+1) / 2=n by omega,show (2*n+1) % 2=1 by omega,List.getD_eq_getElem?_getD,List.getElem?_eq_getElem (by omega)];rfl
    unfold vJ
    refine dn (by simp only;omega) (bC (by rw [cX];simp only;omega) (aN (x:=((hl s n:Nat):Int)) (by simp only;rw [Int.toNat_natCast];exact f8 a2) ?_))
    simp only
    rw [pJ (hl s n) (by omega),pJ n (by omega),fs (n:=2*hl s n) (by omega),fs (n:=2*n) (by omega)]
    refine bC (by omega) (aN (x:=l[2*hl s n]) (by rw [Int.toNat_natCast];exact List.getElem?_eq_getElem (by omega)) (bC (by omega) (aN (x:=l[2*hl s n+1]) (by rw [Int.toNat_natCast];exact List.getElem?_eq_getElem (by omega)) ?_)))
    refine bC (by rw [xH];omega) (bC (by rw [xH,Int.toNat_natCast];omega) (bC (by rw [xH];omega) (bC (by rw [List.length_set,xH,Int.toNat_natCast];omega) ?_)))
    rw [fs (by omega),cu (x:=0-l[2*hl s n]) (by omega) (by omega),cu (x:=0-l[2*hl s n+1]) (by omega) (by omega),Int.toNat_natCast,Int.toNat_natCast,Nat.zero_add,Nat.zero_add,Kb (by omega) (by rw [p1];omega),Kb (by omega) (by rw [p2];omega),show 2*(n+1)=2*n+1+1 by omega])
  (fun _ _=>by
    unfold vJ
    refine dZ (by simp) ?_
    simp only
    rw [PN]) () trivial
 rw [Nat.mul_zero,Pd] at e
 exact e
theorem X4 (s:ct)(i0:kt s)(h:j5 s=some true)(l:List Int)(aU:l.length=2*s.bY.length)(aP:∀x∈l,-100≤x∧x≤100):
 ∃r,(ud s l >>= fun p=>ub p)=some r∧tN s l=some r:=by
 have aj:=abG s i0 h l aP
 obtain ⟨r,e1,e2⟩:=Xu aj (cX ..) (fun x J=>by
  obtain ⟨i,-,rfl⟩:=Kg.1 J
  omega)
 obtain ⟨q,q1,q2⟩:=aaC aj
 refine ⟨r,aN (XL s i0 h l aU aP) e1,?_⟩
 unfold tN
 refine aN (Xb s i0 h l aU aP) (aN q1 ?_)
 rcases q2 with ⟨bX,t,cr,g,e6,rfl,-⟩|⟨bX,rfl⟩
 ·rw [e2.2 bX]
 ·have:r=false:=by
   cases r
   ·rfl
   ·exact (bX (e2.1 rfl)).elim
  rw [this]
theorem Xw (gR:List bB)(n:Int)(dY ad5:List bM):q7 gR n ad5 0=q7 gR n dY 0:=by
 unfold q7
 congr 1
theorem Xc (s:ct)(i0:kt s)(h:j5 s=some true)(dY:List bM)(bX:∀m∈dY,m∈s.bt)(aU:dY.length≤s.bt.length):j5 ⟨s.bY,dY⟩=some true:=by
 obtain ⟨-,f2,f3,f4⟩:=ol s i0 h
 obtain ⟨r,aq⟩:=Iz s i0
 have d1:decide ((6:Int)<len_ bI s.bY)=false:=by rw [fa];exact decide_eq_false (by omega)
 have d2:decide ((8:Int)<len_ bQ s.bt)=false:=by rw [fa];exact decide_eq_false (by omega)
 have d3:decide ((8:Int)<len_ bQ dY)=false:=by rw [fa];exact decide_eq_false (by omega)
 have so:r = .inl ():=by
  cases r with
  | inl a=>rfl
  | inr a =>
   unfold j5 at h
   rw [d1,d2,aq] at h
   simp at h
 subst so
 have p7 : ∀m∈dY,qt s.bY m=true:=fun m hm=>by
  obtain ⟨n,a2⟩:=List.getElem?_of_mem (bX m hm)
  exact f2 n m a2
 have a9:tJ dY s.bY dY (len_ bQ dY) 0=some (.inl ()):=by
  unfold tJ
  rw [fa]
  obtain ⟨x,e,-⟩:=h5 (f:=fun w:Int=>nQ dY s.bY dY (dY.length:Nat) w) (fun (i:Nat) (_:Unit)=>(i:Int)) dY.length (fun _ _=>True) (fun _=>(Sum.inl ():Unit⊕Int))
   (fun i an _ _=>by
     refine ⟨(),?_,trivial⟩
     have J:=List.getElem?_eq_getElem an
     have aP:=p7 dY[i] (List.getElem_mem an)
     unfold nQ tY
     refine dn (by omega) (bC (by omega) (aN (x:=dY[i]) (by rw [Int.toNat_natCast];exact J) (aN (x:=false) (aN (Dm _ _) (by simp [aP])) (iS rfl (by rw [fs (by omega)])))))
     )
   (fun _ _=>by unfold nQ;exact dZ (by omega) rfl) () trivial
  exact e
 have LY:CH (R (len_ bI s.bY-1)) dY (len_ bQ dY) s.bY 0=some (Sum.map id (fun _=>()) (Sum.inl ():Unit⊕Int)) :=
  Pt (f:=fun w=>nQ dY s.bY dY (len_ bQ dY) w) (Sum.map id fun _=>()) (fun _=>True) (fun _ _ _ _=>trivial)
   (fun i _=>NL s.bY dY (by omega) (by omega) i) 0 _ a9 trivial
 unfold j5
 simp only [d1,d3,Bool.false_eq_true,if_false]
 rw [Xw s.bY _ s.bt dY,aq]
 exact aN rfl (aN LY rfl)
def ni (dY:List bM)(list:List Int):Nat→List bM
 | 0=>[]
 | n+1=>ni dY list n++(match dY[n]? with
  | some x=>if (n:Int)∈list then [] else [x]
  | none=>[])
theorem Aw (dY:List bM)(list:List Int): ∀n,(ni dY list n).length≤n
 | 0=>by simp [ni]
 | n+1=>by
  have:=Aw dY list n
  rw [ni,List.length_append]
  have h2:(match dY[n]? with
   | some x=>if (n:Int)∈list then [] else [x]
   | none=>[]).length≤1:=by
   split
   ·split<;>simp
   ·simp
  omega
theorem Km {dY:List bM}{list:List Int}: ∀ {n:Nat} {m:bM},m∈ni dY list n→m∈dY
 | 0,m,h=>by simp [ni] at h
 | n+1,m,h=>by
  rw [ni,List.mem_append] at h
  rcases h with h|h
  ·exact Km h
  ·split at h
   ·rename_i x J
    split at h
    ·simp at h
    ·simp at h;subst h;exact List.mem_of_getElem? J
   ·simp at h
def ss (s:ct)(list:List Int):ct:=⟨s.bY,ni s.bt list s.bt.length⟩
theorem Em {n:Nat}(h:n<1000000000000):R ((n:Int)+1)=((n+1:Nat):Int):=by
 rw [cu (by omega) (by omega)];omega
theorem abH (list:List Int)(aU:list.length≤1048576)(k:Int):zZ list k=some (decide (k∈list)):=by
 unfold zZ I5
 rw [fC]
 obtain ⟨r,e,h⟩:=pg (f:=fun w:Int=>wO k list (list.length:Nat) w) (fun (i:Nat) (_:Unit)=>(i:Int)) list.length (fun i _=> ∀j,j<i→list[j]? ≠ some k) (fun r=>(r = .inr ()∧k∈list)∨(r = .inl ()∧k ∉ list))
  (fun i an _ cw=>by
    have J:=List.getElem?_eq_getElem an
    unfold wO
    by_cases c:list[i]=k
    ·right
     exact ⟨_,dn (by omega) (bC (by omega) (aN (x:=list[i]) (by rw [Int.toNat_natCast];exact J) (f7 (sl c) rfl))),.inl ⟨rfl,c▸List.getElem_mem an⟩⟩
    ·left
     refine ⟨(),dn (by omega) (bC (by omega) (aN (x:=list[i]) (by rw [Int.toNat_natCast];exact J) (iS (tm c) (by rw [Em (by omega)])))),fun j aD=> ?_⟩
     by_cases e:j=i
     ·rw [e,J];exact fun h=>c (Option.some.inj h)
     ·exact cw j (by omega))
  (fun _ cw=>⟨_,by unfold wO;exact dZ (by omega) rfl,.inr ⟨rfl,fun a5=>by
    obtain ⟨j,aD,e⟩:=List.getElem_of_mem a5
    exact cw j aD (by rw [List.getElem?_eq_getElem aD,e])⟩⟩) () (fun j aD=>by omega)
 rcases h with ⟨rfl,h⟩|⟨rfl,h⟩
 ·exact aN e (by rw [decide_eq_true h])
 ·exact aN e (by rw [decide_eq_false h])
theorem Yp (list:List Int)(aU:list.length≤1048576)(k:Int):rM list k=some (decide (k∈list)):=by
 unfold rM Ar Ds
 rw [fC]
 obtain ⟨r,e,h⟩:=pg (f:=fun w:Int=>rG list k (list.length:Nat) w) (fun (i:Nat) (_:Unit)=>(i:Int)) list.length (fun i _=> ∀j,j<i→list[j]? ≠ some k) (fun r=>(∃i:Nat,r = .inr (i:Int)∧k∈list)∨(r = .inl ()∧k ∉ list))
  (fun i an _ cw=>by
    have J:=List.getElem?_eq_getElem an
    unfold rG
    by_cases c:list[i]=k
    ·right
     exact ⟨_,dn (by omega) (bC (by omega) (aN (x:=list[i]) (by rw [Int.toNat_natCast];exact J) (f7 (sl c.symm) rfl))),.inl ⟨i,rfl,c▸List.getElem_mem an⟩⟩
    ·left
     refine ⟨(),dn (by omega) (bC (by omega) (aN (x:=list[i]) (by rw [Int.toNat_natCast];exact J) (iS (tm (Ne.symm c)) (by rw [Em (by omega)])))),fun j aD=> ?_⟩
     by_cases e:j=i
     ·rw [e,J];exact fun h=>c (Option.some.inj h)
     ·exact cw j (by omega))
  (fun _ cw=>⟨_,by unfold rG;exact dZ (by omega) rfl,.inr ⟨rfl,fun a5=>by
    obtain ⟨j,aD,e⟩:=List.getElem_of_mem a5
    exact cw j aD (by rw [List.getElem?_eq_getElem aD,e])⟩⟩) () (fun j aD=>by omega)
 rcases h with ⟨i,rfl,h⟩|⟨rfl,h⟩
 ·exact aN (x:=(i:Int)) (aN e rfl) (by rw [decide_eq_true h];simp)
 ·exact aN (x:=(-1:Int)) (aN e rfl) (by rw [decide_eq_false h];rfl)
theorem Yq (s:ct)(aD:s.bY.length≤1000)(hm:s.bt.length≤1000)(list:List Int)(aU:list.length≤1048576):wP s list=some (ss s list):=by
 unfold wP Gr
 rw [fa,List.nil_append]
 obtain ⟨x,e,-⟩:=h5 (f:=fun w:Int×List bM=>vV list s.bt (s.bt.length:Nat) s.bY w.1 w.2) (fun (i:Nat) (_:Unit)=>((i:Int),ni s.bt list i)) s.bt.length (fun _ _=>True) (fun _=>ni s.bt list s.bt.length)
  (fun i an _ _=>by
    refine ⟨(),?_,trivial⟩
    have J:=List.getElem?_eq_getElem an
    have hw:=Aw s.bt list i
    have e1:ni s.bt list (i+1)=ni s.bt list i++(if (i:Int)∈list then [] else [s.bt[i]]):=by rw [ni,J]
    unfold vV
    refine dn (by simp only;omega) (bC (by simp only;omega) (aN (x:=s.bt[i]) (by simp only;rw [Int.toNat_natCast];exact J) (aN (abH list aU _) ?_)))
    simp only
    rw [fs (by omega),e1]
    by_cases c:(i:Int)∈list
    ·rw [if_pos c]
     exact f7 (decide_eq_true c) (by rw [List.append_nil])
    ·rw [if_neg c]
     exact iS (decide_eq_false c) (bC (by simp only [List.length_append,List.length_cons,List.length_nil];omega) rfl))
  (fun _ _=>by unfold vV;exact dZ (by simp) rfl) () trivial
 exact bC (by omega) (aN e rfl)
theorem Yr (s:ct)(aD:s.bY.length≤1000)(hm:s.bt.length≤1000)(list:List Int)(aU:list.length≤1048576):wT s list=some (ss s list):=by
 unfold wT GA Da
 rw [fa]
 refine aN (x:=s.bY) (bC (by omega) rfl) ?_
 obtain ⟨x,e,-⟩:=h5 (f:=fun w:Int×List bM=>vW list s.bt (s.bt.length:Nat) s.bY w.1 w.2) (fun (i:Nat) (_:Unit)=>((i:Int),ni s.bt list i)) s.bt.length (fun _ _=>True) (fun _=>ni s.bt list s.bt.length)
  (fun i an _ _=>by
    refine ⟨(),?_,trivial⟩
    have J:=List.getElem?_eq_getElem an
    have hw:=Aw s.bt list i
    have e1:ni s.bt list (i+1)=ni s.bt list i++(if (i:Int)∈list then [] else [s.bt[i]]):=by rw [ni,J]
    unfold vW
    refine dn (by simp only;omega) (bC (by simp only;omega) (aN (x:=s.bt[i]) (by simp only;rw [Int.toNat_natCast];exact J) (aN (Yp list aU _) ?_)))
    simp only
    rw [fs (by omega),e1]
    by_cases c:(i:Int)∈list
    ·rw [if_pos c]
     exact f7 (decide_eq_true c) (by rw [List.append_nil])
    ·rw [if_neg c]
     exact iS (decide_eq_false c) (bC (by simp only [List.length_append,List.length_cons,List.length_nil];omega) rfl))
  (fun _ _=>by unfold vW;exact dZ (by simp) rfl) () trivial
 exact aN e rfl
theorem Ys {vE:Nat}{l:List Int}(h:qD vE l=true):l.length=2*vE∧ ∀x∈l,-100≤x∧x≤100:=by
 unfold qD at h
 rw [Bool.and_eq_true,decide_eq_true_eq,List.all_eq_true] at h
 exact ⟨h.1,fun x J=>by have:=h.2 x J;unfold pX at this;simpa using this⟩
theorem ZL (s:ct)(i0:kt s)(l:List Int)(aU:l.length≤maxLen):
 (sK s l=some true∧xp s l=some true∧j5 s=some true∧qD s.bY.length l=true)∨(sK s l=some false∧xp s l=some false):=by
 obtain ⟨p,p1,p2⟩:=Nq s i0
 have q4:p=true→s.bY.length≤6:=fun h=>(ol s i0 (h▸p1)).2.2.1
 have e:=Pb s p p1 q4 l aU
 cases p with
 | false=>exact .inr ⟨e,aN p2 (iS rfl rfl)⟩
 | true =>
  rw [Bool.true_and] at e
  have e2:xp s l=some (qD s.bY.length l):=aN p2 (f7 rfl (aN (Yl s (q4 rfl) l aU) rfl))
  by_cases c:qD s.bY.length l=true
  ·rw [c] at e e2;exact .inl ⟨e,e2,p1,c⟩
  ·rw [Bool.not_eq_true] at c
   rw [c] at e e2;exact .inr ⟨e,e2⟩
theorem abI (s:ct)(i0:kt s)(l:List Int)(aU:l.length≤maxLen)(h:j5 s=some true)(aP:qD s.bY.length l=true):
 ∃r,zJ s l=some r∧tN s l=some r:=by
 obtain ⟨f1,f2⟩:=Ys aP
 obtain ⟨r,r1,r2⟩:=X4 s i0 h l f1 f2
 have e:=Pb s true h (fun _=>(ol s i0 h).2.2.1) l aU
 rw [aP] at e
 refine ⟨r,aN e (f7 rfl ?_),r2⟩
 cases aj:ud s l with
 | none=>rw [aj] at r1;cases r1
 | some p =>
  rw [aj] at r1
  exact aN rfl (aN (show ub p=some r from r1) rfl)
theorem aaE (s:ct)(i0:kt s)(h:j5 s=some true)(list:List Int):
 kt (ss s list)∧j5 (ss s list)=some true:=by
 refine ⟨⟨i0.1,?_⟩,Xc s i0 h _ (fun m hm=>Km hm) (Aw ..)⟩
 refine ⟨?_,fun m hm=>i0.2.2 m (Km hm)⟩
 exact Nat.le_trans (Aw ..) i0.2.1
theorem aaF (s:ct)(i0:kt s)(l:List Int)(aU:l.length≤maxLen)(h:j5 s=some true)(aP:qD s.bY.length l=true)(list:List Int)(ty:list.length≤1048576):
 ∃r,(wP s list=some (ss s list)∧zJ (ss s list) l=some r)∧wT s list=some (ss s list)∧tN (ss s list) l=some r:=by
 obtain ⟨-,-,aW,bi⟩:=ol s i0 h
 obtain ⟨kh,pJ⟩:=aaE s i0 h list
 obtain ⟨r,r1,r2⟩:=abI (ss s list) kh l aU pJ aP
 exact ⟨r,⟨Yq s (by omega) (by omega) list ty,r1⟩,Yr s (by omega) (by omega) list ty,r2⟩
def lL (dY:List bM)(k:Int):Bool:=decide (0≤k) && (match dY[k.toNat]? with|some m=>m.hU == 1|none=>false)
theorem Pe (s:ct)(k:Int):y6 s k=some (lL s.bt k):=by
 unfold y6 lL
 by_cases h0:0≤k
 ·refine dn h0 ?_
  by_cases h1:k<s.bt.length
  ·have J:=List.getElem?_eq_getElem (show k.toNat<s.bt.length by omega)
   refine dn (by rw [fa];exact h1) (bC ⟨h0,h1⟩ (aN J ?_))
   rw [decide_eq_true h0,J];simp
  ·refine dZ (by rw [fa];exact h1) ?_
   rw [List.getElem?_eq_none (by omega)];simp
 ·refine dZ h0 ?_
  rw [decide_eq_false h0];simp
theorem Y3 (s:ct)(hm:s.bt.length≤8)(list:List Int)(aU:list.length≤1048576):
 zA s list=some (list.all (lL s.bt))∧yV list s=some (!(list.all (lL s.bt))):=by
 have hw:R (len_ bQ s.bt-1)=(s.bt.length:Int)-1:=by rw [fa,cu (by omega) (by omega)]
 have no : ∀ {i:Nat} {x:Int},list[i]? = some x→lL s.bt x=false→list.all (lL s.bt)=false:=fun J h=>by
  rw [List.all_eq_false];exact ⟨_,List.mem_of_getElem? J,by rw [h];simp⟩
 have yes:(∀i,i<list.length→ ∀x,list[i]? = some x→lL s.bt x=true)→list.all (lL s.bt)=true:=fun h=>by
  rw [List.all_eq_true];intro x J
  obtain ⟨i,an⟩:=List.getElem?_of_mem J
  exact h i (fO an) x an
 constructor
 ·obtain ⟨r,e,h⟩:=pg (f:=fun w:Int=>wu list (list.length:Nat) s.bY s.bt w) (fun (i:Nat) (_:Unit)=>(i:Int)) list.length (fun i _=> ∀j,j<i→ ∀x,list[j]? = some x→lL s.bt x=true) (fun r=>(r = .inr ()∧list.all (lL s.bt)=false)∨(r = .inl ()∧list.all (lL s.bt)=true))
   (fun i an _ cw=>by
     have J:=List.getElem?_eq_getElem an
     have gC:lL s.bt list[i]=true→ ∀j,j<i+1→ ∀x,list[j]? = some x→lL s.bt x=true:=fun h j aD x sg=>by
      by_cases e:j=i
      ·rw [e,J] at sg;obtain rfl:=Option.some.inj sg;exact h
      ·exact cw j (by omega) x sg
     unfold wu
     have aP:mg list[i] 0 (R (len_ bQ s.bt-1))=some (decide (0≤list[i]∧list[i]≤(s.bt.length:Int)-1)):=by rw [hw,qq]
     by_cases c:0≤list[i]∧list[i]≤(s.bt.length:Int)-1
     ·have a0:=List.getElem?_eq_getElem (show list[i].toNat<s.bt.length by omega)
      have aq:lL s.bt list[i]=(s.bt[list[i].toNat].hU == 1):=by unfold lL;rw [a0,decide_eq_true c.1];simp
      by_cases d:s.bt[list[i].toNat].hU=1
      ·left
       exact ⟨(),dn (by omega) (bC (by omega) (aN (x:=list[i]) (by rw [Int.toNat_natCast];exact J) (aN aP (f7 (decide_eq_true c) (bC (by omega) (aN a0 (iS (BN d) (by rw [Em (by omega)])))))))),gC (by rw [aq,d];rfl)⟩
      ·right
       exact ⟨_,dn (by omega) (bC (by omega) (aN (x:=list[i]) (by rw [Int.toNat_natCast];exact J) (aN aP (f7 (decide_eq_true c) (bC (by omega) (aN a0 (f7 (vb d) rfl))))))),.inl ⟨rfl,no J (by rw [aq];exact tm d)⟩⟩
     ·right
      have aq:lL s.bt list[i]=false:=by
       unfold lL
       by_cases da:0≤list[i]
       ·rw [List.getElem?_eq_none (by omega)];simp
       ·rw [decide_eq_false da];simp
      exact ⟨_,dn (by omega) (bC (by omega) (aN (x:=list[i]) (by rw [Int.toNat_natCast];exact J) (aN aP (iS (decide_eq_false c) rfl)))),.inl ⟨rfl,no J aq⟩⟩)
   (fun _ cw=>⟨_,by unfold wu;exact dZ (by omega) rfl,.inr ⟨rfl,yes fun i an=>cw i an⟩⟩) () (fun j aD=>by omega)
  unfold zA IC
  rw [fC]
  rcases h with ⟨rfl,h⟩|⟨rfl,h⟩
  ·exact aN e (by rw [h])
  ·exact aN e (by rw [h])
 ·obtain ⟨r,e,h⟩:=pg (f:=fun w:Int=>vF list s.bY s.bt (list.length:Nat) w) (fun (i:Nat) (_:Unit)=>(i:Int)) list.length (fun i _=> ∀j,j<i→ ∀x,list[j]? = some x→lL s.bt x=true) (fun r=>(∃i:Nat,r = .inr (i:Int)∧list.all (lL s.bt)=false)∨(r = .inl ()∧list.all (lL s.bt)=true))
   (fun i an _ cw=>by
     have J:=List.getElem?_eq_getElem an
     unfold vF CP
     by_cases c:lL s.bt list[i]=true
     ·left
      refine ⟨(),dn (by omega) (bC (by omega) (aN (x:=list[i]) (by rw [Int.toNat_natCast];exact J) (aN (x:=false) (aN (Pe _ _) (by rw [c];rfl)) (iS rfl (by rw [Em (by omega)]))))),fun j aD x sg=> ?_⟩
      by_cases e:j=i
      ·rw [e,J] at sg;obtain rfl:=Option.some.inj sg;exact c
      ·exact cw j (by omega) x sg
     ·right
      rw [Bool.not_eq_true] at c
      exact ⟨_,dn (by omega) (bC (by omega) (aN (x:=list[i]) (by rw [Int.toNat_natCast];exact J) (aN (x:=true) (aN (Pe _ _) (by rw [c];rfl)) (f7 rfl rfl)))),.inl ⟨i,rfl,no J c⟩⟩)
   (fun _ cw=>⟨_,by unfold vF;exact dZ (by omega) rfl,.inr ⟨rfl,yes fun i an=>cw i an⟩⟩) () (fun j aD=>by omega)
  unfold yV Cv Fp
  rw [fC]
  rcases h with ⟨i,rfl,h⟩|⟨rfl,h⟩
  ·exact aN (x:=(i:Int)) (aN e rfl) (by rw [h];simp)
  ·exact aN (x:=(-1:Int)) (aN e rfl) (by rw [h];rfl)
theorem Xd (s:ct)(i0:kt s)(l:List Int)(aU:l.length≤maxLen)(list:List Int)(ty:list.length≤1048576): ∃r,zp s l list=some r∧zr s l list=some r:=by
 unfold zp zr
 rcases ZL s i0 l aU with ⟨e1,e2,h,aP⟩|⟨e1,e2⟩
 ·obtain ⟨-,-,aW,bi⟩:=ol s i0 h
  obtain ⟨q1,q2⟩:=Y3 s bi list ty
  by_cases c:list.all (lL s.bt)=true
  ·obtain ⟨r,⟨kh,pJ⟩,tG,SK⟩:=aaF s i0 l aU h aP list ty
   rw [c] at q1 q2
   exact ⟨r,aN e1 (f7 rfl (aN q1 (f7 rfl (aN kh (aN pJ rfl))))),aN e2 (f7 rfl (aN q2 (iS rfl (aN tG (aN SK rfl)))))⟩
  ·rw [Bool.not_eq_true] at c
   rw [c] at q1 q2
   exact ⟨false,aN e1 (f7 rfl (aN q1 (iS rfl rfl))),aN e2 (f7 rfl (aN q2 (f7 rfl rfl)))⟩
 ·exact ⟨false,aN e1 (iS rfl rfl),aN e2 (iS rfl rfl)⟩
theorem TG (x0:ct)(x1 x2:List Int)(i0:kt x0)(i1:(fun l=>l.length≤maxLen∧ ∀x∈l,n8 x) x1)(i2:(fun l=>l.length≤maxLen∧ ∀x∈l,n8 x) x2):CG x0 x1 x2=some true:=by
 unfold CG
 rw [fC,fC]
 by_cases h1:(1048576:Int)<(x1.length:Nat)
 ·exact dn h1 rfl
 refine dZ h1 ?_
 by_cases ab:(1048576:Int)<(x2.length:Nat)
 ·exact dn ab rfl
 refine dZ ab ?_
 obtain ⟨r,r1,r2⟩:=WQ x0 i0 1048576 (by omega) (by omega)
 refine aN r1 ?_
 by_cases h2:r<0
 ·exact dn h2 rfl
 obtain ⟨gx,ht⟩:=r2 (by omega)
 obtain ⟨q,q1,q2⟩:=Xd x0 i0 x1 i1.1 x2 (by omega)
 exact dZ h2 (aN (WR x0 gx ht) (aN (Of x1 (by omega)) (aN (Of x2 (by omega)) (aN q1 (aN q2 (f7 (by simp) (aN (WO x0 gx ht) (f7 rfl (aN (Oe x1 (by omega)) (f7 rfl (aN (Oe x2 (by omega)) (f7 rfl rfl))))))))))))
end Go.Proofs.YtamedijmgkdlgaaGreat
