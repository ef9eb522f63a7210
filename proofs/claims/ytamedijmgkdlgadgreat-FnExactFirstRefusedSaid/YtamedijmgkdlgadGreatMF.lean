/- Lemmas, plain functions of the program, and what they answer. No condition. -/
import Derived.Test.YtamedijmgkdlgadGreatME
namespace Go.Proofs.YtamedijmgkdlgadGreat
set_option linter.unusedVariables false
set_option linter.unusedSimpArgs false
open Go Go.VL
def tq (k:Nat)(x:cj):List ey:=(if x.jc=2 then [] else [⟨(k:Int),1⟩])++(if x.jc=1 then [] else [⟨(k:Int),-1⟩])
def lB (fS:List cj):Nat→List ey
 | 0=>[]
 | n+1=>lB fS n++(match fS[n]? with
  | some x=>tq n x
  | none=>[])
theorem DW (fS:List cj): ∀n,(lB fS n).length≤2*n
 | 0=>by simp [lB]
 | n+1=>by
  have:=DW fS n
  rw [lB,List.length_append]
  have o:(match fS[n]? with
   | some x=>tq n x
   | none=>[]).length≤2:=by
   split
   ·rename_i x _;unfold tq;rw [List.length_append];split<;>split<;>simp
   ·simp
  omega
theorem P6 {fS:List cj}: ∀ {n:Nat} {c:ey},n≤fS.length→c∈lB fS n→ ∃k:Nat,c.mI=k∧k<n∧(c.qg=1∨c.qg = -1)
 | 0,c,_,h=>by simp [lB] at h
 | n+1,c,a3,h=>by
  rw [lB,List.mem_append] at h
  rcases h with h|h
  ·obtain ⟨k,h1,o,ae⟩:=P6 (by omega) h
   exact ⟨k,h1,by omega,ae⟩
  ·rw [List.getElem?_eq_getElem (by omega)] at h
   simp only [tq,List.mem_append] at h
   rcases h with h|h
   ·split at h
    ·simp at h
    ·simp at h;subst h;exact ⟨n,rfl,by omega,.inl rfl⟩
   ·split at h
    ·simp at h
    ·simp at h;subst h;exact ⟨n,rfl,by omega,.inr rfl⟩
theorem Zn (s:cS)(eg:s.bO.length≤1000):ze s=some (lB s.bO s.bO.length):=by
 unfold ze F1
 rw [e8]
 obtain ⟨x,e,-⟩:=iK (f:=fun w:Int×List ey=>v7 s.bO (s.bO.length:Nat) w.1 w.2) (fun (n:Nat) (_:Unit)=>((n:Int),lB s.bO n)) s.bO.length (fun _ _=>True) (fun _=>lB s.bO s.bO.length)
  (fun n a3 _ _=>by
    refine ⟨(),?_,trivial⟩
    have U:=List.getElem?_eq_getElem a3
    have aT:=DW s.bO n
    have e1:lB s.bO (n+1)=lB s.bO n++tq n s.bO[n]:=by rw [lB,U]
    unfold v7
    refine dI (by simp only;omega) (bI (by simp only;omega) (aS (x:=s.bO[n]) (by simp only;rw [Int.toNat_natCast];exact U) ?_))
    simp only
    rw [fF (by omega),e1]
    unfold tq
    by_cases bx:s.bO[n].jc=2
    ·rw [if_pos bx]
     refine kb (ER bx) (gI (yJ (by omega)) (bI (by simp only [List.length_append,List.length_cons,List.length_nil];omega) ?_))
     rw [if_neg (by omega)];simp
    ·rw [if_neg bx]
     refine gI (yJ bx) (bI (by simp only [List.length_append,List.length_cons,List.length_nil];omega) ?_)
     by_cases ch:s.bO[n].jc=1
     ·refine kb (ER ch) ?_
      rw [if_pos ch];simp
     ·refine gI (yJ ch) (bI (by simp only [List.length_append,List.length_cons,List.length_nil];omega) ?_)
      rw [if_neg ch];simp)
  (fun _ _=>by unfold v7;exact dZ (by simp) rfl) () trivial
 exact aS e rfl
theorem X2 (s:cS)(eg:s.bO.length≤1000):zv s=some ((lB s.bO s.bO.length).map ey.mI,(lB s.bO s.bO.length).map ey.qg):=by
 unfold zv Ia
 rw [e8]
 obtain ⟨x,e,-⟩:=iK (f:=fun w:Int×List Int×List Int=>wt s.bO (s.bO.length:Nat) w.1 w.2.1 w.2.2) (fun (n:Nat) (_:Unit)=>((n:Int),(lB s.bO n).map ey.mI,(lB s.bO n).map ey.qg)) s.bO.length (fun _ _=>True) (fun _=>((lB s.bO s.bO.length).map ey.mI,(lB s.bO s.bO.length).map ey.qg))
  (fun n a3 _ _=>by
    refine ⟨(),?_,trivial⟩
    have U:=List.getElem?_eq_getElem a3
    have aT:=DW s.bO n
    have e1:lB s.bO (n+1)=lB s.bO n++tq n s.bO[n]:=by rw [lB,U]
    unfold wt
    refine dI (by simp only;omega) (bI (by simp only;omega) (aS (x:=s.bO[n]) (by simp only;rw [Int.toNat_natCast];exact U) ?_))
    simp only
    rw [fF (by omega),e1]
    unfold tq
    by_cases bx:s.bO[n].jc=2
    ·rw [if_pos bx]
     refine kb (ER bx) (gI (yJ (by omega)) (bI (by simp only [List.length_append,List.length_map,List.length_cons,List.length_nil];omega) (bI (by simp only [List.length_append,List.length_map,List.length_cons,List.length_nil];omega) ?_)))
     rw [if_neg (by omega)];simp
    ·rw [if_neg bx]
     refine gI (yJ bx) (bI (by simp only [List.length_append,List.length_map,List.length_cons,List.length_nil];omega) (bI (by simp only [List.length_append,List.length_map,List.length_cons,List.length_nil];omega) ?_))
     by_cases ch:s.bO[n].jc=1
     ·refine kb (ER ch) ?_
      rw [if_pos ch];simp
     ·refine gI (yJ ch) (bI (by simp only [List.length_append,List.length_map,List.length_cons,List.length_nil];omega) (bI (by simp only [List.length_append,List.length_map,List.length_cons,List.length_nil];omega) ?_))
      rw [if_neg ch];simp)
  (fun _ _=>by unfold wt;exact dZ (by simp) rfl) () trivial
 exact aS e rfl
theorem abv {α:Type}(a b:Nat)(f:Nat→α):a8 (a+b) f=a8 a f++a8 b (fun j=>f (a+j)):=by
 induction b with
 | zero=>simp [a8]
 | succ b ih=>rw [← Nat.add_assoc,k8,ih,k8,List.append_assoc]
def ma (s:cS)(k:Nat):Int×Int:=(rm s k).getD (0,0)
theorem Kt (s:cS)(h:pi s)(k:Nat)(a6:k<s.bO.length):rm s k=some (ma s k)∧(-100≤(ma s k).1∧(ma s k).1≤100)∧(-100≤(ma s k).2∧(ma s k).2≤100):=by
 obtain ⟨x,y,h1,ae,au⟩:=abn s h k (by omega) (by omega)
 have e:ma s k=(x,y):=by unfold ma;rw [h1];rfl
 rw [e];exact ⟨h1,ae,au⟩
def iC (s:cS)(j:Int)(ji k:Nat):Int :=
 match s.bO[k]? with
 | none=>0
 | some x=>if j=x.dF then (if ji=0 then (ma s k).1 else (ma s k).2) else if j=x.ei then -(if ji=0 then (ma s k).1 else (ma s k).2) else 0
theorem ab2 (s:cS)(h:pi s)(j:Int)(ji k:Nat): -100≤iC s j ji k∧iC s j ji k≤100:=by
 unfold iC
 split
 ·omega
 ·rename_i x U
  obtain ⟨-,ae,au⟩:=Kt s h k (fE U)
  split
  ·split<;>omega
  ·split
   ·split<;>omega
   ·omega
theorem abw (s:cS)(h:pi s)(j:Int)(q1:List Int)(a1 b0:Int)(ct:List Int):
 C9 j q1 a1 b0 s.bO (len_ cv s.bO) s.b1 ct 0 ([]:List Int) ([]:List Int)=some (a8 s.bO.length (iC s j 0),a8 s.bO.length (iC s j 1)):=by
 obtain ⟨-,-,f3,f4⟩:=id h
 unfold C9
 rw [e8]
 obtain ⟨x,e,-⟩:=iK (f:=fun w:Int×List Int×List Int=>wQ j q1 a1 b0 s.bO (s.bO.length:Nat) s.b1 ct w.1 w.2.1 w.2.2) (fun (n:Nat) (_:Unit)=>((n:Int),a8 n (iC s j 0),a8 n (iC s j 1))) s.bO.length (fun _ _=>True) (fun _=>(a8 s.bO.length (iC s j 0),a8 s.bO.length (iC s j 1)))
  (fun n a3 _ _=>by
    refine ⟨(),?_,trivial⟩
    have U:=List.getElem?_eq_getElem a3
    obtain ⟨v1,v3,v4⟩:=Kt s h n a3
    have v2:=abo s h n (by omega) (by omega) v1
    unfold wQ
    refine dI (by simp only;omega) (bI (by simp only;omega) (aS (x:=s.bO[n]) (by simp only;rw [Int.toNat_natCast];exact U) (aS (x:=ma s n) v2 ?_)))
    simp only
    rw [fF (by omega),k8,k8]
    have g : ∀(F:Nat→Int) (v:Int),(a8 n F++[v]).length*8≤140737488355328:=fun F v=>by simp only [List.length_append,cV,List.length_cons,List.length_nil];omega
    by_cases bx:j=s.bO[n].dF
    ·have e0 : ∀ji,iC s j ji n=if ji=0 then (ma s n).1 else (ma s n).2:=fun ji=>by unfold iC;rw [U];simp only [if_pos bx]
     refine gI (vg bx) (bI (g _ _) (bI (g _ _) ?_))
     rw [e0,e0];rfl
    ·refine kb (B2 bx) ?_
     by_cases ch:j=s.bO[n].ei
     ·have e0 : ∀ji,iC s j ji n = -(if ji=0 then (ma s n).1 else (ma s n).2):=fun ji=>by unfold iC;rw [U];simp only [if_neg bx,if_pos ch]
      refine gI (vg ch) (bI (g _ _) (bI (g _ _) ?_))
      rw [e0,e0,cE (by omega) (by omega),cE (by omega) (by omega)]
      simp
     ·have e0 : ∀ji,iC s j ji n=0:=fun ji=>by unfold iC;rw [U];simp only [if_neg bx,if_neg ch]
      refine kb (B2 ch) (bI (g _ _) (bI (g _ _) ?_))
      rw [e0,e0])
  (fun _ _=>by unfold wQ;exact dZ (by simp) rfl) () trivial
 exact e
theorem abx (s:cS)(h:pi s)(j:Int)(q1:List Int)(a1 b0:Int)(ct:List (List Int)):
 CK s.b1 s.bO j q1 a1 b0 (len_ cv s.bO) ct 0 (a8 s.bO.length fun _=>(0:Int)) (a8 s.bO.length fun _=>(0:Int))=some (a8 s.bO.length (iC s j 0),a8 s.bO.length (iC s j 1)):=by
 obtain ⟨-,-,f3,f4⟩:=id h
 unfold CK
 rw [e8]
 obtain ⟨x,e,-⟩:=iK (f:=fun w:Int×List Int×List Int=>vX s.b1 s.bO j q1 a1 b0 (s.bO.length:Nat) ct w.1 w.2.1 w.2.2) (fun (n:Nat) (_:Unit)=>((n:Int),(a8 s.bO.length fun k=>if k<n then iC s j 0 k else 0),a8 s.bO.length fun k=>if k<n then iC s j 1 k else 0)) s.bO.length (fun _ _=>True) (fun _=>(a8 s.bO.length (iC s j 0),a8 s.bO.length (iC s j 1)))
  (fun n a3 _ _=>by
    refine ⟨(),?_,trivial⟩
    have U:=List.getElem?_eq_getElem a3
    obtain ⟨v1,v3,v4⟩:=Kt s h n a3
    have c8 : ∀ji v,v=iC s j ji n→(a8 s.bO.length fun k=>if k<n then iC s j ji k else 0).set n v=a8 s.bO.length fun k=>if k<n+1 then iC s j ji k else 0:=fun ji v bh=>by
     rw [kW]
     refine eY fun k _=> ?_
     by_cases c:k=n
     ·subst c;rw [if_pos rfl,if_pos (by omega)];exact bh
     ·rw [if_neg c]
      by_cases ch:k<n
      ·rw [if_pos ch,if_pos (by omega)]
      ·rw [if_neg ch,if_neg (by omega)]
    have g1 : ∀F:Nat→Int,0≤((n:Nat):Int)∧((n:Nat):Int)<((a8 s.bO.length F).length:Nat):=fun F=>by rw [cV];omega
    have g2 : ∀F:Nat→Int,0+((n:Nat):Int).toNat<(a8 s.bO.length F).length:=fun F=>by rw [cV,Int.toNat_natCast];omega
    unfold vX
    refine dI (by simp only;omega) (bI (by simp only;omega) (aS (x:=s.bO[n]) (by simp only;rw [Int.toNat_natCast];exact U) (aS (x:=ma s n) v1 ?_)))
    simp only
    by_cases bx:j=s.bO[n].dF
    ·have e0 : ∀ji,iC s j ji n=if ji=0 then (ma s n).1 else (ma s n).2:=fun ji=>by unfold iC;rw [U];simp only [if_pos bx]
     refine gI (vg bx) (bI (g1 _) (bI (g2 _) (bI (g1 _) (bI (g2 _) ?_))))
     rw [fF (by omega),Int.toNat_natCast,Nat.zero_add,c8 0 _ (by rw [e0];rfl),c8 1 _ (by rw [e0];rfl)]
    ·refine kb (B2 bx) ?_
     by_cases ch:j=s.bO[n].ei
     ·have e0 : ∀ji,iC s j ji n = -(if ji=0 then (ma s n).1 else (ma s n).2):=fun ji=>by unfold iC;rw [U];simp only [if_neg bx,if_pos ch]
      refine gI (vg ch) (bI (g1 _) (bI (g2 _) (bI (g1 _) (bI (g2 _) ?_))))
      rw [fF (by omega),Int.toNat_natCast,Nat.zero_add,cE (by omega) (by omega),cE (by omega) (by omega),c8 0 _ (by rw [e0];simp),c8 1 _ (by rw [e0];simp)]
     ·have e0 : ∀ji,iC s j ji n=0:=fun ji=>by unfold iC;rw [U];simp only [if_neg bx,if_neg ch]
      refine kb (B2 ch) ?_
      rw [fF (by omega)]
      congr 4
      ·refine eY fun k _=> ?_
       by_cases c:k=n
       ·subst c;rw [if_neg (by omega),if_pos (by omega),e0]
       ·by_cases ch:k<n
        ·rw [if_pos ch,if_pos (by omega)]
        ·rw [if_neg ch,if_neg (by omega)]
      ·refine eY fun k _=> ?_
       by_cases c:k=n
       ·subst c;rw [if_neg (by omega),if_pos (by omega),e0]
       ·by_cases ch:k<n
        ·rw [if_pos ch,if_pos (by omega)]
        ·rw [if_neg ch,if_neg (by omega)])
  (fun _ _=>by
    unfold vX
    refine dZ (by simp) ?_
    simp only
    congr 3
    ·exact eY fun k a6=>by rw [if_pos a6]
    ·exact eY fun k a6=>by rw [if_pos a6]) () trivial
 have z : ∀ji,(a8 s.bO.length fun k=>if k<0 then iC s j ji k else 0)=a8 s.bO.length fun _=>(0:Int):=fun ji=>eY fun k _=>by rw [if_neg (by omega)]
 rw [z,z] at e
 exact e
def hv (s:cS)(q:Nat):Nat:=(kN s.b1 0).getD q 0
def fu (s:cS):Nat:=(kN s.b1 0).length
def kw (s:cS)(r k:Nat):Int:=iC s (hv s (r / 2)) (r % 2) k
theorem Az (s:cS):(kN s.b1 0).map (fun n:Nat=>(n:Int))=a8 (fu s) fun q=>((hv s q:Nat):Int):=by
 apply List.ext_getElem?
 intro q
 rw [List.getElem?_map]
 by_cases c:q<fu s
 ·rw [gb c]
  have h:(kN s.b1 0)[q]? = some (kN s.b1 0)[q]:=List.getElem?_eq_getElem c
  unfold hv
  rw [List.getD_eq_getElem?_getD,h];rfl
 ·rw [List.getElem?_eq_none_iff.2 (by unfold fu at c;omega),List.getElem?_eq_none_iff.2 (by rw [cV];omega)];rfl
theorem Q4 (s:cS){q:Nat}(h:q<fu s):hv s q<s.b1.length:=by
 have h1:(kN s.b1 0)[q]? = some (kN s.b1 0)[q]:=List.getElem?_eq_getElem h
 have o:hv s q=(kN s.b1 0)[q]:=by unfold hv;rw [List.getD_eq_getElem?_getD,h1];rfl
 have:=Kq s.b1 0 _ (List.mem_of_getElem? h1)
 omega
theorem yk (s:cS):fu s≤s.b1.length:=P2 s.b1 0
theorem KE {α:Type}(r n:Nat)(e:Nat→Nat→α):(a8 (r*n) fun x=>e (x / n) (x % n))++a8 n (e r)=a8 ((r+1)*n) fun x=>e (x / n) (x % n):=by
 rw [Nat.succ_mul,abv]
 congr 1
 refine eY fun j aC=> ?_
 have h1:(r*n+j) / n=r:=by rw [Nat.mul_comm,Nat.mul_add_div (by omega),Nat.div_eq_of_lt aC];rfl
 have o:(r*n+j) % n=j:=by rw [Nat.mul_comm,Nat.mul_add_mod,Nat.mod_eq_of_lt aC]
 rw [h1,o]
theorem Zo (s:cS)(h:pi s):z0 s=some (a8 (2*fu s*s.bO.length) fun x=>kw s (x / s.bO.length) (x % s.bO.length)):=by
 obtain ⟨-,-,f3,f4⟩:=id h
 have tI:=yk s
 unfold z0
 refine aS (J2 s (by omega)) ?_
 rw [Az,f9,cV]
 unfold Jb
 obtain ⟨x,e,-⟩:=iK (f:=fun w:Int×List Int=>wR (a8 (fu s) fun q=>((hv s q:Nat):Int)) ((fu s:Nat):Int) s.b1 s.bO w.1 w.2) (fun (n:Nat) (_:Unit)=>((n:Int),a8 (2*n*s.bO.length) fun x=>kw s (x / s.bO.length) (x % s.bO.length))) (fu s) (fun _ _=>True) (fun _=>a8 (2*fu s*s.bO.length) fun x=>kw s (x / s.bO.length) (x % s.bO.length))
  (fun n a3 _ _=>by
    refine ⟨(),?_,trivial⟩
    have aR:2*n*s.bO.length≤12*8:=Nat.mul_le_mul (by omega) f4
    unfold wR
    refine dI (by simp only;omega) (bI (by rw [cV];simp only;omega) (aS (x:=((hv s n:Nat):Int)) (by simp only;rw [Int.toNat_natCast];exact gb a3) (aS (abw s h _ _ _ _ _) ?_)))
    refine bI (by simp only [List.length_append,cV];omega) (bI (by simp only [List.length_append,cV];omega) ?_)
    simp only
    rw [fF (by omega)]
    have r1:a8 s.bO.length (iC s (hv s n) 0)=a8 s.bO.length (kw s (2*n)):=eY fun k _=>by
     unfold kw;rw [show 2*n / 2=n by omega,show 2*n % 2=0 by omega]
    have b5:a8 s.bO.length (iC s (hv s n) 1)=a8 s.bO.length (kw s (2*n+1)):=eY fun k _=>by
     unfold kw;rw [show (2*n+1) / 2=n by omega,show (2*n+1) % 2=1 by omega]
    rw [r1,b5,KE (2*n),KE (2*n+1),show 2*n+1+1=2*(n+1) by omega])
  (fun _ _=>by unfold wR;exact dZ (by simp) rfl) () trivial
 have z:(a8 (2*0*s.bO.length) fun x=>kw s (x / s.bO.length) (x % s.bO.length))=[]:=by simp [a8]
 rw [z] at e
 exact aS e rfl
theorem XP (s:cS)(h:pi s):za s=some (a8 (2*fu s) fun r=>a8 s.bO.length (kw s r)):=by
 obtain ⟨-,-,f3,f4⟩:=id h
 have tI:=yk s
 unfold za
 refine aS (Oh s (by omega)) ?_
 rw [Az,f9,cV]
 unfold FK
 obtain ⟨x,e,-⟩:=iK (f:=fun w:Int×List (List Int)=>vY s.b1 s.bO (a8 (fu s) fun q=>((hv s q:Nat):Int)) ((fu s:Nat):Int) w.1 w.2) (fun (n:Nat) (_:Unit)=>((n:Int),a8 (2*n) fun r=>a8 s.bO.length (kw s r))) (fu s) (fun _ _=>True) (fun _=>a8 (2*fu s) fun r=>a8 s.bO.length (kw s r))
  (fun n a3 _ _=>by
    refine ⟨(),?_,trivial⟩
    unfold vY
    refine dI (by simp only;omega) (bI (by rw [cV];simp only;omega) (aS (x:=((hv s n:Nat):Int)) (by simp only;rw [Int.toNat_natCast];exact gb a3) (bI (by rw [e8];omega) ?_)))
    refine aS (x:=(a8 s.bO.length (iC s (hv s n) 0),a8 s.bO.length (iC s (hv s n) 1))) (by rw [show (len_ cv s.bO).toNat=s.bO.length by rw [e8,Int.toNat_natCast],qM];exact abx s h _ _ _ _ _) (bI (by simp only [List.length_append,cV,List.length_cons,List.length_nil];omega) ?_)
    simp only
    rw [fF (by omega),show 2*(n+1)=2*n+1+1 by omega,k8 (2*n+1),k8 (2*n)]
    have r1:a8 s.bO.length (iC s (hv s n) 0)=a8 s.bO.length (kw s (2*n)):=eY fun k _=>by
     unfold kw;rw [show 2*n / 2=n by omega,show 2*n % 2=0 by omega]
    have b5:a8 s.bO.length (iC s (hv s n) 1)=a8 s.bO.length (kw s (2*n+1)):=eY fun k _=>by
     unfold kw;rw [show (2*n+1) / 2=n by omega,show (2*n+1) % 2=1 by omega]
    rw [r1,b5];simp)
  (fun _ _=>by unfold vY;exact dZ (by simp) rfl) () trivial
 exact aS e rfl
def gu (s:cS):List ey:=lB s.bO s.bO.length
def dy (s:cS):Nat:=(gu s).length
def mD (s:cS)(c:Nat):Nat:=((gu s).getD c ⟨0,0⟩).mI.toNat
def pU (s:cS)(c:Nat):Int:=((gu s).getD c ⟨0,0⟩).qg
def kL (s:cS)(i c:Nat):Int:=pU s c*kw s i (mD s c)
def ml (s:cS)(l:List Int)(i:Nat):Int:= -(l.getD (2*hv s (i / 2)+i % 2) 0)
theorem AY (s:cS){c:Nat}(bf:c<dy s):(gu s)[c]? = some ⟨(mD s c:Int),pU s c⟩∧mD s c<s.bO.length∧(pU s c=1∨pU s c = -1):=by
 have h1:(gu s)[c]? = some (gu s)[c]:=List.getElem?_eq_getElem bf
 have o:(gu s).getD c ⟨0,0⟩=(gu s)[c]:=by rw [List.getD_eq_getElem?_getD,h1];rfl
 obtain ⟨k,e1,aE,bT⟩:=P6 (Nat.le_refl _) (List.mem_of_getElem? h1)
 have de:mD s c=k:=by unfold mD;rw [o,e1];rfl
 have dw:pU s c=((gu s)[c]).qg:=by unfold pU;rw [o]
 refine ⟨?_,by omega,by rw [dw];exact bT⟩
 rw [h1,de,dw,← e1]
theorem K8 (s:cS):dy s≤2*s.bO.length:=DW _ _
theorem aby (s:cS):(gu s).map ey.mI=a8 (dy s) fun c=>((mD s c:Nat):Int):=by
 apply List.ext_getElem?
 intro c
 rw [List.getElem?_map]
 by_cases h:c<dy s
 ·rw [(AY s h).1,gb h];rfl
 ·rw [List.getElem?_eq_none_iff.2 (by unfold dy at h;omega),List.getElem?_eq_none_iff.2 (by rw [cV];omega)];rfl
theorem abz (s:cS):(gu s).map ey.qg=a8 (dy s) (pU s):=by
 apply List.ext_getElem?
 intro c
 rw [List.getElem?_map]
 by_cases h:c<dy s
 ·rw [(AY s h).1,gb h];rfl
 ·rw [List.getElem?_eq_none_iff.2 (by unfold dy at h;omega),List.getElem?_eq_none_iff.2 (by rw [cV];omega)];rfl
theorem K9 (s:cS)(h:pi s)(i:Nat){c:Nat}(bf:c<dy s): -100≤kL s i c∧kL s i c≤100:=by
 have h1:=ab2 s h (hv s (i / 2)) (i % 2) (mD s c)
 unfold kL kw
 rcases (AY s bf).2.2 with e|e<;>rw [e]<;>omega
theorem aa1 (s:cS)(h:pi s)(l:List Int)(aT:l.length=2*s.b1.length)(aR:∀x∈l,-100≤x∧x≤100):zL s l=some (a8 (2*fu s) (ml s l)):=by
 obtain ⟨-,-,f3,f4⟩:=id h
 have tI:=yk s
 unfold zL
 refine aS (J2 s (by omega)) ?_
 rw [Az,f9,cV]
 unfold IV
 obtain ⟨x,e,-⟩:=iK (f:=fun w:Int×List Int=>wI l (a8 (fu s) fun q=>((hv s q:Nat):Int)) ((fu s:Nat):Int) w.1 w.2) (fun (n:Nat) (_:Unit)=>((n:Int),a8 (2*n) (ml s l))) (fu s) (fun _ _=>True) (fun _=>a8 (2*fu s) (ml s l))
  (fun n a3 _ _=>by
    refine ⟨(),?_,trivial⟩
    have cg:=Q4 s a3
    have sN:R ((2:Int)*((hv s n:Nat):Int))=((2*hv s n:Nat):Int):=by rw [cE (by omega) (by omega)];omega
    have y2:R (((2*hv s n:Nat):Int)+1)=((2*hv s n+1:Nat):Int):=fF (by omega)
    have x1:=aR l[2*hv s n] (List.getElem_mem (by omega))
    have d8:=aR l[2*hv s n+1] (List.getElem_mem (by omega))
    have p1:ml s l (2*n) = -l[2*hv s n]:=by
     unfold ml
     rw [show 2*n / 2=n by omega,show 2*n % 2=0 by omega,Nat.add_zero,List.getD_eq_getElem?_getD,List.getElem?_eq_getElem (by omega)];rfl
    have hi:ml s l (2*n+1) = -l[2*hv s n+1]:=by
     unfold ml
     rw [show (2*n+1) / 2=n by omega,show (2*n+1) % 2=1 by omega,List.getD_eq_getElem?_getD,List.getElem?_eq_getElem (by omega)];rfl
    unfold wI
    refine dI (by simp only;omega) (bI (by rw [cV];simp only;omega) (aS (x:=((hv s n:Nat):Int)) (by simp only;rw [Int.toNat_natCast];exact gb a3) ?_))
    rw [sN,y2]
    refine bI (by omega) (aS (x:=l[2*hv s n]) (by rw [Int.toNat_natCast];exact List.getElem?_eq_getElem (by omega)) (bI (by omega) (aS (x:=l[2*hv s n+1]) (by rw [Int.toNat_natCast];exact List.getElem?_eq_getElem (by omega)) (bI (by simp only [List.length_append,cV,List.length_cons,List.length_nil];omega) ?_))))
    simp only
    rw [fF (by omega),cE (by omega) (by omega),cE (by omega) (by omega),show 2*(n+1)=2*n+1+1 by omega,k8 (2*n+1),k8 (2*n),p1,hi]
    simp)
  (fun _ _=>by unfold wI;exact dZ (by simp) rfl) () trivial
 exact aS e rfl
def MF (s:cS)(l:List Int):hz:=⟨((2*fu s:Nat):Int),(dy s:Int),a8 (2*fu s*dy s) (fun x=>kL s (x / dy s) (x % dy s)),a8 (2*fu s) (ml s l),a8 (dy s) fun _=>0⟩
theorem ab3 (s:cS)(h:pi s)(l:List Int)(aR:∀x∈l,-100≤x∧x≤100):mh (MF s l) (2*fu s) (dy s) (kL s) (ml s l) where
 rows:=rfl
 gu:=rfl
 gR:=cV ..
 Lu:=fun i ah j aC=>by
  have h1:i*dy s+j<2*fu s*dy s:=by
   have:(i+1)*dy s≤2*fu s*dy s:=Nat.mul_le_mul_right _ ah
   rw [Nat.succ_mul] at this;omega
  show (a8 _ _)[_]? = _
  rw [gb h1]
  have o:(i*dy s+j) / dy s=i:=by rw [Nat.mul_comm,Nat.mul_add_div (by omega),Nat.div_eq_of_lt aC];rfl
  have ae:(i*dy s+j) % dy s=j:=by rw [Nat.mul_comm,Nat.mul_add_mod,Nat.mod_eq_of_lt aC]
  rw [o,ae]
 vP:=cV ..
 yr:=fun i ah=>gb ah
 hm:=by
  obtain ⟨-,-,f3,f4⟩:=id h
  have:=yk s;omega
 a3:=by
  obtain ⟨-,-,f3,f4⟩:=id h
  have:=K8 s;omega
 sP:=fun i _ j aC=>K9 s h i aC
 vO:=fun i _=>by
  unfold ml
  rw [List.getD_eq_getElem?_getD]
  cases c:l[2*hv s (i / 2)+i % 2]? with
  | none=>simp
  | some x =>
   have:=aR x (List.mem_of_getElem? c)
   simp only [Option.getD_some];omega
theorem X3 (s:cS)(h:pi s)(l:List Int)(aT:l.length=2*s.b1.length)(aR:∀x∈l,-100≤x∧x≤100):uf s l=some (MF s l):=by
 obtain ⟨-,-,f3,f4⟩:=id h
 have tI:=yk s
 have CD:=K8 s
 unfold uf
 refine aS (X2 s (by omega)) (aS (Zo s h) (aS (J2 s (by omega)) (aS (aa1 s h l aT aR) ?_)))
 show (if 0≤len_ eI ((gu s).map ey.mI)∧_ then _ else none)=_
 rw [Az]
 show (if 0≤len_ eI ((gu s).map ey.mI)∧(8:Int)*len_ eI ((gu s).map ey.mI)≤281474976710656∧len_ eI ((gu s).map ey.mI)<9223372036854775808 then
  CY ((gu s).map ey.mI) ((gu s).map ey.qg) (len_ cv s.bO) _ (R ((2:Int)*len_ eI (a8 (fu s) fun q=>((hv s q:Nat):Int)))) (len_ eI ((gu s).map ey.mI)) (a8 (2*fu s) (ml s l)) (List.replicate (len_ eI ((gu s).map ey.mI)).toNat 0) 0 [] >>= fun ek=>some (⟨R ((2:Int)*len_ eI (a8 (fu s) fun q=>((hv s q:Nat):Int))),len_ eI ((gu s).map ey.mI),ek,a8 (2*fu s) (ml s l),List.replicate (len_ eI ((gu s).map ey.mI)).toNat 0⟩:hz) else none)=_
 rw [aby,abz,f9,cV,f9,cV,Int.toNat_natCast,e8,show R ((2:Int)*(fu s:Nat))=((2*fu s:Nat):Int) by rw [cE (by omega) (by omega)];omega,qM]
 refine bI (by omega) (aS (x:=a8 (2*fu s*dy s) (fun x=>kL s (x / dy s) (x % dy s))) ?_ rfl)
 unfold CY
 obtain ⟨x,e,-⟩:=iK (f:=fun w:Int×List Int=>wv (a8 (dy s) fun c=>((mD s c:Nat):Int)) (a8 (dy s) (pU s)) (s.bO.length:Nat) (a8 (2*fu s*s.bO.length) fun x=>kw s (x / s.bO.length) (x % s.bO.length)) ((2*fu s:Nat):Int) ((dy s:Nat):Int) (a8 (2*fu s) (ml s l)) (a8 (dy s) fun _=>0) w.1 w.2) (fun (i:Nat) (_:Unit)=>((i:Int),a8 (i*dy s) (fun x=>kL s (x / dy s) (x % dy s)))) (2*fu s) (fun _ _=>True) (fun _=>a8 (2*fu s*dy s) (fun x=>kL s (x / dy s) (x % dy s)))
  (fun i ah _ _=>by
    refine ⟨(),?_,trivial⟩
    have So:i*dy s≤12*16:=Nat.mul_le_mul (by omega) (by omega)
    have lU:i*s.bO.length≤12*8:=Nat.mul_le_mul (by omega) f4
    obtain ⟨y,aE,-⟩:=iK (f:=fun w:Int×List Int=>wu (a8 (dy s) fun c=>((mD s c:Nat):Int)) (a8 (dy s) (pU s)) (s.bO.length:Nat) (a8 (2*fu s*s.bO.length) fun x=>kw s (x / s.bO.length) (x % s.bO.length)) (i:Int) ((dy s:Nat):Int) ((2*fu s:Nat):Int) ((dy s:Nat):Int) (a8 (2*fu s) (ml s l)) (a8 (dy s) fun _=>0) w.1 w.2)
     (fun (c:Nat) (_:Unit)=>((c:Int),(a8 (i*dy s) fun x=>kL s (x / dy s) (x % dy s))++a8 c (kL s i))) (dy s) (fun _ _=>True) (fun _=>(a8 (i*dy s) fun x=>kL s (x / dy s) (x % dy s))++a8 (dy s) (kL s i))
     (fun c bf _ _=>by
       refine ⟨(),?_,trivial⟩
       obtain ⟨-,kI,oe⟩:=AY s bf
       have ph:(i+1)*s.bO.length≤2*fu s*s.bO.length:=Nat.mul_le_mul_right _ ah
       rw [Nat.succ_mul] at ph
       have k7:R (R ((i:Int)*((s.bO.length:Nat):Int))+((mD s c:Nat):Int))=((i*s.bO.length+mD s c:Nat):Int):=by
        rw [← Int.natCast_mul,cE (x:=((i*s.bO.length:Nat):Int)) (by omega) (by omega),cE (by omega) (by omega)];omega
       have o:(i*s.bO.length+mD s c) / s.bO.length=i:=by rw [Nat.mul_comm,Nat.mul_add_div (by omega),Nat.div_eq_of_lt kI];rfl
       have ae:(i*s.bO.length+mD s c) % s.bO.length=mD s c:=by rw [Nat.mul_comm,Nat.mul_add_mod,Nat.mod_eq_of_lt kI]
       have aew:=K9 s h i bf
       unfold wu
       refine dI (by simp only;omega) (bI (by rw [cV];simp only;omega) (aS (x:=((mD s c:Nat):Int)) (by simp only;rw [Int.toNat_natCast];exact gb bf) (bI (by rw [cV];simp only;omega) (aS (x:=pU s c) (by simp only;rw [Int.toNat_natCast];exact gb bf) ?_))))
       rw [k7]
       refine bI (by rw [cV];omega) (aS (x:=kw s i (mD s c)) (by rw [Int.toNat_natCast,gb (by omega),o,ae]) (bI (by simp only [List.length_append,cV,List.length_cons,List.length_nil];omega) ?_))
       simp only
       rw [fF (by omega),k8,show pU s c*kw s i (mD s c)=kL s i c from rfl,cE (by omega) (by omega),List.append_assoc])
     (fun _ _=>by unfold wu;exact dZ (by simp) rfl) () trivial
    have z:(a8 (i*dy s) fun x=>kL s (x / dy s) (x % dy s))++a8 0 (kL s i)=a8 (i*dy s) fun x=>kL s (x / dy s) (x % dy s):=by simp [a8]
    rw [z] at aE
    unfold wv
    refine dI (by simp only;omega) (aS (x:=(a8 (i*dy s) fun x=>kL s (x / dy s) (x % dy s))++a8 (dy s) (kL s i)) (by unfold Ib;rw [f9,cV];exact aE) ?_)
    simp only
    rw [fF (by omega),KE])
  (fun _ _=>by unfold wv;exact dZ (by simp) rfl) () trivial
 have z:(a8 (0*dy s) fun x=>kL s (x / dy s) (x % dy s))=[]:=by simp [a8]
 rw [z] at e
 exact e
def upto (n:Nat)(f:Nat→Int)(k:Nat):List Int:=a8 n fun x=>if x<k then f x else 0
theorem Ku {n k:Nat}{f:Nat→Int}(a6:k<n){v:Int}(bh:v=f k):(upto n f k).set k v=upto n f (k+1):=by
 unfold upto
 rw [kW]
 refine eY fun j _=> ?_
 by_cases c:j=k
 ·subst c;rw [if_pos rfl,if_pos (by omega)];exact bh
 ·rw [if_neg c]
  by_cases ch:j<k
  ·rw [if_pos ch,if_pos (by omega)]
  ·rw [if_neg ch,if_neg (by omega)]
theorem PB (n:Nat)(f:Nat→Int):upto n f 0=a8 n fun _=>0:=eY fun j _=>by rw [if_neg (by omega)]
theorem P7 (n:Nat)(f:Nat→Int):upto n f n=a8 n f:=eY fun j aC=>by rw [if_pos aC]
theorem xU (n:Nat)(f:Nat→Int)(k:Nat):(upto n f k).length=n:=cV ..
theorem Xu (s:cS)(h:pi s)(l:List Int)(aT:l.length=2*s.b1.length)(aR:∀x∈l,-100≤x∧x≤100):y9 s l 0 0=some (MF s l):=by
 obtain ⟨-,-,f3,f4⟩:=id h
 have tI:=yk s
 have CD:=K8 s
 have agN:2*fu s*dy s≤12*16:=Nat.mul_le_mul (by omega) (by omega)
 unfold y9
 refine aS (XP s h) (aS (x:=gu s) (Zn s (by omega)) ?_)
 have k7:R ((len_ (eL 1 eI) (a8 (2*fu s) fun r=>a8 s.bO.length (kw s r)))+0)=((2*fu s:Nat):Int):=by rw [e8,cV,cE (by omega) (by omega)];omega
 have sN:R ((len_ gq (gu s))+0)=((dy s:Nat):Int):=by
  rw [e8];show R (((dy s:Nat):Int)+0)=_
  rw [cE (by omega) (by omega)];omega
 have y2:R (((2*fu s:Nat):Int)*((dy s:Nat):Int))=((2*fu s*dy s:Nat):Int):=by rw [← Int.natCast_mul,cE (by omega) (by omega)]
 rw [k7,sN,y2,Int.toNat_natCast,Int.toNat_natCast,Int.toNat_natCast,qM,qM,qM,e8,cV]
 refine bI (by omega) (bI (by omega) (bI (by omega) ?_))
 refine aS (x:=a8 (2*fu s*dy s) (fun x=>kL s (x / dy s) (x % dy s))) ?_ ?_
 ·unfold FG
  obtain ⟨x,e,-⟩:=iK (f:=fun w:Int×List Int=>vV s.b1 s.bO l (gu s) (a8 (2*fu s) fun r=>a8 s.bO.length (kw s r)) ((2*fu s:Nat):Int) ((2*fu s:Nat):Int) ((dy s:Nat):Int) (a8 (2*fu s) fun _=>0) (a8 (dy s) fun _=>0) w.1 w.2) (fun (i:Nat) (_:Unit)=>((i:Int),upto (2*fu s*dy s) (fun x=>kL s (x / dy s) (x % dy s)) (i*dy s))) (2*fu s) (fun _ _=>True) (fun _=>a8 (2*fu s*dy s) (fun x=>kL s (x / dy s) (x % dy s)))
   (fun i ah _ _=>by
     refine ⟨(),?_,trivial⟩
     have BX:(i+1)*dy s≤2*fu s*dy s:=Nat.mul_le_mul_right _ ah
     rw [Nat.succ_mul] at BX
     obtain ⟨y,aE,-⟩:=iK (f:=fun w:Int×List Int=>vU s.b1 s.bO l (gu s) (i:Int) (a8 s.bO.length (kw s i)) (a8 (2*fu s) fun r=>a8 s.bO.length (kw s r)) ((2*fu s:Nat):Int) ((dy s:Nat):Int) ((2*fu s:Nat):Int) ((dy s:Nat):Int) (a8 (2*fu s) fun _=>0) (a8 (dy s) fun _=>0) w.1 w.2) (fun (c:Nat) (_:Unit)=>((c:Int),upto (2*fu s*dy s) (fun x=>kL s (x / dy s) (x % dy s)) (i*dy s+c))) (dy s) (fun _ _=>True) (fun _=>upto (2*fu s*dy s) (fun x=>kL s (x / dy s) (x % dy s)) (i*dy s+dy s))
      (fun c bf _ _=>by
        refine ⟨(),?_,trivial⟩
        obtain ⟨lZ,kI,oe⟩:=AY s bf
        have aew:=K9 s h i bf
        have ae4:R (R ((i:Int)*((dy s:Nat):Int))+((c:Nat):Int))=((i*dy s+c:Nat):Int):=by
         rw [← Int.natCast_mul,cE (x:=((i*dy s:Nat):Int)) (by omega) (by omega),cE (by omega) (by omega)];omega
        have o:(i*dy s+c) / dy s=i:=by rw [Nat.mul_comm,Nat.mul_add_div (by omega),Nat.div_eq_of_lt bf];rfl
        have ae:(i*dy s+c) % dy s=c:=by rw [Nat.mul_comm,Nat.mul_add_mod,Nat.mod_eq_of_lt bf]
        unfold vU
        refine dI (by simp only;omega) (bI (by show _∧((c:Nat):Int)<((dy s:Nat):Int);simp only;omega) (aS (x:=⟨(mD s c:Int),pU s c⟩) (by simp only;rw [Int.toNat_natCast];exact lZ) (bI (by rw [cV];simp only;omega) (aS (x:=kw s i (mD s c)) (by simp only;rw [Int.toNat_natCast];exact gb kI) ?_))))
        simp only
        rw [ae4]
        refine bI (by rw [xU];omega) (bI (by rw [xU,Int.toNat_natCast];omega) ?_)
        rw [fF (by omega),Int.toNat_natCast,Nat.zero_add,show pU s c*kw s i (mD s c)=kL s i c from rfl,cE (by omega) (by omega),Ku (by omega) (by rw [o,ae]),Nat.add_assoc])
      (fun _ _=>by unfold vU;exact dZ (by simp) rfl) () trivial
     unfold vV
     refine dI (by simp only;omega) (bI (by rw [cV];simp only;omega) (aS (x:=a8 s.bO.length (kw s i)) (by simp only;rw [Int.toNat_natCast];exact gb ah) (aS (x:=upto (2*fu s*dy s) (fun x=>kL s (x / dy s) (x % dy s)) (i*dy s+dy s)) (by unfold FF;rw [e8];exact aE) ?_)))
     simp only
     rw [fF (by omega),Nat.succ_mul i (dy s)])
   (fun _ _=>by
     unfold vV
     refine dZ (by simp) ?_
     simp only
     rw [P7]) () trivial
  rw [Nat.zero_mul,PB] at e
  exact e
 refine aS (Oh s (by omega)) ?_
 rw [Az,f9,cV]
 refine aS (x:=a8 (2*fu s) (ml s l)) ?_ rfl
 unfold FH
 obtain ⟨x,e,-⟩:=iK (f:=fun w:Int×List Int=>vW l (a8 (fu s) fun q=>((hv s q:Nat):Int)) ((fu s:Nat):Int) ((2*fu s:Nat):Int) ((dy s:Nat):Int) (a8 (2*fu s*dy s) (fun x=>kL s (x / dy s) (x % dy s))) (a8 (dy s) fun _=>0) w.1 w.2) (fun (n:Nat) (_:Unit)=>((n:Int),upto (2*fu s) (ml s l) (2*n))) (fu s) (fun _ _=>True) (fun _=>a8 (2*fu s) (ml s l))
  (fun n a3 _ _=>by
    refine ⟨(),?_,trivial⟩
    have cg:=Q4 s a3
    have sN : ∀a:Nat,a≤1000→R ((2:Int)*((a:Nat):Int))=((2*a:Nat):Int):=fun a bF=>by rw [cE (by omega) (by omega)];omega
    have x1:=aR l[2*hv s n] (List.getElem_mem (by omega))
    have d8:=aR l[2*hv s n+1] (List.getElem_mem (by omega))
    have p1:ml s l (2*n) = -l[2*hv s n]:=by
     unfold ml
     rw [show 2*n / 2=n by omega,show 2*n % 2=0 by omega,Nat.add_zero,List.getD_eq_getElem?_getD,List.getElem?_eq_getElem (by omega)];rfl
    have hi:ml s l (2*n+1) = -l[2*hv s n+1]:=by
     unfold ml
     rw [show (2*n+1) / 2=n by omega,show (2*n+1) % 2=1 by omega,List.getD_eq_getElem?_getD,List.getElem?_eq_getElem (by omega)];rfl
    unfold vW
    refine dI (by simp only;omega) (bI (by rw [cV];simp only;omega) (aS (x:=((hv s n:Nat):Int)) (by simp only;rw [Int.toNat_natCast];exact gb a3) ?_))
    simp only
    rw [sN (hv s n) (by omega),sN n (by omega),fF (n:=2*hv s n) (by omega),fF (n:=2*n) (by omega)]
    refine bI (by omega) (aS (x:=l[2*hv s n]) (by rw [Int.toNat_natCast];exact List.getElem?_eq_getElem (by omega)) (bI (by omega) (aS (x:=l[2*hv s n+1]) (by rw [Int.toNat_natCast];exact List.getElem?_eq_getElem (by omega)) ?_)))
    refine bI (by rw [xU];omega) (bI (by rw [xU,Int.toNat_natCast];omega) (bI (by rw [xU];omega) (bI (by rw [List.length_set,xU,Int.toNat_natCast];omega) ?_)))
    rw [fF (by omega),cE (x:=0-l[2*hv s n]) (by omega) (by omega),cE (x:=0-l[2*hv s n+1]) (by omega) (by omega),Int.toNat_natCast,Int.toNat_natCast,Nat.zero_add,Nat.zero_add,Ku (by omega) (by rw [p1];omega),Ku (by omega) (by rw [hi];omega),show 2*(n+1)=2*n+1+1 by omega])
  (fun _ _=>by
    unfold vW
    refine dZ (by simp) ?_
    simp only
    rw [P7]) () trivial
 rw [Nat.mul_zero,PB] at e
 exact e
theorem Yn (s:cS)(i0:oh s)(h:pq s=some true)(l:List Int)(aT:l.length=2*s.b1.length)(aR:∀x∈l,-100≤x∧x≤100):
 ∃r,(uf s l >>= fun p=>ud p)=some r∧wG s l=some r:=by
 have bh:=Xt s i0 h
 have ai:=ab3 s bh l aR
 obtain ⟨r,e1,aE⟩:=XO ai (cV ..) (fun x U=>by
  obtain ⟨i,-,rfl⟩:=D5.1 U
  omega)
 obtain ⟨q,q1,a1⟩:=aa0 ai
 refine ⟨r,aS (X3 s bh l aT aR) e1,?_⟩
 unfold wG
 refine aS (Xu s bh l aT aR) (aS q1 ?_)
 rcases a1 with ⟨bS,t,bA,g,fc,rfl,-⟩|⟨bS,rfl⟩
 ·rw [aE.2 bS]
 ·have:r=false:=by
   cases r
   ·rfl
   ·exact (bS (aE.1 rfl)).elim
  rw [this]
theorem YO {vR:Nat}{l:List Int}(h:n2 vR l=true):l.length=2*vR∧ ∀x∈l,-100≤x∧x≤100:=by
 unfold n2 at h
 rw [Bool.and_eq_true,decide_eq_true_eq,List.all_eq_true] at h
 exact ⟨h.1,fun x U=>by have:=h.2 x U;unfold qb at this;simpa using this⟩
theorem ab4 (s:cS)(i0:oh s)(l:List Int)(aT:l.length≤maxLen)(h:pq s=some true)(aR:n2 s.b1.length l=true):
 ∃r,Dn s l=some r∧wG s l=some r:=by
 obtain ⟨f1,f2⟩:=YO aR
 obtain ⟨r,r1,b5⟩:=Yn s i0 h l f1 f2
 have e:=Pz s true h (fun _=>(IQ s i0 h).2.2.1) l aT
 rw [aR] at e
 refine ⟨r,aS e (gI rfl ?_),b5⟩
 cases ai:uf s l with
 | none=>rw [ai] at r1;cases r1
 | some p =>
  rw [ai] at r1
  exact aS rfl (aS (show ud p=some r from r1) rfl)
theorem Yo (l:List (List Int))(h:l.length≤1048576)(aT:∀x∈l,x.length≤1048576):z7 l l=some true:=by
 have h1:Jj l l 0=some (if l.all (fun _=>true) then .inl () else .inr ()):=by
  refine Av (f:=fun w=>w2 l l w) l _ (fun n x U=> ?_) (by simp [w2,e8])
  have dE:=fE U
  unfold w2
  have e:=YF x (aT x (List.mem_of_getElem? U))
  have c:(n:Int)<(l.length:Int):=by omega
  have dL:0≤(n:Int)∧(n:Int)<(l.length:Int):=by omega
  simp only [e8,decide_eq_true c,if_true,if_pos dL,Int.toNat_natCast,U,Option.bind_eq_bind,Option.bind_some,e]
  rw [i1 (by omega)]
 unfold z7
 rw [h1]
 simp
theorem Yp (l:List (List Int))(aT:l.length≤maxLen)(U:∀x∈l,x.length≤maxLen)(left:Int)(h0:0≤left)(h1:left≤1048576):
 ∃r,zZ l left=some r∧r≤1048576∧(0≤r→l.length≤1048576∧ ∀x∈l,x.length≤1048576):=by
 have hm:=s3
 have hw:R (left-((l.length:Nat):Int))=left-(l.length:Nat):=cE (by omega) (by omega)
 unfold zZ
 rw [e8,hw]
 by_cases e:left-(l.length:Nat)<0
 ·exact ⟨-1,by simp [e],by omega,by omega⟩
 ·obtain ⟨r,r1,b5⟩:=jA (f:=fun w:Int×Int=>wO l w.1 w.2)
   (fun w=>0≤w.1∧w.1≤1048576∧0≤w.2∧w.2≤l.length∧ ∀(n:Nat) x,(n:Int)<w.2→l[n]? = some x→x.length≤1048576) (fun w=>(l.length-w.2).toNat)
   (fun r=>match r with | .inl a=>a≤1048576∧(0≤a→ ∀x∈l,x.length≤1048576) | .inr _=>True) (fun w cT=>by
     obtain ⟨q1,a1,b0,ct,dh⟩:=cT
     obtain ⟨a,i⟩:=w
     simp only at q1 a1 b0 ct dh
     by_cases c:i<(l.length:Int)
     ·obtain ⟨x,sy⟩ : ∃x,l[i.toNat]? = some x:=⟨_,List.getElem?_eq_getElem (by omega)⟩
      have eP:=ZX x (U x (List.mem_of_getElem? sy)) a q1 a1
      have aex:R (i+1)=i+1:=cE (by omega) (by omega)
      unfold wO
      have dL:0≤i∧i<(l.length:Int):=by omega
      simp only [e8,decide_eq_true c,if_true,if_pos dL,sy,Option.bind_eq_bind,Option.bind_some,eP,aex]
      by_cases g:a<(x.length:Nat)
      ·exact .inr ⟨.inr (),by simp [g],trivial⟩
      ·refine .inl ⟨(a-(x.length:Nat),i+1),?_,⟨by simp only;omega,by simp only;omega,by simp only;omega,by simp only;omega,fun n y a3 aW=> ?_⟩,by simp only;omega⟩
       ·have : ¬a-(x.length:Nat)<0:=by omega
        simp [g,this]
       ·by_cases aey:(n:Int)<i
        ·exact dh n y aey aW
        ·have:n=i.toNat:=by simp only at a3;omega
         subst this
         rw [sy] at aW
         obtain rfl:=Option.some.inj aW
         omega
     ·refine .inr ⟨.inl a,by simp [wO,e8,c],a1,fun _ x aez=> ?_⟩
      obtain ⟨n,a3⟩:=List.getElem?_of_mem aez
      exact dh n x (by have:=fE a3;omega) a3) (left-(l.length:Nat),0) ⟨by simp only;omega,by simp only;omega,by simp only;omega,by simp only;omega,fun n x a3 _=>by simp only at a3;omega⟩
  have yV:I7 l (left-(l.length:Nat)) 0=some r:=r1
  rw [decide_eq_false e,yV]
  simp only [Bool.false_eq_true,if_false,Option.bind_eq_bind,Option.bind_some]
  cases r with
  | inl a=>exact ⟨a,rfl,b5.1,fun bF=>⟨by omega,b5.2 bF⟩⟩
  | inr a=>exact ⟨-1,rfl,by omega,by omega⟩
def vz (l:List (List Int)):List bs:=a8 l.length fun i=>some (i,(l.getD i []).length)
theorem ab5 (l:List (List Int)):(vz l).map (gz l)=l:=by
 apply List.ext_getElem?
 intro i
 unfold vz
 rw [Kz]
 by_cases h:i<l.length
 ·rw [gb h,List.getElem?_eq_getElem h]
  simp only [gz,List.take_length,List.getD_eq_getElem?_getD,List.getElem?_eq_getElem h,Option.getD_some]
 ·rw [List.getElem?_eq_none (by rw [cV];omega),List.getElem?_eq_none (by omega)]
theorem ab6 (l:List (List Int))(aT:∀x∈l,x.length≤1048576): ∀h∈vz l,yW l h:=by
 intro h fw
 obtain ⟨i,ah,rfl⟩:=D5.1 fw
 have U:=List.getElem?_eq_getElem ah
 exact ⟨l[i],U,by rw [List.getD_eq_getElem?_getD,U];rfl,by rw [List.getD_eq_getElem?_getD,U];exact aT _ (List.getElem_mem ah)⟩
theorem ab7 (l:List (List Int))(aT:∀x∈l,x.length≤1048576):(vz l).all (oR l)=true:=by
 rw [List.all_eq_true]
 exact fun h fw=>(ab6 l aT h fw).aek
theorem Yq (l:List (List Int))(h:l.length≤1048576)(aT:∀x∈l,x.length≤1048576):zB l=some (vz l,l):=by
 unfold zB Iz
 rw [e8,Int.toNat_natCast]
 have e0:(List.replicate l.length (none:bs))=a8 l.length (fun i=>if i<0 then some (i,(l.getD i []).length) else none):=by
  apply List.ext_getElem?
  intro i
  by_cases h:i<l.length
  ·rw [gb h,List.getElem?_replicate,if_pos h,if_neg (by omega)]
  ·rw [List.getElem?_eq_none (by simp;omega),List.getElem?_eq_none (by rw [cV];omega)]
 obtain ⟨x,e,-⟩:=iK (f:=fun w:Int×(List bs)×(List (List Int))=>wF l w.1 w.2.1 w.2.2) (fun (i:Nat) (_:Unit)=>((i:Int),a8 l.length (fun j=>if j<i then some (j,(l.getD j []).length) else none),l.take i)) l.length (fun _ _=>True) (fun _=>(vz l,l))
  (fun i ah _ _=>by
    refine ⟨(),?_,trivial⟩
    have U:=List.getElem?_eq_getElem ah
    simp only
    unfold wF
    have bE:l.getD i []=l[i]:=by rw [List.getD_eq_getElem?_getD,U];rfl
    rw [e8,i1 (by omega)]
    refine dI (by omega) (bI (by omega) (aS (gt rfl U) (aS (YK _ (aT _ (List.getElem_mem ah))) (bI (by rw [cV];omega) (bI (by rw [cV,Int.toNat_natCast];omega) ?_)))))
    rw [Int.toNat_natCast,Nat.zero_add,kW,List.take_add_one,U]
    simp only [Option.toList_some]
    congr 4
    apply eY
    intro j aC
    by_cases c:j=i
    ·subst c;rw [if_pos rfl,if_pos (by omega),bE,List.length_take];congr 2;omega
    ·rw [if_neg c]
     by_cases d:j<i
     ·rw [if_pos d,if_pos (by omega)]
     ·rw [if_neg d,if_neg (by omega)])
  (fun _ _=>by
    simp only
    unfold wF
    rw [e8]
    refine dZ (by omega) ?_
    rw [List.take_length]
    unfold vz
    rw [eY (g:=fun j=>some (j,(l.getD j []).length)) (fun j aC=>if_pos aC)]) () trivial
 rw [List.take_zero,← e0] at e
 exact bI (by omega) (aS e rfl)
theorem Zp (s:cS)(i0:oh s)(cs:List (List Int))(bf:cs.length≤1048576)(aT:∀l∈cs,l.length≤maxLen):
 (ui s cs=some true∧xy s cs=some true∧pq s=some true∧1≤cs.length∧cs.length≤6∧ ∀l∈cs,n2 s.b1.length l=true)∨(ui s cs=some false∧xy s cs=some false):=by
 obtain ⟨p,p1,hi⟩:=NQ s i0
 have ri:p=true→s.b1.length≤6:=fun h=>(IQ s i0 (h▸p1)).2.2.1
 unfold ui xy
 rw [e8,qI]
 by_cases h1:(1:Int)≤(cs.length:Nat)∧((cs.length:Nat):Int)≤6
 ·have bS:I8 cs (cs.length:Nat) s.b1 s.bO 0=some (if cs.all (fun l=>p && n2 s.b1.length l) then .inl () else .inr ()):=by
   refine Av (f:=fun w=>wP cs (cs.length:Nat) s.b1 s.bO w) cs _ (fun n x U=> ?_) (by unfold wP;exact dZ (by omega) rfl)
   have dE:=fE U
   unfold wP
   have KW:=Pz s p p1 ri x (aT x (List.mem_of_getElem? U))
   refine dI (by omega) (bI (by omega) (aS (gt rfl U) (aS KW ?_)))
   rw [i1 (by omega)]
   cases (p && n2 s.b1.length x)<;>rfl
  cases p with
  | false =>
   have:cs.all (fun l=>false && n2 s.b1.length l)=false:=by
    cases cs with
    | nil=>simp at h1
    | cons l cs=>simp
   rw [this] at bS
   exact .inr ⟨aS rfl (gI (decide_eq_true h1) (aS bS rfl)),dZ (by omega) (dZ (by omega) (aS hi (kb rfl rfl)))⟩
  | true =>
   have ah:Je s.b1 s.bO cs (cs.length:Nat) 0=some (if cs.all (fun l=>n2 s.b1.length l) then .inl () else .inr ()):=by
    refine Av (f:=fun w=>wS s.b1 s.bO cs (cs.length:Nat) w) cs _ (fun n x U=> ?_) (by unfold wS;exact dZ (by omega) rfl)
    have dE:=fE U
    unfold wS
    refine dI (by omega) (bI (by omega) (aS (gt rfl U) (aS (YJ s (ri rfl) x (aT x (List.mem_of_getElem? U))) ?_)))
    rw [i1 (by omega)]
    cases n2 s.b1.length x<;>rfl
   simp only [Bool.true_and] at bS
   by_cases c:cs.all (fun l=>n2 s.b1.length l)=true
   ·rw [c] at bS ah
    exact .inl ⟨aS rfl (gI (decide_eq_true h1) (aS bS rfl)),dZ (by omega) (dZ (by omega) (aS hi (gI rfl (aS ah rfl)))),p1,by omega,by omega,fun l aT=>List.all_eq_true.1 c l aT⟩
   ·rw [Bool.not_eq_true] at c
    rw [c] at bS ah
    exact .inr ⟨aS rfl (gI (decide_eq_true h1) (aS bS rfl)),dZ (by omega) (dZ (by omega) (aS hi (gI rfl (aS ah rfl))))⟩
 ·refine .inr ⟨aS rfl (kb (decide_eq_false h1) rfl),?_⟩
  by_cases gi:((cs.length:Nat):Int)<1
  ·exact dI gi rfl
  ·exact dZ gi (dI (by omega) rfl)
theorem Yr (s:cS)(i0:oh s)(cs:List (List Int))(bf:cs.length≤6)(aT:∀l∈cs,l.length≤maxLen)(h:pq s=some true)(aR:∀l∈cs,n2 s.b1.length l=true):
 ∃r:Unit⊕Int,Hk cs (cs.length:Nat) s.b1 s.bO 0=some r∧F3 s.b1 s.bO cs (cs.length:Nat) 0=some r:=by
 have key : ∃r:Unit⊕Int,iter (fun w:Int=>qy cs (cs.length:Nat) s.b1 s.bO w) 0=some r∧iter (fun w:Int=>qx s.b1 s.bO cs (cs.length:Nat) w) 0=some r:=by
  have ade : ∀d (n:Nat),n+d=cs.length→ ∃r:Unit⊕Int,iter (fun w:Int=>qy cs (cs.length:Nat) s.b1 s.bO w) (n:Int)=some r∧iter (fun w:Int=>qx s.b1 s.bO cs (cs.length:Nat) w) (n:Int)=some r:=by
   intro d
   induction d with
   | zero =>
    intro n a3
    refine ⟨.inl (),?_,?_⟩
    ·rw [iter]
     rw [show qy cs (cs.length:Nat) s.b1 s.bO n=some (.inr (.inl ())) by unfold qy;exact dZ (by omega) rfl]
     rfl
    ·rw [iter]
     rw [show qx s.b1 s.bO cs (cs.length:Nat) n=some (.inr (.inl ())) by unfold qx;exact dZ (by omega) rfl]
     rfl
   | succ d ih =>
    intro n a3
    have U:=List.getElem?_eq_getElem (show n<cs.length by omega)
    obtain ⟨r,r1,b5⟩:=ab4 s i0 cs[n] (aT _ (List.getElem_mem _)) h (aR _ (List.getElem_mem _))
    cases r with
    | true =>
     obtain ⟨r,q1,a1⟩:=ih (n+1) (by omega)
     refine ⟨r,?_,?_⟩
     ·rw [iter]
      rw [show qy cs (cs.length:Nat) s.b1 s.bO n=some (.inl ((n+1:Nat):Int)) by
       unfold qy
       exact dI (by omega) (bI (by omega) (aS (gt rfl U) (aS r1 (gI rfl (by rw [i1 (by omega)])))))]
      exact q1
     ·rw [iter]
      rw [show qx s.b1 s.bO cs (cs.length:Nat) n=some (.inl ((n+1:Nat):Int)) by
       unfold qx
       exact dI (by omega) (bI (by omega) (aS (gt rfl U) (aS b5 (gI rfl (by rw [i1 (by omega)])))))]
      exact a1
    | false =>
     refine ⟨.inr n,?_,?_⟩
     ·rw [iter]
      rw [show qy cs (cs.length:Nat) s.b1 s.bO n=some (.inr (.inr (n:Int))) by
       unfold qy
       exact dI (by omega) (bI (by omega) (aS (gt rfl U) (aS r1 (kb rfl rfl))))]
      rfl
     ·rw [iter]
      rw [show qx s.b1 s.bO cs (cs.length:Nat) n=some (.inr (.inr (n:Int))) by
       unfold qx
       exact dI (by omega) (bI (by omega) (aS (gt rfl U) (aS b5 (kb rfl rfl))))]
      rfl
  exact ade cs.length 0 (by omega)
 exact key
theorem Xv (s:cS)(i0:oh s)(cs:List (List Int))(bf:cs.length≤6)(aT:∀l∈cs,l.length≤maxLen)(h:pq s=some true)(aR:∀l∈cs,n2 s.b1.length l=true)(bS:ui s cs=some true):
 ∃r:Int,xg s cs=some r∧zf s cs=some r:=by
 obtain ⟨r,r1,b5⟩:=Yr s i0 cs bf aT h aR
 unfold xg zf
 rw [e8]
 cases r with
 | inl a=>exact ⟨-1,aS bS (gI rfl (aS r1 rfl)),aS b5 rfl⟩
 | inr a=>exact ⟨a,aS bS (gI rfl (aS r1 rfl)),aS b5 rfl⟩
theorem WG (s:cS)(i0:oh s)(cs:List (List Int))(bf:cs.length≤1048576)(aT:∀l∈cs,l.length≤maxLen): ∃r,xg s cs=some r∧zq s cs=some r:=by
 unfold zq
 rcases Zp s i0 cs bf aT with ⟨e1,aE,h,bx,rc,aR⟩|⟨e1,aE⟩
 ·obtain ⟨r,r1,b5⟩:=Xv s i0 cs rc aT h aR e1
  exact ⟨r,r1,aS aE (gI rfl (aS b5 rfl))⟩
 ·exact ⟨-1,aS e1 (kb rfl rfl),aS aE (kb rfl rfl)⟩
theorem TN (x0:cS)(x1:List (List Int))(i0:oh x0)(i1:(fun l=>l.length≤maxLen∧ ∀x∈l,(fun l=>l.length≤maxLen∧ ∀x∈l,oM x) x) x1):CP x0 x1=some true:=by
 unfold CP
 obtain ⟨r,r1,b5⟩:=W7 x0 i0 1048576 (by omega) (by omega)
 have ao:=XM x0 i0 1048576 (by omega) (by omega) r r1
 refine aS r1 ?_
 by_cases o:r<0
 ·exact dI o rfl
 obtain ⟨gi,hn⟩:=b5 (by omega)
 obtain ⟨t,t1,-,t2⟩:=Yp x1 i1.1 (fun x U=>(i1.2 x U).1) r (by omega) ao
 refine dZ o (aS t1 ?_)
 by_cases ae:t<0
 ·exact dI ae rfl
 obtain ⟨iv,jT⟩:=t2 (by omega)
 obtain ⟨q,q1,a1⟩:=WG x0 i0 x1 iv (fun x U=>(i1.2 x U).1)
 refine dZ ae (aS (W8 x0 gi hn) (aS (Yq x1 iv jT) (bI (ab7 x1 jT) ?_)))
 simp only [ab5]
 exact aS q1 (aS a1 (kb (by simp) (aS (W6 x0 gi hn) (gI rfl (aS (Yo x1 iv jT) (gI rfl rfl))))))
end Go.Proofs.YtamedijmgkdlgadGreat
