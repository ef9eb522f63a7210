/- Lemmas, plain functions of the program, and what they answer. No condition. -/
import Derived.Test.YtgfpnhmcmgnepaaChecked
import Derived.Test.YtgfpnhmcmgnepaaMB
namespace Go.VL
set_option linter.unusedVariables false
set_option linter.unusedSimpArgs false
def nR (m n:Nat)(a:Nat→Nat→Int)(b:Nat→Int)(x:Nat→Rat):Prop:=(∀j,j<n→0≤x j)∧ ∀i,i<m→bZ n (fun j=>(a i j:Rat)*x j)=(b i:Rat)
def val (n:Nat)(o x:Nat→Rat):Rat:=bZ n (fun j=>o j*x j)
def gd (c:Nat→Rat)(l j:Nat):Rat:=match l with
 | 0=>c j
 | l+1=>if j=l then -1 else 0
def pW (m n:Nat)(a:Nat→Nat→Int)(b:Nat→Int)(c x:Nat→Rat):Prop :=
 nR m n a b x∧ ∀y,nR m n a b y→ ¬fk (n+1) (fun l=>val n (gd c l) y-val n (gd c l) x)
def Bounded (m n:Nat)(a:Nat→Nat→Int)(b:Nat→Int)(c:Nat→Rat):Prop:= ∃V,∀y,nR m n a b y→val n c y≤V
section
variable {m n:Nat} {a:Nat→Nat→Int} {b:Nat→Int} {c:Nat→Rat}
theorem L3 {x:Nat→Rat}{j:Nat}(aq:j<n):val n (gd c (j+1)) x = - x j:=by
 unfold val
 rw [im aq (f:=fun i=>gd c (j+1) i*x i) (fun i an cb=>by simp only [gd];rw [if_neg cb];grind)]
 simp only [gd,if_true];grind
theorem pW.unique {x y:Nat→Rat}(I:pW m n a b c x)(aI:pW m n a b c y):(∀j,j<n→x j=y j)∧val n c x=val n c y:=by
 rcases wI (n+1) (fun l=>val n (gd c l) y-val n (gd c l) x) with h|h|h
 ·exact (I.2 y aI.1 h).elim
 ·refine ⟨fun j aq=> ?_,?_⟩
  ·have:=h (j+1) (by omega)
   simp only [L3 aq] at this;grind
  ·have:=h 0 (by omega)
   simp only at this
   have e:gd c 0=c:=rfl
   rw [e] at this;grind
 ·exact (aI.2 x I.1 (h.congr fun l _=>by grind)).elim
theorem pW.Q4 {x y:Nat→Rat}(I:pW m n a b c x)(aI:nR m n a b y):val n c y≤val n c x:=by
 apply Classical.byContradiction
 intro h
 refine I.2 y aI ⟨0,by omega,?_,fun l aA=>by omega⟩
 have e:gd c 0=c:=rfl
 simp only [e];grind
structure LT (m n:Nat) (a:Nat→Nat→Int) (b:Nat→Int) (bs N:Nat) (u:cA):Prop where
 eqv : ∀x:Nat→Rat,(∀i,i<m→bZ n (fun j=>(a i j:Rat)*x j)=(b i:Rat))↔ ∀i,i<bs→bZ n (fun j=>u.T i j*x j)=u.T i N
 unit : ∀i,i<bs→ ∀k,k<bs→u.T i (u.B k)=if i=k then 1 else 0
 k6 : ∀i,i<bs→u.B i<n
 nY:u.iL bs N
 GN:n≤N
variable {bs N:Nat} {u:cA}
theorem LT.w1 (h:LT m n a b bs N u)(f:Nat→Rat):bZ n (fun j=>f j*u.fS bs N j)=bZ bs (fun i=>f (u.B i)*u.T i N):=by
 unfold cA.fS
 rw [eK (g:=fun j=>bZ bs (fun i=>if u.B i=j then f (u.B i)*u.T i N else 0)) (fun j _=>by
  rw [← gN];exact eK fun i _=>by split<;>grind),mW]
 exact eK fun i an=>by rw [im (h.k6 i an) (f:=fun j=>if u.B i=j then f (u.B i)*u.T i N else 0) (fun j _ cb=>if_neg fun x=>cb x.symm),if_pos rfl]
theorem LT.fS (h:LT m n a b bs N u):nR m n a b (u.fS bs N):=by
 refine ⟨fun j _=>h.nY.fS j,(h.eqv _).2 fun i an=> ?_⟩
 rw [h.w1,im an (f:=fun k=>u.T i (u.B k)*u.T k N) (fun k aV cb=>by rw [h.unit i an k aV,if_neg (fun e=>cb e.symm)];grind),h.unit i an i an,if_pos rfl];grind
theorem LT.AR (h:LT m n a b bs N u)(o:Nat→Rat){x:Nat→Rat}(I:nR m n a b x):bZ n (fun j=>u.dG bs o j*x j)=val n o x-val n o (u.fS bs N):=by
 have ak:=(h.eqv x).1 I.2
 unfold val cA.dG
 rw [h.w1 o,eK (g:=fun j=>o j*x j-bZ bs (fun i=>o (u.B i)*(u.T i j*x j))) (fun j _=>by
  rw [eK (f:=fun i=>o (u.B i)*(u.T i j*x j)) (g:=fun i=>x j*(o (u.B i)*u.T i j)) (fun i _=>by grind),gN];grind),mX,mW]
 congr 1
 exact eK fun i an=>by rw [gN,ak i an]
theorem LT.Ax (h:LT m n a b bs N u)(o:Nat→Rat){i:Nat}(an:i<bs):u.dG bs o (u.B i)=0:=by
 unfold cA.dG
 rw [im an (f:=fun k=>o (u.B k)*u.T k (u.B i)) (fun k aV cb=>by rw [h.unit k aV i an,if_neg cb];grind),h.unit i an i an,if_pos rfl];grind
theorem LT.Gl (h:LT m n a b bs N u)(c8:∀j,j<n→ ¬u.Co bs (n+1) (gd c) j):pW m n a b c (u.fS bs N):=by
 refine ⟨h.fS,fun y aI aA=> ?_⟩
 have OX:fk (n+1) (fun l=>bZ n (fun j=>u.dG bs (gd c l) j*y j)):=aA.congr fun l _=>(h.AR (gd c l) aI).symm
 obtain ⟨j,aq,aa⟩:=fk.A6 (v:=fun j l=>u.dG bs (gd c l) j*y j) OX
 rcases (aa.congr (dX:=fun l=>y j*u.dG bs (gd c l) j) fun l _=>Rat.mul_comm _ _).Fj with ⟨-,h2⟩|⟨h2,-⟩
 ·exact c8 j aq h2
 ·have:=aI.1 j aq;grind
theorem LT.Gu (h:LT m n a b bs N u)(o:Nat→Rat){s:Nat}(cf:s<n)(c8:0<u.dG bs o s)(jy:∀i,i<bs→ ¬0<u.T i s): ¬Bounded m n a b o:=by
 rintro ⟨V,hV⟩
 have bg : ∀f:Nat→Rat,bZ n (fun j=>f j*u.dir bs s j)=f s-bZ bs (fun i=>f (u.B i)*u.T i s):=fun f=>by
  unfold cA.dir
  rw [eK (g:=fun j=>(if j=s then f s else 0)-bZ bs (fun i=>if u.B i=j then f (u.B i)*u.T i s else 0)) (fun j _=>by
   have e:bZ bs (fun i=>if u.B i=j then f (u.B i)*u.T i s else 0)=f j*bZ bs (fun i=>if u.B i=j then u.T i s else 0):=by
    rw [← gN];exact eK fun i _=>by split<;>grind
   rw [e];split<;>grind),mX,im cf (f:=fun j=>if j=s then f s else 0) (fun i _ cb=>if_neg cb),if_pos rfl,mW]
  congr 1
  exact eK fun i an=>by rw [im (h.k6 i an) (f:=fun j=>if u.B i=j then f (u.B i)*u.T i s else 0) (fun j _ cb=>if_neg fun x=>cb x.symm),if_pos rfl]
 have pos : ∀j,0≤u.dir bs s j:=fun j=>by
  unfold cA.dir
  have h1:0≤bZ bs (fun i=> -(if u.B i=j then u.T i s else 0)):=n7 fun i an=>by
   have:=jy i an
   split<;>grind
  rw [eK (g:=fun i=>(-1)*(if u.B i=j then u.T i s else 0)) (fun i _=>by grind),gN] at h1
  split<;>grind
 have Gu : ∀qH:Rat,0≤qH→nR m n a b (fun j=>u.fS bs N j+qH*u.dir bs s j)∧val n o (fun j=>u.fS bs N j+qH*u.dir bs s j)=val n o (u.fS bs N)+qH*u.dG bs o s:=fun qH Cp=>by
  have Gv : ∀f:Nat→Rat,bZ n (fun j=>f j*(u.fS bs N j+qH*u.dir bs s j))=bZ n (fun j=>f j*u.fS bs N j)+qH*(f s-bZ bs (fun i=>f (u.B i)*u.T i s)):=fun f=>by
   rw [← bg f,← gN,← pK]
   exact eK fun j _=>by grind
  refine ⟨⟨fun j _=> ?_,(h.eqv _).2 fun i an=> ?_⟩,Gv o⟩
  ·have h1:=h.nY.fS (m:=bs) (N:=N) j
   have h2:=Rat.mul_nonneg Cp (pos j)
   grind
  ·rw [Gv (u.T i),(h.eqv _).1 h.fS.2 i an,im an (f:=fun k=>u.T i (u.B k)*u.T k s) (fun k aV cb=>by rw [h.unit i an k aV,if_neg (fun e=>cb e.symm)];grind),h.unit i an i an,if_pos rfl];grind
 have Rm:=hV _ h.fS
 have cb:u.dG bs o s≠0:=by grind
 obtain ⟨r1,r2⟩:=Gu ((V-val n o (u.fS bs N)+1) / u.dG bs o s) (by
  rw [Rat.div_def]
  exact Rat.mul_nonneg (by grind) (Rat.le_of_lt (Rat.inv_pos.2 c8)))
 have af:=hV _ r1
 rw [r2] at af
 have:(V-val n o (u.fS bs N)+1) / u.dG bs o s*u.dG bs o s=V-val n o (u.fS bs N)+1:=by grind
 grind
theorem LT.dp (h:LT m n a b bs N u){r k:Nat}(ak:r<bs)(aV:k<n)(aa:u.T r k≠0)(bk:(u.dp r k).iL bs N):LT m n a b bs N (u.dp r k) where
 eqv:=fun x=>by
  rw [h.eqv x]
  have e1:bZ n (fun j=>(u.dp r k).T r j*x j)=(1 / u.T r k)*bZ n (fun j=>u.T r j*x j):=by
   rw [← gN]
   exact eK fun j _=>by simp only [cA.dp,if_true];grind
  have e2 : ∀i,i≠r→bZ n (fun j=>(u.dp r k).T i j*x j)=bZ n (fun j=>u.T i j*x j)-(u.T i k / u.T r k)*bZ n (fun j=>u.T r j*x j):=fun i an=>by
   rw [← gN,← mX]
   exact eK fun j _=>by simp only [cA.dp,if_neg an];grind
  have n1:(u.dp r k).T r N=(1 / u.T r k)*u.T r N:=by simp only [cA.dp,if_true];grind
  have n2 : ∀i,i≠r→(u.dp r k).T i N=u.T i N-(u.T i k / u.T r k)*u.T r N:=fun i an=>by simp only [cA.dp,if_neg an];grind
  constructor
  ·intro I i an
   by_cases c:i=r
   ·rw [c,e1,n1,I r ak]
   ·rw [e2 i c,n2 i c,I i an,I r ak]
  ·intro I
   have Gw:bZ n (fun j=>u.T r j*x j)=u.T r N:=by
    have:=I r ak
    rw [e1,n1] at this
    have h2:u.T r k*((1 / u.T r k)*bZ n (fun j=>u.T r j*x j))=u.T r k*((1 / u.T r k)*u.T r N):=by rw [this]
    grind
   intro i an
   by_cases c:i=r
   ·rw [c];exact Gw
   ·have:=I i an
    rw [e2 i c,n2 i c,Gw] at this
    grind
 unit:=by
  intro i an cc lx
  simp only [cA.dp]
  by_cases e:i=r
  ·subst e
   simp only [if_true]
   by_cases cW:cc=i
   ·subst cW;simp only [if_true];grind
   ·simp only [if_neg cW]
    rw [h.unit i an cc lx,if_neg (fun x=>cW x.symm)];grind
  ·simp only [if_neg e]
   by_cases cW:cc=r
   ·subst cW;simp only [if_true,if_neg e];grind
   ·simp only [if_neg cW]
    rw [h.unit i an cc lx,h.unit r ak cc lx,if_neg (c:=r=cc) (fun x=>cW x.symm)];grind
 k6:=fun i an=>by
  simp only [cA.dp]
  split
  ·exact aV
  ·exact h.k6 i an
 nY:=bk
 GN:=h.GN
theorem LT.tok (h:LT m n a b bs N u)(a6:n≤N)(er:0<N):ex bs bs N u.T u where
 oB:=fun c aL j _=>by
  rw [im aL (f:=fun i=>u.T c (u.B i)*u.T i j) (fun i an cb=>by rw [h.unit c aL i an,if_neg (fun e=>cb e.symm)];grind),h.unit c aL c aL,if_pos rfl];grind
 row:=⟨fun i c=>if i=c then 1 else 0,fun i an j _=>by
  rw [im an (f:=fun c=>(if i=c then (1:Rat) else 0)*u.T c j) (fun c _ cb=>by rw [if_neg (Ne.symm cb)];grind),if_pos rfl];grind⟩
 unit:=h.unit
 k6:=fun i an=>Nat.lt_of_lt_of_le (h.k6 i an) a6
def o4 (n:Nat)(jo:Nat→Bool)(x:Nat→Rat):Prop:= ∀j,j<n→jo j=false→x j=0
structure ql (m n:Nat) (a:Nat→Nat→Int) (b:Nat→Int) (c:Nat→Rat) (l:Nat) (jo:Nat→Bool) (V:Nat→Rat):Prop where
 low : ∀y,nR m n a b y→o4 n jo y→ ∀k,k<l→val n (gd c k) y=V k
 up : ∀y,nR m n a b y→ ¬o4 n jo y→ ∃k,k<l∧val n (gd c k) y<V k∧ ∀q,q<k→val n (gd c q) y=V q
theorem ql.zero {jo:Nat→Bool}(h:∀j,j<n→jo j=true)(V:Nat→Rat):ql m n a b c 0 jo V where
 low:=fun y _ _ k aV=>by omega
 up:=fun y _ bk=>(bk fun j aq e=>by rw [h j aq] at e;cases e).elim
theorem ql.next (h:LT m n a b bs N u){l:Nat}{jo xS:Nat→Bool}{V:Nat→Rat}(s:ql m n a b c l jo V)(c8:∀j,j<n→jo j=true→ ¬0<u.dG bs (gd c l) j)
 (BX : ∀j,j<n→xS j=(jo j && !decide (u.dG bs (gd c l) j<0))) : ∃Pq,ql m n a b c (l+1) xS Pq:=by
 have sub : ∀y,o4 n xS y→o4 n jo y:=fun y aI j aq e=>aI j aq (by rw [BX j aq,e];rfl)
 have neg : ∀y,nR m n a b y→o4 n jo y→ ∀j,j<n→0≤ -(u.dG bs (gd c l) j*y j):=fun y aI bk j aq=>by
  cases e:jo j with
  | false=>rw [bk j aq e];grind
  | true =>
   have:=Rat.mul_nonneg (show 0≤ -(u.dG bs (gd c l) j) by have:=c8 j aq e;grind) (aI.1 j aq)
   grind
 refine ⟨fun k=>if k=l then val n (gd c l) (u.fS bs N) else V k,fun y aI bk k aV=> ?_,fun y aI bk=> ?_⟩
 ·by_cases e:k=l
  ·rw [if_pos e,e]
   have cn:bZ n (fun j=>u.dG bs (gd c l) j*y j)=0:=lD fun j aq=>by
    cases e:xS j with
    | false=>rw [bk j aq e];grind
    | true =>
     rw [BX j aq,Bool.and_eq_true] at e
     have h1:=c8 j aq e.1
     have h2 : ¬u.dG bs (gd c l) j<0:=by simpa using e.2
     have:u.dG bs (gd c l) j=0:=by grind
     rw [this];grind
   rw [h.AR _ aI] at cn;grind
  ·rw [if_neg e]
   exact s.low y aI (sub y bk) k (by omega)
 ·by_cases g:o4 n jo y
  ·refine ⟨l,by omega,?_,fun q aD=>by rw [if_neg (by omega)];exact s.low y aI g q aD⟩
   rw [if_pos rfl]
   have h1:=h.AR (gd c l) aI
   have h2:=neg y aI g
   have af:=n7 h2
   have ax:bZ n (fun j=> -(u.dG bs (gd c l) j*y j))≠0:=fun e=>bk fun j aq GO=>by
    have:=Af h2 e j aq
    cases e1:jo j with
    | false=>exact g j aq e1
    | true =>
     rw [BX j aq,e1,Bool.true_and] at GO
     have a8:u.dG bs (gd c l) j<0:=by simpa using GO
     grind
   rw [eK (g:=fun j=>(-1)*(u.dG bs (gd c l) j*y j)) (fun j _=>by grind),gN,h1] at af ax
   grind
  ·obtain ⟨k,hO,g8,lR⟩:=s.up y aI g
   exact ⟨k,by omega,by rw [if_neg (by omega)];exact g8,fun q aD=>by rw [if_neg (by omega)];exact lR q aD⟩
theorem ql.Gl (h:LT m n a b bs N u){jo:Nat→Bool}{V:Nat→Rat}(s:ql m n a b c (n+1) jo V)(aE:∀i,i<bs→jo (u.B i)=true):pW m n a b c (u.fS bs N):=by
 have I:o4 n jo (u.fS bs N):=fun j aq e=>cA.Ki fun i an e2=>by
  have:=aE i an
  rw [e2,e] at this;cases this
 have aS:=s.low _ h.fS I
 refine ⟨h.fS,fun y aI ⟨l,lz,mT,vF⟩=> ?_⟩
 by_cases g:o4 n jo y
 ·have:=s.low y aI g l lz
  have:=aS l lz
  grind
 ·obtain ⟨k,hO,g8,lR⟩:=s.up y aI g
  rcases Nat.lt_trichotomy l k with e|e|e
  ·have:=lR l e;have:=aS l lz;grind
  ·subst e;have:=aS l lz;grind
  ·have:=vF k e;have:=aS k hO;grind
theorem LT.PV (h:LT m n a b bs N u){k s:Nat}(c8:0<u.dG bs (gd c (k+1)) s): ∃i,i<bs∧0<u.T i s:=by
 apply Classical.byContradiction
 intro cb
 have h1:0≤bZ bs (fun i=>gd c (k+1) (u.B i)*u.T i s):=n7 fun i an=>by
  have h2 : ¬0<u.T i s:=fun e=>cb ⟨i,an,e⟩
  simp only [gd]
  split<;>grind
 unfold cA.dG at c8
 have af:gd c (k+1) s≤0:=by simp only [gd];split<;>grind
 grind
end
end Go.VL
namespace Go.Proofs.Ytgfpnhmcmgnepaa
set_option linter.unusedVariables false
set_option linter.unusedSimpArgs false
open Go Go.VL
structure aM where
 eM:ByteArray
 dI:Int
 dF:Int
 eB:Bool
 deriving DecidableEq
structure aX where
 bi:Int
 bc:Int
 ee:Int
 deriving DecidableEq
structure bl where
 bb:(List aM)
 aR:(List aX)
 deriving DecidableEq
structure bh where
 bi:Int
 bc:Int
 cz:Int
 de:Int
 deriving DecidableEq
structure iH where
 m7:Int
 ks:Int
 bi:(List Int)
 bc:(List Int)
 oK:(List Int)
 deriving DecidableEq
structure cu where
 iU:Int
 mF:Int
 deriving DecidableEq
def aP (x:aM):List aj:=[.s x.eM,.n .i64 x.dI,.n .i64 x.dF,.b x.eB]
theorem pI : ∀x,∀v∈aP x,v.gl=true:=by
 intro x v aS
 simp only [aP,List.mem_cons,List.not_mem_nil,or_false] at aS
 rcases aS with rfl|rfl|rfl|rfl<;>rfl
theorem pJ : ∀x,∀v∈aP x,aZ v:=fun x=>(l1 (.s _) (l1 (.n _ _) (l1 (.n _ _) (l1 (.b _) wZ))))
theorem hD : ∀x,∀v∈aP x,Pure v:=by
 intro x v aS
 simp only [aP,List.mem_cons,List.not_mem_nil,or_false] at aS
 rcases aS with rfl|rfl|rfl|rfl
 ·exact .s _
 ·exact .n _ _
 ·exact .n _ _
 ·exact .b _
def aU (x:aX):List aj:=[.n .i64 x.bi,.n .i64 x.bc,.n .i64 x.ee]
theorem pD : ∀x,∀v∈aU x,v.gl=true:=by
 intro x v aS
 simp only [aU,List.mem_cons,List.not_mem_nil,or_false] at aS
 rcases aS with rfl|rfl|rfl<;>rfl
theorem pE : ∀x,∀v∈aU x,aZ v:=fun x=>(l1 (.n _ _) (l1 (.n _ _) (l1 (.n _ _) wZ)))
theorem hC : ∀x,∀v∈aU x,Pure v:=by
 intro x v aS
 simp only [aU,List.mem_cons,List.not_mem_nil,or_false] at aS
 rcases aS with rfl|rfl|rfl
 ·exact .n _ _
 ·exact .n _ _
 ·exact .n _ _
def ed (x:bl):List aj:=[.isl 4 (x.bb.map aP),.isl 3 (x.aR.map aU)]
theorem Pz : ∀x,∀v∈ed x,v.gl=true:=by
 intro x v aS
 simp only [ed,List.mem_cons,List.not_mem_nil,or_false] at aS
 rcases aS with rfl|rfl<;>rfl
theorem nz : ∀x,∀v∈ed x,Pure v:=by
 intro x v aS
 simp only [ed,List.mem_cons,List.not_mem_nil,or_false] at aS
 rcases aS with rfl|rfl
 ·exact .isl (du hD _)
 ·exact .isl (du hC _)
def eTBlock (x:bh):List aj:=[.n .i64 x.bi,.n .i64 x.bc,.n .i64 x.cz,.n .i64 x.de]
theorem PK : ∀x,∀v∈eTBlock x,v.gl=true:=by
 intro x v aS
 simp only [eTBlock,List.mem_cons,List.not_mem_nil,or_false] at aS
 rcases aS with rfl|rfl|rfl|rfl<;>rfl
theorem rM : ∀x,∀v∈eTBlock x,aZ v:=fun x=>(l1 (.n _ _) (l1 (.n _ _) (l1 (.n _ _) (l1 (.n _ _) wZ))))
theorem hE : ∀x,∀v∈eTBlock x,Pure v:=by
 intro x v aS
 simp only [eTBlock,List.mem_cons,List.not_mem_nil,or_false] at aS
 rcases aS with rfl|rfl|rfl|rfl
 ·exact .n _ _
 ·exact .n _ _
 ·exact .n _ _
 ·exact .n _ _
def lX (x:iH):List aj:=[.n .i64 x.m7,.n .i64 x.ks,.isl 1 (x.bi.map eI),.isl 1 (x.bc.map eI),.isl 1 (x.oK.map eI)]
theorem PD : ∀x,∀v∈lX x,v.gl=true:=by
 intro x v aS
 simp only [lX,List.mem_cons,List.not_mem_nil,or_false] at aS
 rcases aS with rfl|rfl|rfl|rfl|rfl<;>rfl
theorem PA : ∀x,∀v∈lX x,Pure v:=by
 intro x v aS
 simp only [lX,List.mem_cons,List.not_mem_nil,or_false] at aS
 rcases aS with rfl|rfl|rfl|rfl|rfl
 ·exact .n _ _
 ·exact .n _ _
 ·exact .isl (du bq _)
 ·exact .isl (du bq _)
 ·exact .isl (du bq _)
def dA (x:cu):List aj:=[.n .i64 x.iU,.n .i64 x.mF]
theorem PE : ∀x,∀v∈dA x,v.gl=true:=by
 intro x v aS
 simp only [dA,List.mem_cons,List.not_mem_nil,or_false] at aS
 rcases aS with rfl|rfl<;>rfl
theorem PF : ∀x,∀v∈dA x,aZ v:=fun x=>(l1 (.n _ _) (l1 (.n _ _) wZ))
theorem pw : ∀x,∀v∈dA x,Pure v:=by
 intro x v aS
 simp only [dA,List.mem_cons,List.not_mem_nil,or_false] at aS
 rcases aS with rfl|rfl
 ·exact .n _ _
 ·exact .n _ _
noncomputable abbrev bo:Program:=Go.Proofs.Try.prog
theorem mc:bo.follows .mixedOrders=true:=Go.Proofs.Try.checked.mixed
theorem bN {N m:Nat}{c:Code}{E:List (Nat×aj)}{rows:List (List ae)}(tape:List b5){e:Exit}{s:S}{J:List Prop}(aF:cD J)
 (h:xL bo N m c tape (dW E rows) rows.length=some (e,s,J):=by kernel_rfl):gw bo N m c e (dW E rows) s:=El mc h aF (pP _ _)
theorem ba {f:FuncId}{args:List aj}{r:aj}{J:List Prop}(tape:List b5)(aF:cD J)(ek:iA:=ii)
 (h:uX bo f args [] tape [] [] ek=some (r,[],J):=by kernel_rfl):Con bo f args [] r []:=Lb mc h aF
theorem j7 {f:FuncId}{args:List aj}{T gz:List (List ae)}{r:aj}{J:List Prop}(tape:List b5)(ar:List Nat)(b8:List fM)(aF:cD J)(ek:iA:=ii)
 (h:uX bo f args T tape ar b8 ek=some (r,gz,J):=by kernel_rfl):Con bo f args T r gz:=EC mc h aF
def E4 (x:aM):Prop:=(fun s=>s.size≤maxLen) x.eM∧lK x.dI∧lK x.dF∧(fun _=>True) x.eB
theorem Ju (w:World):li Go.Proofs.Try.prog w 68 aP E4 where
 pure:=hD
 size:=fun a=>by kernel_rfl
 opens:=fun h=>by
  obtain ⟨aA,bk⟩:=wq Try.underlying68 h
  obtain ⟨jO,i0,dE⟩:=lZ bk 0 0 1 rfl rfl (by kernel_rfl) (Kg Try.underlying9 (by kernel_rfl))
  obtain ⟨ea,i1,bn⟩:=lZ bk 1 1 1 rfl rfl (by kernel_rfl) (nB Try.underlying3 (by kernel_rfl))
  obtain ⟨ep,i2,c4⟩:=lZ bk 2 2 1 rfl rfl (by kernel_rfl) (nB Try.underlying3 (by kernel_rfl))
  obtain ⟨dq,Cq,hP⟩:=lZ bk 3 3 1 rfl rfl (by kernel_rfl) (KT Try.underlying4 (by kernel_rfl))
  have a6:Go.Proofs.Try.prog.cellsOf 68=4:=by kernel_rfl
  exact ⟨⟨jO,ea,ep,dq⟩,⟨i0,i1,i2,Cq⟩,(gD.aB dE (gD.aB bn (gD.aB c4 (gD.aB hP (gD.end_ (by omega)) (by rfl)) (by rfl)) (by rfl)) (by rfl))⟩
def EH (x:aX):Prop:=lK x.bi∧lK x.bc∧lK x.ee
theorem Jb (w:World):li Go.Proofs.Try.prog w 79 aU EH where
 pure:=hC
 size:=fun a=>by kernel_rfl
 opens:=fun h=>by
  obtain ⟨aA,bk⟩:=wq Try.underlying79 h
  obtain ⟨jO,i0,dE⟩:=lZ bk 0 0 1 rfl rfl (by kernel_rfl) (nB Try.underlying3 (by kernel_rfl))
  obtain ⟨ea,i1,bn⟩:=lZ bk 1 1 1 rfl rfl (by kernel_rfl) (nB Try.underlying3 (by kernel_rfl))
  obtain ⟨ep,i2,c4⟩:=lZ bk 2 2 1 rfl rfl (by kernel_rfl) (nB Try.underlying3 (by kernel_rfl))
  have a6:Go.Proofs.Try.prog.cellsOf 79=3:=by kernel_rfl
  exact ⟨⟨jO,ea,ep⟩,⟨i0,i1,i2⟩,(gD.aB dE (gD.aB bn (gD.aB c4 (gD.end_ (by omega)) (by rfl)) (by rfl)) (by rfl))⟩
def jV (x:bl):Prop:=(fun l=>l.length≤maxLen∧ ∀x∈l,E4 x) x.bb∧(fun l=>l.length≤maxLen∧ ∀x∈l,EH x) x.aR
theorem II (w:World):li Go.Proofs.Try.prog w 25 ed jV where
 pure:=nz
 size:=fun a=>by kernel_rfl
 opens:=fun h=>by
  obtain ⟨aA,bk⟩:=wq Try.underlying25 h
  obtain ⟨jO,i0,dE⟩:=lZ bk 0 0 1 rfl rfl (by kernel_rfl) (wy (sz:=4) Try.underlying22 (by kernel_rfl) (by kernel_rfl) (by decide) (Ju _))
  obtain ⟨ea,i1,bn⟩:=lZ bk 1 1 1 rfl rfl (by kernel_rfl) (wy (sz:=3) Try.underlying23 (by kernel_rfl) (by kernel_rfl) (by decide) (Jb _))
  have a6:Go.Proofs.Try.prog.cellsOf 25=2:=by kernel_rfl
  exact ⟨⟨jO,ea⟩,⟨i0,i1⟩,(gD.aB dE (gD.aB bn (gD.end_ (by omega)) (by rfl)) (by rfl))⟩
def pS (x:bh):Prop:=lK x.bi∧lK x.bc∧lK x.cz∧lK x.de
theorem Jv (w:World):li Go.Proofs.Try.prog w 59 eTBlock pS where
 pure:=hE
 size:=fun a=>by kernel_rfl
 opens:=fun h=>by
  obtain ⟨aA,bk⟩:=wq Try.underlying59 h
  obtain ⟨jO,i0,dE⟩:=lZ bk 0 0 1 rfl rfl (by kernel_rfl) (nB Try.underlying3 (by kernel_rfl))
  obtain ⟨ea,i1,bn⟩:=lZ bk 1 1 1 rfl rfl (by kernel_rfl) (nB Try.underlying3 (by kernel_rfl))
  obtain ⟨ep,i2,c4⟩:=lZ bk 2 2 1 rfl rfl (by kernel_rfl) (nB Try.underlying3 (by kernel_rfl))
  obtain ⟨dq,Cq,hP⟩:=lZ bk 3 3 1 rfl rfl (by kernel_rfl) (nB Try.underlying3 (by kernel_rfl))
  have a6:Go.Proofs.Try.prog.cellsOf 59=4:=by kernel_rfl
  exact ⟨⟨jO,ea,ep,dq⟩,⟨i0,i1,i2,Cq⟩,(gD.aB dE (gD.aB bn (gD.aB c4 (gD.aB hP (gD.end_ (by omega)) (by rfl)) (by rfl)) (by rfl)) (by rfl))⟩
def xT (jO ea:Int)(ep dq gj jS:Nat)(qD:List Int)(iE qE Cr BZ:Nat):List aj:=[.n .i64 jO,.n .i64 ea,.a1 ep dq gj jS,.isl 1 (qD.map eI),.a1 iE qE Cr BZ]
def hj (jO ea:Int)(ep dq gj jS qD iE qE Cr BZ OY OZ O0:Nat):List aj:=[.n .i64 jO,.n .i64 ea,.a1 ep dq gj jS,.a1 qD iE qE Cr,.a1 BZ OY OZ O0]
end Go.Proofs.Ytgfpnhmcmgnepaa
namespace Go.Proofs.Ytgfpnhmcmgnepaa
set_option linter.unusedVariables false
set_option linter.unusedSimpArgs false
open Go Go.VL
def tF (av:aM)(fq:Int):Option Int :=
 if (decide ((ai (fq-(av.eM.size:Int)))<(0:Int)))=true then
  some (-1)
 else
  some (ai (fq-(av.eM.size:Int)))
theorem Jw {av:aM}{fq:Int}:bG (tF av fq) (fun r=>Con bo 37 [.agg (aP av),.n .i64 fq] [] (.n .i64 r) []):=by
 unfold tF
 exact (let t1:List b5:=[(R 2),(R 6),(R 2)];
  .ite (fun h1 =>
  .ret (ba (t1.append [.ad true,(R 1)]) (.e1 h1)))
  (fun h1 =>
  .ret (ba (t1.append [.ad false,(R 2)]) (.e1 h1))))
def ze (av:List aM):(Int×Int)→S:=fun (fq,ah)=>dW [(0,.isl 4 (av.map aP)),(1,.n .i64 fq),(5,.n .i64 ah)] []
def zp (av:List aM):((Int)⊕(Unit))→dY
 | .inl a=>⟨some 0,[(1,.n .i64 a)],[]⟩
 | .inr a=>⟨none,[(4,.n .i64 (-1:Int))],[]⟩
def pq (av:List aM)(fq ah:Int):Option ((Int×Int)⊕((Int)⊕(Unit))) :=
 if (decide (ah<(len_ aP av)))=true then
  if 0≤ah∧ah<av.length then
  av[ah.toNat]? >>= fun aK =>
  tF aK fq >>= fun aQ =>
  if (decide (aQ<(0:Int)))=true then
   some (.inr (.inr ()))
  else
   some (.inl (aQ,ai (ah+(1:Int))))
  else none
 else
  some (.inr (.inl fq))
def zT (av:List aM)(fq ah:Int):Option ((Int)⊕(Unit)):=iter (fun w:Int×Int=>pq av w.1 w.2) (fq,ah)
theorem H0 {av:List aM}{fq ah:Int}:bG (pq av fq ah) (eD bo 27 0 20 [1,1,1,0,1,0,0] (ze av (fq,ah)) (ze av) (zp av)):=by
 unfold pq
 exact .ite (fun h1 =>
  .bC fun h2 =>
  .aN fun aK ax =>
  .aN fun aQ a4 =>
  (let t1:List b5:=[(R 4),.ad true,.aH (al 3 (au (.cO (aP aK)) (bJ 1 (b3 2 (.n .i64 aQ) true) 1))),(R 2)];
  have aY:=((.d5 h1 h2.1 (dL aP h2.2) (dr aP ax) (Jw aQ a4) (aZ.n .i64 aQ)):cD _);
  .ite (fun bj =>
  .ret (bN (t1.append [.ad true,(R 1),.bf [] [] (bH [4])]) (aY.aB (.e1 bj))))
  (fun bj =>
  .ret (bN (t1.append [.ad false,(R 3),.bf [] [] (bH [0,1,5])]) (aY.aB (.e1 bj))))))
  (fun h1 =>
  .ret (bN [(R 4),.ad false,.bf [] [] (bH [1])] (.e1 h1)))
theorem CV {av:List aM}{fq ah:Int}{r} (h:zT av fq ah=some r):eE bo 27 0 20 [1,1,1,0,1,0,0] (ze av) (zp av) (fq,ah) r:=eF (fun _=>H0) h
def tv (av:List aM)(fq:Int):Option Int :=
 if (decide ((ai (fq-(len_ aP av)))<(0:Int)))=true then
  some (-1)
 else
  zT av (ai (fq-(len_ aP av))) 0 >>= fun r2 =>
  match r2 with
  | .inl gj=>(some gj)
  | .inr gj=>(some (-1))
theorem Jc {av:List aM}{fq:Int}:bG (tv av fq) (fun r=>Con bo 20 [.isl 4 (av.map aP),.n .i64 fq] [] (.n .i64 r) []):=by
 unfold tv
 exact (let t1:List b5:=[(R 1),(R 5),(R 2)];
  .ite (fun h1 =>
  .ret (ba (t1.append [.ad true,(R 1)]) (.e1 h1)))
  (fun h1 =>
  .aN fun r2 af =>
  (let t2:List b5:=t1.append [.ad false,(R 1),.bf [] [] (bH [0,1,5])];
  (by
  rcases r2 with gj|gj
  ·exact (.ret (ba (t2.append [.sub (.exit 0) [(1,.n .i64 gj)] [],(R 2)]) (.e2 h1 (CV af))))
  ·exact (.ret (ba (t2.append [(zp av (.inr gj)).g9]) (.e2 h1 (CV af))))))))
def tr (av:List aX)(fq:Int):Option Int :=
 if (decide ((ai (fq-(len_ aU av)))<(0:Int)))=true then
  some (-1)
 else
  some (ai (fq-(len_ aU av)))
theorem I3 {av:List aX}{fq:Int}:bG (tr av fq) (fun r=>Con bo 21 [.isl 3 (av.map aU),.n .i64 fq] [] (.n .i64 r) []):=by
 unfold tr
 exact (let t1:List b5:=[(R 1),(R 5),(R 2)];
  .ite (fun h1 =>
  .ret (ba (t1.append [.ad true,(R 1)]) (.e1 h1)))
  (fun h1 =>
  .ret (ba (t1.append [.ad false,(R 2)]) (.e1 h1))))
def pt (av:bl)(fq:Int):Option Int :=
 tv av.bb fq >>= fun r1 =>
 if (decide (r1<(0:Int)))=true then
  some (-1)
 else
  tr av.aR r1 >>= fun cK =>
  if (decide (cK<(0:Int)))=true then
   some (-1)
  else
   some cK
theorem IJ {av:bl}{fq:Int}:bG (pt av fq) (fun r=>Con bo 4 [.agg (ed av),.n .i64 fq] [] (.n .i64 r) []):=by
 unfold pt
 exact .aN fun r1 h2 =>
  (let t1:List b5:=[(R 2),.aH (bJ 3 (b3 2 (.n .i64 r1) true) 1),(R 2)];
  have aY:=((.e2 (Jc r1 h2) (aZ.n .i64 r1)):cD _);
  .ite (fun af =>
  .ret (ba (t1.append [.ad true,(R 1)]) (aY.aB (.e1 af))))
  (fun af =>
  .aN fun cK a8 =>
  (let t3:List b5:=t1.append [.ad false,.aH (bJ 3 (b3 2 (.n .i64 cK) true) 1),(R 2)];
  have eV:=aY.aB (.br af (I3 cK a8) (aZ.n .i64 cK));
  .ite (fun a4 =>
  .ret (ba (t3.append [.ad true,(R 1)]) (eV.aB (.e1 a4))))
  (fun a4 =>
  .ret (ba (t3.append [.ad false,(R 2)]) (eV.aB (.e1 a4)))))))
def tw (av:List bh)(fq:Int):Option Int :=
 if (decide ((ai (fq-(len_ eTBlock av)))<(0:Int)))=true then
  some (-1)
 else
  some (ai (fq-(len_ eTBlock av)))
theorem Jd {av:List bh}{fq:Int}:bG (tw av fq) (fun r=>Con bo 5 [.isl 4 (av.map eTBlock),.n .i64 fq] [] (.n .i64 r) []):=by
 unfold tw
 exact (let t1:List b5:=[(R 1),(R 5),(R 2)];
  .ite (fun h1 =>
  .ret (ba (t1.append [.ad true,(R 1)]) (.e1 h1)))
  (fun h1 =>
  .ret (ba (t1.append [.ad false,(R 2)]) (.e1 h1))))
def wt (av:aM):Option aM :=
 some av
theorem Jx {av:aM}:bG (wt av) (fun r=>Con bo 43 [.agg (aP av)] [] (.agg (aP r)) []):=by
 unfold wt
 exact .ret (ba [(R 2),(R 1),(R 4),(R 4),(R 4),(R 4),(R 2)] .nil)
def yT (av:List aM):(Int×(List aM))→S:=fun (ah,aw)=>dW [(0,.isl 4 (av.map aP)),(3,.a1 0 0 0 aw.length),(4,.n .i64 ah)] [(a9 4 aP aw)]
def y5 (av:List aM):(List aM)→dY
 | a=>⟨some 0,[(3,.a1 0 0 0 a.length)],[(a9 4 aP a)]⟩
def pp (av:List aM)(ah:Int)(aw:List aM):Option ((Int×(List aM))⊕((List aM))) :=
 if (decide (ah<(len_ aP av)))=true then
  if 0≤ah∧ah<av.length then
  av[ah.toNat]? >>= fun aK =>
  wt aK >>= fun aQ =>
  if 0≤ah∧ah<(aw.length:Nat) then
  if (0+ah.toNat)<aw.length then
  some (.inl (ai (ah+(1:Int)),aw.set (0+ah.toNat) aQ))
  else none
  else none
  else none
 else
  some (.inr aw)
def zL (av:List aM)(ah:Int)(aw:List aM):Option ((List aM)):=iter (fun w:Int×(List aM)=>pp av w.1 w.2) (ah,aw)
theorem HP {av:List aM}{ah:Int}{aw:List aM}:bG (pp av ah aw) (eD bo 23 0 25 [1,1,0,1,0,0] (yT av (ah,aw)) (yT av) (y5 av)):=by
 unfold pp
 exact .ite (fun h1 =>
  .bC fun h2 =>
  .aN fun aK ax =>
  .aN fun aQ a4 =>
  .bC fun bj =>
  .bC fun cI =>
  .ret (bN [(R 4),.ad true,.aH (al 5 (au (.cO (aP aK)) (au (b3 1 (.agg (aP aQ)) false) (al 1 (au .gH []))))),(R 3),.bf [0] [.di (a9 4 aP (aw.set (0+ah.toNat) aQ))] [(0,ii),(3,gT ((aw.set (0+ah.toNat) aQ).length)),(4,ii)]] (.bA h1 h2.1 (dL aP h2.2) (dr aP ax) (Jx aQ a4) bj.1 bj.2 (kK aP cI) (.cS (kg 4) (dZ 4 .live (js (d6 aP aw) (0+ah.toNat) aQ)) (bE 4 .live hD (aw.set (0+ah.toNat) aQ)) (hb (dH aw) (0+ah.toNat) aQ)))))
  (fun h1 =>
  .ret (bN [(R 4),.ad false,.bf [0] [.pure] (bH [3])] (.e2 h1 (bE 4 .live hD aw))))
theorem Is {av:List aM}{ah:Int}{aw:List aM}{r} (h:zL av ah aw=some r):eE bo 23 0 25 [1,1,0,1,0,0] (yT av) (y5 av) (ah,aw) r:=eF (fun _=>HP) h
def tl (av:List aM):Option (List aM) :=
 if 0≤(len_ aP av)∧(40:Int)*(len_ aP av)≤281474976710656∧(len_ aP av)<9223372036854775808 then
 zL av 0 (List.replicate (len_ aP av).toNat (⟨ByteArray.empty,0,0,false⟩:aM):List aM) >>= fun r2 =>
 some r2
 else none
theorem IR {av:List aM}:bG (tl av) (fun a=>Con bo 25 [.isl 4 (av.map aP)] [] (.a1 0 0 0 a.length) [(a9 4 aP a)]):=by
 unfold tl
 exact .bC fun h1 =>
  .aN fun r2 af =>
  .ret (let q1:=(List.replicate (len_ aP av).toNat (⟨ByteArray.empty,0,0,false⟩:aM):List aM);j7 [(R 1),(R 4),(R 1),.bf [3] [.di (a9 4 aP q1)] [(0,ii),(3,gT (q1.length)),(4,ii)],(y5 av r2).g9,(R 2)] [0] [.pure] (.bA h1.1 (Int.le_refl (len_ aP av)) h1.2.1 h1.2.2 (dZ 4 .live (l4 aP (len_ aP av).toNat (⟨ByteArray.empty,0,0,false⟩:aM))) (bE 4 .live hD q1) (mw (len_ aP av).toNat ((⟨ByteArray.empty,0,0,false⟩:aM):aM)) (Is af) (.e1 (bE 4 .live hD r2))))
def wg (av:aX):Option aX :=
 some av
theorem Je {av:aX}:bG (wg av) (fun r=>Con bo 44 [.agg (aU av)] [] (.agg (aU r)) []):=by
 unfold wg
 exact .ret (ba [(R 2),(R 1),(R 4),(R 4),(R 4),(R 2)] .nil)
def yM (av:List aX):(Int×(List aX))→S:=fun (ah,aw)=>dW [(0,.isl 3 (av.map aU)),(3,.a1 0 0 0 aw.length),(4,.n .i64 ah)] [(a9 3 aU aw)]
def yU (av:List aX):(List aX)→dY
 | a=>⟨some 0,[(3,.a1 0 0 0 a.length)],[(a9 3 aU a)]⟩
def po (av:List aX)(ah:Int)(aw:List aX):Option ((Int×(List aX))⊕((List aX))) :=
 if (decide (ah<(len_ aU av)))=true then
  if 0≤ah∧ah<av.length then
  av[ah.toNat]? >>= fun aK =>
  wg aK >>= fun aQ =>
  if 0≤ah∧ah<(aw.length:Nat) then
  if (0+ah.toNat)<aw.length then
  some (.inl (ai (ah+(1:Int)),aw.set (0+ah.toNat) aQ))
  else none
  else none
  else none
 else
  some (.inr aw)
def zA (av:List aX)(ah:Int)(aw:List aX):Option ((List aX)):=iter (fun w:Int×(List aX)=>po av w.1 w.2) (ah,aw)
theorem HJ {av:List aX}{ah:Int}{aw:List aX}:bG (po av ah aw) (eD bo 23 0 26 [1,1,0,1,0,0] (yM av (ah,aw)) (yM av) (yU av)):=by
 unfold po
 exact .ite (fun h1 =>
  .bC fun h2 =>
  .aN fun aK ax =>
  .aN fun aQ a4 =>
  .bC fun bj =>
  .bC fun cI =>
  .ret (bN [(R 4),.ad true,.aH (al 5 (au (.cO (aU aK)) (au (b3 1 (.agg (aU aQ)) false) (al 1 (au .gH []))))),(R 3),.bf [0] [.di (a9 3 aU (aw.set (0+ah.toNat) aQ))] [(0,ii),(3,gT ((aw.set (0+ah.toNat) aQ).length)),(4,ii)]] (.bA h1 h2.1 (dL aU h2.2) (dr aU ax) (Je aQ a4) bj.1 bj.2 (kK aU cI) (.cS (kg 3) (dZ 3 .live (js (d6 aU aw) (0+ah.toNat) aQ)) (bE 3 .live hC (aw.set (0+ah.toNat) aQ)) (hb (dH aw) (0+ah.toNat) aQ)))))
  (fun h1 =>
  .ret (bN [(R 4),.ad false,.bf [0] [.pure] (bH [3])] (.e2 h1 (bE 3 .live hC aw))))
theorem Ik {av:List aX}{ah:Int}{aw:List aX}{r} (h:zA av ah aw=some r):eE bo 23 0 26 [1,1,0,1,0,0] (yM av) (yU av) (ah,aw) r:=eF (fun _=>HJ) h
def tk (av:List aX):Option (List aX) :=
 if 0≤(len_ aU av)∧(24:Int)*(len_ aU av)≤281474976710656∧(len_ aU av)<9223372036854775808 then
 zA av 0 (List.replicate (len_ aU av).toNat (⟨0,0,0⟩:aX):List aX) >>= fun r2 =>
 some r2
 else none
theorem IK {av:List aX}:bG (tk av) (fun a=>Con bo 26 [.isl 3 (av.map aU)] [] (.a1 0 0 0 a.length) [(a9 3 aU a)]):=by
 unfold tk
 exact .bC fun h1 =>
  .aN fun r2 af =>
  .ret (let q1:=(List.replicate (len_ aU av).toNat (⟨0,0,0⟩:aX):List aX);j7 [(R 1),(R 4),(R 1),.bf [3] [.di (a9 3 aU q1)] [(0,ii),(3,gT (q1.length)),(4,ii)],(yU av r2).g9,(R 2)] [0] [.pure] (.bA h1.1 (Int.le_refl (len_ aU av)) h1.2.1 h1.2.2 (dZ 3 .live (l4 aU (len_ aU av).toNat (⟨0,0,0⟩:aX))) (bE 3 .live hC q1) (mw (len_ aU av).toNat ((⟨0,0,0⟩:aX):aX)) (Ik af) (.e1 (bE 3 .live hC r2))))
def tb (av:bl):Option ((List aM)×(List aX)) :=
 tl av.bb >>= fun r1 =>
 tk av.aR >>= fun bz =>
 some (r1,bz)
theorem q6 {av:bl}:bG (tb av) (fun a=>Con bo 7 [.agg (ed av)] [] (.agg [.a1 0 0 0 a.1.length,.a1 0 1 0 a.2.length]) [[ae.mk 4 (a.1.map aP) .live,ae.mk 3 (a.2.map aU) .live]]):=by
 unfold tb
 exact .aN fun r1 h2 =>
  .aN fun bz ax =>
  .ret (j7 [(R 2),(R 1),.aH (bJ 2 (.call {ar:=[],b8:=[],ac:=[ii],r:= .a1 0 0 0 r1.length,c2:=[(a9 4 aP r1)],ek:=ii,e8:=[.pure],dx:=[],dk:=true}) 2),.aH (bJ 2 (.call {ar:=[],b8:=[],ac:=[ii],r:= .a1 0 0 0 bz.length,c2:=[(a9 3 aU bz)],ek:=ii,e8:=[.pure],dx:=[],dk:=true}) 2),(R 2),.xJ [{bg:=[(5,0),(10,0)],hk:=none},{bg:=[(1,0)]}] [([.pure,.pure],none),([.box [.at_ 0 0 r1.length,.at_ 0 1 bz.length]],none)] [(2,.bn (.dE (.at_ 1 0 0)))]] [0] [.fT [ae.mk 4 (r1.map aP) .live,ae.mk 3 (bz.map aU) .live]] (.bA (eY 4 hD r1) (IR r1 h2) (aZ.a1 0 0 0 r1.length) ((iq (fK (fE pJ) iu) ir):hi [(a9 4 aP r1)]) (eY 3 hC bz) (IK bz ax) (aZ.a1 0 0 0 bz.length) ((iq (fK (fE pE) iu) ir):hi [(a9 3 aU bz)]) (.hR (bE 4 .live hD r1) (bE 3 .live hC bz) (rfl:(jL [{bg:=[(5,0),(10,0)],hk:=none},{bg:=[(1,0)]}]) 0 0=some (5,0)) (rfl:r1.length=r1.length) (rfl:(jL [{bg:=[(5,0),(10,0)],hk:=none},{bg:=[(1,0)]}]) 0 1=some (10,0)) (rfl:bz.length=bz.length) (rfl:(jL [{bg:=[(5,0),(10,0)],hk:=none},{bg:=[(1,0)]}]) 1 0=some (1,0)) (db (dl (fW [0]) 4 pI r1) (db (dl (fW [0]) 3 pD bz) (gZ (bw:=(fW [0]))))))) (.bn (.agg [.id,.id])))
def zf (av:List Int):(Int×(List Int))→S:=fun (ah,aw)=>dW [(0,.isl 1 (av.map eI)),(3,.a1 0 0 0 aw.length),(4,.n .i64 ah)] [(a9 1 eI aw)]
def zq (av:List Int):(List Int)→dY
 | a=>⟨some 0,[(3,.a1 0 0 0 a.length)],[(a9 1 eI a)]⟩
def pr (av:List Int)(ah:Int)(aw:List Int):Option ((Int×(List Int))⊕((List Int))) :=
 if (decide (ah<(len_ eI av)))=true then
  if 0≤ah∧ah<av.length then
  av[ah.toNat]? >>= fun aK =>
  if 0≤ah∧ah<(aw.length:Nat) then
  if (0+ah.toNat)<aw.length then
  some (.inl (ai (ah+(1:Int)),aw.set (0+ah.toNat) aK))
  else none
  else none
  else none
 else
  some (.inr aw)
def zU (av:List Int)(ah:Int)(aw:List Int):Option ((List Int)):=iter (fun w:Int×(List Int)=>pr av w.1 w.2) (ah,aw)
theorem H2 {av:List Int}{ah:Int}{aw:List Int}:bG (pr av ah aw) (eD bo 22 0 8 [1,1,0,1,0,0] (zf av (ah,aw)) (zf av) (zq av)):=by
 unfold pr
 exact .ite (fun h1 =>
  .bC fun h2 =>
  .aN fun aK ax =>
  .bC fun a8 =>
  .bC fun a4 =>
  .ret (bN [(R 4),.ad true,.aH (al 5 (au (.cO (eI aK)) (al 1 (au .gH [])))),(R 3),.bf [0] [.di (a9 1 eI (aw.set (0+ah.toNat) aK))] [(0,ii),(3,gT ((aw.set (0+ah.toNat) aK).length)),(4,ii)]] (.bA h1 h2.1 (dL eI h2.2) (dr eI ax) a8.1 a8.2 (kK eI a4) (kg 1) (.br (dZ 1 .live (js (d6 eI aw) (0+ah.toNat) aK)) (bE 1 .live bq (aw.set (0+ah.toNat) aK)) (hb (dH aw) (0+ah.toNat) aK)))))
  (fun h1 =>
  .ret (bN [(R 4),.ad false,.bf [0] [.pure] (bH [3])] (.e2 h1 (bE 1 .live bq aw))))
theorem IL {av:List Int}{ah:Int}{aw:List Int}{r} (h:zU av ah aw=some r):eE bo 22 0 8 [1,1,0,1,0,0] (zf av) (zq av) (ah,aw) r:=eF (fun _=>H2) h
def tx (av:List Int):Option (List Int) :=
 if 0≤(len_ eI av)∧(8:Int)*(len_ eI av)≤281474976710656∧(len_ eI av)<9223372036854775808 then
 zU av 0 (List.replicate (len_ eI av).toNat 0:List Int) >>= fun r2 =>
 some r2
 else none
theorem ru {av:List Int}:bG (tx av) (fun a=>Con bo 8 [.isl 1 (av.map eI)] [] (.a1 0 0 0 a.length) [(a9 1 eI a)]):=by
 unfold tx
 exact .bC fun h1 =>
  .aN fun r2 af =>
  .ret (let q1:=(List.replicate (len_ eI av).toNat 0:List Int);j7 [(R 1),(R 4),(R 1),.bf [3] [.di (a9 1 eI q1)] [(0,ii),(3,gT (q1.length)),(4,ii)],(zq av r2).g9,(R 2)] [0] [.pure] (.bA h1.1 (Int.le_refl (len_ eI av)) h1.2.1 h1.2.2 (dZ 1 .live (l4 eI (len_ eI av).toNat 0)) (bE 1 .live bq q1) (mw (len_ eI av).toNat (0:Int)) (IL af) (.e1 (bE 1 .live bq r2))))
def Ah (av:bh):Option bh :=
 some av
theorem Jy {av:bh}:bG (Ah av) (fun r=>Con bo 27 [.agg (eTBlock av)] [] (.agg (eTBlock r)) []):=by
 unfold Ah
 exact .ret (ba [(R 2),(R 1),(R 4),(R 4),(R 4),(R 4),(R 2)] .nil)
def yV (av:List bh):(Int×(List bh))→S:=fun (ah,aw)=>dW [(0,.isl 4 (av.map eTBlock)),(3,.a1 0 0 0 aw.length),(4,.n .i64 ah)] [(a9 4 eTBlock aw)]
def y6 (av:List bh):(List bh)→dY
 | a=>⟨some 0,[(3,.a1 0 0 0 a.length)],[(a9 4 eTBlock a)]⟩
def s5 (av:List bh)(ah:Int)(aw:List bh):Option ((Int×(List bh))⊕((List bh))) :=
 if (decide (ah<(len_ eTBlock av)))=true then
  if 0≤ah∧ah<av.length then
  av[ah.toNat]? >>= fun aK =>
  Ah aK >>= fun aQ =>
  if 0≤ah∧ah<(aw.length:Nat) then
  if (0+ah.toNat)<aw.length then
  some (.inl (ai (ah+(1:Int)),aw.set (0+ah.toNat) aQ))
  else none
  else none
  else none
 else
  some (.inr aw)
def zM (av:List bh)(ah:Int)(aw:List bh):Option ((List bh)):=iter (fun w:Int×(List bh)=>s5 av w.1 w.2) (ah,aw)
theorem HQ {av:List bh}{ah:Int}{aw:List bh}:bG (s5 av ah aw) (eD bo 23 0 9 [1,1,0,1,0,0] (yV av (ah,aw)) (yV av) (y6 av)):=by
 unfold s5
 exact .ite (fun h1 =>
  .bC fun h2 =>
  .aN fun aK ax =>
  .aN fun aQ a4 =>
  .bC fun bj =>
  .bC fun cI =>
  .ret (bN [(R 4),.ad true,.aH (al 5 (au (.cO (eTBlock aK)) (au (b3 1 (.agg (eTBlock aQ)) false) (al 1 (au .gH []))))),(R 3),.bf [0] [.di (a9 4 eTBlock (aw.set (0+ah.toNat) aQ))] [(0,ii),(3,gT ((aw.set (0+ah.toNat) aQ).length)),(4,ii)]] (.bA h1 h2.1 (dL eTBlock h2.2) (dr eTBlock ax) (Jy aQ a4) bj.1 bj.2 (kK eTBlock cI) (.cS (kg 4) (dZ 4 .live (js (d6 eTBlock aw) (0+ah.toNat) aQ)) (bE 4 .live hE (aw.set (0+ah.toNat) aQ)) (hb (dH aw) (0+ah.toNat) aQ)))))
  (fun h1 =>
  .ret (bN [(R 4),.ad false,.bf [0] [.pure] (bH [3])] (.e2 h1 (bE 4 .live hE aw))))
theorem It {av:List bh}{ah:Int}{aw:List bh}{r} (h:zM av ah aw=some r):eE bo 23 0 9 [1,1,0,1,0,0] (yV av) (y6 av) (ah,aw) r:=eF (fun _=>HQ) h
def tm (av:List bh):Option (List bh) :=
 if 0≤(len_ eTBlock av)∧(32:Int)*(len_ eTBlock av)≤281474976710656∧(len_ eTBlock av)<9223372036854775808 then
 zM av 0 (List.replicate (len_ eTBlock av).toNat (⟨0,0,0,0⟩:bh):List bh) >>= fun r2 =>
 some r2
 else none
theorem rn {av:List bh}:bG (tm av) (fun a=>Con bo 9 [.isl 4 (av.map eTBlock)] [] (.a1 0 0 0 a.length) [(a9 4 eTBlock a)]):=by
 unfold tm
 exact .bC fun h1 =>
  .aN fun r2 af =>
  .ret (let q1:=(List.replicate (len_ eTBlock av).toNat (⟨0,0,0,0⟩:bh):List bh);j7 [(R 1),(R 4),(R 1),.bf [3] [.di (a9 4 eTBlock q1)] [(0,ii),(3,gT (q1.length)),(4,ii)],(y6 av r2).g9,(R 2)] [0] [.pure] (.bA h1.1 (Int.le_refl (len_ eTBlock av)) h1.2.1 h1.2.2 (dZ 4 .live (l4 eTBlock (len_ eTBlock av).toNat (⟨0,0,0,0⟩:bh))) (bE 4 .live hE q1) (mw (len_ eTBlock av).toNat ((⟨0,0,0,0⟩:bh):bh)) (It af) (.e1 (bE 4 .live hE r2))))
def lE (b4 xp xq:Int):Option Bool :=
 if (decide (xp≤b4))=true then
  some (decide (b4≤xq))
 else
  some false
theorem n6 {b4 xp xq:Int}:bG (lE b4 xp xq) (fun r=>Con bo 39 [.n .i64 b4,.n .i64 xp,.n .i64 xq] [] (.b r) []):=by
 unfold lE
 exact .ite (fun h1 =>
  .ret (ba [(R 1),.aH (bJ 7 (.ad true) 1)] (.cS h1 h1 h1 h1)))
  (fun h1 =>
  .ret (ba [(R 1),.aH (al 4 (b0 3 (au (.ad false) (al 1 []))))] (.cS h1 h1 h1 h1)))
def zB (ao:ByteArray):Int→S:=fun ah=>dW [(0,.s ao),(3,.n .i64 ah)] []
def C3 (ao:ByteArray):((Unit)⊕(Unit))→dY
 | .inl a=>⟨some 0,[(0,.s ao)],[]⟩
 | .inr a=>⟨none,[(2,.b false)],[]⟩
def oN (ao:ByteArray)(ah:Int):Option ((Int)⊕((Unit)⊕(Unit))) :=
 if (decide (ah<(ao.size:Int)))=true then
  if 0≤ah∧ah<(ao.size:Nat) then
  if (decide ((97:Int)≤((ao.data.toList.getD ah.toNat 0).toNat:Int)))=true then
   if (decide (((ao.data.toList.getD ah.toNat 0).toNat:Int)≤(122:Int)))=true then
    some (.inl (ai (ah+(1:Int))))
   else
    if (ah == (0:Int))=true then
     some (.inr (.inr ()))
    else
     if (decide (((ao.data.toList.getD ah.toNat 0).toNat:Int)<(48:Int)))=true then
      some (.inr (.inr ()))
     else
      if (decide ((57:Int)<((ao.data.toList.getD ah.toNat 0).toNat:Int)))=true then
       some (.inr (.inr ()))
      else
       some (.inl (ai (ah+(1:Int))))
  else
   if (ah == (0:Int))=true then
    some (.inr (.inr ()))
   else
    if (decide (((ao.data.toList.getD ah.toNat 0).toNat:Int)<(48:Int)))=true then
     some (.inr (.inr ()))
    else
     if (decide ((57:Int)<((ao.data.toList.getD ah.toNat 0).toNat:Int)))=true then
      some (.inr (.inr ()))
     else
      some (.inl (ai (ah+(1:Int))))
  else none
 else
  some (.inr (.inl ()))
def ts (ao:ByteArray)(ah:Int):Option ((Unit)⊕(Unit)):=iter (fun w:Int=>oN ao w) ah
theorem Il {ao:ByteArray}{ah:Int}:bG (oN ao ah) (eD bo 42 0 76 [1,0,1,0,0] (zB ao ah) (zB ao) (C3 ao)):=by
 unfold oN
 exact .ite (fun h1 =>
  .bC fun h2 =>
  .ite (fun af =>
  (let t1:List b5:=[(R 4),.ad true,.aH (bJ 9 (.ad true) 1)];
  have aY:=((.bA h1 h2.1 h2.2 af af af h2.1 h2.2 (.e2 af af)):cD _);
  .ite (fun ax =>
  .ret (bN (t1.append [.aH (al 3 (b0 3 (al 4 (b0 2 (al 4 (b0 1 (au (.ad false) []))))))),.ad false,(R 3),.bf [] [] (bH [0,3])]) (aY.aB (.hR (bX ax) (bX ax) (bX ax) (bX ax) (bX ax) (bX ax) (bX ax) eg))))
  (fun ax =>
  (have dR:=aY.aB (.br (bW ax) (bW ax) (bW ax));
  .ite (fun a8 =>
  .ret (bN (t1.append [.aH (al 6 (b0 4 (au (.ad true) (al 1 (b0 4 (al 1 (au (.ad true) []))))))),.ad true,(R 1),.bf [] [] (bH [2])]) (dR.aB (.bA a8 a8 a8 a8 (bW ax) a8 (bW ax) aW (.d5 aW aW aW (bW ax) (bW ax) aW)))))
  (fun a8 =>
  (have eV:=dR.aB (.bA a8 a8 a8 h2.1 h2.2 a8 (bW ax) a8 (.e1 (bW ax)));
  .ite (fun a4 =>
  .ret (bN (t1.append [.aH (al 10 (au (.ad false) (al 1 (b0 4 (au (.ad true) (au (.ad true) [])))))),.ad true,(R 1),.bf [] [] (bH [2])]) (eV.aB (.hR a4 a4 a4 a4 (bW ax) a4 (bW ax) aW))))
  (fun a4 =>
  (let t5:List b5:=t1.append [.aH (al 10 (au (.ad false) (al 5 (au (.ad false) (au (.ad true) [])))))];
  have kL:=eV.aB (.bA a4 a4 a4 h2.1 h2.2 a4 (bW ax) a4 (.e1 (bW ax)));
  .ite (fun bj =>
  .ret (bN (t5.append [.ad true,(R 1),.bf [] [] (bH [2])]) (kL.aB (.e1 bj))))
  (fun bj =>
  .ret (bN (t5.append [.ad false,(R 3),.bf [] [] (bH [0,3])]) (kL.aB (.e1 bj))))))))))))
  (fun af =>
  (let t1:List b5:=[(R 4),.ad true,.aH (al 5 (b0 4 (au (.ad false) (al 1 []))))];
  have aY:=((.bA h1 h2.1 h2.2 af af af af af (.br aW aW aW)):cD _);
  .ite (fun ax =>
  .ret (bN (t1.append [.aH (al 6 (b0 4 (au (.ad true) (al 1 (b0 4 (al 2 [])))))),.ad true,(R 1),.bf [] [] (bH [2])]) (aY.aB (.bA ax ax ax ax aW ax aW aW (.ez aW aW aW aW aW)))))
  (fun ax =>
  (have dR:=aY.aB (.bA ax ax ax h2.1 h2.2 ax aW ax (.e1 aW));
  .ite (fun a8 =>
  .ret (bN (t1.append [.aH (al 10 (au (.ad false) (al 1 (b0 4 (au (.ad true) (al 1 [])))))),.ad true,(R 1),.bf [] [] (bH [2])]) (dR.aB (.gV a8 a8 a8 a8 aW a8 aW))))
  (fun a8 =>
  (let t4:List b5:=t1.append [.aH (al 10 (au (.ad false) (bJ 5 (.ad false) 1)))];
  have i9:=dR.aB (.hR a8 a8 a8 h2.1 h2.2 a8 aW a8);
  .ite (fun a4 =>
  .ret (bN (t4.append [.ad true,(R 1),.bf [] [] (bH [2])]) (i9.aB (.e1 a4))))
  (fun a4 =>
  .ret (bN (t4.append [.ad false,(R 3),.bf [] [] (bH [0,3])]) (i9.aB (.e1 a4)))))))))))
  (fun h1 =>
  .ret (bN [(R 4),.ad false,.bf [] [] (bH [0])] (.e1 h1)))
theorem Db {ao:ByteArray}{ah:Int}{r} (h:ts ao ah=some r):eE bo 42 0 76 [1,0,1,0,0] (zB ao) (C3 ao) ah r:=eF (fun _=>Il) h
def oP (ao:ByteArray):Option Bool :=
 ts ao 0 >>= fun r1 =>
 match r1 with
 | .inl dq=>(lE (ao.size:Int) 1 8 >>= fun cK =>
  some cK)
 | .inr dq=>(some false)
theorem JN {ao:ByteArray}:bG (oP ao) (fun r=>Con bo 76 [.s ao] [] (.b r) []):=by
 unfold oP
 exact .aN fun r1 h2 =>
  (let t1:List b5:=[(R 1),(R 1),.bf [] [] (bH [0,3])];
  (by
  rcases r1 with dq|dq
  ·exact (.aN fun cK a8 =>
  .ret (ba (t1.append [.sub (.exit 0) [(0,.s ao)] [],.aH (bJ 2 (b3 3 (.b cK) true) 1)]) (.br (Db h2) (n6 cK a8) (aZ.b cK))))
  ·exact (.ret (ba (t1.append [.sub (.ret) [(2,.b false)] []]) (.e1 (Db h2))))))
def lW (gf:aM):Option Bool :=
 oP gf.eM >>= fun r1 =>
 if r1=true then
  lE gf.dI (-50) 50 >>= fun cK =>
  if cK=true then
   lE gf.dF (-50) 50 >>= fun ch =>
   some ch
  else
   some false
 else
  some false
theorem Jz {gf:aM}:bG (lW gf) (fun r=>Con bo 55 [.agg (aP gf)] [] (.b r) []):=by
 unfold lW
 exact .aN fun r1 h2 =>
  (have bt:=((.e2 (JN r1 h2) (aZ.b r1)):cD _);
  .ite (fun af =>
  .aN fun cK a8 =>
  (have aY:=bt.aB (.d5 af af af (n6 cK a8) (aZ.b cK) af);
  .ite (fun a4 =>
  .aN fun ch cI =>
  .ret (ba [(R 2),.aH (al 2 (au (b3 1 (.b r1) true) (al 3 (au (b3 3 (.b cK) true) (au (.ad true) (al 3 (au (b3 3 (.b ch) true) (au (.ad true) (al 1 [])))))))))] (aY.aB (.d5 a4 a4 a4 (n6 ch cI) (aZ.b ch) a4))))
  (fun a4 =>
  .ret (ba [(R 2),.aH (al 2 (au (b3 1 (.b r1) true) (al 3 (au (b3 3 (.b cK) true) (au (.ad true) (al 1 (b0 3 (au (.ad false) (al 1 [])))))))))] (aY.aB (.cS a4 a4 a4 a4))))))
  (fun af =>
  .ret (ba [(R 2),.aH (al 2 (au (b3 1 (.b r1) true) (al 1 (b0 3 (au (.ad false) (al 1 (b0 3 (al 2 []))))))))] (bt.aB (.gV af af af af eg eg eg)))))
def yW (hH:ByteArray)(c1:List aM)(dP:Int):Int→S:=fun cR=>dW [(1,.s hH),(8,.isl 4 (c1.map aP)),(9,.n .i64 dP),(10,.n .i64 cR)] []
def CH (hH:ByteArray)(c1:List aM)(dP:Int):((Unit)⊕(Int))→dY
 | .inl a=>⟨some 0,[],[]⟩
 | .inr a=>⟨none,[(4,.n .i64 a)],[]⟩
def qU (hH:ByteArray)(c1:List aM)(dP cR:Int):Option ((Int)⊕((Unit)⊕(Int))) :=
 if (decide (cR<dP))=true then
  if 0≤cR∧cR<c1.length then
  c1[cR.toNat]? >>= fun aK =>
  if (aK.eM.toList == hH.toList)=true then
   some (.inr (.inr cR))
  else
   some (.inl (ai (cR+(1:Int))))
  else none
 else
  some (.inr (.inl ()))
def rp (hH:ByteArray)(c1:List aM)(dP cR:Int):Option ((Unit)⊕(Int)):=iter (fun w:Int=>qU hH c1 dP w) cR
theorem HR {hH:ByteArray}{c1:List aM}{dP cR:Int}:bG (qU hH c1 dP cR) (eD bo 21 0 56 [1,0,1,0,0] (yW hH c1 dP cR) (yW hH c1 dP) (CH hH c1 dP)):=by
 unfold qU
 exact .ite (fun h1 =>
  .bC fun h2 =>
  .aN fun aK ax =>
  (let t1:List b5:=[(R 1),.ad true,.aH (bJ 2 (.cO (aP aK)) 3),(R 4)];
  have aY:=((.cS h1 h2.1 (dL aP h2.2) (dr aP ax)):cD _);
  .ite (fun a8 =>
  .ret (bN (t1.append [.ad true,(R 2),.bf [] [] (bH [4])]) (aY.aB (.e1 a8))))
  (fun a8 =>
  .ret (bN (t1.append [.ad false,(R 2),.bf [] [] (bH [1,8,9,10])]) (aY.aB (.e1 a8))))))
  (fun h1 =>
  .ret (bN [(R 1),.ad false,.bf [] [] []] (.e1 h1)))
theorem CL {hH:ByteArray}{c1:List aM}{dP cR:Int}{r} (h:rp hH c1 dP cR=some r):eE bo 21 0 56 [1,0,1,0,0] (yW hH c1 dP) (CH hH c1 dP) cR r:=eF (fun _=>HR) h
def pv (ao:bl)(hH:ByteArray):Option Int :=
 rp hH ao.bb (len_ aP ao.bb) 0 >>= fun r1 =>
 match r1 with
 | .inl dq=>(some (-1))
 | .inr dq=>(some dq)
theorem IU {ao:bl}{hH:ByteArray}:bG (pv ao hH) (fun r=>Con bo 56 [.agg (ed ao),.s hH] [] (.n .i64 r) []):=by
 unfold pv
 exact .aN fun r1 h2 =>
  (let t1:List b5:=[(R 2),(R 4),.bf [] [] (bH [1,8,9,10])];
  (by
  rcases r1 with dq|dq
  ·exact (.ret (ba (t1.append [.sub (.exit 0) [] [],(R 1)]) (.e1 (CL h2))))
  ·exact (.ret (ba (t1.append [.sub (.ret) [(4,.n .i64 dq)] []]) (.e1 (CL h2))))))
def yN (eu:List aM)(gP:Int)(b1:List aX):Int→S:=fun dv=>dW [(1,.ref 0 0 0 0),(21,.isl 4 (eu.map aP)),(22,.n .i64 gP),(23,.n .i64 dv)] [[ae.mk 2 [[.isl 4 (eu.map aP),.isl 3 (b1.map aU)]] .live]]
def yX (eu:List aM)(gP:Int)(b1:List aX):((Unit)⊕(Unit))→dY
 | .inl a=>⟨some 0,[(1,.ref 0 0 0 0)],[[ae.mk 2 [[.isl 4 (eu.map aP),.isl 3 (b1.map aU)]] .live]]⟩
 | .inr a=>⟨none,[(2,.b false)],[]⟩
def ny (eu:List aM)(gP:Int)(b1:List aX)(dv:Int):Option ((Int)⊕((Unit)⊕(Unit))) :=
 if (decide (dv<gP))=true then
  if 0≤dv∧dv<eu.length then
  eu[dv.toNat]? >>= fun aK =>
  lW aK >>= fun aQ =>
  if aQ=true then
   pv (⟨eu,b1⟩:bl) aK.eM >>= fun aG =>
   if (aG != dv)=true then
    some (.inr (.inr ()))
   else
    some (.inl (ai (dv+(1:Int))))
  else
   some (.inr (.inr ()))
  else none
 else
  some (.inr (.inl ()))
def ps (eu:List aM)(gP:Int)(b1:List aX)(dv:Int):Option ((Unit)⊕(Unit)):=iter (fun w:Int=>ny eu gP b1 w) dv
theorem HK {eu:List aM}{gP:Int}{b1:List aX}{dv:Int}:bG (ny eu gP b1 dv) (eD bo 102 0 38 [1,1,0,1,0,0] (yN eu gP b1 dv) (yN eu gP b1) (yX eu gP b1)):=by
 unfold ny
 exact .ite (fun h1 =>
  .bC fun h2 =>
  .aN fun aK ax =>
  .aN fun aQ a4 =>
  (let t1:List b5:=[(R 1),.ad true,.aH (bJ 2 (.cO (aP aK)) 3)];
  have aY:=((.d5 h1 h2.1 (dL aP h2.2) (dr aP ax) (Jz aQ a4) (aZ.b aQ)):cD _);
  .ite (fun bj =>
  .aN fun aG dt =>
  (let t3:List b5:=t1.append [.aH (al 1 (au (b3 1 (.b aQ) true) (al 5 (au (b3 2 (.n .i64 aG) true) (al 2 (au (.ad false) []))))))];
  have eV:=aY.aB (.bA (bX bj) (bX bj) (bX bj) (bX bj) (IU aG dt) (aZ.n .i64 aG) (bX bj) (bX bj) (.e1 (bX bj)));
  .ite (fun cB =>
  .ret (bN (t3.append [.ad true,(R 1),.bf [] [] (bH [2])]) (eV.aB (.e1 cB))))
  (fun cB =>
  .ret (bN (t3.append [.ad false,(R 2),.bf [0] [.box [.id,.id]] (bH [1,21,22,23])]) (eV.aB (.e1 cB))))))
  (fun bj =>
  .ret (bN (t1.append [.aH (al 1 (au (b3 1 (.b aQ) true) (al 2 (b0 6 (au (.ad true) []))))),.ad true,(R 1),.bf [] [] (bH [2])]) (aY.aB (.hR (bW bj) (bW bj) (bW bj) (bW bj) (bW bj) (bW bj) (bW bj) aW))))))
  (fun h1 =>
  .ret (bN [(R 1),.ad false,.bf [0] [.box [.id,.id]] (bH [1])] (.e1 h1)))
theorem CI {eu:List aM}{gP:Int}{b1:List aX}{dv:Int}{r} (h:ps eu gP b1 dv=some r):eE bo 102 0 38 [1,1,0,1,0,0] (yN eu gP b1) (yX eu gP b1) dv r:=eF (fun _=>HK) h
def yO (kS:Int)(kt:List aX)(eH:Int)(b2:List aM):Int→S:=fun ev=>dW [(1,.ref 0 0 0 0),(5,.n .i64 kS),(45,.isl 3 (kt.map aU)),(46,.n .i64 eH),(47,.n .i64 ev)] [[ae.mk 2 [[.isl 4 (b2.map aP),.isl 3 (kt.map aU)]] .live]]
def CF (kS:Int)(kt:List aX)(eH:Int)(b2:List aM):((Unit)⊕(Unit))→dY
 | .inl a=>⟨some 2,[],[]⟩
 | .inr a=>⟨none,[(2,.b false)],[]⟩
def s4 (kS:Int)(kt:List aX)(eH:Int)(b2:List aM)(ev:Int):Option ((Int)⊕((Unit)⊕(Unit))) :=
 if (decide (ev<eH))=true then
  if 0≤ev∧ev<kt.length then
  kt[ev.toNat]? >>= fun aK =>
  lE aK.bi 0 kS >>= fun aQ =>
  if aQ=true then
   lE aK.bc 0 kS >>= fun aG =>
   if aG=true then
    lE aK.ee 1 3 >>= fun nm =>
    if nm=true then
     if 0≤aK.bi∧aK.bi<b2.length then
     b2[aK.bi.toNat]? >>= fun j8 =>
     if 0≤aK.bc∧aK.bc<b2.length then
     b2[aK.bc.toNat]? >>= fun j9 =>
     if (j8.dI == j9.dI)=true then
      if (j8.dF == j9.dF)=true then
       some (.inr (.inr ()))
      else
       if j8.eB=true then
        if j9.eB=true then
         some (.inr (.inr ()))
        else
         some (.inl (ai (ev+(1:Int))))
       else
        some (.inl (ai (ev+(1:Int))))
     else
      if j8.eB=true then
       if j9.eB=true then
        some (.inr (.inr ()))
       else
        some (.inl (ai (ev+(1:Int))))
      else
       some (.inl (ai (ev+(1:Int))))
     else none
     else none
    else
     some (.inr (.inr ()))
   else
    some (.inr (.inr ()))
  else
   some (.inr (.inr ()))
  else none
 else
  some (.inr (.inl ()))
def zC (kS:Int)(kt:List aX)(eH:Int)(b2:List aM)(ev:Int):Option ((Unit)⊕(Unit)):=iter (fun w:Int=>s4 kS kt eH b2 w) ev
theorem HL {kS:Int}{kt:List aX}{eH:Int}{b2:List aM}{ev:Int}:bG (s4 kS kt eH b2 ev) (eD bo 102 0 38 [1,1,1,1,0,1,0,0] (yO kS kt eH b2 ev) (yO kS kt eH b2) (CF kS kt eH b2)):=by
 unfold s4
 exact .ite (fun h1 =>
  .bC fun h2 =>
  .aN fun aK ax =>
  .aN fun aQ a4 =>
  (let t1:List b5:=[(R 1),.ad true,.aH (bJ 1 (.cO (aU aK)) 2)];
  have aY:=((.d5 h1 h2.1 (dL aU h2.2) (dr aU ax) (n6 aQ a4) (aZ.b aQ)):cD _);
  .ite (fun bj =>
  .aN fun aG dt =>
  (have dR:=aY.aB (.hR (bX bj) (bX bj) (bX bj) (bX bj) (n6 aG dt) (aZ.b aG) (bX bj) (bX bj));
  .ite (fun cB =>
  .aN fun nm i6 =>
  (let t4:List b5:=t1.append [.aH (al 3 (au (b3 3 (.b aQ) true) (al 5 (au (b3 3 (.b aG) true) (al 1 (au (.ad false) (al 3 (au (b3 3 (.b nm) true) (al 1 (au (.ad false) []))))))))))];
  have i9:=dR.aB (.gV (bX cB) (bX cB) (bX cB) (n6 nm i6) (aZ.b nm) (bX cB) (bX cB));
  .ite (fun ff =>
  .bC fun gg =>
  .aN fun j8 vn =>
  .bC fun mj =>
  .aN fun j9 vo =>
  (let t6:List b5:=t4.append [.ad false,.aH (bJ 5 (.cO (aP j8)) 2),.aH (bJ 5 (.cO (aP j9)) 2)];
  have oL:=i9.aB (.gV (bX ff) gg.1 (dL aP gg.2) (dr aP vn) mj.1 (dL aP mj.2) (dr aP vo));
  .ite (fun eU =>
  .ite (fun eo =>
  .ret (bN (t6.append [.aH (al 11 (au (.ad true) (al 1 (b0 3 (al 2 (b0 1 (au (.ad true) []))))))),.ad true,(R 1),.bf [] [] (bH [2])]) (oL.aB (.bA eU eU eU eU eU eU eo eo (.cS eo eo eo aW)))))
  (fun eo =>
  (have kM:=oL.aB (.bA eU eU eU eU eU eU eo eo (.e1 eo));
  .ite (fun fm =>
  (let t9:List b5:=t6.append [.aH (al 11 (au (.ad true) (al 6 (au (.ad true) (au (.ad false) [])))))];
  .ite (fun qm =>
  .ret (bN (t9.append [.ad true,(R 1),.bf [] [] (bH [2])]) (kM.aB (.d5 fm fm eo fm eo qm))))
  (fun qm =>
  .ret (bN (t9.append [.ad false,(R 2),.bf [0] [.box [.id,.id]] (bH [1,5,45,46,47])]) (kM.aB (.d5 fm fm eo fm eo qm))))))
  (fun fm =>
  .ret (bN (t6.append [.aH (al 11 (au (.ad true) (al 4 (b0 2 (au (.ad false) (au (.ad false) [])))))),.ad false,(R 2),.bf [0] [.box [.id,.id]] (bH [1,5,45,46,47])]) (kM.aB (.d5 fm fm eo fm eo eg)))))))
  (fun eU =>
  (have kM:=oL.aB (.bA eU eU eU eU eU eU eg eg (.e1 eg));
  .ite (fun eo =>
  (let t9:List b5:=t6.append [.aH (al 6 (b0 5 (au (.ad false) (bJ 6 (.ad true) 1))))];
  .ite (fun fm =>
  .ret (bN (t9.append [.ad true,(R 1),.bf [] [] (bH [2])]) (kM.aB (.ez eo eo eg eo fm))))
  (fun fm =>
  .ret (bN (t9.append [.ad false,(R 2),.bf [0] [.box [.id,.id]] (bH [1,5,45,46,47])]) (kM.aB (.ez eo eo eg eo fm))))))
  (fun eo =>
  .ret (bN (t6.append [.aH (al 6 (b0 5 (au (.ad false) (al 4 (b0 2 (au (.ad false) (al 1 []))))))),.ad false,(R 2),.bf [0] [.box [.id,.id]] (bH [1,5,45,46,47])]) (kM.aB (.ez eo eo eg eo eg))))))))
  (fun ff =>
  .ret (bN (t4.append [.ad true,(R 1),.bf [] [] (bH [2])]) (i9.aB (.e1 (bW ff)))))))
  (fun cB =>
  .ret (bN (t1.append [.aH (al 3 (au (b3 3 (.b aQ) true) (al 5 (au (b3 3 (.b aG) true) (al 1 (au (.ad false) (al 1 (b0 4 (au (.ad true) []))))))))),.ad true,(R 1),.bf [] [] (bH [2])]) (dR.aB (.d5 (bW cB) (bW cB) (bW cB) (bW cB) (bW cB) aW))))))
  (fun bj =>
  .ret (bN (t1.append [.aH (al 3 (au (b3 3 (.b aQ) true) (al 2 (b0 5 (au (.ad true) (al 1 (b0 4 (al 1 [])))))))),.ad true,(R 1),.bf [] [] (bH [2])]) (aY.aB (.bA (bW bj) (bW bj) (bW bj) (bW bj) (bW bj) (bW bj) aW aW (.br aW aW aW)))))))
  (fun h1 =>
  .ret (bN [(R 1),.ad false,.bf [] [] []] (.e1 h1)))
theorem CJ {kS:Int}{kt:List aX}{eH:Int}{b2:List aM}{ev:Int}{r} (h:zC kS kt eH b2 ev=some r):eE bo 102 0 38 [1,1,1,1,0,1,0,0] (yO kS kt eH b2) (CF kS kt eH b2) ev r:=eF (fun _=>HL) h
def lc (ao:bl):Option Bool :=
 if (decide ((6:Int)<(len_ aP ao.bb)))=true then
  some false
 else
  if (decide ((8:Int)<(len_ aU ao.aR)))=true then
   some false
  else
   ps ao.bb (len_ aP ao.bb) ao.aR 0 >>= fun bz =>
   match bz with
   | .inl jS=>(zC (ai ((len_ aP ao.bb)-(1:Int))) ao.aR (len_ aU ao.aR) ao.bb 0 >>= fun dN =>
    match dN with
    | .inl qE=>(some true)
    | .inr qE=>(some false))
   | .inr jS=>(some false)
theorem vX {ao:bl}:bG (lc ao) (fun r=>Con bo 38 [.agg (ed ao)] [] (.b r) []):=by
 unfold lc
 exact .ite (fun h1 =>
  .ret (ba [(R 2),.aH (al 5 (b0 4 (au (.ad true) []))),.ad true,(R 1)] (.d5 h1 h1 h1 h1 h1 aW)))
  (fun h1 =>
  (let t1:List b5:=[(R 2),.aH (al 9 (au (.ad false) []))];
  .ite (fun h2 =>
  .ret (ba (t1.append [.ad true,(R 1)]) (.d5 h1 h1 h1 h1 h1 h2)))
  (fun h2 =>
  .aN fun bz ax =>
  (let t2:List b5:=t1.append [.ad false,(R 4),.bf [0] [.box [.id,.id]] (bH [1,21,22,23])];
  (by
  rcases bz with jS|jS
  ·exact (.aN fun dN bj =>
  (let t3:List b5:=t2.append [(yX ao.bb (len_ aP ao.bb) ao.aR (.inl jS)).g9,(R 5),(R 4),.bf [0] [.box [.id,.id]] (bH [1,5,45,46,47])];
  have eV:=((.gV h1 h1 h1 h1 h1 h2 (CI ax)):cD _);
  (by
  rcases dN with qE|qE
  ·exact (.ret (ba (t3.append [.sub (.exit 2) [] [],(R 1)]) (eV.aB (.e1 (CJ bj)))))
  ·exact (.ret (ba (t3.append [.sub (.ret) [(2,.b false)] []]) (eV.aB (.e1 (CJ bj))))))))
  ·exact (.ret (ba (t2.append [.sub (.ret) [(2,.b false)] []]) (.gV h1 h1 h1 h1 h1 h2 (CI ax)))))))))
def zD (kW:List Int)(lj:Int):Int→S:=fun eu=>dW [(19,.isl 1 (kW.map eI)),(20,.n .i64 lj),(21,.n .i64 eu)] []
def C4 (kW:List Int)(lj:Int):((Unit)⊕(Unit))→dY
 | .inl a=>⟨some 0,[],[]⟩
 | .inr a=>⟨none,[(4,.b false)],[]⟩
def rj (kW:List Int)(lj eu:Int):Option ((Int)⊕((Unit)⊕(Unit))) :=
 if (decide (eu<lj))=true then
  if 0≤eu∧eu<kW.length then
  kW[eu.toNat]? >>= fun aK =>
  lE aK (-100) 100 >>= fun aQ =>
  if aQ=true then
   some (.inl (ai (eu+(1:Int))))
  else
   some (.inr (.inr ()))
  else none
 else
  some (.inr (.inl ()))
def Aa (kW:List Int)(lj eu:Int):Option ((Unit)⊕(Unit)):=iter (fun w:Int=>rj kW lj w) eu
theorem Im {kW:List Int}{lj eu:Int}:bG (rj kW lj eu) (eD bo 29 0 22 [1,1,0,1,0,0] (zD kW lj eu) (zD kW lj) (C4 kW lj)):=by
 unfold rj
 exact .ite (fun h1 =>
  .bC fun h2 =>
  .aN fun aK ax =>
  .aN fun aQ a4 =>
  (let t1:List b5:=[(R 1),.ad true,.aH (bJ 1 (.cO (eI aK)) 1),.aH (bJ 1 (b3 3 (.b aQ) true) 1)];
  have aY:=((.d5 h1 h2.1 (dL eI h2.2) (dr eI ax) (n6 aQ a4) (aZ.b aQ)):cD _);
  .ite (fun bj =>
  .ret (bN (t1.append [.ad false,(R 2),.bf [] [] (bH [19,20,21])]) (aY.aB (.e1 (bX bj)))))
  (fun bj =>
  .ret (bN (t1.append [.ad true,(R 1),.bf [] [] (bH [4])]) (aY.aB (.e1 (bW bj)))))))
  (fun h1 =>
  .ret (bN [(R 1),.ad false,.bf [] [] []] (.e1 h1)))
theorem Dc {kW:List Int}{lj eu:Int}{r} (h:Aa kW lj eu=some r):eE bo 29 0 22 [1,1,0,1,0,0] (zD kW lj) (C4 kW lj) eu r:=eF (fun _=>Im) h
def pF (ao:bl)(b6:List Int):Option Bool :=
 lc ao >>= fun r1 =>
 if r1=true then
  if ((len_ eI b6) != (ai ((2:Int)*(len_ aP ao.bb))))=true then
   some false
  else
   Aa b6 (len_ eI b6) 0 >>= fun aQ =>
   match aQ with
   | .inl iE=>(some true)
   | .inr iE=>(some false)
 else
  some false
theorem JO {ao:bl}{b6:List Int}:bG (pF ao b6) (fun r=>Con bo 22 [.agg (ed ao),.isl 1 (b6.map eI)] [] (.b r) []):=by
 unfold pF
 exact .aN fun r1 h2 =>
  (have bt:=((.e2 (vX r1 h2) (aZ.b r1)):cD _);
  .ite (fun af =>
  (let t2:List b5:=[(R 2),.aH (al 1 (au (b3 1 (.b r1) true) (al 9 (au (.ad false) []))))];
  have dR:=bt.aB (.hR (bX af) (bX af) (bX af) (bX af) (bX af) (bX af) (bX af) (bX af));
  .ite (fun ax =>
  .ret (ba (t2.append [.ad true,(R 1)]) (dR.aB (.e1 ax))))
  (fun ax =>
  .aN fun aQ a4 =>
  (let t4:List b5:=t2.append [.ad false,(R 3),.bf [] [] (bH [19,20,21])];
  (by
  rcases aQ with iE|iE
  ·exact (.ret (ba (t4.append [.sub (.exit 0) [] [],(R 1)]) (dR.aB (.e2 ax (Dc a4)))))
  ·exact (.ret (ba (t4.append [.sub (.ret) [(4,.b false)] []]) (dR.aB (.e2 ax (Dc a4))))))))))
  (fun af =>
  .ret (ba [(R 2),.aH (al 1 (au (b3 1 (.b r1) true) (al 2 (b0 7 (au (.ad true) []))))),.ad true,(R 1)] (bt.aB (.bA (bW af) (bW af) (bW af) (bW af) (bW af) (bW af) (bW af) (bW af) (.e1 aW))))))
def oO (ao:bl)(aJ:Int):Option (Int×Int) :=
 if 0≤aJ∧aJ<ao.aR.length then
 ao.aR[aJ.toNat]? >>= fun x2 =>
 if 0≤x2.bi∧x2.bi<ao.bb.length then
 ao.bb[x2.bi.toNat]? >>= fun cm =>
 if 0≤x2.bc∧x2.bc<ao.bb.length then
 ao.bb[x2.bc.toNat]? >>= fun jk =>
 some (ai (jk.dI-cm.dI),ai (jk.dF-cm.dF))
 else none
 else none
 else none
theorem Dd {ao:bl}{aJ:Int}:bG (oO ao aJ) (fun r=>Con bo 77 [.agg (ed ao),.n .i64 aJ] [] (.dm [.n .i64 r.1,.n .i64 r.2]) []):=by
 unfold oO
 exact .bC fun h1 =>
  .aN fun x2 af =>
  .bC fun ax =>
  .aN fun cm a4 =>
  .bC fun bj =>
  .aN fun jk dt =>
  .ret (ba [(R 3),.aH (al 7 (au (.cO (aU x2)) (bJ 1 (.cO (aP cm)) 2))),.aH (al 7 (au (.cO (aU x2)) (bJ 1 (.cO (aP jk)) 2))),(R 12)] (.bA h1.1 (dL aU h1.2) (dr aU af) ax.1 (dL aP ax.2) (dr aP a4) h1.1 (dL aU h1.2) (.cS (dr aU af) bj.1 (dL aP bj.2) (dr aP dt))))
def wh (ao:bl)(aJ:Int):Option (Int×Int) :=
 lc ao >>= fun r1 =>
 if r1=true then
  lE aJ 0 (ai ((len_ aU ao.aR)-(1:Int))) >>= fun cK =>
  if cK=true then
   oO ao aJ >>= fun ch =>
   some (ch.1,ch.2)
  else
   some (0,0)
 else
  some (0,0)
theorem Jf {ao:bl}{aJ:Int}:bG (wh ao aJ) (fun r=>Con bo 86 [.agg (ed ao),.n .i64 aJ] [] (.dm [.n .i64 r.1,.n .i64 r.2]) []):=by
 unfold wh
 exact .aN fun r1 h2 =>
  (have bt:=((.e2 (vX r1 h2) (aZ.b r1)):cD _);
  .ite (fun af =>
  .aN fun cK a8 =>
  (let t2:List b5:=[(R 3),.aH (al 1 (au (b3 1 (.b r1) true) (al 7 (au (b3 3 (.b cK) true) (al 1 (au (.ad false) []))))))];
  have dR:=bt.aB (.bA (bX af) (bX af) (bX af) (bX af) (bX af) (bX af) (n6 cK a8) (aZ.b cK) (.e2 (bX af) (bX af)));
  .ite (fun a4 =>
  .aN fun ch cI =>
  .ret (ba (t2.append [.ad false,.aH (bJ 2 (b3 2 (.dm [.n .i64 ch.1,.n .i64 ch.2]) true) 4)]) (dR.aB (.br (bX a4) (Dd ch cI) (us (et (aZ.n .i64 ch.1) (et (aZ.n .i64 ch.2) ko)))))))
  (fun a4 =>
  .ret (ba (t2.append [.ad true,(R 2)]) (dR.aB (.e1 (bW a4)))))))
  (fun af =>
  .ret (ba [(R 3),.aH (al 1 (au (b3 1 (.b r1) true) (al 2 (b0 7 (au (.ad true) []))))),.ad true,(R 2)] (bt.aB (.bA (bW af) (bW af) (bW af) (bW af) (bW af) (bW af) (bW af) (bW af) (.e1 aW))))))
def wi (ao:bl)(aJ:Int):Option Int :=
 wh ao aJ >>= fun r1 =>
 some (ai ((ai (r1.1*r1.1))+(ai (r1.2*r1.2))))
theorem Jg {ao:bl}{aJ:Int}:bG (wi ao aJ) (fun r=>Con bo 79 [.agg (ed ao),.n .i64 aJ] [] (.n .i64 r) []):=by
 unfold wi
 exact .aN fun r1 h2 =>
  .ret (ba [(R 2),.aH (bJ 2 (b3 2 (.dm [.n .i64 r1.1,.n .i64 r1.2]) true) 5),(R 8)] (.e2 (Jf r1 h2) (us (et (aZ.n .i64 r1.1) (et (aZ.n .i64 r1.2) ko)))))
def zr (b4:Int):Int→S:=fun aJ=>dW [(0,.n .i64 b4),(3,.n .i64 aJ)] []
def CW (b4:Int):((Unit)⊕(Int))→dY
 | .inl a=>⟨some 0,[],[]⟩
 | .inr a=>⟨none,[(2,.n .i64 a)],[]⟩
def s7 (b4 aJ:Int):Option ((Int)⊕((Unit)⊕(Int))) :=
 if (decide ((ai (aJ*aJ))≤b4))=true then
  if ((ai (aJ*aJ)) == b4)=true then
   some (.inr (.inr aJ))
  else
   some (.inl (ai (aJ+(1:Int))))
 else
  some (.inr (.inl ()))
def z5 (b4 aJ:Int):Option ((Unit)⊕(Int)):=iter (fun w:Int=>s7 b4 w) aJ
theorem Ic {b4 aJ:Int}:bG (s7 b4 aJ) (eD bo 17 0 78 [1,0,1,0,0] (zr b4 aJ) (zr b4) (CW b4)):=by
 unfold s7
 exact .ite (fun h1 =>
  (let t1:List b5:=[(R 5),.ad true,(R 5)];
  .ite (fun h2 =>
  .ret (bN (t1.append [.ad true,(R 2),.bf [] [] (bH [2])]) (.e2 h1 h2)))
  (fun h2 =>
  .ret (bN (t1.append [.ad false,(R 3),.bf [] [] (bH [0,3])]) (.e2 h1 h2)))))
  (fun h1 =>
  .ret (bN [(R 5),.ad false,.bf [] [] []] (.e1 h1)))
theorem C5 {b4 aJ:Int}{r} (h:z5 b4 aJ=some r):eE bo 17 0 78 [1,0,1,0,0] (zr b4) (CW b4) aJ r:=eF (fun _=>Ic) h
def wu (b4:Int):Option Int :=
 z5 b4 1 >>= fun r1 =>
 match r1 with
 | .inl dq=>(some 0)
 | .inr dq=>(some dq)
theorem JA {b4:Int}:bG (wu b4) (fun r=>Con bo 78 [.n .i64 b4] [] (.n .i64 r) []):=by
 unfold wu
 exact .aN fun r1 h2 =>
  (let t1:List b5:=[(R 1),(R 1),.bf [] [] (bH [0,3])];
  (by
  rcases r1 with dq|dq
  ·exact (.ret (ba (t1.append [.sub (.exit 0) [] [],(R 1)]) (.e1 (C5 h2))))
  ·exact (.ret (ba (t1.append [.sub (.ret) [(2,.n .i64 dq)] []]) (.e1 (C5 h2))))))
def ki (ao:bl)(aJ:Int):Option Int :=
 wi ao aJ >>= fun r1 =>
 wu r1 >>= fun bz =>
 some bz
theorem zV {ao:bl}{aJ:Int}:bG (ki ao aJ) (fun r=>Con bo 62 [.agg (ed ao),.n .i64 aJ] [] (.n .i64 r) []):=by
 unfold ki
 exact .aN fun r1 h2 =>
  .aN fun bz ax =>
  .ret (ba [(R 2),.aH (al 2 (au (b3 2 (.n .i64 r1) true) (au (b3 1 (.n .i64 bz) true) (al 1 []))))] (.cS (Jg r1 h2) (aZ.n .i64 r1) (JA bz ax) (aZ.n .i64 bz)))
def pA (ao:bl)(aJ xh:Int):Option Bool :=
 lE aJ 0 (ai ((len_ aU ao.aR)-(1:Int))) >>= fun r1 =>
 if r1=true then
  if 0≤aJ∧aJ<ao.aR.length then
  ao.aR[aJ.toNat]? >>= fun cm =>
  if (cm.ee != (1:Int))=true then
   some false
  else
   ki ao aJ >>= fun aG =>
   if (decide ((0:Int)<aG))=true then
    some (decide ((ai (aG*xh))≤(100:Int)))
   else
    some false
  else none
 else
  some false
theorem Dj {ao:bl}{aJ xh:Int}:bG (pA ao aJ xh) (fun r=>Con bo 57 [.agg (ed ao),.n .i64 aJ,.n .i64 xh] [] (.b r) []):=by
 unfold pA
 exact .aN fun r1 h2 =>
  (have bt:=((.e2 (n6 r1 h2) (aZ.b r1)):cD _);
  .ite (fun af =>
  .bC fun ax =>
  .aN fun cm a4 =>
  (let t2:List b5:=[(R 2),.aH (al 5 (au (b3 3 (.b r1) true) (al 7 (au (.cO (aU cm)) (al 1 (au (.ad false) []))))))];
  have dR:=bt.aB (.bA (bX af) (bX af) (bX af) (bX af) ax.1 (dL aU ax.2) (bX af) (bX af) (.br (dr aU a4) (bX af) (bX af)));
  .ite (fun bj =>
  .ret (ba (t2.append [.ad true,(R 1)]) (dR.aB (.e1 bj))))
  (fun bj =>
  .aN fun aG dt =>
  (let t4:List b5:=t2.append [.ad false,.aH (bJ 2 (b3 2 (.n .i64 aG) true) 1)];
  have i9:=dR.aB (.br bj (zV aG dt) (aZ.n .i64 aG));
  .ite (fun cB =>
  .ret (ba (t4.append [.aH (bJ 7 (.ad true) 1)]) (i9.aB (.ez cB cB cB cB cB))))
  (fun cB =>
  .ret (ba (t4.append [.aH (al 3 (b0 4 (au (.ad false) (al 1 []))))]) (i9.aB (.ez cB cB cB cB cB))))))))
  (fun af =>
  .ret (ba [(R 2),.aH (al 5 (au (b3 3 (.b r1) true) (al 2 (b0 7 (au (.ad true) []))))),.ad true,(R 1)] (bt.aB (.bA (bW af) (bW af) (bW af) (bW af) (bW af) (bW af) (bW af) (bW af) (.e1 aW))))))
def mV (ao:bl)(bx:bh):Option Bool :=
 lc ao >>= fun r1 =>
 if r1=true then
  if (bx.bi == bx.bc)=true then
   some false
  else
   if (decide (bx.de<(1:Int)))=true then
    some false
   else
    if (decide (bx.cz<bx.de))=true then
     some false
    else
     if (decide ((100:Int)<bx.cz))=true then
      some false
     else
      pA ao bx.bi bx.cz >>= fun aG =>
      if aG=true then
       pA ao bx.bc bx.cz >>= fun nm =>
       if nm=true then
        if 0≤bx.bi∧bx.bi<ao.aR.length then
        ao.aR[bx.bi.toNat]? >>= fun j8 =>
        if 0≤bx.bc∧bx.bc<ao.aR.length then
        ao.aR[bx.bc.toNat]? >>= fun j9 =>
        if (j8.bi == j9.bi)=true then
         some true
        else
         if (j8.bi == j9.bc)=true then
          some true
         else
          if (j8.bc == j9.bi)=true then
           some true
          else
           some (j8.bc == j9.bc)
        else none
        else none
       else
        some false
      else
       some false
 else
  some false
theorem JB {ao:bl}{bx:bh}:bG (mV ao bx) (fun r=>Con bo 40 [.agg (ed ao),.agg (eTBlock bx)] [] (.b r) []):=by
 unfold mV
 exact .aN fun r1 h2 =>
  (have bt:=((.e2 (vX r1 h2) (aZ.b r1)):cD _);
  .ite (fun af =>
  (have aY:=bt.aB (.d5 (bX af) (bX af) (bX af) (bX af) (bX af) (bX af));
  .ite (fun ax =>
  .ret (ba [(R 3),.aH (al 1 (au (b3 1 (.b r1) true) (al 7 (au (.ad false) (al 1 (b0 3 (au (.ad true) (al 1 (b0 5 (al 2 (b0 3 (al 2 (b0 7 (al 2 (b0 7 (al 1 [])))))))))))))))),.ad true,(R 1)] (aY.aB (.bA ax ax ax ax aW aW aW aW (.bA aW aW aW aW aW aW aW aW (.bA aW aW aW aW aW aW aW aW (.br aW aW aW)))))))
  (fun ax =>
  .ite (fun a8 =>
  .ret (ba [(R 3),.aH (al 1 (au (b3 1 (.b r1) true) (al 7 (au (.ad false) (al 4 (au (.ad false) (al 1 (b0 5 (au (.ad true) (al 1 (b0 3 (al 2 (b0 7 (al 2 (b0 7 (al 1 [])))))))))))))))),.ad true,(R 1)] (aY.aB (.bA ax ax ax ax a8 a8 a8 a8 (.bA a8 a8 aW aW aW aW aW aW (.bA aW aW aW aW aW aW aW aW (.cS aW aW aW aW)))))))
  (fun a8 =>
  (have dR:=aY.aB (.bA ax ax ax ax a8 a8 a8 a8 (.e2 a8 a8));
  .ite (fun a4 =>
  .ret (ba [(R 3),.aH (al 1 (au (b3 1 (.b r1) true) (al 7 (au (.ad false) (al 4 (au (.ad false) (al 6 (au (.ad false) (al 1 (b0 3 (au (.ad true) (al 1 (b0 7 (al 2 (b0 7 (al 1 [])))))))))))))))),.ad true,(R 1)] (dR.aB (.bA a4 a4 a4 a4 aW aW aW aW (.bA aW aW aW aW aW aW aW aW (.br aW aW aW))))))
  (fun a4 =>
  .ite (fun bj =>
  .ret (ba [(R 3),.aH (al 1 (au (b3 1 (.b r1) true) (al 7 (au (.ad false) (al 4 (au (.ad false) (al 6 (au (.ad false) (al 4 (au (.ad false) (al 1 (b0 7 (au (.ad true) (al 1 (b0 7 (al 1 [])))))))))))))))),.ad true,(R 1)] (dR.aB (.bA a4 a4 a4 a4 bj bj bj bj (.bA bj bj bj bj aW aW aW aW (.cS aW aW aW aW))))))
  (fun bj =>
  .aN fun aG dt =>
  (have eV:=dR.aB (.bA a4 a4 a4 a4 bj bj bj bj (.d5 bj bj (Dj aG dt) (aZ.b aG) bj bj));
  .ite (fun cB =>
  .aN fun nm i6 =>
  (let t5:List b5:=[(R 3),.aH (al 1 (au (b3 1 (.b r1) true) (al 7 (au (.ad false) (al 4 (au (.ad false) (al 6 (au (.ad false) (al 4 (au (.ad false) (al 6 (au (b3 3 (.b aG) true) (al 1 (au (.ad false) (al 6 (au (b3 3 (.b nm) true) (al 1 (au (.ad false) []))))))))))))))))))];
  have kL:=eV.aB (.bA (bX cB) (bX cB) (bX cB) (bX cB) (bX cB) (bX cB) (Dj nm i6) (aZ.b nm) (.e2 (bX cB) (bX cB)));
  .ite (fun ff =>
  .bC fun gg =>
  .aN fun j8 vn =>
  .bC fun mj =>
  .aN fun j9 vo =>
  (let t7:List b5:=t5.append [.ad false,.aH (bJ 5 (.cO (aU j8)) 2),.aH (bJ 5 (.cO (aU j9)) 2)];
  have kM:=kL.aB (.gV (bX ff) gg.1 (dL aU gg.2) (dr aU vn) mj.1 (dL aU mj.2) (dr aU vo));
  .ite (fun eU =>
  .ret (ba (t7.append [.aH (al 6 (b0 5 (au (.ad true) (al 1 (b0 5 (al 2 (b0 5 (al 2 []))))))))]) (kM.aB (.bA eU eU eU eU eU eU aW aW (.hR aW aW aW aW aW aW aW aW)))))
  (fun eU =>
  .ite (fun eo =>
  .ret (ba (t7.append [.aH (al 11 (au (.ad false) (al 1 (b0 5 (au (.ad true) (al 1 (b0 5 (al 2 []))))))))]) (kM.aB (.bA eU eU eU eU eU eU eo eo (.bA eo eo eo eo aW aW aW aW (.e1 aW))))))
  (fun eo =>
  (have vG:=kM.aB (.bA eU eU eU eU eU eU eo eo (.cS eo eo eo eo));
  .ite (fun fm =>
  .ret (ba (t7.append [.aH (al 11 (au (.ad false) (al 6 (au (.ad false) (al 1 (b0 5 (au (.ad true) (al 1 []))))))))]) (vG.aB (.d5 fm fm fm fm fm fm))))
  (fun fm =>
  .ret (ba (t7.append [.aH (al 11 (au (.ad false) (al 6 (au (.ad false) (bJ 6 (.ad false) 1)))))]) (vG.aB (.d5 fm fm fm fm fm fm)))))))))
  (fun ff =>
  .ret (ba (t5.append [.ad true,(R 1)]) (kL.aB (.e1 (bW ff)))))))
  (fun cB =>
  .ret (ba [(R 3),.aH (al 1 (au (b3 1 (.b r1) true) (al 7 (au (.ad false) (al 4 (au (.ad false) (al 6 (au (.ad false) (al 4 (au (.ad false) (al 6 (au (b3 3 (.b aG) true) (al 1 (au (.ad false) (al 1 (b0 7 (au (.ad true) []))))))))))))))))),.ad true,(R 1)] (eV.aB (.bA (bW cB) (bW cB) (bW cB) (bW cB) (bW cB) (bW cB) (bW cB) (bW cB) (.e1 aW)))))))))))))
  (fun af =>
  .ret (ba [(R 3),.aH (al 1 (au (b3 1 (.b r1) true) (al 2 (b0 5 (au (.ad true) (al 1 (b0 3 (al 2 (b0 5 (al 2 (b0 3 (al 2 (b0 7 (al 2 (b0 7 (al 1 [])))))))))))))))),.ad true,(R 1)] (bt.aB (.bA (bW af) (bW af) (bW af) (bW af) (bW af) (bW af) aW aW (.bA aW aW aW aW aW aW aW aW (.bA aW aW aW aW aW aW aW aW (.hR aW aW aW aW aW aW aW aW))))))))
def zg (cF:List bh)(cY:Int)(b2:List aM)(b1:List aX):Int→S:=fun eR=>dW [(2,.ref 0 0 0 0),(15,.isl 4 (cF.map eTBlock)),(16,.n .i64 cY),(17,.n .i64 eR)] [[ae.mk 2 [[.isl 4 (b2.map aP),.isl 3 (b1.map aU)]] .live]]
def CN (cF:List bh)(cY:Int)(b2:List aM)(b1:List aX):((Unit)⊕(Unit))→dY
 | .inl a=>⟨some 0,[],[]⟩
 | .inr a=>⟨none,[(4,.b false)],[]⟩
def q7 (cF:List bh)(cY:Int)(b2:List aM)(b1:List aX)(eR:Int):Option ((Int)⊕((Unit)⊕(Unit))) :=
 if (decide (eR<cY))=true then
  if 0≤eR∧eR<cF.length then
  cF[eR.toNat]? >>= fun aK =>
  mV (⟨b2,b1⟩:bl) aK >>= fun aQ =>
  if aQ=true then
   some (.inl (ai (eR+(1:Int))))
  else
   some (.inr (.inr ()))
  else none
 else
  some (.inr (.inl ()))
def zW (cF:List bh)(cY:Int)(b2:List aM)(b1:List aX)(eR:Int):Option ((Unit)⊕(Unit)):=iter (fun w:Int=>q7 cF cY b2 b1 w) eR
theorem H3 {cF:List bh}{cY:Int}{b2:List aM}{b1:List aX}{eR:Int}:bG (q7 cF cY b2 b1 eR) (eD bo 26 0 23 [1,1,0,1,0,0] (zg cF cY b2 b1 eR) (zg cF cY b2 b1) (CN cF cY b2 b1)):=by
 unfold q7
 exact .ite (fun h1 =>
  .bC fun h2 =>
  .aN fun aK ax =>
  .aN fun aQ a4 =>
  (let t1:List b5:=[(R 1),.ad true,.aH (bJ 1 (.cO (eTBlock aK)) 2),.aH (bJ 2 (b3 2 (.b aQ) true) 1)];
  have aY:=((.d5 h1 h2.1 (dL eTBlock h2.2) (dr eTBlock ax) (JB aQ a4) (aZ.b aQ)):cD _);
  .ite (fun bj =>
  .ret (bN (t1.append [.ad false,(R 2),.bf [0] [.box [.id,.id]] (bH [2,15,16,17])]) (aY.aB (.e1 (bX bj)))))
  (fun bj =>
  .ret (bN (t1.append [.ad true,(R 1),.bf [] [] (bH [4])]) (aY.aB (.e1 (bW bj)))))))
  (fun h1 =>
  .ret (bN [(R 1),.ad false,.bf [] [] []] (.e1 h1)))
theorem CX {cF:List bh}{cY:Int}{b2:List aM}{b1:List aX}{eR:Int}{r} (h:zW cF cY b2 b1 eR=some r):eE bo 26 0 23 [1,1,0,1,0,0] (zg cF cY b2 b1) (CN cF cY b2 b1) eR r:=eF (fun _=>H3) h
def rC (ao:bl)(cP:List bh):Option Bool :=
 lc ao >>= fun r1 =>
 if r1=true then
  if (decide ((3:Int)<(len_ eTBlock cP)))=true then
   some false
  else
   zW cP (len_ eTBlock cP) ao.bb ao.aR 0 >>= fun aQ =>
   match aQ with
   | .inl iE=>(some true)
   | .inr iE=>(some false)
 else
  some false
theorem Jh {ao:bl}{cP:List bh}:bG (rC ao cP) (fun r=>Con bo 23 [.agg (ed ao),.isl 4 (cP.map eTBlock)] [] (.b r) []):=by
 unfold rC
 exact .aN fun r1 h2 =>
  (have bt:=((.e2 (vX r1 h2) (aZ.b r1)):cD _);
  .ite (fun af =>
  (let t2:List b5:=[(R 2),.aH (al 1 (au (b3 1 (.b r1) true) (al 5 (au (.ad false) []))))];
  have dR:=bt.aB (.cS (bX af) (bX af) (bX af) (bX af));
  .ite (fun ax =>
  .ret (ba (t2.append [.ad true,(R 1)]) (dR.aB (.e1 ax))))
  (fun ax =>
  .aN fun aQ a4 =>
  (let t4:List b5:=t2.append [.ad false,(R 3),.bf [0] [.box [.id,.id]] (bH [2,15,16,17])];
  (by
  rcases aQ with iE|iE
  ·exact (.ret (ba (t4.append [.sub (.exit 0) [] [],(R 1)]) (dR.aB (.e2 ax (CX a4)))))
  ·exact (.ret (ba (t4.append [.sub (.ret) [(4,.b false)] []]) (dR.aB (.e2 ax (CX a4))))))))))
  (fun af =>
  .ret (ba [(R 2),.aH (al 1 (au (b3 1 (.b r1) true) (al 2 (b0 3 (au (.ad true) []))))),.ad true,(R 1)] (bt.aB (.ez (bW af) (bW af) (bW af) (bW af) aW)))))
def yY (cJ:List aX)(gQ:Int):(Int×(List Int)×(List Int))→S:=fun (dd,aw,b9)=>dW [(4,.a1 0 0 0 aw.length),(5,.a1 1 0 0 b9.length),(11,.isl 3 (cJ.map aU)),(12,.n .i64 gQ),(13,.n .i64 dd)] [(a9 1 eI aw),(a9 1 eI b9)]
def y7 (cJ:List aX)(gQ:Int):((List Int)×(List Int))→dY
 | a=>⟨some 0,[(4,.a1 0 0 0 a.1.length),(5,.a1 1 0 0 a.2.length)],[(a9 1 eI a.1),(a9 1 eI a.2)]⟩
def qV (cJ:List aX)(gQ dd:Int)(aw b9:List Int):Option ((Int×(List Int)×(List Int))⊕((List Int)×(List Int))) :=
 if (decide (dd<gQ))=true then
  if 0≤dd∧dd<cJ.length then
  cJ[dd.toNat]? >>= fun aK =>
  if (aK.ee != (2:Int))=true then
   if (aw++([dd]:List Int)).length*8≤140737488355328 then
   if (b9++([1]:List Int)).length*8≤140737488355328 then
   if (aK.ee != (1:Int))=true then
    if ((aw++([dd]:List Int))++([dd]:List Int)).length*8≤140737488355328 then
    if ((b9++([1]:List Int))++([(-1)]:List Int)).length*8≤140737488355328 then
    some (.inl (ai (dd+(1:Int)),(aw++([dd]:List Int))++([dd]:List Int),(b9++([1]:List Int))++([(-1)]:List Int)))
    else none
    else none
   else
    some (.inl (ai (dd+(1:Int)),aw++([dd]:List Int),b9++([1]:List Int)))
   else none
   else none
  else
   if (aK.ee != (1:Int))=true then
    if (aw++([dd]:List Int)).length*8≤140737488355328 then
    if (b9++([(-1)]:List Int)).length*8≤140737488355328 then
    some (.inl (ai (dd+(1:Int)),aw++([dd]:List Int),b9++([(-1)]:List Int)))
    else none
    else none
   else
    some (.inl (ai (dd+(1:Int)),aw,b9))
  else none
 else
  some (.inr (aw,b9))
def zN (cJ:List aX)(gQ dd:Int)(aw b9:List Int):Option ((List Int)×(List Int)):=iter (fun w:Int×(List Int)×(List Int)=>qV cJ gQ w.1 w.2.1 w.2.2) (dd,aw,b9)
theorem HS {cJ:List aX}{gQ dd:Int}{aw b9:List Int}:bG (qV cJ gQ dd aw b9) (eD bo 41 0 58 [1,1,1,0,1,0,0] (yY cJ gQ (dd,aw,b9)) (yY cJ gQ) (y7 cJ gQ)):=by
 unfold qV
 exact .ite (fun h1 =>
  .bC fun h2 =>
  .aN fun aK ax =>
  (let t1:List b5:=[(R 1),.ad true,.aH (bJ 2 (.cO (aU aK)) 3),(R 3)];
  have aY:=((.cS h1 h2.1 (dL aU h2.2) (dr aU ax)):cD _);
  .ite (fun a8 =>
  .bC fun a4 =>
  .bC fun bj =>
  (let t3:List b5:=t1.append [.ad true,.aH (bJ 3 (.aB ((aw++([dd]:List Int)).length)) 1),.aH (bJ 2 (.aB ((b9++([1]:List Int)).length)) 1),(R 3)];
  have eV:=aY.aB (.bA a8 (kh eI dd) (jl eI aw) (jn eI aw dd) a4 (kh eI 1) (jl eI b9) (jn eI b9 1) (.e1 bj));
  .ite (fun cI =>
  .bC fun dt =>
  .bC fun cB =>
  .ret (let q1:=(aw++([dd]:List Int));let q2:=(b9++([1]:List Int));let cg:=(q2++([(-1)]:List Int));let dM:=(q1++([dd]:List Int));bN (t3.append [.ad true,.aH (bJ 3 (.aB (dM.length)) 1),.aH (bJ 2 (.aB (cg.length)) 1),(R 2),.bf [27,31] [.di (a9 1 eI dM),.di (a9 1 eI cg)] (bH [4,5,11,12,13])]) (eV.aB (.bA cI (kh eI dd) (oU (jB eI aw dd) (dH q1)) (jn eI q1 dd) dt (kh eI (-1)) (oU (jB eI b9 1) (dH q2)) (jn eI q2 (-1)) (.ez cB (dZ 1 .live (kl (jB eI aw dd) (dH q1) (sP eI dd))) (bE 1 .live bq dM) (dZ 1 .live (kl (jB eI b9 1) (dH q2) (sP eI (-1)))) (bE 1 .live bq cg))))))
  (fun cI =>
  .ret (let d9:=(aw++([dd]:List Int));let iT:=(b9++([1]:List Int));bN (t3.append [.ad false,(R 2),.bf [15,19] [.di (a9 1 eI d9),.di (a9 1 eI iT)] (bH [4,5,11,12,13])]) (eV.aB (.ez cI (dZ 1 .live (jB eI aw dd)) (bE 1 .live bq d9) (dZ 1 .live (jB eI b9 1)) (bE 1 .live bq iT)))))))
  (fun a8 =>
  .ite (fun a4 =>
  .bC fun bj =>
  .bC fun cI =>
  .ret (let lP:=(b9++([(-1)]:List Int));let qF:=(aw++([dd]:List Int));bN (t1.append [.ad false,(R 3),.ad true,.aH (bJ 3 (.aB (qF.length)) 1),.aH (bJ 2 (.aB (lP.length)) 1),(R 2),.bf [18,22] [.di (a9 1 eI qF),.di (a9 1 eI lP)] (bH [4,5,11,12,13])]) (aY.aB (.bA a8 a4 (kh eI dd) (jl eI aw) (jn eI aw dd) bj (kh eI (-1)) (jl eI b9) (.d5 (jn eI b9 (-1)) cI (dZ 1 .live (jB eI aw dd)) (bE 1 .live bq qF) (dZ 1 .live (jB eI b9 (-1))) (bE 1 .live bq lP))))))
  (fun a4 =>
  .ret (bN (t1.append [.ad false,(R 3),.ad false,(R 2),.bf [0,1] [.pure,.pure] (bH [4,5,11,12,13])]) (aY.aB (.cS a8 a4 (bE 1 .live bq aw) (bE 1 .live bq b9))))))))
  (fun h1 =>
  .ret (bN [(R 1),.ad false,.bf [0,1] [.pure,.pure] (bH [4,5])] (.br h1 (bE 1 .live bq aw) (bE 1 .live bq b9))))
theorem Iu {cJ:List aX}{gQ dd:Int}{aw b9:List Int}{r} (h:zN cJ gQ dd aw b9=some r):eE bo 41 0 58 [1,1,1,0,1,0,0] (yY cJ gQ) (y7 cJ gQ) (dd,aw,b9) r:=eF (fun _=>HS) h
def rz (ao:bl):Option ((List Int)×(List Int)) :=
 zN ao.aR (len_ aU ao.aR) 0 ([]:List Int) ([]:List Int) >>= fun r1 =>
 some (r1.1,r1.2)
theorem C6 {ao:bl}:bG (rz ao) (fun r=>Con bo 58 [.agg (ed ao)] [] (.dm [.isl 1 (r.1.map eI),.isl 1 (r.2.map eI)]) []):=by
 unfold rz
 exact .aN fun r1 h2 =>
  .ret (let q1:=(dZ 1 .live (show []=(([]:List Int)).map eI from rfl));let q2:=(bE 1 .live bq ([]:List Int));let cg:=(a9 1 eI ([]:List Int));ba [(R 3),(R 2),(R 2),(R 4),.bf [3,5] [.di cg,.di cg] [(4,gT (([]:List Int).length)),(5,gT (([]:List Int).length)),(11,ii),(12,ii),(13,ii)],(y7 ao.aR (len_ aU ao.aR) r1).g9,(R 4)] (.bA q1 q2 q1 q2 (jm Int) (jm Int) (Iu h2) (eh eI r1.1) (.ez (ec eI r1.1) (du bq r1.1) (eh eI r1.2) (ec eI r1.2) (du bq r1.2))) (.comp [.dE (.dC (r1.1.map eI)),.dE (.dC (r1.2.map eI))]))
def zs (c1:List aM)(dP:Int):(Int×(List Int))→S:=fun (cR,aw)=>dW [(3,.a1 0 0 0 aw.length),(8,.isl 4 (c1.map aP)),(9,.n .i64 dP),(10,.n .i64 cR)] [(a9 1 eI aw)]
def zE (c1:List aM)(dP:Int):(List Int)→dY
 | a=>⟨some 0,[(3,.a1 0 0 0 a.length)],[(a9 1 eI a)]⟩
def s8 (c1:List aM)(dP cR:Int)(aw:List Int):Option ((Int×(List Int))⊕((List Int))) :=
 if (decide (cR<dP))=true then
  if 0≤cR∧cR<c1.length then
  c1[cR.toNat]? >>= fun aK =>
  if aK.eB=true then
   some (.inl (ai (cR+(1:Int)),aw))
  else
   if (aw++([cR]:List Int)).length*8≤140737488355328 then
   some (.inl (ai (cR+(1:Int)),aw++([cR]:List Int)))
   else none
  else none
 else
  some (.inr aw)
def z6 (c1:List aM)(dP cR:Int)(aw:List Int):Option ((List Int)):=iter (fun w:Int×(List Int)=>s8 c1 dP w.1 w.2) (cR,aw)
theorem Ie {c1:List aM}{dP cR:Int}{aw:List Int}:bG (s8 c1 dP cR aw) (eD bo 24 0 60 [1,1,0,1,0,0] (zs c1 dP (cR,aw)) (zs c1 dP) (zE c1 dP)):=by
 unfold s8
 exact .ite (fun h1 =>
  .bC fun h2 =>
  .aN fun aK ax =>
  (let t1:List b5:=[(R 1),.ad true,.aH (bJ 2 (.cO (aP aK)) 3),(R 3)];
  have aY:=((.cS h1 h2.1 (dL aP h2.2) (dr aP ax)):cD _);
  .ite (fun a8 =>
  .ret (bN (t1.append [.ad false,(R 2),.bf [0] [.pure] (bH [3,8,9,10])]) (aY.aB (.e2 (bX a8) (bE 1 .live bq aw)))))
  (fun a8 =>
  .bC fun a4 =>
  .ret (let q1:=(aw++([cR]:List Int));bN (t1.append [.ad true,.aH (bJ 3 (.aB (q1.length)) 1),(R 2),.bf [14] [.di (a9 1 eI q1)] (bH [3,8,9,10])]) (aY.aB (.gV (bW a8) (kh eI cR) (jl eI aw) (jn eI aw cR) a4 (dZ 1 .live (jB eI aw cR)) (bE 1 .live bq q1)))))))
  (fun h1 =>
  .ret (bN [(R 1),.ad false,.bf [0] [.pure] (bH [3])] (.e2 h1 (bE 1 .live bq aw))))
theorem IV {c1:List aM}{dP cR:Int}{aw:List Int}{r} (h:z6 c1 dP cR aw=some r):eE bo 24 0 60 [1,1,0,1,0,0] (zs c1 dP) (zE c1 dP) (cR,aw) r:=eF (fun _=>Ie) h
def pB (ao:bl):Option (List Int) :=
 z6 ao.bb (len_ aP ao.bb) 0 ([]:List Int) >>= fun r1 =>
 some r1
theorem z7 {ao:bl}:bG (pB ao) (fun r=>Con bo 60 [.agg (ed ao)] [] (.isl 1 (r.map eI)) []):=by
 unfold pB
 exact .aN fun r1 h2 =>
  .ret (ba [(R 2),(R 2),(R 4),.bf [2] [.di (a9 1 eI ([]:List Int))] [(3,gT (([]:List Int).length)),(8,ii),(9,ii),(10,ii)],(zE ao.bb (len_ aP ao.bb) r1).g9,(R 2)] (.gV (dZ 1 .live (show []=(([]:List Int)).map eI from rfl)) (bE 1 .live bq ([]:List Int)) (jm Int) (IV h2) (eh eI r1) (ec eI r1) (du bq r1)) (.bn (.dE (.dC (r1.map eI)))))
def zt (ah:Int)(dJ:List Int)(cF cY:Int)(dv:List aX)(lk:Int)(b2:List aM)(b9:List Int):(Int×(List Int)×(List Int))→S:=fun (jZ,bd,bU)=>dW [(1,.ref 0 0 0 0),(3,.a1 1 0 0 b9.length),(5,.n .i64 ah),(6,.a1 2 0 0 bd.length),(7,.a1 3 0 0 bU.length),(14,.isl 1 (dJ.map eI)),(15,.n .i64 cF),(16,.n .i64 cY),(23,.isl 3 (dv.map aU)),(24,.n .i64 lk),(25,.n .i64 jZ)] [[ae.mk 2 [[.isl 4 (b2.map aP),.isl 3 (dv.map aU)]] .live],(a9 1 eI b9),(a9 1 eI bd),(a9 1 eI bU)]
def zF (ah:Int)(dJ:List Int)(cF cY:Int)(dv:List aX)(lk:Int)(b2:List aM)(b9:List Int):((List Int)×(List Int))→dY
 | a=>⟨some 2,[(1,.ref 0 0 0 0),(3,.a1 1 0 0 b9.length),(6,.a1 2 0 0 a.1.length),(7,.a1 3 0 0 a.2.length),(14,.isl 1 (dJ.map eI)),(15,.n .i64 cF),(16,.n .i64 cY)],[[ae.mk 2 [[.isl 4 (b2.map aP),.isl 3 (dv.map aU)]] .live],(a9 1 eI b9),(a9 1 eI a.1),(a9 1 eI a.2)]⟩
def rf (ah:Int)(dJ:List Int)(cF cY:Int)(dv:List aX)(lk:Int)(b2:List aM)(b9:List Int)(jZ:Int)(bd bU:List Int):Option ((Int×(List Int)×(List Int))⊕((List Int)×(List Int))) :=
 if (decide (jZ<lk))=true then
  if 0≤jZ∧jZ<dv.length then
  dv[jZ.toNat]? >>= fun aK =>
  oO (⟨b2,dv⟩:bl) jZ >>= fun aQ =>
  if (ah == aK.bi)=true then
   if (bd++([aQ.1]:List Int)).length*8≤140737488355328 then
   if (bU++([aQ.2]:List Int)).length*8≤140737488355328 then
   some (.inl (ai (jZ+(1:Int)),bd++([aQ.1]:List Int),bU++([aQ.2]:List Int)))
   else none
   else none
  else
   if (ah == aK.bc)=true then
    if (bd++([ai (0-aQ.1)]:List Int)).length*8≤140737488355328 then
    if (bU++([ai (0-aQ.2)]:List Int)).length*8≤140737488355328 then
    some (.inl (ai (jZ+(1:Int)),bd++([ai (0-aQ.1)]:List Int),bU++([ai (0-aQ.2)]:List Int)))
    else none
    else none
   else
    if (bd++([0]:List Int)).length*8≤140737488355328 then
    if (bU++([0]:List Int)).length*8≤140737488355328 then
    some (.inl (ai (jZ+(1:Int)),bd++([0]:List Int),bU++([0]:List Int)))
    else none
    else none
  else none
 else
  some (.inr (bd,bU))
def wa (ah:Int)(dJ:List Int)(cF cY:Int)(dv:List aX)(lk:Int)(b2:List aM)(b9:List Int)(jZ:Int)(bd bU:List Int):Option ((List Int)×(List Int)):=iter (fun w:Int×(List Int)×(List Int)=>rf ah dJ cF cY dv lk b2 b9 w.1 w.2.1 w.2.2) (jZ,bd,bU)
theorem Ig {ah:Int}{dJ:List Int}{cF cY:Int}{dv:List aX}{lk:Int}{b2:List aM}{b9:List Int}{jZ:Int}{bd bU:List Int}:bG (rf ah dJ cF cY dv lk b2 b9 jZ bd bU) (eD bo 78 0 59 [1,1,0,1,0,0,1,1,0,0,1,1,1,0,1,0,0] (zt ah dJ cF cY dv lk b2 b9 (jZ,bd,bU)) (zt ah dJ cF cY dv lk b2 b9) (zF ah dJ cF cY dv lk b2 b9)):=by
 unfold rf
 exact .ite (fun h1 =>
  .bC fun h2 =>
  .aN fun aK ax =>
  .aN fun aQ a4 =>
  (let t1:List b5:=[(R 1),.ad true,.aH (bJ 2 (.cO (aU aK)) 3),.aH (bJ 2 (b3 2 (.dm [.n .i64 aQ.1,.n .i64 aQ.2]) true) 5),(R 1),(R 4)];
  have aY:=((.d5 h1 h2.1 (dL aU h2.2) (dr aU ax) (Dd aQ a4) (us (et (aZ.n .i64 aQ.1) (et (aZ.n .i64 aQ.2) ko)))):cD _);
  .ite (fun bj =>
  .bC fun cI =>
  .bC fun dt =>
  .ret (let q1:=(bd++([aQ.1]:List Int));let q2:=(bU++([aQ.2]:List Int));bN (t1.append [.ad true,.aH (bJ 3 (.aB (q1.length)) 1),.aH (bJ 3 (.aB (q2.length)) 1),(R 2),.bf [0,1,27,32] [.box [.id,.id],.pure,.di (a9 1 eI q1),.di (a9 1 eI q2)] (bH [1,3,5,6,7,14,15,16,23,24,25])]) (aY.aB (.bA bj (kh eI aQ.1) (jl eI bd) (jn eI bd aQ.1) cI (kh eI aQ.2) (jl eI bU) (jn eI bU aQ.2) (.d5 dt (bE 1 .live bq b9) (dZ 1 .live (jB eI bd aQ.1)) (bE 1 .live bq q1) (dZ 1 .live (jB eI bU aQ.2)) (bE 1 .live bq q2))))))
  (fun bj =>
  .ite (fun cI =>
  .bC fun dt =>
  .bC fun cB =>
  .ret (let d9:=ai (0-aQ.1);let cg:=(bd++([d9]:List Int));let iT:=ai (0-aQ.2);let dM:=(bU++([iT]:List Int));bN (t1.append [.ad false,(R 4),.ad true,.aH (bJ 4 (.aB (cg.length)) 1),.aH (bJ 4 (.aB (dM.length)) 1),(R 2),.bf [0,1,32,38] [.box [.id,.id],.pure,.di (a9 1 eI cg),.di (a9 1 eI dM)] (bH [1,3,5,6,7,14,15,16,23,24,25])]) (aY.aB (.bA bj cI (kh eI d9) (jl eI bd) (jn eI bd d9) dt (kh eI iT) (jl eI bU) (.gV (jn eI bU iT) cB (bE 1 .live bq b9) (dZ 1 .live (jB eI bd d9)) (bE 1 .live bq cg) (dZ 1 .live (jB eI bU iT)) (bE 1 .live bq dM))))))
  (fun cI =>
  .bC fun dt =>
  .bC fun cB =>
  .ret (let lP:=(bd++([0]:List Int));let qF:=(bU++([0]:List Int));bN (t1.append [.ad false,(R 4),.ad false,.aH (bJ 2 (.aB (lP.length)) 1),.aH (bJ 2 (.aB (qF.length)) 1),(R 2),.bf [0,1,30,34] [.box [.id,.id],.pure,.di (a9 1 eI lP),.di (a9 1 eI qF)] (bH [1,3,5,6,7,14,15,16,23,24,25])]) (aY.aB (.bA bj cI (kh eI 0) (jl eI bd) (jn eI bd 0) dt (kh eI 0) (jl eI bU) (.gV (jn eI bU 0) cB (bE 1 .live bq b9) (dZ 1 .live (jB eI bd 0)) (bE 1 .live bq lP) (dZ 1 .live (jB eI bU 0)) (bE 1 .live bq qF)))))))))
  (fun h1 =>
  .ret (bN [(R 1),.ad false,.bf [0,1,2,3] [.box [.id,.id],.pure,.pure,.pure] (bH [1,3,6,7,14,15,16])] (.cS h1 (bE 1 .live bq b9) (bE 1 .live bq bd) (bE 1 .live bq bU))))
theorem IW {ah:Int}{dJ:List Int}{cF cY:Int}{dv:List aX}{lk:Int}{b2:List aM}{b9:List Int}{jZ:Int}{bd bU:List Int}{r} (h:wa ah dJ cF cY dv lk b2 b9 jZ bd bU=some r):eE bo 78 0 59 [1,1,0,1,0,0,1,1,0,0,1,1,1,0,1,0,0] (zt ah dJ cF cY dv lk b2 b9) (zF ah dJ cF cY dv lk b2 b9) (jZ,bd,bU) r:=eF (fun _=>Ig) h
def zu (dJ:List Int)(cF:Int)(b2:List aM)(b1:List aX):(Int×(List Int))→S:=fun (cY,b9)=>dW [(1,.ref 0 0 0 0),(3,.a1 1 0 0 b9.length),(14,.isl 1 (dJ.map eI)),(15,.n .i64 cF),(16,.n .i64 cY)] [[ae.mk 2 [[.isl 4 (b2.map aP),.isl 3 (b1.map aU)]] .live],(a9 1 eI b9)]
def zG (dJ:List Int)(cF:Int)(b2:List aM)(b1:List aX):(List Int)→dY
 | a=>⟨some 0,[(3,.a1 0 0 0 a.length)],[(a9 1 eI a)]⟩
def rh (dJ:List Int)(cF:Int)(b2:List aM)(b1:List aX)(cY:Int)(b9:List Int):Option ((Int×(List Int))⊕((List Int))) :=
 if (decide (cY<cF))=true then
  if 0≤cY∧cY<dJ.length then
  dJ[cY.toNat]? >>= fun aK =>
  wa aK dJ cF cY b1 (len_ aU b1) b2 b9 0 ([]:List Int) ([]:List Int) >>= fun aQ =>
  if (b9++aQ.1).length*8≤140737488355328 then
  if ((b9++aQ.1)++aQ.2).length*8≤140737488355328 then
  some (.inl (ai (cY+(1:Int)),(b9++aQ.1)++aQ.2))
  else none
  else none
  else none
 else
  some (.inr b9)
def z8 (dJ:List Int)(cF:Int)(b2:List aM)(b1:List aX)(cY:Int)(b9:List Int):Option ((List Int)):=iter (fun w:Int×(List Int)=>rh dJ cF b2 b1 w.1 w.2) (cY,b9)
theorem Ih {dJ:List Int}{cF:Int}{b2:List aM}{b1:List aX}{cY:Int}{b9:List Int}:bG (rh dJ cF b2 b1 cY b9) (eD bo 78 0 59 [1,1,0,1,0,0] (zu dJ cF b2 b1 (cY,b9)) (zu dJ cF b2 b1) (zG dJ cF b2 b1)):=by
 unfold rh
 exact .ite (fun h1 =>
  .bC fun h2 =>
  .aN fun aK ax =>
  .aN fun aQ a4 =>
  .bC fun bj =>
  .bC fun cI =>
  .ret (let q1:=(dZ 1 .live (show []=(([]:List Int)).map eI from rfl));let q2:=dH (b9++aQ.1);let cg:=(bE 1 .live bq ([]:List Int));let dM:=d6 eI aQ.1;let d9:=(a9 1 eI ([]:List Int));bN [(R 1),.ad true,.aH (bJ 1 (.cO (eI aK)) 1),(R 2),(R 2),(R 4),.bf [0,1,6,8] [.box [.id,.id],.pure,.di d9,.di d9] [(1,ii),(3,ii),(5,ii),(6,gT (([]:List Int).length)),(7,gT (([]:List Int).length)),(14,ii),(15,ii),(16,ii),(23,ii),(24,ii),(25,ii)],(zF aK dJ cF cY b1 (len_ aU b1) b2 b9 aQ).g9,.aH (bJ 2 (.aB ((b9++aQ.1).length)) 1),.aH (bJ 2 (.aB (((b9++aQ.1)++aQ.2).length)) 1),(R 2),.bf [0,10] [.box [.id,.id],.di (a9 1 eI ((b9++aQ.1)++aQ.2))] (bH [1,3,14,15,16])] (.bA h1 h2.1 (dL eI h2.2) (dr eI ax) (bE 1 .live bq b9) q1 cg q1 (.bA cg (jm Int) (jm Int) (IW a4) (ec eI aQ.1) (jl eI b9) (m1 (dH b9) (mz dM (dH aQ.1)):(b9++aQ.1).length=b9.length+(((aQ.1.map eI).drop 0).take aQ.1.length).length) bj (.d5 (ec eI aQ.2) (oU (kl (d6 eI b9) (dH b9) (mz dM (dH aQ.1))) q2) (m1 q2 (mz (d6 eI aQ.2) (dH aQ.2)):((b9++aQ.1)++aQ.2).length=((b9++aQ.1).length)+(((aQ.2.map eI).drop 0).take aQ.2.length).length) cI (dZ 1 .live (kl (kl (d6 eI b9) (dH b9) (mz dM (dH aQ.1))) q2 (mz (d6 eI aQ.2) (dH aQ.2)))) (bE 1 .live bq ((b9++aQ.1)++aQ.2)))))))
  (fun h1 =>
  .ret (bN [(R 1),.ad false,.bf [1] [.pure] (bH [3])] (.e2 h1 (bE 1 .live bq b9))))
theorem IX {dJ:List Int}{cF:Int}{b2:List aM}{b1:List aX}{cY:Int}{b9:List Int}{r} (h:z8 dJ cF b2 b1 cY b9=some r):eE bo 78 0 59 [1,1,0,1,0,0] (zu dJ cF b2 b1) (zG dJ cF b2 b1) (cY,b9) r:=eF (fun _=>Ih) h
def tG (ao:bl):Option (List Int) :=
 pB ao >>= fun r1 =>
 z8 r1 (len_ eI r1) ao.bb ao.aR 0 ([]:List Int) >>= fun bz =>
 some bz
theorem JC {ao:bl}:bG (tG ao) (fun r=>Con bo 59 [.agg (ed ao)] [] (.isl 1 (r.map eI)) []):=by
 unfold tG
 exact .aN fun r1 h2 =>
  .aN fun bz ax =>
  .ret (ba [(R 2),(R 2),.aH (bJ 1 (b3 1 (.isl 1 (r1.map eI)) false) 2),.bf [0,2] [.box [.id,.id],.di (a9 1 eI ([]:List Int))] [(1,ii),(3,gT (([]:List Int).length)),(14,ii),(15,ii),(16,ii)],(zG r1 (len_ eI r1) ao.bb ao.aR bz).g9,(R 2)] (.hR (z7 r1 h2) (dZ 1 .live (show []=(([]:List Int)).map eI from rfl)) (bE 1 .live bq ([]:List Int)) (jm Int) (IX ax) (eh eI bz) (ec eI bz) (du bq bz)) (.bn (.dE (.dC (bz.map eI)))))
def zh (b6 cR:List Int)(cJ:Int):(Int×(List Int))→S:=fun (gQ,aw)=>dW [(1,.isl 1 (b6.map eI)),(5,.a1 0 0 0 aw.length),(10,.isl 1 (cR.map eI)),(11,.n .i64 cJ),(12,.n .i64 gQ)] [(a9 1 eI aw)]
def zv (b6 cR:List Int)(cJ:Int):(List Int)→dY
 | a=>⟨some 0,[(5,.a1 0 0 0 a.length)],[(a9 1 eI a)]⟩
def q8 (b6 cR:List Int)(cJ gQ:Int)(aw:List Int):Option ((Int×(List Int))⊕((List Int))) :=
 if (decide (gQ<cJ))=true then
  if 0≤gQ∧gQ<cR.length then
  cR[gQ.toNat]? >>= fun aK =>
  if 0≤(ai ((2:Int)*aK))∧(ai ((2:Int)*aK))<b6.length then
  b6[(ai ((2:Int)*aK)).toNat]? >>= fun eb =>
  if 0≤(ai ((ai ((2:Int)*aK))+(1:Int)))∧(ai ((ai ((2:Int)*aK))+(1:Int)))<b6.length then
  b6[(ai ((ai ((2:Int)*aK))+(1:Int))).toNat]? >>= fun c9 =>
  if (aw++([ai (0-eb),ai (0-c9)]:List Int)).length*8≤140737488355328 then
  some (.inl (ai (gQ+(1:Int)),aw++([ai (0-eb),ai (0-c9)]:List Int)))
  else none
  else none
  else none
  else none
 else
  some (.inr aw)
def zX (b6 cR:List Int)(cJ gQ:Int)(aw:List Int):Option ((List Int)):=iter (fun w:Int×(List Int)=>q8 b6 cR cJ w.1 w.2) (gQ,aw)
theorem H4 {b6 cR:List Int}{cJ gQ:Int}{aw:List Int}:bG (q8 b6 cR cJ gQ aw) (eD bo 34 0 61 [1,1,0,1,0,0] (zh b6 cR cJ (gQ,aw)) (zh b6 cR cJ) (zv b6 cR cJ)):=by
 unfold q8
 exact .ite (fun h1 =>
  .bC fun h2 =>
  .aN fun aK ax =>
  .bC fun a8 =>
  .aN fun eb bj =>
  .bC fun cI =>
  .aN fun c9 cB =>
  .bC fun eP =>
  .ret (let q1:=(aw++([ai (0-eb),ai (0-c9)]:List Int));bN [(R 1),.ad true,.aH (bJ 1 (.cO (eI aK)) 1),.aH (al 5 (au (.cO (eI eb)) (al 6 (au (.cO (eI c9)) (bJ 2 (.aB (q1.length)) 1))))),(R 2),.bf [20] [.di (a9 1 eI q1)] (bH [1,5,10,11,12])] (.bA h1 h2.1 (dL eI h2.2) (dr eI ax) a8.1 (dL eI a8.2) (dr eI bj) cI.1 (.hR (dL eI cI.2) (dr eI cB) (mZ (show [[.n .i64 (ai (0-eb))],[.n .i64 (ai (0-c9))]]=(([ai (0-eb),ai (0-c9)]:List Int)).map eI from rfl) (show 2=([ai (0-eb),ai (0-c9)]:List Int).length from rfl)) (jl eI aw) (m1 (dH aw) (mz (show [[.n .i64 (ai (0-eb))],[.n .i64 (ai (0-c9))]]=(([ai (0-eb),ai (0-c9)]:List Int)).map eI from rfl) (show 2=([ai (0-eb),ai (0-c9)]:List Int).length from rfl)):q1.length=aw.length+(([[.n .i64 (ai (0-eb))],[.n .i64 (ai (0-c9))]].drop 0).take 2).length) eP (dZ 1 .live (kl (d6 eI aw) (dH aw) (mz (show [[.n .i64 (ai (0-eb))],[.n .i64 (ai (0-c9))]]=(([ai (0-eb),ai (0-c9)]:List Int)).map eI from rfl) (show 2=([ai (0-eb),ai (0-c9)]:List Int).length from rfl)))) (bE 1 .live bq q1)))))
  (fun h1 =>
  .ret (bN [(R 1),.ad false,.bf [0] [.pure] (bH [5])] (.e2 h1 (bE 1 .live bq aw))))
theorem IM {b6 cR:List Int}{cJ gQ:Int}{aw:List Int}{r} (h:zX b6 cR cJ gQ aw=some r):eE bo 34 0 61 [1,1,0,1,0,0] (zh b6 cR cJ) (zv b6 cR cJ) (gQ,aw) r:=eF (fun _=>H4) h
def ty (ao:bl)(b6:List Int):Option (List Int) :=
 pB ao >>= fun r1 =>
 zX b6 r1 (len_ eI r1) 0 ([]:List Int) >>= fun bz =>
 some bz
theorem Ji {ao:bl}{b6:List Int}:bG (ty ao b6) (fun r=>Con bo 61 [.agg (ed ao),.isl 1 (b6.map eI)] [] (.isl 1 (r.map eI)) []):=by
 unfold ty
 exact .aN fun r1 h2 =>
  .aN fun bz ax =>
  .ret (ba [(R 2),(R 2),.aH (bJ 1 (b3 1 (.isl 1 (r1.map eI)) false) 2),.bf [2] [.di (a9 1 eI ([]:List Int))] [(1,ii),(5,gT (([]:List Int).length)),(10,ii),(11,ii),(12,ii)],(zv b6 r1 (len_ eI r1) bz).g9,(R 2)] (.hR (z7 r1 h2) (dZ 1 .live (show []=(([]:List Int)).map eI from rfl)) (bE 1 .live bq ([]:List Int)) (jm Int) (IM ax) (eh eI bz) (ec eI bz) (du bq bz)) (.bn (.dE (.dC (bz.map eI)))))
def yZ (fP gm:List Int)(b4:Int)(gn:List Int)(ah ll bM bI:Int)(eG bU:List Int):(Int×(List Int))→S:=fun (j0,bd)=>dW [(4,.ref 0 0 0 0),(5,.isl 1 (fP.map eI)),(6,.isl 1 (gm.map eI)),(7,.n .i64 b4),(8,.isl 1 (gn.map eI)),(9,.ref 1 0 0 0),(10,.n .i64 ah),(42,.isl 1 (fP.map eI)),(43,.n .i64 ll),(44,.n .i64 j0)] [[ae.mk 5 [[.n .i64 (0:Int),.n .i64 (0:Int),.cv,.cv,.cv]] .live],[ae.mk 5 [(xT bM bI 2 0 0 bd.length eG 3 0 0 bU.length)] .live],(a9 1 eI bd),(a9 1 eI bU)]
def y8 (fP gm:List Int)(b4:Int)(gn:List Int)(ah ll bM bI:Int)(eG bU:List Int):(List Int)→dY
 | a=>⟨some 2,[(4,.ref 0 0 0 0),(5,.isl 1 (fP.map eI)),(6,.isl 1 (gm.map eI)),(7,.n .i64 b4),(8,.isl 1 (gn.map eI)),(9,.ref 1 0 0 0),(10,.n .i64 ah)],[[ae.mk 5 [[.n .i64 (0:Int),.n .i64 (0:Int),.cv,.cv,.cv]] .live],[ae.mk 5 [(xT bM bI 2 0 0 a.length eG 3 0 0 bU.length)] .live],(a9 1 eI a),(a9 1 eI bU)]⟩
def qW (fP gm:List Int)(b4:Int)(gn:List Int)(ah ll bM bI:Int)(eG bU:List Int)(j0:Int)(bd:List Int):Option ((Int×(List Int))⊕((List Int))) :=
 if (decide (j0<ll))=true then
  if 0≤j0∧j0<fP.length then
  fP[j0.toNat]? >>= fun aK =>
  if 0≤j0∧j0<gm.length then
  gm[j0.toNat]? >>= fun eb =>
  if 0≤(ai ((ai (ah*b4))+aK))∧(ai ((ai (ah*b4))+aK))<gn.length then
  gn[(ai ((ai (ah*b4))+aK)).toNat]? >>= fun c9 =>
  if (bd++([ai (eb*c9)]:List Int)).length*8≤140737488355328 then
  some (.inl (ai (j0+(1:Int)),bd++([ai (eb*c9)]:List Int)))
  else none
  else none
  else none
  else none
 else
  some (.inr bd)
def zO (fP gm:List Int)(b4:Int)(gn:List Int)(ah ll bM bI:Int)(eG bU:List Int)(j0:Int)(bd:List Int):Option ((List Int)):=iter (fun w:Int×(List Int)=>qW fP gm b4 gn ah ll bM bI eG bU w.1 w.2) (j0,bd)
theorem HT {fP gm:List Int}{b4:Int}{gn:List Int}{ah ll bM bI:Int}{eG bU:List Int}{j0:Int}{bd:List Int}:bG (qW fP gm b4 gn ah ll bM bI eG bU j0 bd) (eD bo 69 0 41 [1,1,1,1,1,0,1,0,0,1,0,0,1,0,0] (yZ fP gm b4 gn ah ll bM bI eG bU (j0,bd)) (yZ fP gm b4 gn ah ll bM bI eG bU) (y8 fP gm b4 gn ah ll bM bI eG bU)):=by
 unfold qW
 exact .ite (fun h1 =>
  .bC fun h2 =>
  .aN fun aK ax =>
  .bC fun a8 =>
  .aN fun eb bj =>
  .bC fun cI =>
  .aN fun c9 cB =>
  .bC fun eP =>
  .ret (let q2:=ai (eb*c9);let q1:=(bd++([q2]:List Int));bN [(R 1),.ad true,.aH (bJ 2 (.cO (eI aK)) 2),.aH (al 5 (au (.cO (eI eb)) (al 7 (au (.cO (eI c9)) (bJ 2 (.aB (q1.length)) 2))))),(R 2),.bf [0,1,26,3] [.box [.id,.id,.id,.id,.id],.box [.id,.id,.id,.id,.id],.di (a9 1 eI q1),.pure] (bH [4,5,6,7,8,9,10,42,43,44])] (.bA h1 h2.1 (dL eI h2.2) (dr eI ax) a8.1 (dL eI a8.2) (dr eI bj) cI.1 (.bA (dL eI cI.2) (dr eI cB) (kh eI q2) (jl eI bd) (jn eI bd q2) eP (dZ 1 .live (jB eI bd q2)) (bE 1 .live bq q1) (.e1 (bE 1 .live bq bU))))))
  (fun h1 =>
  .ret (bN [(R 1),.ad false,.bf [0,1,2,3] [.box [.id,.id,.id,.id,.id],.box [.id,.id,.id,.id,.id],.pure,.pure] (bH [4,5,6,7,8,9,10])] (.br h1 (bE 1 .live bq bd) (bE 1 .live bq bU))))
theorem Iv {fP gm:List Int}{b4:Int}{gn:List Int}{ah ll bM bI:Int}{eG bU:List Int}{j0:Int}{bd:List Int}{r} (h:zO fP gm b4 gn ah ll bM bI eG bU j0 bd=some r):eE bo 69 0 41 [1,1,1,1,1,0,1,0,0,1,0,0,1,0,0] (yZ fP gm b4 gn ah ll bM bI eG bU) (y8 fP gm b4 gn ah ll bM bI eG bU) (j0,bd) r:=eF (fun _=>HT) h
def y0 (fP gm:List Int)(b4:Int)(gn:List Int)(bM bI:Int)(eG bU:List Int):(Int×(List Int))→S:=fun (ah,bd)=>dW [(4,.ref 0 0 0 0),(5,.isl 1 (fP.map eI)),(6,.isl 1 (gm.map eI)),(7,.n .i64 b4),(8,.isl 1 (gn.map eI)),(9,.ref 1 0 0 0),(10,.n .i64 ah)] [[ae.mk 5 [[.n .i64 (0:Int),.n .i64 (0:Int),.cv,.cv,.cv]] .live],[ae.mk 5 [(xT bM bI 2 0 0 bd.length eG 3 0 0 bU.length)] .live],(a9 1 eI bd),(a9 1 eI bU)]
def y9 (fP gm:List Int)(b4:Int)(gn:List Int)(bM bI:Int)(eG bU:List Int):(List Int)→dY
 | a=>⟨some 0,[(4,.ref 0 0 0 0),(9,.ref 1 0 0 0)],[[ae.mk 5 [[.n .i64 (0:Int),.n .i64 (0:Int),.cv,.cv,.cv]] .live],[ae.mk 5 [(xT bM bI 2 0 0 a.length eG 3 0 0 bU.length)] .live],(a9 1 eI a),(a9 1 eI bU)]⟩
def qX (fP gm:List Int)(b4:Int)(gn:List Int)(bM bI:Int)(eG bU:List Int)(ah:Int)(bd:List Int):Option ((Int×(List Int))⊕((List Int))) :=
 if (decide (ah<bM))=true then
  zO fP gm b4 gn ah (len_ eI fP) bM bI eG bU 0 bd >>= fun r2 =>
  some (.inl (ai (ah+(1:Int)),r2))
 else
  some (.inr bd)
def v5 (fP gm:List Int)(b4:Int)(gn:List Int)(bM bI:Int)(eG bU:List Int)(ah:Int)(bd:List Int):Option ((List Int)):=iter (fun w:Int×(List Int)=>qX fP gm b4 gn bM bI eG bU w.1 w.2) (ah,bd)
theorem HU {fP gm:List Int}{b4:Int}{gn:List Int}{bM bI:Int}{eG bU:List Int}{ah:Int}{bd:List Int}:bG (qX fP gm b4 gn bM bI eG bU ah bd) (eD bo 69 0 41 [1,1,1,1,1,0,1,0,0] (y0 fP gm b4 gn bM bI eG bU (ah,bd)) (y0 fP gm b4 gn bM bI eG bU) (y9 fP gm b4 gn bM bI eG bU)):=by
 unfold qX
 exact .ite (fun h1 =>
  .aN fun r2 af =>
  .ret (bN [(R 4),.ad true,(R 3),.bf [0,1,2,3] [.box [.id,.id,.id,.id,.id],.box [.id,.id,.id,.id,.id],.pure,.pure] (bH [4,5,6,7,8,9,10,42,43,44]),(y8 fP gm b4 gn ah (len_ eI fP) bM bI eG bU r2).g9,(R 3),.bf [0,1,2,3] [.box [.id,.id,.id,.id,.id],.box [.id,.id,.id,.id,.id],.pure,.pure] (bH [4,5,6,7,8,9,10])] (.d5 h1 (bE 1 .live bq bd) (bE 1 .live bq bU) (Iv af) (bE 1 .live bq r2) (bE 1 .live bq bU))))
  (fun h1 =>
  .ret (bN [(R 4),.ad false,.bf [0,1,2,3] [.box [.id,.id,.id,.id,.id],.box [.id,.id,.id,.id,.id],.pure,.pure] (bH [4,9])] (.br h1 (bE 1 .live bq bd) (bE 1 .live bq bU))))
theorem Iw {fP gm:List Int}{b4:Int}{gn:List Int}{bM bI:Int}{eG bU:List Int}{ah:Int}{bd:List Int}{r} (h:v5 fP gm b4 gn bM bI eG bU ah bd=some r):eE bo 69 0 41 [1,1,1,1,1,0,1,0,0] (y0 fP gm b4 gn bM bI eG bU) (y9 fP gm b4 gn bM bI eG bU) (ah,bd) r:=eF (fun _=>HU) h
def tn (ao:bl)(b6:List Int):Option iH :=
 rz ao >>= fun r1 =>
 tG ao >>= fun bz =>
 pB ao >>= fun aQ =>
 ty ao b6 >>= fun ch =>
 if 0≤(len_ eI r1.1)∧(8:Int)*(len_ eI r1.1)≤281474976710656∧(len_ eI r1.1)<9223372036854775808 then
 v5 r1.1 r1.2 (len_ aU ao.aR) bz (ai ((2:Int)*(len_ eI aQ))) (len_ eI r1.1) ch (List.replicate (len_ eI r1.1).toNat 0:List Int) 0 ([]:List Int) >>= fun cM =>
 some (⟨ai ((2:Int)*(len_ eI aQ)),(len_ eI r1.1),cM,ch,(List.replicate (len_ eI r1.1).toNat 0:List Int)⟩:iH)
 else none
theorem IY {ao:bl}{b6:List Int}:bG (tn ao b6) (fun r=>Con bo 41 [.agg (ed ao),.isl 1 (b6.map eI)] [] (.agg (lX r)) []):=by
 unfold tn
 exact .aN fun r1 h2 =>
  .aN fun bz ax =>
  .aN fun aQ a4 =>
  .aN fun ch cI =>
  .bC fun dt =>
  .aN fun cM eP =>
  .ret (let q2:=len_ eI r1.1;let q1:=(List.replicate q2.toNat 0:List Int);ba [(R 2),.aH (bJ 1 (b3 1 (.dm [.isl 1 (r1.1.map eI),.isl 1 (r1.2.map eI)]) false) 5),(R 4),.aH (bJ 1 (b3 1 (.isl 1 (bz.map eI)) false) 1),.aH (al 1 (au (b3 1 (.isl 1 (aQ.map eI)) false) (bJ 6 (b3 2 (.isl 1 (ch.map eI)) false) 6))),(R 1),.xK 29 2 1,.bf [1,29,32,27] [.box [.id,.id,.id,.id,.id],.box [.id,.id,.len (([]:List Int).length),.id,.len (q1.length)],.di (a9 1 eI ([]:List Int)),.di (a9 1 eI q1)] (bH [4,5,6,7,8,9,10]),(y9 r1.1 r1.2 (len_ aU ao.aR) bz (ai ((2:Int)*(len_ eI aQ))) q2 ch q1 cM).g9,(R 2)] (.bA (C6 r1 h2) (JC bz ax) (z7 aQ a4) (Ji ch cI) dt.1 (Int.le_refl q2) dt.2.1 dt.2.2 (.bA (jm Int) (mw q2.toNat (0:Int)) (dZ 1 .live (vB eI)) (bE 1 .live bq ([]:List Int)) (dZ 1 .live (l4 eI q2.toNat 0)) (bE 1 .live bq q1) (Iw eP) (eh eI cM) (.ez (ec eI cM) (du bq cM) (eh eI q1) (ec eI q1) (du bq q1)))) (.bn (.agg [.id,.id,.dC (cM.map eI),.id,.dC (q1.map eI)])))
def zH (gY:Int)(eu:List Int)(gP:Int)(b2:List aM)(b1:List aX)(bM bI eG kQ:Int):(Int×(List Int))→S:=fun (dv,bd)=>dW [(3,.n .i64 gY),(4,.ref 0 0 0 0),(5,.ref 1 0 0 0),(9,.a1 2 0 0 bd.length),(21,.isl 1 (eu.map eI)),(22,.n .i64 gP),(23,.n .i64 dv)] [[ae.mk 2 [[.isl 4 (b2.map aP),.isl 3 (b1.map aU)]] .live],[ae.mk 4 [[.n .i64 bM,.n .i64 bI,.n .i64 eG,.n .i64 kQ]] .live],(a9 1 eI bd)]
def C7 (gY:Int)(eu:List Int)(gP:Int)(b2:List aM)(b1:List aX)(bM bI eG kQ:Int):(List Int)→dY
 | a=>⟨some 0,[(3,.n .i64 gY),(9,.a1 0 0 0 a.length)],[(a9 1 eI a)]⟩
def rk (gY:Int)(eu:List Int)(gP:Int)(b2:List aM)(b1:List aX)(bM bI eG kQ dv:Int)(bd:List Int):Option ((Int×(List Int))⊕((List Int))) :=
 if (decide (dv<gP))=true then
  if 0≤dv∧dv<eu.length then
  eu[dv.toNat]? >>= fun aK =>
  if (aK == bM)=true then
   ki (⟨b2,b1⟩:bl) aK >>= fun dN =>
   if 0≤dv∧dv<(bd.length:Nat) then
   if (0+dv.toNat)<bd.length then
   some (.inl (ai (dv+(1:Int)),bd.set (0+dv.toNat) (ai (kQ*dN))))
   else none
   else none
  else
   if (aK == bI)=true then
    ki (⟨b2,b1⟩:bl) aK >>= fun ch =>
    if 0≤dv∧dv<(bd.length:Nat) then
    if (0+dv.toNat)<bd.length then
    some (.inl (ai (dv+(1:Int)),bd.set (0+dv.toNat) (ai ((ai (0-eG))*ch))))
    else none
    else none
   else
    some (.inl (ai (dv+(1:Int)),bd))
  else none
 else
  some (.inr bd)
def Ab (gY:Int)(eu:List Int)(gP:Int)(b2:List aM)(b1:List aX)(bM bI eG kQ dv:Int)(bd:List Int):Option ((List Int)):=iter (fun w:Int×(List Int)=>rk gY eu gP b2 b1 bM bI eG kQ w.1 w.2) (dv,bd)
theorem Io {gY:Int}{eu:List Int}{gP:Int}{b2:List aM}{b1:List aX}{bM bI eG kQ dv:Int}{bd:List Int}:bG (rk gY eu gP b2 b1 bM bI eG kQ dv bd) (eD bo 61 0 42 [1,1,1,0,1,0,0] (zH gY eu gP b2 b1 bM bI eG kQ (dv,bd)) (zH gY eu gP b2 b1 bM bI eG kQ) (C7 gY eu gP b2 b1 bM bI eG kQ)):=by
 unfold rk
 exact .ite (fun h1 =>
  .bC fun h2 =>
  .aN fun aK ax =>
  (let t1:List b5:=[(R 1),.ad true,.aH (bJ 2 (.cO (eI aK)) 2),(R 1),(R 4)];
  have aY:=((.cS h1 h2.1 (dL eI h2.2) (dr eI ax)):cD _);
  .ite (fun a8 =>
  .aN fun dN bj =>
  .bC fun cI =>
  .bC fun dt =>
  .ret (let q1:=ai (kQ*dN);bN (t1.append [.ad true,.aH (al 6 (au (b3 2 (.n .i64 dN) true) (al 2 (au .gH [])))),(R 2),.bf [0,1,2] [.box [.id,.id],.box [.id,.id,.id,.id],.di (a9 1 eI (bd.set (0+dv.toNat) q1))] [(3,ii),(4,ii),(5,ii),(9,gT ((bd.set (0+dv.toNat) q1).length)),(21,ii),(22,ii),(23,ii)]]) (aY.aB (.bA a8 (zV dN bj) (aZ.n .i64 dN) cI.1 cI.2 (kK eI dt) (kg 1) (dZ 1 .live (js (d6 eI bd) (0+dv.toNat) q1)) (.e2 (bE 1 .live bq (bd.set (0+dv.toNat) q1)) (hb (dH bd) (0+dv.toNat) q1))))))
  (fun a8 =>
  .ite (fun a4 =>
  .aN fun ch cI =>
  .bC fun dt =>
  .bC fun cB =>
  .ret (let q2:=ai ((ai (0-eG))*ch);bN (t1.append [.ad false,(R 4),.ad true,.aH (al 7 (au (b3 2 (.n .i64 ch) true) (al 2 (au .gH [])))),(R 2),.bf [0,1,2] [.box [.id,.id],.box [.id,.id,.id,.id],.di (a9 1 eI (bd.set (0+dv.toNat) q2))] [(3,ii),(4,ii),(5,ii),(9,gT ((bd.set (0+dv.toNat) q2).length)),(21,ii),(22,ii),(23,ii)]]) (aY.aB (.bA a8 a4 (zV ch cI) (aZ.n .i64 ch) dt.1 dt.2 (kK eI cB) (kg 1) (.br (dZ 1 .live (js (d6 eI bd) (0+dv.toNat) q2)) (bE 1 .live bq (bd.set (0+dv.toNat) q2)) (hb (dH bd) (0+dv.toNat) q2))))))
  (fun a4 =>
  .ret (bN (t1.append [.ad false,(R 4),.ad false,(R 2),.bf [0,1,2] [.box [.id,.id],.box [.id,.id,.id,.id],.pure] (bH [3,4,5,9,21,22,23])]) (aY.aB (.br a8 a4 (bE 1 .live bq bd))))))))
  (fun h1 =>
  .ret (bN [(R 1),.ad false,.bf [2] [.pure] (bH [3,9])] (.e2 h1 (bE 1 .live bq bd))))
theorem I4 {gY:Int}{eu:List Int}{gP:Int}{b2:List aM}{b1:List aX}{bM bI eG kQ dv:Int}{bd:List Int}{r} (h:Ab gY eu gP b2 b1 bM bI eG kQ dv bd=some r):eE bo 61 0 42 [1,1,1,0,1,0,0] (zH gY eu gP b2 b1 bM bI eG kQ) (C7 gY eu gP b2 b1 bM bI eG kQ) (dv,bd) r:=eF (fun _=>Io) h
def rJ (ao:bl)(bx:bh)(m3 gY:Int):Option (List Int) :=
 if 0≤m3∧(8:Int)*m3≤281474976710656∧m3<9223372036854775808 then
 rz ao >>= fun r2 =>
 Ab gY r2.1 (len_ eI r2.1) ao.bb ao.aR bx.bi bx.bc bx.cz bx.de 0 (List.replicate m3.toNat 0:List Int) >>= fun cK =>
 if 0≤gY∧gY<(cK.length:Nat) then
 if (0+gY.toNat)<cK.length then
 some (cK.set (0+gY.toNat) 1)
 else none
 else none
 else none
theorem Dn {ao:bl}{bx:bh}{m3 gY:Int}:bG (rJ ao bx m3 gY) (fun r=>Con bo 42 [.agg (ed ao),.agg (eTBlock bx),.n .i64 m3,.n .i64 gY] [] (.isl 1 (r.map eI)) []):=by
 unfold rJ
 exact .bC fun h1 =>
  .aN fun r2 af =>
  .aN fun cK a8 =>
  .bC fun a4 =>
  .bC fun bj =>
  .ret (let q1:=(List.replicate m3.toNat 0:List Int);let q2:=hb (dH cK) (0+gY.toNat) 1;ba [(R 3),(R 3),.aH (bJ 1 (b3 1 (.dm [.isl 1 (r2.1.map eI),.isl 1 (r2.2.map eI)]) false) 5),(R 3),.bf [0,1,4] [.box [.id,.id],.box [.id,.id,.id,.id],.di (a9 1 eI q1)] [(3,ii),(4,ii),(5,ii),(9,gT (q1.length)),(21,ii),(22,ii),(23,ii)],.sub (.exit 0) [(3,.n .i64 gY),(9,.a1 0 0 0 cK.length)] [(a9 1 eI cK)],.aH (al 3 (au .gH [])),(R 2)] (.bA h1.1 (Int.le_refl m3) h1.2.1 h1.2.2 (C6 r2 af) (dZ 1 .live (l4 eI m3.toNat 0)) (bE 1 .live bq q1) (mw m3.toNat (0:Int)) (.hR (I4 a8) a4.1 a4.2 (kK eI bj) (kg 1) (oR (js (d6 eI cK) (0+gY.toNat) 1) q2) (mZ (js (d6 eI cK) (0+gY.toNat) 1) q2) (du bq (cK.set (0+gY.toNat) 1)))) (.bn (.dE (.dC ((cK.set (0+gY.toNat) 1).map eI)))))
def y1 (cP:List bh)(b4:Int)(b2:List aM)(b1:List aX)(gR eL:Int)(dh dO gX:List Int)(eN:Int)(ft fG:List Int):(Int×(List Int))→S:=fun (ah,cd)=>dW [(2,.isl 4 (cP.map eTBlock)),(3,.ref 0 0 0 0),(6,.ref 1 0 0 0),(7,.ref 2 0 0 0),(8,.n .i64 b4),(9,.ref 3 0 0 0),(10,.n .i64 ah)] [[ae.mk 2 [[.isl 4 (b2.map aP),.isl 3 (b1.map aU)]] .live],[ae.mk 5 [[.n .i64 (0:Int),.n .i64 (0:Int),.cv,.cv,.cv]] .live],[ae.mk 5 [[.n .i64 gR,.n .i64 eL,.isl 1 (dh.map eI),.isl 1 (dO.map eI),.isl 1 (gX.map eI)]] .live],[ae.mk 5 [(hj eN b4 4 0 0 cd.length 5 0 0 ft.length 6 0 0 fG.length)] .live],(a9 1 eI cd),(a9 1 eI ft),(a9 1 eI fG)]
def za (cP:List bh)(b4:Int)(b2:List aM)(b1:List aX)(gR eL:Int)(dh dO gX:List Int)(eN:Int)(ft fG:List Int):(List Int)→dY
 | a=>⟨some 0,[(2,.isl 4 (cP.map eTBlock)),(3,.ref 0 0 0 0),(6,.ref 1 0 0 0),(7,.ref 2 0 0 0),(8,.n .i64 b4),(9,.ref 3 0 0 0)],[[ae.mk 2 [[.isl 4 (b2.map aP),.isl 3 (b1.map aU)]] .live],[ae.mk 5 [[.n .i64 (0:Int),.n .i64 (0:Int),.cv,.cv,.cv]] .live],[ae.mk 5 [[.n .i64 gR,.n .i64 eL,.isl 1 (dh.map eI),.isl 1 (dO.map eI),.isl 1 (gX.map eI)]] .live],[ae.mk 5 [(hj eN b4 4 0 0 a.length 5 0 0 ft.length 6 0 0 fG.length)] .live],(a9 1 eI a),(a9 1 eI ft),(a9 1 eI fG)]⟩
def qY (cP:List bh)(b4:Int)(b2:List aM)(b1:List aX)(gR eL:Int)(dh dO gX:List Int)(eN:Int)(ft fG:List Int)(ah:Int)(cd:List Int):Option ((Int×(List Int))⊕((List Int))) :=
 if (decide (ah<gR))=true then
  if 0≤(ai (ah*eL)) then
  if 0≤(ai ((ai (ah+(1:Int)))*eL)) then
  if (ai (ah*eL)).toNat≤(ai ((ai (ah+(1:Int)))*eL)).toNat∧(ai ((ai (ah+(1:Int)))*eL)).toNat≤dh.length then
  if (cd++((dh.drop ((ai (ah*eL)).toNat)).take ((ai ((ai (ah+(1:Int)))*eL)).toNat-(ai (ah*eL)).toNat))).length*8≤140737488355328 then
  if 0≤(ai ((2:Int)*(len_ eTBlock cP)))∧(ai ((2:Int)*(len_ eTBlock cP)))<9223372036854775808 then
  if ((cd++((dh.drop ((ai (ah*eL)).toNat)).take ((ai ((ai (ah+(1:Int)))*eL)).toNat-(ai (ah*eL)).toNat)))++(List.replicate (ai ((2:Int)*(len_ eTBlock cP))).toNat 0:List Int)).length*8≤140737488355328 then
  some (.inl (ai (ah+(1:Int)),(cd++((dh.drop ((ai (ah*eL)).toNat)).take ((ai ((ai (ah+(1:Int)))*eL)).toNat-(ai (ah*eL)).toNat)))++(List.replicate (ai ((2:Int)*(len_ eTBlock cP))).toNat 0:List Int)))
  else none
  else none
  else none
  else none
  else none
  else none
 else
  some (.inr cd)
def v7 (cP:List bh)(b4:Int)(b2:List aM)(b1:List aX)(gR eL:Int)(dh dO gX:List Int)(eN:Int)(ft fG:List Int)(ah:Int)(cd:List Int):Option ((List Int)):=iter (fun w:Int×(List Int)=>qY cP b4 b2 b1 gR eL dh dO gX eN ft fG w.1 w.2) (ah,cd)
theorem HV {cP:List bh}{b4:Int}{b2:List aM}{b1:List aX}{gR eL:Int}{dh dO gX:List Int}{eN:Int}{ft fG:List Int}{ah:Int}{cd:List Int}:bG (qY cP b4 b2 b1 gR eL dh dO gX eN ft fG ah cd) (eD bo 114 0 24 [1,1,1,1,0,1,0,0] (y1 cP b4 b2 b1 gR eL dh dO gX eN ft fG (ah,cd)) (y1 cP b4 b2 b1 gR eL dh dO gX eN ft fG) (za cP b4 b2 b1 gR eL dh dO gX eN ft fG)):=by
 unfold qY
 exact .ite (fun h1 =>
  .bC fun h2 =>
  .bC fun af =>
  .bC fun ax =>
  .bC fun a8 =>
  .bC fun a4 =>
  .bC fun bj =>
  .ret (let q2:=(ai ((ai (ah+(1:Int)))*eL));let cg:=ai (ah*eL);let q1:=((cd++((dh.drop (cg.toNat)).take (q2.toNat-cg.toNat)))++(List.replicate (ai ((2:Int)*(len_ eTBlock cP))).toNat 0:List Int));let dM:=dH (cd++((dh.drop (cg.toNat)).take (q2.toNat-cg.toNat)));let d9:=d6 eI dh;bN [(R 4),.ad true,.aH (bJ 14 (.aB ((cd++((dh.drop (cg.toNat)).take (q2.toNat-cg.toNat))).length)) 2),.aH (bJ 5 (.aB (q1.length)) 2),(R 3),.bf [0,1,2,3,33,5,6] [.box [.id,.id],.box [.id,.id,.id,.id,.id],.box [.id,.id,.id,.id,.id],.box [.id,.id,.id,.id,.id],.di (a9 1 eI q1),.pure,.pure] (bH [2,3,6,7,8,9,10])] (.bA h1 h2 af ax.1 (Mh d9 ax.2) (jl eI cd) (m1 (dH cd) (rX d9 (cg.toNat) (q2.toNat-cg.toNat)):(cd++((dh.drop (cg.toNat)).take (q2.toNat-cg.toNat))).length=cd.length+(((dh.map eI).drop (cg.toNat)).take (q2.toNat-cg.toNat)).length) a8 (.bA a4.1 a4.2 (oU (kl (d6 eI cd) (dH cd) (rX d9 (cg.toNat) (q2.toNat-cg.toNat))) dM) (m1 dM (show (List.replicate (ai ((2:Int)*(len_ eTBlock cP))).toNat [.n .i64 (0:Int)])=(List.replicate (ai ((2:Int)*(len_ eTBlock cP))).toNat 0:List Int).map eI from l4 eI (ai ((2:Int)*(len_ eTBlock cP))).toNat 0):q1.length=((cd++((dh.drop (cg.toNat)).take (q2.toNat-cg.toNat))).length)+(List.replicate (ai ((2:Int)*(len_ eTBlock cP))).toNat [.n .i64 (0:Int)]).length) bj (dZ 1 .live (kl (kl (d6 eI cd) (dH cd) (rX d9 (cg.toNat) (q2.toNat-cg.toNat))) dM (show (List.replicate (ai ((2:Int)*(len_ eTBlock cP))).toNat [.n .i64 (0:Int)])=(List.replicate (ai ((2:Int)*(len_ eTBlock cP))).toNat 0:List Int).map eI from l4 eI (ai ((2:Int)*(len_ eTBlock cP))).toNat 0))) (bE 1 .live bq q1) (bE 1 .live bq ft) (.e1 (bE 1 .live bq fG))))))
  (fun h1 =>
  .ret (bN [(R 4),.ad false,.bf [0,1,2,3,4,5,6] [.box [.id,.id],.box [.id,.id,.id,.id,.id],.box [.id,.id,.id,.id,.id],.box [.id,.id,.id,.id,.id],.pure,.pure,.pure] (bH [2,3,6,7,8,9])] (.cS h1 (bE 1 .live bq cd) (bE 1 .live bq ft) (bE 1 .live bq fG))))
theorem Ix {cP:List bh}{b4:Int}{b2:List aM}{b1:List aX}{gR eL:Int}{dh dO gX:List Int}{eN:Int}{ft fG:List Int}{ah:Int}{cd:List Int}{r} (h:v7 cP b4 b2 b1 gR eL dh dO gX eN ft fG ah cd=some r):eE bo 114 0 24 [1,1,1,1,0,1,0,0] (y1 cP b4 b2 b1 gR eL dh dO gX eN ft fG) (za cP b4 b2 b1 gR eL dh dO gX eN ft fG) (ah,cd) r:=eF (fun _=>HV) h
def y2 (b4:Int)(kX:List bh)(lm:Int)(b2:List aM)(b1:List aX)(gR eL:Int)(dh dO gX:List Int)(eN:Int)(fG:List Int):(Int×(List Int)×(List Int))→S:=fun (gE,cd,ft)=>dW [(3,.ref 0 0 0 0),(6,.ref 1 0 0 0),(7,.ref 2 0 0 0),(8,.n .i64 b4),(9,.ref 3 0 0 0),(65,.isl 4 (kX.map eTBlock)),(66,.n .i64 lm),(67,.n .i64 gE)] [[ae.mk 2 [[.isl 4 (b2.map aP),.isl 3 (b1.map aU)]] .live],[ae.mk 5 [[.n .i64 (0:Int),.n .i64 (0:Int),.cv,.cv,.cv]] .live],[ae.mk 5 [[.n .i64 gR,.n .i64 eL,.isl 1 (dh.map eI),.isl 1 (dO.map eI),.isl 1 (gX.map eI)]] .live],[ae.mk 5 [(hj eN b4 4 0 0 cd.length 5 0 0 ft.length 6 0 0 fG.length)] .live],(a9 1 eI cd),(a9 1 eI ft),(a9 1 eI fG)]
def zb (b4:Int)(kX:List bh)(lm:Int)(b2:List aM)(b1:List aX)(gR eL:Int)(dh dO gX:List Int)(eN:Int)(fG:List Int):((List Int)×(List Int))→dY
 | a=>⟨some 2,[(6,.ref 0 0 0 0),(9,.ref 1 0 0 0)],[[ae.mk 5 [[.n .i64 (0:Int),.n .i64 (0:Int),.cv,.cv,.cv]] .live],[ae.mk 5 [(hj eN b4 2 0 0 a.1.length 3 0 0 a.2.length 4 0 0 fG.length)] .live],(a9 1 eI a.1),(a9 1 eI a.2),(a9 1 eI fG)]⟩
def qZ (b4:Int)(kX:List bh)(lm:Int)(b2:List aM)(b1:List aX)(gR eL:Int)(dh dO gX:List Int)(eN:Int)(fG:List Int)(gE:Int)(cd ft:List Int):Option ((Int×(List Int)×(List Int))⊕((List Int)×(List Int))) :=
 if (decide (gE<lm))=true then
  if 0≤gE∧gE<kX.length then
  kX[gE.toNat]? >>= fun aK =>
  rJ (⟨b2,b1⟩:bl) aK b4 (ai (eL+(ai ((2:Int)*gE)))) >>= fun aQ =>
  if (cd++aQ).length*8≤140737488355328 then
  rJ (⟨b2,b1⟩:bl) (⟨aK.bc,aK.bi,aK.cz,aK.de⟩:bh) b4 (ai ((ai (eL+(ai ((2:Int)*gE))))+(1:Int))) >>= fun aG =>
  if ((cd++aQ)++aG).length*8≤140737488355328 then
  if (ft++([0,0]:List Int)).length*8≤140737488355328 then
  some (.inl (ai (gE+(1:Int)),(cd++aQ)++aG,ft++([0,0]:List Int)))
  else none
  else none
  else none
  else none
 else
  some (.inr (cd,ft))
def v8 (b4:Int)(kX:List bh)(lm:Int)(b2:List aM)(b1:List aX)(gR eL:Int)(dh dO gX:List Int)(eN:Int)(fG:List Int)(gE:Int)(cd ft:List Int):Option ((List Int)×(List Int)):=iter (fun w:Int×(List Int)×(List Int)=>qZ b4 kX lm b2 b1 gR eL dh dO gX eN fG w.1 w.2.1 w.2.2) (gE,cd,ft)
theorem HW {b4:Int}{kX:List bh}{lm:Int}{b2:List aM}{b1:List aX}{gR eL:Int}{dh dO gX:List Int}{eN:Int}{fG:List Int}{gE:Int}{cd ft:List Int}:bG (qZ b4 kX lm b2 b1 gR eL dh dO gX eN fG gE cd ft) (eD bo 114 0 24 [1,1,1,1,1,0,1,0,0] (y2 b4 kX lm b2 b1 gR eL dh dO gX eN fG (gE,cd,ft)) (y2 b4 kX lm b2 b1 gR eL dh dO gX eN fG) (zb b4 kX lm b2 b1 gR eL dh dO gX eN fG)):=by
 unfold qZ
 exact .ite (fun h1 =>
  .bC fun h2 =>
  .aN fun aK ax =>
  .aN fun aQ a4 =>
  .bC fun bj =>
  .aN fun aG dt =>
  .bC fun cB =>
  .bC fun eP =>
  .ret (let q1:=(ft++([0,0]:List Int));let q2:=dH (cd++aQ);bN [(R 1),.ad true,.aH (bJ 2 (.cO (eTBlock aK)) 3),.aH (al 10 (au (b3 4 (.isl 1 (aQ.map eI)) false) (au (.aB ((cd++aQ).length)) (al 2 [])))),.aH (al 19 (au (b3 4 (.isl 1 (aG.map eI)) false) (au (.aB (((cd++aQ)++aG).length)) (al 2 [])))),.aH (bJ 3 (.aB (q1.length)) 2),(R 2),.bf [0,1,2,3,48,54,6] [.box [.id,.id],.box [.id,.id,.id,.id,.id],.box [.id,.id,.id,.id,.id],.box [.id,.id,.id,.id,.id],.di (a9 1 eI ((cd++aQ)++aG)),.di (a9 1 eI q1),.pure] (bH [3,6,7,8,9,65,66,67])] (.bA h1 h2.1 (dL eTBlock h2.2) (dr eTBlock ax) (Dn aQ a4) (jl eI cd) (m1 (dH cd) (d6 eI aQ):(cd++aQ).length=cd.length+(aQ.map eI).length) bj (.bA (Dn aG dt) (oU (kl (d6 eI cd) (dH cd) (d6 eI aQ)) q2) (m1 q2 (d6 eI aG):((cd++aQ)++aG).length=((cd++aQ).length)+(aG.map eI).length) cB (mZ (show [[.n .i64 (0:Int)],[.n .i64 (0:Int)]]=(([0,0]:List Int)).map eI from rfl) (show 2=([0,0]:List Int).length from rfl)) (jl eI ft) (m1 (dH ft) (mz (show [[.n .i64 (0:Int)],[.n .i64 (0:Int)]]=(([0,0]:List Int)).map eI from rfl) (show 2=([0,0]:List Int).length from rfl)):q1.length=ft.length+(([[.n .i64 (0:Int)],[.n .i64 (0:Int)]].drop 0).take 2).length) eP (.ez (dZ 1 .live (kl (kl (d6 eI cd) (dH cd) (d6 eI aQ)) q2 (d6 eI aG))) (bE 1 .live bq ((cd++aQ)++aG)) (dZ 1 .live (kl (d6 eI ft) (dH ft) (mz (show [[.n .i64 (0:Int)],[.n .i64 (0:Int)]]=(([0,0]:List Int)).map eI from rfl) (show 2=([0,0]:List Int).length from rfl)))) (bE 1 .live bq q1) (bE 1 .live bq fG))))))
  (fun h1 =>
  .ret (bN [(R 1),.ad false,.bf [1,3,4,5,6] [.box [.id,.id,.id,.id,.id],.box [.id,.id,.id,.id,.id],.pure,.pure,.pure] (bH [6,9])] (.cS h1 (bE 1 .live bq cd) (bE 1 .live bq ft) (bE 1 .live bq fG))))
theorem Iy {b4:Int}{kX:List bh}{lm:Int}{b2:List aM}{b1:List aX}{gR eL:Int}{dh dO gX:List Int}{eN:Int}{fG:List Int}{gE:Int}{cd ft:List Int}{r} (h:v8 b4 kX lm b2 b1 gR eL dh dO gX eN fG gE cd ft=some r):eE bo 114 0 24 [1,1,1,1,1,0,1,0,0] (y2 b4 kX lm b2 b1 gR eL dh dO gX eN fG) (zb b4 kX lm b2 b1 gR eL dh dO gX eN fG) (gE,cd,ft) r:=eF (fun _=>HW) h
def tp (ao:bl)(b6:List Int)(cP:List bh):Option iH :=
 tn ao b6 >>= fun r1 =>
 if (([]:List Int)++r1.bc).length*8≤140737488355328 then
 if 0≤(ai (r1.ks+(ai ((2:Int)*(len_ eTBlock cP)))))∧(8:Int)*(ai (r1.ks+(ai ((2:Int)*(len_ eTBlock cP)))))≤281474976710656∧(ai (r1.ks+(ai ((2:Int)*(len_ eTBlock cP)))))<9223372036854775808 then
 v7 cP (ai (r1.ks+(ai ((2:Int)*(len_ eTBlock cP))))) ao.bb ao.aR r1.m7 r1.ks r1.bi r1.bc r1.oK (ai (r1.m7+(ai ((2:Int)*(len_ eTBlock cP))))) (([]:List Int)++r1.bc) (List.replicate (ai (r1.ks+(ai ((2:Int)*(len_ eTBlock cP))))).toNat 0:List Int) 0 ([]:List Int) >>= fun aQ =>
 v8 (ai (r1.ks+(ai ((2:Int)*(len_ eTBlock cP))))) cP (len_ eTBlock cP) ao.bb ao.aR r1.m7 r1.ks r1.bi r1.bc r1.oK (ai (r1.m7+(ai ((2:Int)*(len_ eTBlock cP))))) (List.replicate (ai (r1.ks+(ai ((2:Int)*(len_ eTBlock cP))))).toNat 0:List Int) 0 aQ (([]:List Int)++r1.bc) >>= fun ch =>
 some (⟨ai (r1.m7+(ai ((2:Int)*(len_ eTBlock cP)))),ai (r1.ks+(ai ((2:Int)*(len_ eTBlock cP)))),ch.1,ch.2,(List.replicate (ai (r1.ks+(ai ((2:Int)*(len_ eTBlock cP))))).toNat 0:List Int)⟩:iH)
 else none
 else none
theorem IZ {ao:bl}{b6:List Int}{cP:List bh}:bG (tp ao b6 cP) (fun r=>Con bo 24 [.agg (ed ao),.isl 1 (b6.map eI),.isl 4 (cP.map eTBlock)] [] (.agg (lX r)) []):=by
 unfold tp
 exact .aN fun r1 h2 =>
  .bC fun af =>
  .bC fun ax =>
  .aN fun aQ a4 =>
  .aN fun ch cI =>
  .ret (let q1:=(ai (r1.ks+(ai ((2:Int)*(len_ eTBlock cP)))));let q2:=(List.replicate q1.toNat 0:List Int);let cg:=(([]:List Int)++r1.bc);let dM:=(ai (r1.m7+(ai ((2:Int)*(len_ eTBlock cP)))));ba [(R 2),.aH (bJ 2 (b3 2 (.agg (lX r1)) false) 2),(R 7),.aH (bJ 10 (.aB (cg.length)) 5),(R 1),.xK 28 2 1,.bf [0,1,5,28,31,24,26] [.box [.id,.id],.box [.id,.id,.id,.id,.id],.box [.id,.id,.id,.id,.id],.box [.id,.id,.len (([]:List Int).length),.id,.len (q2.length)],.di (a9 1 eI ([]:List Int)),.di (a9 1 eI cg),.di (a9 1 eI q2)] (bH [2,3,6,7,8,9,10]),(za cP q1 ao.bb ao.aR r1.m7 r1.ks r1.bi r1.bc r1.oK dM cg q2 aQ).g9,(R 3),.bf [0,1,2,3,4,5,6] [.box [.id,.id],.box [.id,.id,.id,.id,.id],.box [.id,.id,.id,.id,.id],.box [.id,.id,.id,.id,.id],.pure,.pure,.pure] (bH [3,6,7,8,9,65,66,67]),(zb q1 cP (len_ eTBlock cP) ao.bb ao.aR r1.m7 r1.ks r1.bi r1.bc r1.oK dM q2 ch).g9,(R 2)] (.bA (IY r1 h2) (oU (show []=(([]:List Int)).map eI from rfl) (jm Int)) (m1 (jm Int) (d6 eI r1.bc):cg.length=0+(r1.bc.map eI).length) af ax.1 (Int.le_refl q1) ax.2.1 ax.2.2 (.bA (jm Int) (mw q1.toNat (0:Int)) (dZ 1 .live (vB eI)) (bE 1 .live bq ([]:List Int)) (dZ 1 .live (kl (show []=(([]:List Int)).map eI from rfl) (jm Int) (d6 eI r1.bc))) (bE 1 .live bq cg) (dZ 1 .live (l4 eI q1.toNat 0)) (bE 1 .live bq q2) (.bA (Ix a4) (bE 1 .live bq aQ) (bE 1 .live bq cg) (bE 1 .live bq q2) (Iy cI) (eh eI ch.1) (ec eI ch.1) (du bq ch.1) (.d5 (eh eI ch.2) (ec eI ch.2) (du bq ch.2) (eh eI q2) (ec eI q2) (du bq q2))))) (.bn (.agg [.id,.id,.dC (ch.1.map eI),.dC (ch.2.map eI),.dC (q2.map eI)])))
def tg (ao:bl)(b6:List Int)(cP:List bh):Option iH :=
 pF ao b6 >>= fun r1 =>
 if r1=true then
  rC ao cP >>= fun cK =>
  if cK=true then
   tp ao b6 cP >>= fun ch =>
   some ch
  else
   some (⟨0,0,([]:List Int),([]:List Int),([]:List Int)⟩:iH)
 else
  some (⟨0,0,([]:List Int),([]:List Int),([]:List Int)⟩:iH)
theorem IE {ao:bl}{b6:List Int}{cP:List bh}:bG (tg ao b6 cP) (fun r=>Con bo 6 [.agg (ed ao),.isl 1 (b6.map eI),.isl 4 (cP.map eTBlock)] [] (.agg (lX r)) []):=by
 unfold tg
 exact .aN fun r1 h2 =>
  (have bt:=((.e2 (JO r1 h2) (aZ.b r1)):cD _);
  .ite (fun af =>
  .aN fun cK a8 =>
  (let t2:List b5:=[(R 2),.aH (al 2 (au (b3 2 (.b r1) true) (al 4 (au (b3 2 (.b cK) true) (al 1 (au (.ad false) []))))))];
  have dR:=bt.aB (.gV (bX af) (bX af) (bX af) (Jh cK a8) (aZ.b cK) (bX af) (bX af));
  .ite (fun a4 =>
  .aN fun ch cI =>
  .ret (ba (t2.append [.ad false,.aH (bJ 3 (b3 3 (.agg (lX ch)) false) 1)]) (dR.aB (.e2 (bX a4) (IZ ch cI)))))
  (fun a4 =>
  .ret (ba (t2.append [.ad true,(R 2)]) (dR.aB (.e1 (bW a4))) (.bn (.agg [.id,.id,.k7 1,.k7 1,.k7 1]))))))
  (fun af =>
  .ret (ba [(R 2),.aH (al 2 (au (b3 2 (.b r1) true) (al 2 (b0 4 (au (.ad true) []))))),.ad true,(R 2)] (bt.aB (.d5 (bW af) (bW af) (bW af) (bW af) (bW af) aW)) (.bn (.agg [.id,.id,.k7 1,.k7 1,.k7 1])))))
def tz (nn:Int):Option Bool :=
 if (decide ((97:Int)≤nn))=true then
  some (decide (nn≤(122:Int)))
 else
  some false
theorem Jj {nn:Int}:bG (tz nn) (fun r=>Con bo 87 [.n .u8 nn] [] (.b r) []):=by
 unfold tz
 exact .ite (fun h1 =>
  .ret (ba [(R 1),.aH (bJ 5 (.ad true) 1)] (.br h1 h1 h1)))
  (fun h1 =>
  .ret (ba [(R 1),.aH (al 3 (b0 2 (au (.ad false) (al 1 []))))] (.br h1 h1 h1)))
def tH (nn:Int):Option Bool :=
 if (decide ((48:Int)≤nn))=true then
  some (decide (nn≤(57:Int)))
 else
  some false
theorem JD {nn:Int}:bG (tH nn) (fun r=>Con bo 88 [.n .u8 nn] [] (.b r) []):=by
 unfold tH
 exact .ite (fun h1 =>
  .ret (ba [(R 1),.aH (bJ 5 (.ad true) 1)] (.br h1 h1 h1)))
  (fun h1 =>
  .ret (ba [(R 1),.aH (al 3 (b0 2 (au (.ad false) (al 1 []))))] (.br h1 h1 h1)))
def zI (ao:ByteArray)(ls:Int):Int→S:=fun j1=>dW [(0,.s ao),(5,.n .i64 ls),(6,.n .i64 j1)] []
def C8 (ao:ByteArray)(ls:Int):((Unit)⊕(Unit))→dY
 | .inl a=>⟨some 0,[(0,.s ao)],[]⟩
 | .inr a=>⟨none,[(2,.b false)],[]⟩
def s9 (ao:ByteArray)(ls j1:Int):Option ((Int)⊕((Unit)⊕(Unit))) :=
 if (decide (j1<ls))=true then
  if 0≤j1∧j1<(ao.size:Nat) then
  tz ((ao.data.toList.getD j1.toNat 0).toNat:Int) >>= fun bz =>
  if bz=true then
   some (.inl (ai (j1+(1:Int))))
  else
   if (j1 == (0:Int))=true then
    some (.inr (.inr ()))
   else
    tH ((ao.data.toList.getD j1.toNat 0).toNat:Int) >>= fun ch =>
    if ch=true then
     some (.inl (ai (j1+(1:Int))))
    else
     some (.inr (.inr ()))
  else none
 else
  some (.inr (.inl ()))
def wc (ao:ByteArray)(ls j1:Int):Option ((Unit)⊕(Unit)):=iter (fun w:Int=>s9 ao ls w) j1
theorem Ip {ao:ByteArray}{ls j1:Int}:bG (s9 ao ls j1) (eD bo 33 0 80 [1,0,1,0,0] (zI ao ls j1) (zI ao ls) (C8 ao ls)):=by
 unfold s9
 exact .ite (fun h1 =>
  .bC fun h2 =>
  .aN fun bz ax =>
  (let t1:List b5:=[(R 1),.ad true,(R 2)];
  have aY:=((.ez h1 h2.1 h2.2 (Jj bz ax) (aZ.b bz)):cD _);
  .ite (fun a8 =>
  .ret (bN (t1.append [.aH (al 3 (au (b3 1 (.b bz) true) (al 2 (b0 3 (al 5 (b0 1 (au (.ad false) []))))))),.ad false,(R 2),.bf [] [] (bH [0,5,6])]) (aY.aB (.d5 (bX a8) (bX a8) (bX a8) (bX a8) (bX a8) eg))))
  (fun a8 =>
  (have dR:=aY.aB (.br (bW a8) (bW a8) (bW a8));
  .ite (fun a4 =>
  .ret (bN (t1.append [.aH (al 3 (au (b3 1 (.b bz) true) (al 5 (b0 5 (au (.ad true) (au (.ad true) [])))))),.ad true,(R 1),.bf [] [] (bH [2])]) (dR.aB (.bA a4 a4 a4 a4 a4 (bW a8) a4 (bW a8) (.e1 aW)))))
  (fun a4 =>
  .aN fun ch cI =>
  (let t4:List b5:=t1.append [.aH (al 3 (au (b3 1 (.b bz) true) (al 8 (au (b3 1 (.b ch) true) (al 1 (au (.ad false) (au (.ad true) [])))))))];
  have i9:=dR.aB (.bA a4 a4 a4 h2.1 h2.2 a4 (JD ch cI) (aZ.b ch) (.cS a4 (bW a8) a4 (bW a8)));
  .ite (fun dt =>
  .ret (bN (t4.append [.ad false,(R 2),.bf [] [] (bH [0,5,6])]) (i9.aB (.e1 (bX dt)))))
  (fun dt =>
  .ret (bN (t4.append [.ad true,(R 1),.bf [] [] (bH [2])]) (i9.aB (.e1 (bW dt)))))))))))
  (fun h1 =>
  .ret (bN [(R 1),.ad false,.bf [] [] (bH [0])] (.e1 h1)))
theorem zQ {ao:ByteArray}{ls j1:Int}{r} (h:wc ao ls j1=some r):eE bo 33 0 80 [1,0,1,0,0] (zI ao ls) (C8 ao ls) j1 r:=eF (fun _=>Ip) h
def tN (ao:ByteArray):Option Bool :=
 wc ao (ao.size:Int) 0 >>= fun r1 =>
 match r1 with
 | .inl dq=>(if (!(ao.toList == (⟨#[]⟩:ByteArray).toList))=true then
  some (decide ((ao.size:Int)≤(8:Int)))
  else
   some false)
 | .inr dq=>(some false)
theorem JP {ao:ByteArray}:bG (tN ao) (fun r=>Con bo 80 [.s ao] [] (.b r) []):=by
 unfold tN
 exact .aN fun r1 h2 =>
  (let t1:List b5:=[(R 1),(R 3),.bf [] [] (bH [0,5,6])];
  (by
  rcases r1 with dq|dq
  ·exact ((let t2:List b5:=t1.append [.sub (.exit 0) [(0,.s ao)] []];
  .ite (fun ax =>
  .ret (ba (t2.append [.aH (bJ 6 (.ad true) 1)]) (.ez (zQ h2) ax ax ax ax)))
  (fun ax =>
  .ret (ba (t2.append [.aH (al 3 (b0 3 (au (.ad false) (al 1 []))))]) (.ez (zQ h2) ax ax ax ax)))))
  ·exact (.ret (ba (t1.append [.sub (.ret) [(2,.b false)] []]) (.e1 (zQ h2))))))
def rH (b4:Int):Option Bool :=
 if (decide ((-50:Int)≤b4))=true then
  some (decide (b4≤(50:Int)))
 else
  some false
theorem Dk {b4:Int}:bG (rH b4) (fun r=>Con bo 81 [.n .i64 b4] [] (.b r) []):=by
 unfold rH
 exact .ite (fun h1 =>
  .ret (ba [(R 1),.aH (bJ 5 (.ad true) 1)] (.br h1 h1 h1)))
  (fun h1 =>
  .ret (ba [(R 1),.aH (al 3 (b0 2 (au (.ad false) (al 1 []))))] (.br h1 h1 h1)))
def tI (gf:aM):Option Bool :=
 tN gf.eM >>= fun r1 =>
 if r1=true then
  rH gf.dI >>= fun cK =>
  if cK=true then
   rH gf.dF >>= fun ch =>
   some ch
  else
   some false
 else
  some false
theorem JE {gf:aM}:bG (tI gf) (fun r=>Con bo 63 [.agg (aP gf)] [] (.b r) []):=by
 unfold tI
 exact .aN fun r1 h2 =>
  (have bt:=((.e2 (JP r1 h2) (aZ.b r1)):cD _);
  .ite (fun af =>
  .aN fun cK a8 =>
  (have aY:=bt.aB (.d5 af af af (Dk cK a8) (aZ.b cK) af);
  .ite (fun a4 =>
  .aN fun ch cI =>
  .ret (ba [(R 2),.aH (al 2 (au (b3 1 (.b r1) true) (al 3 (au (b3 1 (.b cK) true) (au (.ad true) (al 3 (au (b3 1 (.b ch) true) (au (.ad true) (al 1 [])))))))))] (aY.aB (.d5 a4 a4 a4 (Dk ch cI) (aZ.b ch) a4))))
  (fun a4 =>
  .ret (ba [(R 2),.aH (al 2 (au (b3 1 (.b r1) true) (al 3 (au (b3 1 (.b cK) true) (au (.ad true) (al 1 (b0 3 (au (.ad false) (al 1 [])))))))))] (aY.aB (.cS a4 a4 a4 a4))))))
  (fun af =>
  .ret (ba [(R 2),.aH (al 2 (au (b3 1 (.b r1) true) (al 1 (b0 3 (au (.ad false) (al 1 (b0 3 (al 2 []))))))))] (bt.aB (.gV af af af af eg eg eg)))))
def zR (gf:aM)(dE:ByteArray):Option Bool :=
 some (gf.eM.toList == dE.toList)
theorem IF {gf:aM}{dE:ByteArray}:bG (zR gf dE) (fun r=>Con bo 83 [.agg (aP gf),.df 1 [[.s dE]] 0 0] [] (.b r) []):=by
 unfold zR
 exact .ret (ba [(R 2),(R 5)] .nil)
def ye (ao:List aM)(gS:ByteArray)(eT:Int):Int→S:=fun c1=>dW [(0,.isl 4 (ao.map aP)),(1,.fn 83 [.df 1 [[.s gS]] 0 0]),(7,.n .i64 eT),(8,.n .i64 c1)] []
def Ct (ao:List aM)(gS:ByteArray)(eT:Int):((Unit)⊕(Int))→dY
 | .inl a=>⟨some 0,[],[]⟩
 | .inr a=>⟨none,[(4,.n .i64 a)],[]⟩
def yf (ao:List aM)(gS:ByteArray)(eT c1:Int):Option ((Int)⊕((Unit)⊕(Int))) :=
 if (decide (c1<eT))=true then
  if 0≤c1∧c1<ao.length then
  ao[c1.toNat]? >>= fun aK =>
  zR aK gS >>= fun aQ =>
  if aQ=true then
   some (.inr (.inr c1))
  else
   some (.inl (ai (c1+(1:Int))))
  else none
 else
  some (.inr (.inl ()))
def vN (ao:List aM)(gS:ByteArray)(eT c1:Int):Option ((Unit)⊕(Int)):=iter (fun w:Int=>yf ao gS eT w) c1
theorem Ha {ao:List aM}{gS:ByteArray}{eT c1:Int}:bG (yf ao gS eT c1) (eD bo 19 0 82 [1,0,1,0,0] (ye ao gS eT c1) (ye ao gS eT) (Ct ao gS eT)):=by
 unfold yf
 exact .ite (fun h1 =>
  .bC fun h2 =>
  .aN fun aK ax =>
  .aN fun aQ a4 =>
  (let t1:List b5:=[(R 1),.ad true,(R 2),.aH (al 4 (au (.cO (aP aK)) (au (b3 2 (.b aQ) true) [])))];
  have aY:=((.d5 h1 h2.1 (dL aP h2.2) (dr aP ax) (IF aQ a4) (aZ.b aQ)):cD _);
  .ite (fun bj =>
  .ret (bN (t1.append [.ad true,(R 2),.bf [] [] (bH [4])]) (aY.aB (.e1 bj))))
  (fun bj =>
  .ret (bN (t1.append [.ad false,(R 2),.bf [] [] [(0,ii),(1,.comp [.dE .id]),(7,ii),(8,ii)]]) (aY.aB (.e1 bj))))))
  (fun h1 =>
  .ret (bN [(R 1),.ad false,.bf [] [] []] (.e1 h1)))
theorem Cv {ao:List aM}{gS:ByteArray}{eT c1:Int}{r} (h:vN ao gS eT c1=some r):eE bo 19 0 82 [1,0,1,0,0] (ye ao gS eT) (Ct ao gS eT) c1 r:=eF (fun _=>Ha) h
def vQ (ao:List aM)(lf:ByteArray):Option Int :=
 vN ao lf (len_ aP ao) 0 >>= fun r1 =>
 match r1 with
 | .inl dq=>(some (-1))
 | .inr dq=>(some dq)
theorem Hv {ao:List aM}{lf:ByteArray}:bG (vQ ao lf) (fun r=>Con bo 82 [.isl 4 (ao.map aP),.fn 83 [.df 1 [[.s lf]] 0 0]] [] (.n .i64 r) []):=by
 unfold vQ
 exact .aN fun r1 h2 =>
  (let t1:List b5:=[(R 1),(R 3),.bf [] [] [(0,ii),(1,.comp [.dE .id]),(7,ii),(8,ii)]];
  (by
  rcases r1 with dq|dq
  ·exact (.ret (ba (t1.append [.sub (.exit 0) [] [],(R 1)]) (.e1 (Cv h2))))
  ·exact (.ret (ba (t1.append [.sub (.ret) [(4,.n .i64 dq)] []]) (.e1 (Cv h2))))))
def tq (ao:bl)(hH:ByteArray):Option Int :=
 vQ ao.bb hH >>= fun r1 =>
 some r1
theorem I0 {ao:bl}{hH:ByteArray}:bG (tq ao hH) (fun r=>Con bo 64 [.agg (ed ao),.s hH] [] (.n .i64 r) []):=by
 unfold tq
 exact .aN fun r1 h2 =>
  .ret (ba [(R 3),.aH (bJ 3 (.call {ac:=[ii,.comp [.ptr [.id]]],r:= .n .i64 r1,dk:=true,dx:=[1]}) 1)] (.br (nG (EW hH):gO [[.s hH]]) (Hv r1 h2) (aZ.n .i64 r1)))
def s6 (ao:bl)(ht:aX):Option Bool :=
 if (decide (ht.bi<(0:Int)))=true then
  some false
 else
  if (decide ((len_ aP ao.bb)≤ht.bi))=true then
   some false
  else
   if (decide (ht.bc<(0:Int)))=true then
    some false
   else
    if (decide ((len_ aP ao.bb)≤ht.bc))=true then
     some false
    else
     if (decide (ht.ee<(1:Int)))=true then
      some false
     else
      if (decide ((3:Int)<ht.ee))=true then
       some false
      else
       if 0≤ht.bi∧ht.bi<ao.bb.length then
       ao.bb[ht.bi.toNat]? >>= fun jk =>
       if 0≤ht.bc∧ht.bc<ao.bb.length then
       ao.bb[ht.bc.toNat]? >>= fun gL =>
       if (jk.dI != gL.dI)=true then
        if jk.eB=true then
         some (!gL.eB)
        else
         some true
       else
        if (jk.dF != gL.dF)=true then
         if jk.eB=true then
          some (!gL.eB)
         else
          some true
        else
         some false
       else none
       else none
theorem HX {ao:bl}{ht:aX}:bG (s6 ao ht) (fun r=>Con bo 67 [.df 2 [(ed ao)] 0 0,.agg (aU ht)] [] (.b r) []):=by
 unfold s6
 exact .ite (fun h1 =>
  .ret (ba [(R 2),(R 6),.aH (al 4 (b0 4 (au (.ad true) (al 1 (b0 3 (al 2 (b0 4 (al 2 (b0 3 (al 2 (b0 3 (al 1 [])))))))))))),.ad true,(R 1)] (.bA h1 h1 h1 h1 h1 aW aW aW (.bA aW aW aW aW aW aW aW aW (.br aW aW aW)))))
  (fun h1 =>
  .ite (fun h2 =>
  .ret (ba [(R 2),(R 6),.aH (al 8 (au (.ad false) (al 1 (b0 3 (au (.ad true) (al 1 (b0 4 (al 2 (b0 3 (al 2 (b0 3 (al 1 [])))))))))))),.ad true,(R 1)] (.bA h1 h1 h1 h1 h1 h2 h2 h2 (.bA h2 aW aW aW aW aW aW aW (.cS aW aW aW aW)))))
  (fun h2 =>
  (have bt:=((.bA h1 h1 h1 h1 h1 h2 h2 h2 (.e1 h2)):cD _);
  .ite (fun af =>
  .ret (ba [(R 2),(R 6),.aH (al 8 (au (.ad false) (al 4 (au (.ad false) (al 1 (b0 4 (au (.ad true) (al 1 (b0 3 (al 2 (b0 3 (al 1 [])))))))))))),.ad true,(R 1)] (bt.aB (.bA af af af af af aW aW aW (.cS aW aW aW aW)))))
  (fun af =>
  .ite (fun ax =>
  .ret (ba [(R 2),(R 6),.aH (al 8 (au (.ad false) (al 4 (au (.ad false) (al 5 (au (.ad false) (al 1 (b0 3 (au (.ad true) (al 1 (b0 3 (al 1 [])))))))))))),.ad true,(R 1)] (bt.aB (.bA af af af af af ax ax ax (.ez ax aW aW aW aW)))))
  (fun ax =>
  (have aY:=bt.aB (.bA af af af af af ax ax ax (.e1 ax));
  .ite (fun a8 =>
  .ret (ba [(R 2),(R 6),.aH (al 8 (au (.ad false) (al 4 (au (.ad false) (al 5 (au (.ad false) (al 4 (au (.ad false) (al 1 (b0 3 (au (.ad true) []))))))))))),.ad true,(R 1)] (aY.aB (.ez a8 a8 a8 a8 aW))))
  (fun a8 =>
  (let t3:List b5:=[(R 2),(R 6),.aH (al 8 (au (.ad false) (al 4 (au (.ad false) (al 5 (au (.ad false) (al 4 (au (.ad false) (al 4 (au (.ad false) []))))))))))];
  .ite (fun a4 =>
  .ret (ba (t3.append [.ad true,(R 1)]) (aY.aB (.ez a8 a8 a8 a8 a4))))
  (fun a4 =>
  .bC fun bj =>
  .aN fun jk dt =>
  .bC fun cB =>
  .aN fun gL i6 =>
  (let t4:List b5:=t3.append [.ad false,.aH (al 7 (au (.cO (aP jk)) (bJ 7 (.cO (aP gL)) 4)))];
  have i9:=aY.aB (.bA a8 a8 a8 a8 a4 bj.1 (dL aP bj.2) (dr aP dt) (.br cB.1 (dL aP cB.2) (dr aP i6)));
  .ite (fun ff =>
  (have kL:=i9.aB (.bA ff ff ff ff ff ff aW aW (.e1 aW));
  .ite (fun gg =>
  .ret (ba (t4.append [.aH (al 6 (b0 5 (au (.ad true) (bJ 6 (.ad true) 3))))]) (kL.aB (.ez gg gg aW gg aW))))
  (fun gg =>
  .ret (ba (t4.append [.aH (al 6 (b0 5 (au (.ad true) (al 4 (b0 2 (au (.ad false) (al 3 [])))))))]) (kL.aB (.ez gg gg aW gg aW))))))
  (fun ff =>
  .ite (fun gg =>
  (have kL:=i9.aB (.bA ff ff ff ff ff ff gg gg (.e1 gg));
  .ite (fun oC =>
  .ret (ba (t4.append [.aH (al 11 (au (.ad false) (al 6 (au (.ad true) (bJ 1 (.ad true) 1)))))]) (kL.aB (.d5 oC oC gg oC gg gg))))
  (fun oC =>
  .ret (ba (t4.append [.aH (al 11 (au (.ad false) (al 4 (b0 2 (au (.ad false) (bJ 1 (.ad true) 1))))))]) (kL.aB (.d5 oC oC gg oC gg gg))))))
  (fun gg =>
  .ret (ba (t4.append [.aH (al 11 (au (.ad false) (al 1 (b0 3 (al 2 (b0 2 (au (.ad false) (al 1 []))))))))]) (i9.aB (.bA ff ff ff ff ff ff gg gg (.cS gg gg gg gg))))))))))))))))
def rq (ht:aX)(dE:bl):Option Bool :=
 s6 dE ht >>= fun r1 =>
 some (!r1)
theorem Iz {ht:aX}{dE:bl}:bG (rq ht dE) (fun r=>Con bo 66 [.agg (aU ht),.df 2 [(ed dE)] 0 0] [] (.b r) []):=by
 unfold rq
 exact .aN fun r1 h2 =>
  .ret (ba [(R 2),.aH (bJ 1 (b3 2 (.b r1) true) 2)] (.e2 (HX r1 h2) (aZ.b r1)))
def yd (ao:List aX)(gS:List aM)(lg:List aX)(eT:Int):Int→S:=fun c1=>dW [(0,.isl 3 (ao.map aU)),(1,.fn 66 [.df 2 [[.isl 4 (gS.map aP),.isl 3 (lg.map aU)]] 0 0]),(7,.n .i64 eT),(8,.n .i64 c1)] []
def Cs (ao:List aX)(gS:List aM)(lg:List aX)(eT:Int):((Unit)⊕(Int))→dY
 | .inl a=>⟨some 0,[],[]⟩
 | .inr a=>⟨none,[(4,.n .i64 a)],[]⟩
def mu (ao:List aX)(gS:List aM)(lg:List aX)(eT c1:Int):Option ((Int)⊕((Unit)⊕(Int))) :=
 if (decide (c1<eT))=true then
  if 0≤c1∧c1<ao.length then
  ao[c1.toNat]? >>= fun aK =>
  rq aK (⟨gS,lg⟩:bl) >>= fun aQ =>
  if aQ=true then
   some (.inr (.inr c1))
  else
   some (.inl (ai (c1+(1:Int))))
  else none
 else
  some (.inr (.inl ()))
def sT (ao:List aX)(gS:List aM)(lg:List aX)(eT c1:Int):Option ((Unit)⊕(Int)):=iter (fun w:Int=>mu ao gS lg eT w) c1
theorem G9 {ao:List aX}{gS:List aM}{lg:List aX}{eT c1:Int}:bG (mu ao gS lg eT c1) (eD bo 19 0 84 [1,0,1,0,0] (yd ao gS lg eT c1) (yd ao gS lg eT) (Cs ao gS lg eT)):=by
 unfold mu
 exact .ite (fun h1 =>
  .bC fun h2 =>
  .aN fun aK ax =>
  .aN fun aQ a4 =>
  (let t1:List b5:=[(R 1),.ad true,(R 2),.aH (al 4 (au (.cO (aU aK)) (au (b3 2 (.b aQ) true) [])))];
  have aY:=((.d5 h1 h2.1 (dL aU h2.2) (dr aU ax) (Iz aQ a4) (aZ.b aQ)):cD _);
  .ite (fun bj =>
  .ret (bN (t1.append [.ad true,(R 2),.bf [] [] (bH [4])]) (aY.aB (.e1 bj))))
  (fun bj =>
  .ret (bN (t1.append [.ad false,(R 2),.bf [] [] [(0,ii),(1,.comp [.dE .id]),(7,ii),(8,ii)]]) (aY.aB (.e1 bj))))))
  (fun h1 =>
  .ret (bN [(R 1),.ad false,.bf [] [] []] (.e1 h1)))
theorem Cu {ao:List aX}{gS:List aM}{lg:List aX}{eT c1:Int}{r} (h:sT ao gS lg eT c1=some r):eE bo 19 0 84 [1,0,1,0,0] (yd ao gS lg eT) (Cs ao gS lg eT) c1 r:=eF (fun _=>G9) h
def sX (ao:List aX)(lf:bl):Option Int :=
 sT ao lf.bb lf.aR (len_ aU ao) 0 >>= fun r1 =>
 match r1 with
 | .inl dq=>(some (-1))
 | .inr dq=>(some dq)
theorem Hs {ao:List aX}{lf:bl}:bG (sX ao lf) (fun r=>Con bo 84 [.isl 3 (ao.map aU),.fn 66 [.df 2 [(ed lf)] 0 0]] [] (.n .i64 r) []):=by
 unfold sX
 exact .aN fun r1 h2 =>
  (let t1:List b5:=[(R 1),(R 3),.bf [] [] [(0,ii),(1,.comp [.dE .id]),(7,ii),(8,ii)]];
  (by
  rcases r1 with dq|dq
  ·exact (.ret (ba (t1.append [.sub (.exit 0) [] [],(R 1)]) (.e1 (Cu h2))))
  ·exact (.ret (ba (t1.append [.sub (.ret) [(4,.n .i64 dq)] []]) (.e1 (Cu h2))))))
def sU (ao:List aX)(lf:bl):Option Bool :=
 sX ao lf >>= fun r1 =>
 some (decide ((0:Int)≤r1))
theorem Hk {ao:List aX}{lf:bl}:bG (sU ao lf) (fun r=>Con bo 65 [.isl 3 (ao.map aU),.fn 66 [.df 2 [(ed lf)] 0 0]] [] (.b r) []):=by
 unfold sU
 exact .aN fun r1 h2 =>
  .ret (ba [(R 1),.aH (bJ 2 (b3 2 (.n .i64 r1) true) 2)] (.e2 (Hs r1 h2) (aZ.n .i64 r1)))
def yP (cY:List aM)(eR:Int)(b1:List aX):Int→S:=fun kY=>dW [(1,.ref 0 0 0 0),(16,.isl 4 (cY.map aP)),(17,.n .i64 eR),(18,.n .i64 kY)] [[ae.mk 2 [[.isl 4 (cY.map aP),.isl 3 (b1.map aU)]] .live]]
def y3 (cY:List aM)(eR:Int)(b1:List aX):((Unit)⊕(Unit))→dY
 | .inl a=>⟨some 0,[(1,.ref 0 0 0 0)],[[ae.mk 2 [[.isl 4 (cY.map aP),.isl 3 (b1.map aU)]] .live]]⟩
 | .inr a=>⟨none,[(2,.b false)],[]⟩
def vT (cY:List aM)(eR:Int)(b1:List aX)(kY:Int):Option ((Int)⊕((Unit)⊕(Unit))) :=
 if (decide (kY<eR))=true then
  if 0≤kY∧kY<cY.length then
  cY[kY.toNat]? >>= fun aK =>
  tI aK >>= fun aQ =>
  if aQ=true then
   tq (⟨cY,b1⟩:bl) aK.eM >>= fun aG =>
   if (aG != kY)=true then
    some (.inr (.inr ()))
   else
    some (.inl (ai (kY+(1:Int))))
  else
   some (.inr (.inr ()))
  else none
 else
  some (.inr (.inl ()))
def vY (cY:List aM)(eR:Int)(b1:List aX)(kY:Int):Option ((Unit)⊕(Unit)):=iter (fun w:Int=>vT cY eR b1 w) kY
theorem HM {cY:List aM}{eR:Int}{b1:List aX}{kY:Int}:bG (vT cY eR b1 kY) (eD bo 40 0 45 [1,1,0,1,0,0] (yP cY eR b1 kY) (yP cY eR b1) (y3 cY eR b1)):=by
 unfold vT
 exact .ite (fun h1 =>
  .bC fun h2 =>
  .aN fun aK ax =>
  .aN fun aQ a4 =>
  (let t1:List b5:=[(R 1),.ad true,.aH (bJ 2 (.cO (aP aK)) 3)];
  have aY:=((.d5 h1 h2.1 (dL aP h2.2) (dr aP ax) (JE aQ a4) (aZ.b aQ)):cD _);
  .ite (fun bj =>
  .aN fun aG dt =>
  (let t3:List b5:=t1.append [.aH (al 1 (au (b3 1 (.b aQ) true) (al 5 (au (b3 2 (.n .i64 aG) true) (al 2 (au (.ad false) []))))))];
  have eV:=aY.aB (.bA (bX bj) (bX bj) (bX bj) (bX bj) (I0 aG dt) (aZ.n .i64 aG) (bX bj) (bX bj) (.e1 (bX bj)));
  .ite (fun cB =>
  .ret (bN (t3.append [.ad true,(R 1),.bf [] [] (bH [2])]) (eV.aB (.e1 cB))))
  (fun cB =>
  .ret (bN (t3.append [.ad false,(R 2),.bf [0] [.box [.id,.id]] (bH [1,16,17,18])]) (eV.aB (.e1 cB))))))
  (fun bj =>
  .ret (bN (t1.append [.aH (al 1 (au (b3 1 (.b aQ) true) (al 2 (b0 6 (au (.ad true) []))))),.ad true,(R 1),.bf [] [] (bH [2])]) (aY.aB (.hR (bW bj) (bW bj) (bW bj) (bW bj) (bW bj) (bW bj) (bW bj) aW))))))
  (fun h1 =>
  .ret (bN [(R 1),.ad false,.bf [0] [.box [.id,.id]] (bH [1])] (.e1 h1)))
theorem CK {cY:List aM}{eR:Int}{b1:List aX}{kY:Int}{r} (h:vY cY eR b1 kY=some r):eE bo 40 0 45 [1,1,0,1,0,0] (yP cY eR b1) (y3 cY eR b1) kY r:=eF (fun _=>HM) h
def n3 (ao:bl):Option Bool :=
 if (decide ((6:Int)<(len_ aP ao.bb)))=true then
  some false
 else
  if (decide ((8:Int)<(len_ aU ao.aR)))=true then
   some false
  else
   vY ao.bb (len_ aP ao.bb) ao.aR 0 >>= fun bz =>
   match bz with
   | .inl jS=>(sU ao.aR ao >>= fun dN =>
    some (!dN))
   | .inr jS=>(some false)
theorem zJ {ao:bl}:bG (n3 ao) (fun r=>Con bo 45 [.agg (ed ao)] [] (.b r) []):=by
 unfold n3
 exact .ite (fun h1 =>
  .ret (ba [(R 2),.aH (al 5 (b0 4 (au (.ad true) []))),.ad true,(R 1)] (.d5 h1 h1 h1 h1 h1 aW)))
  (fun h1 =>
  (let t1:List b5:=[(R 2),.aH (al 9 (au (.ad false) []))];
  .ite (fun h2 =>
  .ret (ba (t1.append [.ad true,(R 1)]) (.d5 h1 h1 h1 h1 h1 h2)))
  (fun h2 =>
  .aN fun bz ax =>
  (let t2:List b5:=t1.append [.ad false,(R 4),.bf [0] [.box [.id,.id]] (bH [1,16,17,18])];
  (by
  rcases bz with jS|jS
  ·exact (.aN fun dN bj =>
  .ret (ba (t2.append [(y3 ao.bb (len_ aP ao.bb) ao.aR (.inl jS)).g9,.aH (bJ 3 (.call {ac:=[ii,.comp [.ptr [.id,.id]]],r:= .b dN,dk:=true,dx:=[0]}) 2)]) (.bA h1 h1 h1 h1 h1 h2 (CK ax) (nG (nz ao):gO [(ed ao)]) (.e2 (Hk dN bj) (aZ.b dN)))))
  ·exact (.ret (ba (t2.append [.sub (.ret) [(2,.b false)] []]) (.gV h1 h1 h1 h1 h1 h2 (CK ax)))))))))
def tJ (b4:Int):Option Bool :=
 if (decide ((-100:Int)≤b4))=true then
  some (decide (b4≤(100:Int)))
 else
  some false
theorem JF {b4:Int}:bG (tJ b4) (fun r=>Con bo 70 [.n .i64 b4] [] (.b r) []):=by
 unfold tJ
 exact .ite (fun h1 =>
  .ret (ba [(R 1),.aH (bJ 5 (.ad true) 1)] (.br h1 h1 h1)))
  (fun h1 =>
  .ret (ba [(R 1),.aH (al 3 (b0 2 (au (.ad false) (al 1 []))))] (.br h1 h1 h1)))
def wb (b4:Int):Option Bool :=
 tJ b4 >>= fun r1 =>
 some (!r1)
theorem I1 {b4:Int}:bG (wb b4) (fun r=>Con bo 69 [.n .i64 b4] [] (.b r) []):=by
 unfold wb
 exact .aN fun r1 h2 =>
  .ret (ba [(R 1),.aH (bJ 1 (b3 1 (.b r1) true) 2)] (.e2 (JF r1 h2) (aZ.b r1)))
def ys (ao:List Int)(eT:Int):Int→S:=fun c1=>dW [(0,.isl 1 (ao.map eI)),(1,.fn 69 []),(7,.n .i64 eT),(8,.n .i64 c1)] []
def Cw (ao:List Int)(eT:Int):((Unit)⊕(Int))→dY
 | .inl a=>⟨some 0,[],[]⟩
 | .inr a=>⟨none,[(4,.n .i64 a)],[]⟩
def qO (ao:List Int)(eT c1:Int):Option ((Int)⊕((Unit)⊕(Int))) :=
 if (decide (c1<eT))=true then
  if 0≤c1∧c1<ao.length then
  ao[c1.toNat]? >>= fun aK =>
  wb aK >>= fun aQ =>
  if aQ=true then
   some (.inr (.inr c1))
  else
   some (.inl (ai (c1+(1:Int))))
  else none
 else
  some (.inr (.inl ()))
def yB (ao:List Int)(eT c1:Int):Option ((Unit)⊕(Int)):=iter (fun w:Int=>qO ao eT w) c1
theorem Hh {ao:List Int}{eT c1:Int}:bG (qO ao eT c1) (eD bo 19 0 85 [1,0,1,0,0] (ys ao eT c1) (ys ao eT) (Cw ao eT)):=by
 unfold qO
 exact .ite (fun h1 =>
  .bC fun h2 =>
  .aN fun aK ax =>
  .aN fun aQ a4 =>
  (let t1:List b5:=[(R 1),.ad true,(R 2),.aH (al 4 (au (.cO (eI aK)) (au (b3 1 (.b aQ) true) [])))];
  have aY:=((.d5 h1 h2.1 (dL eI h2.2) (dr eI ax) (I1 aQ a4) (aZ.b aQ)):cD _);
  .ite (fun bj =>
  .ret (bN (t1.append [.ad true,(R 2),.bf [] [] (bH [4])]) (aY.aB (.e1 bj))))
  (fun bj =>
  .ret (bN (t1.append [.ad false,(R 2),.bf [] [] (bH [0,1,7,8])]) (aY.aB (.e1 bj))))))
  (fun h1 =>
  .ret (bN [(R 1),.ad false,.bf [] [] []] (.e1 h1)))
theorem Cx {ao:List Int}{eT c1:Int}{r} (h:yB ao eT c1=some r):eE bo 19 0 85 [1,0,1,0,0] (ys ao eT) (Cw ao eT) c1 r:=eF (fun _=>Hh) h
def vS (ao:List Int):Option Int :=
 yB ao (len_ eI ao) 0 >>= fun r1 =>
 match r1 with
 | .inl dq=>(some (-1))
 | .inr dq=>(some dq)
theorem HC {ao:List Int}:bG (vS ao) (fun r=>Con bo 85 [.isl 1 (ao.map eI),.fn 69 []] [] (.n .i64 r) []):=by
 unfold vS
 exact .aN fun r1 h2 =>
  (let t1:List b5:=[(R 1),(R 3),.bf [] [] (bH [0,1,7,8])];
  (by
  rcases r1 with dq|dq
  ·exact (.ret (ba (t1.append [.sub (.exit 0) [] [],(R 1)]) (.e1 (Cx h2))))
  ·exact (.ret (ba (t1.append [.sub (.ret) [(4,.n .i64 dq)] []]) (.e1 (Cx h2))))))
def vP (ao:List Int):Option Bool :=
 vS ao >>= fun r1 =>
 some (decide ((0:Int)≤r1))
theorem Ht {ao:List Int}:bG (vP ao) (fun r=>Con bo 68 [.isl 1 (ao.map eI),.fn 69 []] [] (.b r) []):=by
 unfold vP
 exact .aN fun r1 h2 =>
  .ret (ba [(R 1),.aH (bJ 2 (b3 2 (.n .i64 r1) true) 2)] (.e2 (HC r1 h2) (aZ.n .i64 r1)))
def tA (ao:bl)(b6:List Int):Option Bool :=
 if ((len_ eI b6) == (ai ((2:Int)*(len_ aP ao.bb))))=true then
  vP b6 >>= fun r2 =>
  some (!r2)
 else
  some false
theorem Jk {ao:bl}{b6:List Int}:bG (tA ao b6) (fun r=>Con bo 46 [.df 2 [(ed ao)] 0 0,.isl 1 (b6.map eI)] [] (.b r) []):=by
 unfold tA
 exact .ite (fun h1 =>
  .aN fun r2 af =>
  .ret (ba [(R 1),.aH (al 11 (au (b3 2 (.b r2) true) (bJ 1 (.ad true) 1)))] (.d5 h1 h1 (Ht r2 af) (aZ.b r2) h1 h1)))
  (fun h1 =>
  .ret (ba [(R 1),.aH (al 10 (b0 3 (au (.ad false) (al 1 []))))] (.cS h1 h1 h1 h1)))
def rK (ao:bl)(b6:List Int):Option Bool :=
 n3 ao >>= fun r1 =>
 if r1=true then
  tA ao b6 >>= fun cK =>
  some cK
 else
  some false
theorem JQ {ao:bl}{b6:List Int}:bG (rK ao b6) (fun r=>Con bo 28 [.agg (ed ao),.isl 1 (b6.map eI)] [] (.b r) []):=by
 unfold rK
 exact .aN fun r1 h2 =>
  (have bt:=((.e2 (zJ r1 h2) (aZ.b r1)):cD _);
  .ite (fun af =>
  .aN fun cK a8 =>
  .ret (ba [(R 2),.aH (al 1 (au (b3 1 (.b r1) true) (al 2 (au (.call {ac:=[.bn (.ptr [.id,.id]),ii],r:= .b cK,dk:=true,dx:=[0]}) (au (.ad true) (al 1 []))))))] (bt.aB (.d5 af af (nG (nz ao):gO [(ed ao)]) (Jk cK a8) (aZ.b cK) af))))
  (fun af =>
  .ret (ba [(R 2),.aH (al 1 (au (b3 1 (.b r1) true) (al 1 (b0 2 (au (.ad false) (al 1 []))))))] (bt.aB (.br af af af)))))
def n0 (ao:bl)(aJ:Int):Option Bool :=
 if (decide ((0:Int)≤aJ))=true then
  if (decide (aJ<(len_ aU ao.aR)))=true then
   if 0≤aJ∧aJ<ao.aR.length then
   ao.aR[aJ.toNat]? >>= fun ik =>
   some (ik.ee == (1:Int))
   else none
  else
   some false
 else
  some false
theorem CD {ao:bl}{aJ:Int}:bG (n0 ao aJ) (fun r=>Con bo 71 [.df 2 [(ed ao)] 0 0,.n .i64 aJ] [] (.b r) []):=by
 unfold n0
 exact .ite (fun h1 =>
  .ite (fun h2 =>
  .bC fun af =>
  .aN fun ik a8 =>
  .ret (ba [(R 1),.aH (al 10 (au (.ad true) (al 8 (au (.cO (aU ik)) (bJ 1 (.ad true) 1)))))] (.bA h1 h1 h1 h1 h1 h1 h1 h1 (.bA h2 h2 h2 h2 h2 h2 af.1 (dL aU af.2) (.ez h2 h2 (dr aU a8) h2 h2)))))
  (fun h2 =>
  .ret (ba [(R 1),.aH (al 10 (au (.ad true) (al 1 (b0 9 (au (.ad false) (al 1 []))))))] (.bA h1 h1 h1 h1 h1 h1 h1 h1 (.bA h2 h2 h2 h2 h2 h2 h2 h2 (.e2 h2 h2))))))
  (fun h1 =>
  .ret (ba [(R 1),.aH (al 3 (b0 7 (au (.ad false) (al 1 (b0 9 (al 2 []))))))] (.bA h1 h1 h1 h1 h1 h1 h1 h1 (.bA eg eg eg eg eg eg eg eg (.e1 eg)))))
def th (ht:aX)(uf:Int):Option Int :=
 if (uf == ht.bi)=true then
  some ht.bc
 else
  if (uf == ht.bc)=true then
   some ht.bi
  else
   some (-1)
theorem CO {ht:aX}{uf:Int}:bG (th ht uf) (fun r=>Con bo 72 [.agg (aU ht),.n .i64 uf] [] (.n .i64 r) []):=by
 unfold th
 exact (let t1:List b5:=[(R 2),(R 1),(R 4)];
  .ite (fun h1 =>
  .ret (ba (t1.append [.ad true,(R 3)]) (.e1 h1)))
  (fun h1 =>
  .ite (fun h2 =>
  .ret (ba (t1.append [.ad false,(R 4),.ad true,(R 3)]) (.e2 h1 h2)))
  (fun h2 =>
  .ret (ba (t1.append [.ad false,(R 4),.ad false,(R 1)]) (.e2 h1 h2)))))
def lV (ao:bl)(aJ:Int):Option (Int×Int) :=
 if 0≤aJ∧aJ<ao.aR.length then
 ao.aR[aJ.toNat]? >>= fun x2 =>
 if 0≤x2.bc∧x2.bc<ao.bb.length then
 ao.bb[x2.bc.toNat]? >>= fun cm =>
 if 0≤x2.bi∧x2.bi<ao.bb.length then
 ao.bb[x2.bi.toNat]? >>= fun jk =>
 some (ai (cm.dI-jk.dI),ai (cm.dF-jk.dF))
 else none
 else none
 else none
theorem CE {ao:bl}{aJ:Int}:bG (lV ao aJ) (fun r=>Con bo 75 [.df 2 [(ed ao)] 0 0,.n .i64 aJ] [] (.dm [.n .i64 r.1,.n .i64 r.2]) []):=by
 unfold lV
 exact .bC fun h1 =>
  .aN fun x2 af =>
  .bC fun ax =>
  .aN fun cm a4 =>
  .bC fun bj =>
  .aN fun jk dt =>
  .ret (ba [(R 2),.aH (bJ 6 (.cO (aU x2)) 2),.aH (al 8 (au (.cO (aP cm)) (al 8 (au (.cO (aP jk)) (al 9 (au (.cO (aP cm)) (bJ 8 (.cO (aP jk)) 3)))))))] (.bA h1.1 (dL aU h1.2) (dr aU af) ax.1 (dL aP ax.2) (dr aP a4) bj.1 (dL aP bj.2) (.gV (dr aP dt) ax.1 (dL aP ax.2) (dr aP a4) bj.1 (dL aP bj.2) (dr aP dt))))
def yD (kF kG:Int):Int→S:=fun b4=>dW [(5,.n .i64 kF),(6,.n .i64 kG),(7,.n .i64 b4)] []
def yF (kF kG:Int):Int→dY
 | a=>⟨some 0,[(5,.n .i64 kF),(6,.n .i64 kG),(7,.n .i64 a)],[]⟩
def sY (kF kG b4:Int):Option ((Int)⊕(Int)) :=
 if (decide ((ai (b4*b4))<(ai ((ai (kF*kF))+(ai (kG*kG))))))=true then
  some (.inl (ai (b4+(1:Int))))
 else
  some (.inr b4)
def yQ (kF kG b4:Int):Option (Int):=iter (fun w:Int=>sY kF kG w) b4
theorem Hw {kF kG b4:Int}:bG (sY kF kG b4) (eD bo 39 0 51 [1,1,1,0,0,0] (yD kF kG b4) (yD kF kG) (yF kF kG)):=by
 unfold sY
 exact .ite (fun h1 =>
  .ret (bN [(R 11),.ad true,(R 3),.bf [] [] (bH [5,6,7])] (.e1 h1)))
  (fun h1 =>
  .ret (bN [(R 11),.ad false,.bf [] [] (bH [5,6,7])] (.e1 h1)))
theorem HN {kF kG b4:Int}{r} (h:yQ kF kG b4=some r):eE bo 39 0 51 [1,1,1,0,0,0] (yD kF kG) (yF kF kG) b4 r:=eF (fun _=>Hw) h
def kO (ao:bl)(aJ:Int):Option Int :=
 lV ao aJ >>= fun r1 =>
 yQ r1.1 r1.2 0 >>= fun bz =>
 if ((ai (bz*bz)) != (ai ((ai (r1.1*r1.1))+(ai (r1.2*r1.2)))))=true then
  some 0
 else
  some bz
theorem qT {ao:bl}{aJ:Int}:bG (kO ao aJ) (fun r=>Con bo 51 [.df 2 [(ed ao)] 0 0,.n .i64 aJ] [] (.n .i64 r) []):=by
 unfold kO
 exact .aN fun r1 h2 =>
  .aN fun bz ax =>
  (let t1:List b5:=[(R 1),.aH (bJ 2 (b3 2 (.dm [.n .i64 r1.1,.n .i64 r1.2]) true) 5),(R 1),.bf [] [] (bH [5,6,7]),(yF r1.1 r1.2 bz).g9,(R 11)];
  have aY:=((.br (CE r1 h2) (us (et (aZ.n .i64 r1.1) (et (aZ.n .i64 r1.2) ko))) (HN ax)):cD _);
  .ite (fun a8 =>
  .ret (ba (t1.append [.ad true,(R 1)]) (aY.aB (.e1 a8))))
  (fun a8 =>
  .ret (ba (t1.append [.ad false,(R 2)]) (aY.aB (.e1 a8)))))
def rI (ao:bl)(bx:bh):Option Bool :=
 n3 ao >>= fun r1 =>
 if r1=true then
  if (bx.bi == bx.bc)=true then
   some false
  else
   n0 ao bx.bi >>= fun aQ =>
   if aQ=true then
    n0 ao bx.bc >>= fun aG =>
    if aG=true then
     if (decide (bx.de<(1:Int)))=true then
      some false
     else
      if (decide (bx.cz<bx.de))=true then
       some false
      else
       if (decide ((100:Int)<bx.cz))=true then
        some false
       else
        if 0≤bx.bi∧bx.bi<ao.aR.length then
        ao.aR[bx.bi.toNat]? >>= fun j8 =>
        if 0≤bx.bc∧bx.bc<ao.aR.length then
        ao.aR[bx.bc.toNat]? >>= fun j9 =>
        th j9 j8.bi >>= fun sJ =>
        if (decide (sJ<(0:Int)))=true then
         th j9 j8.bc >>= fun mR =>
         if (decide (mR<(0:Int)))=true then
          some false
         else
          kO ao bx.bi >>= fun sK =>
          kO ao bx.bc >>= fun ka =>
          if (decide ((0:Int)<sK))=true then
           if (decide ((0:Int)<ka))=true then
            if (decide ((ai (sK*bx.cz))≤(100:Int)))=true then
             some (decide ((ai (ka*bx.cz))≤(100:Int)))
            else
             some false
           else
            some false
          else
           some false
        else
         kO ao bx.bi >>= fun mR =>
         kO ao bx.bc >>= fun kb =>
         if (decide ((0:Int)<mR))=true then
          if (decide ((0:Int)<kb))=true then
           if (decide ((ai (mR*bx.cz))≤(100:Int)))=true then
            some (decide ((ai (kb*bx.cz))≤(100:Int)))
           else
            some false
          else
           some false
         else
          some false
        else none
        else none
    else
     some false
   else
    some false
 else
  some false
theorem JG {ao:bl}{bx:bh}:bG (rI ao bx) (fun r=>Con bo 47 [.agg (ed ao),.agg (eTBlock bx)] [] (.b r) []):=by
 unfold rI
 exact .aN fun r1 h2 =>
  (have bt:=((.e2 (zJ r1 h2) (aZ.b r1)):cD _);
  .ite (fun af =>
  (have aY:=bt.aB (.d5 (bX af) (bX af) (bX af) (bX af) (bX af) (bX af));
  .ite (fun ax =>
  .ret (ba [(R 3),.aH (al 1 (au (b3 1 (.b r1) true) (al 7 (au (.ad false) (al 1 (b0 4 (au (.ad true) (al 1 (b0 4 (al 2 (b0 3 (al 2 (b0 5 (al 2 (b0 3 (al 1 [])))))))))))))))),.ad true,(R 1)] (aY.aB (.bA ax ax ax ax ax aW aW aW (.bA aW aW aW aW aW aW aW aW (.ez aW aW aW aW aW))))))
  (fun ax =>
  .aN fun aQ a4 =>
  (have dR:=aY.aB (.hR ax ax ax (nG (nz ao):gO [(ed ao)]) (CD aQ a4) (aZ.b aQ) ax ax);
  .ite (fun bj =>
  .aN fun aG dt =>
  (have eV:=dR.aB (.hR (bX bj) (bX bj) (bX bj) (nG (nz ao):gO [(ed ao)]) (CD aG dt) (aZ.b aG) (bX bj) (bX bj));
  .ite (fun cB =>
  (have i9:=eV.aB (.cS (bX cB) (bX cB) (bX cB) (bX cB));
  .ite (fun eP =>
  .ret (ba [(R 3),.aH (al 1 (au (b3 1 (.b r1) true) (al 7 (au (.ad false) (al 3 (au (.call {ac:=[.bn (.ptr [.id,.id]),ii],r:= .b aQ,dk:=true,dx:=[0]}) (al 1 (au (.ad false) (al 3 (au (.call {ac:=[.bn (.ptr [.id,.id]),ii],r:= .b aG,dk:=true,dx:=[0]}) (al 1 (au (.ad false) (al 4 (au (.ad false) (al 1 (b0 5 (au (.ad true) (al 1 (b0 3 (al 1 [])))))))))))))))))))),.ad true,(R 1)] (i9.aB (.bA eP eP eP eP eP eP aW aW (.e2 aW aW)))))
  (fun eP =>
  .ite (fun i6 =>
  .ret (ba [(R 3),.aH (al 1 (au (b3 1 (.b r1) true) (al 7 (au (.ad false) (al 3 (au (.call {ac:=[.bn (.ptr [.id,.id]),ii],r:= .b aQ,dk:=true,dx:=[0]}) (al 1 (au (.ad false) (al 3 (au (.call {ac:=[.bn (.ptr [.id,.id]),ii],r:= .b aG,dk:=true,dx:=[0]}) (al 1 (au (.ad false) (al 4 (au (.ad false) (al 6 (au (.ad false) (al 1 (b0 3 (au (.ad true) []))))))))))))))))))),.ad true,(R 1)] (i9.aB (.bA eP eP eP eP eP eP i6 i6 (.br i6 i6 aW)))))
  (fun i6 =>
  (let t6:List b5:=[(R 3),.aH (al 1 (au (b3 1 (.b r1) true) (al 7 (au (.ad false) (al 3 (au (.call {ac:=[.bn (.ptr [.id,.id]),ii],r:= .b aQ,dk:=true,dx:=[0]}) (al 1 (au (.ad false) (al 3 (au (.call {ac:=[.bn (.ptr [.id,.id]),ii],r:= .b aG,dk:=true,dx:=[0]}) (al 1 (au (.ad false) (al 4 (au (.ad false) (al 6 (au (.ad false) (al 4 (au (.ad false) []))))))))))))))))))];
  have oL:=i9.aB (.bA eP eP eP eP eP eP i6 i6 (.e2 i6 i6));
  .ite (fun ff =>
  .ret (ba (t6.append [.ad true,(R 1)]) (oL.aB (.e1 ff))))
  (fun ff =>
  .bC fun gg =>
  .aN fun j8 vn =>
  .bC fun mj =>
  .aN fun j9 vo =>
  .aN fun sJ eo =>
  (let t8:List b5:=t6.append [.ad false,.aH (al 5 (au (.cO (aU j8)) (bJ 5 (.cO (aU j9)) 4)))];
  have vG:=oL.aB (.bA ff gg.1 (dL aU gg.2) (dr aU vn) mj.1 (dL aU mj.2) (dr aU vo) (CO sJ eo) (.e1 (aZ.n .i64 sJ)));
  .ite (fun fm =>
  .aN fun mR np =>
  (let t10:List b5:=t8.append [.aH (al 3 (au (b3 2 (.n .i64 sJ) true) (al 5 (au (b3 2 (.n .i64 mR) true) (al 1 (au (.ad true) []))))))];
  have sL:=vG.aB (.hR fm fm fm fm (CO mR np) (aZ.n .i64 mR) fm fm);
  .ite (fun B0 =>
  .ret (ba (t10.append [.ad true,(R 1)]) (sL.aB (.e1 B0))))
  (fun B0 =>
  .aN fun sK jv =>
  .aN fun ka jM =>
  (let t12:List b5:=t10.append [.ad false,.aH (al 2 (au (.call {ac:=[.bn (.ptr [.id,.id]),ii],r:= .n .i64 sK,dk:=true,dx:=[0]}) (bJ 2 (.call {ac:=[.bn (.ptr [.id,.id]),ii],r:= .n .i64 ka,dk:=true,dx:=[0]}) 2)))];
  have B1:=sL.aB (.gV B0 (nG (nz ao):gO [(ed ao)]) (qT sK jv) (aZ.n .i64 sK) (nG (nz ao):gO [(ed ao)]) (qT ka jM) (aZ.n .i64 ka));
  .ite (fun kc =>
  .ite (fun ml =>
  (have pc:=B1.aB (.bA kc kc kc ml ml ml ml ml (.e1 ml));
  .ite (fun kH =>
  .ret (ba (t12.append [.aH (al 5 (au (.ad true) (al 6 (au (.ad true) (bJ 6 (.ad true) 1)))))]) (pc.aB (.d5 kH kH kH kH kH kH))))
  (fun kH =>
  .ret (ba (t12.append [.aH (al 5 (au (.ad true) (al 6 (au (.ad true) (al 1 (b0 5 (au (.ad false) (al 1 []))))))))]) (pc.aB (.d5 kH kH kH kH kH kH))))))
  (fun ml =>
  .ret (ba (t12.append [.aH (al 5 (au (.ad true) (al 1 (b0 5 (au (.ad false) (al 1 (b0 5 (al 2 []))))))))]) (B1.aB (.bA kc kc kc ml ml ml ml ml (.d5 ml eg eg eg eg eg))))))
  (fun kc =>
  .ret (ba (t12.append [.aH (al 3 (b0 2 (au (.ad false) (al 1 (b0 5 (al 2 (b0 5 (al 2 []))))))))]) (B1.aB (.bA kc kc kc eg eg eg eg eg (.ez eg eg eg eg eg)))))))))
  (fun fm =>
  .aN fun mR np =>
  .aN fun kb vp =>
  (let t10:List b5:=t8.append [.aH (al 3 (au (b3 2 (.n .i64 sJ) true) (al 2 (b0 5 (au (.ad false) []))))),.ad false,.aH (al 2 (au (.call {ac:=[.bn (.ptr [.id,.id]),ii],r:= .n .i64 mR,dk:=true,dx:=[0]}) (bJ 2 (.call {ac:=[.bn (.ptr [.id,.id]),ii],r:= .n .i64 kb,dk:=true,dx:=[0]}) 2)))];
  have sL:=vG.aB (.bA fm fm fm fm fm fm eg (nG (nz ao):gO [(ed ao)]) (.ez (qT mR np) (aZ.n .i64 mR) (nG (nz ao):gO [(ed ao)]) (qT kb vp) (aZ.n .i64 kb)));
  .ite (fun jv =>
  .ite (fun mm =>
  (have pd:=sL.aB (.bA jv jv jv mm mm mm mm mm (.e1 mm));
  .ite (fun jM =>
  .ret (ba (t10.append [.aH (al 5 (au (.ad true) (al 6 (au (.ad true) (bJ 6 (.ad true) 1)))))]) (pd.aB (.d5 jM jM jM jM jM jM))))
  (fun jM =>
  .ret (ba (t10.append [.aH (al 5 (au (.ad true) (al 6 (au (.ad true) (al 1 (b0 5 (au (.ad false) (al 1 []))))))))]) (pd.aB (.d5 jM jM jM jM jM jM))))))
  (fun mm =>
  .ret (ba (t10.append [.aH (al 5 (au (.ad true) (al 1 (b0 5 (au (.ad false) (al 1 (b0 5 (al 2 []))))))))]) (sL.aB (.bA jv jv jv mm mm mm mm mm (.d5 mm eg eg eg eg eg))))))
  (fun jv =>
  .ret (ba (t10.append [.aH (al 3 (b0 2 (au (.ad false) (al 1 (b0 5 (al 2 (b0 5 (al 2 []))))))))]) (sL.aB (.bA jv jv jv eg eg eg eg eg (.ez eg eg eg eg eg))))))))))))))
  (fun cB =>
  .ret (ba [(R 3),.aH (al 1 (au (b3 1 (.b r1) true) (al 7 (au (.ad false) (al 3 (au (.call {ac:=[.bn (.ptr [.id,.id]),ii],r:= .b aQ,dk:=true,dx:=[0]}) (al 1 (au (.ad false) (al 3 (au (.call {ac:=[.bn (.ptr [.id,.id]),ii],r:= .b aG,dk:=true,dx:=[0]}) (al 1 (au (.ad false) (al 1 (b0 3 (au (.ad true) (al 1 (b0 5 (al 2 (b0 3 (al 1 [])))))))))))))))))))),.ad true,(R 1)] (eV.aB (.bA (bW cB) (bW cB) (bW cB) (bW cB) aW aW aW aW (.ez aW aW aW aW aW)))))))
  (fun bj =>
  .ret (ba [(R 3),.aH (al 1 (au (b3 1 (.b r1) true) (al 7 (au (.ad false) (al 3 (au (.call {ac:=[.bn (.ptr [.id,.id]),ii],r:= .b aQ,dk:=true,dx:=[0]}) (al 1 (au (.ad false) (al 1 (b0 4 (au (.ad true) (al 1 (b0 3 (al 2 (b0 5 (al 2 (b0 3 (al 1 [])))))))))))))))))),.ad true,(R 1)] (dR.aB (.bA (bW bj) (bW bj) (bW bj) (bW bj) (bW bj) aW aW aW (.bA aW aW aW aW aW aW aW aW (.e1 aW))))))))))
  (fun af =>
  .ret (ba [(R 3),.aH (al 1 (au (b3 1 (.b r1) true) (al 2 (b0 5 (au (.ad true) (al 1 (b0 4 (al 2 (b0 4 (al 2 (b0 3 (al 2 (b0 5 (al 2 (b0 3 (al 1 [])))))))))))))))),.ad true,(R 1)] (bt.aB (.bA (bW af) (bW af) (bW af) (bW af) (bW af) (bW af) aW aW (.bA aW aW aW aW aW aW aW aW (.bA aW aW aW aW aW aW aW aW (.e2 aW aW))))))))
def zi (cF:List bh)(cY:Int)(b2:List aM)(b1:List aX):Int→S:=fun eR=>dW [(2,.ref 0 0 0 0),(15,.isl 4 (cF.map eTBlock)),(16,.n .i64 cY),(17,.n .i64 eR)] [[ae.mk 2 [[.isl 4 (b2.map aP),.isl 3 (b1.map aU)]] .live]]
def CP (cF:List bh)(cY:Int)(b2:List aM)(b1:List aX):((Unit)⊕(Unit))→dY
 | .inl a=>⟨some 0,[],[]⟩
 | .inr a=>⟨none,[(4,.b false)],[]⟩
def q9 (cF:List bh)(cY:Int)(b2:List aM)(b1:List aX)(eR:Int):Option ((Int)⊕((Unit)⊕(Unit))) :=
 if (decide (eR<cY))=true then
  if 0≤eR∧eR<cF.length then
  cF[eR.toNat]? >>= fun aK =>
  rI (⟨b2,b1⟩:bl) aK >>= fun aQ =>
  if aQ=true then
   some (.inl (ai (eR+(1:Int))))
  else
   some (.inr (.inr ()))
  else none
 else
  some (.inr (.inl ()))
def zY (cF:List bh)(cY:Int)(b2:List aM)(b1:List aX)(eR:Int):Option ((Unit)⊕(Unit)):=iter (fun w:Int=>q9 cF cY b2 b1 w) eR
theorem H5 {cF:List bh}{cY:Int}{b2:List aM}{b1:List aX}{eR:Int}:bG (q9 cF cY b2 b1 eR) (eD bo 26 0 29 [1,1,0,1,0,0] (zi cF cY b2 b1 eR) (zi cF cY b2 b1) (CP cF cY b2 b1)):=by
 unfold q9
 exact .ite (fun h1 =>
  .bC fun h2 =>
  .aN fun aK ax =>
  .aN fun aQ a4 =>
  (let t1:List b5:=[(R 1),.ad true,.aH (bJ 1 (.cO (eTBlock aK)) 2),.aH (bJ 2 (b3 2 (.b aQ) true) 1)];
  have aY:=((.d5 h1 h2.1 (dL eTBlock h2.2) (dr eTBlock ax) (JG aQ a4) (aZ.b aQ)):cD _);
  .ite (fun bj =>
  .ret (bN (t1.append [.ad false,(R 2),.bf [0] [.box [.id,.id]] (bH [2,15,16,17])]) (aY.aB (.e1 (bX bj)))))
  (fun bj =>
  .ret (bN (t1.append [.ad true,(R 1),.bf [] [] (bH [4])]) (aY.aB (.e1 (bW bj)))))))
  (fun h1 =>
  .ret (bN [(R 1),.ad false,.bf [] [] []] (.e1 h1)))
theorem CY {cF:List bh}{cY:Int}{b2:List aM}{b1:List aX}{eR:Int}{r} (h:zY cF cY b2 b1 eR=some r):eE bo 26 0 29 [1,1,0,1,0,0] (zi cF cY b2 b1) (CP cF cY b2 b1) eR r:=eF (fun _=>H5) h
def rD (ao:bl)(cP:List bh):Option Bool :=
 if (decide ((3:Int)<(len_ eTBlock cP)))=true then
  some false
 else
  n3 ao >>= fun r2 =>
  if r2=true then
   zY cP (len_ eTBlock cP) ao.bb ao.aR 0 >>= fun aQ =>
   match aQ with
   | .inl iE=>(some true)
   | .inr iE=>(some false)
  else
   some false
theorem Jl {ao:bl}{cP:List bh}:bG (rD ao cP) (fun r=>Con bo 29 [.agg (ed ao),.isl 4 (cP.map eTBlock)] [] (.b r) []):=by
 unfold rD
 exact .ite (fun h1 =>
  .ret (ba [(R 2),.aH (al 4 (b0 3 (au (.ad true) []))),.ad true,(R 1)] (.ez h1 h1 h1 h1 aW)))
  (fun h1 =>
  .aN fun r2 af =>
  (let t1:List b5:=[(R 2),.aH (al 5 (au (b3 1 (.b r2) true) (al 1 (au (.ad false) []))))];
  have aY:=((.d5 h1 h1 (zJ r2 af) (aZ.b r2) h1 h1):cD _);
  .ite (fun ax =>
  .aN fun aQ a4 =>
  (let t3:List b5:=t1.append [.ad false,(R 3),.bf [0] [.box [.id,.id]] (bH [2,15,16,17])];
  (by
  rcases aQ with iE|iE
  ·exact (.ret (ba (t3.append [.sub (.exit 0) [] [],(R 1)]) (aY.aB (.e2 (bX ax) (CY a4)))))
  ·exact (.ret (ba (t3.append [.sub (.ret) [(4,.b false)] []]) (aY.aB (.e2 (bX ax) (CY a4))))))))
  (fun ax =>
  .ret (ba (t1.append [.ad true,(R 1)]) (aY.aB (.e1 (bW ax)))))))
def yC (dP:List aX)(cR:Int):(Int×(List cu))→S:=fun (cJ,aw)=>dW [(3,.a1 0 0 0 aw.length),(9,.isl 3 (dP.map aU)),(10,.n .i64 cR),(11,.n .i64 cJ)] [(a9 2 dA aw)]
def CA (dP:List aX)(cR:Int):(List cu)→dY
 | a=>⟨some 0,[(3,.a1 0 0 0 a.length)],[(a9 2 dA a)]⟩
def qR (dP:List aX)(cR cJ:Int)(aw:List cu):Option ((Int×(List cu))⊕((List cu))) :=
 if (decide (cJ<cR))=true then
  if 0≤cJ∧cJ<dP.length then
  dP[cJ.toNat]? >>= fun aK =>
  if (aK.ee != (2:Int))=true then
   if (aw++([(⟨cJ,1⟩:cu)]:List cu)).length*16≤140737488355328 then
   if (aK.ee != (1:Int))=true then
    if ((aw++([(⟨cJ,1⟩:cu)]:List cu))++([(⟨cJ,(-1)⟩:cu)]:List cu)).length*16≤140737488355328 then
    some (.inl (ai (cJ+(1:Int)),(aw++([(⟨cJ,1⟩:cu)]:List cu))++([(⟨cJ,(-1)⟩:cu)]:List cu)))
    else none
   else
    some (.inl (ai (cJ+(1:Int)),aw++([(⟨cJ,1⟩:cu)]:List cu)))
   else none
  else
   if (aK.ee != (1:Int))=true then
    if (aw++([(⟨cJ,(-1)⟩:cu)]:List cu)).length*16≤140737488355328 then
    some (.inl (ai (cJ+(1:Int)),aw++([(⟨cJ,(-1)⟩:cu)]:List cu)))
    else none
   else
    some (.inl (ai (cJ+(1:Int)),aw))
  else none
 else
  some (.inr aw)
def yI (dP:List aX)(cR cJ:Int)(aw:List cu):Option ((List cu)):=iter (fun w:Int×(List cu)=>qR dP cR w.1 w.2) (cJ,aw)
theorem Hu {dP:List aX}{cR cJ:Int}{aw:List cu}:bG (qR dP cR cJ aw) (eD bo 34 0 48 [1,1,0,1,0,0] (yC dP cR (cJ,aw)) (yC dP cR) (CA dP cR)):=by
 unfold qR
 exact .ite (fun h1 =>
  .bC fun h2 =>
  .aN fun aK ax =>
  (let t1:List b5:=[(R 1),.ad true,.aH (bJ 2 (.cO (aU aK)) 3),(R 3)];
  have aY:=((.cS h1 h2.1 (dL aU h2.2) (dr aU ax)):cD _);
  .ite (fun a8 =>
  .bC fun a4 =>
  (let t3:List b5:=t1.append [.ad true,.aH (bJ 4 (.aB ((aw++([(⟨cJ,1⟩:cu)]:List cu)).length)) 1),(R 3)];
  have eV:=aY.aB (.ez a8 (kh dA (⟨cJ,1⟩:cu)) (jl dA aw) (jn dA aw (⟨cJ,1⟩:cu)) a4);
  .ite (fun bj =>
  .bC fun cI =>
  .ret (let q1:=(aw++([(⟨cJ,1⟩:cu)]:List cu));let q2:=(q1++([(⟨cJ,(-1)⟩:cu)]:List cu));let cg:=(jB dA aw (⟨cJ,1⟩:cu));bN (t3.append [.ad true,.aH (bJ 4 (.aB (q2.length)) 1),(R 2),.bf [24] [.di (a9 2 dA q2)] (bH [3,9,10,11])]) (eV.aB (.gV bj (kh dA (⟨cJ,(-1)⟩:cu)) (oU cg (dH q1)) (jn dA q1 (⟨cJ,(-1)⟩:cu)) cI (dZ 2 .live (kl cg (dH q1) (sP dA (⟨cJ,(-1)⟩:cu)))) (bE 2 .live pw q2)))))
  (fun bj =>
  .ret (let dM:=(aw++([(⟨cJ,1⟩:cu)]:List cu));bN (t3.append [.ad false,(R 2),.bf [15] [.di (a9 2 dA dM)] (bH [3,9,10,11])]) (eV.aB (.br bj (dZ 2 .live (jB dA aw (⟨cJ,1⟩:cu))) (bE 2 .live pw dM)))))))
  (fun a8 =>
  .ite (fun a4 =>
  .bC fun bj =>
  .ret (let d9:=(aw++([(⟨cJ,(-1)⟩:cu)]:List cu));bN (t1.append [.ad false,(R 3),.ad true,.aH (bJ 4 (.aB (d9.length)) 1),(R 2),.bf [18] [.di (a9 2 dA d9)] (bH [3,9,10,11])]) (aY.aB (.hR a8 a4 (kh dA (⟨cJ,(-1)⟩:cu)) (jl dA aw) (jn dA aw (⟨cJ,(-1)⟩:cu)) bj (dZ 2 .live (jB dA aw (⟨cJ,(-1)⟩:cu))) (bE 2 .live pw d9)))))
  (fun a4 =>
  .ret (bN (t1.append [.ad false,(R 3),.ad false,(R 2),.bf [0] [.pure] (bH [3,9,10,11])]) (aY.aB (.br a8 a4 (bE 2 .live pw aw))))))))
  (fun h1 =>
  .ret (bN [(R 1),.ad false,.bf [0] [.pure] (bH [3])] (.e2 h1 (bE 2 .live pw aw))))
theorem HG {dP:List aX}{cR cJ:Int}{aw:List cu}{r} (h:yI dP cR cJ aw=some r):eE bo 34 0 48 [1,1,0,1,0,0] (yC dP cR) (CA dP cR) (cJ,aw) r:=eF (fun _=>Hu) h
def q4 (ao:bl):Option (List cu) :=
 yI ao.aR (len_ aU ao.aR) 0 ([]:List cu) >>= fun r1 =>
 some r1
theorem CC {ao:bl}:bG (q4 ao) (fun r=>Con bo 48 [.df 2 [(ed ao)] 0 0] [] (.isl 2 (r.map dA)) []):=by
 unfold q4
 exact .aN fun r1 h2 =>
  .ret (ba [(R 1),(R 1),(R 6),.qa 3 2,.bf [8] [.di (a9 2 dA ([]:List cu))] [(3,gT (([]:List cu).length)),(9,ii),(10,ii),(11,ii)],.sub (.exit 0) [(3,.a1 0 0 0 r1.length)] [(a9 2 dA r1)],(R 2)] (.gV (dZ 2 .live (vB dA)) (bE 2 .live pw ([]:List cu)) (jm cu) (HG h2) (eh dA r1) (ec dA r1) (du pw r1)) (.bn (.dE (.dC (r1.map dA)))))
def yv (dP:List aM)(cR:Int):(Int×(List Int))→S:=fun (cJ,aw)=>dW [(3,.a1 0 0 0 aw.length),(9,.isl 4 (dP.map aP)),(10,.n .i64 cR),(11,.n .i64 cJ)] [(a9 1 eI aw)]
def Cz (dP:List aM)(cR:Int):(List Int)→dY
 | a=>⟨some 0,[(3,.a1 0 0 0 a.length)],[(a9 1 eI a)]⟩
def sV (dP:List aM)(cR cJ:Int)(aw:List Int):Option ((Int×(List Int))⊕((List Int))) :=
 if (decide (cJ<cR))=true then
  if 0≤cJ∧cJ<dP.length then
  dP[cJ.toNat]? >>= fun aK =>
  if aK.eB=true then
   some (.inl (ai (cJ+(1:Int)),aw))
  else
   if (aw++([cJ]:List Int)).length*8≤140737488355328 then
   some (.inl (ai (cJ+(1:Int)),aw++([cJ]:List Int)))
   else none
  else none
 else
  some (.inr aw)
def yG (dP:List aM)(cR cJ:Int)(aw:List Int):Option ((List Int)):=iter (fun w:Int×(List Int)=>sV dP cR w.1 w.2) (cJ,aw)
theorem Hl {dP:List aM}{cR cJ:Int}{aw:List Int}:bG (sV dP cR cJ aw) (eD bo 25 0 74 [1,1,0,1,0,0] (yv dP cR (cJ,aw)) (yv dP cR) (Cz dP cR)):=by
 unfold sV
 exact .ite (fun h1 =>
  .bC fun h2 =>
  .aN fun aK ax =>
  (let t1:List b5:=[(R 1),.ad true,.aH (bJ 2 (.cO (aP aK)) 3),(R 3)];
  have aY:=((.cS h1 h2.1 (dL aP h2.2) (dr aP ax)):cD _);
  .ite (fun a8 =>
  .ret (bN (t1.append [.ad false,(R 2),.bf [0] [.pure] (bH [3,9,10,11])]) (aY.aB (.e2 (bX a8) (bE 1 .live bq aw)))))
  (fun a8 =>
  .bC fun a4 =>
  .ret (let q1:=(aw++([cJ]:List Int));bN (t1.append [.ad true,.aH (bJ 3 (.aB (q1.length)) 1),(R 2),.bf [14] [.di (a9 1 eI q1)] (bH [3,9,10,11])]) (aY.aB (.gV (bW a8) (kh eI cJ) (jl eI aw) (jn eI aw cJ) a4 (dZ 1 .live (jB eI aw cJ)) (bE 1 .live bq q1)))))))
  (fun h1 =>
  .ret (bN [(R 1),.ad false,.bf [0] [.pure] (bH [3])] (.e2 h1 (bE 1 .live bq aw))))
theorem HB {dP:List aM}{cR cJ:Int}{aw:List Int}{r} (h:yG dP cR cJ aw=some r):eE bo 25 0 74 [1,1,0,1,0,0] (yv dP cR) (Cz dP cR) (cJ,aw) r:=eF (fun _=>Hl) h
def qS (ao:bl):Option (List Int) :=
 yG ao.bb (len_ aP ao.bb) 0 ([]:List Int) >>= fun r1 =>
 some r1
theorem CB {ao:bl}:bG (qS ao) (fun r=>Con bo 74 [.df 2 [(ed ao)] 0 0] [] (.isl 1 (r.map eI)) []):=by
 unfold qS
 exact .aN fun r1 h2 =>
  .ret (ba [(R 1),(R 1),(R 6),.qa 3 1,.bf [8] [.di (a9 1 eI ([]:List Int))] [(3,gT (([]:List Int).length)),(9,ii),(10,ii),(11,ii)],.sub (.exit 0) [(3,.a1 0 0 0 r1.length)] [(a9 1 eI r1)],(R 2)] (.gV (dZ 1 .live (vB eI)) (bE 1 .live bq ([]:List Int)) (jm Int) (HB h2) (eh eI r1) (ec eI r1) (du bq r1)) (.bn (.dE (.dC (r1.map eI)))))
def yt (cj:List aM)(b7:List aX)(gf:Int)(dd:List Int)(dJ cF ln:Int)(aw:List (List Int)):(Int×(List Int)×(List Int))→S:=fun (el,b9,bd)=>dW [(0,.df 2 [[.isl 4 (cj.map aP),.isl 3 (b7.map aU)]] 0 0),(3,.a1 0 0 0 aw.length),(5,.n .i64 gf),(6,.a1 1 0 0 b9.length),(7,.a1 2 0 0 bd.length),(13,.isl 1 (dd.map eI)),(14,.n .i64 dJ),(15,.n .i64 cF),(34,.isl 3 (b7.map aU)),(35,.n .i64 ln),(36,.n .i64 el)] [(a9 1 (eX 1 eI) aw),(a9 1 eI b9),(a9 1 eI bd)]
def yw (cj:List aM)(b7:List aX)(gf:Int)(dd:List Int)(dJ cF ln:Int)(aw:List (List Int)):((List Int)×(List Int))→dY
 | a=>⟨some 2,[(0,.df 2 [[.isl 4 (cj.map aP),.isl 3 (b7.map aU)]] 0 0),(3,.a1 0 0 0 aw.length),(6,.a1 1 0 0 a.1.length),(7,.a1 2 0 0 a.2.length),(13,.isl 1 (dd.map eI)),(14,.n .i64 dJ),(15,.n .i64 cF)],[(a9 1 (eX 1 eI) aw),(a9 1 eI a.1),(a9 1 eI a.2)]⟩
def qP (cj:List aM)(b7:List aX)(gf:Int)(dd:List Int)(dJ cF ln:Int)(aw:List (List Int))(el:Int)(b9 bd:List Int):Option ((Int×(List Int)×(List Int))⊕((List Int)×(List Int))) :=
 if (decide (el<ln))=true then
  if 0≤el∧el<b7.length then
  b7[el.toNat]? >>= fun aK =>
  lV (⟨cj,b7⟩:bl) el >>= fun aQ =>
  if (gf == aK.bi)=true then
   if 0≤el∧el<(b9.length:Nat) then
   if (0+el.toNat)<b9.length then
   if 0≤el∧el<(bd.length:Nat) then
   if (0+el.toNat)<bd.length then
   some (.inl (ai (el+(1:Int)),b9.set (0+el.toNat) aQ.1,bd.set (0+el.toNat) aQ.2))
   else none
   else none
   else none
   else none
  else
   if (gf == aK.bc)=true then
    if 0≤el∧el<(b9.length:Nat) then
    if (0+el.toNat)<b9.length then
    if 0≤el∧el<(bd.length:Nat) then
    if (0+el.toNat)<bd.length then
    some (.inl (ai (el+(1:Int)),b9.set (0+el.toNat) (ai (0-aQ.1)),bd.set (0+el.toNat) (ai (0-aQ.2))))
    else none
    else none
    else none
    else none
   else
    some (.inl (ai (el+(1:Int)),b9,bd))
  else none
 else
  some (.inr (b9,bd))
def vR (cj:List aM)(b7:List aX)(gf:Int)(dd:List Int)(dJ cF ln:Int)(aw:List (List Int))(el:Int)(b9 bd:List Int):Option ((List Int)×(List Int)):=iter (fun w:Int×(List Int)×(List Int)=>qP cj b7 gf dd dJ cF ln aw w.1 w.2.1 w.2.2) (el,b9,bd)
theorem Hi {cj:List aM}{b7:List aX}{gf:Int}{dd:List Int}{dJ cF ln:Int}{aw:List (List Int)}{el:Int}{b9 bd:List Int}:bG (qP cj b7 gf dd dJ cF ln aw el b9 bd) (eD bo 82 0 73 [1,1,0,1,0,0,1,1,0,0,1,1,0,1,0,0] (yt cj b7 gf dd dJ cF ln aw (el,b9,bd)) (yt cj b7 gf dd dJ cF ln aw) (yw cj b7 gf dd dJ cF ln aw)):=by
 unfold qP
 exact .ite (fun h1 =>
  .bC fun h2 =>
  .aN fun aK ax =>
  .aN fun aQ a4 =>
  (let t1:List b5:=[(R 1),.ad true,.aH (bJ 2 (.cO (aU aK)) 3),.aH (bJ 2 (b3 2 (.dm [.n .i64 aQ.1,.n .i64 aQ.2]) true) 5),(R 1),(R 4)];
  have aY:=((.d5 h1 h2.1 (dL aU h2.2) (dr aU ax) (CE aQ a4) (us (et (aZ.n .i64 aQ.1) (et (aZ.n .i64 aQ.2) ko)))):cD _);
  .ite (fun bj =>
  .bC fun cI =>
  .bC fun dt =>
  .bC fun cB =>
  .bC fun eP =>
  .ret (bN (t1.append [.ad true,.aH (al 7 (au .gH (al 1 (au .gH [])))),(R 2),.bf [0,1,2] [.pure,.di (a9 1 eI (b9.set (0+el.toNat) aQ.1)),.di (a9 1 eI (bd.set (0+el.toNat) aQ.2))] [(0,ii),(3,ii),(5,ii),(6,gT ((b9.set (0+el.toNat) aQ.1).length)),(7,gT ((bd.set (0+el.toNat) aQ.2).length)),(13,ii),(14,ii),(15,ii),(34,ii),(35,ii),(36,ii)]]) (aY.aB (.bA bj cI.1 cI.2 (kK eI dt) (kg 1) cB.1 cB.2 (kK eI eP) (.hR (kg 1) (bE 1 .live (oe (sz:=1) bq) aw) (dZ 1 .live (js (d6 eI b9) (0+el.toNat) aQ.1)) (bE 1 .live bq (b9.set (0+el.toNat) aQ.1)) (dZ 1 .live (js (d6 eI bd) (0+el.toNat) aQ.2)) (bE 1 .live bq (bd.set (0+el.toNat) aQ.2)) (hb (dH b9) (0+el.toNat) aQ.1) (hb (dH bd) (0+el.toNat) aQ.2))))))
  (fun bj =>
  .ite (fun cI =>
  .bC fun dt =>
  .bC fun cB =>
  .bC fun eP =>
  .bC fun i6 =>
  .ret (let q1:=ai (0-aQ.1);let q2:=ai (0-aQ.2);bN (t1.append [.ad false,(R 4),.ad true,.aH (al 9 (au .gH (al 1 (au .gH [])))),(R 2),.bf [0,1,2] [.pure,.di (a9 1 eI (b9.set (0+el.toNat) q1)),.di (a9 1 eI (bd.set (0+el.toNat) q2))] [(0,ii),(3,ii),(5,ii),(6,gT ((b9.set (0+el.toNat) q1).length)),(7,gT ((bd.set (0+el.toNat) q2).length)),(13,ii),(14,ii),(15,ii),(34,ii),(35,ii),(36,ii)]]) (aY.aB (.bA bj cI dt.1 dt.2 (kK eI cB) (kg 1) eP.1 eP.2 (.bA (kK eI i6) (kg 1) (bE 1 .live (oe (sz:=1) bq) aw) (dZ 1 .live (js (d6 eI b9) (0+el.toNat) q1)) (bE 1 .live bq (b9.set (0+el.toNat) q1)) (dZ 1 .live (js (d6 eI bd) (0+el.toNat) q2)) (bE 1 .live bq (bd.set (0+el.toNat) q2)) (hb (dH b9) (0+el.toNat) q1) (.e1 (hb (dH bd) (0+el.toNat) q2)))))))
  (fun cI =>
  .ret (bN (t1.append [.ad false,(R 4),.ad false,(R 2),.bf [0,1,2] [.pure,.pure,.pure] (bH [0,3,5,6,7,13,14,15,34,35,36])]) (aY.aB (.ez bj cI (bE 1 .live (oe (sz:=1) bq) aw) (bE 1 .live bq b9) (bE 1 .live bq bd))))))))
  (fun h1 =>
  .ret (bN [(R 1),.ad false,.bf [0,1,2] [.pure,.pure,.pure] (bH [0,3,6,7,13,14,15])] (.cS h1 (bE 1 .live (oe (sz:=1) bq) aw) (bE 1 .live bq b9) (bE 1 .live bq bd))))
theorem Hx {cj:List aM}{b7:List aX}{gf:Int}{dd:List Int}{dJ cF ln:Int}{aw:List (List Int)}{el:Int}{b9 bd:List Int}{r} (h:vR cj b7 gf dd dJ cF ln aw el b9 bd=some r):eE bo 82 0 73 [1,1,0,1,0,0,1,1,0,0,1,1,0,1,0,0] (yt cj b7 gf dd dJ cF ln aw) (yw cj b7 gf dd dJ cF ln aw) (el,b9,bd) r:=eF (fun _=>Hi) h
def yu (cj:List aM)(b7:List aX)(dd:List Int)(dJ:Int):(Int×(List (List Int)))→S:=fun (cF,aw)=>dW [(0,.df 2 [[.isl 4 (cj.map aP),.isl 3 (b7.map aU)]] 0 0),(3,.a1 0 0 0 aw.length),(13,.isl 1 (dd.map eI)),(14,.n .i64 dJ),(15,.n .i64 cF)] [(a9 1 (eX 1 eI) aw)]
def Cy (cj:List aM)(b7:List aX)(dd:List Int)(dJ:Int):(List (List Int))→dY
 | a=>⟨some 0,[(3,.a1 0 0 0 a.length)],[(a9 1 (eX 1 eI) a)]⟩
def qQ (cj:List aM)(b7:List aX)(dd:List Int)(dJ cF:Int)(aw:List (List Int)):Option ((Int×(List (List Int)))⊕((List (List Int)))) :=
 if (decide (cF<dJ))=true then
  if 0≤cF∧cF<dd.length then
  dd[cF.toNat]? >>= fun aK =>
  if 0≤(len_ aU b7)∧(8:Int)*(len_ aU b7)≤281474976710656∧(len_ aU b7)<9223372036854775808 then
  vR cj b7 aK dd dJ cF (len_ aU b7) aw 0 (List.replicate (len_ aU b7).toNat 0:List Int) (List.replicate (len_ aU b7).toNat 0:List Int) >>= fun dN =>
  if (aw++([dN.1,dN.2]:List (List Int))).length*24≤140737488355328 then
  some (.inl (ai (cF+(1:Int)),aw++([dN.1,dN.2]:List (List Int))))
  else none
  else none
  else none
 else
  some (.inr aw)
def yE (cj:List aM)(b7:List aX)(dd:List Int)(dJ cF:Int)(aw:List (List Int)):Option ((List (List Int))):=iter (fun w:Int×(List (List Int))=>qQ cj b7 dd dJ w.1 w.2) (cF,aw)
theorem Hj {cj:List aM}{b7:List aX}{dd:List Int}{dJ cF:Int}{aw:List (List Int)}:bG (qQ cj b7 dd dJ cF aw) (eD bo 82 0 73 [1,1,0,1,0,0] (yu cj b7 dd dJ (cF,aw)) (yu cj b7 dd dJ) (Cy cj b7 dd dJ)):=by
 unfold qQ
 exact .ite (fun h1 =>
  .bC fun h2 =>
  .aN fun aK ax =>
  .bC fun a8 =>
  .aN fun dN bj =>
  .bC fun cI =>
  .ret (let q2:=(aw++([dN.1,dN.2]:List (List Int)));let cg:=len_ aU b7;let q1:=(List.replicate cg.toNat 0:List Int);let dM:=oe (sz:=1) bq;let d9:=dZ 1 .live (l4 eI cg.toNat 0);bN [(R 1),.ad true,.aH (bJ 1 (.cO (eI aK)) 1),(R 14),(R 6),.bf [0,10,16] [.pure,.di (a9 1 eI q1),.di (a9 1 eI q1)] [(0,ii),(3,ii),(5,ii),(6,gT (q1.length)),(7,gT (q1.length)),(13,ii),(14,ii),(15,ii),(34,ii),(35,ii),(36,ii)],(yw cj b7 aK dd dJ cF cg aw dN).g9,.bf [0] [.pure] [(0,ii),(3,ii),(6,.bn (.dE (.dC (dN.1.map eI)))),(7,.bn (.dE (.dC (dN.2.map eI)))),(13,ii),(14,ii),(15,ii)],.aH (bJ 4 (.aB (q2.length)) 1),(R 2),.bf [5] [.di (a9 1 (eX 1 eI) q2)] (bH [0,3,13,14,15])] (.bA h1 h2.1 (dL eI h2.2) (dr eI ax) a8.1 (Int.le_refl cg) a8.2.1 a8.2.2 (.bA a8.1 (Int.le_refl cg) a8.2.1 a8.2.2 (bE 1 .live dM aw) d9 (bE 1 .live bq q1) d9 (.bA (bE 1 .live bq q1) (mw cg.toNat (0:Int)) (mw cg.toNat (0:Int)) (Hx bj) (bE 1 .live dM aw) (eh eI dN.1) (ec eI dN.1) (du bq dN.1) (.bA (eh eI dN.2) (ec eI dN.2) (du bq dN.2) (mZ (show [[.isl 1 (dN.1.map eI)],[.isl 1 (dN.2.map eI)]]=(([dN.1,dN.2]:List (List Int))).map (eX 1 eI) from rfl) (show 2=([dN.1,dN.2]:List (List Int)).length from rfl)) (jl (eX 1 eI) aw) (m1 (dH aw) (mz (show [[.isl 1 (dN.1.map eI)],[.isl 1 (dN.2.map eI)]]=(([dN.1,dN.2]:List (List Int))).map (eX 1 eI) from rfl) (show 2=([dN.1,dN.2]:List (List Int)).length from rfl)):q2.length=aw.length+(([[.isl 1 (dN.1.map eI)],[.isl 1 (dN.2.map eI)]].drop 0).take 2).length) cI (dZ 1 .live (kl (d6 (eX 1 eI) aw) (dH aw) (mz (show [[.isl 1 (dN.1.map eI)],[.isl 1 (dN.2.map eI)]]=(([dN.1,dN.2]:List (List Int))).map (eX 1 eI) from rfl) (show 2=([dN.1,dN.2]:List (List Int)).length from rfl)))) (.e1 (bE 1 .live dM q2))))))))
  (fun h1 =>
  .ret (bN [(R 1),.ad false,.bf [0] [.pure] (bH [3])] (.e2 h1 (bE 1 .live (oe (sz:=1) bq) aw))))
theorem Hy {cj:List aM}{b7:List aX}{dd:List Int}{dJ cF:Int}{aw:List (List Int)}{r} (h:yE cj b7 dd dJ cF aw=some r):eE bo 82 0 73 [1,1,0,1,0,0] (yu cj b7 dd dJ) (Cy cj b7 dd dJ) (cF,aw) r:=eF (fun _=>Hj) h
def s3 (ao:bl):Option (List (List Int)) :=
 qS ao >>= fun r1 =>
 yE ao.bb ao.aR r1 (len_ eI r1) 0 ([]:List (List Int)) >>= fun bz =>
 some bz
theorem HD {ao:bl}:bG (s3 ao) (fun r=>Con bo 73 [.df 2 [(ed ao)] 0 0] [] (.isl 1 (r.map (eX 1 eI))) []):=by
 unfold s3
 exact .aN fun r1 h2 =>
  .aN fun bz ax =>
  .ret (ba [(R 1),(R 1),.aH (bJ 1 (b3 1 (.isl 1 (r1.map eI)) false) 2),.qa 3 1,.bf [6] [.di (a9 1 (eX 1 eI) ([]:List (List Int)))] [(0,ii),(3,gT (([]:List (List Int)).length)),(13,ii),(14,ii),(15,ii)],.sub (.exit 0) [(3,.a1 0 0 0 bz.length)] [(a9 1 (eX 1 eI) bz)],(R 2)] (.hR (CB r1 h2) (dZ 1 .live (vB (eX 1 eI))) (bE 1 .live (oe (sz:=1) bq) ([]:List (List Int))) (jm (List Int)) (Hy ax) (eh (eX 1 eI) bz) (ec (eX 1 eI) bz) (du (oe (sz:=1) bq) bz)) (.bn (.dE (.dC (bz.map (eX 1 eI))))))
def yg (cj:List aM)(b7:List aX)(b6:List Int)(cN:List cu)(ah:Int)(kZ:List Int)(eH:List (List Int))(ev lo bM bI:Int)(bU cd:List Int):(Int×(List Int))→S:=fun (eS,bd)=>dW [(0,.df 2 [[.isl 4 (cj.map aP),.isl 3 (b7.map aU)]] 0 0),(1,.isl 1 (b6.map eI)),(8,.ref 0 0 0 0),(10,.isl 2 (cN.map dA)),(11,.ref 1 0 0 0),(12,.n .i64 ah),(13,.isl 1 (kZ.map eI)),(46,.isl 1 (eH.map (eX 1 eI))),(47,.n .i64 ev),(48,.n .i64 ah),(53,.isl 2 (cN.map dA)),(54,.n .i64 lo),(55,.n .i64 eS)] [[ae.mk 5 [[.n .i64 (0:Int),.n .i64 (0:Int),.cv,.cv,.cv]] .live],[ae.mk 5 [(hj bM bI 2 0 0 bd.length 3 0 0 bU.length 4 0 0 cd.length)] .live],(a9 1 eI bd),(a9 1 eI bU),(a9 1 eI cd)]
def ym (cj:List aM)(b7:List aX)(b6:List Int)(cN:List cu)(ah:Int)(kZ:List Int)(eH:List (List Int))(ev lo bM bI:Int)(bU cd:List Int):(List Int)→dY
 | a=>⟨some 2,[(0,.df 2 [[.isl 4 (cj.map aP),.isl 3 (b7.map aU)]] 0 0),(1,.isl 1 (b6.map eI)),(8,.ref 0 0 0 0),(10,.isl 2 (cN.map dA)),(11,.ref 1 0 0 0),(46,.isl 1 (eH.map (eX 1 eI))),(47,.n .i64 ev),(48,.n .i64 ah)],[[ae.mk 5 [[.n .i64 (0:Int),.n .i64 (0:Int),.cv,.cv,.cv]] .live],[ae.mk 5 [(hj bM bI 2 0 0 a.length 3 0 0 bU.length 4 0 0 cd.length)] .live],(a9 1 eI a),(a9 1 eI bU),(a9 1 eI cd)]⟩
def qI (cj:List aM)(b7:List aX)(b6:List Int)(cN:List cu)(ah:Int)(kZ:List Int)(eH:List (List Int))(ev lo bM bI:Int)(bU cd:List Int)(eS:Int)(bd:List Int):Option ((Int×(List Int))⊕((List Int))) :=
 if (decide (eS<lo))=true then
  if 0≤eS∧eS<cN.length then
  cN[eS.toNat]? >>= fun aK =>
  if 0≤aK.iU∧aK.iU<kZ.length then
  kZ[aK.iU.toNat]? >>= fun eb =>
  if 0≤(ai ((ai (ah*bI))+eS))∧(ai ((ai (ah*bI))+eS))<(bd.length:Nat) then
  if (0+(ai ((ai (ah*bI))+eS)).toNat)<bd.length then
  some (.inl (ai (eS+(1:Int)),bd.set (0+(ai ((ai (ah*bI))+eS)).toNat) (ai (aK.mF*eb))))
  else none
  else none
  else none
  else none
 else
  some (.inr bd)
def yx (cj:List aM)(b7:List aX)(b6:List Int)(cN:List cu)(ah:Int)(kZ:List Int)(eH:List (List Int))(ev lo bM bI:Int)(bU cd:List Int)(eS:Int)(bd:List Int):Option ((List Int)):=iter (fun w:Int×(List Int)=>qI cj b7 b6 cN ah kZ eH ev lo bM bI bU cd w.1 w.2) (eS,bd)
theorem Hb {cj:List aM}{b7:List aX}{b6:List Int}{cN:List cu}{ah:Int}{kZ:List Int}{eH:List (List Int)}{ev lo bM bI:Int}{bU cd:List Int}{eS:Int}{bd:List Int}:bG (qI cj b7 b6 cN ah kZ eH ev lo bM bI bU cd eS bd) (eD bo 113 0 49 [1,1,1,1,0,1,0,0,1,1,0,0,1,1,0,0] (yg cj b7 b6 cN ah kZ eH ev lo bM bI bU cd (eS,bd)) (yg cj b7 b6 cN ah kZ eH ev lo bM bI bU cd) (ym cj b7 b6 cN ah kZ eH ev lo bM bI bU cd)):=by
 unfold qI
 exact .ite (fun h1 =>
  .bC fun h2 =>
  .aN fun aK ax =>
  .bC fun a8 =>
  .aN fun eb bj =>
  .bC fun cI =>
  .bC fun dt =>
  .ret (let q1:=ai ((ai (ah*bI))+eS);let q2:=ai (aK.mF*eb);bN [(R 1),.ad true,.aH (bJ 2 (.cO (dA aK)) 3),.aH (al 14 (au (.cO (eI eb)) (al 2 (au .gH [])))),(R 2),.bf [0,1,2,3,4] [.box [.id,.id,.id,.id,.id],.box [.id,.id,.len ((bd.set (0+q1.toNat) q2).length),.id,.id],.di (a9 1 eI (bd.set (0+q1.toNat) q2)),.pure,.pure] (bH [0,1,8,10,11,12,13,46,47,48,53,54,55])] (.bA h1 h2.1 (dL dA h2.2) (dr dA ax) a8.1 (dL eI a8.2) (dr eI bj) cI.1 (.hR cI.2 (kK eI dt) (kg 1) (hb (dH bd) (0+q1.toNat) q2) (dZ 1 .live (js (d6 eI bd) (0+q1.toNat) q2)) (bE 1 .live bq (bd.set (0+q1.toNat) q2)) (bE 1 .live bq bU) (bE 1 .live bq cd)))))
  (fun h1 =>
  .ret (bN [(R 1),.ad false,.bf [0,1,2,3,4] [.box [.id,.id,.id,.id,.id],.box [.id,.id,.id,.id,.id],.pure,.pure,.pure] (bH [0,1,8,10,11,46,47,48])] (.cS h1 (bE 1 .live bq bd) (bE 1 .live bq bU) (bE 1 .live bq cd))))
theorem Hm {cj:List aM}{b7:List aX}{b6:List Int}{cN:List cu}{ah:Int}{kZ:List Int}{eH:List (List Int)}{ev lo bM bI:Int}{bU cd:List Int}{eS:Int}{bd:List Int}{r} (h:yx cj b7 b6 cN ah kZ eH ev lo bM bI bU cd eS bd=some r):eE bo 113 0 49 [1,1,1,1,0,1,0,0,1,1,0,0,1,1,0,0] (yg cj b7 b6 cN ah kZ eH ev lo bM bI bU cd) (ym cj b7 b6 cN ah kZ eH ev lo bM bI bU cd) (eS,bd) r:=eF (fun _=>Hb) h
def yh (cj:List aM)(b7:List aX)(b6:List Int)(cN:List cu)(eH:List (List Int))(ev bM bI:Int)(bU cd:List Int):(Int×(List Int))→S:=fun (ku,bd)=>dW [(0,.df 2 [[.isl 4 (cj.map aP),.isl 3 (b7.map aU)]] 0 0),(1,.isl 1 (b6.map eI)),(8,.ref 0 0 0 0),(10,.isl 2 (cN.map dA)),(11,.ref 1 0 0 0),(46,.isl 1 (eH.map (eX 1 eI))),(47,.n .i64 ev),(48,.n .i64 ku)] [[ae.mk 5 [[.n .i64 (0:Int),.n .i64 (0:Int),.cv,.cv,.cv]] .live],[ae.mk 5 [(hj bM bI 2 0 0 bd.length 3 0 0 bU.length 4 0 0 cd.length)] .live],(a9 1 eI bd),(a9 1 eI bU),(a9 1 eI cd)]
def yn (cj:List aM)(b7:List aX)(b6:List Int)(cN:List cu)(eH:List (List Int))(ev bM bI:Int)(bU cd:List Int):(List Int)→dY
 | a=>⟨some 0,[(0,.df 2 [[.isl 4 (cj.map aP),.isl 3 (b7.map aU)]] 0 0),(1,.isl 1 (b6.map eI)),(8,.ref 0 0 0 0),(11,.ref 1 0 0 0)],[[ae.mk 5 [[.n .i64 (0:Int),.n .i64 (0:Int),.cv,.cv,.cv]] .live],[ae.mk 5 [(hj bM bI 2 0 0 a.length 3 0 0 bU.length 4 0 0 cd.length)] .live],(a9 1 eI a),(a9 1 eI bU),(a9 1 eI cd)]⟩
def qJ (cj:List aM)(b7:List aX)(b6:List Int)(cN:List cu)(eH:List (List Int))(ev bM bI:Int)(bU cd:List Int)(ku:Int)(bd:List Int):Option ((Int×(List Int))⊕((List Int))) :=
 if (decide (ku<ev))=true then
  if 0≤ku∧ku<eH.length then
  eH[ku.toNat]? >>= fun aK =>
  yx cj b7 b6 cN ku aK eH ev (len_ dA cN) bM bI bU cd 0 bd >>= fun aQ =>
  some (.inl (ai (ku+(1:Int)),aQ))
  else none
 else
  some (.inr bd)
def yy (cj:List aM)(b7:List aX)(b6:List Int)(cN:List cu)(eH:List (List Int))(ev bM bI:Int)(bU cd:List Int)(ku:Int)(bd:List Int):Option ((List Int)):=iter (fun w:Int×(List Int)=>qJ cj b7 b6 cN eH ev bM bI bU cd w.1 w.2) (ku,bd)
theorem Hc {cj:List aM}{b7:List aX}{b6:List Int}{cN:List cu}{eH:List (List Int)}{ev bM bI:Int}{bU cd:List Int}{ku:Int}{bd:List Int}:bG (qJ cj b7 b6 cN eH ev bM bI bU cd ku bd) (eD bo 113 0 49 [1,1,1,1,0,1,0,0] (yh cj b7 b6 cN eH ev bM bI bU cd (ku,bd)) (yh cj b7 b6 cN eH ev bM bI bU cd) (yn cj b7 b6 cN eH ev bM bI bU cd)):=by
 unfold qJ
 exact .ite (fun h1 =>
  .bC fun h2 =>
  .aN fun aK ax =>
  .aN fun aQ a4 =>
  .ret (bN [(R 1),.ad true,.aH (bJ 2 (.cO ((eX 1 eI) aK)) 2),(R 3),.bf [0,1,2,3,4] [.box [.id,.id,.id,.id,.id],.box [.id,.id,.id,.id,.id],.pure,.pure,.pure] (bH [0,1,8,10,11,12,13,46,47,48,53,54,55]),(ym cj b7 b6 cN ku aK eH ev (len_ dA cN) bM bI bU cd aQ).g9,(R 2),.bf [0,1,2,3,4] [.box [.id,.id,.id,.id,.id],.box [.id,.id,.id,.id,.id],.pure,.pure,.pure] (bH [0,1,8,10,11,46,47,48])] (.bA h1 h2.1 (dL (eX 1 eI) h2.2) (dr (eX 1 eI) ax) (bE 1 .live bq bd) (bE 1 .live bq bU) (bE 1 .live bq cd) (Hm a4) (.br (bE 1 .live bq aQ) (bE 1 .live bq bU) (bE 1 .live bq cd)))))
  (fun h1 =>
  .ret (bN [(R 1),.ad false,.bf [0,1,2,3,4] [.box [.id,.id,.id,.id,.id],.box [.id,.id,.id,.id,.id],.pure,.pure,.pure] (bH [0,1,8,11])] (.cS h1 (bE 1 .live bq bd) (bE 1 .live bq bU) (bE 1 .live bq cd))))
theorem Hn {cj:List aM}{b7:List aX}{b6:List Int}{cN:List cu}{eH:List (List Int)}{ev bM bI:Int}{bU cd:List Int}{ku:Int}{bd:List Int}{r} (h:yy cj b7 b6 cN eH ev bM bI bU cd ku bd=some r):eE bo 113 0 49 [1,1,1,1,0,1,0,0] (yh cj b7 b6 cN eH ev bM bI bU cd) (yn cj b7 b6 cN eH ev bM bI bU cd) (ku,bd) r:=eF (fun _=>Hc) h
def yi (b6 k0:List Int)(lp bM bI:Int)(bd cd:List Int):(Int×(List Int))→S:=fun (ie,bU)=>dW [(1,.isl 1 (b6.map eI)),(8,.ref 0 0 0 0),(11,.ref 1 0 0 0),(80,.isl 1 (k0.map eI)),(81,.n .i64 lp),(82,.n .i64 ie)] [[ae.mk 5 [[.n .i64 (0:Int),.n .i64 (0:Int),.cv,.cv,.cv]] .live],[ae.mk 5 [(hj bM bI 2 0 0 bd.length 3 0 0 bU.length 4 0 0 cd.length)] .live],(a9 1 eI bd),(a9 1 eI bU),(a9 1 eI cd)]
def yo (b6 k0:List Int)(lp bM bI:Int)(bd cd:List Int):(List Int)→dY
 | a=>⟨some 4,[(8,.ref 0 0 0 0),(11,.ref 1 0 0 0)],[[ae.mk 5 [[.n .i64 (0:Int),.n .i64 (0:Int),.cv,.cv,.cv]] .live],[ae.mk 5 [(hj bM bI 2 0 0 bd.length 3 0 0 a.length 4 0 0 cd.length)] .live],(a9 1 eI bd),(a9 1 eI a),(a9 1 eI cd)]⟩
def qK (b6 k0:List Int)(lp bM bI:Int)(bd cd:List Int)(ie:Int)(bU:List Int):Option ((Int×(List Int))⊕((List Int))) :=
 if (decide (ie<lp))=true then
  if 0≤ie∧ie<k0.length then
  k0[ie.toNat]? >>= fun aK =>
  if 0≤(ai ((2:Int)*aK))∧(ai ((2:Int)*aK))<b6.length then
  b6[(ai ((2:Int)*aK)).toNat]? >>= fun eb =>
  if 0≤(ai ((ai ((2:Int)*aK))+(1:Int)))∧(ai ((ai ((2:Int)*aK))+(1:Int)))<b6.length then
  b6[(ai ((ai ((2:Int)*aK))+(1:Int))).toNat]? >>= fun c9 =>
  if 0≤(ai ((2:Int)*ie))∧(ai ((2:Int)*ie))<(bU.length:Nat) then
  if (0+(ai ((2:Int)*ie)).toNat)<bU.length then
  if 0≤(ai ((ai ((2:Int)*ie))+(1:Int)))∧(ai ((ai ((2:Int)*ie))+(1:Int)))<(bU.length:Nat) then
  if (0+(ai ((ai ((2:Int)*ie))+(1:Int))).toNat)<(bU.set (0+(ai ((2:Int)*ie)).toNat) (ai (0-eb))).length then
  some (.inl (ai (ie+(1:Int)),(bU.set (0+(ai ((2:Int)*ie)).toNat) (ai (0-eb))).set (0+(ai ((ai ((2:Int)*ie))+(1:Int))).toNat) (ai (0-c9))))
  else none
  else none
  else none
  else none
  else none
  else none
  else none
 else
  some (.inr bU)
def yz (b6 k0:List Int)(lp bM bI:Int)(bd cd:List Int)(ie:Int)(bU:List Int):Option ((List Int)):=iter (fun w:Int×(List Int)=>qK b6 k0 lp bM bI bd cd w.1 w.2) (ie,bU)
theorem Hd {b6 k0:List Int}{lp bM bI:Int}{bd cd:List Int}{ie:Int}{bU:List Int}:bG (qK b6 k0 lp bM bI bd cd ie bU) (eD bo 113 0 49 [1,1,1,1,1,0,1,0,0] (yi b6 k0 lp bM bI bd cd (ie,bU)) (yi b6 k0 lp bM bI bd cd) (yo b6 k0 lp bM bI bd cd)):=by
 unfold qK
 exact .ite (fun h1 =>
  .bC fun h2 =>
  .aN fun aK ax =>
  .bC fun a8 =>
  .aN fun eb bj =>
  .bC fun cI =>
  .aN fun c9 cB =>
  .bC fun eP =>
  .bC fun i6 =>
  .bC fun ff =>
  .bC fun gg =>
  .ret (let q1:=(ai ((2:Int)*ie));let q2:=(ai (q1+(1:Int)));let cg:=ai (0-eb);let dM:=ai (0-c9);bN [(R 1),.ad true,.aH (bJ 2 (.cO (eI aK)) 2),.aH (al 13 (au (.cO (eI eb)) (al 6 (au (.cO (eI c9)) (al 2 (au .gH (al 1 (au .gH [])))))))),(R 2),.bf [0,1,2,3,4] [.box [.id,.id,.id,.id,.id],.box [.id,.id,.id,.len (((bU.set (0+q1.toNat) cg).set (0+q2.toNat) dM).length),.id],.pure,.di (a9 1 eI ((bU.set (0+q1.toNat) cg).set (0+q2.toNat) dM)),.pure] (bH [1,8,11,80,81,82])] (.bA h1 h2.1 (dL eI h2.2) (dr eI ax) a8.1 (dL eI a8.2) (dr eI bj) cI.1 (.bA (dL eI cI.2) (dr eI cB) eP.1 eP.2 (kK eI i6) (kg 1) ff.1 ff.2 (.gV (MP (js (d6 eI bU) (0+q1.toNat) cg) gg) (kg 1) (hb (hb (dH bU) (0+q1.toNat) cg) (0+q2.toNat) dM) (bE 1 .live bq bd) (dZ 1 .live (js (js (d6 eI bU) (0+q1.toNat) cg) (0+q2.toNat) dM)) (bE 1 .live bq ((bU.set (0+q1.toNat) cg).set (0+q2.toNat) dM)) (bE 1 .live bq cd))))))
  (fun h1 =>
  .ret (bN [(R 1),.ad false,.bf [0,1,2,3,4] [.box [.id,.id,.id,.id,.id],.box [.id,.id,.id,.id,.id],.pure,.pure,.pure] (bH [8,11])] (.cS h1 (bE 1 .live bq bd) (bE 1 .live bq bU) (bE 1 .live bq cd))))
theorem Ho {b6 k0:List Int}{lp bM bI:Int}{bd cd:List Int}{ie:Int}{bU:List Int}{r} (h:yz b6 k0 lp bM bI bd cd ie bU=some r):eE bo 113 0 49 [1,1,1,1,1,0,1,0,0] (yi b6 k0 lp bM bI bd cd) (yo b6 k0 lp bM bI bd cd) (ie,bU) r:=eF (fun _=>Hd) h
def sZ (ao:bl)(b6:List Int)(kj kP:Int):Option (Int×Int×(List Int)×(List Int)×(List Int)) :=
 s3 ao >>= fun r1 =>
 q4 ao >>= fun bz =>
 if 0≤(ai ((ai ((len_ (eX 1 eI) r1)+kP))*(ai ((len_ dA bz)+kj))))∧(8:Int)*(ai ((ai ((len_ (eX 1 eI) r1)+kP))*(ai ((len_ dA bz)+kj))))≤281474976710656∧(ai ((ai ((len_ (eX 1 eI) r1)+kP))*(ai ((len_ dA bz)+kj))))<9223372036854775808 then
 if 0≤(ai ((len_ (eX 1 eI) r1)+kP))∧(8:Int)*(ai ((len_ (eX 1 eI) r1)+kP))≤281474976710656∧(ai ((len_ (eX 1 eI) r1)+kP))<9223372036854775808 then
 if 0≤(ai ((len_ dA bz)+kj))∧(8:Int)*(ai ((len_ dA bz)+kj))≤281474976710656∧(ai ((len_ dA bz)+kj))<9223372036854775808 then
 yy ao.bb ao.aR b6 bz r1 (len_ (eX 1 eI) r1) (ai ((len_ (eX 1 eI) r1)+kP)) (ai ((len_ dA bz)+kj)) (List.replicate (ai ((len_ (eX 1 eI) r1)+kP)).toNat 0:List Int) (List.replicate (ai ((len_ dA bz)+kj)).toNat 0:List Int) 0 (List.replicate (ai ((ai ((len_ (eX 1 eI) r1)+kP))*(ai ((len_ dA bz)+kj)))).toNat 0:List Int) >>= fun aG =>
 qS ao >>= fun cM =>
 yz b6 cM (len_ eI cM) (ai ((len_ (eX 1 eI) r1)+kP)) (ai ((len_ dA bz)+kj)) aG (List.replicate (ai ((len_ dA bz)+kj)).toNat 0:List Int) 0 (List.replicate (ai ((len_ (eX 1 eI) r1)+kP)).toNat 0:List Int) >>= fun cT =>
 some (ai ((len_ (eX 1 eI) r1)+kP),ai ((len_ dA bz)+kj),aG,cT,(List.replicate (ai ((len_ dA bz)+kj)).toNat 0:List Int))
 else none
 else none
 else none
theorem Hz {ao:bl}{b6:List Int}{kj kP:Int}:bG (sZ ao b6 kj kP) (fun a=>Con bo 49 [.df 2 [(ed ao)] 0 0,.isl 1 (b6.map eI),.n .i64 kj,.n .i64 kP] [] (.agg (hj a.1 a.2.1 0 0 0 a.2.2.1.length 0 1 0 a.2.2.2.1.length 0 2 0 a.2.2.2.2.length)) [[ae.mk 1 (a.2.2.1.map eI) .live,ae.mk 1 (a.2.2.2.1.map eI) .live,ae.mk 1 (a.2.2.2.2.map eI) .live]]):=by
 unfold sZ
 exact .aN fun r1 h2 =>
  .aN fun bz ax =>
  .bC fun a8 =>
  .bC fun a4 =>
  .bC fun bj =>
  .aN fun aG dt =>
  .aN fun cM eP =>
  .aN fun cT ff =>
  .ret (let q2:=ai ((len_ (eX 1 eI) r1)+kP);let cg:=ai ((len_ dA bz)+kj);let q1:=(List.replicate cg.toNat 0:List Int);let dM:=(List.replicate q2.toNat 0:List Int);let iT:=bE 1 .live bq q1;let lP:=ai (q2*cg);let d9:=(List.replicate lP.toNat 0:List Int);j7 [(R 1),.aH (al 1 (au (b3 1 (.isl 1 (r1.map (eX 1 eI))) false) (bJ 1 (b3 1 (.isl 2 (bz.map dA)) false) 2))),(R 11),(R 18),(R 3),.bf [0,16,23,26,29] [.box [.id,.id,.id,.id,.id],.box [.id,.id,.len (d9.length),.len (dM.length),.len (q1.length)],.di (a9 1 eI d9),.di (a9 1 eI dM),.di (a9 1 eI q1)] (bH [0,1,8,10,11,46,47,48]),(yn ao.bb ao.aR b6 bz r1 (len_ (eX 1 eI) r1) q2 cg dM q1 aG).g9,.aH (bJ 1 (b3 1 (.isl 1 (cM.map eI)) false) 2),.bf [0,1,2,3,4] [.box [.id,.id,.id,.id,.id],.box [.id,.id,.id,.id,.id],.pure,.pure,.pure] (bH [1,8,11,80,81,82]),(yo b6 cM (len_ eI cM) q2 cg aG q1 cT).g9,(R 2),.xJ [{bg:=[(2,0),(3,0),(4,0)],hk:=none},{bg:=[(0,0)]}] [([.pure,.pure,.pure],none),([.box [.id,.id,.at_ 0 0 aG.length,.at_ 0 1 cT.length,.at_ 0 2 (q1.length)]],none)] [(8,.bn (.dE (.at_ 1 0 0)))]] [0] [.fT [ae.mk 1 (aG.map eI) .live,ae.mk 1 (cT.map eI) .live,ae.mk 1 (q1.map eI) .live]] (.bA (HD r1 h2) (CC bz ax) a8.1 (Int.le_refl lP) a8.2.1 a8.2.2 a4.1 (Int.le_refl q2) (.bA a4.2.1 a4.2.2 bj.1 (Int.le_refl cg) bj.2.1 bj.2.2 (mw lP.toNat (0:Int)) (mw q2.toNat (0:Int)) (.bA (mw cg.toNat (0:Int)) (dZ 1 .live (l4 eI lP.toNat 0)) (bE 1 .live bq d9) (dZ 1 .live (l4 eI q2.toNat 0)) (bE 1 .live bq dM) (dZ 1 .live (l4 eI cg.toNat 0)) iT (Hn dt) (.bA (CB cM eP) (bE 1 .live bq aG) (bE 1 .live bq dM) iT (Ho ff) (bE 1 .live bq aG) (bE 1 .live bq cT) iT (.hR (rfl:(jL [{bg:=[(2,0),(3,0),(4,0)],hk:=none},{bg:=[(0,0)]}]) 0 0=some (2,0)) (rfl:aG.length=aG.length) (rfl:(jL [{bg:=[(2,0),(3,0),(4,0)],hk:=none},{bg:=[(0,0)]}]) 0 1=some (3,0)) (rfl:cT.length=cT.length) (rfl:(jL [{bg:=[(2,0),(3,0),(4,0)],hk:=none},{bg:=[(0,0)]}]) 0 2=some (4,0)) (rfl:q1.length=q1.length) (rfl:(jL [{bg:=[(2,0),(3,0),(4,0)],hk:=none},{bg:=[(0,0)]}]) 1 0=some (0,0)) (db (dl (fW [0]) 1 dV aG) (db (dl (fW [0]) 1 dV cT) (db (dl (fW [0]) 1 dV q1) (gZ (bw:=(fW [0]))))))))))) (.bn (.agg [.id,.id,.id,.id,.id])))
def tc (ah uZ l7:Int)(nJ ot ou:List Int):Option (Nat×Nat) :=
 if 0≤(ai (ah*l7)) then
 if 0≤(ai ((ai (ah+(1:Int)))*l7)) then
 if (ai (ah*l7)).toNat≤(ai ((ai (ah+(1:Int)))*l7)).toNat∧(ai ((ai (ah+(1:Int)))*l7)).toNat≤nJ.length then
 some ((0+(ai (ah*l7)).toNat),((ai ((ai (ah+(1:Int)))*l7)).toNat-(ai (ah*l7)).toNat))
 else none
 else none
 else none
theorem IA {ah uZ l7:Int}{nJ ot ou:List Int}:bG (tc ah uZ l7 nJ ot ou) (fun a=>Con bo 50 [.ref 0 0 0 0,.n .i64 ah] [[ae.mk 5 [(hj uZ l7 1 0 0 nJ.length 1 1 0 ot.length 1 2 0 ou.length)] .live],[ae.mk 1 (nJ.map eI) .live,ae.mk 1 (ot.map eI) .live,ae.mk 1 (ou.map eI) .live]] (.a1 1 0 a.1 a.2) [[ae.mk 5 [(hj uZ l7 1 0 0 nJ.length 1 1 0 ot.length 1 2 0 ou.length)] .live],[ae.mk 1 (nJ.map eI) .live,ae.mk 1 (ot.map eI) .live,ae.mk 1 (ou.map eI) .live]]):=by
 unfold tc
 exact .bC fun h1 =>
  .bC fun h2 =>
  .bC fun af =>
  .ret (let q1:=hj uZ l7 1 0 0 nJ.length 1 1 0 ot.length 1 2 0 ou.length;let q2:=fW [0,1];j7 [(R 1),(R 19)] [0,1] [.fT [ae.mk 5 [q1] .live],.fT [ae.mk 1 (nJ.map eI) .live,ae.mk 1 (ot.map eI) .live,ae.mk 1 (ou.map eI) .live]] (.d5 h1 h2 af.1 af.2 (Cn q2 5 [q1] [q1] rfl) (db (dl q2 1 dV nJ) (db (dl q2 1 dV ot) (db (dl q2 1 dV ou) (gZ (bw:=q2)))))))
end Go.Proofs.Ytgfpnhmcmgnepaa
namespace Go.Proofs.Ytgfpnhmcmgnepaa
set_option linter.unusedVariables false
set_option linter.unusedSimpArgs false
open Go Go.VL
def yj (cj:List aM)(b7:List aX)(cN:List cu)(eA ei ah kp:Int)(hG kk:Nat)(ew:List bh)(eC fl fj gE bM bI dh dO eN kT:Int)(h9 ia:List Int):(Int×(List Int))→S:=fun (gF,hc)=>dW [(0,.df 2 [[.isl 4 (cj.map aP),.isl 3 (b7.map aU)]] 0 0),(6,.ref 0 0 0 0),(7,.isl 2 (cN.map dA)),(8,.ref 1 0 0 0),(9,.n .i64 eA),(10,.n .i64 ei),(11,.n .i64 ah),(12,.ref 2 0 0 0),(13,.n .i64 kp),(14,.ref 3 0 0 0),(15,.a1 4 0 hG kk),(37,.isl 4 (ew.map eTBlock)),(38,.n .i64 eC),(39,.n .i64 ah),(54,.agg [.n .i64 fl,.n .i64 fj,.n .i64 fj,.n .i64 fl]),(55,.n .i64 kp),(66,.isl 2 (cN.map dA)),(67,.n .i64 gE),(68,.n .i64 gF)] [[ae.mk 5 [[.n .i64 (0:Int),.n .i64 (0:Int),.cv,.cv,.cv]] .live],[ae.mk 5 [(hj bM bI 4 0 0 hc.length 4 1 0 h9.length 4 2 0 ia.length)] .live],[ae.mk 4 [[.n .i64 fl,.n .i64 fj,.n .i64 dh,.n .i64 dO]] .live],[ae.mk 2 [[.n .i64 eN,.n .i64 kT]] .live],[ae.mk 1 (hc.map eI) .live,ae.mk 1 (h9.map eI) .live,ae.mk 1 (ia.map eI) .live]]
def yp (cj:List aM)(b7:List aX)(cN:List cu)(eA ei ah kp:Int)(hG kk:Nat)(ew:List bh)(eC fl fj gE bM bI dh dO eN kT:Int)(h9 ia:List Int):(List Int)→dY
 | a=>⟨some 4,[(0,.df 2 [[.isl 4 (cj.map aP),.isl 3 (b7.map aU)]] 0 0),(6,.ref 0 0 0 0),(7,.isl 2 (cN.map dA)),(8,.ref 1 0 0 0),(9,.n .i64 eA),(10,.n .i64 ei),(11,.n .i64 ah),(12,.ref 2 0 0 0),(13,.n .i64 kp),(15,.a1 3 0 hG kk),(37,.isl 4 (ew.map eTBlock)),(38,.n .i64 eC),(39,.n .i64 ah),(54,.agg [.n .i64 fl,.n .i64 fj,.n .i64 fj,.n .i64 fl]),(55,.n .i64 kp)],[[ae.mk 5 [[.n .i64 (0:Int),.n .i64 (0:Int),.cv,.cv,.cv]] .live],[ae.mk 5 [(hj bM bI 3 0 0 a.length 3 1 0 h9.length 3 2 0 ia.length)] .live],[ae.mk 4 [[.n .i64 fl,.n .i64 fj,.n .i64 dh,.n .i64 dO]] .live],[ae.mk 1 (a.map eI) .live,ae.mk 1 (h9.map eI) .live,ae.mk 1 (ia.map eI) .live]]⟩
def qL (cj:List aM)(b7:List aX)(cN:List cu)(eA ei ah kp:Int)(hG kk:Nat)(ew:List bh)(eC fl fj gE bM bI dh dO eN kT:Int)(h9 ia:List Int)(gF:Int)(hc:List Int):Option ((Int×(List Int))⊕((List Int))) :=
 if (decide (gF<gE))=true then
  if 0≤gF∧gF<cN.length then
  cN[gF.toNat]? >>= fun aK =>
  if (aK.iU == eN)=true then
   kO (⟨cj,b7⟩:bl) eN >>= fun dN =>
   if 0≤gF∧gF<(kk:Nat) then
   if (hG+gF.toNat)<hc.length then
   some (.inl (ai (gF+(1:Int)),hc.set (hG+gF.toNat) (ai (dO*dN))))
   else none
   else none
  else
   if (aK.iU == kT)=true then
    kO (⟨cj,b7⟩:bl) kT >>= fun ch =>
    if 0≤gF∧gF<(kk:Nat) then
    if (hG+gF.toNat)<hc.length then
    some (.inl (ai (gF+(1:Int)),hc.set (hG+gF.toNat) (ai ((ai (0-dh))*ch))))
    else none
    else none
   else
    some (.inl (ai (gF+(1:Int)),hc))
  else none
 else
  some (.inr hc)
def sW (cj:List aM)(b7:List aX)(cN:List cu)(eA ei ah kp:Int)(hG kk:Nat)(ew:List bh)(eC fl fj gE bM bI dh dO eN kT:Int)(h9 ia:List Int)(gF:Int)(hc:List Int):Option ((List Int)):=iter (fun w:Int×(List Int)=>qL cj b7 cN eA ei ah kp hG kk ew eC fl fj gE bM bI dh dO eN kT h9 ia w.1 w.2) (gF,hc)
theorem He {cj:List aM}{b7:List aX}{cN:List cu}{eA ei ah kp:Int}{hG kk:Nat}{ew:List bh}{eC fl fj gE bM bI dh dO eN kT:Int}{h9 ia:List Int}{gF:Int}{hc:List Int}:bG (qL cj b7 cN eA ei ah kp hG kk ew eC fl fj gE bM bI dh dO eN kT h9 ia gF hc) (eD bo 116 0 30 [1,1,1,1,0,1,0,0,1,1,0,0,1,1,0,0,1,1,0,0,1,1,0,1,0,0] (yj cj b7 cN eA ei ah kp hG kk ew eC fl fj gE bM bI dh dO eN kT h9 ia (gF,hc)) (yj cj b7 cN eA ei ah kp hG kk ew eC fl fj gE bM bI dh dO eN kT h9 ia) (yp cj b7 cN eA ei ah kp hG kk ew eC fl fj gE bM bI dh dO eN kT h9 ia)):=by
 unfold qL
 exact .ite (fun h1 =>
  .bC fun h2 =>
  .aN fun aK ax =>
  (let t1:List b5:=[(R 1),.ad true,.aH (bJ 2 (.cO (dA aK)) 3),(R 2),(R 4)];
  have aY:=((.d5 h1 h2.1 (dL dA h2.2) (dr dA ax) (by decide:(0:Int)≤0) (by decide:(0:Int)<2)):cD _);
  .ite (fun a8 =>
  .aN fun dN bj =>
  .bC fun cI =>
  .bC fun dt =>
  .ret (let q1:=fW [0,1,2,3,4];let q2:=ai (dO*dN);bN (t1.append [.ad true,.aH (al 7 (au (b3 2 (.n .i64 dN) true) (al 2 (au .gH [])))),(R 2),.bf [0,1,2,3,4] [.box [.id,.id,.id,.id,.id],.box [.id,.id,.len ((hc.set (hG+gF.toNat) q2).length),.id,.id],.box [.id,.id,.id,.id],.box [.id,.id],.fT [ae.mk 1 ((hc.set (hG+gF.toNat) q2).map eI) .live,ae.mk 1 (h9.map eI) .live,ae.mk 1 (ia.map eI) .live]] (bH [0,6,7,8,9,10,11,12,13,14,15,37,38,39,54,55,66,67,68])]) (aY.aB (.bA a8 (by decide:(0:Int)≤0) (by decide:(0:Int)<2) (qT dN bj) (aZ.n .i64 dN) cI.1 cI.2 (kK eI dt) (.br (kg 1) (hb (dH hc) (hG+gF.toNat) q2) (db (vz (bw:=q1) 1 .live eI (js (d6 eI hc) (hG+gF.toNat) q2) (uC dV)) (db (dl q1 1 dV h9) (db (dl q1 1 dV ia) (gZ (bw:=q1))))))))))
  (fun a8 =>
  (have dR:=aY.aB (.br a8 (by decide:(0:Int)≤1) (by decide:(1:Int)<2));
  .ite (fun a4 =>
  .aN fun ch cI =>
  .bC fun dt =>
  .bC fun cB =>
  .ret (let cg:=ai ((ai (0-dh))*ch);let dM:=fW [0,1,2,3,4];bN (t1.append [.ad false,(R 4),.ad true,.aH (al 8 (au (b3 2 (.n .i64 ch) true) (al 2 (au .gH [])))),(R 2),.bf [0,1,2,3,4] [.box [.id,.id,.id,.id,.id],.box [.id,.id,.len ((hc.set (hG+gF.toNat) cg).length),.id,.id],.box [.id,.id,.id,.id],.box [.id,.id],.fT [ae.mk 1 ((hc.set (hG+gF.toNat) cg).map eI) .live,ae.mk 1 (h9.map eI) .live,ae.mk 1 (ia.map eI) .live]] (bH [0,6,7,8,9,10,11,12,13,14,15,37,38,39,54,55,66,67,68])]) (dR.aB (.bA a4 (by decide:(0:Int)≤1) (by decide:(1:Int)<2) (qT ch cI) (aZ.n .i64 ch) dt.1 dt.2 (kK eI cB) (.br (kg 1) (hb (dH hc) (hG+gF.toNat) cg) (db (vz (bw:=dM) 1 .live eI (js (d6 eI hc) (hG+gF.toNat) cg) (uC dV)) (db (dl dM 1 dV h9) (db (dl dM 1 dV ia) (gZ (bw:=dM))))))))))
  (fun a4 =>
  .ret (let d9:=fW [0,1,2,3,4];bN (t1.append [.ad false,(R 4),.ad false,(R 2),.bf [0,1,2,3,4] [.box [.id,.id,.id,.id,.id],.box [.id,.id,.id,.id,.id],.box [.id,.id,.id,.id],.box [.id,.id],.fT [ae.mk 1 (hc.map eI) .live,ae.mk 1 (h9.map eI) .live,ae.mk 1 (ia.map eI) .live]] (bH [0,6,7,8,9,10,11,12,13,14,15,37,38,39,54,55,66,67,68])]) (dR.aB (.e2 a4 (db (dl d9 1 dV hc) (db (dl d9 1 dV h9) (db (dl d9 1 dV ia) (gZ (bw:=d9)))))))))))))
  (fun h1 =>
  .ret (let iT:=fW [0,1,2,4];bN [(R 1),.ad false,.bf [0,1,2,4] [.box [.id,.id,.id,.id,.id],.box [.id,.id,.id,.id,.id],.box [.id,.id,.id,.id],.fT [ae.mk 1 (hc.map eI) .live,ae.mk 1 (h9.map eI) .live,ae.mk 1 (ia.map eI) .live]] (bH [0,6,7,8,9,10,11,12,13,15,37,38,39,54,55])] (.e2 h1 (db (dl iT 1 dV hc) (db (dl iT 1 dV h9) (db (dl iT 1 dV ia) (gZ (bw:=iT))))))))
theorem Hp {cj:List aM}{b7:List aX}{cN:List cu}{eA ei ah kp:Int}{hG kk:Nat}{ew:List bh}{eC fl fj gE bM bI dh dO eN kT:Int}{h9 ia:List Int}{gF:Int}{hc:List Int}{r} (h:sW cj b7 cN eA ei ah kp hG kk ew eC fl fj gE bM bI dh dO eN kT h9 ia gF hc=some r):eE bo 116 0 30 [1,1,1,1,0,1,0,0,1,1,0,0,1,1,0,0,1,1,0,0,1,1,0,1,0,0] (yj cj b7 cN eA ei ah kp hG kk ew eC fl fj gE bM bI dh dO eN kT h9 ia) (yp cj b7 cN eA ei ah kp hG kk ew eC fl fj gE bM bI dh dO eN kT h9 ia) (gF,hc) r:=eF (fun _=>He) h
def yk (cj:List aM)(b7:List aX)(cN:List cu)(eA ei ah:Int)(ew:List bh)(eC fl fj bM bI dh dO:Int)(f7 f8:List Int):(Int×(List Int))→S:=fun (eS,hI)=>dW [(0,.df 2 [[.isl 4 (cj.map aP),.isl 3 (b7.map aU)]] 0 0),(6,.ref 0 0 0 0),(7,.isl 2 (cN.map dA)),(8,.ref 1 0 0 0),(9,.n .i64 eA),(10,.n .i64 ei),(11,.n .i64 ah),(12,.ref 2 0 0 0),(37,.isl 4 (ew.map eTBlock)),(38,.n .i64 eC),(39,.n .i64 ah),(54,.agg [.n .i64 fl,.n .i64 fj,.n .i64 fj,.n .i64 fl]),(55,.n .i64 eS)] [[ae.mk 5 [[.n .i64 (0:Int),.n .i64 (0:Int),.cv,.cv,.cv]] .live],[ae.mk 5 [(hj bM bI 3 0 0 hI.length 3 1 0 f7.length 3 2 0 f8.length)] .live],[ae.mk 4 [[.n .i64 fl,.n .i64 fj,.n .i64 dh,.n .i64 dO]] .live],[ae.mk 1 (hI.map eI) .live,ae.mk 1 (f7.map eI) .live,ae.mk 1 (f8.map eI) .live]]
def yq (cj:List aM)(b7:List aX)(cN:List cu)(eA ei ah:Int)(ew:List bh)(eC fl fj bM bI dh dO:Int)(f7 f8:List Int):(List Int)→dY
 | a=>⟨some 2,[(0,.df 2 [[.isl 4 (cj.map aP),.isl 3 (b7.map aU)]] 0 0),(6,.ref 0 0 0 0),(7,.isl 2 (cN.map dA)),(8,.ref 1 0 0 0),(9,.n .i64 eA),(10,.n .i64 ei),(37,.isl 4 (ew.map eTBlock)),(38,.n .i64 eC),(39,.n .i64 ah)],[[ae.mk 5 [[.n .i64 (0:Int),.n .i64 (0:Int),.cv,.cv,.cv]] .live],[ae.mk 5 [(hj bM bI 2 0 0 a.length 2 1 0 f7.length 2 2 0 f8.length)] .live],[ae.mk 1 (a.map eI) .live,ae.mk 1 (f7.map eI) .live,ae.mk 1 (f8.map eI) .live]]⟩
def qM (cj:List aM)(b7:List aX)(cN:List cu)(eA ei ah:Int)(ew:List bh)(eC fl fj bM bI dh dO:Int)(f7 f8:List Int)(eS:Int)(hI:List Int):Option ((Int×(List Int))⊕((List Int))) :=
 if (decide (eS<(2:Int)))=true then
  if 0≤eS∧eS<2 then
  tc (ai ((ai (eA+(ai ((2:Int)*ah))))+eS)) bM bI hI f7 f8 >>= fun bz =>
  sW cj b7 cN eA ei ah eS bz.1 bz.2 ew eC fl fj (len_ dA cN) bM bI dh dO (if eS=0 then fl else fj) (if eS=0 then fj else fl) f7 f8 0 hI >>= fun aQ =>
  if 0≤(ai ((ai (ei+(ai ((2:Int)*ah))))+eS))∧(ai ((ai (ei+(ai ((2:Int)*ah))))+eS))<(bz.2:Nat) then
  if (bz.1+(ai ((ai (ei+(ai ((2:Int)*ah))))+eS)).toNat)<aQ.length then
  some (.inl (ai (eS+(1:Int)),aQ.set (bz.1+(ai ((ai (ei+(ai ((2:Int)*ah))))+eS)).toNat) 1))
  else none
  else none
  else none
 else
  some (.inr hI)
def vO (cj:List aM)(b7:List aX)(cN:List cu)(eA ei ah:Int)(ew:List bh)(eC fl fj bM bI dh dO:Int)(f7 f8:List Int)(eS:Int)(hI:List Int):Option ((List Int)):=iter (fun w:Int×(List Int)=>qM cj b7 cN eA ei ah ew eC fl fj bM bI dh dO f7 f8 w.1 w.2) (eS,hI)
theorem Hf {cj:List aM}{b7:List aX}{cN:List cu}{eA ei ah:Int}{ew:List bh}{eC fl fj bM bI dh dO:Int}{f7 f8:List Int}{eS:Int}{hI:List Int}:bG (qM cj b7 cN eA ei ah ew eC fl fj bM bI dh dO f7 f8 eS hI) (eD bo 116 0 30 [1,1,1,1,0,1,0,0,1,1,0,0,1,1,0,0] (yk cj b7 cN eA ei ah ew eC fl fj bM bI dh dO f7 f8 (eS,hI)) (yk cj b7 cN eA ei ah ew eC fl fj bM bI dh dO f7 f8) (yq cj b7 cN eA ei ah ew eC fl fj bM bI dh dO f7 f8)):=by
 unfold qM
 exact .ite (fun h1 =>
  .bC fun h2 =>
  .aN fun bz ax =>
  .aN fun aQ a4 =>
  .bC fun bj =>
  .bC fun cI =>
  .ret (let q1:=hj bM bI 1 0 0 hI.length 1 1 0 f7.length 1 2 0 f8.length;let q2:=hj bM bI 3 0 0 hI.length 3 1 0 f7.length 3 2 0 f8.length;let cg:=(ai ((ai (ei+(ai ((2:Int)*ah))))+eS));let dM:=fW [0,1,2,7,3];let d9:=fW [0,1,2,3];bN [(R 1),.ad true,(R 5),.aH (bJ 6 (.call {ar:=(xO [1,3]),b8:=[.fT [ae.mk 5 [q1] .live],.fT [ae.mk 1 (hI.map eI) .live,ae.mk 1 (f7.map eI) .live,ae.mk 1 (f8.map eI) .live]],ac:=[ii,ii],r:= .a1 1 0 bz.1 bz.2,c2:=[[ae.mk 5 [q1] .live],[ae.mk 1 (hI.map eI) .live,ae.mk 1 (f7.map eI) .live,ae.mk 1 (f8.map eI) .live]],ek:=ii,e8:=[.fT [ae.mk 5 [q2] .live],.fT [ae.mk 1 (hI.map eI) .live,ae.mk 1 (f7.map eI) .live,ae.mk 1 (f8.map eI) .live]],dx:=[1,3],dk:=false}) 1),(R 3),.bf [0,1,2,7,3] [.box [.id,.id,.id,.id,.id],.box [.id,.id,.id,.id,.id],.box [.id,.id,.id,.id],.box [.id,.id],.fT [ae.mk 1 (hI.map eI) .live,ae.mk 1 (f7.map eI) .live,ae.mk 1 (f8.map eI) .live]] (bH [0,6,7,8,9,10,11,12,13,14,15,37,38,39,54,55,66,67,68]),(yp cj b7 cN eA ei ah eS bz.1 bz.2 ew eC fl fj (len_ dA cN) bM bI dh dO (if eS=0 then fl else fj) (if eS=0 then fj else fl) f7 f8 aQ).g9,.aH (al 8 (au .gH [])),(R 2),.bf [0,1,2,3] [.box [.id,.id,.id,.id,.id],.box [.id,.id,.len ((aQ.set (bz.1+cg.toNat) 1).length),.id,.id],.box [.id,.id,.id,.id],.fT [ae.mk 1 ((aQ.set (bz.1+cg.toNat) 1).map eI) .live,ae.mk 1 (f7.map eI) .live,ae.mk 1 (f8.map eI) .live]] (bH [0,6,7,8,9,10,11,12,37,38,39,54,55])] (.bA h1 h2.1 h2.2 (Cn (vA [1,3]) 5 [q1] [q2] rfl) (GK 5 [q2]) (db (dl (vA [1,3]) 1 dV hI) (db (dl (vA [1,3]) 1 dV f7) (db (dl (vA [1,3]) 1 dV f8) (gZ (bw:=(vA [1,3])))))) ((gM rfl (gM rfl (gM rfl l0))):iK [ae.mk 1 (hI.map eI) .live,ae.mk 1 (f7.map eI) .live,ae.mk 1 (f8.map eI) .live]) (Cn (eQ [1,3]) 5 [q2] [q1] rfl) (.bA (GK 5 [q1]) (db (dl (eQ [1,3]) 1 dV hI) (db (dl (eQ [1,3]) 1 dV f7) (db (dl (eQ [1,3]) 1 dV f8) (gZ (bw:=(eQ [1,3])))))) ((gM rfl (gM rfl (gM rfl l0))):iK [ae.mk 1 (hI.map eI) .live,ae.mk 1 (f7.map eI) .live,ae.mk 1 (f8.map eI) .live]) (IA bz ax) (db (dl dM 1 dV hI) (db (dl dM 1 dV f7) (db (dl dM 1 dV f8) (gZ (bw:=dM))))) (Hp a4) bj.1 bj.2 (.cS (kK eI cI) (kg 1) (hb (dH aQ) (bz.1+cg.toNat) 1) (db (vz (bw:=d9) 1 .live eI (js (d6 eI aQ) (bz.1+cg.toNat) 1) (uC dV)) (db (dl d9 1 dV f7) (db (dl d9 1 dV f8) (gZ (bw:=d9))))))))))
  (fun h1 =>
  .ret (let iT:=fW [0,1,3];bN [(R 1),.ad false,.bf [0,1,3] [.box [.id,.id,.id,.id,.id],.box [.id,.id,.id,.id,.id],.fT [ae.mk 1 (hI.map eI) .live,ae.mk 1 (f7.map eI) .live,ae.mk 1 (f8.map eI) .live]] (bH [0,6,7,8,9,10,37,38,39])] (.e2 h1 (db (dl iT 1 dV hI) (db (dl iT 1 dV f7) (db (dl iT 1 dV f8) (gZ (bw:=iT))))))))
theorem Hq {cj:List aM}{b7:List aX}{cN:List cu}{eA ei ah:Int}{ew:List bh}{eC fl fj bM bI dh dO:Int}{f7 f8:List Int}{eS:Int}{hI:List Int}{r} (h:vO cj b7 cN eA ei ah ew eC fl fj bM bI dh dO f7 f8 eS hI=some r):eE bo 116 0 30 [1,1,1,1,0,1,0,0,1,1,0,0,1,1,0,0] (yk cj b7 cN eA ei ah ew eC fl fj bM bI dh dO f7 f8) (yq cj b7 cN eA ei ah ew eC fl fj bM bI dh dO f7 f8) (eS,hI) r:=eF (fun _=>Hf) h
def yl (cj:List aM)(b7:List aX)(cN:List cu)(eA ei:Int)(ew:List bh)(eC bM bI:Int)(ib ic:List Int):(Int×(List Int))→S:=fun (kv,kq)=>dW [(0,.df 2 [[.isl 4 (cj.map aP),.isl 3 (b7.map aU)]] 0 0),(6,.ref 0 0 0 0),(7,.isl 2 (cN.map dA)),(8,.ref 1 0 0 0),(9,.n .i64 eA),(10,.n .i64 ei),(37,.isl 4 (ew.map eTBlock)),(38,.n .i64 eC),(39,.n .i64 kv)] [[ae.mk 5 [[.n .i64 (0:Int),.n .i64 (0:Int),.cv,.cv,.cv]] .live],[ae.mk 5 [(hj bM bI 2 0 0 kq.length 2 1 0 ib.length 2 2 0 ic.length)] .live],[ae.mk 1 (kq.map eI) .live,ae.mk 1 (ib.map eI) .live,ae.mk 1 (ic.map eI) .live]]
def yr (cj:List aM)(b7:List aX)(cN:List cu)(eA ei:Int)(ew:List bh)(eC bM bI:Int)(ib ic:List Int):(List Int)→dY
 | a=>⟨some 0,[(6,.ref 0 0 0 0),(8,.ref 1 0 0 0)],[[ae.mk 5 [[.n .i64 (0:Int),.n .i64 (0:Int),.cv,.cv,.cv]] .live],[ae.mk 5 [(hj bM bI 2 0 0 a.length 2 1 0 ib.length 2 2 0 ic.length)] .live],[ae.mk 1 (a.map eI) .live,ae.mk 1 (ib.map eI) .live,ae.mk 1 (ic.map eI) .live]]⟩
def qN (cj:List aM)(b7:List aX)(cN:List cu)(eA ei:Int)(ew:List bh)(eC bM bI:Int)(ib ic:List Int)(kv:Int)(kq:List Int):Option ((Int×(List Int))⊕((List Int))) :=
 if (decide (kv<eC))=true then
  if 0≤kv∧kv<ew.length then
  ew[kv.toNat]? >>= fun aK =>
  vO cj b7 cN eA ei kv ew eC aK.bi aK.bc bM bI aK.cz aK.de ib ic 0 kq >>= fun aQ =>
  some (.inl (ai (kv+(1:Int)),aQ))
  else none
 else
  some (.inr kq)
def yA (cj:List aM)(b7:List aX)(cN:List cu)(eA ei:Int)(ew:List bh)(eC bM bI:Int)(ib ic:List Int)(kv:Int)(kq:List Int):Option ((List Int)):=iter (fun w:Int×(List Int)=>qN cj b7 cN eA ei ew eC bM bI ib ic w.1 w.2) (kv,kq)
theorem Hg {cj:List aM}{b7:List aX}{cN:List cu}{eA ei:Int}{ew:List bh}{eC bM bI:Int}{ib ic:List Int}{kv:Int}{kq:List Int}:bG (qN cj b7 cN eA ei ew eC bM bI ib ic kv kq) (eD bo 116 0 30 [1,1,1,1,0,1,0,0] (yl cj b7 cN eA ei ew eC bM bI ib ic (kv,kq)) (yl cj b7 cN eA ei ew eC bM bI ib ic) (yr cj b7 cN eA ei ew eC bM bI ib ic)):=by
 unfold qN
 exact .ite (fun h1 =>
  .bC fun h2 =>
  .aN fun aK ax =>
  .aN fun aQ a4 =>
  .ret (let q1:=fW [0,1,7,2];let q2:=fW [0,1,2];bN [(R 1),.ad true,.aH (bJ 2 (.cO (eTBlock aK)) 3),(R 12),.bf [0,1,7,2] [.box [.id,.id,.id,.id,.id],.box [.id,.id,.id,.id,.id],.box [.id,.id,.id,.id],.fT [ae.mk 1 (kq.map eI) .live,ae.mk 1 (ib.map eI) .live,ae.mk 1 (ic.map eI) .live]] (bH [0,6,7,8,9,10,11,12,37,38,39,54,55]),(yq cj b7 cN eA ei kv ew eC aK.bi aK.bc bM bI aK.cz aK.de ib ic aQ).g9,(R 2),.bf [0,1,2] [.box [.id,.id,.id,.id,.id],.box [.id,.id,.id,.id,.id],.fT [ae.mk 1 (aQ.map eI) .live,ae.mk 1 (ib.map eI) .live,ae.mk 1 (ic.map eI) .live]] (bH [0,6,7,8,9,10,37,38,39])] (.gV h1 h2.1 (dL eTBlock h2.2) (dr eTBlock ax) (db (dl q1 1 dV kq) (db (dl q1 1 dV ib) (db (dl q1 1 dV ic) (gZ (bw:=q1))))) (Hq a4) (db (dl q2 1 dV aQ) (db (dl q2 1 dV ib) (db (dl q2 1 dV ic) (gZ (bw:=q2))))))))
  (fun h1 =>
  .ret (let cg:=fW [0,1,2];bN [(R 1),.ad false,.bf [0,1,2] [.box [.id,.id,.id,.id,.id],.box [.id,.id,.id,.id,.id],.fT [ae.mk 1 (kq.map eI) .live,ae.mk 1 (ib.map eI) .live,ae.mk 1 (ic.map eI) .live]] (bH [6,8])] (.e2 h1 (db (dl cg 1 dV kq) (db (dl cg 1 dV ib) (db (dl cg 1 dV ic) (gZ (bw:=cg))))))))
theorem Hr {cj:List aM}{b7:List aX}{cN:List cu}{eA ei:Int}{ew:List bh}{eC bM bI:Int}{ib ic:List Int}{kv:Int}{kq:List Int}{r} (h:yA cj b7 cN eA ei ew eC bM bI ib ic kv kq=some r):eE bo 116 0 30 [1,1,1,1,0,1,0,0] (yl cj b7 cN eA ei ew eC bM bI ib ic) (yr cj b7 cN eA ei ew eC bM bI ib ic) (kv,kq) r:=eF (fun _=>Hg) h
def s0 (ao:bl)(b6:List Int)(cP:List bh):Option (Int×Int×(List Int)×(List Int)×(List Int)) :=
 q4 ao >>= fun r1 =>
 sZ ao b6 (ai ((2:Int)*(len_ eTBlock cP))) (ai ((2:Int)*(len_ eTBlock cP))) >>= fun bz =>
 yA ao.bb ao.aR r1 (ai (bz.1-(ai ((2:Int)*(len_ eTBlock cP))))) (len_ dA r1) cP (len_ eTBlock cP) bz.1 bz.2.1 bz.2.2.2.1 bz.2.2.2.2 0 bz.2.2.1 >>= fun aQ =>
 some (bz.1,bz.2.1,aQ,bz.2.2.2.1,bz.2.2.2.2)
theorem HA {ao:bl}{b6:List Int}{cP:List bh}:bG (s0 ao b6 cP) (fun a=>Con bo 30 [.df 2 [(ed ao)] 0 0,.isl 1 (b6.map eI),.isl 4 (cP.map eTBlock)] [] (.agg (hj a.1 a.2.1 0 0 0 a.2.2.1.length 0 1 0 a.2.2.2.1.length 0 2 0 a.2.2.2.2.length)) [[ae.mk 1 (a.2.2.1.map eI) .live,ae.mk 1 (a.2.2.2.1.map eI) .live,ae.mk 1 (a.2.2.2.2.map eI) .live]]):=by
 unfold s0
 exact .aN fun r1 h2 =>
  .aN fun bz ax =>
  .aN fun aQ a4 =>
  .ret (let q1:=fW [0,13,12];j7 [(R 1),.aH (bJ 1 (b3 1 (.isl 2 (r1.map dA)) false) 1),.aH (bJ 8 (.call {ar:=[],b8:=[],ac:=[ii,ii,ii,ii],r:= .agg (hj bz.1 bz.2.1 0 0 0 bz.2.2.1.length 0 1 0 bz.2.2.2.1.length 0 2 0 bz.2.2.2.2.length),c2:=[[ae.mk 1 (bz.2.2.1.map eI) .live,ae.mk 1 (bz.2.2.2.1.map eI) .live,ae.mk 1 (bz.2.2.2.2.map eI) .live]],ek:= .bn (.agg [.id,.id,.id,.id,.id]),e8:=[.fT [ae.mk 1 (bz.2.2.1.map eI) .live,ae.mk 1 (bz.2.2.2.1.map eI) .live,ae.mk 1 (bz.2.2.2.2.map eI) .live]],dx:=[],dk:=true}) 2),(R 10),(R 3),.bf [0,13,12] [.box [.id,.id,.id,.id,.id],.box [.id,.id,.id,.id,.id],.fT [ae.mk 1 (bz.2.2.1.map eI) .live,ae.mk 1 (bz.2.2.2.1.map eI) .live,ae.mk 1 (bz.2.2.2.2.map eI) .live]] (bH [0,6,7,8,9,10,37,38,39]),(yr ao.bb ao.aR r1 (ai (bz.1-(ai ((2:Int)*(len_ eTBlock cP))))) (len_ dA r1) cP (len_ eTBlock cP) bz.1 bz.2.1 bz.2.2.2.1 bz.2.2.2.2 aQ).g9,(R 2)] [2] [.fT [ae.mk 1 (aQ.map eI) .live,ae.mk 1 (bz.2.2.2.1.map eI) .live,ae.mk 1 (bz.2.2.2.2.map eI) .live]] (.bA (CC r1 h2) (db (dl (eQ [12]) 1 dV bz.2.2.1) (db (dl (eQ [12]) 1 dV bz.2.2.2.1) (db (dl (eQ [12]) 1 dV bz.2.2.2.2) (gZ (bw:=(eQ [12])))))) ((gM rfl (gM rfl (gM rfl l0))):iK [ae.mk 1 (bz.2.2.1.map eI) .live,ae.mk 1 (bz.2.2.2.1.map eI) .live,ae.mk 1 (bz.2.2.2.2.map eI) .live]) (Hz bz ax) (aZ.agg (et (aZ.n .i64 bz.1) (et (aZ.n .i64 bz.2.1) (et (aZ.a1 0 0 0 bz.2.2.1.length) (et (aZ.a1 0 1 0 bz.2.2.2.1.length) (et (aZ.a1 0 2 0 bz.2.2.2.2.length) ko)))))) ((iq (fK (fE jY) (fK (fE jY) (fK (fE jY) iu))) ir):hi [[ae.mk 1 (bz.2.2.1.map eI) .live,ae.mk 1 (bz.2.2.2.1.map eI) .live,ae.mk 1 (bz.2.2.2.2.map eI) .live]]) (db (dl q1 1 dV bz.2.2.1) (db (dl q1 1 dV bz.2.2.2.1) (db (dl q1 1 dV bz.2.2.2.2) (gZ (bw:=q1))))) (Hr a4) (.e1 (db (dl (fW [2]) 1 dV aQ) (db (dl (fW [2]) 1 dV bz.2.2.2.1) (db (dl (fW [2]) 1 dV bz.2.2.2.2) (gZ (bw:=(fW [2])))))))) (.bn (.agg [.id,.id,.id,.id,.id])))
def rl (ao:bl)(b6:List Int)(cP:List bh):Option ((Int×Int×(List Int)×(List Int)×(List Int))⊕(Unit)) :=
 rK ao b6 >>= fun r1 =>
 if r1=true then
  rD ao cP >>= fun cK =>
  if cK=true then
   s0 ao b6 cP >>= fun ch =>
   some (.inl (ch.1,ch.2.1,ch.2.2.1,ch.2.2.2.1,ch.2.2.2.2))
  else
   some (.inr ())
 else
  some (.inr ())
theorem vV {ao:bl}{b6:List Int}{cP:List bh}:bG (rl ao b6 cP) (Sum.elim (fun a=>Con bo 10 [.agg (ed ao),.isl 1 (b6.map eI),.isl 4 (cP.map eTBlock)] [] (.agg (hj a.1 a.2.1 0 0 0 a.2.2.1.length 0 1 0 a.2.2.2.1.length 0 2 0 a.2.2.2.2.length)) [[ae.mk 1 (a.2.2.1.map eI) .live,ae.mk 1 (a.2.2.2.1.map eI) .live,ae.mk 1 (a.2.2.2.2.map eI) .live]]) (fun a=>Con bo 10 [.agg (ed ao),.isl 1 (b6.map eI),.isl 4 (cP.map eTBlock)] [] (.agg [.n .i64 (0:Int),.n .i64 (0:Int),.isl 1 (([]:List Int).map eI),.isl 1 (([]:List Int).map eI),.isl 1 (([]:List Int).map eI)]) [])):=by
 unfold rl
 exact .aN fun r1 h2 =>
  (have bt:=((.e2 (JQ r1 h2) (aZ.b r1)):cD _);
  .ite (fun af =>
  .aN fun cK a8 =>
  (let t2:List b5:=[(R 2),.aH (al 2 (au (b3 2 (.b r1) true) (al 4 (au (b3 2 (.b cK) true) (al 1 (au (.ad false) []))))))];
  have dR:=bt.aB (.gV (bX af) (bX af) (bX af) (Jl cK a8) (aZ.b cK) (bX af) (bX af));
  .ite (fun a4 =>
  .aN fun ch cI =>
  .ret (let q1:=fW [14];j7 (t2.append [.ad false,.aH (bJ 2 (.call {ar:=[],b8:=[],ac:=[.bn (.ptr [.id,.id]),ii,ii],r:= .agg (hj ch.1 ch.2.1 0 0 0 ch.2.2.1.length 0 1 0 ch.2.2.2.1.length 0 2 0 ch.2.2.2.2.length),c2:=[[ae.mk 1 (ch.2.2.1.map eI) .live,ae.mk 1 (ch.2.2.2.1.map eI) .live,ae.mk 1 (ch.2.2.2.2.map eI) .live]],ek:= .bn (.agg [.id,.id,.id,.id,.id]),e8:=[.fT [ae.mk 1 (ch.2.2.1.map eI) .live,ae.mk 1 (ch.2.2.2.1.map eI) .live,ae.mk 1 (ch.2.2.2.2.map eI) .live]],dx:=[0],dk:=true}) 1)]) [14] [.fT [ae.mk 1 (ch.2.2.1.map eI) .live,ae.mk 1 (ch.2.2.2.1.map eI) .live,ae.mk 1 (ch.2.2.2.2.map eI) .live]] (dR.aB (.hR (bX a4) (nG (nz ao):gO [(ed ao)]) (db (dl (eQ [14]) 1 dV ch.2.2.1) (db (dl (eQ [14]) 1 dV ch.2.2.2.1) (db (dl (eQ [14]) 1 dV ch.2.2.2.2) (gZ (bw:=(eQ [14])))))) ((gM rfl (gM rfl (gM rfl l0))):iK [ae.mk 1 (ch.2.2.1.map eI) .live,ae.mk 1 (ch.2.2.2.1.map eI) .live,ae.mk 1 (ch.2.2.2.2.map eI) .live]) (HA ch cI) (aZ.agg (et (aZ.n .i64 ch.1) (et (aZ.n .i64 ch.2.1) (et (aZ.a1 0 0 0 ch.2.2.1.length) (et (aZ.a1 0 1 0 ch.2.2.2.1.length) (et (aZ.a1 0 2 0 ch.2.2.2.2.length) ko)))))) ((iq (fK (fE jY) (fK (fE jY) (fK (fE jY) iu))) ir):hi [[ae.mk 1 (ch.2.2.1.map eI) .live,ae.mk 1 (ch.2.2.2.1.map eI) .live,ae.mk 1 (ch.2.2.2.2.map eI) .live]]) (db (dl q1 1 dV ch.2.2.1) (db (dl q1 1 dV ch.2.2.2.1) (db (dl q1 1 dV ch.2.2.2.2) (gZ (bw:=q1))))))) (.bn (.agg [.id,.id,.id,.id,.id]))))
  (fun a4 =>
  .ret (j7 (t2.append [.ad true,(R 2)]) [] [] (dR.aB (.e1 (bW a4))) (.bn (.agg [.id,.id,.k7 1,.k7 1,.k7 1]))))))
  (fun af =>
  .ret (j7 [(R 2),.aH (al 2 (au (b3 2 (.b r1) true) (al 2 (b0 4 (au (.ad true) []))))),.ad true,(R 2)] [] [] (bt.aB (.d5 (bW af) (bW af) (bW af) (bW af) (bW af) aW)) (.bn (.agg [.id,.id,.k7 1,.k7 1,.k7 1])))))
def zK (av bx:List Int):Int→S:=fun ah=>dW [(0,.isl 1 (av.map eI)),(1,.isl 1 (bx.map eI)),(5,.n .i64 ah)] []
def C9 (av bx:List Int):((Unit)⊕(Unit))→dY
 | .inl a=>⟨some 0,[],[]⟩
 | .inr a=>⟨none,[(4,.b false)],[]⟩
def rm (av bx:List Int)(ah:Int):Option ((Int)⊕((Unit)⊕(Unit))) :=
 if (decide (ah<(len_ eI av)))=true then
  if 0≤ah∧ah<av.length then
  av[ah.toNat]? >>= fun aK =>
  if 0≤ah∧ah<bx.length then
  bx[ah.toNat]? >>= fun eb =>
  if (aK != eb)=true then
   some (.inr (.inr ()))
  else
   some (.inl (ai (ah+(1:Int))))
  else none
  else none
 else
  some (.inr (.inl ()))
def Ac (av bx:List Int)(ah:Int):Option ((Unit)⊕(Unit)):=iter (fun w:Int=>rm av bx w) ah
theorem Iq {av bx:List Int}{ah:Int}:bG (rm av bx ah) (eD bo 26 0 13 [1,1,0,1,0,0] (zK av bx ah) (zK av bx) (C9 av bx)):=by
 unfold rm
 exact .ite (fun h1 =>
  .bC fun h2 =>
  .aN fun aK ax =>
  .bC fun a8 =>
  .aN fun eb bj =>
  (let t1:List b5:=[(R 4),.ad true,.aH (al 3 (au (.cO (eI aK)) (bJ 3 (.cO (eI eb)) 1)))];
  have aY:=((.gV h1 h2.1 (dL eI h2.2) (dr eI ax) a8.1 (dL eI a8.2) (dr eI bj)):cD _);
  .ite (fun cI =>
  .ret (bN (t1.append [.ad true,(R 1),.bf [] [] (bH [4])]) (aY.aB (.e1 cI))))
  (fun cI =>
  .ret (bN (t1.append [.ad false,(R 3),.bf [] [] (bH [0,1,5])]) (aY.aB (.e1 cI))))))
  (fun h1 =>
  .ret (bN [(R 4),.ad false,.bf [] [] []] (.e1 h1)))
theorem De {av bx:List Int}{ah:Int}{r} (h:Ac av bx ah=some r):eE bo 26 0 13 [1,1,0,1,0,0] (zK av bx) (C9 av bx) ah r:=eF (fun _=>Iq) h
def n9 (av bx:List Int):Option Bool :=
 if ((len_ eI av) != (len_ eI bx))=true then
  some false
 else
  Ac av bx 0 >>= fun r2 =>
  match r2 with
  | .inl gj=>(some true)
  | .inr gj=>(some false)
theorem tt {av bx:List Int}:bG (n9 av bx) (fun r=>Con bo 13 [.isl 1 (av.map eI),.isl 1 (bx.map eI)] [] (.b r) []):=by
 unfold n9
 exact .ite (fun h1 =>
  .ret (ba [(R 1),(R 5),.ad true,(R 1)] (.e1 h1)))
  (fun h1 =>
  .aN fun r2 af =>
  (let t1:List b5:=[(R 1),(R 5),.ad false,(R 1),.bf [] [] (bH [0,1,5])];
  (by
  rcases r2 with gj|gj
  ·exact (.ret (ba (t1.append [.sub (.exit 0) [] [],(R 1)]) (.e2 h1 (De af))))
  ·exact (.ret (ba (t1.append [.sub (.ret) [(4,.b false)] []]) (.e2 h1 (De af)))))))
def rB (av bx:iH):Option Bool :=
 if (av.m7 != bx.m7)=true then
  some false
 else
  if (av.ks != bx.ks)=true then
   some false
  else
   n9 av.bi bx.bi >>= fun bz =>
   if bz=true then
    n9 av.bc bx.bc >>= fun dN =>
    if dN=true then
     n9 av.oK bx.oK >>= fun vH =>
     if vH=true then
      some true
     else
      some false
    else
     some false
   else
    some false
theorem rr {av bx:iH}:bG (rB av bx) (fun r=>Con bo 11 [.agg (lX av),.agg (lX bx)] [] (.b r) []):=by
 unfold rB
 exact .ite (fun h1 =>
  .ret (ba [(R 3),(R 5),.ad true,(R 1)] (.e1 h1)))
  (fun h1 =>
  (let t1:List b5:=[(R 3),(R 5),.ad false,(R 5)];
  .ite (fun h2 =>
  .ret (ba (t1.append [.ad true,(R 1)]) (.e2 h1 h2)))
  (fun h2 =>
  .aN fun bz ax =>
  (let t2:List b5:=t1.append [.ad false,.aH (bJ 4 (b3 2 (.b bz) true) 1)];
  have dR:=((.cS h1 h2 (tt bz ax) (aZ.b bz)):cD _);
  .ite (fun a8 =>
  .aN fun dN bj =>
  (let t4:List b5:=t2.append [.ad false,.aH (bJ 4 (b3 2 (.b dN) true) 1)];
  have i9:=dR.aB (.br (bX a8) (tt dN bj) (aZ.b dN));
  .ite (fun cI =>
  .aN fun vH cB =>
  (let t6:List b5:=t4.append [.ad false,.aH (bJ 4 (b3 2 (.b vH) true) 1)];
  have oL:=i9.aB (.br (bX cI) (tt vH cB) (aZ.b vH));
  .ite (fun eP =>
  .ret (ba (t6.append [.ad false,(R 1)]) (oL.aB (.e1 (bX eP)))))
  (fun eP =>
  .ret (ba (t6.append [.ad true,(R 1)]) (oL.aB (.e1 (bW eP)))))))
  (fun cI =>
  .ret (ba (t4.append [.ad true,(R 1)]) (i9.aB (.e1 (bW cI)))))))
  (fun a8 =>
  .ret (ba (t2.append [.ad true,(R 1)]) (dR.aB (.e1 (bW a8)))))))))
def tK (av bx:aM):Option Bool :=
 if (!(av.eM.toList == bx.eM.toList))=true then
  some false
 else
  if (av.dI != bx.dI)=true then
   some false
  else
   if (av.dF != bx.dF)=true then
    some false
   else
    if (av.eB == bx.eB)=true then
     some true
    else
     some false
theorem JH {av bx:aM}:bG (tK av bx) (fun r=>Con bo 52 [.agg (aP av),.agg (aP bx)] [] (.b r) []):=by
 unfold tK
 exact .ite (fun h1 =>
  .ret (ba [(R 3),(R 5),.ad true,(R 1)] (.e1 h1)))
  (fun h1 =>
  (let t1:List b5:=[(R 3),(R 5),.ad false,(R 5)];
  .ite (fun h2 =>
  .ret (ba (t1.append [.ad true,(R 1)]) (.e2 h1 h2)))
  (fun h2 =>
  .ite (fun af =>
  .ret (ba (t1.append [.ad false,(R 5),.ad true,(R 1)]) (.br h1 h2 af)))
  (fun af =>
  (let t2:List b5:=t1.append [.ad false,(R 5),.ad false,(R 5)];
  .ite (fun ax =>
  .ret (ba (t2.append [.ad false,(R 1)]) (.cS h1 h2 af (bX ax))))
  (fun ax =>
  .ret (ba (t2.append [.ad true,(R 1)]) (.cS h1 h2 af (bW ax)))))))))
def zj (av bx:List aM):Int→S:=fun ah=>dW [(0,.isl 4 (av.map aP)),(1,.isl 4 (bx.map aP)),(5,.n .i64 ah)] []
def CQ (av bx:List aM):((Unit)⊕(Unit))→dY
 | .inl a=>⟨some 0,[],[]⟩
 | .inr a=>⟨none,[(4,.b false)],[]⟩
def ra (av bx:List aM)(ah:Int):Option ((Int)⊕((Unit)⊕(Unit))) :=
 if (decide (ah<(len_ aP av)))=true then
  if 0≤ah∧ah<av.length then
  av[ah.toNat]? >>= fun aK =>
  if 0≤ah∧ah<bx.length then
  bx[ah.toNat]? >>= fun eb =>
  tK aK eb >>= fun aG =>
  if aG=true then
   some (.inl (ai (ah+(1:Int))))
  else
   some (.inr (.inr ()))
  else none
  else none
 else
  some (.inr (.inl ()))
def zZ (av bx:List aM)(ah:Int):Option ((Unit)⊕(Unit)):=iter (fun w:Int=>ra av bx w) ah
theorem H6 {av bx:List aM}{ah:Int}:bG (ra av bx ah) (eD bo 27 0 31 [1,1,0,1,0,0] (zj av bx ah) (zj av bx) (CQ av bx)):=by
 unfold ra
 exact .ite (fun h1 =>
  .bC fun h2 =>
  .aN fun aK ax =>
  .bC fun a8 =>
  .aN fun eb bj =>
  .aN fun aG dt =>
  (let t1:List b5:=[(R 4),.ad true,.aH (al 3 (au (.cO (aP aK)) (al 3 (au (.cO (aP eb)) (au (b3 2 (.b aG) true) (al 1 []))))))];
  have aY:=((.bA h1 h2.1 (dL aP h2.2) (dr aP ax) a8.1 (dL aP a8.2) (dr aP bj) (JH aG dt) (.e1 (aZ.b aG))):cD _);
  .ite (fun cB =>
  .ret (bN (t1.append [.ad false,(R 3),.bf [] [] (bH [0,1,5])]) (aY.aB (.e1 (bX cB)))))
  (fun cB =>
  .ret (bN (t1.append [.ad true,(R 1),.bf [] [] (bH [4])]) (aY.aB (.e1 (bW cB)))))))
  (fun h1 =>
  .ret (bN [(R 4),.ad false,.bf [] [] []] (.e1 h1)))
theorem CZ {av bx:List aM}{ah:Int}{r} (h:zZ av bx ah=some r):eE bo 27 0 31 [1,1,0,1,0,0] (zj av bx) (CQ av bx) ah r:=eF (fun _=>H6) h
def tB (av bx:List aM):Option Bool :=
 if ((len_ aP av) != (len_ aP bx))=true then
  some false
 else
  zZ av bx 0 >>= fun r2 =>
  match r2 with
  | .inl gj=>(some true)
  | .inr gj=>(some false)
theorem Jm {av bx:List aM}:bG (tB av bx) (fun r=>Con bo 31 [.isl 4 (av.map aP),.isl 4 (bx.map aP)] [] (.b r) []):=by
 unfold tB
 exact .ite (fun h1 =>
  .ret (ba [(R 1),(R 5),.ad true,(R 1)] (.e1 h1)))
  (fun h1 =>
  .aN fun r2 af =>
  (let t1:List b5:=[(R 1),(R 5),.ad false,(R 1),.bf [] [] (bH [0,1,5])];
  (by
  rcases r2 with gj|gj
  ·exact (.ret (ba (t1.append [.sub (.exit 0) [] [],(R 1)]) (.e2 h1 (CZ af))))
  ·exact (.ret (ba (t1.append [.sub (.ret) [(4,.b false)] []]) (.e2 h1 (CZ af)))))))
def tC (av bx:aX):Option Bool :=
 if (av.bi != bx.bi)=true then
  some false
 else
  if (av.bc != bx.bc)=true then
   some false
  else
   if (av.ee != bx.ee)=true then
    some false
   else
    some true
theorem Jn {av bx:aX}:bG (tC av bx) (fun r=>Con bo 53 [.agg (aU av),.agg (aU bx)] [] (.b r) []):=by
 unfold tC
 exact .ite (fun h1 =>
  .ret (ba [(R 3),(R 5),.ad true,(R 1)] (.e1 h1)))
  (fun h1 =>
  (let t1:List b5:=[(R 3),(R 5),.ad false,(R 5)];
  .ite (fun h2 =>
  .ret (ba (t1.append [.ad true,(R 1)]) (.e2 h1 h2)))
  (fun h2 =>
  .ite (fun af =>
  .ret (ba (t1.append [.ad false,(R 5),.ad true,(R 1)]) (.br h1 h2 af)))
  (fun af =>
  .ret (ba (t1.append [.ad false,(R 5),.ad false,(R 1)]) (.br h1 h2 af))))))
def zc (av bx:List aX):Int→S:=fun ah=>dW [(0,.isl 3 (av.map aU)),(1,.isl 3 (bx.map aU)),(5,.n .i64 ah)] []
def CM (av bx:List aX):((Unit)⊕(Unit))→dY
 | .inl a=>⟨some 0,[],[]⟩
 | .inr a=>⟨none,[(4,.b false)],[]⟩
def q5 (av bx:List aX)(ah:Int):Option ((Int)⊕((Unit)⊕(Unit))) :=
 if (decide (ah<(len_ aU av)))=true then
  if 0≤ah∧ah<av.length then
  av[ah.toNat]? >>= fun aK =>
  if 0≤ah∧ah<bx.length then
  bx[ah.toNat]? >>= fun eb =>
  tC aK eb >>= fun aG =>
  if aG=true then
   some (.inl (ai (ah+(1:Int))))
  else
   some (.inr (.inr ()))
  else none
  else none
 else
  some (.inr (.inl ()))
def zS (av bx:List aX)(ah:Int):Option ((Unit)⊕(Unit)):=iter (fun w:Int=>q5 av bx w) ah
theorem HZ {av bx:List aX}{ah:Int}:bG (q5 av bx ah) (eD bo 27 0 32 [1,1,0,1,0,0] (zc av bx ah) (zc av bx) (CM av bx)):=by
 unfold q5
 exact .ite (fun h1 =>
  .bC fun h2 =>
  .aN fun aK ax =>
  .bC fun a8 =>
  .aN fun eb bj =>
  .aN fun aG dt =>
  (let t1:List b5:=[(R 4),.ad true,.aH (al 3 (au (.cO (aU aK)) (al 3 (au (.cO (aU eb)) (au (b3 2 (.b aG) true) (al 1 []))))))];
  have aY:=((.bA h1 h2.1 (dL aU h2.2) (dr aU ax) a8.1 (dL aU a8.2) (dr aU bj) (Jn aG dt) (.e1 (aZ.b aG))):cD _);
  .ite (fun cB =>
  .ret (bN (t1.append [.ad false,(R 3),.bf [] [] (bH [0,1,5])]) (aY.aB (.e1 (bX cB)))))
  (fun cB =>
  .ret (bN (t1.append [.ad true,(R 1),.bf [] [] (bH [4])]) (aY.aB (.e1 (bW cB)))))))
  (fun h1 =>
  .ret (bN [(R 4),.ad false,.bf [] [] []] (.e1 h1)))
theorem CR {av bx:List aX}{ah:Int}{r} (h:zS av bx ah=some r):eE bo 27 0 32 [1,1,0,1,0,0] (zc av bx) (CM av bx) ah r:=eF (fun _=>HZ) h
def tu (av bx:List aX):Option Bool :=
 if ((len_ aU av) != (len_ aU bx))=true then
  some false
 else
  zS av bx 0 >>= fun r2 =>
  match r2 with
  | .inl gj=>(some true)
  | .inr gj=>(some false)
theorem I5 {av bx:List aX}:bG (tu av bx) (fun r=>Con bo 32 [.isl 3 (av.map aU),.isl 3 (bx.map aU)] [] (.b r) []):=by
 unfold tu
 exact .ite (fun h1 =>
  .ret (ba [(R 1),(R 5),.ad true,(R 1)] (.e1 h1)))
  (fun h1 =>
  .aN fun r2 af =>
  (let t1:List b5:=[(R 1),(R 5),.ad false,(R 1),.bf [] [] (bH [0,1,5])];
  (by
  rcases r2 with gj|gj
  ·exact (.ret (ba (t1.append [.sub (.exit 0) [] [],(R 1)]) (.e2 h1 (CR af))))
  ·exact (.ret (ba (t1.append [.sub (.ret) [(4,.b false)] []]) (.e2 h1 (CR af)))))))
def rv (av bx:bl):Option Bool :=
 tB av.bb bx.bb >>= fun r1 =>
 if r1=true then
  tu av.aR bx.aR >>= fun cK =>
  if cK=true then
   some true
  else
   some false
 else
  some false
theorem C0 {av bx:bl}:bG (rv av bx) (fun r=>Con bo 12 [.agg (ed av),.agg (ed bx)] [] (.b r) []):=by
 unfold rv
 exact .aN fun r1 h2 =>
  (let t1:List b5:=[(R 3),.aH (bJ 4 (b3 2 (.b r1) true) 1)];
  have aY:=((.e2 (Jm r1 h2) (aZ.b r1)):cD _);
  .ite (fun af =>
  .aN fun cK a8 =>
  (let t3:List b5:=t1.append [.ad false,.aH (bJ 4 (b3 2 (.b cK) true) 1)];
  have eV:=aY.aB (.br (bX af) (I5 cK a8) (aZ.b cK));
  .ite (fun a4 =>
  .ret (ba (t3.append [.ad false,(R 1)]) (eV.aB (.e1 (bX a4)))))
  (fun a4 =>
  .ret (ba (t3.append [.ad true,(R 1)]) (eV.aB (.e1 (bW a4)))))))
  (fun af =>
  .ret (ba (t1.append [.ad true,(R 1)]) (aY.aB (.e1 (bW af))))))
def wv (av bx:bh):Option Bool :=
 if (av.bi != bx.bi)=true then
  some false
 else
  if (av.bc != bx.bc)=true then
   some false
  else
   if (av.cz != bx.cz)=true then
    some false
   else
    if (av.de != bx.de)=true then
     some false
    else
     some true
theorem JI {av bx:bh}:bG (wv av bx) (fun r=>Con bo 33 [.agg (eTBlock av),.agg (eTBlock bx)] [] (.b r) []):=by
 unfold wv
 exact .ite (fun h1 =>
  .ret (ba [(R 3),(R 5),.ad true,(R 1)] (.e1 h1)))
  (fun h1 =>
  (let t1:List b5:=[(R 3),(R 5),.ad false,(R 5)];
  .ite (fun h2 =>
  .ret (ba (t1.append [.ad true,(R 1)]) (.e2 h1 h2)))
  (fun h2 =>
  .ite (fun af =>
  .ret (ba (t1.append [.ad false,(R 5),.ad true,(R 1)]) (.br h1 h2 af)))
  (fun af =>
  (let t2:List b5:=t1.append [.ad false,(R 5),.ad false,(R 5)];
  .ite (fun ax =>
  .ret (ba (t2.append [.ad true,(R 1)]) (.cS h1 h2 af ax)))
  (fun ax =>
  .ret (ba (t2.append [.ad false,(R 1)]) (.cS h1 h2 af ax))))))))
def zk (av bx:List bh):Int→S:=fun ah=>dW [(0,.isl 4 (av.map eTBlock)),(1,.isl 4 (bx.map eTBlock)),(5,.n .i64 ah)] []
def CS (av bx:List bh):((Unit)⊕(Unit))→dY
 | .inl a=>⟨some 0,[],[]⟩
 | .inr a=>⟨none,[(4,.b false)],[]⟩
def rb (av bx:List bh)(ah:Int):Option ((Int)⊕((Unit)⊕(Unit))) :=
 if (decide (ah<(len_ eTBlock av)))=true then
  if 0≤ah∧ah<av.length then
  av[ah.toNat]? >>= fun aK =>
  if 0≤ah∧ah<bx.length then
  bx[ah.toNat]? >>= fun eb =>
  wv aK eb >>= fun aG =>
  if aG=true then
   some (.inl (ai (ah+(1:Int))))
  else
   some (.inr (.inr ()))
  else none
  else none
 else
  some (.inr (.inl ()))
def z0 (av bx:List bh)(ah:Int):Option ((Unit)⊕(Unit)):=iter (fun w:Int=>rb av bx w) ah
theorem H7 {av bx:List bh}{ah:Int}:bG (rb av bx ah) (eD bo 27 0 14 [1,1,0,1,0,0] (zk av bx ah) (zk av bx) (CS av bx)):=by
 unfold rb
 exact .ite (fun h1 =>
  .bC fun h2 =>
  .aN fun aK ax =>
  .bC fun a8 =>
  .aN fun eb bj =>
  .aN fun aG dt =>
  (let t1:List b5:=[(R 4),.ad true,.aH (al 3 (au (.cO (eTBlock aK)) (al 3 (au (.cO (eTBlock eb)) (au (b3 2 (.b aG) true) (al 1 []))))))];
  have aY:=((.bA h1 h2.1 (dL eTBlock h2.2) (dr eTBlock ax) a8.1 (dL eTBlock a8.2) (dr eTBlock bj) (JI aG dt) (.e1 (aZ.b aG))):cD _);
  .ite (fun cB =>
  .ret (bN (t1.append [.ad false,(R 3),.bf [] [] (bH [0,1,5])]) (aY.aB (.e1 (bX cB)))))
  (fun cB =>
  .ret (bN (t1.append [.ad true,(R 1),.bf [] [] (bH [4])]) (aY.aB (.e1 (bW cB)))))))
  (fun h1 =>
  .ret (bN [(R 4),.ad false,.bf [] [] []] (.e1 h1)))
theorem C1 {av bx:List bh}{ah:Int}{r} (h:z0 av bx ah=some r):eE bo 27 0 14 [1,1,0,1,0,0] (zk av bx) (CS av bx) ah r:=eF (fun _=>H7) h
def rE (av bx:List bh):Option Bool :=
 if ((len_ eTBlock av) != (len_ eTBlock bx))=true then
  some false
 else
  z0 av bx 0 >>= fun r2 =>
  match r2 with
  | .inl gj=>(some true)
  | .inr gj=>(some false)
theorem Dg {av bx:List bh}:bG (rE av bx) (fun r=>Con bo 14 [.isl 4 (av.map eTBlock),.isl 4 (bx.map eTBlock)] [] (.b r) []):=by
 unfold rE
 exact .ite (fun h1 =>
  .ret (ba [(R 1),(R 5),.ad true,(R 1)] (.e1 h1)))
  (fun h1 =>
  .aN fun r2 af =>
  (let t1:List b5:=[(R 1),(R 5),.ad false,(R 1),.bf [] [] (bH [0,1,5])];
  (by
  rcases r2 with gj|gj
  ·exact (.ret (ba (t1.append [.sub (.exit 0) [] [],(R 1)]) (.e2 h1 (C1 af))))
  ·exact (.ret (ba (t1.append [.sub (.ret) [(4,.b false)] []]) (.e2 h1 (C1 af)))))))
def zl:(Int×ByteArray)→S:=fun (aJ,l8)=>dW [(0,.n .i64 aJ),(3,.s l8)] []
def zw:ByteArray→dY
 | a=>⟨some 0,[(3,.s a)],[]⟩
def rc (aJ:Int)(l8:ByteArray):Option ((Int×ByteArray)⊕(ByteArray)) :=
 if (decide ((0:Int)<aJ))=true then
  if (nL [(IntKind.wrap .u8 (ai ((48:Int)+(aJ.tmod (10:Int)))))]).size+l8.size<9223372036854775808 then
  some (.inl (ai (aJ.tdiv (10:Int)),(nL [(IntKind.wrap .u8 (ai ((48:Int)+(aJ.tmod (10:Int)))))])++l8))
  else none
 else
  some (.inr l8)
def z1 (aJ:Int)(l8:ByteArray):Option (ByteArray):=iter (fun w:Int×ByteArray=>rc w.1 w.2) (aJ,l8)
theorem H8 {aJ:Int}{l8:ByteArray}:bG (rc aJ l8) (eD bo 20 0 54 [1,1,1,0,0,0] (zl (aJ,l8)) (zl) (zw)):=by
 unfold rc
 exact .ite (fun h1 =>
  .bC fun h2 =>
  .ret (bN [(R 2),.ad true,(R 9),(R 3),.bf [] [] (bH [0,3])] (.cS h1 (by decide:(10:Int)≠0) h2 (by decide:(10:Int)≠0))))
  (fun h1 =>
  .ret (bN [(R 2),.ad false,.bf [] [] (bH [3])] (.e1 h1)))
theorem IP {aJ:Int}{l8:ByteArray}{r} (h:z1 aJ l8=some r):eE bo 20 0 54 [1,1,1,0,0,0] (zl) (zw) (aJ,l8) r:=eF (fun _=>H8) h
def tD (aJ:Int):Option ByteArray :=
 if (decide (aJ≤(0:Int)))=true then
  some (⟨#[109,48]⟩:ByteArray)
 else
  z1 aJ (⟨#[]⟩:ByteArray) >>= fun r2 =>
  if (⟨#[109]⟩:ByteArray).size+r2.size<9223372036854775808 then
  some ((⟨#[109]⟩:ByteArray)++r2)
  else none
theorem Jo {aJ:Int}:bG (tD aJ) (fun r=>Con bo 54 [.n .i64 aJ] [] (.s r) []):=by
 unfold tD
 exact .ite (fun h1 =>
  .ret (ba [(R 1),(R 2),.ad true,(R 1)] (.e1 h1)))
  (fun h1 =>
  .aN fun r2 af =>
  .bC fun ax =>
  .ret (ba [(R 1),(R 2),.ad false,(R 1),.bf [] [] (bH [0,3]),(zw r2).g9,(R 3)] (.br h1 (IP af) ax)))
def yJ:(Int×Int×(List aM))→S:=fun (aJ,ah,aw)=>dW [(0,.a1 0 0 0 aw.length),(1,.n .i64 aJ),(5,.n .i64 ah)] [(a9 4 aP aw)]
def yR:(Int×(List aM))→dY
 | a=>⟨some 0,[(1,.n .i64 a.1)],[(a9 4 aP a.2)]⟩
def pk (aJ ah:Int)(aw:List aM):Option ((Int×Int×(List aM))⊕(Int×(List aM))) :=
 if (decide (ah<((aw.length:Nat):Int)))=true then
  tD aJ >>= fun r2 =>
  if 0≤ah∧ah<(aw.length:Nat) then
  aw[(0+ah.toNat)]? >>= fun cm =>
  (aw.set (0+ah.toNat) (⟨r2,cm.dI,cm.dF,cm.eB⟩:aM))[(0+ah.toNat)]? >>= fun cZ =>
  ((aw.set (0+ah.toNat) (⟨r2,cm.dI,cm.dF,cm.eB⟩:aM)).set (0+ah.toNat) (⟨cZ.eM,ai (aJ+(1:Int)),cZ.dF,cZ.eB⟩:aM))[(0+ah.toNat)]? >>= fun c9 =>
  (((aw.set (0+ah.toNat) (⟨r2,cm.dI,cm.dF,cm.eB⟩:aM)).set (0+ah.toNat) (⟨cZ.eM,ai (aJ+(1:Int)),cZ.dF,cZ.eB⟩:aM)).set (0+ah.toNat) (⟨c9.eM,c9.dI,ai ((ai (aJ+(1:Int)))+(1:Int)),c9.eB⟩:aM))[(0+ah.toNat)]? >>= fun gL =>
  some (.inl (ai ((ai ((ai ((ai (aJ+(1:Int)))+(1:Int)))+(1:Int)))+(1:Int)),ai (ah+(1:Int)),(((aw.set (0+ah.toNat) (⟨r2,cm.dI,cm.dF,cm.eB⟩:aM)).set (0+ah.toNat) (⟨cZ.eM,ai (aJ+(1:Int)),cZ.dF,cZ.eB⟩:aM)).set (0+ah.toNat) (⟨c9.eM,c9.dI,ai ((ai (aJ+(1:Int)))+(1:Int)),c9.eB⟩:aM)).set (0+ah.toNat) (⟨gL.eM,gL.dI,gL.dF,(((ai ((ai ((ai (aJ+(1:Int)))+(1:Int)))+(1:Int))).tmod (3:Int)) == (0:Int))⟩:aM)))
  else none
 else
  some (.inr (aJ,aw))
def zx (aJ ah:Int)(aw:List aM):Option (Int×(List aM)):=iter (fun w:Int×Int×(List aM)=>pk w.1 w.2.1 w.2.2) (aJ,ah,aw)
theorem HH {aJ ah:Int}{aw:List aM}:bG (pk aJ ah aw) (eD bo 44 1 34 [1,0,1,0,0] (yJ (aJ,ah,aw)) (yJ) (yR)):=by
 unfold pk
 exact .ite (fun h1 =>
  .aN fun r2 af =>
  .bC fun ax =>
  .aN fun cm a4 =>
  .aN fun cZ cI =>
  .aN fun c9 cB =>
  .aN fun gL i6 =>
  .ret (let dM:=(m0 (d6 aP aw) (0+ah.toNat) (⟨r2,cm.dI,cm.dF,cm.eB⟩:aM) (rfl:(setCells (aP cm) 0 [.s r2])=aP (⟨r2,cm.dI,cm.dF,cm.eB⟩:aM)));let d9:=(ai (aJ+(1:Int)));let q1:=(m0 dM (0+ah.toNat) (⟨cZ.eM,ai (aJ+(1:Int)),cZ.dF,cZ.eB⟩:aM) (rfl:(setCells (aP cZ) 1 [.n .i64 d9])=aP (⟨cZ.eM,ai (aJ+(1:Int)),cZ.dF,cZ.eB⟩:aM)));let q2:=(m0 q1 (0+ah.toNat) (⟨c9.eM,c9.dI,ai (d9+(1:Int)),c9.eB⟩:aM) (rfl:(setCells (aP c9) 2 [.n .i64 (ai (d9+(1:Int)))])=aP (⟨c9.eM,c9.dI,ai (d9+(1:Int)),c9.eB⟩:aM)));let cg:=(ai ((ai (d9+(1:Int)))+(1:Int)));bN [(R 4),.ad true,.aH (al 3 (au (b3 1 (.s r2) true) (al 1 (au (.cO (aP cm)) (au (.cO (aP cm)) []))))),(R 3),.aH (al 4 (au (.cO (aP cZ)) (au (.cO (aP cZ)) []))),(R 3),.aH (al 4 (au (.cO (aP c9)) (au (.cO (aP c9)) []))),(R 3),.aH (al 6 (au (.cO (aP gL)) (au (.cO (aP gL)) []))),(R 3),(R 3),.bf [0] [.di (a9 4 aP ((((aw.set (0+ah.toNat) (⟨r2,cm.dI,cm.dF,cm.eB⟩:aM)).set (0+ah.toNat) (⟨cZ.eM,ai (aJ+(1:Int)),cZ.dF,cZ.eB⟩:aM)).set (0+ah.toNat) (⟨c9.eM,c9.dI,ai (d9+(1:Int)),c9.eB⟩:aM)).set (0+ah.toNat) (⟨gL.eM,gL.dI,gL.dF,((cg.tmod (3:Int)) == (0:Int))⟩:aM)))] [(0,gT (((((aw.set (0+ah.toNat) (⟨r2,cm.dI,cm.dF,cm.eB⟩:aM)).set (0+ah.toNat) (⟨cZ.eM,ai (aJ+(1:Int)),cZ.dF,cZ.eB⟩:aM)).set (0+ah.toNat) (⟨c9.eM,c9.dI,ai (d9+(1:Int)),c9.eB⟩:aM)).set (0+ah.toNat) (⟨gL.eM,gL.dI,gL.dF,((cg.tmod (3:Int)) == (0:Int))⟩:aM)).length)),(1,ii),(5,ii)]] (.bA h1 (Jo r2 af) (aZ.s r2) ax.1 ax.2 (dr aP a4) (dr aP a4) ax.1 (.bA ax.2 (kR dM cI) (kR dM cI) ax.1 ax.2 (kR q1 cB) (kR q1 cB) (by decide:(3:Int)≠0) (.gV ax.1 ax.2 (kR q2 i6) (kR q2 i6) (dZ 4 .live (m0 q2 (0+ah.toNat) (⟨gL.eM,gL.dI,gL.dF,((cg.tmod (3:Int)) == (0:Int))⟩:aM) (rfl:(setCells (aP gL) 3 [.b ((cg.tmod (3:Int)) == (0:Int))])=aP (⟨gL.eM,gL.dI,gL.dF,((cg.tmod (3:Int)) == (0:Int))⟩:aM)))) (bE 4 .live hD ((((aw.set (0+ah.toNat) (⟨r2,cm.dI,cm.dF,cm.eB⟩:aM)).set (0+ah.toNat) (⟨cZ.eM,ai (aJ+(1:Int)),cZ.dF,cZ.eB⟩:aM)).set (0+ah.toNat) (⟨c9.eM,c9.dI,ai (d9+(1:Int)),c9.eB⟩:aM)).set (0+ah.toNat) (⟨gL.eM,gL.dI,gL.dF,((cg.tmod (3:Int)) == (0:Int))⟩:aM))) (hb (hb (hb (hb (dH aw) (0+ah.toNat) (⟨r2,cm.dI,cm.dF,cm.eB⟩:aM)) (0+ah.toNat) (⟨cZ.eM,ai (aJ+(1:Int)),cZ.dF,cZ.eB⟩:aM)) (0+ah.toNat) (⟨c9.eM,c9.dI,ai (d9+(1:Int)),c9.eB⟩:aM)) (0+ah.toNat) (⟨gL.eM,gL.dI,gL.dF,((cg.tmod (3:Int)) == (0:Int))⟩:aM)))))))
  (fun h1 =>
  .ret (bN [(R 4),.ad false,.bf [0] [.pure] (bH [1])] (.e2 h1 (bE 4 .live hD aw))))
theorem Ii {aJ ah:Int}{aw:List aM}{r} (h:zx aJ ah aw=some r):eE bo 44 1 34 [1,0,1,0,0] (yJ) (yR) (aJ,ah,aw) r:=eF (fun _=>HH) h
def ti (aJ:Int)(fg:List aM):Option (Int×(List aM)) :=
 zx aJ 0 fg >>= fun r1 =>
 some (r1.1,r1.2)
theorem IG {aJ:Int}{fg:List aM}:bG (ti aJ fg) (fun a=>Con bo 34 [.a1 0 0 0 fg.length,.n .i64 aJ] [(a9 4 aP fg)] (.n .i64 a.1) [(a9 4 aP a.2)]):=by
 unfold ti
 exact .aN fun r1 h2 =>
  .ret (j7 [(R 1),(R 1),.bf [0] [.pure] (bH [0,1,5]),(yR r1).g9,(R 2)] [0] [.pure] (.br (bE 4 .live hD fg) (Ii h2) (bE 4 .live hD r1.2)))
def yH:(Int×Int×(List aX))→S:=fun (aJ,ah,aw)=>dW [(0,.a1 0 0 0 aw.length),(1,.n .i64 aJ),(5,.n .i64 ah)] [(a9 3 aU aw)]
def yK:(Int×(List aX))→dY
 | a=>⟨some 0,[(1,.n .i64 a.1)],[(a9 3 aU a.2)]⟩
def pj (aJ ah:Int)(aw:List aX):Option ((Int×Int×(List aX))⊕(Int×(List aX))) :=
 if (decide (ah<((aw.length:Nat):Int)))=true then
  if 0≤ah∧ah<(aw.length:Nat) then
  aw[(0+ah.toNat)]? >>= fun aK =>
  (aw.set (0+ah.toNat) (⟨aJ,aK.bc,aK.ee⟩:aX))[(0+ah.toNat)]? >>= fun cm =>
  ((aw.set (0+ah.toNat) (⟨aJ,aK.bc,aK.ee⟩:aX)).set (0+ah.toNat) (⟨cm.bi,ai (aJ+(1:Int)),cm.ee⟩:aX))[(0+ah.toNat)]? >>= fun cZ =>
  some (.inl (ai ((ai ((ai (aJ+(1:Int)))+(1:Int)))+(1:Int)),ai (ah+(1:Int)),((aw.set (0+ah.toNat) (⟨aJ,aK.bc,aK.ee⟩:aX)).set (0+ah.toNat) (⟨cm.bi,ai (aJ+(1:Int)),cm.ee⟩:aX)).set (0+ah.toNat) (⟨cZ.bi,cZ.bc,ai ((ai (aJ+(1:Int)))+(1:Int))⟩:aX)))
  else none
 else
  some (.inr (aJ,aw))
def zm (aJ ah:Int)(aw:List aX):Option (Int×(List aX)):=iter (fun w:Int×Int×(List aX)=>pj w.1 w.2.1 w.2.2) (aJ,ah,aw)
theorem HE {aJ ah:Int}{aw:List aX}:bG (pj aJ ah aw) (eD bo 34 1 35 [1,0,1,0,0] (yH (aJ,ah,aw)) (yH) (yK)):=by
 unfold pj
 exact .ite (fun h1 =>
  .bC fun h2 =>
  .aN fun aK ax =>
  .aN fun cm a4 =>
  .aN fun cZ cI =>
  .ret (let q2:=(m0 (d6 aU aw) (0+ah.toNat) (⟨aJ,aK.bc,aK.ee⟩:aX) (rfl:(setCells (aU aK) 0 [.n .i64 aJ])=aU (⟨aJ,aK.bc,aK.ee⟩:aX)));let cg:=(ai (aJ+(1:Int)));let q1:=(m0 q2 (0+ah.toNat) (⟨cm.bi,ai (aJ+(1:Int)),cm.ee⟩:aX) (rfl:(setCells (aU cm) 1 [.n .i64 cg])=aU (⟨cm.bi,ai (aJ+(1:Int)),cm.ee⟩:aX)));bN [(R 4),.ad true,.aH (al 4 (au (.cO (aU aK)) (au (.cO (aU aK)) []))),(R 3),.aH (al 4 (au (.cO (aU cm)) (au (.cO (aU cm)) []))),(R 3),.aH (al 4 (au (.cO (aU cZ)) (au (.cO (aU cZ)) []))),(R 3),(R 3),.bf [0] [.di (a9 3 aU (((aw.set (0+ah.toNat) (⟨aJ,aK.bc,aK.ee⟩:aX)).set (0+ah.toNat) (⟨cm.bi,ai (aJ+(1:Int)),cm.ee⟩:aX)).set (0+ah.toNat) (⟨cZ.bi,cZ.bc,ai (cg+(1:Int))⟩:aX)))] [(0,gT ((((aw.set (0+ah.toNat) (⟨aJ,aK.bc,aK.ee⟩:aX)).set (0+ah.toNat) (⟨cm.bi,ai (aJ+(1:Int)),cm.ee⟩:aX)).set (0+ah.toNat) (⟨cZ.bi,cZ.bc,ai (cg+(1:Int))⟩:aX)).length)),(1,ii),(5,ii)]] (.bA h1 h2.1 h2.2 (dr aU ax) (dr aU ax) h2.1 h2.2 (kR q2 a4) (.hR (kR q2 a4) h2.1 h2.2 (kR q1 cI) (kR q1 cI) (dZ 3 .live (m0 q1 (0+ah.toNat) (⟨cZ.bi,cZ.bc,ai (cg+(1:Int))⟩:aX) (rfl:(setCells (aU cZ) 2 [.n .i64 (ai (cg+(1:Int)))])=aU (⟨cZ.bi,cZ.bc,ai (cg+(1:Int))⟩:aX)))) (bE 3 .live hC (((aw.set (0+ah.toNat) (⟨aJ,aK.bc,aK.ee⟩:aX)).set (0+ah.toNat) (⟨cm.bi,ai (aJ+(1:Int)),cm.ee⟩:aX)).set (0+ah.toNat) (⟨cZ.bi,cZ.bc,ai (cg+(1:Int))⟩:aX))) (hb (hb (hb (dH aw) (0+ah.toNat) (⟨aJ,aK.bc,aK.ee⟩:aX)) (0+ah.toNat) (⟨cm.bi,ai (aJ+(1:Int)),cm.ee⟩:aX)) (0+ah.toNat) (⟨cZ.bi,cZ.bc,ai (cg+(1:Int))⟩:aX))))))
  (fun h1 =>
  .ret (bN [(R 4),.ad false,.bf [0] [.pure] (bH [1])] (.e2 h1 (bE 3 .live hC aw))))
theorem H9 {aJ ah:Int}{aw:List aX}{r} (h:zm aJ ah aw=some r):eE bo 34 1 35 [1,0,1,0,0] (yH) (yK) (aJ,ah,aw) r:=eF (fun _=>HE) h
def td (aJ:Int)(fg:List aX):Option (Int×(List aX)) :=
 zm aJ 0 fg >>= fun r1 =>
 some (r1.1,r1.2)
theorem IB {aJ:Int}{fg:List aX}:bG (td aJ fg) (fun a=>Con bo 35 [.a1 0 0 0 fg.length,.n .i64 aJ] [(a9 3 aU fg)] (.n .i64 a.1) [(a9 3 aU a.2)]):=by
 unfold td
 exact .aN fun r1 h2 =>
  .ret (j7 [(R 1),(R 1),.bf [0] [.pure] (bH [0,1,5]),(yK r1).g9,(R 2)] [0] [.pure] (.br (bE 3 .live hC fg) (H9 h2) (bE 3 .live hC r1.2)))
def ri (aJ:Int)(fg:List aM)(ly:List aX):Option (Int×(List aM)×(List aX)) :=
 ti aJ fg >>= fun r1 =>
 if fg.length=r1.2.length then
 td r1.1 ly >>= fun cK =>
 if ly.length=cK.2.length then
 some (cK.1,r1.2,cK.2)
 else none
 else none
theorem CG {aJ:Int}{fg:List aM}{ly:List aX}:bG (ri aJ fg ly) (fun a=>Con bo 15 [.agg [.a1 0 0 0 fg.length,.a1 1 0 0 ly.length],.n .i64 aJ] [(a9 4 aP fg),(a9 3 aU ly)] (.n .i64 a.1) [(a9 4 aP a.2.1),(a9 3 aU a.2.2)]):=by
 unfold ri
 exact .aN fun r1 h2 =>
  .bC fun af =>
  .aN fun cK a8 =>
  .bC fun a4 =>
  .ret (j7 [(R 2),.aH (bJ 3 (.call {ar:=[.row 0],b8:=[.pure],ac:=[ii,ii],r:= .n .i64 r1.1,c2:=[(a9 4 aP r1.2)],ek:=ii,e8:=[.pure],dx:=[0],dk:=false}) 1),.aH (bJ 3 (.call {ar:=[.row 1],b8:=[.pure],ac:=[ii,ii],r:= .n .i64 cK.1,c2:=[(a9 3 aU cK.2)],ek:=ii,e8:=[.pure],dx:=[1],dk:=false}) 1),(R 2)] [0,1] [.pure,.pure] (.hR (eY 4 hD fg) (eY 4 hD r1.2) (IG r1 h2) (eY 3 hC ly) (eY 3 hC cK.2) (IB cK a8) (bE 4 .live hD r1.2) (bE 3 .live hC cK.2)))
def y4:(Int×Int×(List Int))→S:=fun (aJ,ah,aw)=>dW [(0,.a1 0 0 0 aw.length),(1,.n .i64 aJ),(5,.n .i64 ah)] [(a9 1 eI aw)]
def zd:(Int×(List Int))→dY
 | a=>⟨some 0,[(1,.n .i64 a.1)],[(a9 1 eI a.2)]⟩
def q3 (aJ ah:Int)(aw:List Int):Option ((Int×Int×(List Int))⊕(Int×(List Int))) :=
 if (decide (ah<((aw.length:Nat):Int)))=true then
  if 0≤ah∧ah<(aw.length:Nat) then
  if (0+ah.toNat)<aw.length then
  some (.inl (ai (aJ+(1:Int)),ai (ah+(1:Int)),aw.set (0+ah.toNat) aJ))
  else none
  else none
 else
  some (.inr (aJ,aw))
def zP (aJ ah:Int)(aw:List Int):Option (Int×(List Int)):=iter (fun w:Int×Int×(List Int)=>q3 w.1 w.2.1 w.2.2) (aJ,ah,aw)
theorem HY {aJ ah:Int}{aw:List Int}:bG (q3 aJ ah aw) (eD bo 19 1 16 [1,0,1,0,0] (y4 (aJ,ah,aw)) (y4) (zd)):=by
 unfold q3
 exact .ite (fun h1 =>
  .bC fun h2 =>
  .bC fun af =>
  .ret (bN [(R 4),.ad true,.aH (al 4 (au .gH [])),(R 3),(R 3),.bf [0] [.di (a9 1 eI (aw.set (0+ah.toNat) aJ))] [(0,gT ((aw.set (0+ah.toNat) aJ).length)),(1,ii),(5,ii)]] (.hR h1 h2.1 h2.2 (kK eI af) (kg 1) (dZ 1 .live (js (d6 eI aw) (0+ah.toNat) aJ)) (bE 1 .live bq (aw.set (0+ah.toNat) aJ)) (hb (dH aw) (0+ah.toNat) aJ))))
  (fun h1 =>
  .ret (bN [(R 4),.ad false,.bf [0] [.pure] (bH [1])] (.e2 h1 (bE 1 .live bq aw))))
theorem IC {aJ ah:Int}{aw:List Int}{r} (h:zP aJ ah aw=some r):eE bo 19 1 16 [1,0,1,0,0] (y4) (zd) (aJ,ah,aw) r:=eF (fun _=>HY) h
def n4 (aJ:Int)(fg:List Int):Option (Int×(List Int)) :=
 zP aJ 0 fg >>= fun r1 =>
 some (r1.1,r1.2)
theorem te {aJ:Int}{fg:List Int}:bG (n4 aJ fg) (fun a=>Con bo 16 [.a1 0 0 0 fg.length,.n .i64 aJ] [(a9 1 eI fg)] (.n .i64 a.1) [(a9 1 eI a.2)]):=by
 unfold n4
 exact .aN fun r1 h2 =>
  .ret (j7 [(R 1),(R 1),.bf [0] [.pure] (bH [0,1,5]),(zd r1).g9,(R 2)] [0] [.pure] (.br (bE 1 .live bq fg) (IC h2) (bE 1 .live bq r1.2)))
def yL:(Int×Int×(List bh))→S:=fun (aJ,ah,aw)=>dW [(0,.a1 0 0 0 aw.length),(1,.n .i64 aJ),(5,.n .i64 ah)] [(a9 4 eTBlock aw)]
def yS:(Int×(List bh))→dY
 | a=>⟨some 0,[(1,.n .i64 a.1)],[(a9 4 eTBlock a.2)]⟩
def pn (aJ ah:Int)(aw:List bh):Option ((Int×Int×(List bh))⊕(Int×(List bh))) :=
 if (decide (ah<((aw.length:Nat):Int)))=true then
  if 0≤ah∧ah<(aw.length:Nat) then
  aw[(0+ah.toNat)]? >>= fun aK =>
  (aw.set (0+ah.toNat) (⟨aJ,aK.bc,aK.cz,aK.de⟩:bh))[(0+ah.toNat)]? >>= fun cm =>
  ((aw.set (0+ah.toNat) (⟨aJ,aK.bc,aK.cz,aK.de⟩:bh)).set (0+ah.toNat) (⟨cm.bi,ai (aJ+(1:Int)),cm.cz,cm.de⟩:bh))[(0+ah.toNat)]? >>= fun cZ =>
  (((aw.set (0+ah.toNat) (⟨aJ,aK.bc,aK.cz,aK.de⟩:bh)).set (0+ah.toNat) (⟨cm.bi,ai (aJ+(1:Int)),cm.cz,cm.de⟩:bh)).set (0+ah.toNat) (⟨cZ.bi,cZ.bc,ai ((ai (aJ+(1:Int)))+(1:Int)),cZ.de⟩:bh))[(0+ah.toNat)]? >>= fun c9 =>
  some (.inl (ai ((ai ((ai ((ai (aJ+(1:Int)))+(1:Int)))+(1:Int)))+(1:Int)),ai (ah+(1:Int)),(((aw.set (0+ah.toNat) (⟨aJ,aK.bc,aK.cz,aK.de⟩:bh)).set (0+ah.toNat) (⟨cm.bi,ai (aJ+(1:Int)),cm.cz,cm.de⟩:bh)).set (0+ah.toNat) (⟨cZ.bi,cZ.bc,ai ((ai (aJ+(1:Int)))+(1:Int)),cZ.de⟩:bh)).set (0+ah.toNat) (⟨c9.bi,c9.bc,c9.cz,ai ((ai ((ai (aJ+(1:Int)))+(1:Int)))+(1:Int))⟩:bh)))
  else none
 else
  some (.inr (aJ,aw))
def zy (aJ ah:Int)(aw:List bh):Option (Int×(List bh)):=iter (fun w:Int×Int×(List bh)=>pn w.1 w.2.1 w.2.2) (aJ,ah,aw)
theorem HI {aJ ah:Int}{aw:List bh}:bG (pn aJ ah aw) (eD bo 41 1 17 [1,0,1,0,0] (yL (aJ,ah,aw)) (yL) (yS)):=by
 unfold pn
 exact .ite (fun h1 =>
  .bC fun h2 =>
  .aN fun aK ax =>
  .aN fun cm a4 =>
  .aN fun cZ cI =>
  .aN fun c9 cB =>
  .ret (let dM:=(m0 (d6 eTBlock aw) (0+ah.toNat) (⟨aJ,aK.bc,aK.cz,aK.de⟩:bh) (rfl:(setCells (eTBlock aK) 0 [.n .i64 aJ])=eTBlock (⟨aJ,aK.bc,aK.cz,aK.de⟩:bh)));let d9:=(ai (aJ+(1:Int)));let q1:=(m0 dM (0+ah.toNat) (⟨cm.bi,ai (aJ+(1:Int)),cm.cz,cm.de⟩:bh) (rfl:(setCells (eTBlock cm) 1 [.n .i64 d9])=eTBlock (⟨cm.bi,ai (aJ+(1:Int)),cm.cz,cm.de⟩:bh)));let cg:=(ai (d9+(1:Int)));let q2:=(m0 q1 (0+ah.toNat) (⟨cZ.bi,cZ.bc,ai (d9+(1:Int)),cZ.de⟩:bh) (rfl:(setCells (eTBlock cZ) 2 [.n .i64 cg])=eTBlock (⟨cZ.bi,cZ.bc,ai (d9+(1:Int)),cZ.de⟩:bh)));bN [(R 4),.ad true,.aH (al 4 (au (.cO (eTBlock aK)) (au (.cO (eTBlock aK)) []))),(R 3),.aH (al 4 (au (.cO (eTBlock cm)) (au (.cO (eTBlock cm)) []))),(R 3),.aH (al 4 (au (.cO (eTBlock cZ)) (au (.cO (eTBlock cZ)) []))),(R 3),.aH (al 4 (au (.cO (eTBlock c9)) (au (.cO (eTBlock c9)) []))),(R 3),(R 3),.bf [0] [.di (a9 4 eTBlock ((((aw.set (0+ah.toNat) (⟨aJ,aK.bc,aK.cz,aK.de⟩:bh)).set (0+ah.toNat) (⟨cm.bi,ai (aJ+(1:Int)),cm.cz,cm.de⟩:bh)).set (0+ah.toNat) (⟨cZ.bi,cZ.bc,ai (d9+(1:Int)),cZ.de⟩:bh)).set (0+ah.toNat) (⟨c9.bi,c9.bc,c9.cz,ai (cg+(1:Int))⟩:bh)))] [(0,gT (((((aw.set (0+ah.toNat) (⟨aJ,aK.bc,aK.cz,aK.de⟩:bh)).set (0+ah.toNat) (⟨cm.bi,ai (aJ+(1:Int)),cm.cz,cm.de⟩:bh)).set (0+ah.toNat) (⟨cZ.bi,cZ.bc,ai (d9+(1:Int)),cZ.de⟩:bh)).set (0+ah.toNat) (⟨c9.bi,c9.bc,c9.cz,ai (cg+(1:Int))⟩:bh)).length)),(1,ii),(5,ii)]] (.bA h1 h2.1 h2.2 (dr eTBlock ax) (dr eTBlock ax) h2.1 h2.2 (kR dM a4) (.bA (kR dM a4) h2.1 h2.2 (kR q1 cI) (kR q1 cI) h2.1 h2.2 (kR q2 cB) (.cS (kR q2 cB) (dZ 4 .live (m0 q2 (0+ah.toNat) (⟨c9.bi,c9.bc,c9.cz,ai (cg+(1:Int))⟩:bh) (rfl:(setCells (eTBlock c9) 3 [.n .i64 (ai (cg+(1:Int)))])=eTBlock (⟨c9.bi,c9.bc,c9.cz,ai (cg+(1:Int))⟩:bh)))) (bE 4 .live hE ((((aw.set (0+ah.toNat) (⟨aJ,aK.bc,aK.cz,aK.de⟩:bh)).set (0+ah.toNat) (⟨cm.bi,ai (aJ+(1:Int)),cm.cz,cm.de⟩:bh)).set (0+ah.toNat) (⟨cZ.bi,cZ.bc,ai (d9+(1:Int)),cZ.de⟩:bh)).set (0+ah.toNat) (⟨c9.bi,c9.bc,c9.cz,ai (cg+(1:Int))⟩:bh))) (hb (hb (hb (hb (dH aw) (0+ah.toNat) (⟨aJ,aK.bc,aK.cz,aK.de⟩:bh)) (0+ah.toNat) (⟨cm.bi,ai (aJ+(1:Int)),cm.cz,cm.de⟩:bh)) (0+ah.toNat) (⟨cZ.bi,cZ.bc,ai (d9+(1:Int)),cZ.de⟩:bh)) (0+ah.toNat) (⟨c9.bi,c9.bc,c9.cz,ai (cg+(1:Int))⟩:bh)))))))
  (fun h1 =>
  .ret (bN [(R 4),.ad false,.bf [0] [.pure] (bH [1])] (.e2 h1 (bE 4 .live hE aw))))
theorem Ij {aJ ah:Int}{aw:List bh}{r} (h:zy aJ ah aw=some r):eE bo 41 1 17 [1,0,1,0,0] (yL) (yS) (aJ,ah,aw) r:=eF (fun _=>HI) h
def rs (aJ:Int)(fg:List bh):Option (Int×(List bh)) :=
 zy aJ 0 fg >>= fun r1 =>
 some (r1.1,r1.2)
theorem CT {aJ:Int}{fg:List bh}:bG (rs aJ fg) (fun a=>Con bo 17 [.a1 0 0 0 fg.length,.n .i64 aJ] [(a9 4 eTBlock fg)] (.n .i64 a.1) [(a9 4 eTBlock a.2)]):=by
 unfold rs
 exact .aN fun r1 h2 =>
  .ret (j7 [(R 1),(R 1),.bf [0] [.pure] (bH [0,1,5]),(yS r1).g9,(R 2)] [0] [.pure] (.br (bE 4 .live hE fg) (Ij h2) (bE 4 .live hE r1.2)))
def tf (aJ qb p5:Int)(fg ly qn:List Int):Option (Int×(List Int)×(List Int)×(List Int)) :=
 n4 aJ fg >>= fun r1 =>
 if fg.length=r1.2.length then
 n4 r1.1 ly >>= fun cK =>
 if ly.length=cK.2.length then
 n4 cK.1 qn >>= fun ch =>
 if qn.length=ch.2.length then
 some (ch.1,r1.2,cK.2,ch.2)
 else none
 else none
 else none
theorem ID {aJ qb p5:Int}{fg ly qn:List Int}:bG (tf aJ qb p5 fg ly qn) (fun a=>Con bo 18 [.agg (hj qb p5 0 0 0 fg.length 1 0 0 ly.length 2 0 0 qn.length),.n .i64 aJ] [(a9 1 eI fg),(a9 1 eI ly),(a9 1 eI qn)] (.n .i64 a.1) [(a9 1 eI a.2.1),(a9 1 eI a.2.2.1),(a9 1 eI a.2.2.2)]):=by
 unfold tf
 exact .aN fun r1 h2 =>
  .bC fun af =>
  .aN fun cK a8 =>
  .bC fun a4 =>
  .aN fun ch cI =>
  .bC fun dt =>
  .ret (j7 [(R 2),.aH (bJ 3 (.call {ar:=[.row 0],b8:=[.pure],ac:=[ii,ii],r:= .n .i64 r1.1,c2:=[(a9 1 eI r1.2)],ek:=ii,e8:=[.pure],dx:=[0],dk:=false}) 1),.aH (bJ 3 (.call {ar:=[.row 1],b8:=[.pure],ac:=[ii,ii],r:= .n .i64 cK.1,c2:=[(a9 1 eI cK.2)],ek:=ii,e8:=[.pure],dx:=[1],dk:=false}) 1),.aH (bJ 3 (.call {ar:=[.row 2],b8:=[.pure],ac:=[ii,ii],r:= .n .i64 ch.1,c2:=[(a9 1 eI ch.2)],ek:=ii,e8:=[.pure],dx:=[2],dk:=false}) 1),(R 2)] [0,1,2] [.pure,.pure,.pure] (.bA (eY 1 bq fg) (eY 1 bq r1.2) (te r1 h2) (eY 1 bq ly) (eY 1 bq cK.2) (te cK a8) (eY 1 bq qn) (eY 1 bq ch.2) (.cS (te ch cI) (bE 1 .live bq r1.2) (bE 1 .live bq cK.2) (bE 1 .live bq ch.2))))
def zn (av:List Int):(Int×Int)→S:=fun (aJ,ah)=>dW [(0,.isl 1 (av.map eI)),(1,.n .i64 aJ),(5,.n .i64 ah)] []
def zz (av:List Int):((Int)⊕(Unit))→dY
 | .inl a=>⟨some 0,[(1,.n .i64 a)],[]⟩
 | .inr a=>⟨none,[(4,.n .i64 (-1:Int))],[]⟩
def re (av:List Int)(aJ ah:Int):Option ((Int×Int)⊕((Int)⊕(Unit))) :=
 if (decide (ah<(len_ eI av)))=true then
  if 0≤ah∧ah<av.length then
  av[ah.toNat]? >>= fun aK =>
  if (aK != aJ)=true then
   some (.inr (.inr ()))
  else
   some (.inl (ai (aJ+(1:Int)),ai (ah+(1:Int))))
  else none
 else
  some (.inr (.inl aJ))
def z2 (av:List Int)(aJ ah:Int):Option ((Int)⊕(Unit)):=iter (fun w:Int×Int=>re av w.1 w.2) (aJ,ah)
theorem Ia {av:List Int}{aJ ah:Int}:bG (re av aJ ah) (eD bo 21 0 36 [1,0,1,0,0] (zn av (aJ,ah)) (zn av) (zz av)):=by
 unfold re
 exact .ite (fun h1 =>
  .bC fun h2 =>
  .aN fun aK ax =>
  (let t1:List b5:=[(R 4),.ad true,.aH (bJ 3 (.cO (eI aK)) 2)];
  have aY:=((.cS h1 h2.1 (dL eI h2.2) (dr eI ax)):cD _);
  .ite (fun a8 =>
  .ret (bN (t1.append [.ad true,(R 1),.bf [] [] (bH [4])]) (aY.aB (.e1 a8))))
  (fun a8 =>
  .ret (bN (t1.append [.ad false,(R 3),(R 3),.bf [] [] (bH [0,1,5])]) (aY.aB (.e1 a8))))))
  (fun h1 =>
  .ret (bN [(R 4),.ad false,.bf [] [] (bH [1])] (.e1 h1)))
theorem C2 {av:List Int}{aJ ah:Int}{r} (h:z2 av aJ ah=some r):eE bo 21 0 36 [1,0,1,0,0] (zn av) (zz av) (aJ,ah) r:=eF (fun _=>Ia) h
def px (av:List Int)(aJ:Int):Option Int :=
 z2 av aJ 0 >>= fun r1 =>
 match r1 with
 | .inl dq=>(some dq)
 | .inr dq=>(some (-1))
theorem z3 {av:List Int}{aJ:Int}:bG (px av aJ) (fun r=>Con bo 36 [.isl 1 (av.map eI),.n .i64 aJ] [] (.n .i64 r) []):=by
 unfold px
 exact .aN fun r1 h2 =>
  (let t1:List b5:=[(R 1),(R 1),.bf [] [] (bH [0,1,5])];
  (by
  rcases r1 with dq|dq
  ·exact (.ret (ba (t1.append [.sub (.exit 0) [(1,.n .i64 dq)] [],(R 2)]) (.e1 (C2 h2))))
  ·exact (.ret (ba (t1.append [(zz av (.inr dq)).g9]) (.e1 (C2 h2))))))
def pu (av:iH)(aJ:Int):Option Int :=
 px av.bi aJ >>= fun r1 =>
 if (decide (r1<(0:Int)))=true then
  some (-1)
 else
  px av.bc r1 >>= fun cK =>
  if (decide (cK<(0:Int)))=true then
   some (-1)
  else
   px av.oK cK >>= fun ch =>
   if (decide (ch<(0:Int)))=true then
    some (-1)
   else
    some ch
theorem vZ {av:iH}{aJ:Int}:bG (pu av aJ) (fun r=>Con bo 19 [.agg (lX av),.n .i64 aJ] [] (.n .i64 r) []):=by
 unfold pu
 exact .aN fun r1 h2 =>
  (let t1:List b5:=[(R 2),.aH (bJ 3 (b3 2 (.n .i64 r1) true) 1),(R 2)];
  have aY:=((.e2 (z3 r1 h2) (aZ.n .i64 r1)):cD _);
  .ite (fun af =>
  .ret (ba (t1.append [.ad true,(R 1)]) (aY.aB (.e1 af))))
  (fun af =>
  .aN fun cK a8 =>
  (let t3:List b5:=t1.append [.ad false,.aH (bJ 3 (b3 2 (.n .i64 cK) true) 1),(R 2)];
  have eV:=aY.aB (.br af (z3 cK a8) (aZ.n .i64 cK));
  .ite (fun a4 =>
  .ret (ba (t3.append [.ad true,(R 1)]) (eV.aB (.e1 a4))))
  (fun a4 =>
  .aN fun ch cI =>
  (let t5:List b5:=t3.append [.ad false,.aH (bJ 3 (b3 2 (.n .i64 ch) true) 1),(R 2)];
  have kL:=eV.aB (.br a4 (z3 ch cI) (aZ.n .i64 ch));
  .ite (fun dt =>
  .ret (ba (t5.append [.ad true,(R 1)]) (kL.aB (.e1 dt))))
  (fun dt =>
  .ret (ba (t5.append [.ad false,(R 2)]) (kL.aB (.e1 dt)))))))))
def zo (av:List Int)(aJ:Int):Unit→S:=fun _=>dW [(0,.isl 1 (av.map eI)),(1,.n .i64 aJ),(5,.n .i64 (0:Int))] []
def CU (av:List Int)(aJ:Int):Unit→dY
 | a=>⟨some 0,[(1,.n .i64 aJ)],[]⟩
def vW (av:List Int)(aJ:Int):Option ((Unit)⊕(Unit)) :=
 if (decide ((0:Int)<(len_ eI av)))=true then
  if 0≤(0:Int)∧(0:Int)<av.length then
  none
  else none
 else
  some (.inr ())
def v9 (av:List Int)(aJ:Int):Option (Unit):=iter (fun w:Unit=>vW av aJ) ()
theorem Ib {av:List Int}{aJ:Int}:bG (vW av aJ) (eD bo 19 0 16 [1,0,1,0,0] (zo av aJ ()) (zo av aJ) (CU av aJ)):=by
 unfold vW
 exact .ite (fun h1 =>
  .bC fun h2 =>
  .OL)
  (fun h1 =>
  .ret (bN [(R 4),.ad false,.bf [] [] (bH [1])] (.e1 h1)))
theorem IQ {av:List Int}{aJ:Int}{r} (h:v9 av aJ=some r):eE bo 19 0 16 [1,0,1,0,0] (zo av aJ) (CU av aJ) () r:=eF (fun _=>Ib) h
def py (av:List Int)(aJ:Int):Option Int :=
 v9 av aJ >>= fun r1 =>
 some aJ
theorem z4 {av:List Int}{aJ:Int}:bG (py av aJ) (fun r=>Con bo 16 [.isl 1 (av.map eI),.n .i64 aJ] [] (.n .i64 r) []):=by
 unfold py
 exact .aN fun r1 h2 =>
  .ret (ba [(R 1),(R 1),.bf [] [] (bH [0,1,5]),.sub (.exit 0) [(1,.n .i64 aJ)] [],(R 2)] (.e1 (IQ h2)))
def ta (aJ qb p5:Int)(xa w3 wT:List Int):Option Int :=
 py xa aJ >>= fun r1 =>
 py w3 r1 >>= fun bz =>
 py wT bz >>= fun aQ =>
 some aQ
theorem Ir {aJ qb p5:Int}{xa w3 wT:List Int}:bG (ta aJ qb p5 xa w3 wT) (fun a=>Con bo 18 [.agg [.n .i64 qb,.n .i64 p5,.isl 1 (xa.map eI),.isl 1 (w3.map eI),.isl 1 (wT.map eI)],.n .i64 aJ] [] (.n .i64 a) []):=by
 unfold ta
 exact .aN fun r1 h2 =>
  .aN fun bz ax =>
  .aN fun aQ a4 =>
  .ret (j7 [(R 2),.aH (bJ 3 (b3 2 (.n .i64 r1) true) 1),.aH (bJ 3 (b3 2 (.n .i64 bz) true) 1),.aH (bJ 3 (b3 2 (.n .i64 aQ) true) 1),(R 2)] [] [] (.d5 (z4 r1 h2) (aZ.n .i64 r1) (z4 bz ax) (aZ.n .i64 bz) (z4 aQ a4) (aZ.n .i64 aQ)))
def vU (u0:bl)(u1:List Int)(ug:List bh):Option Bool :=
 if (decide ((1048576:Int)<(len_ eI u1)))=true then
  some true
 else
  pt u0 1048576 >>= fun r2 =>
  if (decide (r2<(0:Int)))=true then
   some true
  else
   tw ug r2 >>= fun aQ =>
   if (decide (aQ<(0:Int)))=true then
    some true
   else
    tb u0 >>= fun aG =>
    tx u1 >>= fun cM =>
    tm ug >>= fun cT =>
    tg (⟨aG.1,aG.2⟩:bl) cM cT >>= fun vq =>
    rl (⟨aG.1,aG.2⟩:bl) cM cT >>= fun B2 =>
    match B2 with
    | .inl bL=>(rB (⟨bL.1,bL.2.1,bL.2.2.1,bL.2.2.2.1,bL.2.2.2.2⟩:iH) vq >>= fun iP =>
     if iP=true then
      rv (⟨aG.1,aG.2⟩:bl) (⟨aG.1,aG.2⟩:bl) >>= fun nq =>
      if nq=true then
       n9 cM cM >>= fun kb =>
       if kb=true then
        rE cT cT >>= fun ka =>
        if ka=true then
         ri 1 aG.1 aG.2 >>= fun ji =>
         if aG.1.length=ji.2.1.length then
         if aG.2.length=ji.2.2.length then
         n4 ji.1 cM >>= fun mn =>
         rs mn.1 cT >>= fun mo =>
         if (decide (mo.1<(0:Int)))=true then
          some false
         else
          tf 1 bL.1 bL.2.1 bL.2.2.1 bL.2.2.2.1 bL.2.2.2.2 >>= fun e6 =>
          if bL.2.2.1.length=e6.2.1.length then
          if bL.2.2.2.1.length=e6.2.2.1.length then
          if bL.2.2.2.2.length=e6.2.2.2.length then
          pu (⟨bL.1,bL.2.1,e6.2.1,e6.2.2.1,e6.2.2.2⟩:iH) 1 >>= fun oD =>
          if (decide (oD<(0:Int)))=true then
           some false
          else
           if (oD != e6.1)=true then
            some false
           else
            some true
          else none
          else none
          else none
         else none
         else none
        else
         some false
       else
        some false
      else
       some false
     else
      some false)
    | .inr bL=>(rB (⟨0,0,([]:List Int),([]:List Int),([]:List Int)⟩:iH) vq >>= fun iP =>
     if iP=true then
      rv (⟨aG.1,aG.2⟩:bl) (⟨aG.1,aG.2⟩:bl) >>= fun nq =>
      if nq=true then
       n9 cM cM >>= fun kb =>
       if kb=true then
        rE cT cT >>= fun ka =>
        if ka=true then
         ri 1 aG.1 aG.2 >>= fun ji =>
         if aG.1.length=ji.2.1.length then
         if aG.2.length=ji.2.2.length then
         n4 ji.1 cM >>= fun mn =>
         rs mn.1 cT >>= fun mo =>
         if (decide (mo.1<(0:Int)))=true then
          some false
         else
          ta 1 0 0 ([]:List Int) ([]:List Int) ([]:List Int) >>= fun e6 =>
          pu (⟨0,0,([]:List Int),([]:List Int),([]:List Int)⟩:iH) 1 >>= fun oE =>
          if (decide (oE<(0:Int)))=true then
           some false
          else
           if (oE != e6)=true then
            some false
           else
            some true
         else none
         else none
        else
         some false
       else
        some false
      else
       some false
     else
      some false)
set_option maxHeartbeats 4000000 in
theorem HO {u0:bl}{u1:List Int}{ug:List bh}:bG (vU u0 u1 ug) (fun r=>Con bo 3 [.agg (ed u0),.isl 1 (u1.map eI),.isl 4 (ug.map eTBlock)] [] (.b r) []):=by
 unfold vU
 exact .ite (fun h1 =>
  .ret (ba [(R 2),(R 3),.ad true,(R 1)] (.e1 h1)))
  (fun h1 =>
  .aN fun r2 af =>
  (let t1:List b5:=[(R 2),(R 3),.ad false,(R 1),.aH (bJ 2 (b3 2 (.n .i64 r2) true) 1),(R 2)];
  have aY:=((.br h1 (IJ r2 af) (aZ.n .i64 r2)):cD _);
  .ite (fun ax =>
  .ret (ba (t1.append [.ad true,(R 1)]) (aY.aB (.e1 ax))))
  (fun ax =>
  .aN fun aQ a4 =>
  (let t3:List b5:=t1.append [.ad false,.aH (bJ 2 (b3 2 (.n .i64 aQ) true) 1),(R 2)];
  have eV:=aY.aB (.br ax (Jd aQ a4) (aZ.n .i64 aQ));
  .ite (fun bj =>
  .ret (ba (t3.append [.ad true,(R 1)]) (eV.aB (.e1 bj))))
  (fun bj =>
  .aN fun aG dt =>
  .aN fun cM eP =>
  .aN fun cT ff =>
  .aN fun vq oC =>
  .aN fun B2 mj =>
  (let q1:=a9 1 eI cM;let q2:=a9 4 eTBlock cT;let t5:List b5:=t3.append [.ad false,.aH (al 1 (au (.call {ar:=[],b8:=[],ac:=[ii],r:= .agg [.a1 0 0 0 aG.1.length,.a1 0 1 0 aG.2.length],c2:=[[ae.mk 4 (aG.1.map aP) .live,ae.mk 3 (aG.2.map aU) .live]],ek:= .bn (.agg [.id,.id]),e8:=[.fT [ae.mk 4 (aG.1.map aP) .live,ae.mk 3 (aG.2.map aU) .live]],dx:=[],dk:=true}) (al 1 (au (.call {ar:=[],b8:=[],ac:=[ii],r:= .a1 0 0 0 cM.length,c2:=[q1],ek:=ii,e8:=[.pure],dx:=[],dk:=true}) (al 1 (au (.call {ar:=[],b8:=[],ac:=[ii],r:= .a1 0 0 0 cT.length,c2:=[q2],ek:=ii,e8:=[.pure],dx:=[],dk:=true}) (au (.qt 23 (.qt 21 (.qt 19 (.call {ac:=[.bn (.agg [.dC (aG.1.map aP),.dC (aG.2.map aU)]),.bn (.dE (.dC (cM.map eI))),.bn (.dE (.dC (cT.map eTBlock)))],r:= .agg (lX vq),dk:=false,dx:=[19,21,23]})))) (al 2 [])))))))),.aH (bJ 1 (.call {ar:=[],b8:=[],ac:=[ii],r:= .agg [.a1 0 0 0 aG.1.length,.a1 0 1 0 aG.2.length],c2:=[[ae.mk 4 (aG.1.map aP) .live,ae.mk 3 (aG.2.map aU) .live]],ek:= .bn (.agg [.id,.id]),e8:=[.fT [ae.mk 4 (aG.1.map aP) .live,ae.mk 3 (aG.2.map aU) .live]],dx:=[],dk:=true}) 2),.aH (bJ 1 (.call {ar:=[],b8:=[],ac:=[ii],r:= .a1 0 0 0 cM.length,c2:=[q1],ek:=ii,e8:=[.pure],dx:=[],dk:=true}) 1),.aH (bJ 1 (.call {ar:=[],b8:=[],ac:=[ii],r:= .a1 0 0 0 cT.length,c2:=[q2],ek:=ii,e8:=[.pure],dx:=[],dk:=true}) 1)];
  have kL:=eV.aB (.bA bj (db (dl (eQ [19]) 4 pI aG.1) (db (dl (eQ [19]) 3 pD aG.2) (gZ (bw:=(eQ [19]))))) ((gM rfl (gM rfl l0)):iK [ae.mk 4 (aG.1.map aP) .live,ae.mk 3 (aG.2.map aU) .live]) (q6 aG dt) (aZ.agg (et (aZ.a1 0 0 0 aG.1.length) (et (aZ.a1 0 1 0 aG.2.length) ko))) ((iq (fK (fE pJ) (fK (fE pE) iu)) ir):hi [[ae.mk 4 (aG.1.map aP) .live,ae.mk 3 (aG.2.map aU) .live]]) (eY 1 bq cM) (ru cM eP) (.bA (aZ.a1 0 0 0 cM.length) ((iq (fK (fE jY) iu) ir):hi [q1]) (eY 4 hE cT) (rn cT ff) (aZ.a1 0 0 0 cT.length) ((iq (fK (fE rM) iu) ir):hi [q2]) (eh aP aG.1) (ec aP aG.1) (.bA (du hD aG.1) (eh aU aG.2) (ec aU aG.2) (du hC aG.2) (eh eI cM) (ec eI cM) (du bq cM) (eh eTBlock cT) (.bA (ec eTBlock cT) (du hE cT) (IE vq oC) (db (dl (eQ [28]) 4 pI aG.1) (db (dl (eQ [28]) 3 pD aG.2) (gZ (bw:=(eQ [28]))))) ((gM rfl (gM rfl l0)):iK [ae.mk 4 (aG.1.map aP) .live,ae.mk 3 (aG.2.map aU) .live]) (q6 aG dt) (aZ.agg (et (aZ.a1 0 0 0 aG.1.length) (et (aZ.a1 0 1 0 aG.2.length) ko))) ((iq (fK (fE pJ) (fK (fE pE) iu)) ir):hi [[ae.mk 4 (aG.1.map aP) .live,ae.mk 3 (aG.2.map aU) .live]]) (.bA (eY 1 bq cM) (ru cM eP) (aZ.a1 0 0 0 cM.length) ((iq (fK (fE jY) iu) ir):hi [q1]) (eY 4 hE cT) (rn cT ff) (aZ.a1 0 0 0 cT.length) ((iq (fK (fE rM) iu) ir):hi [q2]) (.bA (eh aP aG.1) (ec aP aG.1) (du hD aG.1) (eh aU aG.2) (ec aU aG.2) (du hC aG.2) (eh eI cM) (ec eI cM) (.cS (du bq cM) (eh eTBlock cT) (ec eTBlock cT) (du hE cT))))))));
  (by
  rcases B2 with bL|bL
  ·exact (.aN fun iP eU =>
  (let t7:List b5:=t5.append [.aH (bJ 3 (.call {ar:=[],b8:=[],ac:=[.bn (.agg [.dC (aG.1.map aP),.dC (aG.2.map aU)]),.bn (.dE (.dC (cM.map eI))),.bn (.dE (.dC (cT.map eTBlock)))],r:= .agg (hj bL.1 bL.2.1 0 0 0 bL.2.2.1.length 0 1 0 bL.2.2.2.1.length 0 2 0 bL.2.2.2.2.length),c2:=[[ae.mk 1 (bL.2.2.1.map eI) .live,ae.mk 1 (bL.2.2.2.1.map eI) .live,ae.mk 1 (bL.2.2.2.2.map eI) .live]],ek:= .bn (.agg [.id,.id,.id,.id,.id]),e8:=[.fT [ae.mk 1 (bL.2.2.1.map eI) .live,ae.mk 1 (bL.2.2.2.1.map eI) .live,ae.mk 1 (bL.2.2.2.2.map eI) .live]],dx:=[28,32,35],dk:=true}) 2),.aH (bJ 2 (.call {ac:=[.bn (.agg [.id,.id,.dC (bL.2.2.1.map eI),.dC (bL.2.2.2.1.map eI),.dC (bL.2.2.2.2.map eI)]),ii],r:= .b iP,dk:=true,dx:=[40]}) 1)];
  have kM:=kL.aB (.bA (db (dl (eQ [40]) 1 dV bL.2.2.1) (db (dl (eQ [40]) 1 dV bL.2.2.2.1) (db (dl (eQ [40]) 1 dV bL.2.2.2.2) (gZ (bw:=(eQ [40])))))) ((gM rfl (gM rfl (gM rfl l0))):iK [ae.mk 1 (bL.2.2.1.map eI) .live,ae.mk 1 (bL.2.2.2.1.map eI) .live,ae.mk 1 (bL.2.2.2.2.map eI) .live]) (vV (.inl bL) mj) (aZ.agg (et (aZ.n .i64 bL.1) (et (aZ.n .i64 bL.2.1) (et (aZ.a1 0 0 0 bL.2.2.1.length) (et (aZ.a1 0 1 0 bL.2.2.2.1.length) (et (aZ.a1 0 2 0 bL.2.2.2.2.length) ko)))))) ((iq (fK (fE jY) (fK (fE jY) (fK (fE jY) iu))) ir):hi [[ae.mk 1 (bL.2.2.1.map eI) .live,ae.mk 1 (bL.2.2.2.1.map eI) .live,ae.mk 1 (bL.2.2.2.2.map eI) .live]]) (eh eI bL.2.2.1) (ec eI bL.2.2.1) (du bq bL.2.2.1) (.hR (eh eI bL.2.2.2.1) (ec eI bL.2.2.2.1) (du bq bL.2.2.2.1) (eh eI bL.2.2.2.2) (ec eI bL.2.2.2.2) (du bq bL.2.2.2.2) (rr iP eU) (aZ.b iP)));
  .ite (fun eo =>
  .aN fun nq qm =>
  (let t9:List b5:=t7.append [.ad false,.aH (al 2 (au (.call {ar:=[],b8:=[],ac:=[ii],r:= .agg [.a1 0 0 0 aG.1.length,.a1 0 1 0 aG.2.length],c2:=[[ae.mk 4 (aG.1.map aP) .live,ae.mk 3 (aG.2.map aU) .live]],ek:= .bn (.agg [.id,.id]),e8:=[.fT [ae.mk 4 (aG.1.map aP) .live,ae.mk 3 (aG.2.map aU) .live]],dx:=[],dk:=true}) (au (.call {ac:=[.bn (.agg [.dC (aG.1.map aP),.dC (aG.2.map aU)]),.bn (.agg [.dC (aG.1.map aP),.dC (aG.2.map aU)])],r:= .b nq,dk:=true,dx:=[28,49]}) (al 1 []))))];
  have vr:=kM.aB (.bA (bX eo) (db (dl (eQ [49]) 4 pI aG.1) (db (dl (eQ [49]) 3 pD aG.2) (gZ (bw:=(eQ [49]))))) ((gM rfl (gM rfl l0)):iK [ae.mk 4 (aG.1.map aP) .live,ae.mk 3 (aG.2.map aU) .live]) (q6 aG dt) (aZ.agg (et (aZ.a1 0 0 0 aG.1.length) (et (aZ.a1 0 1 0 aG.2.length) ko))) ((iq (fK (fE pJ) (fK (fE pE) iu)) ir):hi [[ae.mk 4 (aG.1.map aP) .live,ae.mk 3 (aG.2.map aU) .live]]) (eh aP aG.1) (ec aP aG.1) (.bA (du hD aG.1) (eh aU aG.2) (ec aU aG.2) (du hC aG.2) (eh aP aG.1) (ec aP aG.1) (du hD aG.1) (eh aU aG.2) (.cS (ec aU aG.2) (du hC aG.2) (C0 nq qm) (aZ.b nq))));
  .ite (fun np =>
  .aN fun kb vp =>
  (let t11:List b5:=t9.append [.ad false,.aH (al 2 (au (.call {ar:=[],b8:=[],ac:=[ii],r:= .a1 0 0 0 cM.length,c2:=[(a9 1 eI cM)],ek:=ii,e8:=[.pure],dx:=[],dk:=true}) (au (.call {ac:=[.bn (.dE (.dC (cM.map eI))),.bn (.dE (.dC (cM.map eI)))],r:= .b kb,dk:=true,dx:=[32,54]}) (al 1 []))))];
  have pd:=vr.aB (.bA (bX np) (eY 1 bq cM) (ru cM eP) (aZ.a1 0 0 0 cM.length) ((iq (fK (fE jY) iu) ir):hi [(a9 1 eI cM)]) (eh eI cM) (ec eI cM) (du bq cM) (.ez (eh eI cM) (ec eI cM) (du bq cM) (tt kb vp) (aZ.b kb)));
  .ite (fun jv =>
  .aN fun ka jM =>
  (let t13:List b5:=t11.append [.ad false,.aH (al 2 (au (.call {ar:=[],b8:=[],ac:=[ii],r:= .a1 0 0 0 cT.length,c2:=[(a9 4 eTBlock cT)],ek:=ii,e8:=[.pure],dx:=[],dk:=true}) (au (.call {ac:=[.bn (.dE (.dC (cT.map eTBlock))),.bn (.dE (.dC (cT.map eTBlock)))],r:= .b ka,dk:=true,dx:=[35,59]}) (al 1 []))))];
  have pc:=pd.aB (.bA (bX jv) (eY 4 hE cT) (rn cT ff) (aZ.a1 0 0 0 cT.length) ((iq (fK (fE rM) iu) ir):hi [(a9 4 eTBlock cT)]) (eh eTBlock cT) (ec eTBlock cT) (du hE cT) (.ez (eh eTBlock cT) (ec eTBlock cT) (du hE cT) (Dg ka jM) (aZ.b ka)));
  .ite (fun kc =>
  .aN fun ji kH =>
  .bC fun O1 =>
  .bC fun O2 =>
  .aN fun mn B3 =>
  .aN fun mo B4 =>
  (let t15:List b5:=t13.append [.ad false,(R 1),.aH (bJ 2 (.call {ar:=[.J 28 0 (ae.mk 4 (aG.1.map aP) .live),.J 28 1 (ae.mk 3 (aG.2.map aU) .live)],b8:=[.pure,.pure],ac:=[.bn (.agg [.at_ 0 0 aG.1.length,.at_ 1 0 aG.2.length]),ii],r:= .n .i64 ji.1,c2:=[(a9 4 aP ji.2.1),(a9 3 aU ji.2.2)],ek:=ii,e8:=[.pure,.pure],dx:=[28],dk:=false}) 1),.aH (bJ 2 (.call {ar:=[.row 32],b8:=[.pure],ac:=[ii,ii],r:= .n .i64 mn.1,c2:=[(a9 1 eI mn.2)],ek:=ii,e8:=[.pure],dx:=[32],dk:=false}) 1),.aH (bJ 2 (.call {ar:=[.row 35],b8:=[.pure],ac:=[ii,ii],r:= .n .i64 mo.1,c2:=[(a9 4 eTBlock mo.2)],ek:=ii,e8:=[.pure],dx:=[35],dk:=false}) 1)];
  have vt:=pc.aB (.bA (bX kc) (by decide:0≠1) (rfl:hM [.J 28 0 (ae.mk 4 (aG.1.map aP) .live),.J 28 1 (ae.mk 3 (aG.2.map aU) .live)] 0 0=some (28,0)) (rfl:aG.1.length=aG.1.length) (rfl:hM [.J 28 0 (ae.mk 4 (aG.1.map aP) .live),.J 28 1 (ae.mk 3 (aG.2.map aU) .live)] 1 0=some (28,1)) (rfl:aG.2.length=aG.2.length) (rfl:ck (some [ae.mk 4 (aG.1.map aP) .live,ae.mk 3 (aG.2.map aU) .live]) 0=some (ae.mk 4 (aG.1.map aP) .live)) (eY 4 hD aG.1) (.bA (rfl:ck (some [ae.mk 4 (aG.1.map aP) .live,ae.mk 3 (aG.2.map aU) .live]) 1=some (ae.mk 3 (aG.2.map aU) .live)) (eY 3 hC aG.2) (eY 4 hD ji.2.1) (eY 3 hC ji.2.2) (CG ji kH) (eY 1 bq cM) (eY 1 bq mn.2) (te mn B3) (.br (eY 4 hE cT) (eY 4 hE mo.2) (CT mo B4))));
  .ite (fun iQ =>
  .ret (ba (t15.append [.aH (al 3 (b0 4 (au (.ad true) []))),.ad true,(R 1)]) (vt.aB (.d5 iQ iQ iQ iQ iQ aW))))
  (fun iQ =>
  .aN fun e6 B5 =>
  .bC fun xU =>
  .bC fun qo =>
  .bC fun nS =>
  .aN fun oD Gx =>
  (let t17:List b5:=t15.append [.aH (al 5 (au (.call {ac:=[.bn (.agg [.id,.id,.dC (bL.2.2.1.map eI),.dC (bL.2.2.2.1.map eI),.dC (bL.2.2.2.2.map eI)]),ii],r:= .b iP,dk:=true,dx:=[40]}) (al 1 (au (.ad false) [])))),.ad false,(R 1),.aH (bJ 2 (.call {ar:=[.J 40 0 (ae.mk 1 (bL.2.2.1.map eI) .live),.J 40 1 (ae.mk 1 (bL.2.2.2.1.map eI) .live),.J 40 2 (ae.mk 1 (bL.2.2.2.2.map eI) .live)],b8:=[.pure,.pure,.pure],ac:=[.bn (.agg [.id,.id,.at_ 0 0 bL.2.2.1.length,.at_ 1 0 bL.2.2.2.1.length,.at_ 2 0 bL.2.2.2.2.length]),ii],r:= .n .i64 e6.1,c2:=[(a9 1 eI e6.2.1),(a9 1 eI e6.2.2.1),(a9 1 eI e6.2.2.2)],ek:=ii,e8:=[.pure,.pure,.pure],dx:=[40],dk:=false}) 1),(R 1),.aH (bJ 2 (.call {ac:=[.bn (.agg [.id,.id,.dC (e6.2.1.map eI),.dC (e6.2.2.1.map eI),.dC (e6.2.2.2.map eI)]),ii],r:= .n .i64 oD,dk:=true,dx:=[40]}) 1),(R 2)];
  have qp:=vt.aB (.bA iQ iQ iQ (eh eI bL.2.2.1) (ec eI bL.2.2.1) (du bq bL.2.2.1) (eh eI bL.2.2.2.1) (ec eI bL.2.2.2.1) (.bA (du bq bL.2.2.2.1) (eh eI bL.2.2.2.2) (ec eI bL.2.2.2.2) (du bq bL.2.2.2.2) (rr iP eU) (aZ.b iP) iQ iQ (.bA (bX eo) (by decide:0≠1) (by decide:0≠2) (by decide:1≠2) (rfl:hM [.J 40 0 (ae.mk 1 (bL.2.2.1.map eI) .live),.J 40 1 (ae.mk 1 (bL.2.2.2.1.map eI) .live),.J 40 2 (ae.mk 1 (bL.2.2.2.2.map eI) .live)] 0 0=some (40,0)) (rfl:bL.2.2.1.length=bL.2.2.1.length) (rfl:hM [.J 40 0 (ae.mk 1 (bL.2.2.1.map eI) .live),.J 40 1 (ae.mk 1 (bL.2.2.2.1.map eI) .live),.J 40 2 (ae.mk 1 (bL.2.2.2.2.map eI) .live)] 1 0=some (40,1)) (rfl:bL.2.2.2.1.length=bL.2.2.2.1.length) (.bA (rfl:hM [.J 40 0 (ae.mk 1 (bL.2.2.1.map eI) .live),.J 40 1 (ae.mk 1 (bL.2.2.2.1.map eI) .live),.J 40 2 (ae.mk 1 (bL.2.2.2.2.map eI) .live)] 2 0=some (40,2)) (rfl:bL.2.2.2.2.length=bL.2.2.2.2.length) (rfl:ck (some [ae.mk 1 (bL.2.2.1.map eI) .live,ae.mk 1 (bL.2.2.2.1.map eI) .live,ae.mk 1 (bL.2.2.2.2.map eI) .live]) 0=some (ae.mk 1 (bL.2.2.1.map eI) .live)) (eY 1 bq bL.2.2.1) (rfl:ck (some [ae.mk 1 (bL.2.2.1.map eI) .live,ae.mk 1 (bL.2.2.2.1.map eI) .live,ae.mk 1 (bL.2.2.2.2.map eI) .live]) 1=some (ae.mk 1 (bL.2.2.2.1.map eI) .live)) (eY 1 bq bL.2.2.2.1) (rfl:ck (some [ae.mk 1 (bL.2.2.1.map eI) .live,ae.mk 1 (bL.2.2.2.1.map eI) .live,ae.mk 1 (bL.2.2.2.2.map eI) .live]) 2=some (ae.mk 1 (bL.2.2.2.2.map eI) .live)) (eY 1 bq bL.2.2.2.2) (.bA (eY 1 bq e6.2.1) (eY 1 bq e6.2.2.1) (eY 1 bq e6.2.2.2) (ID e6 B5) (oR (d6 eI e6.2.1) (Eq.trans (dH bL.2.2.1) xU)) (mZ (d6 eI e6.2.1) (Eq.trans (dH bL.2.2.1) xU)) (du bq e6.2.1) (oR (d6 eI e6.2.2.1) (Eq.trans (dH bL.2.2.2.1) qo)) (.gV (mZ (d6 eI e6.2.2.1) (Eq.trans (dH bL.2.2.2.1) qo)) (du bq e6.2.2.1) (oR (d6 eI e6.2.2.2) (Eq.trans (dH bL.2.2.2.2) nS)) (mZ (d6 eI e6.2.2.2) (Eq.trans (dH bL.2.2.2.2) nS)) (du bq e6.2.2.2) (vZ oD Gx) (aZ.n .i64 oD)))))));
  .ite (fun ni =>
  .ret (ba (t17.append [.ad true,(R 1)]) (qp.aB (.e1 ni))))
  (fun ni =>
  .ite (fun ng =>
  .ret (ba (t17.append [.ad false,(R 3),.ad true,(R 1)]) (qp.aB (.e2 ni ng))))
  (fun ng =>
  .ret (ba (t17.append [.ad false,(R 3),.ad false,.aH (al 1 (au (.call {ar:=[],b8:=[],ac:=[ii],r:= .agg [.a1 0 0 0 aG.1.length,.a1 0 1 0 aG.2.length],c2:=[[ae.mk 4 (aG.1.map aP) .live,ae.mk 3 (aG.2.map aU) .live]],ek:= .bn (.agg [.id,.id]),e8:=[.fT [ae.mk 4 (aG.1.map aP) .live,ae.mk 3 (aG.2.map aU) .live]],dx:=[],dk:=true}) (al 1 (au (.call {ar:=[],b8:=[],ac:=[ii],r:= .a1 0 0 0 cM.length,c2:=[(a9 1 eI cM)],ek:=ii,e8:=[.pure],dx:=[],dk:=true}) (al 1 (au (.call {ar:=[],b8:=[],ac:=[ii],r:= .a1 0 0 0 cT.length,c2:=[(a9 4 eTBlock cT)],ek:=ii,e8:=[.pure],dx:=[],dk:=true}) (au (.call {ar:=[],b8:=[],ac:=[.bn (.agg [.dC (aG.1.map aP),.dC (aG.2.map aU)]),.bn (.dE (.dC (cM.map eI))),.bn (.dE (.dC (cT.map eTBlock)))],r:= .agg (hj bL.1 bL.2.1 0 0 0 bL.2.2.1.length 0 1 0 bL.2.2.2.1.length 0 2 0 bL.2.2.2.2.length),c2:=[[ae.mk 1 (bL.2.2.1.map eI) .live,ae.mk 1 (bL.2.2.2.1.map eI) .live,ae.mk 1 (bL.2.2.2.2.map eI) .live]],ek:= .bn (.agg [.id,.id,.id,.id,.id]),e8:=[.fT [ae.mk 1 (bL.2.2.1.map eI) .live,ae.mk 1 (bL.2.2.2.1.map eI) .live,ae.mk 1 (bL.2.2.2.2.map eI) .live]],dx:=[99,101,103],dk:=true}) (al 2 [])))))))),.aH (bJ 2 (.call {ac:=[.bn (.agg [.id,.id,.dC (bL.2.2.1.map eI),.dC (bL.2.2.2.1.map eI),.dC (bL.2.2.2.2.map eI)]),ii],r:= .b iP,dk:=true,dx:=[104]}) 1),.ad false,(R 1),.aH (bJ 2 (.call {ac:=[.bn (.agg [.id,.id,.dC (e6.2.1.map eI),.dC (e6.2.2.1.map eI),.dC (e6.2.2.2.map eI)]),ii],r:= .n .i64 oD,dk:=true,dx:=[40]}) 1),(R 2),.ad false,(R 3),.ad false,(R 1)]) (qp.aB (.bA ni ng (db (dl (eQ [99]) 4 pI aG.1) (db (dl (eQ [99]) 3 pD aG.2) (gZ (bw:=(eQ [99]))))) ((gM rfl (gM rfl l0)):iK [ae.mk 4 (aG.1.map aP) .live,ae.mk 3 (aG.2.map aU) .live]) (q6 aG dt) (aZ.agg (et (aZ.a1 0 0 0 aG.1.length) (et (aZ.a1 0 1 0 aG.2.length) ko))) ((iq (fK (fE pJ) (fK (fE pE) iu)) ir):hi [[ae.mk 4 (aG.1.map aP) .live,ae.mk 3 (aG.2.map aU) .live]]) (eY 1 bq cM) (.bA (ru cM eP) (aZ.a1 0 0 0 cM.length) ((iq (fK (fE jY) iu) ir):hi [(a9 1 eI cM)]) (eY 4 hE cT) (rn cT ff) (aZ.a1 0 0 0 cT.length) ((iq (fK (fE rM) iu) ir):hi [(a9 4 eTBlock cT)]) (eh aP aG.1) (.bA (ec aP aG.1) (du hD aG.1) (eh aU aG.2) (ec aU aG.2) (du hC aG.2) (eh eI cM) (ec eI cM) (du bq cM) (.bA (eh eTBlock cT) (ec eTBlock cT) (du hE cT) (db (dl (eQ [104]) 1 dV bL.2.2.1) (db (dl (eQ [104]) 1 dV bL.2.2.2.1) (db (dl (eQ [104]) 1 dV bL.2.2.2.2) (gZ (bw:=(eQ [104])))))) ((gM rfl (gM rfl (gM rfl l0))):iK [ae.mk 1 (bL.2.2.1.map eI) .live,ae.mk 1 (bL.2.2.2.1.map eI) .live,ae.mk 1 (bL.2.2.2.2.map eI) .live]) (vV (.inl bL) mj) (aZ.agg (et (aZ.n .i64 bL.1) (et (aZ.n .i64 bL.2.1) (et (aZ.a1 0 0 0 bL.2.2.1.length) (et (aZ.a1 0 1 0 bL.2.2.2.1.length) (et (aZ.a1 0 2 0 bL.2.2.2.2.length) ko)))))) ((iq (fK (fE jY) (fK (fE jY) (fK (fE jY) iu))) ir):hi [[ae.mk 1 (bL.2.2.1.map eI) .live,ae.mk 1 (bL.2.2.2.1.map eI) .live,ae.mk 1 (bL.2.2.2.2.map eI) .live]]) (.bA (eh eI bL.2.2.1) (ec eI bL.2.2.1) (du bq bL.2.2.1) (eh eI bL.2.2.2.1) (ec eI bL.2.2.2.1) (du bq bL.2.2.2.1) (eh eI bL.2.2.2.2) (ec eI bL.2.2.2.2) (.bA (du bq bL.2.2.2.2) (rr iP eU) (aZ.b iP) (bX eo) (oR (d6 eI e6.2.1) (Eq.trans (dH bL.2.2.1) xU)) (mZ (d6 eI e6.2.1) (Eq.trans (dH bL.2.2.1) xU)) (du bq e6.2.1) (oR (d6 eI e6.2.2.1) (Eq.trans (dH bL.2.2.2.1) qo)) (.bA (mZ (d6 eI e6.2.2.1) (Eq.trans (dH bL.2.2.2.1) qo)) (du bq e6.2.2.1) (oR (d6 eI e6.2.2.2) (Eq.trans (dH bL.2.2.2.2) nS)) (mZ (d6 eI e6.2.2.2) (Eq.trans (dH bL.2.2.2.2) nS)) (du bq e6.2.2.2) (vZ oD Gx) (aZ.n .i64 oD) ni (.e1 ng))))))))))))))))
  (fun kc =>
  .ret (ba (t13.append [.ad true,(R 1)]) (pc.aB (.e1 (bW kc)))))))
  (fun jv =>
  .ret (ba (t11.append [.ad true,(R 1)]) (pd.aB (.e1 (bW jv)))))))
  (fun np =>
  .ret (ba (t9.append [.ad true,(R 1)]) (vr.aB (.e1 (bW np)))))))
  (fun eo =>
  .ret (ba (t7.append [.ad true,(R 1)]) (kM.aB (.e1 (bW eo)))))))
  ·exact (.aN fun iP eU =>
  (let t7:List b5:=t5.append [.aH (bJ 3 (.call {ar:=[],b8:=[],ac:=[.bn (.agg [.dC (aG.1.map aP),.dC (aG.2.map aU)]),.bn (.dE (.dC (cM.map eI))),.bn (.dE (.dC (cT.map eTBlock)))],r:= .agg [.n .i64 (0:Int),.n .i64 (0:Int),.isl 1 (([]:List Int).map eI),.isl 1 (([]:List Int).map eI),.isl 1 (([]:List Int).map eI)],c2:=[],ek:=ii,e8:=[],dx:=[28,32,35],dk:=true}) 2),.aH (bJ 2 (b3 2 (.b iP) true) 1)];
  have kM:=kL.aB (.cS (vV (.inr bL) mj) (aZ.agg (et (aZ.n .i64 (0:Int)) (et (aZ.n .i64 (0:Int)) (et (aZ.gp _:aZ (.isl 1 (([]:List Int).map eI))) (et (aZ.gp _:aZ (.isl 1 (([]:List Int).map eI))) (et (aZ.gp _:aZ (.isl 1 (([]:List Int).map eI))) ko)))))) (rr iP eU) (aZ.b iP));
  .ite (fun eo =>
  .aN fun nq qm =>
  (let t9:List b5:=t7.append [.ad false,.aH (al 2 (au (.call {ar:=[],b8:=[],ac:=[ii],r:= .agg [.a1 0 0 0 aG.1.length,.a1 0 1 0 aG.2.length],c2:=[[ae.mk 4 (aG.1.map aP) .live,ae.mk 3 (aG.2.map aU) .live]],ek:= .bn (.agg [.id,.id]),e8:=[.fT [ae.mk 4 (aG.1.map aP) .live,ae.mk 3 (aG.2.map aU) .live]],dx:=[],dk:=true}) (au (.call {ac:=[.bn (.agg [.dC (aG.1.map aP),.dC (aG.2.map aU)]),.bn (.agg [.dC (aG.1.map aP),.dC (aG.2.map aU)])],r:= .b nq,dk:=true,dx:=[28,49]}) (al 1 []))))];
  have vr:=kM.aB (.bA (bX eo) (db (dl (eQ [49]) 4 pI aG.1) (db (dl (eQ [49]) 3 pD aG.2) (gZ (bw:=(eQ [49]))))) ((gM rfl (gM rfl l0)):iK [ae.mk 4 (aG.1.map aP) .live,ae.mk 3 (aG.2.map aU) .live]) (q6 aG dt) (aZ.agg (et (aZ.a1 0 0 0 aG.1.length) (et (aZ.a1 0 1 0 aG.2.length) ko))) ((iq (fK (fE pJ) (fK (fE pE) iu)) ir):hi [[ae.mk 4 (aG.1.map aP) .live,ae.mk 3 (aG.2.map aU) .live]]) (eh aP aG.1) (ec aP aG.1) (.bA (du hD aG.1) (eh aU aG.2) (ec aU aG.2) (du hC aG.2) (eh aP aG.1) (ec aP aG.1) (du hD aG.1) (eh aU aG.2) (.cS (ec aU aG.2) (du hC aG.2) (C0 nq qm) (aZ.b nq))));
  .ite (fun np =>
  .aN fun kb vp =>
  (let t11:List b5:=t9.append [.ad false,.aH (al 2 (au (.call {ar:=[],b8:=[],ac:=[ii],r:= .a1 0 0 0 cM.length,c2:=[(a9 1 eI cM)],ek:=ii,e8:=[.pure],dx:=[],dk:=true}) (au (.call {ac:=[.bn (.dE (.dC (cM.map eI))),.bn (.dE (.dC (cM.map eI)))],r:= .b kb,dk:=true,dx:=[32,54]}) (al 1 []))))];
  have pd:=vr.aB (.bA (bX np) (eY 1 bq cM) (ru cM eP) (aZ.a1 0 0 0 cM.length) ((iq (fK (fE jY) iu) ir):hi [(a9 1 eI cM)]) (eh eI cM) (ec eI cM) (du bq cM) (.ez (eh eI cM) (ec eI cM) (du bq cM) (tt kb vp) (aZ.b kb)));
  .ite (fun jv =>
  .aN fun ka jM =>
  (let t13:List b5:=t11.append [.ad false,.aH (al 2 (au (.call {ar:=[],b8:=[],ac:=[ii],r:= .a1 0 0 0 cT.length,c2:=[(a9 4 eTBlock cT)],ek:=ii,e8:=[.pure],dx:=[],dk:=true}) (au (.call {ac:=[.bn (.dE (.dC (cT.map eTBlock))),.bn (.dE (.dC (cT.map eTBlock)))],r:= .b ka,dk:=true,dx:=[35,59]}) (al 1 []))))];
  have pc:=pd.aB (.bA (bX jv) (eY 4 hE cT) (rn cT ff) (aZ.a1 0 0 0 cT.length) ((iq (fK (fE rM) iu) ir):hi [(a9 4 eTBlock cT)]) (eh eTBlock cT) (ec eTBlock cT) (du hE cT) (.ez (eh eTBlock cT) (ec eTBlock cT) (du hE cT) (Dg ka jM) (aZ.b ka)));
  .ite (fun kc =>
  .aN fun ji kH =>
  .bC fun O1 =>
  .bC fun O2 =>
  .aN fun mn B3 =>
  .aN fun mo B4 =>
  (let t15:List b5:=t13.append [.ad false,(R 1),.aH (bJ 2 (.call {ar:=[.J 28 0 (ae.mk 4 (aG.1.map aP) .live),.J 28 1 (ae.mk 3 (aG.2.map aU) .live)],b8:=[.pure,.pure],ac:=[.bn (.agg [.at_ 0 0 aG.1.length,.at_ 1 0 aG.2.length]),ii],r:= .n .i64 ji.1,c2:=[(a9 4 aP ji.2.1),(a9 3 aU ji.2.2)],ek:=ii,e8:=[.pure,.pure],dx:=[28],dk:=false}) 1),.aH (bJ 2 (.call {ar:=[.row 32],b8:=[.pure],ac:=[ii,ii],r:= .n .i64 mn.1,c2:=[(a9 1 eI mn.2)],ek:=ii,e8:=[.pure],dx:=[32],dk:=false}) 1),.aH (bJ 2 (.call {ar:=[.row 35],b8:=[.pure],ac:=[ii,ii],r:= .n .i64 mo.1,c2:=[(a9 4 eTBlock mo.2)],ek:=ii,e8:=[.pure],dx:=[35],dk:=false}) 1)];
  have vt:=pc.aB (.bA (bX kc) (by decide:0≠1) (rfl:hM [.J 28 0 (ae.mk 4 (aG.1.map aP) .live),.J 28 1 (ae.mk 3 (aG.2.map aU) .live)] 0 0=some (28,0)) (rfl:aG.1.length=aG.1.length) (rfl:hM [.J 28 0 (ae.mk 4 (aG.1.map aP) .live),.J 28 1 (ae.mk 3 (aG.2.map aU) .live)] 1 0=some (28,1)) (rfl:aG.2.length=aG.2.length) (rfl:ck (some [ae.mk 4 (aG.1.map aP) .live,ae.mk 3 (aG.2.map aU) .live]) 0=some (ae.mk 4 (aG.1.map aP) .live)) (eY 4 hD aG.1) (.bA (rfl:ck (some [ae.mk 4 (aG.1.map aP) .live,ae.mk 3 (aG.2.map aU) .live]) 1=some (ae.mk 3 (aG.2.map aU) .live)) (eY 3 hC aG.2) (eY 4 hD ji.2.1) (eY 3 hC ji.2.2) (CG ji kH) (eY 1 bq cM) (eY 1 bq mn.2) (te mn B3) (.br (eY 4 hE cT) (eY 4 hE mo.2) (CT mo B4))));
  .ite (fun iQ =>
  .ret (ba (t15.append [.aH (al 3 (b0 4 (au (.ad true) []))),.ad true,(R 1)]) (vt.aB (.d5 iQ iQ iQ iQ iQ aW))))
  (fun iQ =>
  .aN fun e6 B5 =>
  .aN fun oE qo =>
  (let t17:List b5:=t15.append [.aH (al 5 (au (b3 2 (.b iP) true) (al 1 (au (.ad false) [])))),.ad false,(R 1),.aH (bJ 2 (.call {ar:=[],b8:=[],ac:=[.bn (.agg [.id,.id,.id,.id,.id]),ii],r:= .n .i64 e6,c2:=[],ek:=ii,e8:=[],dx:=[],dk:=false}) 1),(R 1),.aH (bJ 2 (b3 2 (.n .i64 oE) true) 1),(R 2)];
  have qp:=vt.aB (.bA iQ iQ iQ (rr iP eU) (aZ.b iP) iQ iQ (bX eo) (.br (Ir e6 B5) (vZ oE qo) (aZ.n .i64 oE)));
  .ite (fun nS =>
  .ret (ba (t17.append [.ad true,(R 1)]) (qp.aB (.e1 nS))))
  (fun nS =>
  .ite (fun xV =>
  .ret (ba (t17.append [.ad false,(R 3),.ad true,(R 1)]) (qp.aB (.e2 nS xV))))
  (fun xV =>
  .ret (ba (t17.append [.ad false,(R 3),.ad false,.aH (al 1 (au (.call {ar:=[],b8:=[],ac:=[ii],r:= .agg [.a1 0 0 0 aG.1.length,.a1 0 1 0 aG.2.length],c2:=[[ae.mk 4 (aG.1.map aP) .live,ae.mk 3 (aG.2.map aU) .live]],ek:= .bn (.agg [.id,.id]),e8:=[.fT [ae.mk 4 (aG.1.map aP) .live,ae.mk 3 (aG.2.map aU) .live]],dx:=[],dk:=true}) (al 1 (au (.call {ar:=[],b8:=[],ac:=[ii],r:= .a1 0 0 0 cM.length,c2:=[(a9 1 eI cM)],ek:=ii,e8:=[.pure],dx:=[],dk:=true}) (al 1 (au (.call {ar:=[],b8:=[],ac:=[ii],r:= .a1 0 0 0 cT.length,c2:=[(a9 4 eTBlock cT)],ek:=ii,e8:=[.pure],dx:=[],dk:=true}) (au (.call {ar:=[],b8:=[],ac:=[.bn (.agg [.dC (aG.1.map aP),.dC (aG.2.map aU)]),.bn (.dE (.dC (cM.map eI))),.bn (.dE (.dC (cT.map eTBlock)))],r:= .agg [.n .i64 (0:Int),.n .i64 (0:Int),.isl 1 (([]:List Int).map eI),.isl 1 (([]:List Int).map eI),.isl 1 (([]:List Int).map eI)],c2:=[],ek:=ii,e8:=[],dx:=[99,101,103],dk:=true}) (al 2 [])))))))),.aH (bJ 2 (b3 2 (.b iP) true) 1),.ad false,(R 1),.aH (bJ 2 (b3 2 (.n .i64 oE) true) 1),(R 2),.ad false,(R 3),.ad false,(R 1)]) (qp.aB (.bA nS xV (db (dl (eQ [99]) 4 pI aG.1) (db (dl (eQ [99]) 3 pD aG.2) (gZ (bw:=(eQ [99]))))) ((gM rfl (gM rfl l0)):iK [ae.mk 4 (aG.1.map aP) .live,ae.mk 3 (aG.2.map aU) .live]) (q6 aG dt) (aZ.agg (et (aZ.a1 0 0 0 aG.1.length) (et (aZ.a1 0 1 0 aG.2.length) ko))) ((iq (fK (fE pJ) (fK (fE pE) iu)) ir):hi [[ae.mk 4 (aG.1.map aP) .live,ae.mk 3 (aG.2.map aU) .live]]) (eY 1 bq cM) (.bA (ru cM eP) (aZ.a1 0 0 0 cM.length) ((iq (fK (fE jY) iu) ir):hi [(a9 1 eI cM)]) (eY 4 hE cT) (rn cT ff) (aZ.a1 0 0 0 cT.length) ((iq (fK (fE rM) iu) ir):hi [(a9 4 eTBlock cT)]) (eh aP aG.1) (.bA (ec aP aG.1) (du hD aG.1) (eh aU aG.2) (ec aU aG.2) (du hC aG.2) (eh eI cM) (ec eI cM) (du bq cM) (.bA (eh eTBlock cT) (ec eTBlock cT) (du hE cT) (vV (.inr bL) mj) (aZ.agg (et (aZ.n .i64 (0:Int)) (et (aZ.n .i64 (0:Int)) (et (aZ.gp _:aZ (.isl 1 (([]:List Int).map eI))) (et (aZ.gp _:aZ (.isl 1 (([]:List Int).map eI))) (et (aZ.gp _:aZ (.isl 1 (([]:List Int).map eI))) ko)))))) (rr iP eU) (aZ.b iP) (bX eo) (.cS (vZ oE qo) (aZ.n .i64 oE) nS xV)))))))))))))
  (fun kc =>
  .ret (ba (t13.append [.ad true,(R 1)]) (pc.aB (.e1 (bW kc)))))))
  (fun jv =>
  .ret (ba (t11.append [.ad true,(R 1)]) (pd.aB (.e1 (bW jv)))))))
  (fun np =>
  .ret (ba (t9.append [.ad true,(R 1)]) (vr.aB (.e1 (bW np)))))))
  (fun eo =>
  .ret (ba (t7.append [.ad true,(R 1)]) (kM.aB (.e1 (bW eo))))))))))))))
end Go.Proofs.Ytgfpnhmcmgnepaa
