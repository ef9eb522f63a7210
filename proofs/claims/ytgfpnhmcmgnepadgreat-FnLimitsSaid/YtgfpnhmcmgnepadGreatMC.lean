/- Lemmas, plain functions of the program, and what they answer. No condition. -/
import Derived.Test.YtgfpnhmcmgnepadGreatChecked
import Derived.Test.YtgfpnhmcmgnepadGreatMB
namespace Go.VL
set_option linter.unusedVariables false
set_option linter.unusedSimpArgs false
def ru (m n:Nat)(a:Nat→Nat→Int)(b:Nat→Int)(x:Nat→Rat):Prop:=(∀j,j<n→0≤x j)∧ ∀i,i<m→ct n (fun j=>(a i j:Rat)*x j)=(b i:Rat)
def val (n:Nat)(I x:Nat→Rat):Rat:=ct n (fun j=>I j*x j)
def hC (c:Nat→Rat)(l j:Nat):Rat:=match l with
 | 0=>c j
 | l+1=>if j=l then -1 else 0
def rX (m n:Nat)(a:Nat→Nat→Int)(b:Nat→Int)(c x:Nat→Rat):Prop :=
 ru m n a b x∧ ∀y,ru m n a b y→ ¬hd (n+1) (fun l=>val n (hC c l) y-val n (hC c l) x)
def Bounded (m n:Nat)(a:Nat→Nat→Int)(b:Nat→Int)(c:Nat→Rat):Prop:= ∃V,∀y,ru m n a b y→val n c y≤V
section
variable {m n:Nat} {a:Nat→Nat→Int} {b:Nat→Int} {c:Nat→Rat}
theorem XQ {x:Nat→Rat}{j:Nat}(aB:j<n):val n (hC c (j+1)) x = - x j:=by
 unfold val
 rw [jZ aB (f:=fun i=>hC c (j+1) i*x i) (fun i ah cH=>by simp only [hC];rw [if_neg cH];grind)]
 simp only [hC,if_true];grind
theorem rX.unique {x y:Nat→Rat}(aa:rX m n a b c x)(aP:rX m n a b c y):(∀j,j<n→x j=y j)∧val n c x=val n c y:=by
 rcases CX (n+1) (fun l=>val n (hC c l) y-val n (hC c l) x) with h|h|h
 ·exact (aa.2 y aP.1 h).elim
 ·refine ⟨fun j aB=> ?_,?_⟩
  ·have:=h (j+1) (by omega)
   simp only [XQ aB] at this;grind
  ·have:=h 0 (by omega)
   simp only at this
   have e:hC c 0=c:=rfl
   rw [e] at this;grind
 ·exact (aP.2 x aa.1 (h.congr fun l _=>by grind)).elim
theorem rX.aen {x y:Nat→Rat}(aa:rX m n a b c x)(aP:ru m n a b y):val n c y≤val n c x:=by
 apply Classical.byContradiction
 intro h
 refine aa.2 y aP ⟨0,by omega,?_,fun l aO=>by omega⟩
 have e:hC c 0=c:=rfl
 simp only [e];grind
structure LT (m n:Nat) (a:Nat→Nat→Int) (b:Nat→Int) (a1 N:Nat) (u:ck):Prop where
 eqv : ∀x:Nat→Rat,(∀i,i<m→ct n (fun j=>(a i j:Rat)*x j)=(b i:Rat))↔ ∀i,i<a1→ct n (fun j=>u.T i j*x j)=u.T i N
 unit : ∀i,i<a1→ ∀k,k<a1→u.T i (u.B k)=if i=k then 1 else 0
 jK : ∀i,i<a1→u.B i<n
 ls:u.kF a1 N
 Lm:n≤N
variable {a1 N:Nat} {u:ck}
theorem LT.Dl (h:LT m n a b a1 N u)(f:Nat→Rat):ct n (fun j=>f j*u.gb a1 N j)=ct a1 (fun i=>f (u.B i)*u.T i N):=by
 unfold ck.gb
 rw [fA (g:=fun j=>ct a1 (fun i=>if u.B i=j then f (u.B i)*u.T i N else 0)) (fun j _=>by
  rw [← hX];exact fA fun i _=>by split<;>grind),o9]
 exact fA fun i ah=>by rw [jZ (h.jK i ah) (f:=fun j=>if u.B i=j then f (u.B i)*u.T i N else 0) (fun j _ cH=>if_neg fun x=>cH x.symm),if_pos rfl]
theorem LT.gb (h:LT m n a b a1 N u):ru m n a b (u.gb a1 N):=by
 refine ⟨fun j _=>h.ls.gb j,(h.eqv _).2 fun i ah=> ?_⟩
 rw [h.Dl,jZ ah (f:=fun k=>u.T i (u.B k)*u.T k N) (fun k aJ cH=>by rw [h.unit i ah k aJ,if_neg (fun e=>cH e.symm)];grind),h.unit i ah i ah,if_pos rfl];grind
theorem LT.IK (h:LT m n a b a1 N u)(I:Nat→Rat){x:Nat→Rat}(aa:ru m n a b x):ct n (fun j=>u.di a1 I j*x j)=val n I x-val n I (u.gb a1 N):=by
 have al:=(h.eqv x).1 aa.2
 unfold val ck.di
 rw [h.Dl I,fA (g:=fun j=>I j*x j-ct a1 (fun i=>I (u.B i)*(u.T i j*x j))) (fun j _=>by
  rw [fA (f:=fun i=>I (u.B i)*(u.T i j*x j)) (g:=fun i=>x j*(I (u.B i)*u.T i j)) (fun i _=>by grind),hX];grind),qo,o9]
 congr 1
 exact fA fun i ah=>by rw [hX,al i ah]
theorem LT.w2 (h:LT m n a b a1 N u)(I:Nat→Rat){i:Nat}(ah:i<a1):u.di a1 I (u.B i)=0:=by
 unfold ck.di
 rw [jZ ah (f:=fun k=>I (u.B k)*u.T k (u.B i)) (fun k aJ cH=>by rw [h.unit k aJ i ah,if_neg cH];grind),h.unit i ah i ah,if_pos rfl];grind
theorem LT.mn (h:LT m n a b a1 N u)(dy:∀j,j<n→ ¬u.EF a1 (n+1) (hC c) j):rX m n a b c (u.gb a1 N):=by
 refine ⟨h.gb,fun y aP aO=> ?_⟩
 have Ek:hd (n+1) (fun l=>ct n (fun j=>u.di a1 (hC c l) j*y j)):=aO.congr fun l _=>(h.IK (hC c l) aP).symm
 obtain ⟨j,aB,af⟩:=hd.Jc (v:=fun j l=>u.di a1 (hC c l) j*y j) Ek
 rcases (af.congr (fC:=fun l=>y j*u.di a1 (hC c l) j) fun l _=>Rat.mul_comm _ _).PX with ⟨-,R⟩|⟨R,-⟩
 ·exact dy j aB R
 ·have:=aP.1 j aB;grind
theorem LT.Kq (h:LT m n a b a1 N u)(I:Nat→Rat){s:Nat}(bX:s<n)(dy:0<u.di a1 I s)(hF:∀i,i<a1→ ¬0<u.T i s): ¬Bounded m n a b I:=by
 rintro ⟨V,hV⟩
 have bg : ∀f:Nat→Rat,ct n (fun j=>f j*u.dir a1 s j)=f s-ct a1 (fun i=>f (u.B i)*u.T i s):=fun f=>by
  unfold ck.dir
  rw [fA (g:=fun j=>(if j=s then f s else 0)-ct a1 (fun i=>if u.B i=j then f (u.B i)*u.T i s else 0)) (fun j _=>by
   have e:ct a1 (fun i=>if u.B i=j then f (u.B i)*u.T i s else 0)=f j*ct a1 (fun i=>if u.B i=j then u.T i s else 0):=by
    rw [← hX];exact fA fun i _=>by split<;>grind
   rw [e];split<;>grind),qo,jZ bX (f:=fun j=>if j=s then f s else 0) (fun i _ cH=>if_neg cH),if_pos rfl,o9]
  congr 1
  exact fA fun i ah=>by rw [jZ (h.jK i ah) (f:=fun j=>if u.B i=j then f (u.B i)*u.T i s else 0) (fun j _ cH=>if_neg fun x=>cH x.symm),if_pos rfl]
 have pos : ∀j,0≤u.dir a1 s j:=fun j=>by
  unfold ck.dir
  have o:0≤ct a1 (fun i=> -(if u.B i=j then u.T i s else 0)):=rL fun i ah=>by
   have:=hF i ah
   split<;>grind
  rw [fA (g:=fun i=>(-1)*(if u.B i=j then u.T i s else 0)) (fun i _=>by grind),hX] at o
  split<;>grind
 have Kq : ∀vp:Rat,0≤vp→ru m n a b (fun j=>u.gb a1 N j+vp*u.dir a1 s j)∧val n I (fun j=>u.gb a1 N j+vp*u.dir a1 s j)=val n I (u.gb a1 N)+vp*u.di a1 I s:=fun vp Ll=>by
  have Rp : ∀f:Nat→Rat,ct n (fun j=>f j*(u.gb a1 N j+vp*u.dir a1 s j))=ct n (fun j=>f j*u.gb a1 N j)+vp*(f s-ct a1 (fun i=>f (u.B i)*u.T i s)):=fun f=>by
   rw [← bg f,← hX,← tV]
   exact fA fun j _=>by grind
  refine ⟨⟨fun j _=> ?_,(h.eqv _).2 fun i ah=> ?_⟩,Rp I⟩
  ·have o:=h.ls.gb (m:=a1) (N:=N) j
   have R:=Rat.mul_nonneg Ll (pos j)
   grind
  ·rw [Rp (u.T i),(h.eqv _).1 h.gb.2 i ah,jZ ah (f:=fun k=>u.T i (u.B k)*u.T k s) (fun k aJ cH=>by rw [h.unit i ah k aJ,if_neg (fun e=>cH e.symm)];grind),h.unit i ah i ah,if_pos rfl];grind
 have Rq:=hV _ h.gb
 have cH:u.di a1 I s≠0:=by grind
 obtain ⟨ak,bm⟩:=Kq ((V-val n I (u.gb a1 N)+1) / u.di a1 I s) (by
  rw [Rat.div_def]
  exact Rat.mul_nonneg (by grind) (Rat.le_of_lt (Rat.inv_pos.2 dy)))
 have ab:=hV _ ak
 rw [bm] at ab
 have:(V-val n I (u.gb a1 N)+1) / u.di a1 I s*u.di a1 I s=V-val n I (u.gb a1 N)+1:=by grind
 grind
theorem LT.cP (h:LT m n a b a1 N u){r k:Nat}(al:r<a1)(aJ:k<n)(af:u.T r k≠0)(b5:(u.cP r k).kF a1 N):LT m n a b a1 N (u.cP r k) where
 eqv:=fun x=>by
  rw [h.eqv x]
  have ax:ct n (fun j=>(u.cP r k).T r j*x j)=(1 / u.T r k)*ct n (fun j=>u.T r j*x j):=by
   rw [← hX]
   exact fA fun j _=>by simp only [ck.cP,if_true];grind
  have aC : ∀i,i≠r→ct n (fun j=>(u.cP r k).T i j*x j)=ct n (fun j=>u.T i j*x j)-(u.T i k / u.T r k)*ct n (fun j=>u.T r j*x j):=fun i ah=>by
   rw [← hX,← qo]
   exact fA fun j _=>by simp only [ck.cP,if_neg ah];grind
  have gI:(u.cP r k).T r N=(1 / u.T r k)*u.T r N:=by simp only [ck.cP,if_true];grind
  have hT : ∀i,i≠r→(u.cP r k).T i N=u.T i N-(u.T i k / u.T r k)*u.T r N:=fun i ah=>by simp only [ck.cP,if_neg ah];grind
  constructor
  ·intro aa i ah
   by_cases c:i=r
   ·rw [c,ax,gI,aa r al]
   ·rw [aC i c,hT i c,aa i ah,aa r al]
  ·intro aa
   have Rr:ct n (fun j=>u.T r j*x j)=u.T r N:=by
    have:=aa r al
    rw [ax,gI] at this
    have R:u.T r k*((1 / u.T r k)*ct n (fun j=>u.T r j*x j))=u.T r k*((1 / u.T r k)*u.T r N):=by rw [this]
    grind
   intro i ah
   by_cases c:i=r
   ·rw [c];exact Rr
   ·have:=aa i ah
    rw [aC i c,hT i c,Rr] at this
    grind
 unit:=by
  intro i ah dt mi
  simp only [ck.cP]
  by_cases e:i=r
  ·subst e
   simp only [if_true]
   by_cases ec:dt=i
   ·subst ec;simp only [if_true];grind
   ·simp only [if_neg ec]
    rw [h.unit i ah dt mi,if_neg (fun x=>ec x.symm)];grind
  ·simp only [if_neg e]
   by_cases ec:dt=r
   ·subst ec;simp only [if_true,if_neg e];grind
   ·simp only [if_neg ec]
    rw [h.unit i ah dt mi,h.unit r al dt mi,if_neg (c:=r=dt) (fun x=>ec x.symm)];grind
 jK:=fun i ah=>by
  simp only [ck.cP]
  split
  ·exact aJ
  ·exact h.jK i ah
 ls:=b5
 Lm:=h.Lm
theorem LT.tok (h:LT m n a b a1 N u)(a5:n≤N)(fV:0<N):fN a1 a1 N u.T u where
 qb:=fun c aN j _=>by
  rw [jZ aN (f:=fun i=>u.T c (u.B i)*u.T i j) (fun i ah cH=>by rw [h.unit c aN i ah,if_neg (fun e=>cH e.symm)];grind),h.unit c aN c aN,if_pos rfl];grind
 row:=⟨fun i c=>if i=c then 1 else 0,fun i ah j _=>by
  rw [jZ ah (f:=fun c=>(if i=c then (1:Rat) else 0)*u.T c j) (fun c _ cH=>by rw [if_neg (Ne.symm cH)];grind),if_pos rfl];grind⟩
 unit:=h.unit
 jK:=fun i ah=>Nat.lt_of_lt_of_le (h.jK i ah) a5
def s6 (n:Nat)(c1:Nat→Bool)(x:Nat→Rat):Prop:= ∀j,j<n→c1 j=false→x j=0
structure oD (m n:Nat) (a:Nat→Nat→Int) (b:Nat→Int) (c:Nat→Rat) (l:Nat) (c1:Nat→Bool) (V:Nat→Rat):Prop where
 low : ∀y,ru m n a b y→s6 n c1 y→ ∀k,k<l→val n (hC c k) y=V k
 up : ∀y,ru m n a b y→ ¬s6 n c1 y→ ∃k,k<l∧val n (hC c k) y<V k∧ ∀q,q<k→val n (hC c q) y=V q
theorem oD.zero {c1:Nat→Bool}(h:∀j,j<n→c1 j=true)(V:Nat→Rat):oD m n a b c 0 c1 V where
 low:=fun y _ _ k aJ=>by omega
 up:=fun y _ b5=>(b5 fun j aB e=>by rw [h j aB] at e;cases e).elim
theorem oD.next (h:LT m n a b a1 N u){l:Nat}{c1 kl:Nat→Bool}{V:Nat→Rat}(s:oD m n a b c l c1 V)(dy:∀j,j<n→c1 j=true→ ¬0<u.di a1 (hC c l) j)
 (oU : ∀j,j<n→kl j=(c1 j && !decide (u.di a1 (hC c l) j<0))) : ∃Bv,oD m n a b c (l+1) kl Bv:=by
 have sub : ∀y,s6 n kl y→s6 n c1 y:=fun y aP j aB e=>aP j aB (by rw [oU j aB,e];rfl)
 have neg : ∀y,ru m n a b y→s6 n c1 y→ ∀j,j<n→0≤ -(u.di a1 (hC c l) j*y j):=fun y aP b5 j aB=>by
  cases e:c1 j with
  | false=>rw [b5 j aB e];grind
  | true =>
   have:=Rat.mul_nonneg (show 0≤ -(u.di a1 (hC c l) j) by have:=dy j aB e;grind) (aP.1 j aB)
   grind
 refine ⟨fun k=>if k=l then val n (hC c l) (u.gb a1 N) else V k,fun y aP b5 k aJ=> ?_,fun y aP b5=> ?_⟩
 ·by_cases e:k=l
  ·rw [if_pos e,e]
   have cn:ct n (fun j=>u.di a1 (hC c l) j*y j)=0:=m2 fun j aB=>by
    cases e:kl j with
    | false=>rw [b5 j aB e];grind
    | true =>
     rw [oU j aB,Bool.and_eq_true] at e
     have o:=dy j aB e.1
     have R : ¬u.di a1 (hC c l) j<0:=by simpa using e.2
     have:u.di a1 (hC c l) j=0:=by grind
     rw [this];grind
   rw [h.IK _ aP] at cn;grind
  ·rw [if_neg e]
   exact s.low y aP (sub y b5) k (by omega)
 ·by_cases g:s6 n c1 y
  ·refine ⟨l,by omega,?_,fun q bb=>by rw [if_neg (by omega)];exact s.low y aP g q bb⟩
   rw [if_pos rfl]
   have o:=h.IK (hC c l) aP
   have R:=neg y aP g
   have ab:=rL R
   have aA:ct n (fun j=> -(u.di a1 (hC c l) j*y j))≠0:=fun e=>b5 fun j aB R9=>by
    have:=HL R e j aB
    cases ax:c1 j with
    | false=>exact g j aB ax
    | true =>
     rw [oU j aB,ax,Bool.true_and] at R9
     have aF:u.di a1 (hC c l) j<0:=by simpa using R9
     grind
   rw [fA (g:=fun j=>(-1)*(u.di a1 (hC c l) j*y j)) (fun j _=>by grind),hX,o] at ab aA
   grind
  ·obtain ⟨k,ka,jq,nu⟩:=s.up y aP g
   exact ⟨k,by omega,by rw [if_neg (by omega)];exact jq,fun q bb=>by rw [if_neg (by omega)];exact nu q bb⟩
theorem oD.mn (h:LT m n a b a1 N u){c1:Nat→Bool}{V:Nat→Rat}(s:oD m n a b c (n+1) c1 V)(aV:∀i,i<a1→c1 (u.B i)=true):rX m n a b c (u.gb a1 N):=by
 have aa:s6 n c1 (u.gb a1 N):=fun j aB e=>ck.HW fun i ah aC=>by
  have:=aV i ah
  rw [aC,e] at this;cases this
 have a3:=s.low _ h.gb aa
 refine ⟨h.gb,fun y aP ⟨l,mu,o2,EH⟩=> ?_⟩
 by_cases g:s6 n c1 y
 ·have:=s.low y aP g l mu
  have:=a3 l mu
  grind
 ·obtain ⟨k,ka,jq,nu⟩:=s.up y aP g
  rcases Nat.lt_trichotomy l k with e|e|e
  ·have:=nu l e;have:=a3 l mu;grind
  ·subst e;have:=a3 l mu;grind
  ·have:=EH k e;have:=a3 k ka;grind
theorem LT.WO (h:LT m n a b a1 N u){k s:Nat}(dy:0<u.di a1 (hC c (k+1)) s): ∃i,i<a1∧0<u.T i s:=by
 apply Classical.byContradiction
 intro cH
 have o:0≤ct a1 (fun i=>hC c (k+1) (u.B i)*u.T i s):=rL fun i ah=>by
  have R : ¬0<u.T i s:=fun e=>cH ⟨i,ah,e⟩
  simp only [hC]
  split<;>grind
 unfold ck.di at dy
 have ab:hC c (k+1) s≤0:=by simp only [hC];split<;>grind
 grind
end
end Go.VL
namespace Go.Proofs.YtgfpnhmcmgnepadGreat
set_option linter.unusedVariables false
set_option linter.unusedSimpArgs false
open Go Go.VL
structure bA where
 oM:ByteArray
 l0:Int
 l1:Int
 nE:Bool
 deriving DecidableEq
structure b4 where
 gr:Int
 gu:Int
 mJ:Int
 deriving DecidableEq
structure cz where
 cR:(List bA)
 bB:(List b4)
 deriving DecidableEq
structure XR where
 mC:(List Int)
 acW:Int
 acX:Int
 deriving DecidableEq
structure bc where
 c6:Bool
 cK:(List Int)
 deriving DecidableEq
structure dX where
 mM:bc
 jJ:(List Int)
 deriving DecidableEq
structure nD where
 kD:Int
 jQ:Int
 gr:(List Int)
 gu:(List Int)
 kc:(List Int)
 deriving DecidableEq
structure eW where
 hp:Int
 sY:Int
 deriving DecidableEq
structure bq where
 lD:bc
 mN:(List Int)
 deriving DecidableEq
structure qp where
 DM:(List (List bc))
 uW:bc
 DB:(List Int)
 Ju:Int
 Jv:(List Bool)
 deriving DecidableEq
def dK (x:bA):List ay:=[.s x.oM,.n .i64 x.l0,.n .i64 x.l1,.b x.nE]
theorem adC : ∀x,∀v∈dK x,v.hP=true:=by
 intro x v a3
 simp only [dK,List.mem_cons,List.not_mem_nil,or_false] at a3
 rcases a3 with rfl|rfl|rfl|rfl<;>rfl
theorem adD : ∀x,∀v∈dK x,cp v:=fun x=>(rQ (.s _) (rQ (.n _ _) (rQ (.n _ _) (rQ (.b _) IY))))
theorem tL : ∀x,∀v∈dK x,Pure v:=by
 intro x v a3
 simp only [dK,List.mem_cons,List.not_mem_nil,or_false] at a3
 rcases a3 with rfl|rfl|rfl|rfl
 ·exact .s _
 ·exact .n _ _
 ·exact .n _ _
 ·exact .b _
def d5 (x:b4):List ay:=[.n .i64 x.gr,.n .i64 x.gu,.n .i64 x.mJ]
theorem ady : ∀x,∀v∈d5 x,v.hP=true:=by
 intro x v a3
 simp only [d5,List.mem_cons,List.not_mem_nil,or_false] at a3
 rcases a3 with rfl|rfl|rfl<;>rfl
theorem adz : ∀x,∀v∈d5 x,cp v:=fun x=>(rQ (.n _ _) (rQ (.n _ _) (rQ (.n _ _) IY)))
theorem tI : ∀x,∀v∈d5 x,Pure v:=by
 intro x v a3
 simp only [d5,List.mem_cons,List.not_mem_nil,or_false] at a3
 rcases a3 with rfl|rfl|rfl
 ·exact .n _ _
 ·exact .n _ _
 ·exact .n _ _
def f9 (x:cz):List ay:=[.isl 4 (x.cR.map dK),.isl 3 (x.bB.map d5)]
theorem adn : ∀x,∀v∈f9 x,v.hP=true:=by
 intro x v a3
 simp only [f9,List.mem_cons,List.not_mem_nil,or_false] at a3
 rcases a3 with rfl|rfl<;>rfl
theorem pG : ∀x,∀v∈f9 x,Pure v:=by
 intro x v a3
 simp only [f9,List.mem_cons,List.not_mem_nil,or_false] at a3
 rcases a3 with rfl|rfl
 ·exact .isl (eF tL _)
 ·exact .isl (eF tI _)
def CZ (x:XR):List ay:=[.isl 1 (x.mC.map eU8),.n .i64 x.acW,.n .i64 x.acX]
theorem adu : ∀x,∀v∈CZ x,v.hP=true:=by
 intro x v a3
 simp only [CZ,List.mem_cons,List.not_mem_nil,or_false] at a3
 rcases a3 with rfl|rfl|rfl<;>rfl
theorem ado : ∀x,∀v∈CZ x,Pure v:=by
 intro x v a3
 simp only [CZ,List.mem_cons,List.not_mem_nil,or_false] at a3
 rcases a3 with rfl|rfl|rfl
 ·exact .isl (eF OK _)
 ·exact .n _ _
 ·exact .n _ _
def aQ (x:bc):List ay:=[.b x.c6,.isl 1 (x.cK.map J)]
theorem d1 : ∀x,∀v∈aQ x,v.hP=true:=by
 intro x v a3
 simp only [aQ,List.mem_cons,List.not_mem_nil,or_false] at a3
 rcases a3 with rfl|rfl<;>rfl
theorem rJ : ∀x,∀v∈aQ x,Pure v:=by
 intro x v a3
 simp only [aQ,List.mem_cons,List.not_mem_nil,or_false] at a3
 rcases a3 with rfl|rfl
 ·exact .b _
 ·exact .isl (eF aD _)
def fm (x:dX):List ay:=[.b x.mM.c6,.isl 1 (x.mM.cK.map J),.isl 1 (x.jJ.map J)]
theorem adX : ∀x,∀v∈fm x,v.hP=true:=by
 intro x v a3
 simp only [fm,List.mem_cons,List.not_mem_nil,or_false] at a3
 rcases a3 with rfl|rfl|rfl<;>rfl
theorem CR : ∀x,∀v∈fm x,Pure v:=by
 intro x v a3
 simp only [fm,List.mem_cons,List.not_mem_nil,or_false] at a3
 rcases a3 with rfl|rfl|rfl
 ·exact .b _
 ·exact .isl (eF aD _)
 ·exact .isl (eF aD _)
def C0 (x:nD):List ay:=[.n .i64 x.kD,.n .i64 x.jQ,.isl 1 (x.gr.map J),.isl 1 (x.gu.map J),.isl 1 (x.kc.map J)]
theorem adv : ∀x,∀v∈C0 x,v.hP=true:=by
 intro x v a3
 simp only [C0,List.mem_cons,List.not_mem_nil,or_false] at a3
 rcases a3 with rfl|rfl|rfl|rfl|rfl<;>rfl
theorem adp : ∀x,∀v∈C0 x,Pure v:=by
 intro x v a3
 simp only [C0,List.mem_cons,List.not_mem_nil,or_false] at a3
 rcases a3 with rfl|rfl|rfl|rfl|rfl
 ·exact .n _ _
 ·exact .n _ _
 ·exact .isl (eF aD _)
 ·exact .isl (eF aD _)
 ·exact .isl (eF aD _)
def e8 (x:eW):List ay:=[.n .i64 x.hp,.n .i64 x.sY]
theorem adw : ∀x,∀v∈e8 x,v.hP=true:=by
 intro x v a3
 simp only [e8,List.mem_cons,List.not_mem_nil,or_false] at a3
 rcases a3 with rfl|rfl<;>rfl
theorem adx : ∀x,∀v∈e8 x,cp v:=fun x=>(rQ (.n _ _) (rQ (.n _ _) IY))
theorem tG : ∀x,∀v∈e8 x,Pure v:=by
 intro x v a3
 simp only [e8,List.mem_cons,List.not_mem_nil,or_false] at a3
 rcases a3 with rfl|rfl
 ·exact .n _ _
 ·exact .n _ _
def a2 (x:bq):List ay:=[.b x.lD.c6,.isl 1 (x.lD.cK.map J),.isl 1 (x.mN.map J)]
theorem adA : ∀x,∀v∈a2 x,v.hP=true:=by
 intro x v a3
 simp only [a2,List.mem_cons,List.not_mem_nil,or_false] at a3
 rcases a3 with rfl|rfl|rfl<;>rfl
theorem jd : ∀x,∀v∈a2 x,Pure v:=by
 intro x v a3
 simp only [a2,List.mem_cons,List.not_mem_nil,or_false] at a3
 rcases a3 with rfl|rfl|rfl
 ·exact .b _
 ·exact .isl (eF aD _)
 ·exact .isl (eF aD _)
def w3 (x:qp):List ay:=[.isl 1 (x.DM.map (e7 2 aQ)),.b x.uW.c6,.isl 1 (x.uW.cK.map J),.isl 1 (x.DB.map J),.n .i64 x.Ju,.isl 1 (x.Jv.map dB)]
theorem adr : ∀x,∀v∈w3 x,v.hP=true:=by
 intro x v a3
 simp only [w3,List.mem_cons,List.not_mem_nil,or_false] at a3
 rcases a3 with rfl|rfl|rfl|rfl|rfl|rfl<;>rfl
theorem Hw : ∀x,∀v∈w3 x,Pure v:=by
 intro x v a3
 simp only [w3,List.mem_cons,List.not_mem_nil,or_false] at a3
 rcases a3 with rfl|rfl|rfl|rfl|rfl|rfl
 ·exact .isl (eF (pe (sz:=2) rJ) _)
 ·exact .b _
 ·exact .isl (eF aD _)
 ·exact .isl (eF aD _)
 ·exact .n _ _
 ·exact .isl (eF dT _)
noncomputable abbrev bo:Program:=Go.Proofs.Tryz.prog
theorem pp:bo.follows .mixedOrders=true:=Go.Proofs.Tryz.checked.mixed
theorem bS {N m:Nat}{c:Code}{E:List (Nat×ay)}{rows:List (List aq)}(tape:List cw){e:Exit}{s:S}{ag:List Prop}(bf:cL ag)
 (h:Eg bo N m c tape (eD E rows) rows.length=some (e,s,ag):=by kernel_rfl):iM bo N m c e (eD E rows) s:=Of pp h bf (t6 _ _)
theorem bP {f:FuncId}{args:List ay}{r:ay}{ag:List Prop}(tape:List cw)(bf:cL ag)(eo:kL:=ii)
 (h:Aw bo f args [] tape [] [] eo=some (r,[],ag):=by kernel_rfl):Con bo f args [] r []:=WJ pp h bf
theorem hg {f:FuncId}{args:List ay}{T iO:List (List aq)}{r:ay}{ag:List Prop}(tape:List cw)(aM:List Nat)(cu:List hR)(bf:cL ag)(eo:kL:=ii)
 (h:Aw bo f args T tape aM cu eo=some (r,iO,ag):=by kernel_rfl):Con bo f args T r iO:=OJ pp h bf
def gp (pB hG:Int)(iw bs fD m0 Ln lK Lo Lp Kr Ks Kt sk:Nat):List ay:=[.n .i64 pB,.n .i64 hG,.bw iw bs fD m0,.bw Ln lK Lo Lp,.bw Kr Ks Kt sk]
def abF (pB hG iw bs:Nat)(fD:List Int)(m0:Int):List ay:=[.bw pB hG iw bs,.isl 1 (fD.map J),.n .i64 m0]
def eG (pB hG iw bs:Nat)(fD:Bool)(m0:List Int)(Ln lK Lo Lp:Nat)(Kr:Int)(Ks Kt sk abG:Nat):List ay:=[.bw pB hG iw bs,.b fD,.isl 1 (m0.map J),.bw Ln lK Lo Lp,.n .i64 Kr,.bw Ks Kt sk abG]
end Go.Proofs.YtgfpnhmcmgnepadGreat
namespace Go.Proofs.YtgfpnhmcmgnepadGreat
set_option linter.unusedVariables false
set_option linter.unusedSimpArgs false
open Go Go.VL
def F5 (fG:List Int):(Int×Int)→S:=fun (pw,bd)=>eD [(0,.isl 1 (fG.map eU8)),(3,.n .i64 pw),(4,.n .i64 bd)] []
def Ge (fG:List Int):Int→eJ
 | a=>⟨some 0,[(0,.isl 1 (fG.map eU8)),(3,.n .i64 a)],[]⟩
def vU (fG:List Int)(pw bd:Int):Option ((Int×Int)⊕(Int)) :=
 if (decide (bd<(len_ eU8 fG)))=true then
  if (decide (bd<(4000:Int)))=true then
   if 0≤bd∧bd<fG.length then
   fG[bd.toNat]? >>= fun fO =>
   some (.inl (U (((BitVec.ofInt (IntKind.bits .i64) (U ((U ((U (pw*(73:Int)))+(IntKind.wrap .i64 fO)))+(7:Int))) &&& BitVec.ofInt (IntKind.bits .i64) (1073741823:Int)).toNat:Int)),U (bd+(1:Int))))
   else none
  else
   some (.inr pw)
 else
  some (.inr pw)
def Mt (fG:List Int)(pw bd:Int):Option (Int):=iter (fun w:Int×Int=>vU fG w.1 w.2) (pw,bd)
theorem Tj {fG:List Int}{pw bd:Int}:bQ (vU fG pw bd) (fj bo 32 0 20 [1,1,0,1,0,0] (F5 fG (pw,bd)) (F5 fG) (Ge fG)):=by
 unfold vU
 exact .ite (fun o =>
  .ite (fun R =>
  .bn fun ab =>
  .az fun fO aF =>
  .ret (bS [.aH (ap 7 (ar (.ao true) [])),.ao true,.aH (bH 5 (.cB (eU8 fO)) 5),(ad 3),.bj [] [] (bR [0,3,4])] (.e2 o o o R ab.1 (eE eU8 ab.2) (cD eU8 aF))))
  (fun R =>
  .ret (bS [.aH (ap 7 (ar (.ao true) [])),.ao false,.bj [] [] (bR [0,3])] (.c8 o o o R))))
  (fun o =>
  .ret (bS [.aH (ap 5 (dk 2 (ar (.ao false) []))),.ao false,.bj [] [] (bR [0,3])] (.c8 o o o gC)))
theorem T7 {fG:List Int}{pw bd:Int}{r} (h:Mt fG pw bd=some r):fk bo 32 0 20 [1,1,0,1,0,0] (F5 fG) (Ge fG) (pw,bd) r:=fl (fun _=>Tj) h
def y1 (fG:List Int):Option Int :=
 Mt fG (U ((1975:Int)+(len_ eU8 fG))) 0 >>= fun ak =>
 some ak
theorem Mu {fG:List Int}:bQ (y1 fG) (fun a=>Con bo 20 [.isl 1 (fG.map eU8)] [] (.ref 0 0 0 0) [[aq.mk 3 [[.isl 1 (fG.map eU8),.n .i64 (0:Int),.n .i64 a]] .live]]):=by
 unfold y1
 exact .az fun ak R =>
  .ret (hg [(ad 1),(ad 4),(ad 1),.bj [] [] (bR [0,3,4]),(Ge fG ak).fW,(ad 5)] [3] [.box [.id,.id,.id]] (.ax (T7 R)))
def q6 (b1:List Int)(cx el:Int):Option (Int×Int×Int) :=
 if (decide (cx<(len_ eU8 b1)))=true then
  if 0≤cx∧cx<b1.length then
  b1[cx.toNat]? >>= fun aU =>
  some (U (((BitVec.ofInt (IntKind.bits .i64) (U ((U (((BitVec.ofInt (IntKind.bits .i64) (U (((BitVec.ofInt (IntKind.bits .i64) ((U ((U (el*(6364136223846793005:Int)))+(1442695040888963407:Int))).fdiv (2 ^ (min (33:Int).toNat (IntKind.bits .i64)))) ^^^ BitVec.ofInt (IntKind.bits .i64) ((U ((U (el*(6364136223846793005:Int)))+(1442695040888963407:Int))).fdiv (2 ^ (min (45:Int).toNat (IntKind.bits .i64))))).toNat:Int))) &&& BitVec.ofInt (IntKind.bits .i64) (255:Int)).toNat:Int)))+(IntKind.wrap .i64 aU))) &&& BitVec.ofInt (IntKind.bits .i64) (255:Int)).toNat:Int)),U (cx+(1:Int)),U ((U (el*(6364136223846793005:Int)))+(1442695040888963407:Int)))
  else none
 else
  some (U (((BitVec.ofInt (IntKind.bits .i64) (U (((BitVec.ofInt (IntKind.bits .i64) ((U ((U (el*(6364136223846793005:Int)))+(1442695040888963407:Int))).fdiv (2 ^ (min (33:Int).toNat (IntKind.bits .i64)))) ^^^ BitVec.ofInt (IntKind.bits .i64) ((U ((U (el*(6364136223846793005:Int)))+(1442695040888963407:Int))).fdiv (2 ^ (min (45:Int).toNat (IntKind.bits .i64))))).toNat:Int))) &&& BitVec.ofInt (IntKind.bits .i64) (255:Int)).toNat:Int)),cx,U ((U (el*(6364136223846793005:Int)))+(1442695040888963407:Int)))
theorem wx {b1:List Int}{cx el:Int}:bQ (q6 b1 cx el) (fun a=>Con bo 61 [.ref 0 0 0 0] [[aq.mk 3 [[.isl 1 (b1.map eU8),.n .i64 cx,.n .i64 el]] .live]] (.n .i64 a.1) [[aq.mk 3 [[.isl 1 (b1.map eU8),.n .i64 a.2.1,.n .i64 a.2.2]] .live]]):=by
 unfold q6
 exact (let t1:List cw:=[(ad 1),(ad 10),(ad 13),(ad 10)];
  have a6:=((.aC (by decide:(0:Int)≤33) (by decide:(0:Int)≤45)):cL _);
  .ite (fun o =>
  .bn fun R =>
  .az fun aU aA =>
  .ret (hg (t1.append [.ao true,.aH (bH 10 (.cB (eU8 aU)) 4),(ad 9),(ad 2)]) [0] [.box [.id,.id,.id]] (a6.aZ (.c8 o R.1 (eE eU8 R.2) (cD eU8 aA)))))
  (fun o =>
  .ret (hg (t1.append [.ao false,(ad 2)]) [0] [.box [.id,.id,.id]] (a6.aZ (.ax o)))))
def jY (a0:Int)(b1:List Int)(cx el:Int):Option (Int×Int×Int) :=
 if (decide (a0≤(0:Int)))=true then
  some (0,cx,el)
 else
  if (decide (a0≤(256:Int)))=true then
   q6 b1 cx el >>= fun bk =>
   if a0≠0 then
   some (bk.1.tmod a0,bk.2.1,bk.2.2)
   else none
  else
   q6 b1 cx el >>= fun bk =>
   q6 b1 bk.2.1 bk.2.2 >>= fun bh =>
   q6 b1 bh.2.1 bh.2.2 >>= fun bK =>
   q6 b1 bK.2.1 bK.2.2 >>= fun bi =>
   if a0≠0 then
   some ((U ((U ((U ((U (bk.1*(16777216:Int)))+(U (bh.1*(65536:Int)))))+(U (bK.1*(256:Int)))))+bi.1)).tmod a0,bi.2.1,bi.2.2)
   else none
theorem kR {a0:Int}{b1:List Int}{cx el:Int}:bQ (jY a0 b1 cx el) (fun a=>Con bo 32 [.ref 0 0 0 0,.n .i64 a0] [[aq.mk 3 [[.isl 1 (b1.map eU8),.n .i64 cx,.n .i64 el]] .live]] (.n .i64 a.1) [[aq.mk 3 [[.isl 1 (b1.map eU8),.n .i64 a.2.1,.n .i64 a.2.2]] .live]]):=by
 unfold jY
 exact .ite (fun o =>
  .ret (hg [(ad 1),(ad 2),.ao true,(ad 1)] [0] [.box [.id,.id,.id]] (.ax o)))
  (fun o =>
  (let t1:List cw:=[(ad 1),(ad 2),.ao false,(ad 2)];
  .ite (fun R =>
  .az fun bk aA =>
  .bn fun aF =>
  .ret (hg (t1.append [.ao true,.aH (bH 1 (.call {aM:=[.row 0],cu:=[.box [.id,.id,.id]],ac:=[ii],r:= .n .i64 bk.1,db:=[[aq.mk 3 [[.isl 1 (b1.map eU8),.n .i64 bk.2.1,.n .i64 bk.2.2]] .live]],eo:=ii,e4:=[.box [.id,.id,.id]],dd:=[0],c9:=false}) 3)]) [0] [.box [.id,.id,.id]] (.c8 o R (wx bk aA) aF)))
  (fun R =>
  .az fun bk aA =>
  .az fun bh br =>
  .az fun bK bx =>
  .az fun bi dO =>
  .bn fun d2 =>
  .ret (hg (t1.append [.ao false,.aH (bH 1 (.call {aM:=[.row 0],cu:=[.box [.id,.id,.id]],ac:=[ii],r:= .n .i64 bk.1,db:=[[aq.mk 3 [[.isl 1 (b1.map eU8),.n .i64 bk.2.1,.n .i64 bk.2.2]] .live]],eo:=ii,e4:=[.box [.id,.id,.id]],dd:=[0],c9:=false}) 1),.aH (bH 1 (.call {aM:=[.row 0],cu:=[.box [.id,.id,.id]],ac:=[ii],r:= .n .i64 bh.1,db:=[[aq.mk 3 [[.isl 1 (b1.map eU8),.n .i64 bh.2.1,.n .i64 bh.2.2]] .live]],eo:=ii,e4:=[.box [.id,.id,.id]],dd:=[0],c9:=false}) 1),.aH (bH 1 (.call {aM:=[.row 0],cu:=[.box [.id,.id,.id]],ac:=[ii],r:= .n .i64 bK.1,db:=[[aq.mk 3 [[.isl 1 (b1.map eU8),.n .i64 bK.2.1,.n .i64 bK.2.2]] .live]],eo:=ii,e4:=[.box [.id,.id,.id]],dd:=[0],c9:=false}) 1),.aH (bH 1 (.call {aM:=[.row 0],cu:=[.box [.id,.id,.id]],ac:=[ii],r:= .n .i64 bi.1,db:=[[aq.mk 3 [[.isl 1 (b1.map eU8),.n .i64 bi.2.1,.n .i64 bi.2.2]] .live]],eo:=ii,e4:=[.box [.id,.id,.id]],dd:=[0],c9:=false}) 1),(ad 13)]) [0] [.box [.id,.id,.id]] (.e2 o R (wx bk aA) (wx bh br) (wx bK bx) (wx bi dO) d2)))))
def wJ (a0:Int)(b1:List Int)(cx el:Int):Option (Bool×Int×Int) :=
 jY a0 b1 cx el >>= fun ak =>
 some ((ak.1 == (0:Int)),ak.2.1,ak.2.2)
theorem Cc {a0:Int}{b1:List Int}{cx el:Int}:bQ (wJ a0 b1 cx el) (fun a=>Con bo 77 [.ref 0 0 0 0,.n .i64 a0] [[aq.mk 3 [[.isl 1 (b1.map eU8),.n .i64 cx,.n .i64 el]] .live]] (.b a.1) [[aq.mk 3 [[.isl 1 (b1.map eU8),.n .i64 a.2.1,.n .i64 a.2.2]] .live]]):=by
 unfold wJ
 exact .az fun ak R =>
  .ret (hg [(ad 1),.aH (bH 2 (.call {aM:=[.row 0],cu:=[.box [.id,.id,.id]],ac:=[ii,ii],r:= .n .i64 ak.1,db:=[[aq.mk 3 [[.isl 1 (b1.map eU8),.n .i64 ak.2.1,.n .i64 ak.2.2]] .live]],eo:=ii,e4:=[.box [.id,.id,.id]],dd:=[0],c9:=false}) 2)] [0] [.box [.id,.id,.id]] (.ax (kR ak R)))
def wK (dS b1:List Int)(cx el:Int):Option (Int×Int×Int) :=
 jY (len_ J dS) b1 cx el >>= fun ak =>
 if 0≤ak.1∧ak.1<dS.length then
 dS[ak.1.toNat]? >>= fun fO =>
 some (fO,ak.2.1,ak.2.2)
 else none
theorem Hb {dS b1:List Int}{cx el:Int}:bQ (wK dS b1 cx el) (fun a=>Con bo 98 [.ref 0 0 0 0,.isl 1 (dS.map J)] [[aq.mk 3 [[.isl 1 (b1.map eU8),.n .i64 cx,.n .i64 el]] .live]] (.n .i64 a.1) [[aq.mk 3 [[.isl 1 (b1.map eU8),.n .i64 a.2.1,.n .i64 a.2.2]] .live]]):=by
 unfold wK
 exact .az fun ak R =>
  .bn fun ab =>
  .az fun fO aF =>
  .ret (hg [(ad 1),.aH (ap 4 (ar (.call {aM:=[.row 0],cu:=[.box [.id,.id,.id]],ac:=[ii,ii],r:= .n .i64 ak.1,db:=[[aq.mk 3 [[.isl 1 (b1.map eU8),.n .i64 ak.2.1,.n .i64 ak.2.2]] .live]],eo:=ii,e4:=[.box [.id,.id,.id]],dd:=[0],c9:=false}) (bH 1 (.cB (J fO)) 1)))] [0] [.box [.id,.id,.id]] (.c8 (kR ak R) ab.1 (eE J ab.2) (cD J aF)))
def F6 (aT:List Int)(an:List bA):(Int×Int×Int×(List b4))→S:=fun (a0,aG,b7,a4)=>eD [(0,.ref 0 0 0 0),(2,.ref 1 0 0 0),(3,.ref 2 0 0 0),(4,.n .i64 a0)] [[aq.mk 3 [[.isl 1 (aT.map eU8),.n .i64 aG,.n .i64 b7]] .live],[aq.mk 2 [[.d7,.d7]] .live],[aq.mk 2 [[.bw 3 0 0 an.length,.bw 4 0 0 a4.length]] .live],(av 4 dK an),(av 3 d5 a4)]
def Gf (aT:List Int)(an:List bA):(Int×Int×(List b4))→eJ
 | a=>⟨some 0,[(2,.ref 1 0 0 0),(3,.ref 2 0 0 0)],[[aq.mk 3 [[.isl 1 (aT.map eU8),.n .i64 a.1,.n .i64 a.2.1]] .live],[aq.mk 2 [[.d7,.d7]] .live],[aq.mk 2 [[.bw 3 0 0 an.length,.bw 4 0 0 a.2.2.length]] .live],(av 4 dK an),(av 3 d5 a.2.2)]⟩
def vV (aT:List Int)(an:List bA)(a0 aG b7:Int)(a4:List b4):Option ((Int×Int×Int×(List b4))⊕(Int×Int×(List b4))) :=
 if (decide ((0:Int)<a0))=true then
  jY 2 aT aG b7 >>= fun bm =>
  jY 2 aT bm.2.1 bm.2.2 >>= fun aX =>
  jY 3 aT aX.2.1 aX.2.2 >>= fun cj =>
  if (a4++([(⟨bm.1,U ((2:Int)+aX.1),U ((1:Int)+cj.1)⟩:b4)]:List b4)).length*24≤140737488355328 then
  some (.inl (U (a0-(1:Int)),cj.2.1,cj.2.2,a4++([(⟨bm.1,U ((2:Int)+aX.1),U ((1:Int)+cj.1)⟩:b4)]:List b4)))
  else none
 else
  some (.inr (aG,b7,a4))
def Mv (aT:List Int)(an:List bA)(a0 aG b7:Int)(a4:List b4):Option (Int×Int×(List b4)):=iter (fun w:Int×Int×Int×(List b4)=>vV aT an w.1 w.2.1 w.2.2.1 w.2.2.2) (a0,aG,b7,a4)
theorem Tk {aT:List Int}{an:List bA}{a0 aG b7:Int}{a4:List b4}:bQ (vV aT an a0 aG b7 a4) (fj bo 56 1 78 [1,1,1,1,0,1,0,0] (F6 aT an (a0,aG,b7,a4)) (F6 aT an) (Gf aT an)):=by
 unfold vV
 exact .ite (fun o =>
  .az fun bm ab =>
  .az fun aX aF =>
  .az fun cj bU =>
  .bn fun bx =>
  .ret (let aW:=(a4++([(⟨bm.1,U ((2:Int)+aX.1),U ((1:Int)+cj.1)⟩:b4)]:List b4));bS [(ad 2),.ao true,.aH (ap 3 (ar (.call {aM:=[.row 0],cu:=[.box [.id,.id,.id]],ac:=[ii,ii],r:= .n .i64 bm.1,db:=[[aq.mk 3 [[.isl 1 (aT.map eU8),.n .i64 bm.2.1,.n .i64 bm.2.2]] .live]],eo:=ii,e4:=[.box [.id,.id,.id]],dd:=[0],c9:=false}) (ap 1 (ar (.call {aM:=[.row 0],cu:=[.box [.id,.id,.id]],ac:=[ii,ii],r:= .n .i64 aX.1,db:=[[aq.mk 3 [[.isl 1 (aT.map eU8),.n .i64 aX.2.1,.n .i64 aX.2.2]] .live]],eo:=ii,e4:=[.box [.id,.id,.id]],dd:=[0],c9:=false}) (ap 2 (ar (.call {aM:=[.row 0],cu:=[.box [.id,.id,.id]],ac:=[ii,ii],r:= .n .i64 cj.1,db:=[[aq.mk 3 [[.isl 1 (aT.map eU8),.n .i64 cj.2.1,.n .i64 cj.2.2]] .live]],eo:=ii,e4:=[.box [.id,.id,.id]],dd:=[0],c9:=false}) (bH 3 (.aZ (aW.length)) 2))))))),(ad 3),.bj [0,1,2,3,19] [.box [.id,.id,.id],.box [.id,.id],.box [.id,.id],.pure,.dw (av 3 d5 aW)] (bR [0,2,3,4])] (.bt o (kR bm ab) (kR aX aF) (kR cj bU) (k6 d5 (⟨bm.1,U ((2:Int)+aX.1),U ((1:Int)+cj.1)⟩:b4)) (o4 d5 a4) (nt d5 a4 (⟨bm.1,U ((2:Int)+aX.1),U ((1:Int)+cj.1)⟩:b4)) bx (.bZ (aE 4 .live tL an) (d4 3 .live (o5 d5 a4 (⟨bm.1,U ((2:Int)+aX.1),U ((1:Int)+cj.1)⟩:b4))) (aE 3 .live tI aW)))))
  (fun o =>
  .ret (bS [(ad 2),.ao false,.bj [0,1,2,3,4] [.box [.id,.id,.id],.box [.id,.id],.box [.id,.id],.pure,.pure] (bR [2,3])] (.bZ o (aE 4 .live tL an) (aE 3 .live tI a4))))
theorem T8 {aT:List Int}{an:List bA}{a0 aG b7:Int}{a4:List b4}{r} (h:Mv aT an a0 aG b7 a4=some r):fk bo 56 1 78 [1,1,1,1,0,1,0,0] (F6 aT an) (Gf aT an) (a0,aG,b7,a4) r:=fl (fun _=>Tk) h
def y2 (b1:List Int)(cx el:Int):Option ((List bA)×(List b4)×Int×Int) :=
 jY 3 b1 cx el >>= fun ak =>
 jY 3 b1 ak.2.1 ak.2.2 >>= fun bk =>
 jY 2 b1 bk.2.1 bk.2.2 >>= fun bh =>
 jY 3 b1 bh.2.1 bh.2.2 >>= fun bK =>
 jY 2 b1 bK.2.1 bK.2.2 >>= fun bi =>
 jY 3 b1 bi.2.1 bi.2.2 >>= fun c0 =>
 wK ([1,2,3]:List Int) b1 c0.2.1 c0.2.2 >>= fun dv =>
 jY 3 b1 dv.2.1 dv.2.2 >>= fun eX =>
 Mv b1 ([(⟨(⟨#[97]⟩:ByteArray),(-2),ak.1,true⟩:bA),(⟨(⟨#[98]⟩:ByteArray),6,bk.1,true⟩:bA),(⟨(⟨#[99]⟩:ByteArray),bh.1,U ((-1:Int)-bK.1),false⟩:bA),(⟨(⟨#[100]⟩:ByteArray),U ((3:Int)+bi.1),U ((-1:Int)-c0.1),false⟩:bA)]:List bA) eX.1 eX.2.1 eX.2.2 ([(⟨0,2,1⟩:b4),(⟨2,3,dv.1⟩:b4),(⟨3,1,1⟩:b4)]:List b4) >>= fun i7 =>
 some (([(⟨(⟨#[97]⟩:ByteArray),(-2),ak.1,true⟩:bA),(⟨(⟨#[98]⟩:ByteArray),6,bk.1,true⟩:bA),(⟨(⟨#[99]⟩:ByteArray),bh.1,U ((-1:Int)-bK.1),false⟩:bA),(⟨(⟨#[100]⟩:ByteArray),U ((3:Int)+bi.1),U ((-1:Int)-c0.1),false⟩:bA)]:List bA),i7.2.2,i7.1,i7.2.1)
theorem UD {b1:List Int}{cx el:Int}:bQ (y2 b1 cx el) (fun a=>Con bo 78 [.ref 0 0 0 0] [[aq.mk 3 [[.isl 1 (b1.map eU8),.n .i64 cx,.n .i64 el]] .live]] (.agg [.isl 4 (a.1.map dK),.isl 3 (a.2.1.map d5)]) [[aq.mk 3 [[.isl 1 (b1.map eU8),.n .i64 a.2.2.1,.n .i64 a.2.2.2]] .live]]):=by
 unfold y2
 exact .az fun ak R =>
  .az fun bk aA =>
  .az fun bh br =>
  .az fun bK bx =>
  .az fun bi dO =>
  .az fun c0 ev =>
  .az fun dv eT =>
  .az fun eX h5 =>
  .az fun i7 j6 =>
  .ret (hg [(ad 1),(ad 3),.aH (ap 1 (ar (.call {aM:=[.row 0],cu:=[.box [.id,.id,.id]],ac:=[ii,ii],r:= .n .i64 ak.1,db:=[[aq.mk 3 [[.isl 1 (b1.map eU8),.n .i64 ak.2.1,.n .i64 ak.2.2]] .live]],eo:=ii,e4:=[.box [.id,.id,.id]],dd:=[0],c9:=false}) (ap 2 (ar (.call {aM:=[.row 0],cu:=[.box [.id,.id,.id]],ac:=[ii,ii],r:= .n .i64 bk.1,db:=[[aq.mk 3 [[.isl 1 (b1.map eU8),.n .i64 bk.2.1,.n .i64 bk.2.2]] .live]],eo:=ii,e4:=[.box [.id,.id,.id]],dd:=[0],c9:=false}) (ap 2 (ar (.call {aM:=[.row 0],cu:=[.box [.id,.id,.id]],ac:=[ii,ii],r:= .n .i64 bh.1,db:=[[aq.mk 3 [[.isl 1 (b1.map eU8),.n .i64 bh.2.1,.n .i64 bh.2.2]] .live]],eo:=ii,e4:=[.box [.id,.id,.id]],dd:=[0],c9:=false}) (ap 1 (ar (.call {aM:=[.row 0],cu:=[.box [.id,.id,.id]],ac:=[ii,ii],r:= .n .i64 bK.1,db:=[[aq.mk 3 [[.isl 1 (b1.map eU8),.n .i64 bK.2.1,.n .i64 bK.2.2]] .live]],eo:=ii,e4:=[.box [.id,.id,.id]],dd:=[0],c9:=false}) (ap 3 (ar (.call {aM:=[.row 0],cu:=[.box [.id,.id,.id]],ac:=[ii,ii],r:= .n .i64 bi.1,db:=[[aq.mk 3 [[.isl 1 (b1.map eU8),.n .i64 bi.2.1,.n .i64 bi.2.2]] .live]],eo:=ii,e4:=[.box [.id,.id,.id]],dd:=[0],c9:=false}) (bH 2 (.call {aM:=[.row 0],cu:=[.box [.id,.id,.id]],ac:=[ii,ii],r:= .n .i64 c0.1,db:=[[aq.mk 3 [[.isl 1 (b1.map eU8),.n .i64 c0.2.1,.n .i64 c0.2.2]] .live]],eo:=ii,e4:=[.box [.id,.id,.id]],dd:=[0],c9:=false}) 5))))))))))),.aH (bH 3 (.va 29 (.call {aM:=[.row 0],cu:=[.box [.id,.id,.id]],ac:=[ii,.bF (.b9 (.e5 (([1,2,3]:List Int).map J)))],r:= .n .i64 dv.1,db:=[[aq.mk 3 [[.isl 1 (b1.map eU8),.n .i64 dv.2.1,.n .i64 dv.2.2]] .live]],eo:=ii,e4:=[.box [.id,.id,.id]],dd:=[0,29],c9:=false})) 5),.aH (bH 1 (.call {aM:=[.row 0],cu:=[.box [.id,.id,.id]],ac:=[ii,ii],r:= .n .i64 eX.1,db:=[[aq.mk 3 [[.isl 1 (b1.map eU8),.n .i64 eX.2.1,.n .i64 eX.2.2]] .live]],eo:=ii,e4:=[.box [.id,.id,.id]],dd:=[0],c9:=false}) 1),.bj [0,1,3,24,33] [.box [.id,.id,.id],.box [.id,.id],.box [.len (([(⟨(⟨#[97]⟩:ByteArray),(-2),ak.1,true⟩:bA),(⟨(⟨#[98]⟩:ByteArray),6,bk.1,true⟩:bA),(⟨(⟨#[99]⟩:ByteArray),bh.1,U ((-1:Int)-bK.1),false⟩:bA),(⟨(⟨#[100]⟩:ByteArray),U ((3:Int)+bi.1),U ((-1:Int)-c0.1),false⟩:bA)]:List bA).length),.len (([(⟨0,2,1⟩:b4),(⟨2,3,dv.1⟩:b4),(⟨3,1,1⟩:b4)]:List b4).length)],.dw (av 4 dK ([(⟨(⟨#[97]⟩:ByteArray),(-2),ak.1,true⟩:bA),(⟨(⟨#[98]⟩:ByteArray),6,bk.1,true⟩:bA),(⟨(⟨#[99]⟩:ByteArray),bh.1,U ((-1:Int)-bK.1),false⟩:bA),(⟨(⟨#[100]⟩:ByteArray),U ((3:Int)+bi.1),U ((-1:Int)-c0.1),false⟩:bA)]:List bA)),.dw (av 3 d5 ([(⟨0,2,1⟩:b4),(⟨2,3,dv.1⟩:b4),(⟨3,1,1⟩:b4)]:List b4))] (bR [0,2,3,4]),(Gf b1 ([(⟨(⟨#[97]⟩:ByteArray),(-2),ak.1,true⟩:bA),(⟨(⟨#[98]⟩:ByteArray),6,bk.1,true⟩:bA),(⟨(⟨#[99]⟩:ByteArray),bh.1,U ((-1:Int)-bK.1),false⟩:bA),(⟨(⟨#[100]⟩:ByteArray),U ((3:Int)+bi.1),U ((-1:Int)-c0.1),false⟩:bA)]:List bA) i7).fW,(ad 2)] [0] [.box [.id,.id,.id]] (.bt (kR ak R) (kR bk aA) (kR bh br) (kR bK bx) (kR bi dO) (kR c0 ev) (lL (show [[.n .i64 (1:Int)],[.n .i64 (2:Int)],[.n .i64 (3:Int)]]=(([1,2,3]:List Int)).map J from rfl) (show 3=([1,2,3]:List Int).length from rfl)) (n6 (show [[.n .i64 (1:Int)],[.n .i64 (2:Int)],[.n .i64 (3:Int)]]=(([1,2,3]:List Int)).map J from rfl) (show 3=([1,2,3]:List Int).length from rfl)) (.bt (eF aD ([1,2,3]:List Int)) (Hb dv eT) (kR eX h5) (show 4=([(⟨(⟨#[97]⟩:ByteArray),(-2),ak.1,true⟩:bA),(⟨(⟨#[98]⟩:ByteArray),6,bk.1,true⟩:bA),(⟨(⟨#[99]⟩:ByteArray),bh.1,U ((-1:Int)-bK.1),false⟩:bA),(⟨(⟨#[100]⟩:ByteArray),U ((3:Int)+bi.1),U ((-1:Int)-c0.1),false⟩:bA)]:List bA).length from rfl) (show 3=([(⟨0,2,1⟩:b4),(⟨2,3,dv.1⟩:b4),(⟨3,1,1⟩:b4)]:List b4).length from rfl) (d4 4 .live (show [[.s (⟨#[97]⟩:ByteArray),.n .i64 (-2:Int),.n .i64 ak.1,.b true],[.s (⟨#[98]⟩:ByteArray),.n .i64 (6:Int),.n .i64 bk.1,.b true],[.s (⟨#[99]⟩:ByteArray),.n .i64 bh.1,.n .i64 (U ((-1:Int)-bK.1)),.b false],[.s (⟨#[100]⟩:ByteArray),.n .i64 (U ((3:Int)+bi.1)),.n .i64 (U ((-1:Int)-c0.1)),.b false]]=(([(⟨(⟨#[97]⟩:ByteArray),(-2),ak.1,true⟩:bA),(⟨(⟨#[98]⟩:ByteArray),6,bk.1,true⟩:bA),(⟨(⟨#[99]⟩:ByteArray),bh.1,U ((-1:Int)-bK.1),false⟩:bA),(⟨(⟨#[100]⟩:ByteArray),U ((3:Int)+bi.1),U ((-1:Int)-c0.1),false⟩:bA)]:List bA)).map dK from rfl)) (aE 4 .live tL ([(⟨(⟨#[97]⟩:ByteArray),(-2),ak.1,true⟩:bA),(⟨(⟨#[98]⟩:ByteArray),6,bk.1,true⟩:bA),(⟨(⟨#[99]⟩:ByteArray),bh.1,U ((-1:Int)-bK.1),false⟩:bA),(⟨(⟨#[100]⟩:ByteArray),U ((3:Int)+bi.1),U ((-1:Int)-c0.1),false⟩:bA)]:List bA)) (d4 3 .live (show [[.n .i64 (0:Int),.n .i64 (2:Int),.n .i64 (1:Int)],[.n .i64 (2:Int),.n .i64 (3:Int),.n .i64 dv.1],[.n .i64 (3:Int),.n .i64 (1:Int),.n .i64 (1:Int)]]=(([(⟨0,2,1⟩:b4),(⟨2,3,dv.1⟩:b4),(⟨3,1,1⟩:b4)]:List b4)).map d5 from rfl)) (.hh (aE 3 .live tI ([(⟨0,2,1⟩:b4),(⟨2,3,dv.1⟩:b4),(⟨3,1,1⟩:b4)]:List b4)) (T8 j6) (ia dK ([(⟨(⟨#[97]⟩:ByteArray),(-2),ak.1,true⟩:bA),(⟨(⟨#[98]⟩:ByteArray),6,bk.1,true⟩:bA),(⟨(⟨#[99]⟩:ByteArray),bh.1,U ((-1:Int)-bK.1),false⟩:bA),(⟨(⟨#[100]⟩:ByteArray),U ((3:Int)+bi.1),U ((-1:Int)-c0.1),false⟩:bA)]:List bA)) (ht dK ([(⟨(⟨#[97]⟩:ByteArray),(-2),ak.1,true⟩:bA),(⟨(⟨#[98]⟩:ByteArray),6,bk.1,true⟩:bA),(⟨(⟨#[99]⟩:ByteArray),bh.1,U ((-1:Int)-bK.1),false⟩:bA),(⟨(⟨#[100]⟩:ByteArray),U ((3:Int)+bi.1),U ((-1:Int)-c0.1),false⟩:bA)]:List bA)) (eF tL ([(⟨(⟨#[97]⟩:ByteArray),(-2),ak.1,true⟩:bA),(⟨(⟨#[98]⟩:ByteArray),6,bk.1,true⟩:bA),(⟨(⟨#[99]⟩:ByteArray),bh.1,U ((-1:Int)-bK.1),false⟩:bA),(⟨(⟨#[100]⟩:ByteArray),U ((3:Int)+bi.1),U ((-1:Int)-c0.1),false⟩:bA)]:List bA)) (ia d5 i7.2.2) (ht d5 i7.2.2) (eF tI i7.2.2)))) (.bF (.agg [.e5 (([(⟨(⟨#[97]⟩:ByteArray),(-2),ak.1,true⟩:bA),(⟨(⟨#[98]⟩:ByteArray),6,bk.1,true⟩:bA),(⟨(⟨#[99]⟩:ByteArray),bh.1,U ((-1:Int)-bK.1),false⟩:bA),(⟨(⟨#[100]⟩:ByteArray),U ((3:Int)+bi.1),U ((-1:Int)-c0.1),false⟩:bA)]:List bA).map dK),.e5 (i7.2.2.map d5)])))
def yY (b1:List Int)(cx el:Int):Option ((List bA)×(List b4)×Int×Int) :=
 jY 4 b1 cx el >>= fun ak =>
 jY 3 b1 ak.2.1 ak.2.2 >>= fun bk =>
 jY 4 b1 bk.2.1 bk.2.2 >>= fun bh =>
 jY 3 b1 bh.2.1 bh.2.2 >>= fun bK =>
 jY 4 b1 bK.2.1 bK.2.2 >>= fun bi =>
 jY 4 b1 bi.2.1 bi.2.2 >>= fun c0 =>
 wK ([1,1,1,3]:List Int) b1 c0.2.1 c0.2.2 >>= fun dv =>
 wJ 2 b1 dv.2.1 dv.2.2 >>= fun eX =>
 if eX.1=true then
  jY 5 b1 eX.2.1 eX.2.2 >>= fun eZ =>
  if (([(⟨(⟨#[97]⟩:ByteArray),U ((-1:Int)-ak.1),bk.1,true⟩:bA),(⟨(⟨#[98]⟩:ByteArray),U ((3:Int)+bh.1),bK.1,true⟩:bA),(⟨(⟨#[99]⟩:ByteArray),U (bi.1-(1:Int)),U ((-1:Int)-c0.1),false⟩:bA)]:List bA)++([(⟨(⟨#[100]⟩:ByteArray),U (eZ.1-(1:Int)),(-7),true⟩:bA)]:List bA)).length*40≤140737488355328 then
  wK ([1,2,3]:List Int) b1 eZ.2.1 eZ.2.2 >>= fun jw =>
  if (([(⟨0,2,1⟩:b4),(⟨1,2,dv.1⟩:b4)]:List b4)++([(⟨3,2,jw.1⟩:b4)]:List b4)).length*24≤140737488355328 then
  some (([(⟨(⟨#[97]⟩:ByteArray),U ((-1:Int)-ak.1),bk.1,true⟩:bA),(⟨(⟨#[98]⟩:ByteArray),U ((3:Int)+bh.1),bK.1,true⟩:bA),(⟨(⟨#[99]⟩:ByteArray),U (bi.1-(1:Int)),U ((-1:Int)-c0.1),false⟩:bA)]:List bA)++([(⟨(⟨#[100]⟩:ByteArray),U (eZ.1-(1:Int)),(-7),true⟩:bA)]:List bA),([(⟨0,2,1⟩:b4),(⟨1,2,dv.1⟩:b4)]:List b4)++([(⟨3,2,jw.1⟩:b4)]:List b4),jw.2.1,jw.2.2)
  else none
  else none
 else
  some (([(⟨(⟨#[97]⟩:ByteArray),U ((-1:Int)-ak.1),bk.1,true⟩:bA),(⟨(⟨#[98]⟩:ByteArray),U ((3:Int)+bh.1),bK.1,true⟩:bA),(⟨(⟨#[99]⟩:ByteArray),U (bi.1-(1:Int)),U ((-1:Int)-c0.1),false⟩:bA)]:List bA),([(⟨0,2,1⟩:b4),(⟨1,2,dv.1⟩:b4)]:List b4),eX.2.1,eX.2.2)
set_option maxHeartbeats 4000000 in
theorem Ut {b1:List Int}{cx el:Int}:bQ (yY b1 cx el) (fun a=>Con bo 79 [.ref 0 0 0 0] [[aq.mk 3 [[.isl 1 (b1.map eU8),.n .i64 cx,.n .i64 el]] .live]] (.agg [.isl 4 (a.1.map dK),.isl 3 (a.2.1.map d5)]) [[aq.mk 3 [[.isl 1 (b1.map eU8),.n .i64 a.2.2.1,.n .i64 a.2.2.2]] .live]]):=by
 unfold yY
 exact .az fun ak R =>
  .az fun bk aA =>
  .az fun bh br =>
  .az fun bK bx =>
  .az fun bi dO =>
  .az fun c0 ev =>
  .az fun dv eT =>
  .az fun eX h5 =>
  (let t1:List cw:=[(ad 1),(ad 3),.aH (ap 1 (ar (.call {aM:=[.row 0],cu:=[.box [.id,.id,.id]],ac:=[ii,ii],r:= .n .i64 ak.1,db:=[[aq.mk 3 [[.isl 1 (b1.map eU8),.n .i64 ak.2.1,.n .i64 ak.2.2]] .live]],eo:=ii,e4:=[.box [.id,.id,.id]],dd:=[0],c9:=false}) (ap 2 (ar (.call {aM:=[.row 0],cu:=[.box [.id,.id,.id]],ac:=[ii,ii],r:= .n .i64 bk.1,db:=[[aq.mk 3 [[.isl 1 (b1.map eU8),.n .i64 bk.2.1,.n .i64 bk.2.2]] .live]],eo:=ii,e4:=[.box [.id,.id,.id]],dd:=[0],c9:=false}) (ap 2 (ar (.call {aM:=[.row 0],cu:=[.box [.id,.id,.id]],ac:=[ii,ii],r:= .n .i64 bh.1,db:=[[aq.mk 3 [[.isl 1 (b1.map eU8),.n .i64 bh.2.1,.n .i64 bh.2.2]] .live]],eo:=ii,e4:=[.box [.id,.id,.id]],dd:=[0],c9:=false}) (ap 2 (ar (.call {aM:=[.row 0],cu:=[.box [.id,.id,.id]],ac:=[ii,ii],r:= .n .i64 bK.1,db:=[[aq.mk 3 [[.isl 1 (b1.map eU8),.n .i64 bK.2.1,.n .i64 bK.2.2]] .live]],eo:=ii,e4:=[.box [.id,.id,.id]],dd:=[0],c9:=false}) (ap 2 (ar (.call {aM:=[.row 0],cu:=[.box [.id,.id,.id]],ac:=[ii,ii],r:= .n .i64 bi.1,db:=[[aq.mk 3 [[.isl 1 (b1.map eU8),.n .i64 bi.2.1,.n .i64 bi.2.2]] .live]],eo:=ii,e4:=[.box [.id,.id,.id]],dd:=[0],c9:=false}) (bH 2 (.call {aM:=[.row 0],cu:=[.box [.id,.id,.id]],ac:=[ii,ii],r:= .n .i64 c0.1,db:=[[aq.mk 3 [[.isl 1 (b1.map eU8),.n .i64 c0.2.1,.n .i64 c0.2.2]] .live]],eo:=ii,e4:=[.box [.id,.id,.id]],dd:=[0],c9:=false}) 5))))))))))),.aH (bH 3 (.va 29 (.call {aM:=[.row 0],cu:=[.box [.id,.id,.id]],ac:=[ii,.bF (.b9 (.e5 (([1,1,1,3]:List Int).map J)))],r:= .n .i64 dv.1,db:=[[aq.mk 3 [[.isl 1 (b1.map eU8),.n .i64 dv.2.1,.n .i64 dv.2.2]] .live]],eo:=ii,e4:=[.box [.id,.id,.id]],dd:=[0,29],c9:=false})) 4),.aH (ap 1 (ar (.call {aM:=[.row 0],cu:=[.box [.id,.id,.id]],ac:=[ii,ii],r:= .b eX.1,db:=[[aq.mk 3 [[.isl 1 (b1.map eU8),.n .i64 eX.2.1,.n .i64 eX.2.2]] .live]],eo:=ii,e4:=[.box [.id,.id,.id]],dd:=[0],c9:=false}) []))];
  have a6:=((.bt (kR ak R) (kR bk aA) (kR bh br) (kR bK bx) (kR bi dO) (kR c0 ev) (lL (show [[.n .i64 (1:Int)],[.n .i64 (1:Int)],[.n .i64 (1:Int)],[.n .i64 (3:Int)]]=(([1,1,1,3]:List Int)).map J from rfl) (show 4=([1,1,1,3]:List Int).length from rfl)) (n6 (show [[.n .i64 (1:Int)],[.n .i64 (1:Int)],[.n .i64 (1:Int)],[.n .i64 (3:Int)]]=(([1,1,1,3]:List Int)).map J from rfl) (show 4=([1,1,1,3]:List Int).length from rfl)) (.bZ (eF aD ([1,1,1,3]:List Int)) (Hb dv eT) (Cc eX h5))):cL _);
  .ite (fun gh =>
  .az fun eZ gG =>
  .bn fun nS =>
  .az fun jw h6 =>
  .bn fun lI =>
  .ret (let aW:=(([(⟨(⟨#[97]⟩:ByteArray),U ((-1:Int)-ak.1),bk.1,true⟩:bA),(⟨(⟨#[98]⟩:ByteArray),U ((3:Int)+bh.1),bK.1,true⟩:bA),(⟨(⟨#[99]⟩:ByteArray),U (bi.1-(1:Int)),U ((-1:Int)-c0.1),false⟩:bA)]:List bA)++([(⟨(⟨#[100]⟩:ByteArray),U (eZ.1-(1:Int)),(-7),true⟩:bA)]:List bA));let bl:=(([(⟨0,2,1⟩:b4),(⟨1,2,dv.1⟩:b4)]:List b4)++([(⟨3,2,jw.1⟩:b4)]:List b4));let cc:=(vg dK (⟨(⟨#[100]⟩:ByteArray),U (eZ.1-(1:Int)),(-7),true⟩:bA));let cM:=(vg d5 (⟨3,2,jw.1⟩:b4));hg (t1.append [.ao true,.aH (ap 3 (ar (.call {aM:=[.row 0],cu:=[.box [.id,.id,.id]],ac:=[ii,ii],r:= .n .i64 eZ.1,db:=[[aq.mk 3 [[.isl 1 (b1.map eU8),.n .i64 eZ.2.1,.n .i64 eZ.2.2]] .live]],eo:=ii,e4:=[.box [.id,.id,.id]],dd:=[0],c9:=false}) (bH 3 (.aZ (aW.length)) 2))),.aH (ap 4 (ar (.va 50 (.call {aM:=[.row 0],cu:=[.box [.id,.id,.id]],ac:=[ii,.bF (.b9 (.e5 (([1,2,3]:List Int).map J)))],r:= .n .i64 jw.1,db:=[[aq.mk 3 [[.isl 1 (b1.map eU8),.n .i64 jw.2.1,.n .i64 jw.2.2]] .live]],eo:=ii,e4:=[.box [.id,.id,.id]],dd:=[0,50],c9:=false})) (bH 2 (.aZ (bl.length)) 2))),(ad 2)]) [0] [.box [.id,.id,.id]] (a6.aZ (.bt gh (kR eZ gG) (k6 dK (⟨(⟨#[100]⟩:ByteArray),U (eZ.1-(1:Int)),(-7),true⟩:bA)) (ue (show [[.s (⟨#[97]⟩:ByteArray),.n .i64 (U ((-1:Int)-ak.1)),.n .i64 bk.1,.b true],[.s (⟨#[98]⟩:ByteArray),.n .i64 (U ((3:Int)+bh.1)),.n .i64 bK.1,.b true],[.s (⟨#[99]⟩:ByteArray),.n .i64 (U (bi.1-(1:Int))),.n .i64 (U ((-1:Int)-c0.1)),.b false]]=(([(⟨(⟨#[97]⟩:ByteArray),U ((-1:Int)-ak.1),bk.1,true⟩:bA),(⟨(⟨#[98]⟩:ByteArray),U ((3:Int)+bh.1),bK.1,true⟩:bA),(⟨(⟨#[99]⟩:ByteArray),U (bi.1-(1:Int)),U ((-1:Int)-c0.1),false⟩:bA)]:List bA)).map dK from rfl) (show 3=([(⟨(⟨#[97]⟩:ByteArray),U ((-1:Int)-ak.1),bk.1,true⟩:bA),(⟨(⟨#[98]⟩:ByteArray),U ((3:Int)+bh.1),bK.1,true⟩:bA),(⟨(⟨#[99]⟩:ByteArray),U (bi.1-(1:Int)),U ((-1:Int)-c0.1),false⟩:bA)]:List bA).length from rfl)) (xm (show 3=([(⟨(⟨#[97]⟩:ByteArray),U ((-1:Int)-ak.1),bk.1,true⟩:bA),(⟨(⟨#[98]⟩:ByteArray),U ((3:Int)+bh.1),bK.1,true⟩:bA),(⟨(⟨#[99]⟩:ByteArray),U (bi.1-(1:Int)),U ((-1:Int)-c0.1),false⟩:bA)]:List bA).length from rfl) cc) nS (lL (show [[.n .i64 (1:Int)],[.n .i64 (2:Int)],[.n .i64 (3:Int)]]=(([1,2,3]:List Int)).map J from rfl) (show 3=([1,2,3]:List Int).length from rfl)) (n6 (show [[.n .i64 (1:Int)],[.n .i64 (2:Int)],[.n .i64 (3:Int)]]=(([1,2,3]:List Int)).map J from rfl) (show 3=([1,2,3]:List Int).length from rfl)) (.bt (eF aD ([1,2,3]:List Int)) (Hb jw h6) (k6 d5 (⟨3,2,jw.1⟩:b4)) (ue (show [[.n .i64 (0:Int),.n .i64 (2:Int),.n .i64 (1:Int)],[.n .i64 (1:Int),.n .i64 (2:Int),.n .i64 dv.1]]=(([(⟨0,2,1⟩:b4),(⟨1,2,dv.1⟩:b4)]:List b4)).map d5 from rfl) (show 2=([(⟨0,2,1⟩:b4),(⟨1,2,dv.1⟩:b4)]:List b4).length from rfl)) (xm (show 2=([(⟨0,2,1⟩:b4),(⟨1,2,dv.1⟩:b4)]:List b4).length from rfl) cM) lI (lL (qs (show [[.s (⟨#[97]⟩:ByteArray),.n .i64 (U ((-1:Int)-ak.1)),.n .i64 bk.1,.b true],[.s (⟨#[98]⟩:ByteArray),.n .i64 (U ((3:Int)+bh.1)),.n .i64 bK.1,.b true],[.s (⟨#[99]⟩:ByteArray),.n .i64 (U (bi.1-(1:Int))),.n .i64 (U ((-1:Int)-c0.1)),.b false]]=(([(⟨(⟨#[97]⟩:ByteArray),U ((-1:Int)-ak.1),bk.1,true⟩:bA),(⟨(⟨#[98]⟩:ByteArray),U ((3:Int)+bh.1),bK.1,true⟩:bA),(⟨(⟨#[99]⟩:ByteArray),U (bi.1-(1:Int)),U ((-1:Int)-c0.1),false⟩:bA)]:List bA)).map dK from rfl) (show 3=([(⟨(⟨#[97]⟩:ByteArray),U ((-1:Int)-ak.1),bk.1,true⟩:bA),(⟨(⟨#[98]⟩:ByteArray),U ((3:Int)+bh.1),bK.1,true⟩:bA),(⟨(⟨#[99]⟩:ByteArray),U (bi.1-(1:Int)),U ((-1:Int)-c0.1),false⟩:bA)]:List bA).length from rfl) cc) (fq aW)) (n6 (qs (show [[.s (⟨#[97]⟩:ByteArray),.n .i64 (U ((-1:Int)-ak.1)),.n .i64 bk.1,.b true],[.s (⟨#[98]⟩:ByteArray),.n .i64 (U ((3:Int)+bh.1)),.n .i64 bK.1,.b true],[.s (⟨#[99]⟩:ByteArray),.n .i64 (U (bi.1-(1:Int))),.n .i64 (U ((-1:Int)-c0.1)),.b false]]=(([(⟨(⟨#[97]⟩:ByteArray),U ((-1:Int)-ak.1),bk.1,true⟩:bA),(⟨(⟨#[98]⟩:ByteArray),U ((3:Int)+bh.1),bK.1,true⟩:bA),(⟨(⟨#[99]⟩:ByteArray),U (bi.1-(1:Int)),U ((-1:Int)-c0.1),false⟩:bA)]:List bA)).map dK from rfl) (show 3=([(⟨(⟨#[97]⟩:ByteArray),U ((-1:Int)-ak.1),bk.1,true⟩:bA),(⟨(⟨#[98]⟩:ByteArray),U ((3:Int)+bh.1),bK.1,true⟩:bA),(⟨(⟨#[99]⟩:ByteArray),U (bi.1-(1:Int)),U ((-1:Int)-c0.1),false⟩:bA)]:List bA).length from rfl) cc) (fq aW)) (.c8 (eF tL aW) (lL (qs (show [[.n .i64 (0:Int),.n .i64 (2:Int),.n .i64 (1:Int)],[.n .i64 (1:Int),.n .i64 (2:Int),.n .i64 dv.1]]=(([(⟨0,2,1⟩:b4),(⟨1,2,dv.1⟩:b4)]:List b4)).map d5 from rfl) (show 2=([(⟨0,2,1⟩:b4),(⟨1,2,dv.1⟩:b4)]:List b4).length from rfl) cM) (fq bl)) (n6 (qs (show [[.n .i64 (0:Int),.n .i64 (2:Int),.n .i64 (1:Int)],[.n .i64 (1:Int),.n .i64 (2:Int),.n .i64 dv.1]]=(([(⟨0,2,1⟩:b4),(⟨1,2,dv.1⟩:b4)]:List b4)).map d5 from rfl) (show 2=([(⟨0,2,1⟩:b4),(⟨1,2,dv.1⟩:b4)]:List b4).length from rfl) cM) (fq bl)) (eF tI bl))))) (.bF (.agg [.e5 (aW.map dK),.e5 (bl.map d5)]))))
  (fun gh =>
  .ret (hg (t1.append [.ao false,(ad 2)]) [0] [.box [.id,.id,.id]] (a6.aZ (.e2 gh (lL (show [[.s (⟨#[97]⟩:ByteArray),.n .i64 (U ((-1:Int)-ak.1)),.n .i64 bk.1,.b true],[.s (⟨#[98]⟩:ByteArray),.n .i64 (U ((3:Int)+bh.1)),.n .i64 bK.1,.b true],[.s (⟨#[99]⟩:ByteArray),.n .i64 (U (bi.1-(1:Int))),.n .i64 (U ((-1:Int)-c0.1)),.b false]]=(([(⟨(⟨#[97]⟩:ByteArray),U ((-1:Int)-ak.1),bk.1,true⟩:bA),(⟨(⟨#[98]⟩:ByteArray),U ((3:Int)+bh.1),bK.1,true⟩:bA),(⟨(⟨#[99]⟩:ByteArray),U (bi.1-(1:Int)),U ((-1:Int)-c0.1),false⟩:bA)]:List bA)).map dK from rfl) (show 3=([(⟨(⟨#[97]⟩:ByteArray),U ((-1:Int)-ak.1),bk.1,true⟩:bA),(⟨(⟨#[98]⟩:ByteArray),U ((3:Int)+bh.1),bK.1,true⟩:bA),(⟨(⟨#[99]⟩:ByteArray),U (bi.1-(1:Int)),U ((-1:Int)-c0.1),false⟩:bA)]:List bA).length from rfl)) (n6 (show [[.s (⟨#[97]⟩:ByteArray),.n .i64 (U ((-1:Int)-ak.1)),.n .i64 bk.1,.b true],[.s (⟨#[98]⟩:ByteArray),.n .i64 (U ((3:Int)+bh.1)),.n .i64 bK.1,.b true],[.s (⟨#[99]⟩:ByteArray),.n .i64 (U (bi.1-(1:Int))),.n .i64 (U ((-1:Int)-c0.1)),.b false]]=(([(⟨(⟨#[97]⟩:ByteArray),U ((-1:Int)-ak.1),bk.1,true⟩:bA),(⟨(⟨#[98]⟩:ByteArray),U ((3:Int)+bh.1),bK.1,true⟩:bA),(⟨(⟨#[99]⟩:ByteArray),U (bi.1-(1:Int)),U ((-1:Int)-c0.1),false⟩:bA)]:List bA)).map dK from rfl) (show 3=([(⟨(⟨#[97]⟩:ByteArray),U ((-1:Int)-ak.1),bk.1,true⟩:bA),(⟨(⟨#[98]⟩:ByteArray),U ((3:Int)+bh.1),bK.1,true⟩:bA),(⟨(⟨#[99]⟩:ByteArray),U (bi.1-(1:Int)),U ((-1:Int)-c0.1),false⟩:bA)]:List bA).length from rfl)) (eF tL ([(⟨(⟨#[97]⟩:ByteArray),U ((-1:Int)-ak.1),bk.1,true⟩:bA),(⟨(⟨#[98]⟩:ByteArray),U ((3:Int)+bh.1),bK.1,true⟩:bA),(⟨(⟨#[99]⟩:ByteArray),U (bi.1-(1:Int)),U ((-1:Int)-c0.1),false⟩:bA)]:List bA)) (lL (show [[.n .i64 (0:Int),.n .i64 (2:Int),.n .i64 (1:Int)],[.n .i64 (1:Int),.n .i64 (2:Int),.n .i64 dv.1]]=(([(⟨0,2,1⟩:b4),(⟨1,2,dv.1⟩:b4)]:List b4)).map d5 from rfl) (show 2=([(⟨0,2,1⟩:b4),(⟨1,2,dv.1⟩:b4)]:List b4).length from rfl)) (n6 (show [[.n .i64 (0:Int),.n .i64 (2:Int),.n .i64 (1:Int)],[.n .i64 (1:Int),.n .i64 (2:Int),.n .i64 dv.1]]=(([(⟨0,2,1⟩:b4),(⟨1,2,dv.1⟩:b4)]:List b4)).map d5 from rfl) (show 2=([(⟨0,2,1⟩:b4),(⟨1,2,dv.1⟩:b4)]:List b4).length from rfl)) (eF tI ([(⟨0,2,1⟩:b4),(⟨1,2,dv.1⟩:b4)]:List b4)))) (.bF (.agg [.e5 (([(⟨(⟨#[97]⟩:ByteArray),U ((-1:Int)-ak.1),bk.1,true⟩:bA),(⟨(⟨#[98]⟩:ByteArray),U ((3:Int)+bh.1),bK.1,true⟩:bA),(⟨(⟨#[99]⟩:ByteArray),U (bi.1-(1:Int)),U ((-1:Int)-c0.1),false⟩:bA)]:List bA).map dK),.e5 (([(⟨0,2,1⟩:b4),(⟨1,2,dv.1⟩:b4)]:List b4).map d5)])))))
def yZ (b1:List Int)(cx el:Int):Option ((List bA)×(List b4)×Int×Int) :=
 wJ 3 b1 cx el >>= fun ak =>
 if ak.1=true then
  y2 b1 ak.2.1 ak.2.2 >>= fun aX =>
  some (aX.1,aX.2.1,aX.2.2.1,aX.2.2.2)
 else
  yY b1 ak.2.1 ak.2.2 >>= fun aX =>
  some (aX.1,aX.2.1,aX.2.2.1,aX.2.2.2)
theorem Uu {b1:List Int}{cx el:Int}:bQ (yZ b1 cx el) (fun a=>Con bo 46 [.ref 0 0 0 0] [[aq.mk 3 [[.isl 1 (b1.map eU8),.n .i64 cx,.n .i64 el]] .live]] (.agg [.isl 4 (a.1.map dK),.isl 3 (a.2.1.map d5)]) [[aq.mk 3 [[.isl 1 (b1.map eU8),.n .i64 a.2.2.1,.n .i64 a.2.2.2]] .live]]):=by
 unfold yZ
 exact .az fun ak R =>
  (let t1:List cw:=[(ad 1),.aH (ap 1 (ar (.call {aM:=[.row 0],cu:=[.box [.id,.id,.id]],ac:=[ii,ii],r:= .b ak.1,db:=[[aq.mk 3 [[.isl 1 (b1.map eU8),.n .i64 ak.2.1,.n .i64 ak.2.2]] .live]],eo:=ii,e4:=[.box [.id,.id,.id]],dd:=[0],c9:=false}) []))];
  .ite (fun ab =>
  .az fun aX aF =>
  .ret (hg (t1.append [.ao true,.aH (bH 1 (.call {aM:=[.row 0],cu:=[.box [.id,.id,.id]],ac:=[ii],r:= .agg [.isl 4 (aX.1.map dK),.isl 3 (aX.2.1.map d5)],db:=[[aq.mk 3 [[.isl 1 (b1.map eU8),.n .i64 aX.2.2.1,.n .i64 aX.2.2.2]] .live]],eo:=ii,e4:=[.box [.id,.id,.id]],dd:=[0],c9:=false}) 1)]) [0] [.box [.id,.id,.id]] (.bZ (Cc ak R) ab (UD aX aF))))
  (fun ab =>
  .az fun aX aF =>
  .ret (hg (t1.append [.ao false,.aH (bH 1 (.call {aM:=[.row 0],cu:=[.box [.id,.id,.id]],ac:=[ii],r:= .agg [.isl 4 (aX.1.map dK),.isl 3 (aX.2.1.map d5)],db:=[[aq.mk 3 [[.isl 1 (b1.map eU8),.n .i64 aX.2.2.1,.n .i64 aX.2.2.2]] .live]],eo:=ii,e4:=[.box [.id,.id,.id]],dd:=[0],c9:=false}) 1)]) [0] [.box [.id,.id,.id]] (.bZ (Cc ak R) ab (Ut aX aF)))))
def FX (cv:List bA)(gv:Int)(aT:List Int):(Int×Int×Int×(List Int))→S:=fun (fz,aG,b7,ae)=>eD [(0,.ref 0 0 0 0),(5,.bw 1 0 0 ae.length),(14,.isl 4 (cv.map dK)),(15,.n .i64 gv),(16,.n .i64 fz)] [[aq.mk 3 [[.isl 1 (aT.map eU8),.n .i64 aG,.n .i64 b7]] .live],(av 1 J ae)]
def F7 (cv:List bA)(gv:Int)(aT:List Int):(Int×Int×(List Int))→eJ
 | a=>⟨some 0,[(0,.ref 0 0 0 0),(5,.bw 1 0 0 a.2.2.length)],[[aq.mk 3 [[.isl 1 (aT.map eU8),.n .i64 a.1,.n .i64 a.2.1]] .live],(av 1 J a.2.2)]⟩
def tx (cv:List bA)(gv:Int)(aT:List Int)(fz aG b7:Int)(ae:List Int):Option ((Int×Int×Int×(List Int))⊕(Int×Int×(List Int))) :=
 if (decide (fz<gv))=true then
  if 0≤fz∧fz<cv.length then
  cv[fz.toNat]? >>= fun aU =>
  if aU.nE=true then
   some (.inl (U (fz+(1:Int)),aG,b7,ae))
  else
   jY 7 aT aG b7 >>= fun cj =>
   if 0≤(U ((2:Int)*fz))∧(U ((2:Int)*fz))<(ae.length:Nat) then
   if (0+(U ((2:Int)*fz)).toNat)<ae.length then
   jY 9 aT cj.2.1 cj.2.2 >>= fun en =>
   if 0≤(U ((U ((2:Int)*fz))+(1:Int)))∧(U ((U ((2:Int)*fz))+(1:Int)))<(ae.length:Nat) then
   if (0+(U ((U ((2:Int)*fz))+(1:Int))).toNat)<(ae.set (0+(U ((2:Int)*fz)).toNat) (U (cj.1-(3:Int)))).length then
   some (.inl (U (fz+(1:Int)),en.2.1,en.2.2,(ae.set (0+(U ((2:Int)*fz)).toNat) (U (cj.1-(3:Int)))).set (0+(U ((U ((2:Int)*fz))+(1:Int))).toNat) (U (0-en.1))))
   else none
   else none
   else none
   else none
  else none
 else
  some (.inr (aG,b7,ae))
def Cd (cv:List bA)(gv:Int)(aT:List Int)(fz aG b7:Int)(ae:List Int):Option (Int×Int×(List Int)):=iter (fun w:Int×Int×Int×(List Int)=>tx cv gv aT w.1 w.2.1 w.2.2.1 w.2.2.2) (fz,aG,b7,ae)
theorem Te {cv:List bA}{gv:Int}{aT:List Int}{fz aG b7:Int}{ae:List Int}:bQ (tx cv gv aT fz aG b7 ae) (fj bo 48 1 47 [1,1,0,1,0,0] (FX cv gv aT (fz,aG,b7,ae)) (FX cv gv aT) (F7 cv gv aT)):=by
 unfold tx
 exact .ite (fun o =>
  .bn fun R =>
  .az fun aU aA =>
  (let t1:List cw:=[(ad 1),.ao true,.aH (bH 2 (.cB (dK aU)) 3),(ad 3)];
  have a6:=((.c8 o R.1 (eE dK R.2) (cD dK aA)):cL _);
  .ite (fun aF =>
  .ret (bS (t1.append [.ao false,(ad 2),.bj [0,1] [.box [.id,.id,.id],.pure] (bR [0,5,14,15,16])]) (a6.aZ (.aC (dc aF) (aE 1 .live aD ae)))))
  (fun aF =>
  .az fun cj bU =>
  .bn fun bx =>
  .bn fun c2 =>
  .az fun en d2 =>
  .bn fun ev =>
  .bn fun fo =>
  .ret (let aW:=(U ((2:Int)*fz));let bl:=(U (cj.1-(3:Int)));let cc:=(U (aW+(1:Int)));let cM:=U (0-en.1);bS (t1.append [.ao true,.aH (ap 4 (ar (.call {aM:=[.row 0],cu:=[.box [.id,.id,.id]],ac:=[ii,ii],r:= .n .i64 cj.1,db:=[[aq.mk 3 [[.isl 1 (aT.map eU8),.n .i64 cj.2.1,.n .i64 cj.2.2]] .live]],eo:=ii,e4:=[.box [.id,.id,.id]],dd:=[0],c9:=false}) (ap 2 (ar .cT [])))),.aH (ap 5 (ar (.call {aM:=[.row 0],cu:=[.box [.id,.id,.id]],ac:=[ii,ii],r:= .n .i64 en.1,db:=[[aq.mk 3 [[.isl 1 (aT.map eU8),.n .i64 en.2.1,.n .i64 en.2.2]] .live]],eo:=ii,e4:=[.box [.id,.id,.id]],dd:=[0],c9:=false}) (ap 2 (ar .cT [])))),(ad 2),.bj [0,1] [.box [.id,.id,.id],.dw (av 1 J ((ae.set (0+aW.toNat) bl).set (0+cc.toNat) cM))] [(0,ii),(5,fQ (((ae.set (0+aW.toNat) bl).set (0+cc.toNat) cM).length)),(14,ii),(15,ii),(16,ii)]]) (a6.aZ (.bt (df aF) (kR cj bU) bx.1 bx.2 (hb J c2) (gB 1) (kR en d2) ev.1 (.fb ev.2 (zW (fs (dF J ae) (0+aW.toNat) bl) fo) (gB 1) (d4 1 .live (fs (fs (dF J ae) (0+aW.toNat) bl) (0+cc.toNat) cM)) (aE 1 .live aD ((ae.set (0+aW.toNat) bl).set (0+cc.toNat) cM)) (gP (gP (fq ae) (0+aW.toNat) bl) (0+cc.toNat) cM))))))))
  (fun o =>
  .ret (bS [(ad 1),.ao false,.bj [0,1] [.box [.id,.id,.id],.pure] (bR [0,5])] (.aC o (aE 1 .live aD ae))))
theorem TW {cv:List bA}{gv:Int}{aT:List Int}{fz aG b7:Int}{ae:List Int}{r} (h:Cd cv gv aT fz aG b7 ae=some r):fk bo 48 1 47 [1,1,0,1,0,0] (FX cv gv aT) (F7 cv gv aT) (fz,aG,b7,ae) r:=fl (fun _=>Te) h
def y0 (aL:cz)(b1:List Int)(cx el:Int):Option ((List Int)×Int×Int) :=
 if 0≤(U ((2:Int)*(len_ dK aL.cR)))∧(8:Int)*(U ((2:Int)*(len_ dK aL.cR)))≤281474976710656∧(U ((2:Int)*(len_ dK aL.cR)))<9223372036854775808 then
 Cd aL.cR (len_ dK aL.cR) b1 0 cx el (List.replicate (U ((2:Int)*(len_ dK aL.cR))).toNat 0:List Int) >>= fun bm =>
 wJ 8 b1 bm.1 bm.2.1 >>= fun aX =>
 if aX.1=true then
  if 0≤(U (((bm.2.2.length:Nat):Int)-(1:Int)))∧(U (((bm.2.2.length:Nat):Int)-(1:Int)))<(bm.2.2.length:Nat) then
  if (0+(U (((bm.2.2.length:Nat):Int)-(1:Int))).toNat)<bm.2.2.length then
  some (bm.2.2.set (0+(U (((bm.2.2.length:Nat):Int)-(1:Int))).toNat) 4,aX.2.1,aX.2.2)
  else none
  else none
 else
  some (bm.2.2,aX.2.1,aX.2.2)
 else none
theorem Uv {aL:cz}{b1:List Int}{cx el:Int}:bQ (y0 aL b1 cx el) (fun a=>Con bo 47 [.ref 0 0 0 0,.agg (f9 aL)] [[aq.mk 3 [[.isl 1 (b1.map eU8),.n .i64 cx,.n .i64 el]] .live]] (.isl 1 (a.1.map J)) [[aq.mk 3 [[.isl 1 (b1.map eU8),.n .i64 a.2.1,.n .i64 a.2.2]] .live]]):=by
 unfold y0
 exact .bn fun o =>
  .az fun bm ab =>
  .az fun aX aF =>
  (let cc:=(U ((2:Int)*(len_ dK aL.cR)));let cM:=(List.replicate cc.toNat 0:List Int);let t1:List cw:=[(ad 2),(ad 6),(ad 4),.bj [0,7] [.box [.id,.id,.id],.dw (av 1 J cM)] [(0,ii),(5,fQ (cM.length)),(14,ii),(15,ii),(16,ii)],(F7 aL.cR (len_ dK aL.cR) b1 bm).fW,.aH (ap 1 (ar (.call {aM:=[.row 0],cu:=[.box [.id,.id,.id]],ac:=[ii,ii],r:= .b aX.1,db:=[[aq.mk 3 [[.isl 1 (b1.map eU8),.n .i64 aX.2.1,.n .i64 aX.2.2]] .live]],eo:=ii,e4:=[.box [.id,.id,.id]],dd:=[0],c9:=false}) []))];
  have a6:=((.bt o.1 (Int.le_refl cc) o.2.1 o.2.2 (d4 1 .live (kp J cc.toNat 0)) (aE 1 .live aD cM) (kB cc.toNat (0:Int)) (TW ab) (.ax (Cc aX aF))):cL _);
  .ite (fun br =>
  .bn fun bU =>
  .bn fun bx =>
  .ret (let aW:=(U (((bm.2.2.length:Nat):Int)-(1:Int)));let bl:=gP (fq bm.2.2) (0+aW.toNat) 4;hg (t1.append [.ao true,.aH (ap 5 (ar .cT [])),(ad 2)]) [0] [.box [.id,.id,.id]] (a6.aZ (.hh br bU.1 bU.2 (hb J bx) (gB 1) (lL (fs (dF J bm.2.2) (0+aW.toNat) 4) bl) (n6 (fs (dF J bm.2.2) (0+aW.toNat) 4) bl) (eF aD (bm.2.2.set (0+aW.toNat) 4)))) (.bF (.b9 (.e5 ((bm.2.2.set (0+aW.toNat) 4).map J))))))
  (fun br =>
  .ret (hg (t1.append [.ao false,(ad 2)]) [0] [.box [.id,.id,.id]] (a6.aZ (.c8 br (ia J bm.2.2) (ht J bm.2.2) (eF aD bm.2.2))) (.bF (.b9 (.e5 (bm.2.2.map J)))))))
def HD (b1:List Int)(cx el:Int):Option ((List bA)×(List b4)×(List Int)×Int×Int) :=
 yZ b1 cx el >>= fun ak =>
 y0 (⟨ak.1,ak.2.1⟩:cz) b1 ak.2.2.1 ak.2.2.2 >>= fun bk =>
 some (ak.1,ak.2.1,bk.1,bk.2.1,bk.2.2)
theorem Uw {b1:List Int}{cx el:Int}:bQ (HD b1 cx el) (fun a=>Con bo 19 [.ref 0 0 0 0] [[aq.mk 3 [[.isl 1 (b1.map eU8),.n .i64 cx,.n .i64 el]] .live]] (.cW [.agg [.isl 4 (a.1.map dK),.isl 3 (a.2.1.map d5)],.isl 1 (a.2.2.1.map J)]) [[aq.mk 3 [[.isl 1 (b1.map eU8),.n .i64 a.2.2.2.1,.n .i64 a.2.2.2.2]] .live]]):=by
 unfold HD
 exact .az fun ak R =>
  .az fun bk aA =>
  .ret (hg [(ad 2),.aH (bH 1 (.call {aM:=[.row 0],cu:=[.box [.id,.id,.id]],ac:=[ii],r:= .agg [.isl 4 (ak.1.map dK),.isl 3 (ak.2.1.map d5)],db:=[[aq.mk 3 [[.isl 1 (b1.map eU8),.n .i64 ak.2.2.1,.n .i64 ak.2.2.2]] .live]],eo:=ii,e4:=[.box [.id,.id,.id]],dd:=[0],c9:=false}) 2),.aH (bH 3 (.call {aM:=[.row 0],cu:=[.box [.id,.id,.id]],ac:=[ii,ii],r:= .isl 1 (bk.1.map J),db:=[[aq.mk 3 [[.isl 1 (b1.map eU8),.n .i64 bk.2.1,.n .i64 bk.2.2]] .live]],eo:=ii,e4:=[.box [.id,.id,.id]],dd:=[0],c9:=false}) 2)] [0] [.box [.id,.id,.id]] (.aC (Uu ak R) (Uv bk aA)))
def Cy (fG:List Int):Option (cz×(List Int)) :=
 y1 fG >>= fun ak =>
 HD fG 0 ak >>= fun bk =>
 some ((⟨bk.1,bk.2.1⟩:cz),bk.2.2.1)
theorem UE {fG:List Int}:bQ (Cy fG) (fun r=>Con bo 4 [.isl 1 (fG.map eU8)] [] (.cW [.agg (f9 r.1),.isl 1 (r.2.map J)]) []):=by
 unfold Cy
 exact .az fun ak R =>
  .az fun bk aA =>
  .ret (bP [(ad 2),.aH (ap 1 (ar (.call {aM:=[],cu:=[],ac:=[ii],r:= .ref 0 0 0 0,db:=[[aq.mk 3 [[.isl 1 (fG.map eU8),.n .i64 (0:Int),.n .i64 ak]] .live]],eo:=ii,e4:=[.box [.id,.id,.id]],dd:=[],c9:=false}) (ar (.call {aM:=[.row 3],cu:=[.box [.id,.id,.id]],ac:=[ii],r:= .cW [.agg [.isl 4 (bk.1.map dK),.isl 3 (bk.2.1.map d5)],.isl 1 (bk.2.2.1.map J)],db:=[[aq.mk 3 [[.isl 1 (fG.map eU8),.n .i64 bk.2.2.2.1,.n .i64 bk.2.2.2.2]] .live]],eo:=ii,e4:=[.box [.id,.id,.id]],dd:=[3],c9:=false}) (ap 4 []))))] (.aC (Mu ak R) (Uw bk aA)))
def Cz (qN:Int):Option Bool :=
 if (decide ((97:Int)≤qN))=true then
  some (decide (qN≤(122:Int)))
 else
  some false
theorem UF {qN:Int}:bQ (Cz qN) (fun r=>Con bo 81 [.n .u8 qN] [] (.b r) []):=by
 unfold Cz
 exact .ite (fun o =>
  .ret (bP [(ad 1),.aH (bH 5 (.ao true) 1)] (.bZ o o o)))
  (fun o =>
  .ret (bP [(ad 1),.aH (ap 3 (dk 2 (ar (.ao false) (ap 1 []))))] (.bZ o o o)))
def HX (qN:Int):Option Bool :=
 if (decide ((48:Int)≤qN))=true then
  some (decide (qN≤(57:Int)))
 else
  some false
theorem UQ {qN:Int}:bQ (HX qN) (fun r=>Con bo 82 [.n .u8 qN] [] (.b r) []):=by
 unfold HX
 exact .ite (fun o =>
  .ret (bP [(ad 1),.aH (bH 5 (.ao true) 1)] (.bZ o o o)))
  (fun o =>
  .ret (bP [(ad 1),.aH (ap 3 (dk 2 (ar (.ao false) (ap 1 []))))] (.bZ o o o)))
def GD (aL:ByteArray)(jm:Int):Int→S:=fun lh=>eD [(0,.s aL),(5,.n .i64 jm),(6,.n .i64 lh)] []
def Mi (aL:ByteArray)(jm:Int):((Unit)⊕(Unit))→eJ
 | .inl a=>⟨some 0,[(0,.s aL)],[]⟩
 | .inr a=>⟨none,[(2,.b false)],[]⟩
def wj (aL:ByteArray)(jm lh:Int):Option ((Int)⊕((Unit)⊕(Unit))) :=
 if (decide (lh<jm))=true then
  if 0≤lh∧lh<(aL.size:Nat) then
  Cz ((aL.data.toList.getD lh.toNat 0).toNat:Int) >>= fun bk =>
  if bk=true then
   some (.inl (U (lh+(1:Int))))
  else
   if (lh == (0:Int))=true then
    some (.inr (.inr ()))
   else
    HX ((aL.data.toList.getD lh.toNat 0).toNat:Int) >>= fun bK =>
    if bK=true then
     some (.inl (U (lh+(1:Int))))
    else
     some (.inr (.inr ()))
  else none
 else
  some (.inr (.inl ()))
def HE (aL:ByteArray)(jm lh:Int):Option ((Unit)⊕(Unit)):=iter (fun w:Int=>wj aL jm w) lh
theorem TH {aL:ByteArray}{jm lh:Int}:bQ (wj aL jm lh) (fj bo 33 0 51 [1,0,1,0,0] (GD aL jm lh) (GD aL jm) (Mi aL jm)):=by
 unfold wj
 exact .ite (fun o =>
  .bn fun R =>
  .az fun bk aA =>
  (let t1:List cw:=[(ad 1),.ao true,(ad 2)];
  have a6:=((.ep o R.1 R.2 (UF bk aA) (cp.b bk)):cL _);
  .ite (fun aF =>
  .ret (bS (t1.append [.aH (ap 3 (ar (bT 1 (.b bk) true) (ap 2 (dk 3 (ap 5 (dk 1 (ar (.ao false) []))))))),.ao false,(ad 2),.bj [] [] (bR [0,5,6])]) (a6.aZ (.fb (dc aF) (dc aF) (dc aF) (dc aF) (dc aF) gC))))
  (fun aF =>
  (have fX:=a6.aZ (.bZ (df aF) (df aF) (df aF));
  .ite (fun br =>
  .ret (bS (t1.append [.aH (ap 3 (ar (bT 1 (.b bk) true) (ap 5 (dk 5 (ar (.ao true) (ar (.ao true) [])))))),.ao true,(ad 1),.bj [] [] (bR [2])]) (fX.aZ (.bt br br br br br (df aF) br (df aF) (.ax ca)))))
  (fun br =>
  .az fun bK bx =>
  (let t4:List cw:=t1.append [.aH (ap 3 (ar (bT 1 (.b bk) true) (ap 8 (ar (bT 1 (.b bK) true) (ap 1 (ar (.ao false) (ar (.ao true) [])))))))];
  have sA:=fX.aZ (.bt br br br R.1 R.2 br (UQ bK bx) (cp.b bK) (.c8 br (df aF) br (df aF)));
  .ite (fun c2 =>
  .ret (bS (t4.append [.ao false,(ad 2),.bj [] [] (bR [0,5,6])]) (sA.aZ (.ax (dc c2)))))
  (fun c2 =>
  .ret (bS (t4.append [.ao true,(ad 1),.bj [] [] (bR [2])]) (sA.aZ (.ax (df c2)))))))))))
  (fun o =>
  .ret (bS [(ad 1),.ao false,.bj [] [] (bR [0])] (.ax o)))
theorem Hc {aL:ByteArray}{jm lh:Int}{r} (h:HE aL jm lh=some r):fk bo 33 0 51 [1,0,1,0,0] (GD aL jm) (Mi aL jm) lh r:=fl (fun _=>TH) h
def tQ (aL:ByteArray):Option Bool :=
 HE aL (aL.size:Int) 0 >>= fun ak =>
 match ak with
 | .inl bs=>(if (!(aL.toList == (⟨#[]⟩:ByteArray).toList))=true then
  some (decide ((aL.size:Int)≤(8:Int)))
  else
   some false)
 | .inr bs=>(some false)
theorem U6 {aL:ByteArray}:bQ (tQ aL) (fun r=>Con bo 51 [.s aL] [] (.b r) []):=by
 unfold tQ
 exact .az fun ak R =>
  (let t1:List cw:=[(ad 1),(ad 3),.bj [] [] (bR [0,5,6])];
  (by
  rcases ak with bs|bs
  ·exact ((let t2:List cw:=t1.append [.sub (.exit 0) [(0,.s aL)] []];
  .ite (fun aA =>
  .ret (bP (t2.append [.aH (bH 6 (.ao true) 1)]) (.ep (Hc R) aA aA aA aA)))
  (fun aA =>
  .ret (bP (t2.append [.aH (ap 3 (dk 3 (ar (.ao false) (ap 1 []))))]) (.ep (Hc R) aA aA aA aA)))))
  ·exact (.ret (bP (t1.append [.sub (.ret) [(2,.b false)] []]) (.ax (Hc R))))))
def wR (a0:Int):Option Bool :=
 if (decide ((-50:Int)≤a0))=true then
  some (decide (a0≤(50:Int)))
 else
  some false
theorem ME {a0:Int}:bQ (wR a0) (fun r=>Con bo 52 [.n .i64 a0] [] (.b r) []):=by
 unfold wR
 exact .ite (fun o =>
  .ret (bP [(ad 1),.aH (bH 5 (.ao true) 1)] (.bZ o o o)))
  (fun o =>
  .ret (bP [(ad 1),.aH (ap 3 (dk 2 (ar (.ao false) (ap 1 []))))] (.bZ o o o)))
def y6 (dV:bA):Option Bool :=
 tQ dV.oM >>= fun ak =>
 if ak=true then
  wR dV.l0 >>= fun aX =>
  if aX=true then
   wR dV.l1 >>= fun bK =>
   some bK
  else
   some false
 else
  some false
theorem UR {dV:bA}:bQ (y6 dV) (fun r=>Con bo 22 [.agg (dK dV)] [] (.b r) []):=by
 unfold y6
 exact .az fun ak R =>
  (have b3:=((.aC (U6 ak R) (cp.b ak)):cL _);
  .ite (fun ab =>
  .az fun aX aF =>
  (have a6:=b3.aZ (.fb ab ab ab (ME aX aF) (cp.b aX) ab);
  .ite (fun br =>
  .az fun bK bx =>
  .ret (bP [(ad 2),.aH (ap 2 (ar (bT 1 (.b ak) true) (ap 3 (ar (bT 1 (.b aX) true) (ar (.ao true) (ap 3 (ar (bT 1 (.b bK) true) (ar (.ao true) (ap 1 [])))))))))] (a6.aZ (.fb br br br (ME bK bx) (cp.b bK) br))))
  (fun br =>
  .ret (bP [(ad 2),.aH (ap 2 (ar (bT 1 (.b ak) true) (ap 3 (ar (bT 1 (.b aX) true) (ar (.ao true) (ap 1 (dk 3 (ar (.ao false) (ap 1 [])))))))))] (a6.aZ (.c8 br br br br))))))
  (fun ab =>
  .ret (bP [(ad 2),.aH (ap 2 (ar (bT 1 (.b ak) true) (ap 1 (dk 3 (ar (.ao false) (ap 1 (dk 3 (ap 2 []))))))))] (b3.aZ (.e2 ab ab ab ab gC gC gC)))))
def Ce (dV:bA)(b9:ByteArray):Option Bool :=
 some (dV.oM.toList == b9.toList)
theorem TX {dV:bA}{b9:ByteArray}:bQ (Ce dV b9) (fun r=>Con bo 54 [.agg (dK dV),.ey 1 [[.s b9]] 0 0] [] (.b r) []):=by
 unfold Ce
 exact .ret (bP [(ad 2),(ad 5)] .nil)
def EW (aL:List bA)(ji:ByteArray)(dz:Int):Int→S:=fun dE=>eD [(0,.isl 4 (aL.map dK)),(1,.fn 54 [.ey 1 [[.s ji]] 0 0]),(7,.n .i64 dz),(8,.n .i64 dE)] []
def LB (aL:List bA)(ji:ByteArray)(dz:Int):((Unit)⊕(Int))→eJ
 | .inl a=>⟨some 0,[],[]⟩
 | .inr a=>⟨none,[(4,.n .i64 a)],[]⟩
def yC (aL:List bA)(ji:ByteArray)(dz dE:Int):Option ((Int)⊕((Unit)⊕(Int))) :=
 if (decide (dE<dz))=true then
  if 0≤dE∧dE<aL.length then
  aL[dE.toNat]? >>= fun aU =>
  Ce aU ji >>= fun bh =>
  if bh=true then
   some (.inr (.inr dE))
  else
   some (.inl (U (dE+(1:Int))))
  else none
 else
  some (.inr (.inl ()))
def Fa (aL:List bA)(ji:ByteArray)(dz dE:Int):Option ((Unit)⊕(Int)):=iter (fun w:Int=>yC aL ji dz w) dE
theorem Sk {aL:List bA}{ji:ByteArray}{dz dE:Int}:bQ (yC aL ji dz dE) (fj bo 19 0 53 [1,0,1,0,0] (EW aL ji dz dE) (EW aL ji dz) (LB aL ji dz)):=by
 unfold yC
 exact .ite (fun o =>
  .bn fun R =>
  .az fun aU aA =>
  .az fun bh br =>
  (let t1:List cw:=[(ad 1),.ao true,(ad 2),.aH (ap 4 (ar (.cB (dK aU)) (ar (bT 2 (.b bh) true) [])))];
  have a6:=((.fb o R.1 (eE dK R.2) (cD dK aA) (TX bh br) (cp.b bh)):cL _);
  .ite (fun bU =>
  .ret (bS (t1.append [.ao true,(ad 2),.bj [] [] (bR [4])]) (a6.aZ (.ax bU))))
  (fun bU =>
  .ret (bS (t1.append [.ao false,(ad 2),.bj [] [] [(0,ii),(1,.comp [.b9 .id]),(7,ii),(8,ii)]]) (a6.aZ (.ax bU))))))
  (fun o =>
  .ret (bS [(ad 1),.ao false,.bj [] [] []] (.ax o)))
theorem LF {aL:List bA}{ji:ByteArray}{dz dE:Int}{r} (h:Fa aL ji dz dE=some r):fk bo 19 0 53 [1,0,1,0,0] (EW aL ji dz) (LB aL ji dz) dE r:=fl (fun _=>Sk) h
def BI (aL:List bA)(oa:ByteArray):Option Int :=
 Fa aL oa (len_ dK aL) 0 >>= fun ak =>
 match ak with
 | .inl bs=>(some (-1))
 | .inr bs=>(some bs)
theorem SF {aL:List bA}{oa:ByteArray}:bQ (BI aL oa) (fun r=>Con bo 53 [.isl 4 (aL.map dK),.fn 54 [.ey 1 [[.s oa]] 0 0]] [] (.n .i64 r) []):=by
 unfold BI
 exact .az fun ak R =>
  (let t1:List cw:=[(ad 1),(ad 3),.bj [] [] [(0,ii),(1,.comp [.b9 .id]),(7,ii),(8,ii)]];
  (by
  rcases ak with bs|bs
  ·exact (.ret (bP (t1.append [.sub (.exit 0) [] [],(ad 1)]) (.ax (LF R))))
  ·exact (.ret (bP (t1.append [.sub (.ret) [(4,.n .i64 bs)] []]) (.ax (LF R))))))
def yW (aL:cz)(xz:ByteArray):Option Int :=
 BI aL.cR xz >>= fun ak =>
 some ak
theorem Ua {aL:cz}{xz:ByteArray}:bQ (yW aL xz) (fun r=>Con bo 23 [.agg (f9 aL),.s xz] [] (.n .i64 r) []):=by
 unfold yW
 exact .az fun ak R =>
  .ret (bP [(ad 3),.aH (bH 3 (.call {ac:=[ii,.comp [.ptr [.id]]],r:= .n .i64 ak,c9:=true,dd:=[1]}) 1)] (.bZ (k9 (Pf xz):hc [[.s xz]]) (SF ak R) (cp.n .i64 ak)))
def yI (aL:cz)(lU:b4):Option Bool :=
 if (decide (lU.gr<(0:Int)))=true then
  some false
 else
  if (decide ((len_ dK aL.cR)≤lU.gr))=true then
   some false
  else
   if (decide (lU.gu<(0:Int)))=true then
    some false
   else
    if (decide ((len_ dK aL.cR)≤lU.gu))=true then
     some false
    else
     if (decide (lU.mJ<(1:Int)))=true then
      some false
     else
      if (decide ((3:Int)<lU.mJ))=true then
       some false
      else
       if 0≤lU.gr∧lU.gr<aL.cR.length then
       aL.cR[lU.gr.toNat]? >>= fun nZ =>
       if 0≤lU.gu∧lU.gu<aL.cR.length then
       aL.cR[lU.gu.toNat]? >>= fun px =>
       if (nZ.l0 != px.l0)=true then
        if nZ.nE=true then
         some (!px.nE)
        else
         some true
       else
        if (nZ.l1 != px.l1)=true then
         if nZ.nE=true then
          some (!px.nE)
         else
          some true
        else
         some false
       else none
       else none
theorem S4 {aL:cz}{lU:b4}:bQ (yI aL lU) (fun r=>Con bo 26 [.ey 2 [(f9 aL)] 0 0,.agg (d5 lU)] [] (.b r) []):=by
 unfold yI
 exact .ite (fun o =>
  .ret (bP [(ad 2),(ad 6),.aH (ap 4 (dk 4 (ar (.ao true) (ap 1 (dk 3 (ap 2 (dk 4 (ap 2 (dk 3 (ap 2 (dk 3 (ap 1 [])))))))))))),.ao true,(ad 1)] (.bt o o o o o ca ca ca (.bt ca ca ca ca ca ca ca ca (.bZ ca ca ca)))))
  (fun o =>
  .ite (fun R =>
  .ret (bP [(ad 2),(ad 6),.aH (ap 8 (ar (.ao false) (ap 1 (dk 3 (ar (.ao true) (ap 1 (dk 4 (ap 2 (dk 3 (ap 2 (dk 3 (ap 1 [])))))))))))),.ao true,(ad 1)] (.bt o o o o o R R R (.bt R ca ca ca ca ca ca ca (.c8 ca ca ca ca)))))
  (fun R =>
  (have b3:=((.bt o o o o o R R R (.ax R)):cL _);
  .ite (fun ab =>
  .ret (bP [(ad 2),(ad 6),.aH (ap 8 (ar (.ao false) (ap 4 (ar (.ao false) (ap 1 (dk 4 (ar (.ao true) (ap 1 (dk 3 (ap 2 (dk 3 (ap 1 [])))))))))))),.ao true,(ad 1)] (b3.aZ (.bt ab ab ab ab ab ca ca ca (.c8 ca ca ca ca)))))
  (fun ab =>
  .ite (fun aA =>
  .ret (bP [(ad 2),(ad 6),.aH (ap 8 (ar (.ao false) (ap 4 (ar (.ao false) (ap 5 (ar (.ao false) (ap 1 (dk 3 (ar (.ao true) (ap 1 (dk 3 (ap 1 [])))))))))))),.ao true,(ad 1)] (b3.aZ (.bt ab ab ab ab ab aA aA aA (.ep aA ca ca ca ca)))))
  (fun aA =>
  (have a6:=b3.aZ (.bt ab ab ab ab ab aA aA aA (.ax aA));
  .ite (fun aF =>
  .ret (bP [(ad 2),(ad 6),.aH (ap 8 (ar (.ao false) (ap 4 (ar (.ao false) (ap 5 (ar (.ao false) (ap 4 (ar (.ao false) (ap 1 (dk 3 (ar (.ao true) []))))))))))),.ao true,(ad 1)] (a6.aZ (.ep aF aF aF aF ca))))
  (fun aF =>
  (let t3:List cw:=[(ad 2),(ad 6),.aH (ap 8 (ar (.ao false) (ap 4 (ar (.ao false) (ap 5 (ar (.ao false) (ap 4 (ar (.ao false) (ap 4 (ar (.ao false) []))))))))))];
  .ite (fun br =>
  .ret (bP (t3.append [.ao true,(ad 1)]) (a6.aZ (.ep aF aF aF aF br))))
  (fun br =>
  .bn fun bU =>
  .az fun nZ c2 =>
  .bn fun dO =>
  .az fun px ev =>
  (let t4:List cw:=t3.append [.ao false,.aH (ap 7 (ar (.cB (dK nZ)) (bH 7 (.cB (dK px)) 4)))];
  have sA:=a6.aZ (.bt aF aF aF aF br bU.1 (eE dK bU.2) (cD dK c2) (.bZ dO.1 (eE dK dO.2) (cD dK ev)));
  .ite (fun fo =>
  (have m1:=sA.aZ (.bt fo fo fo fo fo fo ca ca (.ax ca));
  .ite (fun eT =>
  .ret (bP (t4.append [.aH (ap 6 (dk 5 (ar (.ao true) (bH 6 (.ao true) 3))))]) (m1.aZ (.ep eT eT ca eT ca))))
  (fun eT =>
  .ret (bP (t4.append [.aH (ap 6 (dk 5 (ar (.ao true) (ap 4 (dk 2 (ar (.ao false) (ap 3 [])))))))]) (m1.aZ (.ep eT eT ca eT ca))))))
  (fun fo =>
  .ite (fun eT =>
  (have m1:=sA.aZ (.bt fo fo fo fo fo fo eT eT (.ax eT));
  .ite (fun hD =>
  .ret (bP (t4.append [.aH (ap 11 (ar (.ao false) (ap 6 (ar (.ao true) (bH 1 (.ao true) 1)))))]) (m1.aZ (.fb hD hD eT hD eT eT))))
  (fun hD =>
  .ret (bP (t4.append [.aH (ap 11 (ar (.ao false) (ap 4 (dk 2 (ar (.ao false) (bH 1 (.ao true) 1))))))]) (m1.aZ (.fb hD hD eT hD eT eT))))))
  (fun eT =>
  .ret (bP (t4.append [.aH (ap 11 (ar (.ao false) (ap 1 (dk 3 (ap 2 (dk 2 (ar (.ao false) (ap 1 []))))))))]) (sA.aZ (.bt fo fo fo fo fo fo eT eT (.c8 eT eT eT eT))))))))))))))))
def B8 (lU:b4)(b9:cz):Option Bool :=
 yI b9 lU >>= fun ak =>
 some (!ak)
theorem TP {lU:b4}{b9:cz}:bQ (B8 lU b9) (fun r=>Con bo 25 [.agg (d5 lU),.ey 2 [(f9 b9)] 0 0] [] (.b r) []):=by
 unfold B8
 exact .az fun ak R =>
  .ret (bP [(ad 2),.aH (bH 1 (bT 2 (.b ak) true) 2)] (.aC (S4 ak R) (cp.b ak)))
def EV (aL:List b4)(ji:List bA)(ob:List b4)(dz:Int):Int→S:=fun dE=>eD [(0,.isl 3 (aL.map d5)),(1,.fn 25 [.ey 2 [[.isl 4 (ji.map dK),.isl 3 (ob.map d5)]] 0 0]),(7,.n .i64 dz),(8,.n .i64 dE)] []
def LA (aL:List b4)(ji:List bA)(ob:List b4)(dz:Int):((Unit)⊕(Int))→eJ
 | .inl a=>⟨some 0,[],[]⟩
 | .inr a=>⟨none,[(4,.n .i64 a)],[]⟩
def vq (aL:List b4)(ji:List bA)(ob:List b4)(dz dE:Int):Option ((Int)⊕((Unit)⊕(Int))) :=
 if (decide (dE<dz))=true then
  if 0≤dE∧dE<aL.length then
  aL[dE.toNat]? >>= fun aU =>
  B8 aU (⟨ji,ob⟩:cz) >>= fun bh =>
  if bh=true then
   some (.inr (.inr dE))
  else
   some (.inl (U (dE+(1:Int))))
  else none
 else
  some (.inr (.inl ()))
def E7 (aL:List b4)(ji:List bA)(ob:List b4)(dz dE:Int):Option ((Unit)⊕(Int)):=iter (fun w:Int=>vq aL ji ob dz w) dE
theorem Sj {aL:List b4}{ji:List bA}{ob:List b4}{dz dE:Int}:bQ (vq aL ji ob dz dE) (fj bo 19 0 55 [1,0,1,0,0] (EV aL ji ob dz dE) (EV aL ji ob dz) (LA aL ji ob dz)):=by
 unfold vq
 exact .ite (fun o =>
  .bn fun R =>
  .az fun aU aA =>
  .az fun bh br =>
  (let t1:List cw:=[(ad 1),.ao true,(ad 2),.aH (ap 4 (ar (.cB (d5 aU)) (ar (bT 2 (.b bh) true) [])))];
  have a6:=((.fb o R.1 (eE d5 R.2) (cD d5 aA) (TP bh br) (cp.b bh)):cL _);
  .ite (fun bU =>
  .ret (bS (t1.append [.ao true,(ad 2),.bj [] [] (bR [4])]) (a6.aZ (.ax bU))))
  (fun bU =>
  .ret (bS (t1.append [.ao false,(ad 2),.bj [] [] [(0,ii),(1,.comp [.b9 .id]),(7,ii),(8,ii)]]) (a6.aZ (.ax bU))))))
  (fun o =>
  .ret (bS [(ad 1),.ao false,.bj [] [] []] (.ax o)))
theorem LC {aL:List b4}{ji:List bA}{ob:List b4}{dz dE:Int}{r} (h:E7 aL ji ob dz dE=some r):fk bo 19 0 55 [1,0,1,0,0] (EV aL ji ob dz) (LA aL ji ob dz) dE r:=fl (fun _=>Sj) h
def BE (aL:List b4)(oa:cz):Option Int :=
 E7 aL oa.cR oa.bB (len_ d5 aL) 0 >>= fun ak =>
 match ak with
 | .inl bs=>(some (-1))
 | .inr bs=>(some bs)
theorem SC {aL:List b4}{oa:cz}:bQ (BE aL oa) (fun r=>Con bo 55 [.isl 3 (aL.map d5),.fn 25 [.ey 2 [(f9 oa)] 0 0]] [] (.n .i64 r) []):=by
 unfold BE
 exact .az fun ak R =>
  (let t1:List cw:=[(ad 1),(ad 3),.bj [] [] [(0,ii),(1,.comp [.b9 .id]),(7,ii),(8,ii)]];
  (by
  rcases ak with bs|bs
  ·exact (.ret (bP (t1.append [.sub (.exit 0) [] [],(ad 1)]) (.ax (LC R))))
  ·exact (.ret (bP (t1.append [.sub (.ret) [(4,.n .i64 bs)] []]) (.ax (LC R))))))
def yD (aL:List b4)(oa:cz):Option Bool :=
 BE aL oa >>= fun ak =>
 some (decide ((0:Int)≤ak))
theorem Ss {aL:List b4}{oa:cz}:bQ (yD aL oa) (fun r=>Con bo 24 [.isl 3 (aL.map d5),.fn 25 [.ey 2 [(f9 oa)] 0 0]] [] (.b r) []):=by
 unfold yD
 exact .az fun ak R =>
  .ret (bP [(ad 1),.aH (bH 2 (bT 2 (.n .i64 ak) true) 2)] (.aC (SC ak R) (cp.n .i64 ak)))
def FP (fz:List bA)(jj:Int)(aG:List b4):Int→S:=fun hQ=>eD [(1,.ref 0 0 0 0),(16,.isl 4 (fz.map dK)),(17,.n .i64 jj),(18,.n .i64 hQ)] [[aq.mk 2 [[.isl 4 (fz.map dK),.isl 3 (aG.map d5)]] .live]]
def FT (fz:List bA)(jj:Int)(aG:List b4):((Unit)⊕(Unit))→eJ
 | .inl a=>⟨some 0,[(1,.ref 0 0 0 0)],[[aq.mk 2 [[.isl 4 (fz.map dK),.isl 3 (aG.map d5)]] .live]]⟩
 | .inr a=>⟨none,[(2,.b false)],[]⟩
def vR (fz:List bA)(jj:Int)(aG:List b4)(hQ:Int):Option ((Int)⊕((Unit)⊕(Unit))) :=
 if (decide (hQ<jj))=true then
  if 0≤hQ∧hQ<fz.length then
  fz[hQ.toNat]? >>= fun aU =>
  y6 aU >>= fun bh =>
  if bh=true then
   yW (⟨fz,aG⟩:cz) aU.oM >>= fun eQ =>
   if (eQ != hQ)=true then
    some (.inr (.inr ()))
   else
    some (.inl (U (hQ+(1:Int))))
  else
   some (.inr (.inr ()))
  else none
 else
  some (.inr (.inl ()))
def B1 (fz:List bA)(jj:Int)(aG:List b4)(hQ:Int):Option ((Unit)⊕(Unit)):=iter (fun w:Int=>vR fz jj aG w) hQ
theorem S1 {fz:List bA}{jj:Int}{aG:List b4}{hQ:Int}:bQ (vR fz jj aG hQ) (fj bo 40 0 6 [1,1,0,1,0,0] (FP fz jj aG hQ) (FP fz jj aG) (FT fz jj aG)):=by
 unfold vR
 exact .ite (fun o =>
  .bn fun R =>
  .az fun aU aA =>
  .az fun bh br =>
  (let t1:List cw:=[(ad 1),.ao true,.aH (bH 2 (.cB (dK aU)) 3)];
  have a6:=((.fb o R.1 (eE dK R.2) (cD dK aA) (UR bh br) (cp.b bh)):cL _);
  .ite (fun bU =>
  .az fun eQ c2 =>
  (let t3:List cw:=t1.append [.aH (ap 1 (ar (bT 1 (.b bh) true) (ap 5 (ar (bT 2 (.n .i64 eQ) true) (ap 2 (ar (.ao false) []))))))];
  have fa:=a6.aZ (.bt (dc bU) (dc bU) (dc bU) (dc bU) (Ua eQ c2) (cp.n .i64 eQ) (dc bU) (dc bU) (.ax (dc bU)));
  .ite (fun dO =>
  .ret (bS (t3.append [.ao true,(ad 1),.bj [] [] (bR [2])]) (fa.aZ (.ax dO))))
  (fun dO =>
  .ret (bS (t3.append [.ao false,(ad 2),.bj [0] [.box [.id,.id]] (bR [1,16,17,18])]) (fa.aZ (.ax dO))))))
  (fun bU =>
  .ret (bS (t1.append [.aH (ap 1 (ar (bT 1 (.b bh) true) (ap 2 (dk 6 (ar (.ao true) []))))),.ao true,(ad 1),.bj [] [] (bR [2])]) (a6.aZ (.hh (df bU) (df bU) (df bU) (df bU) (df bU) (df bU) (df bU) ca))))))
  (fun o =>
  .ret (bS [(ad 1),.ao false,.bj [0] [.box [.id,.id]] (bR [1])] (.ax o)))
theorem L1 {fz:List bA}{jj:Int}{aG:List b4}{hQ:Int}{r} (h:B1 fz jj aG hQ=some r):fk bo 40 0 6 [1,1,0,1,0,0] (FP fz jj aG) (FT fz jj aG) hQ r:=fl (fun _=>S1) h
def q3 (aL:cz):Option Bool :=
 if (decide ((6:Int)<(len_ dK aL.cR)))=true then
  some false
 else
  if (decide ((8:Int)<(len_ d5 aL.bB)))=true then
   some false
  else
   B1 aL.cR (len_ dK aL.cR) aL.bB 0 >>= fun bk =>
   match bk with
   | .inl m0=>(yD aL.bB aL >>= fun cj =>
    some (!cj))
   | .inr m0=>(some false)
theorem B2 {aL:cz}:bQ (q3 aL) (fun r=>Con bo 6 [.agg (f9 aL)] [] (.b r) []):=by
 unfold q3
 exact .ite (fun o =>
  .ret (bP [(ad 2),.aH (ap 5 (dk 4 (ar (.ao true) []))),.ao true,(ad 1)] (.fb o o o o o ca)))
  (fun o =>
  (let t1:List cw:=[(ad 2),.aH (ap 9 (ar (.ao false) []))];
  .ite (fun R =>
  .ret (bP (t1.append [.ao true,(ad 1)]) (.fb o o o o o R)))
  (fun R =>
  .az fun bk aA =>
  (let t2:List cw:=t1.append [.ao false,(ad 4),.bj [0] [.box [.id,.id]] (bR [1,16,17,18])];
  (by
  rcases bk with m0|m0
  ·exact (.az fun cj bU =>
  .ret (bP (t2.append [(FT aL.cR (len_ dK aL.cR) aL.bB (.inl m0)).fW,.aH (bH 3 (.call {ac:=[ii,.comp [.ptr [.id,.id]]],r:= .b cj,c9:=true,dd:=[0]}) 2)]) (.bt o o o o o R (L1 aA) (k9 (pG aL):hc [(f9 aL)]) (.aC (Ss cj bU) (cp.b cj)))))
  ·exact (.ret (bP (t2.append [.sub (.ret) [(2,.b false)] []]) (.e2 o o o o o R (L1 aA)))))))))
def y7 (a0:Int):Option Bool :=
 if (decide ((-100:Int)≤a0))=true then
  some (decide (a0≤(100:Int)))
 else
  some false
theorem US {a0:Int}:bQ (y7 a0) (fun r=>Con bo 50 [.n .i64 a0] [] (.b r) []):=by
 unfold y7
 exact .ite (fun o =>
  .ret (bP [(ad 1),.aH (bH 5 (.ao true) 1)] (.bZ o o o)))
  (fun o =>
  .ret (bP [(ad 1),.aH (ap 3 (dk 2 (ar (.ao false) (ap 1 []))))] (.bZ o o o)))
def Ci (a0:Int):Option Bool :=
 y7 a0 >>= fun ak =>
 some (!ak)
theorem Ub {a0:Int}:bQ (Ci a0) (fun r=>Con bo 49 [.n .i64 a0] [] (.b r) []):=by
 unfold Ci
 exact .az fun ak R =>
  .ret (bP [(ad 1),.aH (bH 1 (bT 1 (.b ak) true) 2)] (.aC (US ak R) (cp.b ak)))
def E4 (aL:List Int)(dz:Int):Int→S:=fun dE=>eD [(0,.isl 1 (aL.map J)),(1,.fn 49 []),(7,.n .i64 dz),(8,.n .i64 dE)] []
def LH (aL:List Int)(dz:Int):((Unit)⊕(Int))→eJ
 | .inl a=>⟨some 0,[],[]⟩
 | .inr a=>⟨none,[(4,.n .i64 a)],[]⟩
def vw (aL:List Int)(dz dE:Int):Option ((Int)⊕((Unit)⊕(Int))) :=
 if (decide (dE<dz))=true then
  if 0≤dE∧dE<aL.length then
  aL[dE.toNat]? >>= fun aU =>
  Ci aU >>= fun bh =>
  if bh=true then
   some (.inr (.inr dE))
  else
   some (.inl (U (dE+(1:Int))))
  else none
 else
  some (.inr (.inl ()))
def Fl (aL:List Int)(dz dE:Int):Option ((Unit)⊕(Int)):=iter (fun w:Int=>vw aL dz w) dE
theorem Sp {aL:List Int}{dz dE:Int}:bQ (vw aL dz dE) (fj bo 19 0 80 [1,0,1,0,0] (E4 aL dz dE) (E4 aL dz) (LH aL dz)):=by
 unfold vw
 exact .ite (fun o =>
  .bn fun R =>
  .az fun aU aA =>
  .az fun bh br =>
  (let t1:List cw:=[(ad 1),.ao true,(ad 2),.aH (ap 4 (ar (.cB (J aU)) (ar (bT 1 (.b bh) true) [])))];
  have a6:=((.fb o R.1 (eE J R.2) (cD J aA) (Ub bh br) (cp.b bh)):cL _);
  .ite (fun bU =>
  .ret (bS (t1.append [.ao true,(ad 2),.bj [] [] (bR [4])]) (a6.aZ (.ax bU))))
  (fun bU =>
  .ret (bS (t1.append [.ao false,(ad 2),.bj [] [] (bR [0,1,7,8])]) (a6.aZ (.ax bU))))))
  (fun o =>
  .ret (bS [(ad 1),.ao false,.bj [] [] []] (.ax o)))
theorem LI {aL:List Int}{dz dE:Int}{r} (h:Fl aL dz dE=some r):fk bo 19 0 80 [1,0,1,0,0] (E4 aL dz) (LH aL dz) dE r:=fl (fun _=>Sp) h
def BK (aL:List Int):Option Int :=
 Fl aL (len_ J aL) 0 >>= fun ak =>
 match ak with
 | .inl bs=>(some (-1))
 | .inr bs=>(some bs)
theorem SS {aL:List Int}:bQ (BK aL) (fun r=>Con bo 80 [.isl 1 (aL.map J),.fn 49 []] [] (.n .i64 r) []):=by
 unfold BK
 exact .az fun ak R =>
  (let t1:List cw:=[(ad 1),(ad 3),.bj [] [] (bR [0,1,7,8])];
  (by
  rcases ak with bs|bs
  ·exact (.ret (bP (t1.append [.sub (.exit 0) [] [],(ad 1)]) (.ax (LI R))))
  ·exact (.ret (bP (t1.append [.sub (.ret) [(4,.n .i64 bs)] []]) (.ax (LI R))))))
def BF (aL:List Int):Option Bool :=
 BK aL >>= fun ak =>
 some (decide ((0:Int)≤ak))
theorem SD {aL:List Int}:bQ (BF aL) (fun r=>Con bo 48 [.isl 1 (aL.map J),.fn 49 []] [] (.b r) []):=by
 unfold BF
 exact .az fun ak R =>
  .ret (bP [(ad 1),.aH (bH 2 (bT 2 (.n .i64 ak) true) 2)] (.aC (SS ak R) (cp.n .i64 ak)))
def wN (aL:cz)(dS:List Int):Option Bool :=
 if ((len_ J dS) == (U ((2:Int)*(len_ dK aL.cR))))=true then
  BF dS >>= fun bm =>
  some (!bm)
 else
  some false
theorem UG {aL:cz}{dS:List Int}:bQ (wN aL dS) (fun r=>Con bo 21 [.ey 2 [(f9 aL)] 0 0,.isl 1 (dS.map J)] [] (.b r) []):=by
 unfold wN
 exact .ite (fun o =>
  .az fun bm ab =>
  .ret (bP [(ad 1),.aH (ap 11 (ar (bT 2 (.b bm) true) (bH 1 (.ao true) 1)))] (.fb o o (SD bm ab) (cp.b bm) o o)))
  (fun o =>
  .ret (bP [(ad 1),.aH (ap 10 (dk 3 (ar (.ao false) (ap 1 []))))] (.c8 o o o o)))
def wU (aL:cz)(dS:List Int):Option Bool :=
 q3 aL >>= fun ak =>
 if ak=true then
  wN aL dS >>= fun aX =>
  some aX
 else
  some false
theorem MN {aL:cz}{dS:List Int}:bQ (wU aL dS) (fun r=>Con bo 5 [.agg (f9 aL),.isl 1 (dS.map J)] [] (.b r) []):=by
 unfold wU
 exact .az fun ak R =>
  (have b3:=((.aC (B2 ak R) (cp.b ak)):cL _);
  .ite (fun ab =>
  .az fun aX aF =>
  .ret (bP [(ad 2),.aH (ap 1 (ar (bT 1 (.b ak) true) (ap 2 (ar (.call {ac:=[.bF (.ptr [.id,.id]),ii],r:= .b aX,c9:=true,dd:=[0]}) (ar (.ao true) (ap 1 []))))))] (b3.aZ (.fb ab ab (k9 (pG aL):hc [(f9 aL)]) (UG aX aF) (cp.b aX) ab))))
  (fun ab =>
  .ret (bP [(ad 2),.aH (ap 1 (ar (bT 1 (.b ak) true) (ap 1 (dk 2 (ar (.ao false) (ap 1 []))))))] (b3.aZ (.bZ ab ab ab)))))
def E8 (gx:List bA)(ea:Int):(Int×(List Int))→S:=fun (dG,aj)=>eD [(3,.bw 0 0 0 aj.length),(9,.isl 4 (gx.map dK)),(10,.n .i64 ea),(11,.n .i64 dG)] [(av 1 J aj)]
def LK (gx:List bA)(ea:Int):(List Int)→eJ
 | a=>⟨some 0,[(3,.bw 0 0 0 a.length)],[(av 1 J a)]⟩
def yE (gx:List bA)(ea dG:Int)(aj:List Int):Option ((Int×(List Int))⊕((List Int))) :=
 if (decide (dG<ea))=true then
  if 0≤dG∧dG<gx.length then
  gx[dG.toNat]? >>= fun aU =>
  if aU.nE=true then
   some (.inl (U (dG+(1:Int)),aj))
  else
   if (aj++([dG]:List Int)).length*8≤140737488355328 then
   some (.inl (U (dG+(1:Int)),aj++([dG]:List Int)))
   else none
  else none
 else
  some (.inr aj)
def Fq (gx:List bA)(ea dG:Int)(aj:List Int):Option ((List Int)):=iter (fun w:Int×(List Int)=>yE gx ea w.1 w.2) (dG,aj)
theorem St {gx:List bA}{ea dG:Int}{aj:List Int}:bQ (yE gx ea dG aj) (fj bo 25 0 60 [1,1,0,1,0,0] (E8 gx ea (dG,aj)) (E8 gx ea) (LK gx ea)):=by
 unfold yE
 exact .ite (fun o =>
  .bn fun R =>
  .az fun aU aA =>
  (let t1:List cw:=[(ad 1),.ao true,.aH (bH 2 (.cB (dK aU)) 3),(ad 3)];
  have a6:=((.c8 o R.1 (eE dK R.2) (cD dK aA)):cL _);
  .ite (fun aF =>
  .ret (bS (t1.append [.ao false,(ad 2),.bj [0] [.pure] (bR [3,9,10,11])]) (a6.aZ (.aC (dc aF) (aE 1 .live aD aj)))))
  (fun aF =>
  .bn fun br =>
  .ret (let aW:=(aj++([dG]:List Int));bS (t1.append [.ao true,.aH (bH 3 (.aZ (aW.length)) 1),(ad 2),.bj [14] [.dw (av 1 J aW)] (bR [3,9,10,11])]) (a6.aZ (.e2 (df aF) (k6 J dG) (o4 J aj) (nt J aj dG) br (d4 1 .live (o5 J aj dG)) (aE 1 .live aD aW)))))))
  (fun o =>
  .ret (bS [(ad 1),.ao false,.bj [0] [.pure] (bR [3])] (.aC o (aE 1 .live aD aj))))
theorem SK {gx:List bA}{ea dG:Int}{aj:List Int}{r} (h:Fq gx ea dG aj=some r):fk bo 25 0 60 [1,1,0,1,0,0] (E8 gx ea) (LK gx ea) (dG,aj) r:=fl (fun _=>St) h
def vO (aL:cz):Option (List Int) :=
 Fq aL.cR (len_ dK aL.cR) 0 ([]:List Int) >>= fun ak =>
 some ak
theorem LS {aL:cz}:bQ (vO aL) (fun r=>Con bo 60 [.ey 2 [(f9 aL)] 0 0] [] (.isl 1 (r.map J)) []):=by
 unfold vO
 exact .az fun ak R =>
  .ret (bP [(ad 1),(ad 1),(ad 6),.rk 3 1,.bj [8] [.dw (av 1 J ([]:List Int))] [(3,fQ (([]:List Int).length)),(9,ii),(10,ii),(11,ii)],.sub (.exit 0) [(3,.bw 0 0 0 ak.length)] [(av 1 J ak)],(ad 2)] (.e2 (d4 1 .live (qT J)) (aE 1 .live aD ([]:List Int)) (mB Int) (SK R) (ia J ak) (ht J ak) (eF aD ak)) (.bF (.b9 (.e5 (ak.map J)))))
def sD (aL:cz)(cl:Int):Option (Int×Int) :=
 if 0≤cl∧cl<aL.bB.length then
 aL.bB[cl.toNat]? >>= fun e1 =>
 if 0≤e1.gu∧e1.gu<aL.cR.length then
 aL.cR[e1.gu.toNat]? >>= fun mA =>
 if 0≤e1.gr∧e1.gr<aL.cR.length then
 aL.cR[e1.gr.toNat]? >>= fun nZ =>
 some (U (mA.l0-nZ.l0),U (mA.l1-nZ.l1))
 else none
 else none
 else none
theorem LV {aL:cz}{cl:Int}:bQ (sD aL cl) (fun r=>Con bo 63 [.ey 2 [(f9 aL)] 0 0,.n .i64 cl] [] (.cW [.n .i64 r.1,.n .i64 r.2]) []):=by
 unfold sD
 exact .bn fun o =>
  .az fun e1 ab =>
  .bn fun aA =>
  .az fun mA br =>
  .bn fun bU =>
  .az fun nZ c2 =>
  .ret (bP [(ad 2),.aH (bH 6 (.cB (d5 e1)) 2),.aH (ap 8 (ar (.cB (dK mA)) (ap 8 (ar (.cB (dK nZ)) (ap 9 (ar (.cB (dK mA)) (bH 8 (.cB (dK nZ)) 3)))))))] (.bt o.1 (eE d5 o.2) (cD d5 ab) aA.1 (eE dK aA.2) (cD dK br) bU.1 (eE dK bU.2) (.e2 (cD dK c2) aA.1 (eE dK aA.2) (cD dK br) bU.1 (eE dK bU.2) (cD dK c2))))
def E5 (ex:List bA)(dU:List b4)(dV:Int)(cY:List Int)(cv gv dg:Int)(aj:List (List Int)):(Int×(List Int)×(List Int))→S:=fun (f5,ae,aR)=>eD [(0,.ey 2 [[.isl 4 (ex.map dK),.isl 3 (dU.map d5)]] 0 0),(3,.bw 0 0 0 aj.length),(5,.n .i64 dV),(6,.bw 1 0 0 ae.length),(7,.bw 2 0 0 aR.length),(13,.isl 1 (cY.map J)),(14,.n .i64 cv),(15,.n .i64 gv),(34,.isl 3 (dU.map d5)),(35,.n .i64 dg),(36,.n .i64 f5)] [(av 1 (e7 1 J) aj),(av 1 J ae),(av 1 J aR)]
def E9 (ex:List bA)(dU:List b4)(dV:Int)(cY:List Int)(cv gv dg:Int)(aj:List (List Int)):((List Int)×(List Int))→eJ
 | a=>⟨some 2,[(0,.ey 2 [[.isl 4 (ex.map dK),.isl 3 (dU.map d5)]] 0 0),(3,.bw 0 0 0 aj.length),(6,.bw 1 0 0 a.1.length),(7,.bw 2 0 0 a.2.length),(13,.isl 1 (cY.map J)),(14,.n .i64 cv),(15,.n .i64 gv)],[(av 1 (e7 1 J) aj),(av 1 J a.1),(av 1 J a.2)]⟩
def vx (ex:List bA)(dU:List b4)(dV:Int)(cY:List Int)(cv gv dg:Int)(aj:List (List Int))(f5:Int)(ae aR:List Int):Option ((Int×(List Int)×(List Int))⊕((List Int)×(List Int))) :=
 if (decide (f5<dg))=true then
  if 0≤f5∧f5<dU.length then
  dU[f5.toNat]? >>= fun aU =>
  sD (⟨ex,dU⟩:cz) f5 >>= fun bh =>
  if (dV == aU.gr)=true then
   if 0≤f5∧f5<(ae.length:Nat) then
   if (0+f5.toNat)<ae.length then
   if 0≤f5∧f5<(aR.length:Nat) then
   if (0+f5.toNat)<aR.length then
   some (.inl (U (f5+(1:Int)),ae.set (0+f5.toNat) bh.1,aR.set (0+f5.toNat) bh.2))
   else none
   else none
   else none
   else none
  else
   if (dV == aU.gu)=true then
    if 0≤f5∧f5<(ae.length:Nat) then
    if (0+f5.toNat)<ae.length then
    if 0≤f5∧f5<(aR.length:Nat) then
    if (0+f5.toNat)<aR.length then
    some (.inl (U (f5+(1:Int)),ae.set (0+f5.toNat) (U (0-bh.1)),aR.set (0+f5.toNat) (U (0-bh.2))))
    else none
    else none
    else none
    else none
   else
    some (.inl (U (f5+(1:Int)),ae,aR))
  else none
 else
  some (.inr (ae,aR))
def BJ (ex:List bA)(dU:List b4)(dV:Int)(cY:List Int)(cv gv dg:Int)(aj:List (List Int))(f5:Int)(ae aR:List Int):Option ((List Int)×(List Int)):=iter (fun w:Int×(List Int)×(List Int)=>vx ex dU dV cY cv gv dg aj w.1 w.2.1 w.2.2) (f5,ae,aR)
theorem Sq {ex:List bA}{dU:List b4}{dV:Int}{cY:List Int}{cv gv dg:Int}{aj:List (List Int)}{f5:Int}{ae aR:List Int}:bQ (vx ex dU dV cY cv gv dg aj f5 ae aR) (fj bo 82 0 59 [1,1,0,1,0,0,1,1,0,0,1,1,0,1,0,0] (E5 ex dU dV cY cv gv dg aj (f5,ae,aR)) (E5 ex dU dV cY cv gv dg aj) (E9 ex dU dV cY cv gv dg aj)):=by
 unfold vx
 exact .ite (fun o =>
  .bn fun R =>
  .az fun aU aA =>
  .az fun bh br =>
  (let t1:List cw:=[(ad 1),.ao true,.aH (bH 2 (.cB (d5 aU)) 3),.aH (bH 2 (bT 2 (.cW [.n .i64 bh.1,.n .i64 bh.2]) true) 5),(ad 1),(ad 4)];
  have a6:=((.fb o R.1 (eE d5 R.2) (cD d5 aA) (LV bh br) (uq (l3 (cp.n .i64 bh.1) (l3 (cp.n .i64 bh.2) sQ)))):cL _);
  .ite (fun bU =>
  .bn fun bx =>
  .bn fun c2 =>
  .bn fun dO =>
  .bn fun d2 =>
  .ret (bS (t1.append [.ao true,.aH (ap 7 (ar .cT (ap 1 (ar .cT [])))),(ad 2),.bj [0,1,2] [.pure,.dw (av 1 J (ae.set (0+f5.toNat) bh.1)),.dw (av 1 J (aR.set (0+f5.toNat) bh.2))] [(0,ii),(3,ii),(5,ii),(6,fQ ((ae.set (0+f5.toNat) bh.1).length)),(7,fQ ((aR.set (0+f5.toNat) bh.2).length)),(13,ii),(14,ii),(15,ii),(34,ii),(35,ii),(36,ii)]]) (a6.aZ (.bt bU bx.1 bx.2 (hb J c2) (gB 1) dO.1 dO.2 (hb J d2) (.hh (gB 1) (aE 1 .live (pe (sz:=1) aD) aj) (d4 1 .live (fs (dF J ae) (0+f5.toNat) bh.1)) (aE 1 .live aD (ae.set (0+f5.toNat) bh.1)) (d4 1 .live (fs (dF J aR) (0+f5.toNat) bh.2)) (aE 1 .live aD (aR.set (0+f5.toNat) bh.2)) (gP (fq ae) (0+f5.toNat) bh.1) (gP (fq aR) (0+f5.toNat) bh.2))))))
  (fun bU =>
  .ite (fun bx =>
  .bn fun c2 =>
  .bn fun dO =>
  .bn fun d2 =>
  .bn fun ev =>
  .ret (let aW:=U (0-bh.1);let bl:=U (0-bh.2);bS (t1.append [.ao false,(ad 4),.ao true,.aH (ap 9 (ar .cT (ap 1 (ar .cT [])))),(ad 2),.bj [0,1,2] [.pure,.dw (av 1 J (ae.set (0+f5.toNat) aW)),.dw (av 1 J (aR.set (0+f5.toNat) bl))] [(0,ii),(3,ii),(5,ii),(6,fQ ((ae.set (0+f5.toNat) aW).length)),(7,fQ ((aR.set (0+f5.toNat) bl).length)),(13,ii),(14,ii),(15,ii),(34,ii),(35,ii),(36,ii)]]) (a6.aZ (.bt bU bx c2.1 c2.2 (hb J dO) (gB 1) d2.1 d2.2 (.bt (hb J ev) (gB 1) (aE 1 .live (pe (sz:=1) aD) aj) (d4 1 .live (fs (dF J ae) (0+f5.toNat) aW)) (aE 1 .live aD (ae.set (0+f5.toNat) aW)) (d4 1 .live (fs (dF J aR) (0+f5.toNat) bl)) (aE 1 .live aD (aR.set (0+f5.toNat) bl)) (gP (fq ae) (0+f5.toNat) aW) (.ax (gP (fq aR) (0+f5.toNat) bl)))))))
  (fun bx =>
  .ret (bS (t1.append [.ao false,(ad 4),.ao false,(ad 2),.bj [0,1,2] [.pure,.pure,.pure] (bR [0,3,5,6,7,13,14,15,34,35,36])]) (a6.aZ (.ep bU bx (aE 1 .live (pe (sz:=1) aD) aj) (aE 1 .live aD ae) (aE 1 .live aD aR))))))))
  (fun o =>
  .ret (bS [(ad 1),.ao false,.bj [0,1,2] [.pure,.pure,.pure] (bR [0,3,6,7,13,14,15])] (.c8 o (aE 1 .live (pe (sz:=1) aD) aj) (aE 1 .live aD ae) (aE 1 .live aD aR))))
theorem SG {ex:List bA}{dU:List b4}{dV:Int}{cY:List Int}{cv gv dg:Int}{aj:List (List Int)}{f5:Int}{ae aR:List Int}{r} (h:BJ ex dU dV cY cv gv dg aj f5 ae aR=some r):fk bo 82 0 59 [1,1,0,1,0,0,1,1,0,0,1,1,0,1,0,0] (E5 ex dU dV cY cv gv dg aj) (E9 ex dU dV cY cv gv dg aj) (f5,ae,aR) r:=fl (fun _=>Sq) h
def E6 (ex:List bA)(dU:List b4)(cY:List Int)(cv:Int):(Int×(List (List Int)))→S:=fun (gv,aj)=>eD [(0,.ey 2 [[.isl 4 (ex.map dK),.isl 3 (dU.map d5)]] 0 0),(3,.bw 0 0 0 aj.length),(13,.isl 1 (cY.map J)),(14,.n .i64 cv),(15,.n .i64 gv)] [(av 1 (e7 1 J) aj)]
def LJ (ex:List bA)(dU:List b4)(cY:List Int)(cv:Int):(List (List Int))→eJ
 | a=>⟨some 0,[(3,.bw 0 0 0 a.length)],[(av 1 (e7 1 J) a)]⟩
def vy (ex:List bA)(dU:List b4)(cY:List Int)(cv gv:Int)(aj:List (List Int)):Option ((Int×(List (List Int)))⊕((List (List Int)))) :=
 if (decide (gv<cv))=true then
  if 0≤gv∧gv<cY.length then
  cY[gv.toNat]? >>= fun aU =>
  if 0≤(len_ d5 dU)∧(8:Int)*(len_ d5 dU)≤281474976710656∧(len_ d5 dU)<9223372036854775808 then
  BJ ex dU aU cY cv gv (len_ d5 dU) aj 0 (List.replicate (len_ d5 dU).toNat 0:List Int) (List.replicate (len_ d5 dU).toNat 0:List Int) >>= fun cj =>
  if (aj++([cj.1,cj.2]:List (List Int))).length*24≤140737488355328 then
  some (.inl (U (gv+(1:Int)),aj++([cj.1,cj.2]:List (List Int))))
  else none
  else none
  else none
 else
  some (.inr aj)
def Fp (ex:List bA)(dU:List b4)(cY:List Int)(cv gv:Int)(aj:List (List Int)):Option ((List (List Int))):=iter (fun w:Int×(List (List Int))=>vy ex dU cY cv w.1 w.2) (gv,aj)
theorem Sr {ex:List bA}{dU:List b4}{cY:List Int}{cv gv:Int}{aj:List (List Int)}:bQ (vy ex dU cY cv gv aj) (fj bo 82 0 59 [1,1,0,1,0,0] (E6 ex dU cY cv (gv,aj)) (E6 ex dU cY cv) (LJ ex dU cY cv)):=by
 unfold vy
 exact .ite (fun o =>
  .bn fun R =>
  .az fun aU aA =>
  .bn fun aF =>
  .az fun cj bU =>
  .bn fun bx =>
  .ret (let bl:=(aj++([cj.1,cj.2]:List (List Int)));let cc:=len_ d5 dU;let aW:=(List.replicate cc.toNat 0:List Int);let cM:=pe (sz:=1) aD;let eN:=d4 1 .live (kp J cc.toNat 0);bS [(ad 1),.ao true,.aH (bH 1 (.cB (J aU)) 1),(ad 14),(ad 6),.bj [0,10,16] [.pure,.dw (av 1 J aW),.dw (av 1 J aW)] [(0,ii),(3,ii),(5,ii),(6,fQ (aW.length)),(7,fQ (aW.length)),(13,ii),(14,ii),(15,ii),(34,ii),(35,ii),(36,ii)],(E9 ex dU aU cY cv gv cc aj cj).fW,.bj [0] [.pure] [(0,ii),(3,ii),(6,.bF (.b9 (.e5 (cj.1.map J)))),(7,.bF (.b9 (.e5 (cj.2.map J)))),(13,ii),(14,ii),(15,ii)],.aH (bH 4 (.aZ (bl.length)) 1),(ad 2),.bj [5] [.dw (av 1 (e7 1 J) bl)] (bR [0,3,13,14,15])] (.bt o R.1 (eE J R.2) (cD J aA) aF.1 (Int.le_refl cc) aF.2.1 aF.2.2 (.bt aF.1 (Int.le_refl cc) aF.2.1 aF.2.2 (aE 1 .live cM aj) eN (aE 1 .live aD aW) eN (.bt (aE 1 .live aD aW) (kB cc.toNat (0:Int)) (kB cc.toNat (0:Int)) (SG bU) (aE 1 .live cM aj) (ia J cj.1) (ht J cj.1) (eF aD cj.1) (.bt (ia J cj.2) (ht J cj.2) (eF aD cj.2) (n6 (show [[.isl 1 (cj.1.map J)],[.isl 1 (cj.2.map J)]]=(([cj.1,cj.2]:List (List Int))).map (e7 1 J) from rfl) (show 2=([cj.1,cj.2]:List (List Int)).length from rfl)) (o4 (e7 1 J) aj) (xm (fq aj) (zX (show [[.isl 1 (cj.1.map J)],[.isl 1 (cj.2.map J)]]=(([cj.1,cj.2]:List (List Int))).map (e7 1 J) from rfl) (show 2=([cj.1,cj.2]:List (List Int)).length from rfl)):bl.length=aj.length+(([[.isl 1 (cj.1.map J)],[.isl 1 (cj.2.map J)]].drop 0).take 2).length) bx (d4 1 .live (qs (dF (e7 1 J) aj) (fq aj) (zX (show [[.isl 1 (cj.1.map J)],[.isl 1 (cj.2.map J)]]=(([cj.1,cj.2]:List (List Int))).map (e7 1 J) from rfl) (show 2=([cj.1,cj.2]:List (List Int)).length from rfl)))) (.ax (aE 1 .live cM bl))))))))
  (fun o =>
  .ret (bS [(ad 1),.ao false,.bj [0] [.pure] (bR [3])] (.aC o (aE 1 .live (pe (sz:=1) aD) aj))))
theorem SH {ex:List bA}{dU:List b4}{cY:List Int}{cv gv:Int}{aj:List (List Int)}{r} (h:Fp ex dU cY cv gv aj=some r):fk bo 82 0 59 [1,1,0,1,0,0] (E6 ex dU cY cv) (LJ ex dU cY cv) (gv,aj) r:=fl (fun _=>Sr) h
def yH (aL:cz):Option (List (List Int)) :=
 vO aL >>= fun ak =>
 Fp aL.cR aL.bB ak (len_ J ak) 0 ([]:List (List Int)) >>= fun bk =>
 some bk
theorem SV {aL:cz}:bQ (yH aL) (fun r=>Con bo 59 [.ey 2 [(f9 aL)] 0 0] [] (.isl 1 (r.map (e7 1 J))) []):=by
 unfold yH
 exact .az fun ak R =>
  .az fun bk aA =>
  .ret (bP [(ad 1),(ad 1),.aH (bH 1 (bT 1 (.isl 1 (ak.map J)) false) 2),.rk 3 1,.bj [6] [.dw (av 1 (e7 1 J) ([]:List (List Int)))] [(0,ii),(3,fQ (([]:List (List Int)).length)),(13,ii),(14,ii),(15,ii)],.sub (.exit 0) [(3,.bw 0 0 0 bk.length)] [(av 1 (e7 1 J) bk)],(ad 2)] (.hh (LS ak R) (d4 1 .live (qT (e7 1 J))) (aE 1 .live (pe (sz:=1) aD) ([]:List (List Int))) (mB (List Int)) (SH aA) (ia (e7 1 J) bk) (ht (e7 1 J) bk) (eF (pe (sz:=1) aD) bk)) (.bF (.b9 (.e5 (bk.map (e7 1 J))))))
def Fm (gx:List b4)(ea:Int):(Int×(List eW))→S:=fun (dG,aj)=>eD [(3,.bw 0 0 0 aj.length),(9,.isl 3 (gx.map d5)),(10,.n .i64 ea),(11,.n .i64 dG)] [(av 2 e8 aj)]
def LO (gx:List b4)(ea:Int):(List eW)→eJ
 | a=>⟨some 0,[(3,.bw 0 0 0 a.length)],[(av 2 e8 a)]⟩
def vC (gx:List b4)(ea dG:Int)(aj:List eW):Option ((Int×(List eW))⊕((List eW))) :=
 if (decide (dG<ea))=true then
  if 0≤dG∧dG<gx.length then
  gx[dG.toNat]? >>= fun aU =>
  if (aU.mJ != (2:Int))=true then
   if (aj++([(⟨dG,1⟩:eW)]:List eW)).length*16≤140737488355328 then
   if (aU.mJ != (1:Int))=true then
    if ((aj++([(⟨dG,1⟩:eW)]:List eW))++([(⟨dG,(-1)⟩:eW)]:List eW)).length*16≤140737488355328 then
    some (.inl (U (dG+(1:Int)),(aj++([(⟨dG,1⟩:eW)]:List eW))++([(⟨dG,(-1)⟩:eW)]:List eW)))
    else none
   else
    some (.inl (U (dG+(1:Int)),aj++([(⟨dG,1⟩:eW)]:List eW)))
   else none
  else
   if (aU.mJ != (1:Int))=true then
    if (aj++([(⟨dG,(-1)⟩:eW)]:List eW)).length*16≤140737488355328 then
    some (.inl (U (dG+(1:Int)),aj++([(⟨dG,(-1)⟩:eW)]:List eW)))
    else none
   else
    some (.inl (U (dG+(1:Int)),aj))
  else none
 else
  some (.inr aj)
def FJ (gx:List b4)(ea dG:Int)(aj:List eW):Option ((List eW)):=iter (fun w:Int×(List eW)=>vC gx ea w.1 w.2) (dG,aj)
theorem SE {gx:List b4}{ea dG:Int}{aj:List eW}:bQ (vC gx ea dG aj) (fj bo 34 0 57 [1,1,0,1,0,0] (Fm gx ea (dG,aj)) (Fm gx ea) (LO gx ea)):=by
 unfold vC
 exact .ite (fun o =>
  .bn fun R =>
  .az fun aU aA =>
  (let t1:List cw:=[(ad 1),.ao true,.aH (bH 2 (.cB (d5 aU)) 3),(ad 3)];
  have a6:=((.c8 o R.1 (eE d5 R.2) (cD d5 aA)):cL _);
  .ite (fun aF =>
  .bn fun br =>
  (let t3:List cw:=t1.append [.ao true,.aH (bH 4 (.aZ ((aj++([(⟨dG,1⟩:eW)]:List eW)).length)) 1),(ad 3)];
  have fa:=a6.aZ (.ep aF (k6 e8 (⟨dG,1⟩:eW)) (o4 e8 aj) (nt e8 aj (⟨dG,1⟩:eW)) br);
  .ite (fun bU =>
  .bn fun bx =>
  .ret (let aW:=(aj++([(⟨dG,1⟩:eW)]:List eW));let bl:=(aW++([(⟨dG,(-1)⟩:eW)]:List eW));let cc:=(o5 e8 aj (⟨dG,1⟩:eW));bS (t3.append [.ao true,.aH (bH 4 (.aZ (bl.length)) 1),(ad 2),.bj [24] [.dw (av 2 e8 bl)] (bR [3,9,10,11])]) (fa.aZ (.e2 bU (k6 e8 (⟨dG,(-1)⟩:eW)) (ue cc (fq aW)) (nt e8 aW (⟨dG,(-1)⟩:eW)) bx (d4 2 .live (qs cc (fq aW) (vg e8 (⟨dG,(-1)⟩:eW)))) (aE 2 .live tG bl)))))
  (fun bU =>
  .ret (let cM:=(aj++([(⟨dG,1⟩:eW)]:List eW));bS (t3.append [.ao false,(ad 2),.bj [15] [.dw (av 2 e8 cM)] (bR [3,9,10,11])]) (fa.aZ (.bZ bU (d4 2 .live (o5 e8 aj (⟨dG,1⟩:eW))) (aE 2 .live tG cM)))))))
  (fun aF =>
  .ite (fun br =>
  .bn fun bU =>
  .ret (let eN:=(aj++([(⟨dG,(-1)⟩:eW)]:List eW));bS (t1.append [.ao false,(ad 3),.ao true,.aH (bH 4 (.aZ (eN.length)) 1),(ad 2),.bj [18] [.dw (av 2 e8 eN)] (bR [3,9,10,11])]) (a6.aZ (.hh aF br (k6 e8 (⟨dG,(-1)⟩:eW)) (o4 e8 aj) (nt e8 aj (⟨dG,(-1)⟩:eW)) bU (d4 2 .live (o5 e8 aj (⟨dG,(-1)⟩:eW))) (aE 2 .live tG eN)))))
  (fun br =>
  .ret (bS (t1.append [.ao false,(ad 3),.ao false,(ad 2),.bj [0] [.pure] (bR [3,9,10,11])]) (a6.aZ (.bZ aF br (aE 2 .live tG aj))))))))
  (fun o =>
  .ret (bS [(ad 1),.ao false,.bj [0] [.pure] (bR [3])] (.aC o (aE 2 .live tG aj))))
theorem SX {gx:List b4}{ea dG:Int}{aj:List eW}{r} (h:FJ gx ea dG aj=some r):fk bo 34 0 57 [1,1,0,1,0,0] (Fm gx ea) (LO gx ea) (dG,aj) r:=fl (fun _=>SE) h
def ty (aL:cz):Option (List eW) :=
 FJ aL.bB (len_ d5 aL.bB) 0 ([]:List eW) >>= fun ak =>
 some ak
theorem FK {aL:cz}:bQ (ty aL) (fun r=>Con bo 57 [.ey 2 [(f9 aL)] 0 0] [] (.isl 2 (r.map e8)) []):=by
 unfold ty
 exact .az fun ak R =>
  .ret (bP [(ad 1),(ad 1),(ad 6),.rk 3 2,.bj [8] [.dw (av 2 e8 ([]:List eW))] [(3,fQ (([]:List eW).length)),(9,ii),(10,ii),(11,ii)],.sub (.exit 0) [(3,.bw 0 0 0 ak.length)] [(av 2 e8 ak)],(ad 2)] (.e2 (d4 2 .live (qT e8)) (aE 2 .live tG ([]:List eW)) (mB eW) (SX R) (ia e8 ak) (ht e8 ak) (eF tG ak)) (.bF (.b9 (.e5 (ak.map e8)))))
def EX (ex:List bA)(dU:List b4)(dS:List Int)(hY:List eW)(bd:Int)(gl:List Int)(ft:List (List Int))(iV hf gw fZ:Int)(an a4:List Int):(Int×(List Int))→S:=fun (lO,aR)=>eD [(0,.ey 2 [[.isl 4 (ex.map dK),.isl 3 (dU.map d5)]] 0 0),(1,.isl 1 (dS.map J)),(8,.ref 0 0 0 0),(10,.isl 2 (hY.map e8)),(11,.ref 1 0 0 0),(12,.n .i64 bd),(13,.isl 1 (gl.map J)),(46,.isl 1 (ft.map (e7 1 J))),(47,.n .i64 iV),(48,.n .i64 bd),(53,.isl 2 (hY.map e8)),(54,.n .i64 hf),(55,.n .i64 lO)] [[aq.mk 5 [[.n .i64 (0:Int),.n .i64 (0:Int),.d7,.d7,.d7]] .live],[aq.mk 5 [(gp gw fZ 2 0 0 aR.length 3 0 0 an.length 4 0 0 a4.length)] .live],(av 1 J aR),(av 1 J an),(av 1 J a4)]
def E1 (ex:List bA)(dU:List b4)(dS:List Int)(hY:List eW)(bd:Int)(gl:List Int)(ft:List (List Int))(iV hf gw fZ:Int)(an a4:List Int):(List Int)→eJ
 | a=>⟨some 2,[(0,.ey 2 [[.isl 4 (ex.map dK),.isl 3 (dU.map d5)]] 0 0),(1,.isl 1 (dS.map J)),(8,.ref 0 0 0 0),(10,.isl 2 (hY.map e8)),(11,.ref 1 0 0 0),(46,.isl 1 (ft.map (e7 1 J))),(47,.n .i64 iV),(48,.n .i64 bd)],[[aq.mk 5 [[.n .i64 (0:Int),.n .i64 (0:Int),.d7,.d7,.d7]] .live],[aq.mk 5 [(gp gw fZ 2 0 0 a.length 3 0 0 an.length 4 0 0 a4.length)] .live],(av 1 J a),(av 1 J an),(av 1 J a4)]⟩
def vr (ex:List bA)(dU:List b4)(dS:List Int)(hY:List eW)(bd:Int)(gl:List Int)(ft:List (List Int))(iV hf gw fZ:Int)(an a4:List Int)(lO:Int)(aR:List Int):Option ((Int×(List Int))⊕((List Int))) :=
 if (decide (lO<hf))=true then
  if 0≤lO∧lO<hY.length then
  hY[lO.toNat]? >>= fun aU =>
  if 0≤aU.hp∧aU.hp<gl.length then
  gl[aU.hp.toNat]? >>= fun cd =>
  if 0≤(U ((U (bd*fZ))+lO))∧(U ((U (bd*fZ))+lO))<(aR.length:Nat) then
  if (0+(U ((U (bd*fZ))+lO)).toNat)<aR.length then
  some (.inl (U (lO+(1:Int)),aR.set (0+(U ((U (bd*fZ))+lO)).toNat) (U (aU.sY*cd))))
  else none
  else none
  else none
  else none
 else
  some (.inr aR)
def Fb (ex:List bA)(dU:List b4)(dS:List Int)(hY:List eW)(bd:Int)(gl:List Int)(ft:List (List Int))(iV hf gw fZ:Int)(an a4:List Int)(lO:Int)(aR:List Int):Option ((List Int)):=iter (fun w:Int×(List Int)=>vr ex dU dS hY bd gl ft iV hf gw fZ an a4 w.1 w.2) (lO,aR)
theorem Sl {ex:List bA}{dU:List b4}{dS:List Int}{hY:List eW}{bd:Int}{gl:List Int}{ft:List (List Int)}{iV hf gw fZ:Int}{an a4:List Int}{lO:Int}{aR:List Int}:bQ (vr ex dU dS hY bd gl ft iV hf gw fZ an a4 lO aR) (fj bo 113 0 28 [1,1,1,1,0,1,0,0,1,1,0,0,1,1,0,0] (EX ex dU dS hY bd gl ft iV hf gw fZ an a4 (lO,aR)) (EX ex dU dS hY bd gl ft iV hf gw fZ an a4) (E1 ex dU dS hY bd gl ft iV hf gw fZ an a4)):=by
 unfold vr
 exact .ite (fun o =>
  .bn fun R =>
  .az fun aU aA =>
  .bn fun aF =>
  .az fun cd bU =>
  .bn fun bx =>
  .bn fun c2 =>
  .ret (let aW:=U ((U (bd*fZ))+lO);let bl:=U (aU.sY*cd);bS [(ad 1),.ao true,.aH (bH 2 (.cB (e8 aU)) 3),.aH (ap 14 (ar (.cB (J cd)) (ap 2 (ar .cT [])))),(ad 2),.bj [0,1,2,3,4] [.box [.id,.id,.id,.id,.id],.box [.id,.id,.len ((aR.set (0+aW.toNat) bl).length),.id,.id],.dw (av 1 J (aR.set (0+aW.toNat) bl)),.pure,.pure] (bR [0,1,8,10,11,12,13,46,47,48,53,54,55])] (.bt o R.1 (eE e8 R.2) (cD e8 aA) aF.1 (eE J aF.2) (cD J bU) bx.1 (.hh bx.2 (hb J c2) (gB 1) (gP (fq aR) (0+aW.toNat) bl) (d4 1 .live (fs (dF J aR) (0+aW.toNat) bl)) (aE 1 .live aD (aR.set (0+aW.toNat) bl)) (aE 1 .live aD an) (aE 1 .live aD a4)))))
  (fun o =>
  .ret (bS [(ad 1),.ao false,.bj [0,1,2,3,4] [.box [.id,.id,.id,.id,.id],.box [.id,.id,.id,.id,.id],.pure,.pure,.pure] (bR [0,1,8,10,11,46,47,48])] (.c8 o (aE 1 .live aD aR) (aE 1 .live aD an) (aE 1 .live aD a4))))
theorem Su {ex:List bA}{dU:List b4}{dS:List Int}{hY:List eW}{bd:Int}{gl:List Int}{ft:List (List Int)}{iV hf gw fZ:Int}{an a4:List Int}{lO:Int}{aR:List Int}{r} (h:Fb ex dU dS hY bd gl ft iV hf gw fZ an a4 lO aR=some r):fk bo 113 0 28 [1,1,1,1,0,1,0,0,1,1,0,0,1,1,0,0] (EX ex dU dS hY bd gl ft iV hf gw fZ an a4) (E1 ex dU dS hY bd gl ft iV hf gw fZ an a4) (lO,aR) r:=fl (fun _=>Sl) h
def EY (ex:List bA)(dU:List b4)(dS:List Int)(hY:List eW)(ft:List (List Int))(iV gw fZ:Int)(an a4:List Int):(Int×(List Int))→S:=fun (m8,aR)=>eD [(0,.ey 2 [[.isl 4 (ex.map dK),.isl 3 (dU.map d5)]] 0 0),(1,.isl 1 (dS.map J)),(8,.ref 0 0 0 0),(10,.isl 2 (hY.map e8)),(11,.ref 1 0 0 0),(46,.isl 1 (ft.map (e7 1 J))),(47,.n .i64 iV),(48,.n .i64 m8)] [[aq.mk 5 [[.n .i64 (0:Int),.n .i64 (0:Int),.d7,.d7,.d7]] .live],[aq.mk 5 [(gp gw fZ 2 0 0 aR.length 3 0 0 an.length 4 0 0 a4.length)] .live],(av 1 J aR),(av 1 J an),(av 1 J a4)]
def E2 (ex:List bA)(dU:List b4)(dS:List Int)(hY:List eW)(ft:List (List Int))(iV gw fZ:Int)(an a4:List Int):(List Int)→eJ
 | a=>⟨some 0,[(0,.ey 2 [[.isl 4 (ex.map dK),.isl 3 (dU.map d5)]] 0 0),(1,.isl 1 (dS.map J)),(8,.ref 0 0 0 0),(11,.ref 1 0 0 0)],[[aq.mk 5 [[.n .i64 (0:Int),.n .i64 (0:Int),.d7,.d7,.d7]] .live],[aq.mk 5 [(gp gw fZ 2 0 0 a.length 3 0 0 an.length 4 0 0 a4.length)] .live],(av 1 J a),(av 1 J an),(av 1 J a4)]⟩
def vt (ex:List bA)(dU:List b4)(dS:List Int)(hY:List eW)(ft:List (List Int))(iV gw fZ:Int)(an a4:List Int)(m8:Int)(aR:List Int):Option ((Int×(List Int))⊕((List Int))) :=
 if (decide (m8<iV))=true then
  if 0≤m8∧m8<ft.length then
  ft[m8.toNat]? >>= fun aU =>
  Fb ex dU dS hY m8 aU ft iV (len_ e8 hY) gw fZ an a4 0 aR >>= fun bh =>
  some (.inl (U (m8+(1:Int)),bh))
  else none
 else
  some (.inr aR)
def Fc (ex:List bA)(dU:List b4)(dS:List Int)(hY:List eW)(ft:List (List Int))(iV gw fZ:Int)(an a4:List Int)(m8:Int)(aR:List Int):Option ((List Int)):=iter (fun w:Int×(List Int)=>vt ex dU dS hY ft iV gw fZ an a4 w.1 w.2) (m8,aR)
theorem Sm {ex:List bA}{dU:List b4}{dS:List Int}{hY:List eW}{ft:List (List Int)}{iV gw fZ:Int}{an a4:List Int}{m8:Int}{aR:List Int}:bQ (vt ex dU dS hY ft iV gw fZ an a4 m8 aR) (fj bo 113 0 28 [1,1,1,1,0,1,0,0] (EY ex dU dS hY ft iV gw fZ an a4 (m8,aR)) (EY ex dU dS hY ft iV gw fZ an a4) (E2 ex dU dS hY ft iV gw fZ an a4)):=by
 unfold vt
 exact .ite (fun o =>
  .bn fun R =>
  .az fun aU aA =>
  .az fun bh br =>
  .ret (bS [(ad 1),.ao true,.aH (bH 2 (.cB ((e7 1 J) aU)) 2),(ad 3),.bj [0,1,2,3,4] [.box [.id,.id,.id,.id,.id],.box [.id,.id,.id,.id,.id],.pure,.pure,.pure] (bR [0,1,8,10,11,12,13,46,47,48,53,54,55]),(E1 ex dU dS hY m8 aU ft iV (len_ e8 hY) gw fZ an a4 bh).fW,(ad 2),.bj [0,1,2,3,4] [.box [.id,.id,.id,.id,.id],.box [.id,.id,.id,.id,.id],.pure,.pure,.pure] (bR [0,1,8,10,11,46,47,48])] (.bt o R.1 (eE (e7 1 J) R.2) (cD (e7 1 J) aA) (aE 1 .live aD aR) (aE 1 .live aD an) (aE 1 .live aD a4) (Su br) (.bZ (aE 1 .live aD bh) (aE 1 .live aD an) (aE 1 .live aD a4)))))
  (fun o =>
  .ret (bS [(ad 1),.ao false,.bj [0,1,2,3,4] [.box [.id,.id,.id,.id,.id],.box [.id,.id,.id,.id,.id],.pure,.pure,.pure] (bR [0,1,8,11])] (.c8 o (aE 1 .live aD aR) (aE 1 .live aD an) (aE 1 .live aD a4))))
theorem Sv {ex:List bA}{dU:List b4}{dS:List Int}{hY:List eW}{ft:List (List Int)}{iV gw fZ:Int}{an a4:List Int}{m8:Int}{aR:List Int}{r} (h:Fc ex dU dS hY ft iV gw fZ an a4 m8 aR=some r):fk bo 113 0 28 [1,1,1,1,0,1,0,0] (EY ex dU dS hY ft iV gw fZ an a4) (E2 ex dU dS hY ft iV gw fZ an a4) (m8,aR) r:=fl (fun _=>Sm) h
def EZ (dS nI:List Int)(om gw fZ:Int)(aR a4:List Int):(Int×(List Int))→S:=fun (ks,an)=>eD [(1,.isl 1 (dS.map J)),(8,.ref 0 0 0 0),(11,.ref 1 0 0 0),(80,.isl 1 (nI.map J)),(81,.n .i64 om),(82,.n .i64 ks)] [[aq.mk 5 [[.n .i64 (0:Int),.n .i64 (0:Int),.d7,.d7,.d7]] .live],[aq.mk 5 [(gp gw fZ 2 0 0 aR.length 3 0 0 an.length 4 0 0 a4.length)] .live],(av 1 J aR),(av 1 J an),(av 1 J a4)]
def E3 (dS nI:List Int)(om gw fZ:Int)(aR a4:List Int):(List Int)→eJ
 | a=>⟨some 4,[(8,.ref 0 0 0 0),(11,.ref 1 0 0 0)],[[aq.mk 5 [[.n .i64 (0:Int),.n .i64 (0:Int),.d7,.d7,.d7]] .live],[aq.mk 5 [(gp gw fZ 2 0 0 aR.length 3 0 0 a.length 4 0 0 a4.length)] .live],(av 1 J aR),(av 1 J a),(av 1 J a4)]⟩
def vu (dS nI:List Int)(om gw fZ:Int)(aR a4:List Int)(ks:Int)(an:List Int):Option ((Int×(List Int))⊕((List Int))) :=
 if (decide (ks<om))=true then
  if 0≤ks∧ks<nI.length then
  nI[ks.toNat]? >>= fun aU =>
  if 0≤(U ((2:Int)*aU))∧(U ((2:Int)*aU))<dS.length then
  dS[(U ((2:Int)*aU)).toNat]? >>= fun cd =>
  if 0≤(U ((U ((2:Int)*aU))+(1:Int)))∧(U ((U ((2:Int)*aU))+(1:Int)))<dS.length then
  dS[(U ((U ((2:Int)*aU))+(1:Int))).toNat]? >>= fun gK =>
  if 0≤(U ((2:Int)*ks))∧(U ((2:Int)*ks))<(an.length:Nat) then
  if (0+(U ((2:Int)*ks)).toNat)<an.length then
  if 0≤(U ((U ((2:Int)*ks))+(1:Int)))∧(U ((U ((2:Int)*ks))+(1:Int)))<(an.length:Nat) then
  if (0+(U ((U ((2:Int)*ks))+(1:Int))).toNat)<(an.set (0+(U ((2:Int)*ks)).toNat) (U (0-cd))).length then
  some (.inl (U (ks+(1:Int)),(an.set (0+(U ((2:Int)*ks)).toNat) (U (0-cd))).set (0+(U ((U ((2:Int)*ks))+(1:Int))).toNat) (U (0-gK))))
  else none
  else none
  else none
  else none
  else none
  else none
  else none
 else
  some (.inr an)
def Fe (dS nI:List Int)(om gw fZ:Int)(aR a4:List Int)(ks:Int)(an:List Int):Option ((List Int)):=iter (fun w:Int×(List Int)=>vu dS nI om gw fZ aR a4 w.1 w.2) (ks,an)
theorem Sn {dS nI:List Int}{om gw fZ:Int}{aR a4:List Int}{ks:Int}{an:List Int}:bQ (vu dS nI om gw fZ aR a4 ks an) (fj bo 113 0 28 [1,1,1,1,1,0,1,0,0] (EZ dS nI om gw fZ aR a4 (ks,an)) (EZ dS nI om gw fZ aR a4) (E3 dS nI om gw fZ aR a4)):=by
 unfold vu
 exact .ite (fun o =>
  .bn fun R =>
  .az fun aU aA =>
  .bn fun aF =>
  .az fun cd bU =>
  .bn fun bx =>
  .az fun gK dO =>
  .bn fun d2 =>
  .bn fun ev =>
  .bn fun fo =>
  .bn fun eT =>
  .ret (let aW:=(U ((2:Int)*ks));let bl:=(U (aW+(1:Int)));let cc:=U (0-cd);let cM:=U (0-gK);bS [(ad 1),.ao true,.aH (bH 2 (.cB (J aU)) 2),.aH (ap 13 (ar (.cB (J cd)) (ap 6 (ar (.cB (J gK)) (ap 2 (ar .cT (ap 1 (ar .cT [])))))))),(ad 2),.bj [0,1,2,3,4] [.box [.id,.id,.id,.id,.id],.box [.id,.id,.id,.len (((an.set (0+aW.toNat) cc).set (0+bl.toNat) cM).length),.id],.pure,.dw (av 1 J ((an.set (0+aW.toNat) cc).set (0+bl.toNat) cM)),.pure] (bR [1,8,11,80,81,82])] (.bt o R.1 (eE J R.2) (cD J aA) aF.1 (eE J aF.2) (cD J bU) bx.1 (.bt (eE J bx.2) (cD J dO) d2.1 d2.2 (hb J ev) (gB 1) fo.1 fo.2 (.e2 (zW (fs (dF J an) (0+aW.toNat) cc) eT) (gB 1) (gP (gP (fq an) (0+aW.toNat) cc) (0+bl.toNat) cM) (aE 1 .live aD aR) (d4 1 .live (fs (fs (dF J an) (0+aW.toNat) cc) (0+bl.toNat) cM)) (aE 1 .live aD ((an.set (0+aW.toNat) cc).set (0+bl.toNat) cM)) (aE 1 .live aD a4))))))
  (fun o =>
  .ret (bS [(ad 1),.ao false,.bj [0,1,2,3,4] [.box [.id,.id,.id,.id,.id],.box [.id,.id,.id,.id,.id],.pure,.pure,.pure] (bR [8,11])] (.c8 o (aE 1 .live aD aR) (aE 1 .live aD an) (aE 1 .live aD a4))))
theorem Sw {dS nI:List Int}{om gw fZ:Int}{aR a4:List Int}{ks:Int}{an:List Int}{r} (h:Fe dS nI om gw fZ aR a4 ks an=some r):fk bo 113 0 28 [1,1,1,1,1,0,1,0,0] (EZ dS nI om gw fZ aR a4) (E3 dS nI om gw fZ aR a4) (ks,an) r:=fl (fun _=>Sn) h
def vD (aL:cz)(dS:List Int)(m3 nA:Int):Option (Int×Int×(List Int)×(List Int)×(List Int)) :=
 yH aL >>= fun ak =>
 ty aL >>= fun bk =>
 if 0≤(U ((U ((len_ (e7 1 J) ak)+nA))*(U ((len_ e8 bk)+m3))))∧(8:Int)*(U ((U ((len_ (e7 1 J) ak)+nA))*(U ((len_ e8 bk)+m3))))≤281474976710656∧(U ((U ((len_ (e7 1 J) ak)+nA))*(U ((len_ e8 bk)+m3))))<9223372036854775808 then
 if 0≤(U ((len_ (e7 1 J) ak)+nA))∧(8:Int)*(U ((len_ (e7 1 J) ak)+nA))≤281474976710656∧(U ((len_ (e7 1 J) ak)+nA))<9223372036854775808 then
 if 0≤(U ((len_ e8 bk)+m3))∧(8:Int)*(U ((len_ e8 bk)+m3))≤281474976710656∧(U ((len_ e8 bk)+m3))<9223372036854775808 then
 Fc aL.cR aL.bB dS bk ak (len_ (e7 1 J) ak) (U ((len_ (e7 1 J) ak)+nA)) (U ((len_ e8 bk)+m3)) (List.replicate (U ((len_ (e7 1 J) ak)+nA)).toNat 0:List Int) (List.replicate (U ((len_ e8 bk)+m3)).toNat 0:List Int) 0 (List.replicate (U ((U ((len_ (e7 1 J) ak)+nA))*(U ((len_ e8 bk)+m3)))).toNat 0:List Int) >>= fun eQ =>
 vO aL >>= fun en =>
 Fe dS en (len_ J en) (U ((len_ (e7 1 J) ak)+nA)) (U ((len_ e8 bk)+m3)) eQ (List.replicate (U ((len_ e8 bk)+m3)).toNat 0:List Int) 0 (List.replicate (U ((len_ (e7 1 J) ak)+nA)).toNat 0:List Int) >>= fun gW =>
 some (U ((len_ (e7 1 J) ak)+nA),U ((len_ e8 bk)+m3),eQ,gW,(List.replicate (U ((len_ e8 bk)+m3)).toNat 0:List Int))
 else none
 else none
 else none
theorem SI {aL:cz}{dS:List Int}{m3 nA:Int}:bQ (vD aL dS m3 nA) (fun a=>Con bo 28 [.ey 2 [(f9 aL)] 0 0,.isl 1 (dS.map J),.n .i64 m3,.n .i64 nA] [] (.agg (gp a.1 a.2.1 0 0 0 a.2.2.1.length 0 1 0 a.2.2.2.1.length 0 2 0 a.2.2.2.2.length)) [[aq.mk 1 (a.2.2.1.map J) .live,aq.mk 1 (a.2.2.2.1.map J) .live,aq.mk 1 (a.2.2.2.2.map J) .live]]):=by
 unfold vD
 exact .az fun ak R =>
  .az fun bk aA =>
  .bn fun aF =>
  .bn fun br =>
  .bn fun bU =>
  .az fun eQ c2 =>
  .az fun en d2 =>
  .az fun gW fo =>
  .ret (let bl:=U ((len_ (e7 1 J) ak)+nA);let cc:=U ((len_ e8 bk)+m3);let aW:=(List.replicate cc.toNat 0:List Int);let cM:=(List.replicate bl.toNat 0:List Int);let gH:=aE 1 .live aD aW;let h9:=U (bl*cc);let eN:=(List.replicate h9.toNat 0:List Int);hg [(ad 1),.aH (ap 1 (ar (bT 1 (.isl 1 (ak.map (e7 1 J))) false) (bH 1 (bT 1 (.isl 2 (bk.map e8)) false) 2))),(ad 11),(ad 18),(ad 3),.bj [0,16,23,26,29] [.box [.id,.id,.id,.id,.id],.box [.id,.id,.len (eN.length),.len (cM.length),.len (aW.length)],.dw (av 1 J eN),.dw (av 1 J cM),.dw (av 1 J aW)] (bR [0,1,8,10,11,46,47,48]),(E2 aL.cR aL.bB dS bk ak (len_ (e7 1 J) ak) bl cc cM aW eQ).fW,.aH (bH 1 (bT 1 (.isl 1 (en.map J)) false) 2),.bj [0,1,2,3,4] [.box [.id,.id,.id,.id,.id],.box [.id,.id,.id,.id,.id],.pure,.pure,.pure] (bR [1,8,11,80,81,82]),(E3 dS en (len_ J en) bl cc eQ aW gW).fW,(ad 2),.AY [{bg:=[(2,0),(3,0),(4,0)],da:=none},{bg:=[(0,0)]}] [([.pure,.pure,.pure],none),([.box [.id,.id,.at_ 0 0 eQ.length,.at_ 0 1 gW.length,.at_ 0 2 (aW.length)]],none)] [(8,.bF (.b9 (.at_ 1 0 0)))]] [0] [.bM [aq.mk 1 (eQ.map J) .live,aq.mk 1 (gW.map J) .live,aq.mk 1 (aW.map J) .live]] (.bt (SV ak R) (FK bk aA) aF.1 (Int.le_refl h9) aF.2.1 aF.2.2 br.1 (Int.le_refl bl) (.bt br.2.1 br.2.2 bU.1 (Int.le_refl cc) bU.2.1 bU.2.2 (kB h9.toNat (0:Int)) (kB bl.toNat (0:Int)) (.bt (kB cc.toNat (0:Int)) (d4 1 .live (kp J h9.toNat 0)) (aE 1 .live aD eN) (d4 1 .live (kp J bl.toNat 0)) (aE 1 .live aD cM) (d4 1 .live (kp J cc.toNat 0)) gH (Sv c2) (.bt (LS en d2) (aE 1 .live aD eQ) (aE 1 .live aD cM) gH (Sw fo) (aE 1 .live aD eQ) (aE 1 .live aD gW) gH (.hh (rfl:(jn [{bg:=[(2,0),(3,0),(4,0)],da:=none},{bg:=[(0,0)]}]) 0 0=some (2,0)) (rfl:eQ.length=eQ.length) (rfl:(jn [{bg:=[(2,0),(3,0),(4,0)],da:=none},{bg:=[(0,0)]}]) 0 1=some (3,0)) (rfl:gW.length=gW.length) (rfl:(jn [{bg:=[(2,0),(3,0),(4,0)],da:=none},{bg:=[(0,0)]}]) 0 2=some (4,0)) (rfl:aW.length=aW.length) (rfl:(jn [{bg:=[(2,0),(3,0),(4,0)],da:=none},{bg:=[(0,0)]}]) 1 0=some (0,0)) (kr (qi (dq [0]) 1 r7 eQ) (kr (qi (dq [0]) 1 r7 gW) (kr (qi (dq [0]) 1 r7 aW) (rW (b8:=(dq [0]))))))))))) (.bF (.agg [.id,.id,.id,.id,.id])))
def Gg:(Int×(List Int))→S:=fun (a0,aj)=>eD [(0,.n .u64 a0),(3,.bw 0 0 0 aj.length)] [(av 1 J aj)]
def GF:(List Int)→eJ
 | a=>⟨some 0,[(3,.bw 0 0 0 a.length)],[(av 1 J a)]⟩
def vZ (a0:Int)(aj:List Int):Option ((Int×(List Int))⊕((List Int))) :=
 if (decide ((0:Int)<a0))=true then
  if (aj++([IntKind.wrap .i64 (a0.tmod (1000000000:Int))]:List Int)).length*8≤140737488355328 then
  some (.inl (IntKind.wrap .u64 (a0.tdiv (1000000000:Int)),aj++([IntKind.wrap .i64 (a0.tmod (1000000000:Int))]:List Int)))
  else none
 else
  some (.inr aj)
def Hx (a0:Int)(aj:List Int):Option ((List Int)):=iter (fun w:Int×(List Int)=>vZ w.1 w.2) (a0,aj)
theorem To {a0:Int}{aj:List Int}:bQ (vZ a0 aj) (fj bo 15 0 97 [1,1,0,0,0] (Gg (a0,aj)) (Gg) (GF)):=by
 unfold vZ
 exact .ite (fun o =>
  .bn fun R =>
  .ret (let aW:=(aj++([(IntKind.wrap .i64 (a0.tmod (1000000000:Int)))]:List Int));bS [(ad 2),.ao true,.aH (bH 5 (.aZ (aW.length)) 1),(ad 3),.bj [8] [.dw (av 1 J aW)] (bR [0,3])] (.bt o (by decide:(1000000000:Int)≠0) (k6 J (IntKind.wrap .i64 (a0.tmod (1000000000:Int)))) (o4 J aj) (nt J aj (IntKind.wrap .i64 (a0.tmod (1000000000:Int)))) R (by decide:(1000000000:Int)≠0) (d4 1 .live (o5 J aj (IntKind.wrap .i64 (a0.tmod (1000000000:Int))))) (.ax (aE 1 .live aD aW)))))
  (fun o =>
  .ret (bS [(ad 2),.ao false,.bj [0] [.pure] (bR [3])] (.aC o (aE 1 .live aD aj))))
theorem Uc {a0:Int}{aj:List Int}{r} (h:Hx a0 aj=some r):fk bo 15 0 97 [1,1,0,0,0] (Gg) (GF) (a0,aj) r:=fl (fun _=>To) h
def tM (a0:Int):Option (List Int) :=
 Hx a0 ([]:List Int) >>= fun ak =>
 some ak
theorem Hy {a0:Int}:bQ (tM a0) (fun r=>Con bo 97 [.n .u64 a0] [] (.isl 1 (r.map J)) []):=by
 unfold tM
 exact .az fun ak R =>
  .ret (bP [(ad 1),(ad 1),.rk 3 1,.bj [2] [.dw (av 1 J ([]:List Int))] [(0,ii),(3,fQ (([]:List Int).length))],(GF ak).fW,(ad 2)] (.e2 (d4 1 .live (qT J)) (aE 1 .live aD ([]:List Int)) (mB Int) (Uc R) (ia J ak) (ht J ak) (eF aD ak)) (.bF (.b9 (.e5 (ak.map J)))))
def kd (DN:Bool)(xI:List Int):Option bc :=
 if DN=true then
  some (⟨(decide ((0:Int)<(len_ J xI))),xI⟩:bc)
 else
  some (⟨false,xI⟩:bc)
theorem qn {DN:Bool}{xI:List Int}:bQ (kd DN xI) (fun r=>Con bo 95 [.b DN,.isl 1 (xI.map J)] [] (.agg (aQ r)) []):=by
 unfold kd
 exact .ite (fun o =>
  .ret (bP [(ad 1),.aH (bH 5 (.ao true) 3)] (.c8 o o o o)))
  (fun o =>
  .ret (bP [(ad 1),.aH (ap 2 (dk 3 (ar (.ao false) (ap 3 []))))] (.c8 o o o o)))
def nz (a0:Int):Option bc :=
 if (decide (a0<(0:Int)))=true then
  tM (IntKind.wrap .u64 ((IntKind.wrap .u64 (U (0-(U (a0+(1:Int))))))+(1:Int))) >>= fun bm =>
  kd true bm >>= fun aX =>
  some aX
 else
  tM (IntKind.wrap .u64 a0) >>= fun bm =>
  kd false bm >>= fun aX =>
  some aX
theorem q4 {a0:Int}:bQ (nz a0) (fun r=>Con bo 70 [.n .i64 a0] [] (.agg (aQ r)) []):=by
 unfold nz
 exact .ite (fun o =>
  .az fun bm ab =>
  .az fun aX aF =>
  .ret (bP [(ad 1),(ad 2),.ao true,.aH (ap 5 (ar (bT 1 (.isl 1 (bm.map J)) false) (ar (bT 2 (.agg (aQ aX)) false) (ap 1 []))))] (.bZ o (Hy bm ab) (qn aX aF))))
  (fun o =>
  .az fun bm ab =>
  .az fun aX aF =>
  .ret (bP [(ad 1),(ad 2),.ao false,.aH (ap 2 (ar (bT 1 (.isl 1 (bm.map J)) false) (ar (bT 2 (.agg (aQ aX)) false) (ap 1 []))))] (.bZ o (Hy bm ab) (qn aX aF))))
def wt (bd b1 cx:Int)(cN eR c3:List Int):Option (Nat×Nat) :=
 if 0≤(U (bd*cx)) then
 if 0≤(U ((U (bd+(1:Int)))*cx)) then
 if (U (bd*cx)).toNat≤(U ((U (bd+(1:Int)))*cx)).toNat∧(U ((U (bd+(1:Int)))*cx)).toNat≤cN.length then
 some ((0+(U (bd*cx)).toNat),((U ((U (bd+(1:Int)))*cx)).toNat-(U (bd*cx)).toNat))
 else none
 else none
 else none
theorem L3 {bd b1 cx:Int}{cN eR c3:List Int}:bQ (wt bd b1 cx cN eR c3) (fun a=>Con bo 99 [.ref 0 0 0 0,.n .i64 bd] [[aq.mk 5 [(gp b1 cx 1 0 0 cN.length 2 0 0 eR.length 3 0 0 c3.length)] .live],(av 1 J cN),(av 1 J eR),(av 1 J c3)] (.bw 1 0 a.1 a.2) [[aq.mk 5 [(gp b1 cx 1 0 0 cN.length 2 0 0 eR.length 3 0 0 c3.length)] .live],(av 1 J cN),(av 1 J eR),(av 1 J c3)]):=by
 unfold wt
 exact .bn fun o =>
  .bn fun R =>
  .bn fun ab =>
  .ret (let aW:=gp b1 cx 1 0 0 cN.length 2 0 0 eR.length 3 0 0 c3.length;hg [(ad 1),(ad 19)] [0,1,2,3] [.bM [aq.mk 5 [aW] .live],.pure,.pure,.pure] (.hh o R ab.1 ab.2 (jb (dq [0,1,2,3]) 5 [aW] [aW] rfl) (aE 1 .live aD cN) (aE 1 .live aD eR) (aE 1 .live aD c3)))
def Hz (aL:List Int)(cX dz:Int):Int→S:=fun dE=>eD [(0,.isl 1 (aL.map J)),(1,.n .i64 cX),(7,.n .i64 dz),(8,.n .i64 dE)] []
def MO (aL:List Int)(cX dz:Int):((Unit)⊕(Int))→eJ
 | .inl a=>⟨some 0,[],[]⟩
 | .inr a=>⟨none,[(4,.n .i64 a)],[]⟩
def wE (aL:List Int)(cX dz dE:Int):Option ((Int)⊕((Unit)⊕(Int))) :=
 if (decide (dE<dz))=true then
  if 0≤dE∧dE<aL.length then
  aL[dE.toNat]? >>= fun aU =>
  if (cX == aU)=true then
   some (.inr (.inr dE))
  else
   some (.inl (U (dE+(1:Int))))
  else none
 else
  some (.inr (.inl ()))
def Ik (aL:List Int)(cX dz dE:Int):Option ((Unit)⊕(Int)):=iter (fun w:Int=>wE aL cX dz w) dE
theorem Ud {aL:List Int}{cX dz dE:Int}:bQ (wE aL cX dz dE) (fj bo 19 0 111 [1,0,1,0,0] (Hz aL cX dz dE) (Hz aL cX dz) (MO aL cX dz)):=by
 unfold wE
 exact .ite (fun o =>
  .bn fun R =>
  .az fun aU aA =>
  (let t1:List cw:=[(ad 1),.ao true,(ad 2),.aH (bH 4 (.cB (J aU)) 1)];
  have a6:=((.c8 o R.1 (eE J R.2) (cD J aA)):cL _);
  .ite (fun aF =>
  .ret (bS (t1.append [.ao true,(ad 2),.bj [] [] (bR [4])]) (a6.aZ (.ax aF))))
  (fun aF =>
  .ret (bS (t1.append [.ao false,(ad 2),.bj [] [] (bR [0,1,7,8])]) (a6.aZ (.ax aF))))))
  (fun o =>
  .ret (bS [(ad 1),.ao false,.bj [] [] []] (.ax o)))
theorem MW {aL:List Int}{cX dz dE:Int}{r} (h:Ik aL cX dz dE=some r):fk bo 19 0 111 [1,0,1,0,0] (Hz aL cX dz) (MO aL cX dz) dE r:=fl (fun _=>Ud) h
def Dn (aL:List Int)(cX:Int):Option Int :=
 Ik aL cX (len_ J aL) 0 >>= fun ak =>
 match ak with
 | .inl bs=>(some (-1))
 | .inr bs=>(some bs)
theorem Wj {aL:List Int}{cX:Int}:bQ (Dn aL cX) (fun r=>Con bo 111 [.isl 1 (aL.map J),.n .i64 cX] [] (.n .i64 r) []):=by
 unfold Dn
 exact .az fun ak R =>
  (let t1:List cw:=[(ad 1),(ad 3),.bj [] [] (bR [0,1,7,8])];
  (by
  rcases ak with bs|bs
  ·exact (.ret (bP (t1.append [.sub (.exit 0) [] [],(ad 1)]) (.ax (MW R))))
  ·exact (.ret (bP (t1.append [.sub (.ret) [(4,.n .i64 bs)] []]) (.ax (MW R))))))
def w4 (aL:List Int)(cX:Int):Option Bool :=
 Dn aL cX >>= fun ak =>
 some (decide ((0:Int)≤ak))
theorem MX {aL:List Int}{cX:Int}:bQ (w4 aL cX) (fun r=>Con bo 101 [.isl 1 (aL.map J),.n .i64 cX] [] (.b r) []):=by
 unfold w4
 exact .az fun ak R =>
  .ret (bP [(ad 1),.aH (bH 2 (bT 2 (.n .i64 ak) true) 2)] (.aC (Wj ak R) (cp.n .i64 ak)))
def Hd:(List Int)→S:=fun ba=>eD [(0,.isl 1 (ba.map J))] []
def Hp:(List Int)→eJ
 | a=>⟨some 0,[(0,.isl 1 (a.map J))],[]⟩
def wy (ba:List Int):Option (((List Int))⊕((List Int))) :=
 if (decide ((0:Int)<(len_ J ba)))=true then
  if 0≤(U ((len_ J ba)-(1:Int)))∧(U ((len_ J ba)-(1:Int)))<ba.length then
  ba[(U ((len_ J ba)-(1:Int))).toNat]? >>= fun aU =>
  if (aU == (0:Int))=true then
   if 0≤(U ((len_ J ba)-(1:Int))) then
   if 0≤(U ((len_ J ba)-(1:Int))).toNat∧(U ((len_ J ba)-(1:Int))).toNat≤ba.length then
   some (.inl ((ba.drop 0).take ((U ((len_ J ba)-(1:Int))).toNat-0)))
   else none
   else none
  else
   some (.inr ba)
  else none
 else
  some (.inr ba)
def HY (ba:List Int):Option ((List Int)):=iter (fun w:(List Int)=>wy w) ba
theorem TY {ba:List Int}:bQ (wy ba) (fj bo 21 0 110 [1,0,0,0] (Hd ba) (Hd) (Hp)):=by
 unfold wy
 exact .ite (fun o =>
  .bn fun R =>
  .az fun aU aA =>
  (let t1:List cw:=[.aH (ap 9 (ar (.cB (J aU)) (ap 1 (ar (.ao true) []))))];
  have a6:=((.bt o o o o o R.1 (eE J R.2) o (.bZ (cD J aA) o o)):cL _);
  .ite (fun aF =>
  .bn fun br =>
  .bn fun bU =>
  .ret (let aW:=(U ((len_ J ba)-(1:Int)));bS (t1.append [.ao true,(ad 6),.bj [] [] [(0,.bF (.b9 (.dw (.isl 1 (((ba.drop 0).take (aW.toNat-0)).map J)))))]]) (a6.aZ (.ep aF br bU.1 (sN (dF J ba) bU.2) (congrArg (ay.isl 1) (oK (dF J ba) 0 (aW.toNat-0)):(.isl 1 (((ba.map J).drop 0).take (aW.toNat-0)):ay) = .isl 1 (((ba.drop 0).take (aW.toNat-0)).map J))))))
  (fun aF =>
  .ret (bS (t1.append [.ao false,.bj [] [] (bR [0])]) (a6.aZ (.ax aF))))))
  (fun o =>
  .ret (bS [.aH (ap 4 (dk 7 (ar (.ao false) []))),.ao false,.bj [] [] (bR [0])] (.bt o o o o o o o o (.ax gC))))
theorem UT {ba:List Int}{r} (h:HY ba=some r):fk bo 21 0 110 [1,0,0,0] (Hd) (Hp) ba r:=fl (fun _=>TY) h
def pJ (ba:List Int):Option (List Int) :=
 HY ba >>= fun ak =>
 some ak
theorem tN {ba:List Int}:bQ (pJ ba) (fun r=>Con bo 110 [.isl 1 (ba.map J)] [] (.isl 1 (r.map J)) []):=by
 unfold pJ
 exact .az fun ak R =>
  .ret (bP [(ad 1),.bj [] [] (bR [0]),(Hp ak).fW,(ad 2)] (.ax (UT R)))
def GZ (a9:List Int)(bd a0:Int)(dC:List Int)(dp dL:Int):(Int×Int×(List Int))→S:=fun (ed,dg,aj)=>eD [(1,.isl 1 (a9.map J)),(5,.bw 0 0 0 aj.length),(6,.n .i64 bd),(7,.n .i64 a0),(8,.n .i64 ed),(26,.isl 1 (dC.map J)),(27,.n .i64 dp),(28,.n .i64 bd),(33,.isl 1 (a9.map J)),(34,.n .i64 dL),(35,.n .i64 dg)] [(av 1 J aj)]
def He (a9:List Int)(bd a0:Int)(dC:List Int)(dp dL:Int):(Int×(List Int))→eJ
 | a=>⟨some 2,[(1,.isl 1 (a9.map J)),(5,.bw 0 0 0 a.2.length),(6,.n .i64 bd),(8,.n .i64 a.1),(26,.isl 1 (dC.map J)),(27,.n .i64 dp),(28,.n .i64 bd)],[(av 1 J a.2)]⟩
def G0 (a9:List Int)(bd a0:Int)(dC:List Int)(dp dL ed dg:Int)(aj:List Int):Option ((Int×Int×(List Int))⊕(Int×(List Int))) :=
 if (decide (dg<dL))=true then
  if 0≤dg∧dg<a9.length then
  a9[dg.toNat]? >>= fun aU =>
  if 0≤(U (bd+dg))∧(U (bd+dg))<(aj.length:Nat) then
  aj[(0+(U (bd+dg)).toNat)]? >>= fun cd =>
  if (0+(U (bd+dg)).toNat)<aj.length then
  some (.inl (U ((U ((U (cd+(U (a0*aU))))+ed)).tdiv (1000000000:Int)),U (dg+(1:Int)),aj.set (0+(U (bd+dg)).toNat) ((U ((U (cd+(U (a0*aU))))+ed)).tmod (1000000000:Int))))
  else none
  else none
  else none
 else
  some (.inr (ed,aj))
def MY (a9:List Int)(bd a0:Int)(dC:List Int)(dp dL ed dg:Int)(aj:List Int):Option (Int×(List Int)):=iter (fun w:Int×Int×(List Int)=>G0 a9 bd a0 dC dp dL w.1 w.2.1 w.2.2) (ed,dg,aj)
theorem TQ {a9:List Int}{bd a0:Int}{dC:List Int}{dp dL ed dg:Int}{aj:List Int}:bQ (G0 a9 bd a0 dC dp dL ed dg aj) (fj bo 72 0 96 [1,1,1,0,1,0,0,1,1,0,0,1,1,0,1,0,0] (GZ a9 bd a0 dC dp dL (ed,dg,aj)) (GZ a9 bd a0 dC dp dL) (He a9 bd a0 dC dp dL)):=by
 unfold G0
 exact .ite (fun o =>
  .bn fun R =>
  .az fun aU aA =>
  .bn fun aF =>
  .az fun cd bU =>
  .bn fun bx =>
  .ret (let aW:=U ((U (cd+(U (a0*aU))))+ed);let bl:=U (bd+dg);bS [(ad 1),.ao true,.aH (bH 2 (.cB (J aU)) 2),.aH (bH 5 (.cB (J cd)) 7),.aH (bH 9 .cT 1),(ad 2),.bj [0] [.dw (av 1 J (aj.set (0+bl.toNat) (aW.tmod (1000000000:Int))))] [(1,ii),(5,fQ ((aj.set (0+bl.toNat) (aW.tmod (1000000000:Int))).length)),(6,ii),(7,ii),(8,ii),(26,ii),(27,ii),(28,ii),(33,ii),(34,ii),(35,ii)]] (.bt o R.1 (eE J R.2) (cD J aA) aF.1 aF.2 (cD J bU) (by decide:(1000000000:Int)≠0) (.hh (by decide:(1000000000:Int)≠0) aF.1 aF.2 (hb J bx) (gB 1) (d4 1 .live (fs (dF J aj) (0+bl.toNat) (aW.tmod (1000000000:Int)))) (aE 1 .live aD (aj.set (0+bl.toNat) (aW.tmod (1000000000:Int)))) (gP (fq aj) (0+bl.toNat) (aW.tmod (1000000000:Int)))))))
  (fun o =>
  .ret (bS [(ad 1),.ao false,.bj [0] [.pure] (bR [1,5,6,8,26,27,28])] (.aC o (aE 1 .live aD aj))))
theorem UH {a9:List Int}{bd a0:Int}{dC:List Int}{dp dL ed dg:Int}{aj:List Int}{r} (h:MY a9 bd a0 dC dp dL ed dg aj=some r):fk bo 72 0 96 [1,1,1,0,1,0,0,1,1,0,0,1,1,0,1,0,0] (GZ a9 bd a0 dC dp dL) (He a9 bd a0 dC dp dL) (ed,dg,aj) r:=fl (fun _=>TQ) h
def G1 (a9 dC:List Int)(dp:Int):(Int×(List Int))→S:=fun (d6,aj)=>eD [(1,.isl 1 (a9.map J)),(5,.bw 0 0 0 aj.length),(26,.isl 1 (dC.map J)),(27,.n .i64 dp),(28,.n .i64 d6)] [(av 1 J aj)]
def Hf (a9 dC:List Int)(dp:Int):(List Int)→eJ
 | a=>⟨some 0,[(5,.bw 0 0 0 a.length)],[(av 1 J a)]⟩
def G2 (a9 dC:List Int)(dp d6:Int)(aj:List Int):Option ((Int×(List Int))⊕((List Int))) :=
 if (decide (d6<dp))=true then
  if 0≤d6∧d6<dC.length then
  dC[d6.toNat]? >>= fun aU =>
  MY a9 d6 aU dC dp (len_ J a9) 0 0 aj >>= fun bh =>
  if 0≤(U (d6+(len_ J a9)))∧(U (d6+(len_ J a9)))<(bh.2.length:Nat) then
  if (0+(U (d6+(len_ J a9))).toNat)<bh.2.length then
  some (.inl (U (d6+(1:Int)),bh.2.set (0+(U (d6+(len_ J a9))).toNat) bh.1))
  else none
  else none
  else none
 else
  some (.inr aj)
def HN (a9 dC:List Int)(dp d6:Int)(aj:List Int):Option ((List Int)):=iter (fun w:Int×(List Int)=>G2 a9 dC dp w.1 w.2) (d6,aj)
theorem TR {a9 dC:List Int}{dp d6:Int}{aj:List Int}:bQ (G2 a9 dC dp d6 aj) (fj bo 72 0 96 [1,1,1,0,1,0,0] (G1 a9 dC dp (d6,aj)) (G1 a9 dC dp) (Hf a9 dC dp)):=by
 unfold G2
 exact .ite (fun o =>
  .bn fun R =>
  .az fun aU aA =>
  .az fun bh br =>
  .bn fun bU =>
  .bn fun bx =>
  .ret (let aW:=U (d6+(len_ J a9));bS [(ad 1),.ao true,.aH (bH 2 (.cB (J aU)) 2),(ad 1),(ad 3),.bj [0] [.pure] (bR [1,5,6,7,8,26,27,28,33,34,35]),(He a9 d6 aU dC dp (len_ J a9) bh).fW,.aH (ap 7 (ar .cT [])),(ad 2),.bj [0] [.dw (av 1 J (bh.2.set (0+aW.toNat) bh.1))] [(1,ii),(5,fQ ((bh.2.set (0+aW.toNat) bh.1).length)),(26,ii),(27,ii),(28,ii)]] (.bt o R.1 (eE J R.2) (cD J aA) (aE 1 .live aD aj) (UH br) bU.1 bU.2 (.ep (hb J bx) (gB 1) (d4 1 .live (fs (dF J bh.2) (0+aW.toNat) bh.1)) (aE 1 .live aD (bh.2.set (0+aW.toNat) bh.1)) (gP (fq bh.2) (0+aW.toNat) bh.1)))))
  (fun o =>
  .ret (bS [(ad 1),.ao false,.bj [0] [.pure] (bR [5])] (.aC o (aE 1 .live aD aj))))
theorem UI {a9 dC:List Int}{dp d6:Int}{aj:List Int}{r} (h:HN a9 dC dp d6 aj=some r):fk bo 72 0 96 [1,1,1,0,1,0,0] (G1 a9 dC dp) (Hf a9 dC dp) (d6,aj) r:=fl (fun _=>TR) h
def mE (ba a9:List Int):Option (List Int) :=
 if ((len_ J ba) == (0:Int))=true then
  some ([]:List Int)
 else
  if ((len_ J a9) == (0:Int))=true then
   some ([]:List Int)
  else
   if 0≤(U ((len_ J ba)+(len_ J a9)))∧(8:Int)*(U ((len_ J ba)+(len_ J a9)))≤281474976710656∧(U ((len_ J ba)+(len_ J a9)))<9223372036854775808 then
   HN a9 ba (len_ J ba) 0 (List.replicate (U ((len_ J ba)+(len_ J a9))).toNat 0:List Int) >>= fun aX =>
   pJ aX >>= fun cj =>
   some cj
   else none
theorem wO {ba a9:List Int}:bQ (mE ba a9) (fun r=>Con bo 96 [.isl 1 (ba.map J),.isl 1 (a9.map J)] [] (.isl 1 (r.map J)) []):=by
 unfold mE
 exact .ite (fun o =>
  .ret (bP [(ad 1),.aH (ap 4 (dk 3 (ar (.ao true) []))),.ao true,(ad 1)] (.ep o o o o ca) (.bF (.b9 (.iv 1)))))
  (fun o =>
  (let t1:List cw:=[(ad 1),.aH (ap 7 (ar (.ao false) []))];
  .ite (fun R =>
  .ret (bP (t1.append [.ao true,(ad 1)]) (.ep o o o o R) (.bF (.b9 (.iv 1)))))
  (fun R =>
  .bn fun ab =>
  .az fun aX aF =>
  .az fun cj bU =>
  .ret (let aW:=U ((len_ J ba)+(len_ J a9));let bl:=(List.replicate aW.toNat 0:List Int);bP (t1.append [.ao false,(ad 7),(ad 3),.bj [14] [.dw (av 1 J bl)] [(1,ii),(5,fQ (bl.length)),(26,ii),(27,ii),(28,ii)],(Hf a9 ba (len_ J ba) aX).fW,.im 0,.aH (bH 1 (.call {ac:=[.bF (.b9 (.e5 (aX.map J)))],r:= .isl 1 (cj.map J),c9:=false,dd:=[0]}) 1)]) (.bt o o o o R ab.1 (Int.le_refl aW) ab.2.1 (.bt ab.2.2 (d4 1 .live (kp J aW.toNat 0)) (aE 1 .live aD bl) (kB aW.toNat (0:Int)) (UI aF) (ia J aX) (ht J aX) (eF aD aX) (.ax (tN cj bU))))))))
def n4 (b2 eH:bc):Option bc :=
 mE b2.cK eH.cK >>= fun ak =>
 kd (!(b2.c6 == eH.c6)) ak >>= fun bk =>
 some bk
theorem tz {b2 eH:bc}:bQ (n4 b2 eH) (fun r=>Con bo 107 [.agg (aQ b2),.agg (aQ eH)] [] (.agg (aQ r)) []):=by
 unfold n4
 exact .az fun ak R =>
  .az fun bk aA =>
  .ret (bP [(ad 3),.aH (ap 9 (ar (bT 2 (.isl 1 (ak.map J)) false) (ar (bT 2 (.agg (aQ bk)) false) (ap 1 []))))] (.aC (wO ak R) (qn bk aA)))
def n5 (b2:bc):Option Int :=
 if ((len_ J b2.cK) == (0:Int))=true then
  some 0
 else
  if b2.c6=true then
   some (-1)
  else
   some 1
theorem rG {b2:bc}:bQ (n5 b2) (fun r=>Con bo 76 [.agg (aQ b2)] [] (.n .i64 r) []):=by
 unfold n5
 exact .ite (fun o =>
  .ret (bP [(ad 2),(ad 5),.ao true,(ad 1)] (.ax o)))
  (fun o =>
  (let t1:List cw:=[(ad 2),(ad 5),.ao false,(ad 3)];
  .ite (fun R =>
  .ret (bP (t1.append [.ao true,(ad 1)]) (.aC o R)))
  (fun R =>
  .ret (bP (t1.append [.ao false,(ad 1)]) (.aC o R)))))
def o7 (b2:bc):Option bc :=
 kd (!b2.c6) b2.cK >>= fun ak =>
 some ak
theorem BQ {b2:bc}:bQ (o7 b2) (fun r=>Con bo 108 [.agg (aQ b2)] [] (.agg (aQ r)) []):=by
 unfold o7
 exact .az fun ak R =>
  .ret (bP [(ad 2),.aH (bH 5 (bT 2 (.agg (aQ ak)) false) 1)] (.ax (qn ak R)))
def Gh (ba a9:List Int):Int→S:=fun bd=>eD [(0,.isl 1 (ba.map J)),(1,.isl 1 (a9.map J)),(5,.n .i64 bd)] []
def Ma (ba a9:List Int):((Unit)⊕(Int))→eJ
 | .inl a=>⟨some 0,[],[]⟩
 | .inr a=>⟨none,[(4,.n .i64 a)],[]⟩
def Gi (ba a9:List Int)(bd:Int):Option ((Int)⊕((Unit)⊕(Int))) :=
 if (decide ((0:Int)≤bd))=true then
  if 0≤bd∧bd<ba.length then
  ba[bd.toNat]? >>= fun aU =>
  if 0≤bd∧bd<a9.length then
  a9[bd.toNat]? >>= fun cd =>
  if (decide (aU<cd))=true then
   some (.inr (.inr (-1)))
  else
   if (decide (cd<aU))=true then
    some (.inr (.inr 1))
   else
    some (.inl (U (bd-(1:Int))))
  else none
  else none
 else
  some (.inr (.inl ()))
def MF (ba a9:List Int)(bd:Int):Option ((Unit)⊕(Int)):=iter (fun w:Int=>Gi ba a9 w) bd
theorem Tp {ba a9:List Int}{bd:Int}:bQ (Gi ba a9 bd) (fj bo 43 0 93 [1,1,0,1,0,0] (Gh ba a9 bd) (Gh ba a9) (Ma ba a9)):=by
 unfold Gi
 exact .ite (fun o =>
  .bn fun R =>
  .az fun aU aA =>
  .bn fun aF =>
  .az fun cd bU =>
  (let t1:List cw:=[(ad 2),.ao true,.aH (ap 3 (ar (.cB (J aU)) (bH 3 (.cB (J cd)) 2)))];
  have a6:=((.e2 o R.1 (eE J R.2) (cD J aA) aF.1 (eE J aF.2) (cD J bU)):cL _);
  .ite (fun bx =>
  .ret (bS (t1.append [.ao true,(ad 1),.bj [] [] (bR [4])]) (a6.aZ (.ax bx))))
  (fun bx =>
  (let t3:List cw:=t1.append [.ao false,.aH (ap 3 (ar (.cB (J aU)) (bH 3 (.cB (J cd)) 2)))];
  have fa:=a6.aZ (.e2 bx R.1 (eE J R.2) (cD J aA) aF.1 (eE J aF.2) (cD J bU));
  .ite (fun c2 =>
  .ret (bS (t3.append [.ao true,(ad 1),.bj [] [] (bR [4])]) (fa.aZ (.ax c2))))
  (fun c2 =>
  .ret (bS (t3.append [.ao false,(ad 3),.bj [] [] (bR [0,1,5])]) (fa.aZ (.ax c2))))))))
  (fun o =>
  .ret (bS [(ad 2),.ao false,.bj [] [] []] (.ax o)))
theorem Mj {ba a9:List Int}{bd:Int}{r} (h:MF ba a9 bd=some r):fk bo 43 0 93 [1,1,0,1,0,0] (Gh ba a9) (Ma ba a9) bd r:=fl (fun _=>Tp) h
def o8 (ba a9:List Int):Option Int :=
 if ((len_ J ba) != (len_ J a9))=true then
  if (decide ((len_ J ba)<(len_ J a9)))=true then
   some (-1)
  else
   some 1
 else
  MF ba a9 (U ((len_ J ba)-(1:Int))) >>= fun bm =>
  match bm with
  | .inl fD=>(some 0)
  | .inr fD=>(some fD)
theorem wF {ba a9:List Int}:bQ (o8 ba a9) (fun r=>Con bo 93 [.isl 1 (ba.map J),.isl 1 (a9.map J)] [] (.n .i64 r) []):=by
 unfold o8
 exact .ite (fun o =>
  (let t1:List cw:=[(ad 1),(ad 5),.ao true,(ad 5)];
  .ite (fun R =>
  .ret (bP (t1.append [.ao true,(ad 1)]) (.aC o R)))
  (fun R =>
  .ret (bP (t1.append [.ao false,(ad 1)]) (.aC o R)))))
  (fun o =>
  .az fun bm ab =>
  (let t1:List cw:=[(ad 1),(ad 5),.ao false,(ad 4),.bj [] [] (bR [0,1,5])];
  (by
  rcases bm with fD|fD
  ·exact (.ret (bP (t1.append [.sub (.exit 0) [] [],(ad 1)]) (.aC o (Mj ab))))
  ·exact (.ret (bP (t1.append [.sub (.ret) [(4,.n .i64 fD)] []]) (.aC o (Mj ab)))))))
def Hg (ba a9:List Int)(i2:Int):(Int×Int×(List Int))→S:=fun (ed,fh,aj)=>eD [(0,.isl 1 (ba.map J)),(1,.isl 1 (a9.map J)),(5,.bw 0 0 0 aj.length),(6,.n .i64 ed),(20,.isl 1 (ba.map J)),(21,.n .i64 i2),(22,.n .i64 fh)] [(av 1 J aj)]
def Ch (ba a9:List Int)(i2:Int):(Int×(List Int))→eJ
 | a=>⟨some 0,[(0,.isl 1 (ba.map J)),(5,.bw 0 0 0 a.2.length),(6,.n .i64 a.1)],[(av 1 J a.2)]⟩
def wz (ba a9:List Int)(i2 ed fh:Int)(aj:List Int):Option ((Int×Int×(List Int))⊕(Int×(List Int))) :=
 if (decide (fh<i2))=true then
  if 0≤fh∧fh<ba.length then
  ba[fh.toNat]? >>= fun aU =>
  if (decide (fh<(len_ J a9)))=true then
   if 0≤fh∧fh<a9.length then
   a9[fh.toNat]? >>= fun fY =>
   if 0≤fh∧fh<(aj.length:Nat) then
   if (0+fh.toNat)<aj.length then
   some (.inl (U ((U ((U (aU+ed))+fY)).tdiv (1000000000:Int)),U (fh+(1:Int)),aj.set (0+fh.toNat) ((U ((U (aU+ed))+fY)).tmod (1000000000:Int))))
   else none
   else none
   else none
  else
   if 0≤fh∧fh<(aj.length:Nat) then
   if (0+fh.toNat)<aj.length then
   some (.inl (U ((U (aU+ed)).tdiv (1000000000:Int)),U (fh+(1:Int)),aj.set (0+fh.toNat) ((U (aU+ed)).tmod (1000000000:Int))))
   else none
   else none
  else none
 else
  some (.inr (ed,aj))
def y8 (ba a9:List Int)(i2 ed fh:Int)(aj:List Int):Option (Int×(List Int)):=iter (fun w:Int×Int×(List Int)=>wz ba a9 i2 w.1 w.2.1 w.2.2) (ed,fh,aj)
theorem TZ {ba a9:List Int}{i2 ed fh:Int}{aj:List Int}:bQ (wz ba a9 i2 ed fh aj) (fj bo 55 0 117 [1,1,1,1,0,1,0,0] (Hg ba a9 i2 (ed,fh,aj)) (Hg ba a9 i2) (Ch ba a9 i2)):=by
 unfold wz
 exact .ite (fun o =>
  .bn fun R =>
  .az fun aU aA =>
  (let t1:List cw:=[(ad 1),.ao true,.aH (bH 2 (.cB (J aU)) 2),(ad 4),(ad 4)];
  have a6:=((.c8 o R.1 (eE J R.2) (cD J aA)):cL _);
  .ite (fun aF =>
  .bn fun br =>
  .az fun fY bx =>
  .bn fun c2 =>
  .bn fun dO =>
  .ret (let aW:=U ((U (aU+ed))+fY);bS (t1.append [.ao true,.aH (bH 4 (.cB (J fY)) 2),.aH (bH 7 .cT 1),(ad 2),.bj [0] [.dw (av 1 J (aj.set (0+fh.toNat) (aW.tmod (1000000000:Int))))] [(0,ii),(1,ii),(5,fQ ((aj.set (0+fh.toNat) (aW.tmod (1000000000:Int))).length)),(6,ii),(20,ii),(21,ii),(22,ii)]]) (a6.aZ (.bt aF br.1 (eE J br.2) (cD J bx) (by decide:(1000000000:Int)≠0) (by decide:(1000000000:Int)≠0) c2.1 c2.2 (.ep (hb J dO) (gB 1) (d4 1 .live (fs (dF J aj) (0+fh.toNat) (aW.tmod (1000000000:Int)))) (aE 1 .live aD (aj.set (0+fh.toNat) (aW.tmod (1000000000:Int)))) (gP (fq aj) (0+fh.toNat) (aW.tmod (1000000000:Int))))))))
  (fun aF =>
  .bn fun br =>
  .bn fun bU =>
  .ret (let bl:=U (aU+ed);bS (t1.append [.ao false,.aH (bH 7 .cT 1),(ad 2),.bj [0] [.dw (av 1 J (aj.set (0+fh.toNat) (bl.tmod (1000000000:Int))))] [(0,ii),(1,ii),(5,fQ ((aj.set (0+fh.toNat) (bl.tmod (1000000000:Int))).length)),(6,ii),(20,ii),(21,ii),(22,ii)]]) (a6.aZ (.bt aF (by decide:(1000000000:Int)≠0) (by decide:(1000000000:Int)≠0) br.1 br.2 (hb J bU) (gB 1) (d4 1 .live (fs (dF J aj) (0+fh.toNat) (bl.tmod (1000000000:Int)))) (.aC (aE 1 .live aD (aj.set (0+fh.toNat) (bl.tmod (1000000000:Int)))) (gP (fq aj) (0+fh.toNat) (bl.tmod (1000000000:Int))))))))))
  (fun o =>
  .ret (bS [(ad 1),.ao false,.bj [0] [.pure] (bR [0,5,6])] (.aC o (aE 1 .live aD aj))))
theorem MG {ba a9:List Int}{i2 ed fh:Int}{aj:List Int}{r} (h:y8 ba a9 i2 ed fh aj=some r):fk bo 55 0 117 [1,1,1,1,0,1,0,0] (Hg ba a9 i2) (Ch ba a9 i2) (ed,fh,aj) r:=fl (fun _=>TZ) h
def xa (ba a9:List Int):Option (List Int) :=
 if (decide ((len_ J ba)<(len_ J a9)))=true then
  if 0≤(U ((len_ J a9)+(1:Int)))∧(8:Int)*(U ((len_ J a9)+(1:Int)))≤281474976710656∧(U ((len_ J a9)+(1:Int)))<9223372036854775808 then
  y8 a9 ba (len_ J a9) 0 0 (List.replicate (U ((len_ J a9)+(1:Int))).toNat 0:List Int) >>= fun bk =>
  if 0≤(len_ J a9)∧(len_ J a9)<(bk.2.length:Nat) then
  if (0+(len_ J a9).toNat)<bk.2.length then
  pJ (bk.2.set (0+(len_ J a9).toNat) bk.1) >>= fun bK =>
  some bK
  else none
  else none
  else none
 else
  if 0≤(U ((len_ J ba)+(1:Int)))∧(8:Int)*(U ((len_ J ba)+(1:Int)))≤281474976710656∧(U ((len_ J ba)+(1:Int)))<9223372036854775808 then
  y8 ba a9 (len_ J ba) 0 0 (List.replicate (U ((len_ J ba)+(1:Int))).toNat 0:List Int) >>= fun bk =>
  if 0≤(len_ J ba)∧(len_ J ba)<(bk.2.length:Nat) then
  if (0+(len_ J ba).toNat)<bk.2.length then
  pJ (bk.2.set (0+(len_ J ba).toNat) bk.1) >>= fun bK =>
  some bK
  else none
  else none
  else none
theorem Vv {ba a9:List Int}:bQ (xa ba a9) (fun r=>Con bo 117 [.isl 1 (ba.map J),.isl 1 (a9.map J)] [] (.isl 1 (r.map J)) []):=by
 unfold xa
 exact .ite (fun o =>
  .bn fun R =>
  .az fun bk aA =>
  .bn fun aF =>
  .bn fun br =>
  .az fun bK bx =>
  .ret (let bl:=len_ J a9;let aW:=(U (bl+(1:Int)));let cc:=(List.replicate aW.toNat 0:List Int);let cM:=gP (fq bk.2) (0+bl.toNat) bk.1;bP [(ad 1),(ad 5),.ao true,(ad 4),(ad 5),(ad 1),(ad 3),.bj [13] [.dw (av 1 J cc)] [(0,ii),(1,ii),(5,fQ (cc.length)),(6,ii),(20,ii),(21,ii),(22,ii)],(Ch a9 ba bl bk).fW,.aH (ap 5 (ar .cT [])),.im 0,.aH (bH 1 (.call {ac:=[.bF (.b9 (.e5 ((bk.2.set (0+bl.toNat) bk.1).map J)))],r:= .isl 1 (bK.map J),c9:=false,dd:=[0]}) 1)] (.bt o R.1 (Int.le_refl aW) R.2.1 R.2.2 (d4 1 .live (kp J aW.toNat 0)) (aE 1 .live aD cc) (kB aW.toNat (0:Int)) (.bt (MG aA) aF.1 aF.2 (hb J br) (gB 1) (lL (fs (dF J bk.2) (0+bl.toNat) bk.1) cM) (n6 (fs (dF J bk.2) (0+bl.toNat) bk.1) cM) (eF aD (bk.2.set (0+bl.toNat) bk.1)) (.ax (tN bK bx))))))
  (fun o =>
  .bn fun R =>
  .az fun bk aA =>
  .bn fun aF =>
  .bn fun br =>
  .az fun bK bx =>
  .ret (let gH:=len_ J ba;let eN:=(U (gH+(1:Int)));let h9:=(List.replicate eN.toNat 0:List Int);let fx:=gP (fq bk.2) (0+gH.toNat) bk.1;bP [(ad 1),(ad 5),.ao false,(ad 5),(ad 1),(ad 3),.bj [9] [.dw (av 1 J h9)] [(0,ii),(1,ii),(5,fQ (h9.length)),(6,ii),(20,ii),(21,ii),(22,ii)],(Ch ba a9 gH bk).fW,.aH (ap 5 (ar .cT [])),.im 0,.aH (bH 1 (.call {ac:=[.bF (.b9 (.e5 ((bk.2.set (0+gH.toNat) bk.1).map J)))],r:= .isl 1 (bK.map J),c9:=false,dd:=[0]}) 1)] (.bt o R.1 (Int.le_refl eN) R.2.1 R.2.2 (d4 1 .live (kp J eN.toNat 0)) (aE 1 .live aD h9) (kB eN.toNat (0:Int)) (.bt (MG aA) aF.1 aF.2 (hb J br) (gB 1) (lL (fs (dF J bk.2) (0+gH.toNat) bk.1) fx) (n6 (fs (dF J bk.2) (0+gH.toNat) bk.1) fx) (eF aD (bk.2.set (0+gH.toNat) bk.1)) (.ax (tN bK bx))))))
def G3 (a9 dH:List Int)(cY:Int):(Int×Int×(List Int))→S:=fun (lN,cv,aj)=>eD [(1,.isl 1 (a9.map J)),(5,.bw 0 0 0 aj.length),(6,.n .i64 lN),(12,.isl 1 (dH.map J)),(13,.n .i64 cY),(14,.n .i64 cv)] [(av 1 J aj)]
def Hh (a9 dH:List Int)(cY:Int):(List Int)→eJ
 | a=>⟨some 0,[(5,.bw 0 0 0 a.length)],[(av 1 J a)]⟩
def wu (a9 dH:List Int)(cY lN cv:Int)(aj:List Int):Option ((Int×Int×(List Int))⊕((List Int))) :=
 if (decide (cv<cY))=true then
  if 0≤cv∧cv<dH.length then
  dH[cv.toNat]? >>= fun aU =>
  if (decide (cv<(len_ J a9)))=true then
   if 0≤cv∧cv<a9.length then
   a9[cv.toNat]? >>= fun fY =>
   if (decide ((U ((U (aU-lN))-fY))<(0:Int)))=true then
    if 0≤cv∧cv<(aj.length:Nat) then
    if (0+cv.toNat)<aj.length then
    some (.inl (1,U (cv+(1:Int)),aj.set (0+cv.toNat) (U ((U ((U (aU-lN))-fY))+(1000000000:Int)))))
    else none
    else none
   else
    if 0≤cv∧cv<(aj.length:Nat) then
    if (0+cv.toNat)<aj.length then
    some (.inl (0,U (cv+(1:Int)),aj.set (0+cv.toNat) (U ((U (aU-lN))-fY))))
    else none
    else none
   else none
  else
   if (decide ((U (aU-lN))<(0:Int)))=true then
    if 0≤cv∧cv<(aj.length:Nat) then
    if (0+cv.toNat)<aj.length then
    some (.inl (1,U (cv+(1:Int)),aj.set (0+cv.toNat) (U ((U (aU-lN))+(1000000000:Int)))))
    else none
    else none
   else
    if 0≤cv∧cv<(aj.length:Nat) then
    if (0+cv.toNat)<aj.length then
    some (.inl (0,U (cv+(1:Int)),aj.set (0+cv.toNat) (U (aU-lN))))
    else none
    else none
  else none
 else
  some (.inr aj)
def HO (a9 dH:List Int)(cY lN cv:Int)(aj:List Int):Option ((List Int)):=iter (fun w:Int×Int×(List Int)=>wu a9 dH cY w.1 w.2.1 w.2.2) (lN,cv,aj)
theorem TS {a9 dH:List Int}{cY lN cv:Int}{aj:List Int}:bQ (wu a9 dH cY lN cv aj) (fj bo 43 0 118 [1,1,1,0,1,0,0] (G3 a9 dH cY (lN,cv,aj)) (G3 a9 dH cY) (Hh a9 dH cY)):=by
 unfold wu
 exact .ite (fun o =>
  .bn fun R =>
  .az fun aU aA =>
  (let t1:List cw:=[(ad 1),.ao true,.aH (bH 2 (.cB (J aU)) 2),(ad 4),(ad 4)];
  have a6:=((.c8 o R.1 (eE J R.2) (cD J aA)):cL _);
  .ite (fun aF =>
  .bn fun br =>
  .az fun fY bx =>
  (let t3:List cw:=t1.append [.ao true,.aH (bH 4 (.cB (J fY)) 2),(ad 1),(ad 2)];
  have fa:=a6.aZ (.c8 aF br.1 (eE J br.2) (cD J bx));
  .ite (fun c2 =>
  .bn fun dO =>
  .bn fun d2 =>
  .ret (let aW:=(U ((U ((U (aU-lN))-fY))+(1000000000:Int)));bS (t3.append [.ao true,(ad 3),(ad 1),.aH (ap 4 (ar .cT [])),(ad 2),.bj [0] [.dw (av 1 J (aj.set (0+cv.toNat) aW))] [(1,ii),(5,fQ ((aj.set (0+cv.toNat) aW).length)),(6,ii),(12,ii),(13,ii),(14,ii)]]) (fa.aZ (.hh c2 dO.1 dO.2 (hb J d2) (gB 1) (d4 1 .live (fs (dF J aj) (0+cv.toNat) aW)) (aE 1 .live aD (aj.set (0+cv.toNat) aW)) (gP (fq aj) (0+cv.toNat) aW)))))
  (fun c2 =>
  .bn fun dO =>
  .bn fun d2 =>
  .ret (let bl:=U ((U (aU-lN))-fY);bS (t3.append [.ao false,.aH (ap 4 (ar .cT [])),(ad 2),.bj [0] [.dw (av 1 J (aj.set (0+cv.toNat) bl))] [(1,ii),(5,fQ ((aj.set (0+cv.toNat) bl).length)),(6,ii),(12,ii),(13,ii),(14,ii)]]) (fa.aZ (.hh c2 dO.1 dO.2 (hb J d2) (gB 1) (d4 1 .live (fs (dF J aj) (0+cv.toNat) bl)) (aE 1 .live aD (aj.set (0+cv.toNat) bl)) (gP (fq aj) (0+cv.toNat) bl)))))))
  (fun aF =>
  (let t3:List cw:=t1.append [.ao false,(ad 1),(ad 2)];
  .ite (fun br =>
  .bn fun bU =>
  .bn fun bx =>
  .ret (let cc:=(U ((U (aU-lN))+(1000000000:Int)));bS (t3.append [.ao true,(ad 3),(ad 1),.aH (ap 4 (ar .cT [])),(ad 2),.bj [0] [.dw (av 1 J (aj.set (0+cv.toNat) cc))] [(1,ii),(5,fQ ((aj.set (0+cv.toNat) cc).length)),(6,ii),(12,ii),(13,ii),(14,ii)]]) (a6.aZ (.bt aF br bU.1 bU.2 (hb J bx) (gB 1) (d4 1 .live (fs (dF J aj) (0+cv.toNat) cc)) (aE 1 .live aD (aj.set (0+cv.toNat) cc)) (.ax (gP (fq aj) (0+cv.toNat) cc))))))
  (fun br =>
  .bn fun bU =>
  .bn fun bx =>
  .ret (let cM:=U (aU-lN);bS (t3.append [.ao false,.aH (ap 4 (ar .cT [])),(ad 2),.bj [0] [.dw (av 1 J (aj.set (0+cv.toNat) cM))] [(1,ii),(5,fQ ((aj.set (0+cv.toNat) cM).length)),(6,ii),(12,ii),(13,ii),(14,ii)]]) (a6.aZ (.bt aF br bU.1 bU.2 (hb J bx) (gB 1) (d4 1 .live (fs (dF J aj) (0+cv.toNat) cM)) (aE 1 .live aD (aj.set (0+cv.toNat) cM)) (.ax (gP (fq aj) (0+cv.toNat) cM))))))))))
  (fun o =>
  .ret (bS [(ad 1),.ao false,.bj [0] [.pure] (bR [5])] (.aC o (aE 1 .live aD aj))))
theorem UJ {a9 dH:List Int}{cY lN cv:Int}{aj:List Int}{r} (h:HO a9 dH cY lN cv aj=some r):fk bo 43 0 118 [1,1,1,0,1,0,0] (G3 a9 dH cY) (Hh a9 dH cY) (lN,cv,aj) r:=fl (fun _=>TS) h
def sJ (ba a9:List Int):Option (List Int) :=
 if 0≤(len_ J ba)∧(8:Int)*(len_ J ba)≤281474976710656∧(len_ J ba)<9223372036854775808 then
 HO a9 ba (len_ J ba) 0 0 (List.replicate (len_ J ba).toNat 0:List Int) >>= fun bm =>
 pJ bm >>= fun aX =>
 some aX
 else none
theorem MZ {ba a9:List Int}:bQ (sJ ba a9) (fun r=>Con bo 118 [.isl 1 (ba.map J),.isl 1 (a9.map J)] [] (.isl 1 (r.map J)) []):=by
 unfold sJ
 exact .bn fun o =>
  .az fun bm ab =>
  .az fun aX aF =>
  .ret (let bl:=len_ J ba;let aW:=(List.replicate bl.toNat 0:List Int);bP [(ad 1),(ad 4),(ad 1),(ad 3),.bj [3] [.dw (av 1 J aW)] [(1,ii),(5,fQ (aW.length)),(6,ii),(12,ii),(13,ii),(14,ii)],(Hh a9 ba bl bm).fW,.im 0,.aH (bH 1 (.call {ac:=[.bF (.b9 (.e5 (bm.map J)))],r:= .isl 1 (aX.map J),c9:=false,dd:=[0]}) 1)] (.bt o.1 (Int.le_refl bl) o.2.1 o.2.2 (d4 1 .live (kp J bl.toNat 0)) (aE 1 .live aD aW) (kB bl.toNat (0:Int)) (UJ ab) (.c8 (ia J bm) (ht J bm) (eF aD bm) (tN aX aF))))
def sG (b2 eH:bc):Option bc :=
 o8 b2.cK eH.cK >>= fun ak =>
 if (b2.c6 == eH.c6)=true then
  xa b2.cK eH.cK >>= fun aX =>
  kd b2.c6 aX >>= fun cj =>
  some cj
 else
  if (decide ((0:Int)≤ak))=true then
   sJ b2.cK eH.cK >>= fun bh =>
   kd b2.c6 bh >>= fun bK =>
   some bK
  else
   sJ eH.cK b2.cK >>= fun bh =>
   kd eH.c6 bh >>= fun bK =>
   some bK
theorem Mb {b2 eH:bc}:bQ (sG b2 eH) (fun r=>Con bo 106 [.agg (aQ b2),.agg (aQ eH)] [] (.agg (aQ r)) []):=by
 unfold sG
 exact .az fun ak R =>
  (let t1:List cw:=[(ad 3),.aH (bH 4 (bT 2 (.n .i64 ak) true) 1),(ad 6)];
  have a6:=((.aC (wF ak R) (cp.n .i64 ak)):cL _);
  .ite (fun ab =>
  .az fun aX aF =>
  .az fun cj bU =>
  .ret (bP (t1.append [.ao true,.aH (ap 6 (ar (bT 2 (.isl 1 (aX.map J)) false) (ar (bT 2 (.agg (aQ cj)) false) (ap 1 []))))]) (a6.aZ (.bZ ab (Vv aX aF) (qn cj bU)))))
  (fun ab =>
  .ite (fun aA =>
  .az fun bh br =>
  .az fun bK bx =>
  .ret (bP (t1.append [.ao false,(ad 3),.ao true,.aH (ap 6 (ar (bT 2 (.isl 1 (bh.map J)) false) (ar (bT 2 (.agg (aQ bK)) false) (ap 1 []))))]) (a6.aZ (.c8 ab aA (MZ bh br) (qn bK bx)))))
  (fun aA =>
  .az fun bh br =>
  .az fun bK bx =>
  .ret (bP (t1.append [.ao false,(ad 3),.ao false,.aH (ap 6 (ar (bT 2 (.isl 1 (bh.map J)) false) (ar (bT 2 (.agg (aQ bK)) false) (ap 1 []))))]) (a6.aZ (.c8 ab aA (MZ bh br) (qn bK bx)))))))
def tC (b2 eH:bc):Option bc :=
 o7 eH >>= fun ak =>
 sG b2 ak >>= fun bk =>
 some bk
theorem L4 {b2 eH:bc}:bQ (tC b2 eH) (fun r=>Con bo 112 [.agg (aQ b2),.agg (aQ eH)] [] (.agg (aQ r)) []):=by
 unfold tC
 exact .az fun ak R =>
  .az fun bk aA =>
  .ret (bP [(ad 3),.aH (ap 2 (ar (bT 1 (.agg (aQ ak)) false) (ar (bT 2 (.agg (aQ bk)) false) (ap 1 []))))] (.aC (BQ ak R) (Mb bk aA)))
def FL (il:List (List bc))(jH:Bool)(jD ig:List Int)(iy:Int)(jC:List Bool)(kS:List Int)(cl oo:Int):(Int×Bool×(List Int))→S:=fun (ij,aT,aG)=>eD [(0,.ey 6 [[.isl 1 (il.map (e7 2 aQ)),.b jH,.isl 1 (jD.map J),.isl 1 (ig.map J),.n .i64 iy,.isl 1 (jC.map dB)]] 0 0),(1,.isl 1 (kS.map J)),(2,.n .i64 cl),(7,.ref 0 0 0 0),(23,.isl 1 (ig.map J)),(24,.n .i64 oo),(25,.n .i64 ij)] [[aq.mk 2 [[.b aT,.isl 1 (aG.map J)]] .live]]
def LW (il:List (List bc))(jH:Bool)(jD ig:List Int)(iy:Int)(jC:List Bool)(kS:List Int)(cl oo:Int):(Bool×(List Int))→eJ
 | a=>⟨some 0,[(7,.ref 0 0 0 0)],[[aq.mk 2 [[.b a.1,.isl 1 (a.2.map J)]] .live]]⟩
def vP (il:List (List bc))(jH:Bool)(jD ig:List Int)(iy:Int)(jC:List Bool)(kS:List Int)(cl oo ij:Int)(aT:Bool)(aG:List Int):Option ((Int×Bool×(List Int))⊕(Bool×(List Int))) :=
 if (decide (ij<oo))=true then
  if 0≤ij∧ij<ig.length then
  ig[ij.toNat]? >>= fun aU =>
  if 0≤aU∧aU<kS.length then
  kS[aU.toNat]? >>= fun cd =>
  if (cd != (0:Int))=true then
   if 0≤ij∧ij<il.length then
   il[ij.toNat]? >>= fun i1 =>
   if 0≤cl∧cl<i1.length then
   i1[cl.toNat]? >>= fun mo =>
   n5 mo >>= fun eX =>
   if (eX != (0:Int))=true then
    nz cd >>= fun eZ =>
    n4 mo eZ >>= fun i9 =>
    tC (⟨aT,aG⟩:bc) i9 >>= fun A0 =>
    some (.inl (U (ij+(1:Int)),A0.c6,A0.cK))
   else
    some (.inl (U (ij+(1:Int)),aT,aG))
   else none
   else none
  else
   some (.inl (U (ij+(1:Int)),aT,aG))
  else none
  else none
 else
  some (.inr (aT,aG))
def Gj (il:List (List bc))(jH:Bool)(jD ig:List Int)(iy:Int)(jC:List Bool)(kS:List Int)(cl oo ij:Int)(aT:Bool)(aG:List Int):Option (Bool×(List Int)):=iter (fun w:Int×Bool×(List Int)=>vP il jH jD ig iy jC kS cl oo w.1 w.2.1 w.2.2) (ij,aT,aG)
theorem SY {il:List (List bc)}{jH:Bool}{jD ig:List Int}{iy:Int}{jC:List Bool}{kS:List Int}{cl oo ij:Int}{aT:Bool}{aG:List Int}:bQ (vP il jH jD ig iy jC kS cl oo ij aT aG) (fj bo 70 0 102 [1,1,0,1,0,0] (FL il jH jD ig iy jC kS cl oo (ij,aT,aG)) (FL il jH jD ig iy jC kS cl oo) (LW il jH jD ig iy jC kS cl oo)):=by
 unfold vP
 exact .ite (fun o =>
  .bn fun R =>
  .az fun aU aA =>
  .bn fun aF =>
  .az fun cd bU =>
  (let t1:List cw:=[(ad 1),.ao true,.aH (bH 2 (.cB (J aU)) 2)];
  have a6:=((.e2 o R.1 (eE J R.2) (cD J aA) aF.1 (eE J aF.2) (cD J bU)):cL _);
  .ite (fun bx =>
  .bn fun c2 =>
  .az fun i1 d2 =>
  .bn fun ev =>
  .az fun mo eT =>
  .az fun eX h5 =>
  (let t3:List cw:=t1.append [.aH (ap 3 (ar (.cB (J cd)) (ap 8 (ar (.cB ((e7 2 aQ) i1)) (ap 2 (ar (.cB (aQ mo)) (ar (bT 1 (.n .i64 eX) true) (ap 1 (ar (.ao true) [])))))))))];
  have fa:=a6.aZ (.bt bx bx bx bx bx bx c2.1 (eE (e7 2 aQ) c2.2) (.bt bx (cD (e7 2 aQ) d2) bx bx ev.1 (eE aQ ev.2) bx (cD aQ eT) (.ep bx (rG eX h5) (cp.n .i64 eX) bx bx)));
  .ite (fun gh =>
  .az fun eZ gG =>
  .az fun i9 oE =>
  .az fun A0 lI =>
  .ret (bS (t3.append [.ao true,.aH (ap 7 (ar (.cB ((e7 2 aQ) i1)) (ap 2 (ar (.cB (aQ mo)) (ap 3 (ar (.cB (J cd)) (ar (bT 1 (.agg (aQ eZ)) false) (ar (bT 2 (.agg (aQ i9)) false) (ar (bT 2 (.agg (aQ A0)) false) (ap 1 [])))))))))),(ad 2),.bj [0] [.box [.id,.id]] (bR [0,1,2,7,23,24,25])]) (fa.aZ (.bt gh c2.1 (eE (e7 2 aQ) c2.2) (cD (e7 2 aQ) d2) ev.1 (eE aQ ev.2) (cD aQ eT) aF.1 (.ep (eE J aF.2) (cD J bU) (q4 eZ gG) (tz i9 oE) (L4 A0 lI))))))
  (fun gh =>
  .ret (bS (t3.append [.ao false,(ad 2),.bj [0] [.box [.id,.id]] (bR [0,1,2,7,23,24,25])]) (fa.aZ (.ax gh))))))
  (fun bx =>
  .ret (bS (t1.append [.aH (ap 3 (ar (.cB (J cd)) (ap 2 (dk 12 (ar (.ao false) []))))),.ao false,(ad 2),.bj [0] [.box [.id,.id]] (bR [0,1,2,7,23,24,25])]) (a6.aZ (.bt bx bx bx bx bx bx bx bx (.fb bx bx bx bx bx gC)))))))
  (fun o =>
  .ret (bS [(ad 1),.ao false,.bj [0] [.box [.id,.id]] (bR [7])] (.ax o)))
theorem Tq {il:List (List bc)}{jH:Bool}{jD ig:List Int}{iy:Int}{jC:List Bool}{kS:List Int}{cl oo ij:Int}{aT:Bool}{aG:List Int}{r} (h:Gj il jH jD ig iy jC kS cl oo ij aT aG=some r):fk bo 70 0 102 [1,1,0,1,0,0] (FL il jH jD ig iy jC kS cl oo) (LW il jH jD ig iy jC kS cl oo) (ij,aT,aG) r:=fl (fun _=>SY) h
def wA (ln:qp)(kS:List Int)(cl:Int):Option Int :=
 if 0≤cl∧cl<kS.length then
 kS[cl.toNat]? >>= fun e1 =>
 nz e1 >>= fun aX =>
 n4 ln.uW aX >>= fun cj =>
 Gj ln.DM ln.uW.c6 ln.uW.cK ln.DB ln.Ju ln.Jv kS cl (len_ J ln.DB) 0 cj.c6 cj.cK >>= fun eQ =>
 n5 (⟨eQ.1,eQ.2⟩:bc) >>= fun en =>
 some en
 else none
theorem L5 {ln:qp}{kS:List Int}{cl:Int}:bQ (wA ln kS cl) (fun r=>Con bo 102 [.ey 6 [(w3 ln)] 0 0,.isl 1 (kS.map J),.n .i64 cl] [] (.n .i64 r) []):=by
 unfold wA
 exact .bn fun o =>
  .az fun e1 ab =>
  .az fun aX aF =>
  .az fun cj bU =>
  .az fun eQ c2 =>
  .az fun en d2 =>
  .ret (bP [(ad 1),.aH (ap 7 (ar (.cB (J e1)) (ar (bT 1 (.agg (aQ aX)) false) (ar (bT 2 (.agg (aQ cj)) false) (ap 2 []))))),(ad 6),.bj [11] [.box [.id,.id]] (bR [0,1,2,7,23,24,25]),.sub (.exit 0) [(7,.ref 0 0 0 0)] [[aq.mk 2 [[.b eQ.1,.isl 1 (eQ.2.map J)]] .live]],.aH (bH 1 (bT 1 (.n .i64 en) true) 1)] (.hh o.1 (eE J o.2) (cD J ab) (q4 aX aF) (tz cj bU) (Tq c2) (rG en d2) (cp.n .i64 en)))
def q2 (b2 eH:bc):Option Int :=
 if (b2.c6 == eH.c6)=true then
  if b2.c6=true then
   o8 eH.cK b2.cK >>= fun bk =>
   some bk
  else
   o8 b2.cK eH.cK >>= fun bk =>
   some bk
 else
  if b2.c6=true then
   some (-1)
  else
   some 1
theorem L2 {b2 eH:bc}:bQ (q2 b2 eH) (fun r=>Con bo 67 [.agg (aQ b2),.agg (aQ eH)] [] (.n .i64 r) []):=by
 unfold q2
 exact .ite (fun o =>
  (let t1:List cw:=[(ad 3),.aH (ap 6 (dk 2 (ar (.ao false) (ap 1 [])))),.ao false,(ad 6),.ao false,(ad 3)];
  have a6:=((.ep (dc o) (dc o) (dc o) gC (dc o)):cL _);
  .ite (fun R =>
  .az fun bk aA =>
  .ret (bP (t1.append [.ao true,.aH (bH 4 (bT 2 (.n .i64 bk) true) 1)]) (a6.aZ (.bZ R (wF bk aA) (cp.n .i64 bk)))))
  (fun R =>
  .az fun bk aA =>
  .ret (bP (t1.append [.ao false,.aH (bH 4 (bT 2 (.n .i64 bk) true) 1)]) (a6.aZ (.bZ R (wF bk aA) (cp.n .i64 bk)))))))
  (fun o =>
  (let t1:List cw:=[(ad 3),.aH (bH 8 (.ao true) 1)];
  have a6:=((.bZ (df o) (df o) (df o)):cL _);
  .ite (fun R =>
  .ret (bP (t1.append [.ao true,(ad 1)]) (a6.aZ (.ax R))))
  (fun R =>
  .ret (bP (t1.append [.ao false,(ad 6),.ao true,(ad 1)]) (a6.aZ (.aC R (df o)))))))
def Fs (il:List (List bc))(jH:Bool)(jD ig:List Int)(iy:Int)(jC:List Bool)(cl cY:Int):(Int×Int)→S:=fun (iH,cv)=>eD [(0,.ey 6 [[.isl 1 (il.map (e7 2 aQ)),.b jH,.isl 1 (jD.map J),.isl 1 (ig.map J),.n .i64 iy,.isl 1 (jC.map dB)]] 0 0),(1,.n .i64 cl),(5,.n .i64 iH),(12,.isl 1 (il.map (e7 2 aQ))),(13,.n .i64 cY),(14,.n .i64 cv)] []
def LU (il:List (List bc))(jH:Bool)(jD ig:List Int)(iy:Int)(jC:List Bool)(cl cY:Int):Int→eJ
 | a=>⟨some 0,[(5,.n .i64 a)],[]⟩
def vE (il:List (List bc))(jH:Bool)(jD ig:List Int)(iy:Int)(jC:List Bool)(cl cY iH cv:Int):Option ((Int×Int)⊕(Int)) :=
 if (decide (cv<cY))=true then
  if 0≤cv∧cv<il.length then
  il[cv.toNat]? >>= fun aU =>
  if 0≤cl∧cl<aU.length then
  aU[cl.toNat]? >>= fun cd =>
  n5 cd >>= fun eQ =>
  if (decide (eQ≤(0:Int)))=true then
   some (.inl (iH,U (cv+(1:Int))))
  else
   if (decide (iH<(0:Int)))=true then
    some (.inl (cv,U (cv+(1:Int))))
   else
    if 0≤iy∧iy<aU.length then
    aU[iy.toNat]? >>= fun mo =>
    if 0≤iH∧iH<il.length then
    il[iH.toNat]? >>= fun jU =>
    if 0≤cl∧cl<jU.length then
    jU[cl.toNat]? >>= fun qO =>
    n4 mo qO >>= fun jw =>
    if 0≤iy∧iy<jU.length then
    jU[iy.toNat]? >>= fun sl =>
    n4 sl cd >>= fun k1 =>
    q2 jw k1 >>= fun lV =>
    if (decide (lV<(0:Int)))=true then
     some (.inl (cv,U (cv+(1:Int))))
    else
     if (lV == (0:Int))=true then
      if 0≤cv∧cv<ig.length then
      ig[cv.toNat]? >>= fun Ku =>
      if 0≤iH∧iH<ig.length then
      ig[iH.toNat]? >>= fun Kv =>
      if (decide (Ku<Kv))=true then
       some (.inl (cv,U (cv+(1:Int))))
      else
       some (.inl (iH,U (cv+(1:Int))))
      else none
      else none
     else
      some (.inl (iH,U (cv+(1:Int))))
    else none
    else none
    else none
    else none
  else none
  else none
 else
  some (.inr iH)
def FU (il:List (List bc))(jH:Bool)(jD ig:List Int)(iy:Int)(jC:List Bool)(cl cY iH cv:Int):Option (Int):=iter (fun w:Int×Int=>vE il jH jD ig iy jC cl cY w.1 w.2) (iH,cv)
theorem SL {il:List (List bc)}{jH:Bool}{jD ig:List Int}{iy:Int}{jC:List Bool}{cl cY iH cv:Int}:bQ (vE il jH jD ig iy jC cl cY iH cv) (fj bo 91 0 103 [1,1,0,1,0,0] (Fs il jH jD ig iy jC cl cY (iH,cv)) (Fs il jH jD ig iy jC cl cY) (LU il jH jD ig iy jC cl cY)):=by
 unfold vE
 exact .ite (fun o =>
  .bn fun R =>
  .az fun aU aA =>
  .bn fun aF =>
  .az fun cd bU =>
  .az fun eQ c2 =>
  (let t1:List cw:=[(ad 1),.ao true,.aH (bH 2 (.cB ((e7 2 aQ) aU)) 2),.aH (ap 3 (ar (.cB (aQ cd)) (ar (bT 1 (.n .i64 eQ) true) (ap 1 []))))];
  have a6:=((.bt o R.1 (eE (e7 2 aQ) R.2) (cD (e7 2 aQ) aA) aF.1 (eE aQ aF.2) (cD aQ bU) (rG eQ c2) (.ax (cp.n .i64 eQ))):cL _);
  .ite (fun dO =>
  .ret (bS (t1.append [.ao true,(ad 2),.bj [] [] (bR [0,1,5,12,13,14])]) (a6.aZ (.ax dO))))
  (fun dO =>
  .ite (fun d2 =>
  .ret (bS (t1.append [.ao false,(ad 2),.ao true,(ad 2),(ad 2),.bj [] [] (bR [0,1,5,12,13,14])]) (a6.aZ (.aC dO d2))))
  (fun d2 =>
  .bn fun ev =>
  .az fun mo eT =>
  .bn fun hD =>
  .az fun jU gh =>
  .bn fun j6 =>
  .az fun qO nS =>
  .az fun jw h6 =>
  .bn fun lI =>
  .az fun sl qP =>
  .az fun k1 uX =>
  .az fun lV sm =>
  (let aW:=e7 2 aQ;let t3:List cw:=t1.append [.ao false,(ad 2),.ao false,.aH (ap 6 (ar (.cB (aQ mo)) (ap 6 (ar (.cB (aW jU)) (ap 2 (ar (.cB (aQ qO)) (ar (bT 2 (.agg (aQ jw)) false) (ap 6 (ar (.cB (aW jU)) (ap 5 (ar (.cB (aQ sl)) (ap 3 (ar (.cB (aQ cd)) (ar (bT 2 (.agg (aQ k1)) false) (ar (bT 2 (.n .i64 lV) true) (ap 1 []))))))))))))))))];
  have fa:=a6.aZ (.bt dO d2 ev.1 (eE aQ ev.2) (cD aQ eT) hD.1 (eE aW hD.2) (cD aW gh) (.bt j6.1 (eE aQ j6.2) (cD aQ nS) (tz jw h6) hD.1 (eE aW hD.2) (cD aW gh) lI.1 (.hh (eE aQ lI.2) (cD aQ qP) aF.1 (eE aQ aF.2) (cD aQ bU) (tz k1 uX) (L2 lV sm) (cp.n .i64 lV))));
  .ite (fun mU =>
  .ret (bS (t3.append [.aH (ap 3 (dk 3 (ap 15 (dk 1 (ar (.ao true) []))))),.ao true,(ad 2),(ad 2),.bj [] [] (bR [0,1,5,12,13,14])]) (fa.aZ (.fb mU mU mU mU mU ca))))
  (fun mU =>
  .ite (fun f6 =>
  .bn fun k2 =>
  .az fun Ku El =>
  .bn fun A1 =>
  .az fun Kv abH =>
  (let t5:List cw:=t3.append [.aH (ap 12 (ar (.cB (J Ku)) (ap 6 (ar (.cB (J Kv)) (ap 1 (ar (.ao true) (ar (.ao false) [])))))))];
  have m1:=fa.aZ (.bt mU mU mU f6 f6 f6 f6 f6 (.bt f6 k2.1 (eE J k2.2) f6 (cD J El) f6 f6 f6 (.bt f6 f6 f6 A1.1 (eE J A1.2) f6 (cD J abH) f6 (.bZ mU f6 mU))));
  .ite (fun Kw =>
  .ret (bS (t5.append [.ao true,(ad 2),(ad 2),.bj [] [] (bR [0,1,5,12,13,14])]) (m1.aZ (.ax Kw))))
  (fun Kw =>
  .ret (bS (t5.append [.ao false,(ad 2),.bj [] [] (bR [0,1,5,12,13,14])]) (m1.aZ (.ax Kw))))))
  (fun f6 =>
  .ret (bS (t3.append [.aH (ap 6 (dk 15 (ar (.ao false) (ar (.ao false) [])))),.ao false,(ad 2),.bj [] [] (bR [0,1,5,12,13,14])]) (fa.aZ (.bt mU mU mU f6 f6 f6 f6 f6 (.bt f6 f6 f6 f6 f6 f6 f6 f6 (.fb f6 f6 mU f6 mU gC))))))))))))
  (fun o =>
  .ret (bS [(ad 1),.ao false,.bj [] [] (bR [5])] (.ax o)))
theorem S5 {il:List (List bc)}{jH:Bool}{jD ig:List Int}{iy:Int}{jC:List Bool}{cl cY iH cv:Int}{r} (h:FU il jH jD ig iy jC cl cY iH cv=some r):fk bo 91 0 103 [1,1,0,1,0,0] (Fs il jH jD ig iy jC cl cY) (LU il jH jD ig iy jC cl cY) (iH,cv) r:=fl (fun _=>SL) h
def yL (ln:qp)(cl:Int):Option Int :=
 FU ln.DM ln.uW.c6 ln.uW.cK ln.DB ln.Ju ln.Jv cl (len_ (e7 2 aQ) ln.DM) (-1) 0 >>= fun ak =>
 some ak
theorem Tr {ln:qp}{cl:Int}:bQ (yL ln cl) (fun r=>Con bo 103 [.ey 6 [(w3 ln)] 0 0,.n .i64 cl] [] (.n .i64 r) []):=by
 unfold yL
 exact .az fun ak R =>
  .ret (bP [(ad 1),(ad 1),(ad 6),.bj [] [] (bR [0,1,5,12,13,14]),.sub (.exit 0) [(5,.n .i64 ak)] [],(ad 2)] (.ax (S5 R)))
def ui (aL:List Int):Option (List Int) :=
 if aL.length*8≤140737488355328 then some aL else none
theorem WQ:Con bo 69 [.d7] [] (.isl 1 (([]:List Int).map J)) []:=bP [(ad 1),(ad 2),.ao true,(ad 1)] (.ax ca) (.bF (.b9 (.iv 1)))
theorem WR:Con bo 69 [.h2] [] (.isl 1 (([]:List Int).map J)) []:=(by
 have h:=fun (o:(([]:List Int)++([]:List Int)).length*8≤140737488355328)=>(bP [(ad 1),(ad 2),.ao false,.aH (bH 2 (.aZ ((([]:List Int)++([]:List Int)).length)) 1)] (.e2 gC (ue (show []=(([]:List Int)).map J from rfl) (mB Int)) (xm (mB Int) (qT J):(([]:List Int)++([]:List Int)).length=0+([]:List (List ay)).length) o (lL (qs (show []=(([]:List Int)).map J from rfl) (mB Int) (qT J)) (fq (([]:List Int)++([]:List Int)))) (n6 (qs (show []=(([]:List Int)).map J from rfl) (mB Int) (qT J)) (fq (([]:List Int)++([]:List Int)))) (eF aD (([]:List Int)++([]:List Int)))) (.bF (.b9 (.e5 ((([]:List Int)++([]:List Int)).map J)))):Con bo 69 [.h2] [] (.isl 1 ((([]:List Int)++([]:List Int)).map J)) [])
 exact h (by decide))
theorem WS (x:Int)(l:List Int)(o:(([]:List Int)++(x::l)).length*8≤140737488355328):Con bo 69 [.isl 1 ((x::l).map J)] [] (.isl 1 ((([]:List Int)++(x::l)).map J)) []:=bP [(ad 1),.aH (ap 1 (ar .cT [])),.ao false,.aH (bH 2 (.aZ ((([]:List Int)++(x::l)).length)) 1)] (.hh (by simp:(x::l).map J≠[]) gC (ue (show []=(([]:List Int)).map J from rfl) (mB Int)) (xm (mB Int) (dF J (x::l)):(([]:List Int)++(x::l)).length=0+((x::l).map J).length) o (lL (qs (show []=(([]:List Int)).map J from rfl) (mB Int) (dF J (x::l))) (fq (([]:List Int)++(x::l)))) (n6 (qs (show []=(([]:List Int)).map J from rfl) (mB Int) (dF J (x::l))) (fq (([]:List Int)++(x::l)))) (eF aD (([]:List Int)++(x::l)))) (.bF (.b9 (.e5 ((([]:List Int)++(x::l)).map J))))
theorem Il {aL:List Int}:bQ (ui aL) (fun r=>Con bo 69 [.isl 1 (aL.map J)] [] (.isl 1 (r.map J)) []):=by
 unfold ui
 refine .bn fun h=> .ret ?_
 cases aL with
 | nil=>exact .jI WQ WR
 | cons x l =>
  have R:=WS x l (by simpa using h)
  simpa using R
def FY (ba:List Int)(a9:Int):(Int×Int×(List Int))→S:=fun (hj,bd,aj)=>eD [(0,.isl 1 (ba.map J)),(1,.n .i64 a9),(6,.bw 0 0 0 aj.length),(7,.n .i64 hj),(8,.n .i64 bd)] [(av 1 J aj)]
def F8 (ba:List Int)(a9:Int):(Int×(List Int))→eJ
 | a=>⟨some 0,[(6,.bw 0 0 0 a.2.length),(7,.n .i64 a.1)],[(av 1 J a.2)]⟩
def FZ (ba:List Int)(a9 hj bd:Int)(aj:List Int):Option ((Int×Int×(List Int))⊕(Int×(List Int))) :=
 if (decide ((0:Int)≤bd))=true then
  if 0≤bd∧bd<ba.length then
  ba[bd.toNat]? >>= fun aU =>
  if a9≠0 then
  if 0≤bd∧bd<(aj.length:Nat) then
  if (0+bd.toNat)<aj.length then
  some (.inl ((U ((U (hj*(1000000000:Int)))+aU)).tmod a9,U (bd-(1:Int)),aj.set (0+bd.toNat) (U ((U ((U (hj*(1000000000:Int)))+aU)).tdiv a9))))
  else none
  else none
  else none
  else none
 else
  some (.inr (hj,aj))
def Hi (ba:List Int)(a9 hj bd:Int)(aj:List Int):Option (Int×(List Int)):=iter (fun w:Int×Int×(List Int)=>FZ ba a9 w.1 w.2.1 w.2.2) (hj,bd,aj)
theorem Tf {ba:List Int}{a9 hj bd:Int}{aj:List Int}:bQ (FZ ba a9 hj bd aj) (fj bo 39 0 114 [1,1,1,0,1,0,0] (FY ba a9 (hj,bd,aj)) (FY ba a9) (F8 ba a9)):=by
 unfold FZ
 exact .ite (fun o =>
  .bn fun R =>
  .az fun aU aA =>
  .bn fun aF =>
  .bn fun br =>
  .bn fun bU =>
  .ret (let aW:=(U ((U ((U (hj*(1000000000:Int)))+aU)).tdiv a9));bS [(ad 2),.ao true,.aH (bH 5 (.cB (J aU)) 2),.aH (bH 9 .cT 1),(ad 3),.bj [0] [.dw (av 1 J (aj.set (0+bd.toNat) aW))] [(0,ii),(1,ii),(6,fQ ((aj.set (0+bd.toNat) aW).length)),(7,ii),(8,ii)]] (.bt o R.1 (eE J R.2) (cD J aA) aF aF br.1 br.2 (.ep (hb J bU) (gB 1) (d4 1 .live (fs (dF J aj) (0+bd.toNat) aW)) (aE 1 .live aD (aj.set (0+bd.toNat) aW)) (gP (fq aj) (0+bd.toNat) aW)))))
  (fun o =>
  .ret (bS [(ad 2),.ao false,.bj [0] [.pure] (bR [6,7])] (.aC o (aE 1 .live aD aj))))
theorem T0 {ba:List Int}{a9 hj bd:Int}{aj:List Int}{r} (h:Hi ba a9 hj bd aj=some r):fk bo 39 0 114 [1,1,1,0,1,0,0] (FY ba a9) (F8 ba a9) (hj,bd,aj) r:=fl (fun _=>Tf) h
def wL (ba:List Int)(a9:Int):Option ((List Int)×Int) :=
 if 0≤(len_ J ba)∧(8:Int)*(len_ J ba)≤281474976710656∧(len_ J ba)<9223372036854775808 then
 Hi ba a9 0 (U ((len_ J ba)-(1:Int))) (List.replicate (len_ J ba).toNat 0:List Int) >>= fun bm =>
 pJ bm.2 >>= fun aX =>
 some (aX,bm.1)
 else none
theorem Mn {ba:List Int}{a9:Int}:bQ (wL ba a9) (fun r=>Con bo 114 [.isl 1 (ba.map J),.n .i64 a9] [] (.cW [.isl 1 (r.1.map J),.n .i64 r.2]) []):=by
 unfold wL
 exact .bn fun o =>
  .az fun bm ab =>
  .az fun aX aF =>
  .ret (let aW:=(List.replicate (len_ J ba).toNat 0:List Int);bP [(ad 2),(ad 4),(ad 1),(ad 4),.bj [4] [.dw (av 1 J aW)] [(0,ii),(1,ii),(6,fQ (aW.length)),(7,ii),(8,ii)],(F8 ba a9 bm).fW,.im 0,.aH (bH 1 (.call {ac:=[.bF (.b9 (.e5 (bm.2.map J)))],r:= .isl 1 (aX.map J),c9:=false,dd:=[0]}) 3)] (.bt o.1 (Int.le_refl (len_ J ba)) o.2.1 o.2.2 (d4 1 .live (kp J (len_ J ba).toNat 0)) (aE 1 .live aD aW) (kB (len_ J ba).toNat (0:Int)) (T0 ab) (.c8 (ia J bm.2) (ht J bm.2) (eF aD bm.2) (tN aX aF))))
def GG (aj:List Int):Nat→S:=fun la=>eD [(0,.bw 0 0 0 la)] [(av 1 J aj)]
def G4 (aj:List Int):Nat→eJ
 | a=>⟨some 0,[(0,.bw 0 0 0 a)],[(av 1 J aj)]⟩
def wk (aj:List Int)(la:Nat):Option ((Nat)⊕(Nat)) :=
 if (decide ((0:Int)<((la:Nat):Int)))=true then
  if 0≤(U (((la:Nat):Int)-(1:Int)))∧(U (((la:Nat):Int)-(1:Int)))<(la:Nat) then
  aj[(0+(U (((la:Nat):Int)-(1:Int))).toNat)]? >>= fun aU =>
  if (aU == (0:Int))=true then
   if 0≤(U (((la:Nat):Int)-(1:Int))) then
   if 0≤(U (((la:Nat):Int)-(1:Int))).toNat∧(U (((la:Nat):Int)-(1:Int))).toNat≤la then
   some (.inl ((U (((la:Nat):Int)-(1:Int))).toNat-0))
   else none
   else none
  else
   some (.inr la)
  else none
 else
  some (.inr la)
def HF (aj:List Int)(la:Nat):Option (Nat):=iter (fun w:Nat=>wk aj w) la
theorem TI {aj:List Int}{la:Nat}:bQ (wk aj la) (fj bo 21 1 110 [1,0,0,0] (GG aj la) (GG aj) (G4 aj)):=by
 unfold wk
 exact .ite (fun o =>
  .bn fun R =>
  .az fun aU aA =>
  (let t1:List cw:=[.aH (ap 9 (ar (.cB (J aU)) (ap 1 (ar (.ao true) []))))];
  have a6:=((.bt o o o o o R.1 R.2 o (.bZ (cD J aA) o o)):cL _);
  .ite (fun aF =>
  .bn fun br =>
  .bn fun bU =>
  .ret (bS (t1.append [.ao true,(ad 6),.bj [0] [.pure] (bR [0])]) (a6.aZ (.ep aF br bU.1 bU.2 (aE 1 .live aD aj)))))
  (fun aF =>
  .ret (bS (t1.append [.ao false,.bj [0] [.pure] (bR [0])]) (a6.aZ (.aC aF (aE 1 .live aD aj)))))))
  (fun o =>
  .ret (bS [.aH (ap 4 (dk 7 (ar (.ao false) []))),.ao false,.bj [0] [.pure] (bR [0])] (.bt o o o o o o o o (.aC gC (aE 1 .live aD aj)))))
theorem Ux {aj:List Int}{la:Nat}{r} (h:HF aj la=some r):fk bo 21 1 110 [1,0,0,0] (GG aj) (G4 aj) la r:=fl (fun _=>TI) h
def zh (fJ:List Int):Option Nat :=
 HF fJ fJ.length >>= fun ak =>
 some ak
theorem U7 {fJ:List Int}:bQ (zh fJ) (fun a=>Con bo 110 [.bw 0 0 0 fJ.length] [(av 1 J fJ)] (.bw 0 0 0 a) [(av 1 J fJ)]):=by
 unfold zh
 exact .az fun ak R =>
  .ret (hg [(ad 1),.bj [0] [.pure] (bR [0]),(G4 fJ ak).fW,(ad 2)] [0] [.pure] (.bZ (aE 1 .live aD fJ) (Ux R) (aE 1 .live aD fJ)))
def Gk (a9:List Int)(bd a0:Int)(dC:List Int)(dp dL:Int):(Int×Int×(List Int))→S:=fun (ed,dg,aj)=>eD [(1,.isl 1 (a9.map J)),(5,.bw 0 0 0 aj.length),(6,.n .i64 bd),(7,.n .i64 a0),(8,.n .i64 ed),(26,.isl 1 (dC.map J)),(27,.n .i64 dp),(28,.n .i64 bd),(33,.isl 1 (a9.map J)),(34,.n .i64 dL),(35,.n .i64 dg)] [(av 1 J aj)]
def GH (a9:List Int)(bd a0:Int)(dC:List Int)(dp dL:Int):(Int×(List Int))→eJ
 | a=>⟨some 2,[(1,.isl 1 (a9.map J)),(5,.bw 0 0 0 a.2.length),(6,.n .i64 bd),(8,.n .i64 a.1),(26,.isl 1 (dC.map J)),(27,.n .i64 dp),(28,.n .i64 bd)],[(av 1 J a.2)]⟩
def Gl (a9:List Int)(bd a0:Int)(dC:List Int)(dp dL ed dg:Int)(aj:List Int):Option ((Int×Int×(List Int))⊕(Int×(List Int))) :=
 if (decide (dg<dL))=true then
  if 0≤dg∧dg<a9.length then
  a9[dg.toNat]? >>= fun aU =>
  if 0≤(U (bd+dg))∧(U (bd+dg))<(aj.length:Nat) then
  aj[(0+(U (bd+dg)).toNat)]? >>= fun cd =>
  if (0+(U (bd+dg)).toNat)<aj.length then
  some (.inl (U ((U ((U (cd+(U (a0*aU))))+ed)).tdiv (1000000000:Int)),U (dg+(1:Int)),aj.set (0+(U (bd+dg)).toNat) ((U ((U (cd+(U (a0*aU))))+ed)).tmod (1000000000:Int))))
  else none
  else none
  else none
 else
  some (.inr (ed,aj))
def MH (a9:List Int)(bd a0:Int)(dC:List Int)(dp dL ed dg:Int)(aj:List Int):Option (Int×(List Int)):=iter (fun w:Int×Int×(List Int)=>Gl a9 bd a0 dC dp dL w.1 w.2.1 w.2.2) (ed,dg,aj)
theorem Ts {a9:List Int}{bd a0:Int}{dC:List Int}{dp dL ed dg:Int}{aj:List Int}:bQ (Gl a9 bd a0 dC dp dL ed dg aj) (fj bo 72 0 96 [1,1,1,0,1,0,0,1,1,0,0,1,1,0,1,0,0] (Gk a9 bd a0 dC dp dL (ed,dg,aj)) (Gk a9 bd a0 dC dp dL) (GH a9 bd a0 dC dp dL)):=by
 unfold Gl
 exact .ite (fun o =>
  .bn fun R =>
  .az fun aU aA =>
  .bn fun aF =>
  .az fun cd bU =>
  .bn fun bx =>
  .ret (let aW:=U ((U (cd+(U (a0*aU))))+ed);let bl:=U (bd+dg);bS [(ad 1),.ao true,.aH (bH 2 (.cB (J aU)) 2),.aH (bH 5 (.cB (J cd)) 7),.aH (bH 9 .cT 1),(ad 2),.bj [0] [.dw (av 1 J (aj.set (0+bl.toNat) (aW.tmod (1000000000:Int))))] [(1,ii),(5,fQ ((aj.set (0+bl.toNat) (aW.tmod (1000000000:Int))).length)),(6,ii),(7,ii),(8,ii),(26,ii),(27,ii),(28,ii),(33,ii),(34,ii),(35,ii)]] (.bt o R.1 (eE J R.2) (cD J aA) aF.1 aF.2 (cD J bU) (by decide:(1000000000:Int)≠0) (.hh (by decide:(1000000000:Int)≠0) aF.1 aF.2 (hb J bx) (gB 1) (d4 1 .live (fs (dF J aj) (0+bl.toNat) (aW.tmod (1000000000:Int)))) (aE 1 .live aD (aj.set (0+bl.toNat) (aW.tmod (1000000000:Int)))) (gP (fq aj) (0+bl.toNat) (aW.tmod (1000000000:Int)))))))
  (fun o =>
  .ret (bS [(ad 1),.ao false,.bj [0] [.pure] (bR [1,5,6,8,26,27,28])] (.aC o (aE 1 .live aD aj))))
theorem Ue {a9:List Int}{bd a0:Int}{dC:List Int}{dp dL ed dg:Int}{aj:List Int}{r} (h:MH a9 bd a0 dC dp dL ed dg aj=some r):fk bo 72 0 96 [1,1,1,0,1,0,0,1,1,0,0,1,1,0,1,0,0] (Gk a9 bd a0 dC dp dL) (GH a9 bd a0 dC dp dL) (ed,dg,aj) r:=fl (fun _=>Ts) h
def Gm (a9 dC:List Int)(dp:Int):(Int×(List Int))→S:=fun (d6,aj)=>eD [(1,.isl 1 (a9.map J)),(5,.bw 0 0 0 aj.length),(26,.isl 1 (dC.map J)),(27,.n .i64 dp),(28,.n .i64 d6)] [(av 1 J aj)]
def GI (a9 dC:List Int)(dp:Int):(List Int)→eJ
 | a=>⟨some 0,[(5,.bw 0 0 0 a.length)],[(av 1 J a)]⟩
def Gn (a9 dC:List Int)(dp d6:Int)(aj:List Int):Option ((Int×(List Int))⊕((List Int))) :=
 if (decide (d6<dp))=true then
  if 0≤d6∧d6<dC.length then
  dC[d6.toNat]? >>= fun aU =>
  MH a9 d6 aU dC dp (len_ J a9) 0 0 aj >>= fun bh =>
  if 0≤(U (d6+(len_ J a9)))∧(U (d6+(len_ J a9)))<(bh.2.length:Nat) then
  if (0+(U (d6+(len_ J a9))).toNat)<bh.2.length then
  some (.inl (U (d6+(1:Int)),bh.2.set (0+(U (d6+(len_ J a9))).toNat) bh.1))
  else none
  else none
  else none
 else
  some (.inr aj)
def HA (a9 dC:List Int)(dp d6:Int)(aj:List Int):Option ((List Int)):=iter (fun w:Int×(List Int)=>Gn a9 dC dp w.1 w.2) (d6,aj)
theorem Tt {a9 dC:List Int}{dp d6:Int}{aj:List Int}:bQ (Gn a9 dC dp d6 aj) (fj bo 72 0 96 [1,1,1,0,1,0,0] (Gm a9 dC dp (d6,aj)) (Gm a9 dC dp) (GI a9 dC dp)):=by
 unfold Gn
 exact .ite (fun o =>
  .bn fun R =>
  .az fun aU aA =>
  .az fun bh br =>
  .bn fun bU =>
  .bn fun bx =>
  .ret (let aW:=U (d6+(len_ J a9));bS [(ad 1),.ao true,.aH (bH 2 (.cB (J aU)) 2),(ad 1),(ad 3),.bj [0] [.pure] (bR [1,5,6,7,8,26,27,28,33,34,35]),(GH a9 d6 aU dC dp (len_ J a9) bh).fW,.aH (ap 7 (ar .cT [])),(ad 2),.bj [0] [.dw (av 1 J (bh.2.set (0+aW.toNat) bh.1))] [(1,ii),(5,fQ ((bh.2.set (0+aW.toNat) bh.1).length)),(26,ii),(27,ii),(28,ii)]] (.bt o R.1 (eE J R.2) (cD J aA) (aE 1 .live aD aj) (Ue br) bU.1 bU.2 (.ep (hb J bx) (gB 1) (d4 1 .live (fs (dF J bh.2) (0+aW.toNat) bh.1)) (aE 1 .live aD (bh.2.set (0+aW.toNat) bh.1)) (gP (fq bh.2) (0+aW.toNat) bh.1)))))
  (fun o =>
  .ret (bS [(ad 1),.ao false,.bj [0] [.pure] (bR [5])] (.aC o (aE 1 .live aD aj))))
theorem Uf {a9 dC:List Int}{dp d6:Int}{aj:List Int}{r} (h:HA a9 dC dp d6 aj=some r):fk bo 72 0 96 [1,1,1,0,1,0,0] (Gm a9 dC dp) (GI a9 dC dp) (d6,aj) r:=fl (fun _=>Tt) h
def wS (ba a9:List Int):Option (Nat×(List Int)) :=
 if ((len_ J ba) == (0:Int))=true then
  none
 else
  if ((len_ J a9) == (0:Int))=true then
   none
  else
   if 0≤(U ((len_ J ba)+(len_ J a9)))∧(8:Int)*(U ((len_ J ba)+(len_ J a9)))≤281474976710656∧(U ((len_ J ba)+(len_ J a9)))<9223372036854775808 then
   HA a9 ba (len_ J ba) 0 (List.replicate (U ((len_ J ba)+(len_ J a9))).toNat 0:List Int) >>= fun aX =>
   zh aX >>= fun cj =>
   some (cj,aX)
   else none
theorem MI {ba a9:List Int}:bQ (wS ba a9) (fun a=>Con bo 96 [.isl 1 (ba.map J),.isl 1 (a9.map J)] [] (.bw 0 0 0 a.1) [(av 1 J a.2)]):=by
 unfold wS
 exact .ite (fun o =>
  .Ri)
  (fun o =>
  .ite (fun R =>
  .Ri)
  (fun R =>
  .bn fun ab =>
  .az fun aX aF =>
  .az fun cj bU =>
  .ret (let aW:=U ((len_ J ba)+(len_ J a9));let bl:=(List.replicate aW.toNat 0:List Int);hg [(ad 1),.aH (ap 7 (ar (.ao false) [])),.ao false,(ad 7),(ad 3),.bj [14] [.dw (av 1 J bl)] [(1,ii),(5,fQ (bl.length)),(26,ii),(27,ii),(28,ii)],(GI a9 ba (len_ J ba) aX).fW,.aH (bH 1 (.call {aM:=[.row 0],cu:=[.pure],ac:=[ii],r:= .bw 0 0 0 cj,db:=[(av 1 J aX)],eo:=ii,e4:=[.pure],dd:=[0],c9:=false}) 1)] [0] [.pure] (.bt o o o o R ab.1 (Int.le_refl aW) ab.2.1 (.bt ab.2.2 (d4 1 .live (kp J aW.toNat 0)) (aE 1 .live aD bl) (kB aW.toNat (0:Int)) (Uf aF) (fg 1 aD aX) (fg 1 aD aX) (U7 cj bU) (.ax (aE 1 .live aD aX)))))))
def GJ (eY d9:Nat)(cX:List Int)(iZ dH:Int):(Int×Int×(List Int))→S:=fun (ed,cY,aj)=>eD [(0,.bw 0 0 eY d9),(1,.isl 1 (cX.map J)),(2,.n .i64 iZ),(7,.n .i64 ed),(11,.isl 1 (cX.map J)),(12,.n .i64 dH),(13,.n .i64 cY)] [(av 1 J aj)]
def G5 (eY d9:Nat)(cX:List Int)(iZ dH:Int):(Int×(List Int))→eJ
 | a=>⟨some 0,[(0,.bw 0 0 eY d9),(1,.isl 1 (cX.map J)),(7,.n .i64 a.1)],[(av 1 J a.2)]⟩
def tB (eY d9:Nat)(cX:List Int)(iZ dH ed cY:Int)(aj:List Int):Option ((Int×Int×(List Int))⊕(Int×(List Int))) :=
 if (decide (cY<dH))=true then
  if 0≤cY∧cY<cX.length then
  cX[cY.toNat]? >>= fun aU =>
  if 0≤cY∧cY<(d9:Nat) then
  aj[(eY+cY.toNat)]? >>= fun cd =>
  if (decide ((U ((U (cd-(U (iZ*aU))))-ed))<(0:Int)))=true then
   if (eY+cY.toNat)<aj.length then
   some (.inl (U ((U ((999999999:Int)-(U ((U (cd-(U (iZ*aU))))-ed)))).tdiv (1000000000:Int)),U (cY+(1:Int)),aj.set (eY+cY.toNat) (U ((U ((U (cd-(U (iZ*aU))))-ed))+(U ((U ((U ((999999999:Int)-(U ((U (cd-(U (iZ*aU))))-ed)))).tdiv (1000000000:Int)))*(1000000000:Int)))))))
   else none
  else
   if (eY+cY.toNat)<aj.length then
   some (.inl (0,U (cY+(1:Int)),aj.set (eY+cY.toNat) (U ((U (cd-(U (iZ*aU))))-ed))))
   else none
  else none
  else none
 else
  some (.inr (ed,aj))
def HG (eY d9:Nat)(cX:List Int)(iZ dH ed cY:Int)(aj:List Int):Option (Int×(List Int)):=iter (fun w:Int×Int×(List Int)=>tB eY d9 cX iZ dH w.1 w.2.1 w.2.2) (ed,cY,aj)
theorem TJ {eY d9:Nat}{cX:List Int}{iZ dH ed cY:Int}{aj:List Int}:bQ (tB eY d9 cX iZ dH ed cY aj) (fj bo 56 1 115 [1,1,0,1,0,0] (GJ eY d9 cX iZ dH (ed,cY,aj)) (GJ eY d9 cX iZ dH) (G5 eY d9 cX iZ dH)):=by
 unfold tB
 exact .ite (fun o =>
  .bn fun R =>
  .az fun aU aA =>
  .bn fun aF =>
  .az fun cd bU =>
  (let t1:List cw:=[(ad 1),.ao true,.aH (bH 2 (.cB (J aU)) 2),.aH (bH 3 (.cB (J cd)) 7),(ad 1),(ad 2)];
  have a6:=((.e2 o R.1 (eE J R.2) (cD J aA) aF.1 aF.2 (cD J bU)):cL _);
  .ite (fun bx =>
  .bn fun c2 =>
  .ret (let aW:=(U ((U ((U (cd-(U (iZ*aU))))-ed))+(U ((U ((U ((999999999:Int)-(U ((U (cd-(U (iZ*aU))))-ed)))).tdiv (1000000000:Int)))*(1000000000:Int)))));bS (t1.append [.ao true,(ad 4),(ad 5),.aH (ap 4 (ar .cT [])),(ad 2),.bj [0] [.dw (av 1 J (aj.set (eY+cY.toNat) aW))] (bR [0,1,2,7,11,12,13])]) (a6.aZ (.hh bx (by decide:(1000000000:Int)≠0) aF.1 aF.2 (hb J c2) (gB 1) (d4 1 .live (fs (dF J aj) (eY+cY.toNat) aW)) (aE 1 .live aD (aj.set (eY+cY.toNat) aW))))))
  (fun bx =>
  .bn fun c2 =>
  .ret (let bl:=U ((U (cd-(U (iZ*aU))))-ed);bS (t1.append [.ao false,.aH (ap 4 (ar .cT [])),(ad 2),.bj [0] [.dw (av 1 J (aj.set (eY+cY.toNat) bl))] (bR [0,1,2,7,11,12,13])]) (a6.aZ (.e2 bx aF.1 aF.2 (hb J c2) (gB 1) (d4 1 .live (fs (dF J aj) (eY+cY.toNat) bl)) (aE 1 .live aD (aj.set (eY+cY.toNat) bl))))))))
  (fun o =>
  .ret (bS [(ad 1),.ao false,.bj [0] [.pure] (bR [0,1,7])] (.aC o (aE 1 .live aD aj))))
theorem Uy {eY d9:Nat}{cX:List Int}{iZ dH ed cY:Int}{aj:List Int}{r} (h:HG eY d9 cX iZ dH ed cY aj=some r):fk bo 56 1 115 [1,1,0,1,0,0] (GJ eY d9 cX iZ dH) (G5 eY d9 cX iZ dH) (ed,cY,aj) r:=fl (fun _=>TJ) h
def zi (cX:List Int)(iZ:Int)(eY d9:Nat)(fJ:List Int):Option (Bool×(List Int)) :=
 HG eY d9 cX iZ (len_ J cX) 0 0 fJ >>= fun ak =>
 if 0≤(len_ J cX)∧(len_ J cX)<(d9:Nat) then
 ak.2[(eY+(len_ J cX).toNat)]? >>= fun fO =>
 if (eY+(len_ J cX).toNat)<ak.2.length then
 (ak.2.set (eY+(len_ J cX).toNat) (U (fO-ak.1)))[(eY+(len_ J cX).toNat)]? >>= fun fY =>
 some ((decide (fY<(0:Int))),ak.2.set (eY+(len_ J cX).toNat) (U (fO-ak.1)))
 else none
 else none
theorem U8 {cX:List Int}{iZ:Int}{eY d9:Nat}{fJ:List Int}:bQ (zi cX iZ eY d9 fJ) (fun a=>Con bo 115 (abF 0 0 eY d9 cX iZ) [(av 1 J fJ)] (.b a.1) [(av 1 J a.2)]):=by
 unfold zi
 exact .az fun ak R =>
  .bn fun ab =>
  .az fun fO aF =>
  .bn fun br =>
  .az fun fY bx =>
  .ret (let aW:=U (fO-ak.1);let bl:=len_ J cX;hg [(ad 1),(ad 1),(ad 3),.bj [0] [.pure] (bR [0,1,2,7,11,12,13]),(G5 eY d9 cX iZ bl ak).fW,.aH (ap 4 (ar (.cB (J fO)) (ap 3 (ar .cT [])))),.aH (bH 4 (.cB (J fY)) 2)] [0] [.dw (av 1 J (ak.2.set (eY+bl.toNat) aW))] (.bt (aE 1 .live aD fJ) (Uy R) ab.1 ab.2 (cD J aF) ab.1 ab.2 (hb J br) (.fb (gB 1) ab.1 ab.2 (zJ (fs (dF J ak.2) (eY+bl.toNat) aW) bx) (d4 1 .live (fs (dF J ak.2) (eY+bl.toNat) aW)) (aE 1 .live aD (ak.2.set (eY+bl.toNat) aW)))))
def GK (eY d9:Nat)(cX:List Int)(gx:Int):(Int×Int×(List Int))→S:=fun (ed,ea,aj)=>eD [(0,.bw 0 0 eY d9),(1,.isl 1 (cX.map J)),(4,.n .i64 ed),(8,.isl 1 (cX.map J)),(9,.n .i64 gx),(10,.n .i64 ea)] [(av 1 J aj)]
def G6 (eY d9:Nat)(cX:List Int)(gx:Int):(Int×(List Int))→eJ
 | a=>⟨some 0,[(0,.bw 0 0 eY d9),(1,.isl 1 (cX.map J)),(4,.n .i64 a.1)],[(av 1 J a.2)]⟩
def wm (eY d9:Nat)(cX:List Int)(gx ed ea:Int)(aj:List Int):Option ((Int×Int×(List Int))⊕(Int×(List Int))) :=
 if (decide (ea<gx))=true then
  if 0≤ea∧ea<cX.length then
  cX[ea.toNat]? >>= fun aU =>
  if 0≤ea∧ea<(d9:Nat) then
  aj[(eY+ea.toNat)]? >>= fun cd =>
  if (eY+ea.toNat)<aj.length then
  some (.inl (U ((U ((U (cd+aU))+ed)).tdiv (1000000000:Int)),U (ea+(1:Int)),aj.set (eY+ea.toNat) ((U ((U (cd+aU))+ed)).tmod (1000000000:Int))))
  else none
  else none
  else none
 else
  some (.inr (ed,aj))
def HH (eY d9:Nat)(cX:List Int)(gx ed ea:Int)(aj:List Int):Option (Int×(List Int)):=iter (fun w:Int×Int×(List Int)=>wm eY d9 cX gx w.1 w.2.1 w.2.2) (ed,ea,aj)
theorem TK {eY d9:Nat}{cX:List Int}{gx ed ea:Int}{aj:List Int}:bQ (wm eY d9 cX gx ed ea aj) (fj bo 39 1 116 [1,0,1,0,0] (GK eY d9 cX gx (ed,ea,aj)) (GK eY d9 cX gx) (G6 eY d9 cX gx)):=by
 unfold wm
 exact .ite (fun o =>
  .bn fun R =>
  .az fun aU aA =>
  .bn fun aF =>
  .az fun cd bU =>
  .bn fun bx =>
  .ret (let aW:=U ((U (cd+aU))+ed);bS [(ad 1),.ao true,.aH (bH 2 (.cB (J aU)) 2),.aH (bH 3 (.cB (J cd)) 5),.aH (bH 7 .cT 1),(ad 2),.bj [0] [.dw (av 1 J (aj.set (eY+ea.toNat) (aW.tmod (1000000000:Int))))] (bR [0,1,4,8,9,10])] (.bt o R.1 (eE J R.2) (cD J aA) aF.1 aF.2 (cD J bU) (by decide:(1000000000:Int)≠0) (.e2 (by decide:(1000000000:Int)≠0) aF.1 aF.2 (hb J bx) (gB 1) (d4 1 .live (fs (dF J aj) (eY+ea.toNat) (aW.tmod (1000000000:Int)))) (aE 1 .live aD (aj.set (eY+ea.toNat) (aW.tmod (1000000000:Int))))))))
  (fun o =>
  .ret (bS [(ad 1),.ao false,.bj [0] [.pure] (bR [0,1,4])] (.aC o (aE 1 .live aD aj))))
theorem Uz {eY d9:Nat}{cX:List Int}{gx ed ea:Int}{aj:List Int}{r} (h:HH eY d9 cX gx ed ea aj=some r):fk bo 39 1 116 [1,0,1,0,0] (GK eY d9 cX gx) (G6 eY d9 cX gx) (ed,ea,aj) r:=fl (fun _=>TK) h
def wV (cX:List Int)(eY d9:Nat)(fJ:List Int):Option (List Int) :=
 HH eY d9 cX (len_ J cX) 0 0 fJ >>= fun ak =>
 if 0≤(len_ J cX)∧(len_ J cX)<(d9:Nat) then
 ak.2[(eY+(len_ J cX).toNat)]? >>= fun fO =>
 if (eY+(len_ J cX).toNat)<ak.2.length then
 some (ak.2.set (eY+(len_ J cX).toNat) (U (fO+ak.1)))
 else none
 else none
theorem U9 {cX:List Int}{eY d9:Nat}{fJ:List Int}:bQ (wV cX eY d9 fJ) (fun a=>Con bo 116 [.bw 0 0 eY d9,.isl 1 (cX.map J)] [(av 1 J fJ)] (.cW []) [(av 1 J a)]):=by
 unfold wV
 exact .az fun ak R =>
  .bn fun ab =>
  .az fun fO aF =>
  .bn fun br =>
  .ret (let aW:=U (fO+ak.1);let bl:=len_ J cX;hg [(ad 1),(ad 3),.bj [0] [.pure] (bR [0,1,4,8,9,10]),(G6 eY d9 cX bl ak).fW,.aH (ap 4 (ar (.cB (J fO)) (ap 3 (ar .cT []))))] [0] [.dw (av 1 J (ak.2.set (eY+bl.toNat) aW))] (.bt (aE 1 .live aD fJ) (Uz R) ab.1 ab.2 (cD J aF) ab.1 ab.2 (hb J br) (.bZ (gB 1) (d4 1 .live (fs (dF J ak.2) (eY+bl.toNat) aW)) (aE 1 .live aD (ak.2.set (eY+bl.toNat) aW)))))
end Go.Proofs.YtgfpnhmcmgnepadGreat
