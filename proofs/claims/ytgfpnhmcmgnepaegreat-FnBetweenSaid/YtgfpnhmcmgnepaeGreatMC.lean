/- Lemmas, plain functions of the program, and what they answer. No condition. -/
import Derived.Test.YtgfpnhmcmgnepaeGreatChecked
import Derived.Test.YtgfpnhmcmgnepaeGreatMB
namespace Go.VL
set_option linter.unusedVariables false
set_option linter.unusedSimpArgs false
def pY (m n:Nat)(a:Nat→Nat→Int)(b:Nat→Int)(x:Nat→Rat):Prop:=(∀j,j<n→0≤x j)∧ ∀i,i<m→b8 n (fun j=>(a i j:Rat)*x j)=(b i:Rat)
def val (n:Nat)(R x:Nat→Rat):Rat:=b8 n (fun j=>R j*x j)
def h8 (c:Nat→Rat)(l j:Nat):Rat:=match l with
 | 0=>c j
 | l+1=>if j=l then -1 else 0
def tk (m n:Nat)(a:Nat→Nat→Int)(b:Nat→Int)(c x:Nat→Rat):Prop :=
 pY m n a b x∧ ∀y,pY m n a b y→ ¬hM (n+1) (fun l=>val n (h8 c l) y-val n (h8 c l) x)
def Bounded (m n:Nat)(a:Nat→Nat→Int)(b:Nat→Int)(c:Nat→Rat):Prop:= ∃V,∀y,pY m n a b y→val n c y≤V
section
variable {m n:Nat} {a:Nat→Nat→Int} {b:Nat→Int} {c:Nat→Rat}
theorem Zh {x:Nat→Rat}{j:Nat}(aC:j<n):val n (h8 c (j+1)) x = - x j:=by
 unfold val
 rw [kg aC (f:=fun i=>h8 c (j+1) i*x i) (fun i ai cM=>by simp only [h8];rw [if_neg cM];grind)]
 simp only [h8,if_true];grind
theorem tk.unique {x y:Nat→Rat}(aa:tk m n a b c x)(aP:tk m n a b c y):(∀j,j<n→x j=y j)∧val n c x=val n c y:=by
 rcases Eh (n+1) (fun l=>val n (h8 c l) y-val n (h8 c l) x) with h|h|h
 ·exact (aa.2 y aP.1 h).elim
 ·refine ⟨fun j aC=> ?_,?_⟩
  ·have:=h (j+1) (by omega)
   simp only [Zh aC] at this;grind
  ·have:=h 0 (by omega)
   simp only at this
   have e:h8 c 0=c:=rfl
   rw [e] at this;grind
 ·exact (aP.2 x aa.1 (h.congr fun l _=>by grind)).elim
theorem tk.Fo {x y:Nat→Rat}(aa:tk m n a b c x)(aP:pY m n a b y):val n c y≤val n c x:=by
 apply Classical.byContradiction
 intro h
 refine aa.2 y aP ⟨0,by omega,?_,fun l aL=>by omega⟩
 have e:h8 c 0=c:=rfl
 simp only [e];grind
structure LT (m n:Nat) (a:Nat→Nat→Int) (b:Nat→Int) (a6 N:Nat) (u:ct):Prop where
 eqv : ∀x:Nat→Rat,(∀i,i<m→b8 n (fun j=>(a i j:Rat)*x j)=(b i:Rat))↔ ∀i,i<a6→b8 n (fun j=>u.T i j*x j)=u.T i N
 unit : ∀i,i<a6→ ∀k,k<a6→u.T i (u.B k)=if i=k then 1 else 0
 j8 : ∀i,i<a6→u.B i<n
 mb:u.lb a6 N
 MQ:n≤N
variable {a6 N:Nat} {u:ct}
theorem LT.EI (h:LT m n a b a6 N u)(f:Nat→Rat):b8 n (fun j=>f j*u.gH a6 N j)=b8 a6 (fun i=>f (u.B i)*u.T i N):=by
 unfold ct.gH
 rw [fC (g:=fun j=>b8 a6 (fun i=>if u.B i=j then f (u.B i)*u.T i N else 0)) (fun j _=>by
  rw [← ic];exact fC fun i _=>by split<;>grind),pF]
 exact fC fun i ai=>by rw [kg (h.j8 i ai) (f:=fun j=>if u.B i=j then f (u.B i)*u.T i N else 0) (fun j _ cM=>if_neg fun x=>cM x.symm),if_pos rfl]
theorem LT.gH (h:LT m n a b a6 N u):pY m n a b (u.gH a6 N):=by
 refine ⟨fun j _=>h.mb.gH j,(h.eqv _).2 fun i ai=> ?_⟩
 rw [h.EI,kg ai (f:=fun k=>u.T i (u.B k)*u.T k N) (fun k aX cM=>by rw [h.unit i ai k aX,if_neg (fun e=>cM e.symm)];grind),h.unit i ai i ai,if_pos rfl];grind
theorem LT.J9 (h:LT m n a b a6 N u)(R:Nat→Rat){x:Nat→Rat}(aa:pY m n a b x):b8 n (fun j=>u.dE a6 R j*x j)=val n R x-val n R (u.gH a6 N):=by
 have ap:=(h.eqv x).1 aa.2
 unfold val ct.dE
 rw [h.EI R,fC (g:=fun j=>R j*x j-b8 a6 (fun i=>R (u.B i)*(u.T i j*x j))) (fun j _=>by
  rw [fC (f:=fun i=>R (u.B i)*(u.T i j*x j)) (g:=fun i=>x j*(R (u.B i)*u.T i j)) (fun i _=>by grind),ic];grind),rA,pF]
 congr 1
 exact fC fun i ai=>by rw [ic,ap i ai]
theorem LT.yn (h:LT m n a b a6 N u)(R:Nat→Rat){i:Nat}(ai:i<a6):u.dE a6 R (u.B i)=0:=by
 unfold ct.dE
 rw [kg ai (f:=fun k=>R (u.B k)*u.T k (u.B i)) (fun k aX cM=>by rw [h.unit k aX i ai,if_neg cM];grind),h.unit i ai i ai,if_pos rfl];grind
theorem LT.l3 (h:LT m n a b a6 N u)(dN:∀j,j<n→ ¬u.Gb a6 (n+1) (h8 c) j):tk m n a b c (u.gH a6 N):=by
 refine ⟨h.gH,fun y aP aL=> ?_⟩
 have FJ:hM (n+1) (fun l=>b8 n (fun j=>u.dE a6 (h8 c l) j*y j)):=aL.congr fun l _=>(h.J9 (h8 c l) aP).symm
 obtain ⟨j,aC,al⟩:=hM.KE (v:=fun j l=>u.dE a6 (h8 c l) j*y j) FJ
 rcases (al.congr (f6:=fun l=>y j*u.dE a6 (h8 c l) j) fun l _=>Rat.mul_comm _ _).Rv with ⟨-,J⟩|⟨J,-⟩
 ·exact dN j aC J
 ·have:=aP.1 j aC;grind
theorem LT.L0 (h:LT m n a b a6 N u)(R:Nat→Rat){s:Nat}(b4:s<n)(dN:0<u.dE a6 R s)(ia:∀i,i<a6→ ¬0<u.T i s): ¬Bounded m n a b R:=by
 rintro ⟨V,hV⟩
 have bo : ∀f:Nat→Rat,b8 n (fun j=>f j*u.dir a6 s j)=f s-b8 a6 (fun i=>f (u.B i)*u.T i s):=fun f=>by
  unfold ct.dir
  rw [fC (g:=fun j=>(if j=s then f s else 0)-b8 a6 (fun i=>if u.B i=j then f (u.B i)*u.T i s else 0)) (fun j _=>by
   have e:b8 a6 (fun i=>if u.B i=j then f (u.B i)*u.T i s else 0)=f j*b8 a6 (fun i=>if u.B i=j then u.T i s else 0):=by
    rw [← ic];exact fC fun i _=>by split<;>grind
   rw [e];split<;>grind),rA,kg b4 (f:=fun j=>if j=s then f s else 0) (fun i _ cM=>if_neg cM),if_pos rfl,pF]
  congr 1
  exact fC fun i ai=>by rw [kg (h.j8 i ai) (f:=fun j=>if u.B i=j then f (u.B i)*u.T i s else 0) (fun j _ cM=>if_neg fun x=>cM x.symm),if_pos rfl]
 have pos : ∀j,0≤u.dir a6 s j:=fun j=>by
  unfold ct.dir
  have o:0≤b8 a6 (fun i=> -(if u.B i=j then u.T i s else 0)):=rv fun i ai=>by
   have:=ia i ai
   split<;>grind
  rw [fC (g:=fun i=>(-1)*(if u.B i=j then u.T i s else 0)) (fun i _=>by grind),ic] at o
  split<;>grind
 have L0 : ∀wZ:Rat,0≤wZ→pY m n a b (fun j=>u.gH a6 N j+wZ*u.dir a6 s j)∧val n R (fun j=>u.gH a6 N j+wZ*u.dir a6 s j)=val n R (u.gH a6 N)+wZ*u.dE a6 R s:=fun wZ MP=>by
  have SU : ∀f:Nat→Rat,b8 n (fun j=>f j*(u.gH a6 N j+wZ*u.dir a6 s j))=b8 n (fun j=>f j*u.gH a6 N j)+wZ*(f s-b8 a6 (fun i=>f (u.B i)*u.T i s)):=fun f=>by
   rw [← bo f,← ic,← vo]
   exact fC fun j _=>by grind
  refine ⟨⟨fun j _=> ?_,(h.eqv _).2 fun i ai=> ?_⟩,SU R⟩
  ·have o:=h.mb.gH (m:=a6) (N:=N) j
   have J:=Rat.mul_nonneg MP (pos j)
   grind
  ·rw [SU (u.T i),(h.eqv _).1 h.gH.2 i ai,kg ai (f:=fun k=>u.T i (u.B k)*u.T k s) (fun k aX cM=>by rw [h.unit i ai k aX,if_neg (fun e=>cM e.symm)];grind),h.unit i ai i ai,if_pos rfl];grind
 have SV:=hV _ h.gH
 have cM:u.dE a6 R s≠0:=by grind
 obtain ⟨aq,bE⟩:=L0 ((V-val n R (u.gH a6 N)+1) / u.dE a6 R s) (by
  rw [Rat.div_def]
  exact Rat.mul_nonneg (by grind) (Rat.le_of_lt (Rat.inv_pos.2 dN)))
 have ak:=hV _ aq
 rw [bE] at ak
 have:(V-val n R (u.gH a6 N)+1) / u.dE a6 R s*u.dE a6 R s=V-val n R (u.gH a6 N)+1:=by grind
 grind
theorem LT.c7 (h:LT m n a b a6 N u){r k:Nat}(ap:r<a6)(aX:k<n)(al:u.T r k≠0)(cc:(u.c7 r k).lb a6 N):LT m n a b a6 N (u.c7 r k) where
 eqv:=fun x=>by
  rw [h.eqv x]
  have az:b8 n (fun j=>(u.c7 r k).T r j*x j)=(1 / u.T r k)*b8 n (fun j=>u.T r j*x j):=by
   rw [← ic]
   exact fC fun j _=>by simp only [ct.c7,if_true];grind
  have aH : ∀i,i≠r→b8 n (fun j=>(u.c7 r k).T i j*x j)=b8 n (fun j=>u.T i j*x j)-(u.T i k / u.T r k)*b8 n (fun j=>u.T r j*x j):=fun i ai=>by
   rw [← ic,← rA]
   exact fC fun j _=>by simp only [ct.c7,if_neg ai];grind
  have hJ:(u.c7 r k).T r N=(1 / u.T r k)*u.T r N:=by simp only [ct.c7,if_true];grind
  have kd : ∀i,i≠r→(u.c7 r k).T i N=u.T i N-(u.T i k / u.T r k)*u.T r N:=fun i ai=>by simp only [ct.c7,if_neg ai];grind
  constructor
  ·intro aa i ai
   by_cases c:i=r
   ·rw [c,az,hJ,aa r ap]
   ·rw [aH i c,kd i c,aa i ai,aa r ap]
  ·intro aa
   have SW:b8 n (fun j=>u.T r j*x j)=u.T r N:=by
    have:=aa r ap
    rw [az,hJ] at this
    have J:u.T r k*((1 / u.T r k)*b8 n (fun j=>u.T r j*x j))=u.T r k*((1 / u.T r k)*u.T r N):=by rw [this]
    grind
   intro i ai
   by_cases c:i=r
   ·rw [c];exact SW
   ·have:=aa i ai
    rw [aH i c,kd i c,SW] at this
    grind
 unit:=by
  intro i ai dJ m9
  simp only [ct.c7]
  by_cases e:i=r
  ·subst e
   simp only [if_true]
   by_cases eH:dJ=i
   ·subst eH;simp only [if_true];grind
   ·simp only [if_neg eH]
    rw [h.unit i ai dJ m9,if_neg (fun x=>eH x.symm)];grind
  ·simp only [if_neg e]
   by_cases eH:dJ=r
   ·subst eH;simp only [if_true,if_neg e];grind
   ·simp only [if_neg eH]
    rw [h.unit i ai dJ m9,h.unit r ap dJ m9,if_neg (c:=r=dJ) (fun x=>eH x.symm)];grind
 j8:=fun i ai=>by
  simp only [ct.c7]
  split
  ·exact aX
  ·exact h.j8 i ai
 mb:=cc
 MQ:=h.MQ
def uA (n:Nat)(dk:Nat→Bool)(x:Nat→Rat):Prop:= ∀j,j<n→dk j=false→x j=0
structure px (m n:Nat) (a:Nat→Nat→Int) (b:Nat→Int) (c:Nat→Rat) (l:Nat) (dk:Nat→Bool) (V:Nat→Rat):Prop where
 low : ∀y,pY m n a b y→uA n dk y→ ∀k,k<l→val n (h8 c k) y=V k
 up : ∀y,pY m n a b y→ ¬uA n dk y→ ∃k,k<l∧val n (h8 c k) y<V k∧ ∀q,q<k→val n (h8 c q) y=V q
theorem px.zero {dk:Nat→Bool}(h:∀j,j<n→dk j=true)(V:Nat→Rat):px m n a b c 0 dk V where
 low:=fun y _ _ k aX=>by omega
 up:=fun y _ cc=>(cc fun j aC e=>by rw [h j aC] at e;cases e).elim
theorem px.next (h:LT m n a b a6 N u){l:Nat}{dk kI:Nat→Bool}{V:Nat→Rat}(s:px m n a b c l dk V)(dN:∀j,j<n→dk j=true→ ¬0<u.dE a6 (h8 c l) j)
 (pZ : ∀j,j<n→kI j=(dk j && !decide (u.dE a6 (h8 c l) j<0))) : ∃CK,px m n a b c (l+1) kI CK:=by
 have sub : ∀y,uA n kI y→uA n dk y:=fun y aP j aC e=>aP j aC (by rw [pZ j aC,e];rfl)
 have neg : ∀y,pY m n a b y→uA n dk y→ ∀j,j<n→0≤ -(u.dE a6 (h8 c l) j*y j):=fun y aP cc j aC=>by
  cases e:dk j with
  | false=>rw [cc j aC e];grind
  | true =>
   have:=Rat.mul_nonneg (show 0≤ -(u.dE a6 (h8 c l) j) by have:=dN j aC e;grind) (aP.1 j aC)
   grind
 refine ⟨fun k=>if k=l then val n (h8 c l) (u.gH a6 N) else V k,fun y aP cc k aX=> ?_,fun y aP cc=> ?_⟩
 ·by_cases e:k=l
  ·rw [if_pos e,e]
   have cv:b8 n (fun j=>u.dE a6 (h8 c l) j*y j)=0:=mT fun j aC=>by
    cases e:kI j with
    | false=>rw [cc j aC e];grind
    | true =>
     rw [pZ j aC,Bool.and_eq_true] at e
     have o:=dN j aC e.1
     have J : ¬u.dE a6 (h8 c l) j<0:=by simpa using e.2
     have:u.dE a6 (h8 c l) j=0:=by grind
     rw [this];grind
   rw [h.J9 _ aP] at cv;grind
  ·rw [if_neg e]
   exact s.low y aP (sub y cc) k (by omega)
 ·by_cases g:uA n dk y
  ·refine ⟨l,by omega,?_,fun q bi=>by rw [if_neg (by omega)];exact s.low y aP g q bi⟩
   rw [if_pos rfl]
   have o:=h.J9 (h8 c l) aP
   have J:=neg y aP g
   have ak:=rv J
   have ay:b8 n (fun j=> -(u.dE a6 (h8 c l) j*y j))≠0:=fun e=>cc fun j aC TK=>by
    have:=Jh J e j aC
    cases az:dk j with
    | false=>exact g j aC az
    | true =>
     rw [pZ j aC,az,Bool.true_and] at TK
     have aI:u.dE a6 (h8 c l) j<0:=by simpa using TK
     grind
   rw [fC (g:=fun j=>(-1)*(u.dE a6 (h8 c l) j*y j)) (fun j _=>by grind),ic,o] at ak ay
   grind
  ·obtain ⟨k,kc,jz,ma⟩:=s.up y aP g
   exact ⟨k,by omega,by rw [if_neg (by omega)];exact jz,fun q bi=>by rw [if_neg (by omega)];exact ma q bi⟩
theorem px.l3 (h:LT m n a b a6 N u){dk:Nat→Bool}{V:Nat→Rat}(s:px m n a b c (n+1) dk V)(aY:∀i,i<a6→dk (u.B i)=true):tk m n a b c (u.gH a6 N):=by
 have aa:uA n dk (u.gH a6 N):=fun j aC e=>ct.Jr fun i ai aH=>by
  have:=aY i ai
  rw [aH,e] at this;cases this
 have a3:=s.low _ h.gH aa
 refine ⟨h.gH,fun y aP ⟨l,nk,p6,Gd⟩=> ?_⟩
 by_cases g:uA n dk y
 ·have:=s.low y aP g l nk
  have:=a3 l nk
  grind
 ·obtain ⟨k,kc,jz,ma⟩:=s.up y aP g
  rcases Nat.lt_trichotomy l k with e|e|e
  ·have:=ma l e;have:=a3 l nk;grind
  ·subst e;have:=a3 l nk;grind
  ·have:=Gd k e;have:=a3 k kc;grind
theorem LT.Yj (h:LT m n a b a6 N u){k s:Nat}(dN:0<u.dE a6 (h8 c (k+1)) s): ∃i,i<a6∧0<u.T i s:=by
 apply Classical.byContradiction
 intro cM
 have o:0≤b8 a6 (fun i=>h8 c (k+1) (u.B i)*u.T i s):=rv fun i ai=>by
  have J : ¬0<u.T i s:=fun e=>cM ⟨i,ai,e⟩
  simp only [h8]
  split<;>grind
 unfold ct.dE at dN
 have ak:h8 c (k+1) s≤0:=by simp only [h8];split<;>grind
 grind
end
end Go.VL
namespace Go.Proofs.YtgfpnhmcmgnepaeGreat
set_option linter.unusedVariables false
set_option linter.unusedSimpArgs false
open Go Go.VL
structure br where
 pL:ByteArray
 mO:Int
 mP:Int
 ox:Bool
 deriving DecidableEq
structure bP where
 fX:Int
 fY:Int
 jS:Int
 deriving DecidableEq
structure ck where
 cE:(List br)
 b5:(List bP)
 deriving DecidableEq
structure Zi where
 mc:(List Int)
 aey:Int
 aez:Int
 deriving DecidableEq
structure bg where
 cY:Bool
 cB:(List Int)
 deriving DecidableEq
structure c4 where
 fN:bg
 gE:(List Int)
 deriving DecidableEq
structure rM where
 sE:c4
 rN:c4
 Bg:Bool
 ui:Bool
 deriving DecidableEq
structure nt where
 kU:Int
 j4:Int
 fX:(List Int)
 fY:(List Int)
 jt:(List Int)
 deriving DecidableEq
structure ev where
 hr:Int
 pM:Int
 deriving DecidableEq
structure bF where
 qq:bg
 pQ:(List Int)
 deriving DecidableEq
structure rB where
 E8:(List (List bg))
 wj:bg
 EX:(List Int)
 KY:Int
 KZ:(List Bool)
 deriving DecidableEq
def dz (x:br):List aA:=[.s x.pL,.n .i64 x.mO,.n .i64 x.mP,.b x.ox]
theorem ae6 : ∀x,∀v∈dz x,v.ig=true:=by
 intro x v a3
 simp only [dz,List.mem_cons,List.not_mem_nil,or_false] at a3
 rcases a3 with rfl|rfl|rfl|rfl<;>rfl
theorem vc : ∀x,∀v∈dz x,Pure v:=by
 intro x v a3
 simp only [dz,List.mem_cons,List.not_mem_nil,or_false] at a3
 rcases a3 with rfl|rfl|rfl|rfl
 ·exact .s _
 ·exact .n _ _
 ·exact .n _ _
 ·exact .b _
def dm (x:bP):List aA:=[.n .i64 x.fX,.n .i64 x.fY,.n .i64 x.jS]
theorem u9 : ∀x,∀v∈dm x,Pure v:=by
 intro x v a3
 simp only [dm,List.mem_cons,List.not_mem_nil,or_false] at a3
 rcases a3 with rfl|rfl|rfl
 ·exact .n _ _
 ·exact .n _ _
 ·exact .n _ _
def gM (x:ck):List aA:=[.isl 4 (x.cE.map dz),.isl 3 (x.b5.map dm)]
theorem o2 : ∀x,∀v∈gM x,Pure v:=by
 intro x v a3
 simp only [gM,List.mem_cons,List.not_mem_nil,or_false] at a3
 rcases a3 with rfl|rfl
 ·exact .isl (e9 vc _)
 ·exact .isl (e9 u9 _)
def aT (x:bg):List aA:=[.b x.cY,.isl 1 (x.cB.map I)]
theorem er : ∀x,∀v∈aT x,v.ig=true:=by
 intro x v a3
 simp only [aT,List.mem_cons,List.not_mem_nil,or_false] at a3
 rcases a3 with rfl|rfl<;>rfl
theorem s6 : ∀x,∀v∈aT x,Pure v:=by
 intro x v a3
 simp only [aT,List.mem_cons,List.not_mem_nil,or_false] at a3
 rcases a3 with rfl|rfl
 ·exact .b _
 ·exact .isl (e9 aD _)
def da (x:c4):List aA:=[.b x.fN.cY,.isl 1 (x.fN.cB.map I),.isl 1 (x.gE.map I)]
theorem Eb : ∀x,∀v∈da x,Pure v:=by
 intro x v a3
 simp only [da,List.mem_cons,List.not_mem_nil,or_false] at a3
 rcases a3 with rfl|rfl|rfl
 ·exact .b _
 ·exact .isl (e9 aD _)
 ·exact .isl (e9 aD _)
def um (x:rM):List aA:=[.b x.sE.fN.cY,.isl 1 (x.sE.fN.cB.map I),.isl 1 (x.sE.gE.map I),.b x.rN.fN.cY,.isl 1 (x.rN.fN.cB.map I),.isl 1 (x.rN.gE.map I),.b x.Bg,.b x.ui]
def ek (x:ev):List aA:=[.n .i64 x.hr,.n .i64 x.pM]
theorem u7 : ∀x,∀v∈ek x,Pure v:=by
 intro x v a3
 simp only [ek,List.mem_cons,List.not_mem_nil,or_false] at a3
 rcases a3 with rfl|rfl
 ·exact .n _ _
 ·exact .n _ _
def bh (x:bF):List aA:=[.b x.qq.cY,.isl 1 (x.qq.cB.map I),.isl 1 (x.pQ.map I)]
theorem kf : ∀x,∀v∈bh x,Pure v:=by
 intro x v a3
 simp only [bh,List.mem_cons,List.not_mem_nil,or_false] at a3
 rcases a3 with rfl|rfl|rfl
 ·exact .b _
 ·exact .isl (e9 aD _)
 ·exact .isl (e9 aD _)
def yo (x:rB):List aA:=[.isl 1 (x.E8.map (dL 2 aT)),.b x.wj.cY,.isl 1 (x.wj.cB.map I),.isl 1 (x.EX.map I),.n .i64 x.KY,.isl 1 (x.KZ.map dT)]
theorem I1 : ∀x,∀v∈yo x,Pure v:=by
 intro x v a3
 simp only [yo,List.mem_cons,List.not_mem_nil,or_false] at a3
 rcases a3 with rfl|rfl|rfl|rfl|rfl|rfl
 ·exact .isl (e9 (mU (sz:=2) s6) _)
 ·exact .b _
 ·exact .isl (e9 aD _)
 ·exact .isl (e9 aD _)
 ·exact .n _ _
 ·exact .isl (e9 ee _)
noncomputable abbrev bt:Program:=Go.Proofs.Tryz.prog
theorem qp:bt.follows .mixedOrders=true:=Go.Proofs.Tryz.checked.mixed
theorem bT {N m:Nat}{c:Code}{E:List (Nat×aA)}{rows:List (List ab)}(tape:List cK){e:Exit}{s:S}{af:List Prop}(bm:c1 af)
 (h:FG bt N m c tape (eV E rows) rows.length=some (e,s,af):=by kernel_rfl):i7 bt N m c e (eV E rows) s:=PI qp h bm (vu _ _)
theorem bW {f:FuncId}{args:List aA}{r:aA}{af:List Prop}(tape:List cK)(bm:c1 af)(eh:lm:=ii)
 (h:BQ bt f args [] tape [] [] eh=some (r,[],af):=by kernel_rfl):Con bt f args [] r []:=Ye qp h bm
theorem hE {f:FuncId}{args:List aA}{T ja:List (List ab)}{r:aA}{af:List Prop}(tape:List cK)(aM:List Nat)(cr:List iy)(bm:c1 af)(eh:lm:=ii)
 (h:BQ bt f args T tape aM cr eh=some (r,ja,af):=by kernel_rfl):Con bt f args T r ja:=Qa qp h bm
def d5 (nI hi:Int)(iu bK f7 nK wL MR wM MS L1 L2 L3 p1:Nat):List aA:=[.n .i64 nI,.n .i64 hi,.bC iu bK f7 nK,.bC wL MR wM MS,.bC L1 L2 L3 p1]
def ada (nI hi iu bK:Nat)(f7:List Int)(nK:Int):List aA:=[.bC nI hi iu bK,.isl 1 (f7.map I),.n .i64 nK]
def e4 (nI hi iu bK:Nat)(f7:Bool)(nK:List Int)(wL MR wM MS:Nat)(L1:Int)(L2 L3 p1 adb:Nat):List aA:=[.bC nI hi iu bK,.b f7,.isl 1 (nK.map I),.bC wL MR wM MS,.n .i64 L1,.bC L2 L3 p1 adb]
end Go.Proofs.YtgfpnhmcmgnepaeGreat
namespace Go.Proofs.YtgfpnhmcmgnepaeGreat
set_option linter.unusedVariables false
set_option linter.unusedSimpArgs false
open Go Go.VL
def HA (fG:List Int):(Int×Int)→S:=fun (qx,a8)=>eV [(0,.isl 1 (fG.map eU8)),(3,.n .i64 qx),(4,.n .i64 a8)] []
def HJ (fG:List Int):Int→e3
 | a=>⟨some 0,[(0,.isl 1 (fG.map eU8)),(3,.n .i64 a)],[]⟩
def xw (fG:List Int)(qx a8:Int):Option ((Int×Int)⊕(Int)) :=
 if (decide (a8<(len_ eU8 fG)))=true then
  if (decide (a8<(4000:Int)))=true then
   if 0≤a8∧a8<fG.length then
   fG[a8.toNat]? >>= fun gI =>
   some (.inl (U (((BitVec.ofInt (IntKind.bits .i64) (U ((U ((U (qx*(73:Int)))+(IntKind.wrap .i64 gI)))+(7:Int))) &&& BitVec.ofInt (IntKind.bits .i64) (1073741823:Int)).toNat:Int)),U (a8+(1:Int))))
   else none
  else
   some (.inr qx)
 else
  some (.inr qx)
def NV (fG:List Int)(qx a8:Int):Option (Int):=iter (fun w:Int×Int=>xw fG w.1 w.2) (qx,a8)
theorem UW {fG:List Int}{qx a8:Int}:b1 (xw fG qx a8) (fA bt 32 0 23 [1,1,0,1,0,0] (HA fG (qx,a8)) (HA fG) (HJ fG)):=by
 unfold xw
 exact .ite (fun o =>
  .ite (fun J =>
  .bq fun ak =>
  .aw fun gI aI =>
  .ret (bT [.aG (ae 7 (ah (.aj true) [])),.aj true,.aG (bQ 5 (.cA (eU8 gI)) 5),(ad 3),.bp [] [] (bO [0,3,4])] (.fr o o o J ak.1 (d9 eU8 ak.2) (cD eU8 aI))))
  (fun J =>
  .ret (bT [.aG (ae 7 (ah (.aj true) [])),.aj false,.bp [] [] (bO [0,3])] (.dn o o o J))))
  (fun o =>
  .ret (bT [.aG (ae 5 (cm 2 (ah (.aj false) []))),.aj false,.bp [] [] (bO [0,3])] (.dn o o o ez)))
theorem VH {fG:List Int}{qx a8:Int}{r} (h:NV fG qx a8=some r):fB bt 32 0 23 [1,1,0,1,0,0] (HA fG) (HJ fG) (qx,a8) r:=fD (fun _=>UW) h
def Ai (fG:List Int):Option Int :=
 NV fG (U ((1975:Int)+(len_ eU8 fG))) 0 >>= fun aq =>
 some aq
theorem NW {fG:List Int}:b1 (Ai fG) (fun a=>Con bt 23 [.isl 1 (fG.map eU8)] [] (.ref 0 0 0 0) [[ab.mk 3 [[.isl 1 (fG.map eU8),.n .i64 (0:Int),.n .i64 a]] .live]]):=by
 unfold Ai
 exact .aw fun aq J =>
  .ret (hE [(ad 1),(ad 4),(ad 1),.bp [] [] (bO [0,3,4]),(HJ fG aq).gp,(ad 5)] [3] [.box [.id,.id,.id]] (.az (VH J)))
def qI (bY:List Int)(cg eN:Int):Option (Int×Int×Int) :=
 if (decide (cg<(len_ eU8 bY)))=true then
  if 0≤cg∧cg<bY.length then
  bY[cg.toNat]? >>= fun aQ =>
  some (U (((BitVec.ofInt (IntKind.bits .i64) (U ((U (((BitVec.ofInt (IntKind.bits .i64) (U (((BitVec.ofInt (IntKind.bits .i64) ((U ((U (eN*(6364136223846793005:Int)))+(1442695040888963407:Int))).fdiv (2 ^ (min (33:Int).toNat (IntKind.bits .i64)))) ^^^ BitVec.ofInt (IntKind.bits .i64) ((U ((U (eN*(6364136223846793005:Int)))+(1442695040888963407:Int))).fdiv (2 ^ (min (45:Int).toNat (IntKind.bits .i64))))).toNat:Int))) &&& BitVec.ofInt (IntKind.bits .i64) (255:Int)).toNat:Int)))+(IntKind.wrap .i64 aQ))) &&& BitVec.ofInt (IntKind.bits .i64) (255:Int)).toNat:Int)),U (cg+(1:Int)),U ((U (eN*(6364136223846793005:Int)))+(1442695040888963407:Int)))
  else none
 else
  some (U (((BitVec.ofInt (IntKind.bits .i64) (U (((BitVec.ofInt (IntKind.bits .i64) ((U ((U (eN*(6364136223846793005:Int)))+(1442695040888963407:Int))).fdiv (2 ^ (min (33:Int).toNat (IntKind.bits .i64)))) ^^^ BitVec.ofInt (IntKind.bits .i64) ((U ((U (eN*(6364136223846793005:Int)))+(1442695040888963407:Int))).fdiv (2 ^ (min (45:Int).toNat (IntKind.bits .i64))))).toNat:Int))) &&& BitVec.ofInt (IntKind.bits .i64) (255:Int)).toNat:Int)),cg,U ((U (eN*(6364136223846793005:Int)))+(1442695040888963407:Int)))
theorem ua {bY:List Int}{cg eN:Int}:b1 (qI bY cg eN) (fun a=>Con bt 32 [.ref 0 0 0 0] [[ab.mk 3 [[.isl 1 (bY.map eU8),.n .i64 cg,.n .i64 eN]] .live]] (.n .i64 a.1) [[ab.mk 3 [[.isl 1 (bY.map eU8),.n .i64 a.2.1,.n .i64 a.2.2]] .live]]):=by
 unfold qI
 exact (let t1:List cK:=[(ad 1),(ad 10),(ad 13),(ad 10)];
  have a4:=((.aH (by decide:(0:Int)≤33) (by decide:(0:Int)≤45)):c1 _);
  .ite (fun o =>
  .bq fun J =>
  .aw fun aQ ay =>
  .ret (hE (t1.append [.aj true,.aG (bQ 10 (.cA (eU8 aQ)) 4),(ad 9),(ad 2)]) [0] [.box [.id,.id,.id]] (a4.aZ (.dn o J.1 (d9 eU8 J.2) (cD eU8 ay)))))
  (fun o =>
  .ret (hE (t1.append [.aj false,(ad 2)]) [0] [.box [.id,.id,.id]] (a4.aZ (.az o)))))
def kP (aS:Int)(bY:List Int)(cg eN:Int):Option (Int×Int×Int) :=
 if (decide (aS≤(0:Int)))=true then
  some (0,cg,eN)
 else
  if (decide (aS≤(256:Int)))=true then
   qI bY cg eN >>= fun a9 =>
   if aS≠0 then
   some (a9.1.tmod aS,a9.2.1,a9.2.2)
   else none
  else
   qI bY cg eN >>= fun a9 =>
   qI bY a9.2.1 a9.2.2 >>= fun ba =>
   qI bY ba.2.1 ba.2.2 >>= fun bI =>
   qI bY bI.2.1 bI.2.2 >>= fun bk =>
   if aS≠0 then
   some ((U ((U ((U ((U (a9.1*(16777216:Int)))+(U (ba.1*(65536:Int)))))+(U (bI.1*(256:Int)))))+bk.1)).tmod aS,bk.2.1,bk.2.2)
   else none
theorem mh {aS:Int}{bY:List Int}{cg eN:Int}:b1 (kP aS bY cg eN) (fun a=>Con bt 63 [.ref 0 0 0 0,.n .i64 aS] [[ab.mk 3 [[.isl 1 (bY.map eU8),.n .i64 cg,.n .i64 eN]] .live]] (.n .i64 a.1) [[ab.mk 3 [[.isl 1 (bY.map eU8),.n .i64 a.2.1,.n .i64 a.2.2]] .live]]):=by
 unfold kP
 exact .ite (fun o =>
  .ret (hE [(ad 1),(ad 2),.aj true,(ad 1)] [0] [.box [.id,.id,.id]] (.az o)))
  (fun o =>
  (let t1:List cK:=[(ad 1),(ad 2),.aj false,(ad 2)];
  .ite (fun J =>
  .aw fun a9 ay =>
  .bq fun aI =>
  .ret (hE (t1.append [.aj true,.aG (bQ 1 (.call {aM:=[.row 0],cr:=[.box [.id,.id,.id]],ac:=[ii],r:= .n .i64 a9.1,dj:=[[ab.mk 3 [[.isl 1 (bY.map eU8),.n .i64 a9.2.1,.n .i64 a9.2.2]] .live]],eh:=ii,e1:=[.box [.id,.id,.id]],dv:=[0],dq:=false}) 3)]) [0] [.box [.id,.id,.id]] (.dn o J (ua a9 ay) aI)))
  (fun J =>
  .aw fun a9 ay =>
  .aw fun ba bu =>
  .aw fun bI bn =>
  .aw fun bk cV =>
  .bq fun cZ =>
  .ret (hE (t1.append [.aj false,.aG (bQ 1 (.call {aM:=[.row 0],cr:=[.box [.id,.id,.id]],ac:=[ii],r:= .n .i64 a9.1,dj:=[[ab.mk 3 [[.isl 1 (bY.map eU8),.n .i64 a9.2.1,.n .i64 a9.2.2]] .live]],eh:=ii,e1:=[.box [.id,.id,.id]],dv:=[0],dq:=false}) 1),.aG (bQ 1 (.call {aM:=[.row 0],cr:=[.box [.id,.id,.id]],ac:=[ii],r:= .n .i64 ba.1,dj:=[[ab.mk 3 [[.isl 1 (bY.map eU8),.n .i64 ba.2.1,.n .i64 ba.2.2]] .live]],eh:=ii,e1:=[.box [.id,.id,.id]],dv:=[0],dq:=false}) 1),.aG (bQ 1 (.call {aM:=[.row 0],cr:=[.box [.id,.id,.id]],ac:=[ii],r:= .n .i64 bI.1,dj:=[[ab.mk 3 [[.isl 1 (bY.map eU8),.n .i64 bI.2.1,.n .i64 bI.2.2]] .live]],eh:=ii,e1:=[.box [.id,.id,.id]],dv:=[0],dq:=false}) 1),.aG (bQ 1 (.call {aM:=[.row 0],cr:=[.box [.id,.id,.id]],ac:=[ii],r:= .n .i64 bk.1,dj:=[[ab.mk 3 [[.isl 1 (bY.map eU8),.n .i64 bk.2.1,.n .i64 bk.2.2]] .live]],eh:=ii,e1:=[.box [.id,.id,.id]],dv:=[0],dq:=false}) 1),(ad 13)]) [0] [.box [.id,.id,.id]] (.fr o J (ua a9 ay) (ua ba bu) (ua bI bn) (ua bk cV) cZ)))))
def x5 (aS:Int)(bY:List Int)(cg eN:Int):Option (Bool×Int×Int) :=
 kP aS bY cg eN >>= fun aq =>
 some ((aq.1 == (0:Int)),aq.2.1,aq.2.2)
theorem Dq {aS:Int}{bY:List Int}{cg eN:Int}:b1 (x5 aS bY cg eN) (fun a=>Con bt 64 [.ref 0 0 0 0,.n .i64 aS] [[ab.mk 3 [[.isl 1 (bY.map eU8),.n .i64 cg,.n .i64 eN]] .live]] (.b a.1) [[ab.mk 3 [[.isl 1 (bY.map eU8),.n .i64 a.2.1,.n .i64 a.2.2]] .live]]):=by
 unfold x5
 exact .aw fun aq J =>
  .ret (hE [(ad 1),.aG (bQ 2 (.call {aM:=[.row 0],cr:=[.box [.id,.id,.id]],ac:=[ii,ii],r:= .n .i64 aq.1,dj:=[[ab.mk 3 [[.isl 1 (bY.map eU8),.n .i64 aq.2.1,.n .i64 aq.2.2]] .live]],eh:=ii,e1:=[.box [.id,.id,.id]],dv:=[0],dq:=false}) 2)] [0] [.box [.id,.id,.id]] (.az (mh aq J)))
def x6 (cG bY:List Int)(cg eN:Int):Option (Int×Int×Int) :=
 kP (len_ I cG) bY cg eN >>= fun aq =>
 if 0≤aq.1∧aq.1<cG.length then
 cG[aq.1.toNat]? >>= fun gI =>
 some (gI,aq.2.1,aq.2.2)
 else none
theorem ID {cG bY:List Int}{cg eN:Int}:b1 (x6 cG bY cg eN) (fun a=>Con bt 100 [.ref 0 0 0 0,.isl 1 (cG.map I)] [[ab.mk 3 [[.isl 1 (bY.map eU8),.n .i64 cg,.n .i64 eN]] .live]] (.n .i64 a.1) [[ab.mk 3 [[.isl 1 (bY.map eU8),.n .i64 a.2.1,.n .i64 a.2.2]] .live]]):=by
 unfold x6
 exact .aw fun aq J =>
  .bq fun ak =>
  .aw fun gI aI =>
  .ret (hE [(ad 1),.aG (ae 4 (ah (.call {aM:=[.row 0],cr:=[.box [.id,.id,.id]],ac:=[ii,ii],r:= .n .i64 aq.1,dj:=[[ab.mk 3 [[.isl 1 (bY.map eU8),.n .i64 aq.2.1,.n .i64 aq.2.2]] .live]],eh:=ii,e1:=[.box [.id,.id,.id]],dv:=[0],dq:=false}) (bQ 1 (.cA (I gI)) 1)))] [0] [.box [.id,.id,.id]] (.dn (mh aq J) ak.1 (d9 I ak.2) (cD I aI)))
def HB (aK:List Int)(ao:List br):(Int×Int×Int×(List bP))→S:=fun (aS,aE,cx,a7)=>eV [(0,.ref 0 0 0 0),(2,.ref 1 0 0 0),(3,.ref 2 0 0 0),(4,.n .i64 aS)] [[ab.mk 3 [[.isl 1 (aK.map eU8),.n .i64 aE,.n .i64 cx]] .live],[ab.mk 2 [[.eK,.eK]] .live],[ab.mk 2 [[.bC 3 0 0 ao.length,.bC 4 0 0 a7.length]] .live],(av 4 dz ao),(av 3 dm a7)]
def HK (aK:List Int)(ao:List br):(Int×Int×(List bP))→e3
 | a=>⟨some 0,[(2,.ref 1 0 0 0),(3,.ref 2 0 0 0)],[[ab.mk 3 [[.isl 1 (aK.map eU8),.n .i64 a.1,.n .i64 a.2.1]] .live],[ab.mk 2 [[.eK,.eK]] .live],[ab.mk 2 [[.bC 3 0 0 ao.length,.bC 4 0 0 a.2.2.length]] .live],(av 4 dz ao),(av 3 dm a.2.2)]⟩
def xx (aK:List Int)(ao:List br)(aS aE cx:Int)(a7:List bP):Option ((Int×Int×Int×(List bP))⊕(Int×Int×(List bP))) :=
 if (decide ((0:Int)<aS))=true then
  kP 2 aK aE cx >>= fun bE =>
  kP 2 aK bE.2.1 bE.2.2 >>= fun aW =>
  kP 3 aK aW.2.1 aW.2.2 >>= fun a5 =>
  if (a7++([(⟨bE.1,U ((2:Int)+aW.1),U ((1:Int)+a5.1)⟩:bP)]:List bP)).length*24≤140737488355328 then
  some (.inl (U (aS-(1:Int)),a5.2.1,a5.2.2,a7++([(⟨bE.1,U ((2:Int)+aW.1),U ((1:Int)+a5.1)⟩:bP)]:List bP)))
  else none
 else
  some (.inr (aE,cx,a7))
def NX (aK:List Int)(ao:List br)(aS aE cx:Int)(a7:List bP):Option (Int×Int×(List bP)):=iter (fun w:Int×Int×Int×(List bP)=>xx aK ao w.1 w.2.1 w.2.2.1 w.2.2.2) (aS,aE,cx,a7)
theorem UX {aK:List Int}{ao:List br}{aS aE cx:Int}{a7:List bP}:b1 (xx aK ao aS aE cx a7) (fA bt 56 1 83 [1,1,1,1,0,1,0,0] (HB aK ao (aS,aE,cx,a7)) (HB aK ao) (HK aK ao)):=by
 unfold xx
 exact .ite (fun o =>
  .aw fun bE ak =>
  .aw fun aW aI =>
  .aw fun a5 bx =>
  .bq fun bn =>
  .ret (let aR:=(a7++([(⟨bE.1,U ((2:Int)+aW.1),U ((1:Int)+a5.1)⟩:bP)]:List bP));bT [(ad 2),.aj true,.aG (ae 3 (ah (.call {aM:=[.row 0],cr:=[.box [.id,.id,.id]],ac:=[ii,ii],r:= .n .i64 bE.1,dj:=[[ab.mk 3 [[.isl 1 (aK.map eU8),.n .i64 bE.2.1,.n .i64 bE.2.2]] .live]],eh:=ii,e1:=[.box [.id,.id,.id]],dv:=[0],dq:=false}) (ae 1 (ah (.call {aM:=[.row 0],cr:=[.box [.id,.id,.id]],ac:=[ii,ii],r:= .n .i64 aW.1,dj:=[[ab.mk 3 [[.isl 1 (aK.map eU8),.n .i64 aW.2.1,.n .i64 aW.2.2]] .live]],eh:=ii,e1:=[.box [.id,.id,.id]],dv:=[0],dq:=false}) (ae 2 (ah (.call {aM:=[.row 0],cr:=[.box [.id,.id,.id]],ac:=[ii,ii],r:= .n .i64 a5.1,dj:=[[ab.mk 3 [[.isl 1 (aK.map eU8),.n .i64 a5.2.1,.n .i64 a5.2.2]] .live]],eh:=ii,e1:=[.box [.id,.id,.id]],dv:=[0],dq:=false}) (bQ 3 (.aZ (aR.length)) 2))))))),(ad 3),.bp [0,1,2,3,19] [.box [.id,.id,.id],.box [.id,.id],.box [.id,.id],.pure,.d3 (av 3 dm aR)] (bO [0,2,3,4])] (.bj o (mh bE ak) (mh aW aI) (mh a5 bx) (mN dm (⟨bE.1,U ((2:Int)+aW.1),U ((1:Int)+a5.1)⟩:bP)) (r9 dm a7) (oY dm a7 (⟨bE.1,U ((2:Int)+aW.1),U ((1:Int)+a5.1)⟩:bP)) bn (.b2 (aF 4 .live vc ao) (eX 3 .live (sa dm a7 (⟨bE.1,U ((2:Int)+aW.1),U ((1:Int)+a5.1)⟩:bP))) (aF 3 .live u9 aR)))))
  (fun o =>
  .ret (bT [(ad 2),.aj false,.bp [0,1,2,3,4] [.box [.id,.id,.id],.box [.id,.id],.box [.id,.id],.pure,.pure] (bO [2,3])] (.b2 o (aF 4 .live vc ao) (aF 3 .live u9 a7))))
theorem VI {aK:List Int}{ao:List br}{aS aE cx:Int}{a7:List bP}{r} (h:NX aK ao aS aE cx a7=some r):fB bt 56 1 83 [1,1,1,1,0,1,0,0] (HB aK ao) (HK aK ao) (aS,aE,cx,a7) r:=fD (fun _=>UX) h
def Aj (bY:List Int)(cg eN:Int):Option ((List br)×(List bP)×Int×Int) :=
 kP 3 bY cg eN >>= fun aq =>
 kP 3 bY aq.2.1 aq.2.2 >>= fun a9 =>
 kP 2 bY a9.2.1 a9.2.2 >>= fun ba =>
 kP 3 bY ba.2.1 ba.2.2 >>= fun bI =>
 kP 2 bY bI.2.1 bI.2.2 >>= fun bk =>
 kP 3 bY bk.2.1 bk.2.2 >>= fun cI =>
 x6 ([1,2,3]:List Int) bY cI.2.1 cI.2.2 >>= fun dp =>
 kP 3 bY dp.2.1 dp.2.2 >>= fun dS =>
 NX bY ([(⟨(⟨#[97]⟩:ByteArray),(-2),aq.1,true⟩:br),(⟨(⟨#[98]⟩:ByteArray),6,a9.1,true⟩:br),(⟨(⟨#[99]⟩:ByteArray),ba.1,U ((-1:Int)-bI.1),false⟩:br),(⟨(⟨#[100]⟩:ByteArray),U ((3:Int)+bk.1),U ((-1:Int)-cI.1),false⟩:br)]:List br) dS.1 dS.2.1 dS.2.2 ([(⟨0,2,1⟩:bP),(⟨2,3,dp.1⟩:bP),(⟨3,1,1⟩:bP)]:List bP) >>= fun ix =>
 some (([(⟨(⟨#[97]⟩:ByteArray),(-2),aq.1,true⟩:br),(⟨(⟨#[98]⟩:ByteArray),6,a9.1,true⟩:br),(⟨(⟨#[99]⟩:ByteArray),ba.1,U ((-1:Int)-bI.1),false⟩:br),(⟨(⟨#[100]⟩:ByteArray),U ((3:Int)+bk.1),U ((-1:Int)-cI.1),false⟩:br)]:List br),ix.2.2,ix.1,ix.2.1)
theorem Wf {bY:List Int}{cg eN:Int}:b1 (Aj bY cg eN) (fun a=>Con bt 83 [.ref 0 0 0 0] [[ab.mk 3 [[.isl 1 (bY.map eU8),.n .i64 cg,.n .i64 eN]] .live]] (.agg [.isl 4 (a.1.map dz),.isl 3 (a.2.1.map dm)]) [[ab.mk 3 [[.isl 1 (bY.map eU8),.n .i64 a.2.2.1,.n .i64 a.2.2.2]] .live]]):=by
 unfold Aj
 exact .aw fun aq J =>
  .aw fun a9 ay =>
  .aw fun ba bu =>
  .aw fun bI bn =>
  .aw fun bk cV =>
  .aw fun cI dg =>
  .aw fun dp eL =>
  .aw fun dS jq =>
  .aw fun ix jT =>
  .ret (hE [(ad 1),(ad 3),.aG (ae 1 (ah (.call {aM:=[.row 0],cr:=[.box [.id,.id,.id]],ac:=[ii,ii],r:= .n .i64 aq.1,dj:=[[ab.mk 3 [[.isl 1 (bY.map eU8),.n .i64 aq.2.1,.n .i64 aq.2.2]] .live]],eh:=ii,e1:=[.box [.id,.id,.id]],dv:=[0],dq:=false}) (ae 2 (ah (.call {aM:=[.row 0],cr:=[.box [.id,.id,.id]],ac:=[ii,ii],r:= .n .i64 a9.1,dj:=[[ab.mk 3 [[.isl 1 (bY.map eU8),.n .i64 a9.2.1,.n .i64 a9.2.2]] .live]],eh:=ii,e1:=[.box [.id,.id,.id]],dv:=[0],dq:=false}) (ae 2 (ah (.call {aM:=[.row 0],cr:=[.box [.id,.id,.id]],ac:=[ii,ii],r:= .n .i64 ba.1,dj:=[[ab.mk 3 [[.isl 1 (bY.map eU8),.n .i64 ba.2.1,.n .i64 ba.2.2]] .live]],eh:=ii,e1:=[.box [.id,.id,.id]],dv:=[0],dq:=false}) (ae 1 (ah (.call {aM:=[.row 0],cr:=[.box [.id,.id,.id]],ac:=[ii,ii],r:= .n .i64 bI.1,dj:=[[ab.mk 3 [[.isl 1 (bY.map eU8),.n .i64 bI.2.1,.n .i64 bI.2.2]] .live]],eh:=ii,e1:=[.box [.id,.id,.id]],dv:=[0],dq:=false}) (ae 3 (ah (.call {aM:=[.row 0],cr:=[.box [.id,.id,.id]],ac:=[ii,ii],r:= .n .i64 bk.1,dj:=[[ab.mk 3 [[.isl 1 (bY.map eU8),.n .i64 bk.2.1,.n .i64 bk.2.2]] .live]],eh:=ii,e1:=[.box [.id,.id,.id]],dv:=[0],dq:=false}) (bQ 2 (.call {aM:=[.row 0],cr:=[.box [.id,.id,.id]],ac:=[ii,ii],r:= .n .i64 cI.1,dj:=[[ab.mk 3 [[.isl 1 (bY.map eU8),.n .i64 cI.2.1,.n .i64 cI.2.2]] .live]],eh:=ii,e1:=[.box [.id,.id,.id]],dv:=[0],dq:=false}) 5))))))))))),.aG (bQ 3 (.sR 29 (.call {aM:=[.row 0],cr:=[.box [.id,.id,.id]],ac:=[ii,.bN (.cj (.gn (([1,2,3]:List Int).map I)))],r:= .n .i64 dp.1,dj:=[[ab.mk 3 [[.isl 1 (bY.map eU8),.n .i64 dp.2.1,.n .i64 dp.2.2]] .live]],eh:=ii,e1:=[.box [.id,.id,.id]],dv:=[0,29],dq:=false})) 5),.aG (bQ 1 (.call {aM:=[.row 0],cr:=[.box [.id,.id,.id]],ac:=[ii,ii],r:= .n .i64 dS.1,dj:=[[ab.mk 3 [[.isl 1 (bY.map eU8),.n .i64 dS.2.1,.n .i64 dS.2.2]] .live]],eh:=ii,e1:=[.box [.id,.id,.id]],dv:=[0],dq:=false}) 1),.bp [0,1,3,24,33] [.box [.id,.id,.id],.box [.id,.id],.box [.len (([(⟨(⟨#[97]⟩:ByteArray),(-2),aq.1,true⟩:br),(⟨(⟨#[98]⟩:ByteArray),6,a9.1,true⟩:br),(⟨(⟨#[99]⟩:ByteArray),ba.1,U ((-1:Int)-bI.1),false⟩:br),(⟨(⟨#[100]⟩:ByteArray),U ((3:Int)+bk.1),U ((-1:Int)-cI.1),false⟩:br)]:List br).length),.len (([(⟨0,2,1⟩:bP),(⟨2,3,dp.1⟩:bP),(⟨3,1,1⟩:bP)]:List bP).length)],.d3 (av 4 dz ([(⟨(⟨#[97]⟩:ByteArray),(-2),aq.1,true⟩:br),(⟨(⟨#[98]⟩:ByteArray),6,a9.1,true⟩:br),(⟨(⟨#[99]⟩:ByteArray),ba.1,U ((-1:Int)-bI.1),false⟩:br),(⟨(⟨#[100]⟩:ByteArray),U ((3:Int)+bk.1),U ((-1:Int)-cI.1),false⟩:br)]:List br)),.d3 (av 3 dm ([(⟨0,2,1⟩:bP),(⟨2,3,dp.1⟩:bP),(⟨3,1,1⟩:bP)]:List bP))] (bO [0,2,3,4]),(HK bY ([(⟨(⟨#[97]⟩:ByteArray),(-2),aq.1,true⟩:br),(⟨(⟨#[98]⟩:ByteArray),6,a9.1,true⟩:br),(⟨(⟨#[99]⟩:ByteArray),ba.1,U ((-1:Int)-bI.1),false⟩:br),(⟨(⟨#[100]⟩:ByteArray),U ((3:Int)+bk.1),U ((-1:Int)-cI.1),false⟩:br)]:List br) ix).gp,(ad 2)] [0] [.box [.id,.id,.id]] (.bj (mh aq J) (mh a9 ay) (mh ba bu) (mh bI bn) (mh bk cV) (mh cI dg) (lO (show [[.n .i64 (1:Int)],[.n .i64 (2:Int)],[.n .i64 (3:Int)]]=(([1,2,3]:List Int)).map I from rfl) (show 3=([1,2,3]:List Int).length from rfl)) (nO (show [[.n .i64 (1:Int)],[.n .i64 (2:Int)],[.n .i64 (3:Int)]]=(([1,2,3]:List Int)).map I from rfl) (show 3=([1,2,3]:List Int).length from rfl)) (.bj (e9 aD ([1,2,3]:List Int)) (ID dp eL) (mh dS jq) (show 4=([(⟨(⟨#[97]⟩:ByteArray),(-2),aq.1,true⟩:br),(⟨(⟨#[98]⟩:ByteArray),6,a9.1,true⟩:br),(⟨(⟨#[99]⟩:ByteArray),ba.1,U ((-1:Int)-bI.1),false⟩:br),(⟨(⟨#[100]⟩:ByteArray),U ((3:Int)+bk.1),U ((-1:Int)-cI.1),false⟩:br)]:List br).length from rfl) (show 3=([(⟨0,2,1⟩:bP),(⟨2,3,dp.1⟩:bP),(⟨3,1,1⟩:bP)]:List bP).length from rfl) (eX 4 .live (show [[.s (⟨#[97]⟩:ByteArray),.n .i64 (-2:Int),.n .i64 aq.1,.b true],[.s (⟨#[98]⟩:ByteArray),.n .i64 (6:Int),.n .i64 a9.1,.b true],[.s (⟨#[99]⟩:ByteArray),.n .i64 ba.1,.n .i64 (U ((-1:Int)-bI.1)),.b false],[.s (⟨#[100]⟩:ByteArray),.n .i64 (U ((3:Int)+bk.1)),.n .i64 (U ((-1:Int)-cI.1)),.b false]]=(([(⟨(⟨#[97]⟩:ByteArray),(-2),aq.1,true⟩:br),(⟨(⟨#[98]⟩:ByteArray),6,a9.1,true⟩:br),(⟨(⟨#[99]⟩:ByteArray),ba.1,U ((-1:Int)-bI.1),false⟩:br),(⟨(⟨#[100]⟩:ByteArray),U ((3:Int)+bk.1),U ((-1:Int)-cI.1),false⟩:br)]:List br)).map dz from rfl)) (aF 4 .live vc ([(⟨(⟨#[97]⟩:ByteArray),(-2),aq.1,true⟩:br),(⟨(⟨#[98]⟩:ByteArray),6,a9.1,true⟩:br),(⟨(⟨#[99]⟩:ByteArray),ba.1,U ((-1:Int)-bI.1),false⟩:br),(⟨(⟨#[100]⟩:ByteArray),U ((3:Int)+bk.1),U ((-1:Int)-cI.1),false⟩:br)]:List br)) (eX 3 .live (show [[.n .i64 (0:Int),.n .i64 (2:Int),.n .i64 (1:Int)],[.n .i64 (2:Int),.n .i64 (3:Int),.n .i64 dp.1],[.n .i64 (3:Int),.n .i64 (1:Int),.n .i64 (1:Int)]]=(([(⟨0,2,1⟩:bP),(⟨2,3,dp.1⟩:bP),(⟨3,1,1⟩:bP)]:List bP)).map dm from rfl)) (.hB (aF 3 .live u9 ([(⟨0,2,1⟩:bP),(⟨2,3,dp.1⟩:bP),(⟨3,1,1⟩:bP)]:List bP)) (VI jT) (kp dz ([(⟨(⟨#[97]⟩:ByteArray),(-2),aq.1,true⟩:br),(⟨(⟨#[98]⟩:ByteArray),6,a9.1,true⟩:br),(⟨(⟨#[99]⟩:ByteArray),ba.1,U ((-1:Int)-bI.1),false⟩:br),(⟨(⟨#[100]⟩:ByteArray),U ((3:Int)+bk.1),U ((-1:Int)-cI.1),false⟩:br)]:List br)) (jA dz ([(⟨(⟨#[97]⟩:ByteArray),(-2),aq.1,true⟩:br),(⟨(⟨#[98]⟩:ByteArray),6,a9.1,true⟩:br),(⟨(⟨#[99]⟩:ByteArray),ba.1,U ((-1:Int)-bI.1),false⟩:br),(⟨(⟨#[100]⟩:ByteArray),U ((3:Int)+bk.1),U ((-1:Int)-cI.1),false⟩:br)]:List br)) (e9 vc ([(⟨(⟨#[97]⟩:ByteArray),(-2),aq.1,true⟩:br),(⟨(⟨#[98]⟩:ByteArray),6,a9.1,true⟩:br),(⟨(⟨#[99]⟩:ByteArray),ba.1,U ((-1:Int)-bI.1),false⟩:br),(⟨(⟨#[100]⟩:ByteArray),U ((3:Int)+bk.1),U ((-1:Int)-cI.1),false⟩:br)]:List br)) (kp dm ix.2.2) (jA dm ix.2.2) (e9 u9 ix.2.2)))) (.bN (.agg [.gn (([(⟨(⟨#[97]⟩:ByteArray),(-2),aq.1,true⟩:br),(⟨(⟨#[98]⟩:ByteArray),6,a9.1,true⟩:br),(⟨(⟨#[99]⟩:ByteArray),ba.1,U ((-1:Int)-bI.1),false⟩:br),(⟨(⟨#[100]⟩:ByteArray),U ((3:Int)+bk.1),U ((-1:Int)-cI.1),false⟩:br)]:List br).map dz),.gn (ix.2.2.map dm)])))
def Ag (bY:List Int)(cg eN:Int):Option ((List br)×(List bP)×Int×Int) :=
 kP 4 bY cg eN >>= fun aq =>
 kP 3 bY aq.2.1 aq.2.2 >>= fun a9 =>
 kP 4 bY a9.2.1 a9.2.2 >>= fun ba =>
 kP 3 bY ba.2.1 ba.2.2 >>= fun bI =>
 kP 4 bY bI.2.1 bI.2.2 >>= fun bk =>
 kP 4 bY bk.2.1 bk.2.2 >>= fun cI =>
 x6 ([1,1,1,3]:List Int) bY cI.2.1 cI.2.2 >>= fun dp =>
 x5 2 bY dp.2.1 dp.2.2 >>= fun dS =>
 if dS.1=true then
  kP 5 bY dS.2.1 dS.2.2 >>= fun d6 =>
  if (([(⟨(⟨#[97]⟩:ByteArray),U ((-1:Int)-aq.1),a9.1,true⟩:br),(⟨(⟨#[98]⟩:ByteArray),U ((3:Int)+ba.1),bI.1,true⟩:br),(⟨(⟨#[99]⟩:ByteArray),U (bk.1-(1:Int)),U ((-1:Int)-cI.1),false⟩:br)]:List br)++([(⟨(⟨#[100]⟩:ByteArray),U (d6.1-(1:Int)),(-7),true⟩:br)]:List br)).length*40≤140737488355328 then
  x6 ([1,2,3]:List Int) bY d6.2.1 d6.2.2 >>= fun iX =>
  if (([(⟨0,2,1⟩:bP),(⟨1,2,dp.1⟩:bP)]:List bP)++([(⟨3,2,iX.1⟩:bP)]:List bP)).length*24≤140737488355328 then
  some (([(⟨(⟨#[97]⟩:ByteArray),U ((-1:Int)-aq.1),a9.1,true⟩:br),(⟨(⟨#[98]⟩:ByteArray),U ((3:Int)+ba.1),bI.1,true⟩:br),(⟨(⟨#[99]⟩:ByteArray),U (bk.1-(1:Int)),U ((-1:Int)-cI.1),false⟩:br)]:List br)++([(⟨(⟨#[100]⟩:ByteArray),U (d6.1-(1:Int)),(-7),true⟩:br)]:List br),([(⟨0,2,1⟩:bP),(⟨1,2,dp.1⟩:bP)]:List bP)++([(⟨3,2,iX.1⟩:bP)]:List bP),iX.2.1,iX.2.2)
  else none
  else none
 else
  some (([(⟨(⟨#[97]⟩:ByteArray),U ((-1:Int)-aq.1),a9.1,true⟩:br),(⟨(⟨#[98]⟩:ByteArray),U ((3:Int)+ba.1),bI.1,true⟩:br),(⟨(⟨#[99]⟩:ByteArray),U (bk.1-(1:Int)),U ((-1:Int)-cI.1),false⟩:br)]:List br),([(⟨0,2,1⟩:bP),(⟨1,2,dp.1⟩:bP)]:List bP),dS.2.1,dS.2.2)
set_option maxHeartbeats 4000000 in
theorem V5 {bY:List Int}{cg eN:Int}:b1 (Ag bY cg eN) (fun a=>Con bt 84 [.ref 0 0 0 0] [[ab.mk 3 [[.isl 1 (bY.map eU8),.n .i64 cg,.n .i64 eN]] .live]] (.agg [.isl 4 (a.1.map dz),.isl 3 (a.2.1.map dm)]) [[ab.mk 3 [[.isl 1 (bY.map eU8),.n .i64 a.2.2.1,.n .i64 a.2.2.2]] .live]]):=by
 unfold Ag
 exact .aw fun aq J =>
  .aw fun a9 ay =>
  .aw fun ba bu =>
  .aw fun bI bn =>
  .aw fun bk cV =>
  .aw fun cI dg =>
  .aw fun dp eL =>
  .aw fun dS jq =>
  (let t1:List cK:=[(ad 1),(ad 3),.aG (ae 1 (ah (.call {aM:=[.row 0],cr:=[.box [.id,.id,.id]],ac:=[ii,ii],r:= .n .i64 aq.1,dj:=[[ab.mk 3 [[.isl 1 (bY.map eU8),.n .i64 aq.2.1,.n .i64 aq.2.2]] .live]],eh:=ii,e1:=[.box [.id,.id,.id]],dv:=[0],dq:=false}) (ae 2 (ah (.call {aM:=[.row 0],cr:=[.box [.id,.id,.id]],ac:=[ii,ii],r:= .n .i64 a9.1,dj:=[[ab.mk 3 [[.isl 1 (bY.map eU8),.n .i64 a9.2.1,.n .i64 a9.2.2]] .live]],eh:=ii,e1:=[.box [.id,.id,.id]],dv:=[0],dq:=false}) (ae 2 (ah (.call {aM:=[.row 0],cr:=[.box [.id,.id,.id]],ac:=[ii,ii],r:= .n .i64 ba.1,dj:=[[ab.mk 3 [[.isl 1 (bY.map eU8),.n .i64 ba.2.1,.n .i64 ba.2.2]] .live]],eh:=ii,e1:=[.box [.id,.id,.id]],dv:=[0],dq:=false}) (ae 2 (ah (.call {aM:=[.row 0],cr:=[.box [.id,.id,.id]],ac:=[ii,ii],r:= .n .i64 bI.1,dj:=[[ab.mk 3 [[.isl 1 (bY.map eU8),.n .i64 bI.2.1,.n .i64 bI.2.2]] .live]],eh:=ii,e1:=[.box [.id,.id,.id]],dv:=[0],dq:=false}) (ae 2 (ah (.call {aM:=[.row 0],cr:=[.box [.id,.id,.id]],ac:=[ii,ii],r:= .n .i64 bk.1,dj:=[[ab.mk 3 [[.isl 1 (bY.map eU8),.n .i64 bk.2.1,.n .i64 bk.2.2]] .live]],eh:=ii,e1:=[.box [.id,.id,.id]],dv:=[0],dq:=false}) (bQ 2 (.call {aM:=[.row 0],cr:=[.box [.id,.id,.id]],ac:=[ii,ii],r:= .n .i64 cI.1,dj:=[[ab.mk 3 [[.isl 1 (bY.map eU8),.n .i64 cI.2.1,.n .i64 cI.2.2]] .live]],eh:=ii,e1:=[.box [.id,.id,.id]],dv:=[0],dq:=false}) 5))))))))))),.aG (bQ 3 (.sR 29 (.call {aM:=[.row 0],cr:=[.box [.id,.id,.id]],ac:=[ii,.bN (.cj (.gn (([1,1,1,3]:List Int).map I)))],r:= .n .i64 dp.1,dj:=[[ab.mk 3 [[.isl 1 (bY.map eU8),.n .i64 dp.2.1,.n .i64 dp.2.2]] .live]],eh:=ii,e1:=[.box [.id,.id,.id]],dv:=[0,29],dq:=false})) 4),.aG (ae 1 (ah (.call {aM:=[.row 0],cr:=[.box [.id,.id,.id]],ac:=[ii,ii],r:= .b dS.1,dj:=[[ab.mk 3 [[.isl 1 (bY.map eU8),.n .i64 dS.2.1,.n .i64 dS.2.2]] .live]],eh:=ii,e1:=[.box [.id,.id,.id]],dv:=[0],dq:=false}) []))];
  have a4:=((.bj (mh aq J) (mh a9 ay) (mh ba bu) (mh bI bn) (mh bk cV) (mh cI dg) (lO (show [[.n .i64 (1:Int)],[.n .i64 (1:Int)],[.n .i64 (1:Int)],[.n .i64 (3:Int)]]=(([1,1,1,3]:List Int)).map I from rfl) (show 4=([1,1,1,3]:List Int).length from rfl)) (nO (show [[.n .i64 (1:Int)],[.n .i64 (1:Int)],[.n .i64 (1:Int)],[.n .i64 (3:Int)]]=(([1,1,1,3]:List Int)).map I from rfl) (show 4=([1,1,1,3]:List Int).length from rfl)) (.b2 (e9 aD ([1,1,1,3]:List Int)) (ID dp eL) (Dq dS jq))):c1 _);
  .ite (fun gG =>
  .aw fun d6 iM =>
  .bq fun nd =>
  .aw fun iX lj =>
  .bq fun hy =>
  .ret (let aR:=(([(⟨(⟨#[97]⟩:ByteArray),U ((-1:Int)-aq.1),a9.1,true⟩:br),(⟨(⟨#[98]⟩:ByteArray),U ((3:Int)+ba.1),bI.1,true⟩:br),(⟨(⟨#[99]⟩:ByteArray),U (bk.1-(1:Int)),U ((-1:Int)-cI.1),false⟩:br)]:List br)++([(⟨(⟨#[100]⟩:ByteArray),U (d6.1-(1:Int)),(-7),true⟩:br)]:List br));let bb:=(([(⟨0,2,1⟩:bP),(⟨1,2,dp.1⟩:bP)]:List bP)++([(⟨3,2,iX.1⟩:bP)]:List bP));let b7:=(wH dz (⟨(⟨#[100]⟩:ByteArray),U (d6.1-(1:Int)),(-7),true⟩:br));let cC:=(wH dm (⟨3,2,iX.1⟩:bP));hE (t1.append [.aj true,.aG (ae 3 (ah (.call {aM:=[.row 0],cr:=[.box [.id,.id,.id]],ac:=[ii,ii],r:= .n .i64 d6.1,dj:=[[ab.mk 3 [[.isl 1 (bY.map eU8),.n .i64 d6.2.1,.n .i64 d6.2.2]] .live]],eh:=ii,e1:=[.box [.id,.id,.id]],dv:=[0],dq:=false}) (bQ 3 (.aZ (aR.length)) 2))),.aG (ae 4 (ah (.sR 50 (.call {aM:=[.row 0],cr:=[.box [.id,.id,.id]],ac:=[ii,.bN (.cj (.gn (([1,2,3]:List Int).map I)))],r:= .n .i64 iX.1,dj:=[[ab.mk 3 [[.isl 1 (bY.map eU8),.n .i64 iX.2.1,.n .i64 iX.2.2]] .live]],eh:=ii,e1:=[.box [.id,.id,.id]],dv:=[0,50],dq:=false})) (bQ 2 (.aZ (bb.length)) 2))),(ad 2)]) [0] [.box [.id,.id,.id]] (a4.aZ (.bj gG (mh d6 iM) (mN dz (⟨(⟨#[100]⟩:ByteArray),U (d6.1-(1:Int)),(-7),true⟩:br)) (vy (show [[.s (⟨#[97]⟩:ByteArray),.n .i64 (U ((-1:Int)-aq.1)),.n .i64 a9.1,.b true],[.s (⟨#[98]⟩:ByteArray),.n .i64 (U ((3:Int)+ba.1)),.n .i64 bI.1,.b true],[.s (⟨#[99]⟩:ByteArray),.n .i64 (U (bk.1-(1:Int))),.n .i64 (U ((-1:Int)-cI.1)),.b false]]=(([(⟨(⟨#[97]⟩:ByteArray),U ((-1:Int)-aq.1),a9.1,true⟩:br),(⟨(⟨#[98]⟩:ByteArray),U ((3:Int)+ba.1),bI.1,true⟩:br),(⟨(⟨#[99]⟩:ByteArray),U (bk.1-(1:Int)),U ((-1:Int)-cI.1),false⟩:br)]:List br)).map dz from rfl) (show 3=([(⟨(⟨#[97]⟩:ByteArray),U ((-1:Int)-aq.1),a9.1,true⟩:br),(⟨(⟨#[98]⟩:ByteArray),U ((3:Int)+ba.1),bI.1,true⟩:br),(⟨(⟨#[99]⟩:ByteArray),U (bk.1-(1:Int)),U ((-1:Int)-cI.1),false⟩:br)]:List br).length from rfl)) (yH (show 3=([(⟨(⟨#[97]⟩:ByteArray),U ((-1:Int)-aq.1),a9.1,true⟩:br),(⟨(⟨#[98]⟩:ByteArray),U ((3:Int)+ba.1),bI.1,true⟩:br),(⟨(⟨#[99]⟩:ByteArray),U (bk.1-(1:Int)),U ((-1:Int)-cI.1),false⟩:br)]:List br).length from rfl) b7) nd (lO (show [[.n .i64 (1:Int)],[.n .i64 (2:Int)],[.n .i64 (3:Int)]]=(([1,2,3]:List Int)).map I from rfl) (show 3=([1,2,3]:List Int).length from rfl)) (nO (show [[.n .i64 (1:Int)],[.n .i64 (2:Int)],[.n .i64 (3:Int)]]=(([1,2,3]:List Int)).map I from rfl) (show 3=([1,2,3]:List Int).length from rfl)) (.bj (e9 aD ([1,2,3]:List Int)) (ID iX lj) (mN dm (⟨3,2,iX.1⟩:bP)) (vy (show [[.n .i64 (0:Int),.n .i64 (2:Int),.n .i64 (1:Int)],[.n .i64 (1:Int),.n .i64 (2:Int),.n .i64 dp.1]]=(([(⟨0,2,1⟩:bP),(⟨1,2,dp.1⟩:bP)]:List bP)).map dm from rfl) (show 2=([(⟨0,2,1⟩:bP),(⟨1,2,dp.1⟩:bP)]:List bP).length from rfl)) (yH (show 2=([(⟨0,2,1⟩:bP),(⟨1,2,dp.1⟩:bP)]:List bP).length from rfl) cC) hy (lO (rD (show [[.s (⟨#[97]⟩:ByteArray),.n .i64 (U ((-1:Int)-aq.1)),.n .i64 a9.1,.b true],[.s (⟨#[98]⟩:ByteArray),.n .i64 (U ((3:Int)+ba.1)),.n .i64 bI.1,.b true],[.s (⟨#[99]⟩:ByteArray),.n .i64 (U (bk.1-(1:Int))),.n .i64 (U ((-1:Int)-cI.1)),.b false]]=(([(⟨(⟨#[97]⟩:ByteArray),U ((-1:Int)-aq.1),a9.1,true⟩:br),(⟨(⟨#[98]⟩:ByteArray),U ((3:Int)+ba.1),bI.1,true⟩:br),(⟨(⟨#[99]⟩:ByteArray),U (bk.1-(1:Int)),U ((-1:Int)-cI.1),false⟩:br)]:List br)).map dz from rfl) (show 3=([(⟨(⟨#[97]⟩:ByteArray),U ((-1:Int)-aq.1),a9.1,true⟩:br),(⟨(⟨#[98]⟩:ByteArray),U ((3:Int)+ba.1),bI.1,true⟩:br),(⟨(⟨#[99]⟩:ByteArray),U (bk.1-(1:Int)),U ((-1:Int)-cI.1),false⟩:br)]:List br).length from rfl) b7) (ft aR)) (nO (rD (show [[.s (⟨#[97]⟩:ByteArray),.n .i64 (U ((-1:Int)-aq.1)),.n .i64 a9.1,.b true],[.s (⟨#[98]⟩:ByteArray),.n .i64 (U ((3:Int)+ba.1)),.n .i64 bI.1,.b true],[.s (⟨#[99]⟩:ByteArray),.n .i64 (U (bk.1-(1:Int))),.n .i64 (U ((-1:Int)-cI.1)),.b false]]=(([(⟨(⟨#[97]⟩:ByteArray),U ((-1:Int)-aq.1),a9.1,true⟩:br),(⟨(⟨#[98]⟩:ByteArray),U ((3:Int)+ba.1),bI.1,true⟩:br),(⟨(⟨#[99]⟩:ByteArray),U (bk.1-(1:Int)),U ((-1:Int)-cI.1),false⟩:br)]:List br)).map dz from rfl) (show 3=([(⟨(⟨#[97]⟩:ByteArray),U ((-1:Int)-aq.1),a9.1,true⟩:br),(⟨(⟨#[98]⟩:ByteArray),U ((3:Int)+ba.1),bI.1,true⟩:br),(⟨(⟨#[99]⟩:ByteArray),U (bk.1-(1:Int)),U ((-1:Int)-cI.1),false⟩:br)]:List br).length from rfl) b7) (ft aR)) (.dn (e9 vc aR) (lO (rD (show [[.n .i64 (0:Int),.n .i64 (2:Int),.n .i64 (1:Int)],[.n .i64 (1:Int),.n .i64 (2:Int),.n .i64 dp.1]]=(([(⟨0,2,1⟩:bP),(⟨1,2,dp.1⟩:bP)]:List bP)).map dm from rfl) (show 2=([(⟨0,2,1⟩:bP),(⟨1,2,dp.1⟩:bP)]:List bP).length from rfl) cC) (ft bb)) (nO (rD (show [[.n .i64 (0:Int),.n .i64 (2:Int),.n .i64 (1:Int)],[.n .i64 (1:Int),.n .i64 (2:Int),.n .i64 dp.1]]=(([(⟨0,2,1⟩:bP),(⟨1,2,dp.1⟩:bP)]:List bP)).map dm from rfl) (show 2=([(⟨0,2,1⟩:bP),(⟨1,2,dp.1⟩:bP)]:List bP).length from rfl) cC) (ft bb)) (e9 u9 bb))))) (.bN (.agg [.gn (aR.map dz),.gn (bb.map dm)]))))
  (fun gG =>
  .ret (hE (t1.append [.aj false,(ad 2)]) [0] [.box [.id,.id,.id]] (a4.aZ (.fr gG (lO (show [[.s (⟨#[97]⟩:ByteArray),.n .i64 (U ((-1:Int)-aq.1)),.n .i64 a9.1,.b true],[.s (⟨#[98]⟩:ByteArray),.n .i64 (U ((3:Int)+ba.1)),.n .i64 bI.1,.b true],[.s (⟨#[99]⟩:ByteArray),.n .i64 (U (bk.1-(1:Int))),.n .i64 (U ((-1:Int)-cI.1)),.b false]]=(([(⟨(⟨#[97]⟩:ByteArray),U ((-1:Int)-aq.1),a9.1,true⟩:br),(⟨(⟨#[98]⟩:ByteArray),U ((3:Int)+ba.1),bI.1,true⟩:br),(⟨(⟨#[99]⟩:ByteArray),U (bk.1-(1:Int)),U ((-1:Int)-cI.1),false⟩:br)]:List br)).map dz from rfl) (show 3=([(⟨(⟨#[97]⟩:ByteArray),U ((-1:Int)-aq.1),a9.1,true⟩:br),(⟨(⟨#[98]⟩:ByteArray),U ((3:Int)+ba.1),bI.1,true⟩:br),(⟨(⟨#[99]⟩:ByteArray),U (bk.1-(1:Int)),U ((-1:Int)-cI.1),false⟩:br)]:List br).length from rfl)) (nO (show [[.s (⟨#[97]⟩:ByteArray),.n .i64 (U ((-1:Int)-aq.1)),.n .i64 a9.1,.b true],[.s (⟨#[98]⟩:ByteArray),.n .i64 (U ((3:Int)+ba.1)),.n .i64 bI.1,.b true],[.s (⟨#[99]⟩:ByteArray),.n .i64 (U (bk.1-(1:Int))),.n .i64 (U ((-1:Int)-cI.1)),.b false]]=(([(⟨(⟨#[97]⟩:ByteArray),U ((-1:Int)-aq.1),a9.1,true⟩:br),(⟨(⟨#[98]⟩:ByteArray),U ((3:Int)+ba.1),bI.1,true⟩:br),(⟨(⟨#[99]⟩:ByteArray),U (bk.1-(1:Int)),U ((-1:Int)-cI.1),false⟩:br)]:List br)).map dz from rfl) (show 3=([(⟨(⟨#[97]⟩:ByteArray),U ((-1:Int)-aq.1),a9.1,true⟩:br),(⟨(⟨#[98]⟩:ByteArray),U ((3:Int)+ba.1),bI.1,true⟩:br),(⟨(⟨#[99]⟩:ByteArray),U (bk.1-(1:Int)),U ((-1:Int)-cI.1),false⟩:br)]:List br).length from rfl)) (e9 vc ([(⟨(⟨#[97]⟩:ByteArray),U ((-1:Int)-aq.1),a9.1,true⟩:br),(⟨(⟨#[98]⟩:ByteArray),U ((3:Int)+ba.1),bI.1,true⟩:br),(⟨(⟨#[99]⟩:ByteArray),U (bk.1-(1:Int)),U ((-1:Int)-cI.1),false⟩:br)]:List br)) (lO (show [[.n .i64 (0:Int),.n .i64 (2:Int),.n .i64 (1:Int)],[.n .i64 (1:Int),.n .i64 (2:Int),.n .i64 dp.1]]=(([(⟨0,2,1⟩:bP),(⟨1,2,dp.1⟩:bP)]:List bP)).map dm from rfl) (show 2=([(⟨0,2,1⟩:bP),(⟨1,2,dp.1⟩:bP)]:List bP).length from rfl)) (nO (show [[.n .i64 (0:Int),.n .i64 (2:Int),.n .i64 (1:Int)],[.n .i64 (1:Int),.n .i64 (2:Int),.n .i64 dp.1]]=(([(⟨0,2,1⟩:bP),(⟨1,2,dp.1⟩:bP)]:List bP)).map dm from rfl) (show 2=([(⟨0,2,1⟩:bP),(⟨1,2,dp.1⟩:bP)]:List bP).length from rfl)) (e9 u9 ([(⟨0,2,1⟩:bP),(⟨1,2,dp.1⟩:bP)]:List bP)))) (.bN (.agg [.gn (([(⟨(⟨#[97]⟩:ByteArray),U ((-1:Int)-aq.1),a9.1,true⟩:br),(⟨(⟨#[98]⟩:ByteArray),U ((3:Int)+ba.1),bI.1,true⟩:br),(⟨(⟨#[99]⟩:ByteArray),U (bk.1-(1:Int)),U ((-1:Int)-cI.1),false⟩:br)]:List br).map dz),.gn (([(⟨0,2,1⟩:bP),(⟨1,2,dp.1⟩:bP)]:List bP).map dm)])))))
def Ah (bY:List Int)(cg eN:Int):Option ((List br)×(List bP)×Int×Int) :=
 x5 3 bY cg eN >>= fun aq =>
 if aq.1=true then
  Aj bY aq.2.1 aq.2.2 >>= fun aW =>
  some (aW.1,aW.2.1,aW.2.2.1,aW.2.2.2)
 else
  Ag bY aq.2.1 aq.2.2 >>= fun aW =>
  some (aW.1,aW.2.1,aW.2.2.1,aW.2.2.2)
theorem V6 {bY:List Int}{cg eN:Int}:b1 (Ah bY cg eN) (fun a=>Con bt 54 [.ref 0 0 0 0] [[ab.mk 3 [[.isl 1 (bY.map eU8),.n .i64 cg,.n .i64 eN]] .live]] (.agg [.isl 4 (a.1.map dz),.isl 3 (a.2.1.map dm)]) [[ab.mk 3 [[.isl 1 (bY.map eU8),.n .i64 a.2.2.1,.n .i64 a.2.2.2]] .live]]):=by
 unfold Ah
 exact .aw fun aq J =>
  (let t1:List cK:=[(ad 1),.aG (ae 1 (ah (.call {aM:=[.row 0],cr:=[.box [.id,.id,.id]],ac:=[ii,ii],r:= .b aq.1,dj:=[[ab.mk 3 [[.isl 1 (bY.map eU8),.n .i64 aq.2.1,.n .i64 aq.2.2]] .live]],eh:=ii,e1:=[.box [.id,.id,.id]],dv:=[0],dq:=false}) []))];
  .ite (fun ak =>
  .aw fun aW aI =>
  .ret (hE (t1.append [.aj true,.aG (bQ 1 (.call {aM:=[.row 0],cr:=[.box [.id,.id,.id]],ac:=[ii],r:= .agg [.isl 4 (aW.1.map dz),.isl 3 (aW.2.1.map dm)],dj:=[[ab.mk 3 [[.isl 1 (bY.map eU8),.n .i64 aW.2.2.1,.n .i64 aW.2.2.2]] .live]],eh:=ii,e1:=[.box [.id,.id,.id]],dv:=[0],dq:=false}) 1)]) [0] [.box [.id,.id,.id]] (.b2 (Dq aq J) ak (Wf aW aI))))
  (fun ak =>
  .aw fun aW aI =>
  .ret (hE (t1.append [.aj false,.aG (bQ 1 (.call {aM:=[.row 0],cr:=[.box [.id,.id,.id]],ac:=[ii],r:= .agg [.isl 4 (aW.1.map dz),.isl 3 (aW.2.1.map dm)],dj:=[[ab.mk 3 [[.isl 1 (bY.map eU8),.n .i64 aW.2.2.1,.n .i64 aW.2.2.2]] .live]],eh:=ii,e1:=[.box [.id,.id,.id]],dv:=[0],dq:=false}) 1)]) [0] [.box [.id,.id,.id]] (.b2 (Dq aq J) ak (V5 aW aI)))))
def Hr (cF:List br)(gX:Int)(aK:List Int):(Int×Int×Int×(List Int))→S:=fun (fU,aE,cx,ag)=>eV [(0,.ref 0 0 0 0),(5,.bC 1 0 0 ag.length),(14,.isl 4 (cF.map dz)),(15,.n .i64 gX),(16,.n .i64 fU)] [[ab.mk 3 [[.isl 1 (aK.map eU8),.n .i64 aE,.n .i64 cx]] .live],(av 1 I ag)]
def HC (cF:List br)(gX:Int)(aK:List Int):(Int×Int×(List Int))→e3
 | a=>⟨some 0,[(0,.ref 0 0 0 0),(5,.bC 1 0 0 a.2.2.length)],[[ab.mk 3 [[.isl 1 (aK.map eU8),.n .i64 a.1,.n .i64 a.2.1]] .live],(av 1 I a.2.2)]⟩
def u0 (cF:List br)(gX:Int)(aK:List Int)(fU aE cx:Int)(ag:List Int):Option ((Int×Int×Int×(List Int))⊕(Int×Int×(List Int))) :=
 if (decide (fU<gX))=true then
  if 0≤fU∧fU<cF.length then
  cF[fU.toNat]? >>= fun aQ =>
  if aQ.ox=true then
   some (.inl (U (fU+(1:Int)),aE,cx,ag))
  else
   kP 7 aK aE cx >>= fun a5 =>
   if 0≤(U ((2:Int)*fU))∧(U ((2:Int)*fU))<(ag.length:Nat) then
   if (0+(U ((2:Int)*fU)).toNat)<ag.length then
   kP 9 aK a5.2.1 a5.2.2 >>= fun dc =>
   if 0≤(U ((U ((2:Int)*fU))+(1:Int)))∧(U ((U ((2:Int)*fU))+(1:Int)))<(ag.length:Nat) then
   if (0+(U ((U ((2:Int)*fU))+(1:Int))).toNat)<(ag.set (0+(U ((2:Int)*fU)).toNat) (U (a5.1-(3:Int)))).length then
   some (.inl (U (fU+(1:Int)),dc.2.1,dc.2.2,(ag.set (0+(U ((2:Int)*fU)).toNat) (U (a5.1-(3:Int)))).set (0+(U ((U ((2:Int)*fU))+(1:Int))).toNat) (U (0-dc.1))))
   else none
   else none
   else none
   else none
  else none
 else
  some (.inr (aE,cx,ag))
def Dr (cF:List br)(gX:Int)(aK:List Int)(fU aE cx:Int)(ag:List Int):Option (Int×Int×(List Int)):=iter (fun w:Int×Int×Int×(List Int)=>u0 cF gX aK w.1 w.2.1 w.2.2.1 w.2.2.2) (fU,aE,cx,ag)
theorem UO {cF:List br}{gX:Int}{aK:List Int}{fU aE cx:Int}{ag:List Int}:b1 (u0 cF gX aK fU aE cx ag) (fA bt 48 1 30 [1,1,0,1,0,0] (Hr cF gX aK (fU,aE,cx,ag)) (Hr cF gX aK) (HC cF gX aK)):=by
 unfold u0
 exact .ite (fun o =>
  .bq fun J =>
  .aw fun aQ ay =>
  (let t1:List cK:=[(ad 1),.aj true,.aG (bQ 2 (.cA (dz aQ)) 3),(ad 3)];
  have a4:=((.dn o J.1 (d9 dz J.2) (cD dz ay)):c1 _);
  .ite (fun aI =>
  .ret (bT (t1.append [.aj false,(ad 2),.bp [0,1] [.box [.id,.id,.id],.pure] (bO [0,5,14,15,16])]) (a4.aZ (.aH (dQ aI) (aF 1 .live aD ag)))))
  (fun aI =>
  .aw fun a5 bx =>
  .bq fun bn =>
  .bq fun cd =>
  .aw fun dc cZ =>
  .bq fun dg =>
  .bq fun ec =>
  .ret (let aR:=(U ((2:Int)*fU));let bb:=(U (a5.1-(3:Int)));let b7:=(U (aR+(1:Int)));let cC:=U (0-dc.1);bT (t1.append [.aj true,.aG (ae 4 (ah (.call {aM:=[.row 0],cr:=[.box [.id,.id,.id]],ac:=[ii,ii],r:= .n .i64 a5.1,dj:=[[ab.mk 3 [[.isl 1 (aK.map eU8),.n .i64 a5.2.1,.n .i64 a5.2.2]] .live]],eh:=ii,e1:=[.box [.id,.id,.id]],dv:=[0],dq:=false}) (ae 2 (ah .cU [])))),.aG (ae 5 (ah (.call {aM:=[.row 0],cr:=[.box [.id,.id,.id]],ac:=[ii,ii],r:= .n .i64 dc.1,dj:=[[ab.mk 3 [[.isl 1 (aK.map eU8),.n .i64 dc.2.1,.n .i64 dc.2.2]] .live]],eh:=ii,e1:=[.box [.id,.id,.id]],dv:=[0],dq:=false}) (ae 2 (ah .cU [])))),(ad 2),.bp [0,1] [.box [.id,.id,.id],.d3 (av 1 I ((ag.set (0+aR.toNat) bb).set (0+b7.toNat) cC))] [(0,ii),(5,gQ (((ag.set (0+aR.toNat) bb).set (0+b7.toNat) cC).length)),(14,ii),(15,ii),(16,ii)]]) (a4.aZ (.bj (dR aI) (mh a5 bx) bn.1 bn.2 (hk I cd) (gL 1) (mh dc cZ) dg.1 (.fq dg.2 (Be (fP (dV I ag) (0+aR.toNat) bb) ec) (gL 1) (eX 1 .live (fP (fP (dV I ag) (0+aR.toNat) bb) (0+b7.toNat) cC)) (aF 1 .live aD ((ag.set (0+aR.toNat) bb).set (0+b7.toNat) cC)) (gN (gN (ft ag) (0+aR.toNat) bb) (0+b7.toNat) cC))))))))
  (fun o =>
  .ret (bT [(ad 1),.aj false,.bp [0,1] [.box [.id,.id,.id],.pure] (bO [0,5])] (.aH o (aF 1 .live aD ag))))
theorem Vx {cF:List br}{gX:Int}{aK:List Int}{fU aE cx:Int}{ag:List Int}{r} (h:Dr cF gX aK fU aE cx ag=some r):fB bt 48 1 30 [1,1,0,1,0,0] (Hr cF gX aK) (HC cF gX aK) (fU,aE,cx,ag) r:=fD (fun _=>UO) h
def x7 (aO:ck)(bY:List Int)(cg eN:Int):Option ((List Int)×Int×Int) :=
 if 0≤(U ((2:Int)*(len_ dz aO.cE)))∧(8:Int)*(U ((2:Int)*(len_ dz aO.cE)))≤281474976710656∧(U ((2:Int)*(len_ dz aO.cE)))<9223372036854775808 then
 Dr aO.cE (len_ dz aO.cE) bY 0 cg eN (List.replicate (U ((2:Int)*(len_ dz aO.cE))).toNat 0:List Int) >>= fun bE =>
 x5 8 bY bE.1 bE.2.1 >>= fun aW =>
 if aW.1=true then
  if 0≤(U (((bE.2.2.length:Nat):Int)-(1:Int)))∧(U (((bE.2.2.length:Nat):Int)-(1:Int)))<(bE.2.2.length:Nat) then
  if (0+(U (((bE.2.2.length:Nat):Int)-(1:Int))).toNat)<bE.2.2.length then
  some (bE.2.2.set (0+(U (((bE.2.2.length:Nat):Int)-(1:Int))).toNat) 4,aW.2.1,aW.2.2)
  else none
  else none
 else
  some (bE.2.2,aW.2.1,aW.2.2)
 else none
theorem NQ {aO:ck}{bY:List Int}{cg eN:Int}:b1 (x7 aO bY cg eN) (fun a=>Con bt 30 [.ref 0 0 0 0,.agg (gM aO)] [[ab.mk 3 [[.isl 1 (bY.map eU8),.n .i64 cg,.n .i64 eN]] .live]] (.isl 1 (a.1.map I)) [[ab.mk 3 [[.isl 1 (bY.map eU8),.n .i64 a.2.1,.n .i64 a.2.2]] .live]]):=by
 unfold x7
 exact .bq fun o =>
  .aw fun bE ak =>
  .aw fun aW aI =>
  (let b7:=(U ((2:Int)*(len_ dz aO.cE)));let cC:=(List.replicate b7.toNat 0:List Int);let t1:List cK:=[(ad 2),(ad 6),(ad 4),.bp [0,7] [.box [.id,.id,.id],.d3 (av 1 I cC)] [(0,ii),(5,gQ (cC.length)),(14,ii),(15,ii),(16,ii)],(HC aO.cE (len_ dz aO.cE) bY bE).gp,.aG (ae 1 (ah (.call {aM:=[.row 0],cr:=[.box [.id,.id,.id]],ac:=[ii,ii],r:= .b aW.1,dj:=[[ab.mk 3 [[.isl 1 (bY.map eU8),.n .i64 aW.2.1,.n .i64 aW.2.2]] .live]],eh:=ii,e1:=[.box [.id,.id,.id]],dv:=[0],dq:=false}) []))];
  have a4:=((.bj o.1 (Int.le_refl b7) o.2.1 o.2.2 (eX 1 .live (kS I b7.toNat 0)) (aF 1 .live aD cC) (k5 b7.toNat (0:Int)) (Vx ak) (.az (Dq aW aI))):c1 _);
  .ite (fun bu =>
  .bq fun bx =>
  .bq fun bn =>
  .ret (let aR:=(U (((bE.2.2.length:Nat):Int)-(1:Int)));let bb:=gN (ft bE.2.2) (0+aR.toNat) 4;hE (t1.append [.aj true,.aG (ae 5 (ah .cU [])),(ad 2)]) [0] [.box [.id,.id,.id]] (a4.aZ (.hB bu bx.1 bx.2 (hk I bn) (gL 1) (lO (fP (dV I bE.2.2) (0+aR.toNat) 4) bb) (nO (fP (dV I bE.2.2) (0+aR.toNat) 4) bb) (e9 aD (bE.2.2.set (0+aR.toNat) 4)))) (.bN (.cj (.gn ((bE.2.2.set (0+aR.toNat) 4).map I))))))
  (fun bu =>
  .ret (hE (t1.append [.aj false,(ad 2)]) [0] [.box [.id,.id,.id]] (a4.aZ (.dn bu (kp I bE.2.2) (jA I bE.2.2) (e9 aD bE.2.2))) (.bN (.cj (.gn (bE.2.2.map I)))))))
def Ja (bY:List Int)(cg eN:Int):Option ((List br)×(List bP)×(List Int)×Int×Int) :=
 Ah bY cg eN >>= fun aq =>
 x7 (⟨aq.1,aq.2.1⟩:ck) bY aq.2.2.1 aq.2.2.2 >>= fun a9 =>
 some (aq.1,aq.2.1,a9.1,a9.2.1,a9.2.2)
theorem V7 {bY:List Int}{cg eN:Int}:b1 (Ja bY cg eN) (fun a=>Con bt 22 [.ref 0 0 0 0] [[ab.mk 3 [[.isl 1 (bY.map eU8),.n .i64 cg,.n .i64 eN]] .live]] (.df [.agg [.isl 4 (a.1.map dz),.isl 3 (a.2.1.map dm)],.isl 1 (a.2.2.1.map I)]) [[ab.mk 3 [[.isl 1 (bY.map eU8),.n .i64 a.2.2.2.1,.n .i64 a.2.2.2.2]] .live]]):=by
 unfold Ja
 exact .aw fun aq J =>
  .aw fun a9 ay =>
  .ret (hE [(ad 2),.aG (bQ 1 (.call {aM:=[.row 0],cr:=[.box [.id,.id,.id]],ac:=[ii],r:= .agg [.isl 4 (aq.1.map dz),.isl 3 (aq.2.1.map dm)],dj:=[[ab.mk 3 [[.isl 1 (bY.map eU8),.n .i64 aq.2.2.1,.n .i64 aq.2.2.2]] .live]],eh:=ii,e1:=[.box [.id,.id,.id]],dv:=[0],dq:=false}) 2),.aG (bQ 3 (.call {aM:=[.row 0],cr:=[.box [.id,.id,.id]],ac:=[ii,ii],r:= .isl 1 (a9.1.map I),dj:=[[ab.mk 3 [[.isl 1 (bY.map eU8),.n .i64 a9.2.1,.n .i64 a9.2.2]] .live]],eh:=ii,e1:=[.box [.id,.id,.id]],dv:=[0],dq:=false}) 2)] [0] [.box [.id,.id,.id]] (.aH (V6 aq J) (NQ a9 ay)))
def DP (fG:List Int):Option (ck×(List Int)) :=
 Ai fG >>= fun aq =>
 Ja fG 0 aq >>= fun a9 =>
 some ((⟨a9.1,a9.2.1⟩:ck),a9.2.2.1)
theorem Wg {fG:List Int}:b1 (DP fG) (fun r=>Con bt 4 [.isl 1 (fG.map eU8)] [] (.df [.agg (gM r.1),.isl 1 (r.2.map I)]) []):=by
 unfold DP
 exact .aw fun aq J =>
  .aw fun a9 ay =>
  .ret (bW [(ad 2),.aG (ae 1 (ah (.call {aM:=[],cr:=[],ac:=[ii],r:= .ref 0 0 0 0,dj:=[[ab.mk 3 [[.isl 1 (fG.map eU8),.n .i64 (0:Int),.n .i64 aq]] .live]],eh:=ii,e1:=[.box [.id,.id,.id]],dv:=[],dq:=false}) (ah (.call {aM:=[.row 3],cr:=[.box [.id,.id,.id]],ac:=[ii],r:= .df [.agg [.isl 4 (a9.1.map dz),.isl 3 (a9.2.1.map dm)],.isl 1 (a9.2.2.1.map I)],dj:=[[ab.mk 3 [[.isl 1 (fG.map eU8),.n .i64 a9.2.2.2.1,.n .i64 a9.2.2.2.2]] .live]],eh:=ii,e1:=[.box [.id,.id,.id]],dv:=[3],dq:=false}) (ae 4 []))))] (.aH (NW aq J) (V7 a9 ay)))
def DQ (hR:Int):Option Bool :=
 if (decide ((97:Int)≤hR))=true then
  some (decide (hR≤(122:Int)))
 else
  some false
theorem Wh {hR:Int}:b1 (DQ hR) (fun r=>Con bt 86 [.n .u8 hR] [] (.b r) []):=by
 unfold DQ
 exact .ite (fun o =>
  .ret (bW [(ad 1),.aG (bQ 5 (.aj true) 1)] (.b2 o o o)))
  (fun o =>
  .ret (bW [(ad 1),.aG (ae 3 (cm 2 (ah (.aj false) (ae 1 []))))] (.b2 o o o)))
def Js (hR:Int):Option Bool :=
 if (decide ((48:Int)≤hR))=true then
  some (decide (hR≤(57:Int)))
 else
  some false
theorem Wp {hR:Int}:b1 (Js hR) (fun r=>Con bt 87 [.n .u8 hR] [] (.b r) []):=by
 unfold Js
 exact .ite (fun o =>
  .ret (bW [(ad 1),.aG (bQ 5 (.aj true) 1)] (.b2 o o o)))
  (fun o =>
  .ret (bW [(ad 1),.aG (ae 3 (cm 2 (ah (.aj false) (ae 1 []))))] (.b2 o o o)))
def H7 (aO:ByteArray)(ps:Int):Int→S:=fun lW=>eV [(0,.s aO),(5,.n .i64 ps),(6,.n .i64 lW)] []
def NL (aO:ByteArray)(ps:Int):((Unit)⊕(Unit))→e3
 | .inl a=>⟨some 0,[(0,.s aO)],[]⟩
 | .inr a=>⟨none,[(2,.b false)],[]⟩
def xN (aO:ByteArray)(ps lW:Int):Option ((Int)⊕((Unit)⊕(Unit))) :=
 if (decide (lW<ps))=true then
  if 0≤lW∧lW<(aO.size:Nat) then
  DQ ((aO.data.toList.getD lW.toNat 0).toNat:Int) >>= fun a9 =>
  if a9=true then
   some (.inl (U (lW+(1:Int))))
  else
   if (lW == (0:Int))=true then
    some (.inr (.inr ()))
   else
    Js ((aO.data.toList.getD lW.toNat 0).toNat:Int) >>= fun bI =>
    if bI=true then
     some (.inl (U (lW+(1:Int))))
    else
     some (.inr (.inr ()))
  else none
 else
  some (.inr (.inl ()))
def Jb (aO:ByteArray)(ps lW:Int):Option ((Unit)⊕(Unit)):=iter (fun w:Int=>xN aO ps w) lW
theorem Vk {aO:ByteArray}{ps lW:Int}:b1 (xN aO ps lW) (fA bt 33 0 58 [1,0,1,0,0] (H7 aO ps lW) (H7 aO ps) (NL aO ps)):=by
 unfold xN
 exact .ite (fun o =>
  .bq fun J =>
  .aw fun a9 ay =>
  (let t1:List cK:=[(ad 1),.aj true,(ad 2)];
  have a4:=((.ej o J.1 J.2 (Wh a9 ay) (cz.b a9)):c1 _);
  .ite (fun aI =>
  .ret (bT (t1.append [.aG (ae 3 (ah (bD 1 (.b a9) true) (ae 2 (cm 3 (ae 5 (cm 1 (ah (.aj false) []))))))),.aj false,(ad 2),.bp [] [] (bO [0,5,6])]) (a4.aZ (.fq (dQ aI) (dQ aI) (dQ aI) (dQ aI) (dQ aI) ez))))
  (fun aI =>
  (have fW:=a4.aZ (.b2 (dR aI) (dR aI) (dR aI));
  .ite (fun bu =>
  .ret (bT (t1.append [.aG (ae 3 (ah (bD 1 (.b a9) true) (ae 5 (cm 5 (ah (.aj true) (ah (.aj true) [])))))),.aj true,(ad 1),.bp [] [] (bO [2])]) (fW.aZ (.bj bu bu bu bu bu (dR aI) bu (dR aI) (.az bl)))))
  (fun bu =>
  .aw fun bI bn =>
  (let t4:List cK:=t1.append [.aG (ae 3 (ah (bD 1 (.b a9) true) (ae 8 (ah (bD 1 (.b bI) true) (ae 1 (ah (.aj false) (ah (.aj true) [])))))))];
  have lM:=fW.aZ (.bj bu bu bu J.1 J.2 bu (Wp bI bn) (cz.b bI) (.dn bu (dR aI) bu (dR aI)));
  .ite (fun cd =>
  .ret (bT (t4.append [.aj false,(ad 2),.bp [] [] (bO [0,5,6])]) (lM.aZ (.az (dQ cd)))))
  (fun cd =>
  .ret (bT (t4.append [.aj true,(ad 1),.bp [] [] (bO [2])]) (lM.aZ (.az (dR cd)))))))))))
  (fun o =>
  .ret (bT [(ad 1),.aj false,.bp [] [] (bO [0])] (.az o)))
theorem IE {aO:ByteArray}{ps lW:Int}{r} (h:Jb aO ps lW=some r):fB bt 33 0 58 [1,0,1,0,0] (H7 aO ps) (NL aO ps) lW r:=fD (fun _=>Vk) h
def vi (aO:ByteArray):Option Bool :=
 Jb aO (aO.size:Int) 0 >>= fun aq =>
 match aq with
 | .inl bK=>(if (!(aO.toList == (⟨#[]⟩:ByteArray).toList))=true then
  some (decide ((aO.size:Int)≤(8:Int)))
  else
   some false)
 | .inr bK=>(some false)
theorem WD {aO:ByteArray}:b1 (vi aO) (fun r=>Con bt 58 [.s aO] [] (.b r) []):=by
 unfold vi
 exact .aw fun aq J =>
  (let t1:List cK:=[(ad 1),(ad 3),.bp [] [] (bO [0,5,6])];
  (by
  rcases aq with bK|bK
  ·exact ((let t2:List cK:=t1.append [.sub (.exit 0) [(0,.s aO)] []];
  .ite (fun ay =>
  .ret (bW (t2.append [.aG (bQ 6 (.aj true) 1)]) (.ej (IE J) ay ay ay ay)))
  (fun ay =>
  .ret (bW (t2.append [.aG (ae 3 (cm 3 (ah (.aj false) (ae 1 []))))]) (.ej (IE J) ay ay ay ay)))))
  ·exact (.ret (bW (t1.append [.sub (.ret) [(2,.b false)] []]) (.az (IE J))))))
def yd (aS:Int):Option Bool :=
 if (decide ((-50:Int)≤aS))=true then
  some (decide (aS≤(50:Int)))
 else
  some false
theorem N5 {aS:Int}:b1 (yd aS) (fun r=>Con bt 59 [.n .i64 aS] [] (.b r) []):=by
 unfold yd
 exact .ite (fun o =>
  .ret (bW [(ad 1),.aG (bQ 5 (.aj true) 1)] (.b2 o o o)))
  (fun o =>
  .ret (bW [(ad 1),.aG (ae 3 (cm 2 (ah (.aj false) (ae 1 []))))] (.b2 o o o)))
def An (eg:br):Option Bool :=
 vi eg.pL >>= fun aq =>
 if aq=true then
  yd eg.mO >>= fun aW =>
  if aW=true then
   yd eg.mP >>= fun bI =>
   some bI
  else
   some false
 else
  some false
theorem Wq {eg:br}:b1 (An eg) (fun r=>Con bt 25 [.agg (dz eg)] [] (.b r) []):=by
 unfold An
 exact .aw fun aq J =>
  (have cb:=((.aH (WD aq J) (cz.b aq)):c1 _);
  .ite (fun ak =>
  .aw fun aW aI =>
  (have a4:=cb.aZ (.fq ak ak ak (N5 aW aI) (cz.b aW) ak);
  .ite (fun bu =>
  .aw fun bI bn =>
  .ret (bW [(ad 2),.aG (ae 2 (ah (bD 1 (.b aq) true) (ae 3 (ah (bD 1 (.b aW) true) (ah (.aj true) (ae 3 (ah (bD 1 (.b bI) true) (ah (.aj true) (ae 1 [])))))))))] (a4.aZ (.fq bu bu bu (N5 bI bn) (cz.b bI) bu))))
  (fun bu =>
  .ret (bW [(ad 2),.aG (ae 2 (ah (bD 1 (.b aq) true) (ae 3 (ah (bD 1 (.b aW) true) (ah (.aj true) (ae 1 (cm 3 (ah (.aj false) (ae 1 [])))))))))] (a4.aZ (.dn bu bu bu bu))))))
  (fun ak =>
  .ret (bW [(ad 2),.aG (ae 2 (ah (bD 1 (.b aq) true) (ae 1 (cm 3 (ah (.aj false) (ae 1 (cm 3 (ae 2 []))))))))] (cb.aZ (.fr ak ak ak ak ez ez ez)))))
def Ds (eg:br)(cj:ByteArray):Option Bool :=
 some (eg.pL.toList == cj.toList)
theorem Vy {eg:br}{cj:ByteArray}:b1 (Ds eg cj) (fun r=>Con bt 61 [.agg (dz eg),.eE 1 [[.s cj]] 0 0] [] (.b r) []):=by
 unfold Ds
 exact .ret (bW [(ad 2),(ad 5)] .nil)
def Gq (aO:List br)(jI:ByteArray)(eC:Int):Int→S:=fun eP=>eV [(0,.isl 4 (aO.map dz)),(1,.fn 61 [.eE 1 [[.s jI]] 0 0]),(7,.n .i64 eC),(8,.n .i64 eP)] []
def M8 (aO:List br)(jI:ByteArray)(eC:Int):((Unit)⊕(Int))→e3
 | .inl a=>⟨some 0,[],[]⟩
 | .inr a=>⟨none,[(4,.n .i64 a)],[]⟩
def zT (aO:List br)(jI:ByteArray)(eC eP:Int):Option ((Int)⊕((Unit)⊕(Int))) :=
 if (decide (eP<eC))=true then
  if 0≤eP∧eP<aO.length then
  aO[eP.toNat]? >>= fun aQ =>
  Ds aQ jI >>= fun ba =>
  if ba=true then
   some (.inr (.inr eP))
  else
   some (.inl (U (eP+(1:Int))))
  else none
 else
  some (.inr (.inl ()))
def GI (aO:List br)(jI:ByteArray)(eC eP:Int):Option ((Unit)⊕(Int)):=iter (fun w:Int=>zT aO jI eC w) eP
theorem TU {aO:List br}{jI:ByteArray}{eC eP:Int}:b1 (zT aO jI eC eP) (fA bt 19 0 60 [1,0,1,0,0] (Gq aO jI eC eP) (Gq aO jI eC) (M8 aO jI eC)):=by
 unfold zT
 exact .ite (fun o =>
  .bq fun J =>
  .aw fun aQ ay =>
  .aw fun ba bu =>
  (let t1:List cK:=[(ad 1),.aj true,(ad 2),.aG (ae 4 (ah (.cA (dz aQ)) (ah (bD 2 (.b ba) true) [])))];
  have a4:=((.fq o J.1 (d9 dz J.2) (cD dz ay) (Vy ba bu) (cz.b ba)):c1 _);
  .ite (fun bx =>
  .ret (bT (t1.append [.aj true,(ad 2),.bp [] [] (bO [4])]) (a4.aZ (.az bx))))
  (fun bx =>
  .ret (bT (t1.append [.aj false,(ad 2),.bp [] [] [(0,ii),(1,.comp [.cj .id]),(7,ii),(8,ii)]]) (a4.aZ (.az bx))))))
  (fun o =>
  .ret (bT [(ad 1),.aj false,.bp [] [] []] (.az o)))
theorem Na {aO:List br}{jI:ByteArray}{eC eP:Int}{r} (h:GI aO jI eC eP=some r):fB bt 19 0 60 [1,0,1,0,0] (Gq aO jI eC) (M8 aO jI eC) eP r:=fD (fun _=>TU) h
def C0 (aO:List br)(o8:ByteArray):Option Int :=
 GI aO o8 (len_ dz aO) 0 >>= fun aq =>
 match aq with
 | .inl bK=>(some (-1))
 | .inr bK=>(some bK)
theorem Uh {aO:List br}{o8:ByteArray}:b1 (C0 aO o8) (fun r=>Con bt 60 [.isl 4 (aO.map dz),.fn 61 [.eE 1 [[.s o8]] 0 0]] [] (.n .i64 r) []):=by
 unfold C0
 exact .aw fun aq J =>
  (let t1:List cK:=[(ad 1),(ad 3),.bp [] [] [(0,ii),(1,.comp [.cj .id]),(7,ii),(8,ii)]];
  (by
  rcases aq with bK|bK
  ·exact (.ret (bW (t1.append [.sub (.exit 0) [] [],(ad 1)]) (.az (Na J))))
  ·exact (.ret (bW (t1.append [.sub (.ret) [(4,.n .i64 bK)] []]) (.az (Na J))))))
def Ae (aO:ck)(yX:ByteArray):Option Int :=
 C0 aO.cE yX >>= fun aq =>
 some aq
theorem VN {aO:ck}{yX:ByteArray}:b1 (Ae aO yX) (fun r=>Con bt 26 [.agg (gM aO),.s yX] [] (.n .i64 r) []):=by
 unfold Ae
 exact .aw fun aq J =>
  .ret (bW [(ad 3),.aG (bQ 3 (.call {ac:=[ii,.comp [.ptr [.id]]],r:= .n .i64 aq,dq:=true,dv:=[1]}) 1)] (.b2 (kQ (QL yX):hl [[.s yX]]) (Uh aq J) (cz.n .i64 aq)))
def zY (aO:ck)(fv:bP):Option Bool :=
 if (decide (fv.fX<(0:Int)))=true then
  some false
 else
  if (decide ((len_ dz aO.cE)≤fv.fX))=true then
   some false
  else
   if (decide (fv.fY<(0:Int)))=true then
    some false
   else
    if (decide ((len_ dz aO.cE)≤fv.fY))=true then
     some false
    else
     if (decide (fv.jS<(1:Int)))=true then
      some false
     else
      if (decide ((3:Int)<fv.jS))=true then
       some false
      else
       if 0≤fv.fX∧fv.fX<aO.cE.length then
       aO.cE[fv.fX.toNat]? >>= fun iH =>
       if 0≤fv.fY∧fv.fY<aO.cE.length then
       aO.cE[fv.fY.toNat]? >>= fun n6 =>
       if (iH.mO != n6.mO)=true then
        if iH.ox=true then
         some (!n6.ox)
        else
         some true
       else
        if (iH.mP != n6.mP)=true then
         if iH.ox=true then
          some (!n6.ox)
         else
          some true
        else
         some false
       else none
       else none
theorem UE {aO:ck}{fv:bP}:b1 (zY aO fv) (fun r=>Con bt 29 [.eE 2 [(gM aO)] 0 0,.agg (dm fv)] [] (.b r) []):=by
 unfold zY
 exact .ite (fun o =>
  .ret (bW [(ad 2),(ad 6),.aG (ae 4 (cm 4 (ah (.aj true) (ae 1 (cm 3 (ae 2 (cm 4 (ae 2 (cm 3 (ae 2 (cm 3 (ae 1 [])))))))))))),.aj true,(ad 1)] (.bj o o o o o bl bl bl (.bj bl bl bl bl bl bl bl bl (.b2 bl bl bl)))))
  (fun o =>
  .ite (fun J =>
  .ret (bW [(ad 2),(ad 6),.aG (ae 8 (ah (.aj false) (ae 1 (cm 3 (ah (.aj true) (ae 1 (cm 4 (ae 2 (cm 3 (ae 2 (cm 3 (ae 1 [])))))))))))),.aj true,(ad 1)] (.bj o o o o o J J J (.bj J bl bl bl bl bl bl bl (.dn bl bl bl bl)))))
  (fun J =>
  (have cb:=((.bj o o o o o J J J (.az J)):c1 _);
  .ite (fun ak =>
  .ret (bW [(ad 2),(ad 6),.aG (ae 8 (ah (.aj false) (ae 4 (ah (.aj false) (ae 1 (cm 4 (ah (.aj true) (ae 1 (cm 3 (ae 2 (cm 3 (ae 1 [])))))))))))),.aj true,(ad 1)] (cb.aZ (.bj ak ak ak ak ak bl bl bl (.dn bl bl bl bl)))))
  (fun ak =>
  .ite (fun ay =>
  .ret (bW [(ad 2),(ad 6),.aG (ae 8 (ah (.aj false) (ae 4 (ah (.aj false) (ae 5 (ah (.aj false) (ae 1 (cm 3 (ah (.aj true) (ae 1 (cm 3 (ae 1 [])))))))))))),.aj true,(ad 1)] (cb.aZ (.bj ak ak ak ak ak ay ay ay (.ej ay bl bl bl bl)))))
  (fun ay =>
  (have a4:=cb.aZ (.bj ak ak ak ak ak ay ay ay (.az ay));
  .ite (fun aI =>
  .ret (bW [(ad 2),(ad 6),.aG (ae 8 (ah (.aj false) (ae 4 (ah (.aj false) (ae 5 (ah (.aj false) (ae 4 (ah (.aj false) (ae 1 (cm 3 (ah (.aj true) []))))))))))),.aj true,(ad 1)] (a4.aZ (.ej aI aI aI aI bl))))
  (fun aI =>
  (let t3:List cK:=[(ad 2),(ad 6),.aG (ae 8 (ah (.aj false) (ae 4 (ah (.aj false) (ae 5 (ah (.aj false) (ae 4 (ah (.aj false) (ae 4 (ah (.aj false) []))))))))))];
  .ite (fun bu =>
  .ret (bW (t3.append [.aj true,(ad 1)]) (a4.aZ (.ej aI aI aI aI bu))))
  (fun bu =>
  .bq fun bx =>
  .aw fun iH cd =>
  .bq fun cV =>
  .aw fun n6 dg =>
  (let t4:List cK:=t3.append [.aj false,.aG (ae 7 (ah (.cA (dz iH)) (bQ 7 (.cA (dz n6)) 4)))];
  have lM:=a4.aZ (.bj aI aI aI aI bu bx.1 (d9 dz bx.2) (cD dz cd) (.b2 cV.1 (d9 dz cV.2) (cD dz dg)));
  .ite (fun ec =>
  (have od:=lM.aZ (.bj ec ec ec ec ec ec bl bl (.az bl));
  .ite (fun eL =>
  .ret (bW (t4.append [.aG (ae 6 (cm 5 (ah (.aj true) (bQ 6 (.aj true) 3))))]) (od.aZ (.ej eL eL bl eL bl))))
  (fun eL =>
  .ret (bW (t4.append [.aG (ae 6 (cm 5 (ah (.aj true) (ae 4 (cm 2 (ah (.aj false) (ae 3 [])))))))]) (od.aZ (.ej eL eL bl eL bl))))))
  (fun ec =>
  .ite (fun eL =>
  (have od:=lM.aZ (.bj ec ec ec ec ec ec eL eL (.az eL));
  .ite (fun gm =>
  .ret (bW (t4.append [.aG (ae 11 (ah (.aj false) (ae 6 (ah (.aj true) (bQ 1 (.aj true) 1)))))]) (od.aZ (.fq gm gm eL gm eL eL))))
  (fun gm =>
  .ret (bW (t4.append [.aG (ae 11 (ah (.aj false) (ae 4 (cm 2 (ah (.aj false) (bQ 1 (.aj true) 1))))))]) (od.aZ (.fq gm gm eL gm eL eL))))))
  (fun eL =>
  .ret (bW (t4.append [.aG (ae 11 (ah (.aj false) (ae 1 (cm 3 (ae 2 (cm 2 (ah (.aj false) (ae 1 []))))))))]) (lM.aZ (.bj ec ec ec ec ec ec eL eL (.dn eL eL eL eL))))))))))))))))
def Dm (fv:bP)(cj:ck):Option Bool :=
 zY cj fv >>= fun aq =>
 some (!aq)
theorem Vs {fv:bP}{cj:ck}:b1 (Dm fv cj) (fun r=>Con bt 28 [.agg (dm fv),.eE 2 [(gM cj)] 0 0] [] (.b r) []):=by
 unfold Dm
 exact .aw fun aq J =>
  .ret (bW [(ad 2),.aG (bQ 1 (bD 2 (.b aq) true) 2)] (.aH (UE aq J) (cz.b aq)))
def Gp (aO:List bP)(jI:List br)(o9:List bP)(eC:Int):Int→S:=fun eP=>eV [(0,.isl 3 (aO.map dm)),(1,.fn 28 [.eE 2 [[.isl 4 (jI.map dz),.isl 3 (o9.map dm)]] 0 0]),(7,.n .i64 eC),(8,.n .i64 eP)] []
def M7 (aO:List bP)(jI:List br)(o9:List bP)(eC:Int):((Unit)⊕(Int))→e3
 | .inl a=>⟨some 0,[],[]⟩
 | .inr a=>⟨none,[(4,.n .i64 a)],[]⟩
def w0 (aO:List bP)(jI:List br)(o9:List bP)(eC eP:Int):Option ((Int)⊕((Unit)⊕(Int))) :=
 if (decide (eP<eC))=true then
  if 0≤eP∧eP<aO.length then
  aO[eP.toNat]? >>= fun aQ =>
  Dm aQ (⟨jI,o9⟩:ck) >>= fun ba =>
  if ba=true then
   some (.inr (.inr eP))
  else
   some (.inl (U (eP+(1:Int))))
  else none
 else
  some (.inr (.inl ()))
def GF (aO:List bP)(jI:List br)(o9:List bP)(eC eP:Int):Option ((Unit)⊕(Int)):=iter (fun w:Int=>w0 aO jI o9 eC w) eP
theorem TT {aO:List bP}{jI:List br}{o9:List bP}{eC eP:Int}:b1 (w0 aO jI o9 eC eP) (fA bt 19 0 62 [1,0,1,0,0] (Gp aO jI o9 eC eP) (Gp aO jI o9 eC) (M7 aO jI o9 eC)):=by
 unfold w0
 exact .ite (fun o =>
  .bq fun J =>
  .aw fun aQ ay =>
  .aw fun ba bu =>
  (let t1:List cK:=[(ad 1),.aj true,(ad 2),.aG (ae 4 (ah (.cA (dm aQ)) (ah (bD 2 (.b ba) true) [])))];
  have a4:=((.fq o J.1 (d9 dm J.2) (cD dm ay) (Vs ba bu) (cz.b ba)):c1 _);
  .ite (fun bx =>
  .ret (bT (t1.append [.aj true,(ad 2),.bp [] [] (bO [4])]) (a4.aZ (.az bx))))
  (fun bx =>
  .ret (bT (t1.append [.aj false,(ad 2),.bp [] [] [(0,ii),(1,.comp [.cj .id]),(7,ii),(8,ii)]]) (a4.aZ (.az bx))))))
  (fun o =>
  .ret (bT [(ad 1),.aj false,.bp [] [] []] (.az o)))
theorem M9 {aO:List bP}{jI:List br}{o9:List bP}{eC eP:Int}{r} (h:GF aO jI o9 eC eP=some r):fB bt 19 0 62 [1,0,1,0,0] (Gp aO jI o9 eC) (M7 aO jI o9 eC) eP r:=fD (fun _=>TT) h
def CW (aO:List bP)(o8:ck):Option Int :=
 GF aO o8.cE o8.b5 (len_ dm aO) 0 >>= fun aq =>
 match aq with
 | .inl bK=>(some (-1))
 | .inr bK=>(some bK)
theorem Ue {aO:List bP}{o8:ck}:b1 (CW aO o8) (fun r=>Con bt 62 [.isl 3 (aO.map dm),.fn 28 [.eE 2 [(gM o8)] 0 0]] [] (.n .i64 r) []):=by
 unfold CW
 exact .aw fun aq J =>
  (let t1:List cK:=[(ad 1),(ad 3),.bp [] [] [(0,ii),(1,.comp [.cj .id]),(7,ii),(8,ii)]];
  (by
  rcases aq with bK|bK
  ·exact (.ret (bW (t1.append [.sub (.exit 0) [] [],(ad 1)]) (.az (M9 J))))
  ·exact (.ret (bW (t1.append [.sub (.ret) [(4,.n .i64 bK)] []]) (.az (M9 J))))))
def zU (aO:List bP)(o8:ck):Option Bool :=
 CW aO o8 >>= fun aq =>
 some (decide ((0:Int)≤aq))
theorem T3 {aO:List bP}{o8:ck}:b1 (zU aO o8) (fun r=>Con bt 27 [.isl 3 (aO.map dm),.fn 28 [.eE 2 [(gM o8)] 0 0]] [] (.b r) []):=by
 unfold zU
 exact .aw fun aq J =>
  .ret (bW [(ad 1),.aG (bQ 2 (bD 2 (.n .i64 aq) true) 2)] (.aH (Ue aq J) (cz.n .i64 aq)))
def Hl (fU:List br)(jJ:Int)(aE:List bP):Int→S:=fun gw=>eV [(1,.ref 0 0 0 0),(16,.isl 4 (fU.map dz)),(17,.n .i64 jJ),(18,.n .i64 gw)] [[ab.mk 2 [[.isl 4 (fU.map dz),.isl 3 (aE.map dm)]] .live]]
def Hm (fU:List br)(jJ:Int)(aE:List bP):((Unit)⊕(Unit))→e3
 | .inl a=>⟨some 0,[(1,.ref 0 0 0 0)],[[ab.mk 2 [[.isl 4 (fU.map dz),.isl 3 (aE.map dm)]] .live]]⟩
 | .inr a=>⟨none,[(2,.b false)],[]⟩
def xr (fU:List br)(jJ:Int)(aE:List bP)(gw:Int):Option ((Int)⊕((Unit)⊕(Unit))) :=
 if (decide (gw<jJ))=true then
  if 0≤gw∧gw<fU.length then
  fU[gw.toNat]? >>= fun aQ =>
  An aQ >>= fun ba =>
  if ba=true then
   Ae (⟨fU,aE⟩:ck) aQ.pL >>= fun dW =>
   if (dW != gw)=true then
    some (.inr (.inr ()))
   else
    some (.inl (U (gw+(1:Int))))
  else
   some (.inr (.inr ()))
  else none
 else
  some (.inr (.inl ()))
def Dg (fU:List br)(jJ:Int)(aE:List bP)(gw:Int):Option ((Unit)⊕(Unit)):=iter (fun w:Int=>xr fU jJ aE w) gw
theorem UB {fU:List br}{jJ:Int}{aE:List bP}{gw:Int}:b1 (xr fU jJ aE gw) (fA bt 40 0 6 [1,1,0,1,0,0] (Hl fU jJ aE gw) (Hl fU jJ aE) (Hm fU jJ aE)):=by
 unfold xr
 exact .ite (fun o =>
  .bq fun J =>
  .aw fun aQ ay =>
  .aw fun ba bu =>
  (let t1:List cK:=[(ad 1),.aj true,.aG (bQ 2 (.cA (dz aQ)) 3)];
  have a4:=((.fq o J.1 (d9 dz J.2) (cD dz ay) (Wq ba bu) (cz.b ba)):c1 _);
  .ite (fun bx =>
  .aw fun dW cd =>
  (let t3:List cK:=t1.append [.aG (ae 1 (ah (bD 1 (.b ba) true) (ae 5 (ah (bD 2 (.n .i64 dW) true) (ae 2 (ah (.aj false) []))))))];
  have fK:=a4.aZ (.bj (dQ bx) (dQ bx) (dQ bx) (dQ bx) (VN dW cd) (cz.n .i64 dW) (dQ bx) (dQ bx) (.az (dQ bx)));
  .ite (fun cV =>
  .ret (bT (t3.append [.aj true,(ad 1),.bp [] [] (bO [2])]) (fK.aZ (.az cV))))
  (fun cV =>
  .ret (bT (t3.append [.aj false,(ad 2),.bp [0] [.box [.id,.id]] (bO [1,16,17,18])]) (fK.aZ (.az cV))))))
  (fun bx =>
  .ret (bT (t1.append [.aG (ae 1 (ah (bD 1 (.b ba) true) (ae 2 (cm 6 (ah (.aj true) []))))),.aj true,(ad 1),.bp [] [] (bO [2])]) (a4.aZ (.hB (dR bx) (dR bx) (dR bx) (dR bx) (dR bx) (dR bx) (dR bx) bl))))))
  (fun o =>
  .ret (bT [(ad 1),.aj false,.bp [0] [.box [.id,.id]] (bO [1])] (.az o)))
theorem Nw {fU:List br}{jJ:Int}{aE:List bP}{gw:Int}{r} (h:Dg fU jJ aE gw=some r):fB bt 40 0 6 [1,1,0,1,0,0] (Hl fU jJ aE) (Hm fU jJ aE) gw r:=fD (fun _=>UB) h
def qH (aO:ck):Option Bool :=
 if (decide ((6:Int)<(len_ dz aO.cE)))=true then
  some false
 else
  if (decide ((8:Int)<(len_ dm aO.b5)))=true then
   some false
  else
   Dg aO.cE (len_ dz aO.cE) aO.b5 0 >>= fun a9 =>
   match a9 with
   | .inl nK=>(zU aO.b5 aO >>= fun a5 =>
    some (!a5))
   | .inr nK=>(some false)
theorem z5 {aO:ck}:b1 (qH aO) (fun r=>Con bt 6 [.agg (gM aO)] [] (.b r) []):=by
 unfold qH
 exact .ite (fun o =>
  .ret (bW [(ad 2),.aG (ae 5 (cm 4 (ah (.aj true) []))),.aj true,(ad 1)] (.fq o o o o o bl)))
  (fun o =>
  (let t1:List cK:=[(ad 2),.aG (ae 9 (ah (.aj false) []))];
  .ite (fun J =>
  .ret (bW (t1.append [.aj true,(ad 1)]) (.fq o o o o o J)))
  (fun J =>
  .aw fun a9 ay =>
  (let t2:List cK:=t1.append [.aj false,(ad 4),.bp [0] [.box [.id,.id]] (bO [1,16,17,18])];
  (by
  rcases a9 with nK|nK
  ·exact (.aw fun a5 bx =>
  .ret (bW (t2.append [(Hm aO.cE (len_ dz aO.cE) aO.b5 (.inl nK)).gp,.aG (bQ 3 (.call {ac:=[ii,.comp [.ptr [.id,.id]]],r:= .b a5,dq:=true,dv:=[0]}) 2)]) (.bj o o o o o J (Nw ay) (kQ (o2 aO):hl [(gM aO)]) (.aH (T3 a5 bx) (cz.b a5)))))
  ·exact (.ret (bW (t2.append [.sub (.ret) [(2,.b false)] []]) (.fr o o o o o J (Nw ay)))))))))
def Ao (aS:Int):Option Bool :=
 if (decide ((-100:Int)≤aS))=true then
  some (decide (aS≤(100:Int)))
 else
  some false
theorem Wr {aS:Int}:b1 (Ao aS) (fun r=>Con bt 57 [.n .i64 aS] [] (.b r) []):=by
 unfold Ao
 exact .ite (fun o =>
  .ret (bW [(ad 1),.aG (bQ 5 (.aj true) 1)] (.b2 o o o)))
  (fun o =>
  .ret (bW [(ad 1),.aG (ae 3 (cm 2 (ah (.aj false) (ae 1 []))))] (.b2 o o o)))
def Dy (aS:Int):Option Bool :=
 Ao aS >>= fun aq =>
 some (!aq)
theorem VO {aS:Int}:b1 (Dy aS) (fun r=>Con bt 56 [.n .i64 aS] [] (.b r) []):=by
 unfold Dy
 exact .aw fun aq J =>
  .ret (bW [(ad 1),.aG (bQ 1 (bD 1 (.b aq) true) 2)] (.aH (Wr aq J) (cz.b aq)))
def Gz (aO:List Int)(eC:Int):Int→S:=fun eP=>eV [(0,.isl 1 (aO.map I)),(1,.fn 56 []),(7,.n .i64 eC),(8,.n .i64 eP)] []
def Nb (aO:List Int)(eC:Int):((Unit)⊕(Int))→e3
 | .inl a=>⟨some 0,[],[]⟩
 | .inr a=>⟨none,[(4,.n .i64 a)],[]⟩
def w6 (aO:List Int)(eC eP:Int):Option ((Int)⊕((Unit)⊕(Int))) :=
 if (decide (eP<eC))=true then
  if 0≤eP∧eP<aO.length then
  aO[eP.toNat]? >>= fun aQ =>
  Dy aQ >>= fun ba =>
  if ba=true then
   some (.inr (.inr eP))
  else
   some (.inl (U (eP+(1:Int))))
  else none
 else
  some (.inr (.inl ()))
def GQ (aO:List Int)(eC eP:Int):Option ((Unit)⊕(Int)):=iter (fun w:Int=>w6 aO eC w) eP
theorem T0 {aO:List Int}{eC eP:Int}:b1 (w6 aO eC eP) (fA bt 19 0 85 [1,0,1,0,0] (Gz aO eC eP) (Gz aO eC) (Nb aO eC)):=by
 unfold w6
 exact .ite (fun o =>
  .bq fun J =>
  .aw fun aQ ay =>
  .aw fun ba bu =>
  (let t1:List cK:=[(ad 1),.aj true,(ad 2),.aG (ae 4 (ah (.cA (I aQ)) (ah (bD 1 (.b ba) true) [])))];
  have a4:=((.fq o J.1 (d9 I J.2) (cD I ay) (VO ba bu) (cz.b ba)):c1 _);
  .ite (fun bx =>
  .ret (bT (t1.append [.aj true,(ad 2),.bp [] [] (bO [4])]) (a4.aZ (.az bx))))
  (fun bx =>
  .ret (bT (t1.append [.aj false,(ad 2),.bp [] [] (bO [0,1,7,8])]) (a4.aZ (.az bx))))))
  (fun o =>
  .ret (bT [(ad 1),.aj false,.bp [] [] []] (.az o)))
theorem Nc {aO:List Int}{eC eP:Int}{r} (h:GQ aO eC eP=some r):fB bt 19 0 85 [1,0,1,0,0] (Gz aO eC) (Nb aO eC) eP r:=fD (fun _=>T0) h
def C3 (aO:List Int):Option Int :=
 GQ aO (len_ I aO) 0 >>= fun aq =>
 match aq with
 | .inl bK=>(some (-1))
 | .inr bK=>(some bK)
theorem Uu {aO:List Int}:b1 (C3 aO) (fun r=>Con bt 85 [.isl 1 (aO.map I),.fn 56 []] [] (.n .i64 r) []):=by
 unfold C3
 exact .aw fun aq J =>
  (let t1:List cK:=[(ad 1),(ad 3),.bp [] [] (bO [0,1,7,8])];
  (by
  rcases aq with bK|bK
  ·exact (.ret (bW (t1.append [.sub (.exit 0) [] [],(ad 1)]) (.az (Nc J))))
  ·exact (.ret (bW (t1.append [.sub (.ret) [(4,.n .i64 bK)] []]) (.az (Nc J))))))
def CX (aO:List Int):Option Bool :=
 C3 aO >>= fun aq =>
 some (decide ((0:Int)≤aq))
theorem Uf {aO:List Int}:b1 (CX aO) (fun r=>Con bt 55 [.isl 1 (aO.map I),.fn 56 []] [] (.b r) []):=by
 unfold CX
 exact .aw fun aq J =>
  .ret (bW [(ad 1),.aG (bQ 2 (bD 2 (.n .i64 aq) true) 2)] (.aH (Uu aq J) (cz.n .i64 aq)))
def va (aO:ck)(cG:List Int):Option Bool :=
 if ((len_ I cG) == (U ((2:Int)*(len_ dz aO.cE))))=true then
  CX cG >>= fun bE =>
  some (!bE)
 else
  some false
theorem NY {aO:ck}{cG:List Int}:b1 (va aO cG) (fun r=>Con bt 24 [.eE 2 [(gM aO)] 0 0,.isl 1 (cG.map I)] [] (.b r) []):=by
 unfold va
 exact .ite (fun o =>
  .aw fun bE ak =>
  .ret (bW [(ad 1),.aG (ae 11 (ah (bD 2 (.b bE) true) (bQ 1 (.aj true) 1)))] (.fq o o (Uf bE ak) (cz.b bE) o o)))
  (fun o =>
  .ret (bW [(ad 1),.aG (ae 10 (cm 3 (ah (.aj false) (ae 1 []))))] (.dn o o o o)))
def yh (aO:ck)(cG:List Int):Option Bool :=
 qH aO >>= fun aq =>
 if aq=true then
  va aO cG >>= fun aW =>
  some aW
 else
  some false
theorem Of {aO:ck}{cG:List Int}:b1 (yh aO cG) (fun r=>Con bt 5 [.agg (gM aO),.isl 1 (cG.map I)] [] (.b r) []):=by
 unfold yh
 exact .aw fun aq J =>
  (have cb:=((.aH (z5 aq J) (cz.b aq)):c1 _);
  .ite (fun ak =>
  .aw fun aW aI =>
  .ret (bW [(ad 2),.aG (ae 1 (ah (bD 1 (.b aq) true) (ae 2 (ah (.call {ac:=[.bN (.ptr [.id,.id]),ii],r:= .b aW,dq:=true,dv:=[0]}) (ah (.aj true) (ae 1 []))))))] (cb.aZ (.fq ak ak (kQ (o2 aO):hl [(gM aO)]) (NY aW aI) (cz.b aW) ak))))
  (fun ak =>
  .ret (bW [(ad 2),.aG (ae 1 (ah (bD 1 (.b aq) true) (ae 1 (cm 2 (ah (.aj false) (ae 1 []))))))] (cb.aZ (.b2 ak ak ak)))))
def HD (aS:Int)(aK:List Int):(Int×Int×Int)→S:=fun (a8,aE,cx)=>eV [(1,.n .i64 aS),(5,.ref 0 0 0 0),(6,.n .i64 a8)] [[ab.mk 3 [[.isl 1 (aK.map eU8),.n .i64 aE,.n .i64 cx]] .live]]
def HL (aS:Int)(aK:List Int):(Int×Int)→e3
 | a=>⟨some 0,[(5,.ref 0 0 0 0)],[[ab.mk 3 [[.isl 1 (aK.map eU8),.n .i64 a.1,.n .i64 a.2]] .live]]⟩
def xy (aS:Int)(aK:List Int)(a8 aE cx:Int):Option ((Int×Int×Int)⊕(Int×Int)) :=
 if (decide (a8<aS))=true then
  qI aK aE cx >>= fun bE =>
  some (.inl (U (a8+(1:Int)),bE.2.1,bE.2.2))
 else
  some (.inr (aE,cx))
def NZ (aS:Int)(aK:List Int)(a8 aE cx:Int):Option (Int×Int):=iter (fun w:Int×Int×Int=>xy aS aK w.1 w.2.1 w.2.2) (a8,aE,cx)
theorem UY {aS:Int}{aK:List Int}{a8 aE cx:Int}:b1 (xy aS aK a8 aE cx) (fA bt 17 0 31 [1,1,0,1,0,0] (HD aS aK (a8,aE,cx)) (HD aS aK) (HL aS aK)):=by
 unfold xy
 exact .ite (fun o =>
  .aw fun bE ak =>
  .ret (bT [(ad 3),.aj true,.aG (ae 1 (ah (.call {aM:=[.row 0],cr:=[.box [.id,.id,.id]],ac:=[ii],r:= .n .i64 bE.1,dj:=[[ab.mk 3 [[.isl 1 (aK.map eU8),.n .i64 bE.2.1,.n .i64 bE.2.2]] .live]],eh:=ii,e1:=[.box [.id,.id,.id]],dv:=[0],dq:=false}) [])),(ad 3),.bp [0] [.box [.id,.id,.id]] (bO [1,5,6])] (.aH o (ua bE ak))))
  (fun o =>
  .ret (bT [(ad 3),.aj false,.bp [0] [.box [.id,.id,.id]] (bO [5])] (.az o)))
theorem VJ {aS:Int}{aK:List Int}{a8 aE cx:Int}{r} (h:NZ aS aK a8 aE cx=some r):fB bt 17 0 31 [1,1,0,1,0,0] (HD aS aK) (HL aS aK) (a8,aE,cx) r:=fD (fun _=>UY) h
def Ak (fG:List Int)(aS:Int):Option (Int×Int) :=
 Ai fG >>= fun aq =>
 NZ aS fG 0 0 aq >>= fun a9 =>
 some (a9.1,a9.2)
theorem N0 {fG:List Int}{aS:Int}:b1 (Ak fG aS) (fun a=>Con bt 31 [.isl 1 (fG.map eU8),.n .i64 aS] [] (.ref 0 0 0 0) [[ab.mk 3 [[.isl 1 (fG.map eU8),.n .i64 a.1,.n .i64 a.2]] .live]]):=by
 unfold Ak
 exact .aw fun aq J =>
  .aw fun a9 ay =>
  .ret (hE [(ad 1),.aG (bQ 1 (.call {aM:=[],cr:=[],ac:=[ii],r:= .ref 0 0 0 0,dj:=[[ab.mk 3 [[.isl 1 (fG.map eU8),.n .i64 (0:Int),.n .i64 aq]] .live]],eh:=ii,e1:=[.box [.id,.id,.id]],dv:=[],dq:=false}) 1),(ad 1),.bp [2] [.box [.id,.id,.id]] (bO [1,5,6]),(HL aS fG a9).gp,(ad 2)] [0] [.box [.id,.id,.id]] (.aH (NW aq J) (VJ ay)))
def DR (fG:List Int)(aS:Int)(aO:ck):Option (List Int) :=
 Ak fG aS >>= fun aq =>
 x7 aO fG aq.1 aq.2 >>= fun a9 =>
 some a9.1
theorem Wi {fG:List Int}{aS:Int}{aO:ck}:b1 (DR fG aS aO) (fun r=>Con bt 7 [.isl 1 (fG.map eU8),.n .i64 aS,.agg (gM aO)] [] (.isl 1 (r.map I)) []):=by
 unfold DR
 exact .aw fun aq J =>
  .aw fun a9 ay =>
  .ret (bW [(ad 2),.aG (ae 2 (ah (.call {aM:=[],cr:=[],ac:=[ii,ii],r:= .ref 0 0 0 0,dj:=[[ab.mk 3 [[.isl 1 (fG.map eU8),.n .i64 aq.1,.n .i64 aq.2]] .live]],eh:=ii,e1:=[.box [.id,.id,.id]],dv:=[],dq:=false}) (bQ 1 (.call {aM:=[.row 4],cr:=[.box [.id,.id,.id]],ac:=[ii,ii],r:= .isl 1 (a9.1.map I),dj:=[[ab.mk 3 [[.isl 1 (fG.map eU8),.n .i64 a9.2.1,.n .i64 a9.2.2]] .live]],eh:=ii,e1:=[.box [.id,.id,.id]],dv:=[4],dq:=false}) 1)))] (.aH (N0 aq J) (NQ a9 ay)))
def DY (fG:List Int)(aS:Int):Option Int :=
 Ak fG aS >>= fun aq =>
 qI fG aq.1 aq.2 >>= fun a9 =>
 qI fG a9.2.1 a9.2.2 >>= fun ba =>
 some (U ((U (a9.1*(256:Int)))+ba.1))
theorem Ws {fG:List Int}{aS:Int}:b1 (DY fG aS) (fun r=>Con bt 8 [.isl 1 (fG.map eU8),.n .i64 aS] [] (.n .i64 r) []):=by
 unfold DY
 exact .aw fun aq J =>
  .aw fun a9 ay =>
  .aw fun ba bu =>
  .ret (bW [(ad 1),.aG (bQ 2 (.call {aM:=[],cr:=[],ac:=[ii,ii],r:= .ref 0 0 0 0,dj:=[[ab.mk 3 [[.isl 1 (fG.map eU8),.n .i64 aq.1,.n .i64 aq.2]] .live]],eh:=ii,e1:=[.box [.id,.id,.id]],dv:=[],dq:=false}) 1),.aG (ae 1 (ah (.call {aM:=[.row 3],cr:=[.box [.id,.id,.id]],ac:=[ii],r:= .n .i64 a9.1,dj:=[[ab.mk 3 [[.isl 1 (fG.map eU8),.n .i64 a9.2.1,.n .i64 a9.2.2]] .live]],eh:=ii,e1:=[.box [.id,.id,.id]],dv:=[3],dq:=false}) (bQ 2 (.call {aM:=[.row 3],cr:=[.box [.id,.id,.id]],ac:=[ii],r:= .n .i64 ba.1,dj:=[[ab.mk 3 [[.isl 1 (fG.map eU8),.n .i64 ba.2.1,.n .i64 ba.2.2]] .live]],eh:=ii,e1:=[.box [.id,.id,.id]],dv:=[3],dq:=false}) 2)))] (.b2 (N0 aq J) (ua a9 ay) (ua ba bu)))
def HM (c9:List br)(cS:List bP)(gx:List (List Int))(ph:Int):Int→S:=fun jK=>eV [(0,.eE 2 [[.isl 4 (c9.map dz),.isl 3 (cS.map dm)]] 0 0),(22,.isl 1 (gx.map (dL 1 I))),(23,.n .i64 ph),(24,.n .i64 jK)] []
def NG (c9:List br)(cS:List bP)(gx:List (List Int))(ph:Int):((Unit)⊕(Unit))→e3
 | .inl a=>⟨some 0,[],[]⟩
 | .inr a=>⟨none,[(4,.b false)],[]⟩
def xA (c9:List br)(cS:List bP)(gx:List (List Int))(ph jK:Int):Option ((Int)⊕((Unit)⊕(Unit))) :=
 if (decide (jK<ph))=true then
  if 0≤jK∧jK<gx.length then
  gx[jK.toNat]? >>= fun aQ =>
  va (⟨c9,cS⟩:ck) aQ >>= fun ba =>
  if ba=true then
   some (.inl (U (jK+(1:Int))))
  else
   some (.inr (.inr ()))
  else none
 else
  some (.inr (.inl ()))
def I2 (c9:List br)(cS:List bP)(gx:List (List Int))(ph jK:Int):Option ((Unit)⊕(Unit)):=iter (fun w:Int=>xA c9 cS gx ph w) jK
theorem U1 {c9:List br}{cS:List bP}{gx:List (List Int)}{ph jK:Int}:b1 (xA c9 cS gx ph jK) (fA bt 33 0 33 [1,1,0,1,0,0] (HM c9 cS gx ph jK) (HM c9 cS gx ph) (NG c9 cS gx ph)):=by
 unfold xA
 exact .ite (fun o =>
  .bq fun J =>
  .aw fun aQ ay =>
  .aw fun ba bu =>
  (let t1:List cK:=[(ad 1),.aj true,.aG (bQ 1 (.cA ((dL 1 I) aQ)) 1),.aG (bQ 2 (bD 2 (.b ba) true) 1)];
  have a4:=((.fq o J.1 (d9 (dL 1 I) J.2) (cD (dL 1 I) ay) (NY ba bu) (cz.b ba)):c1 _);
  .ite (fun bx =>
  .ret (bT (t1.append [.aj false,(ad 2),.bp [] [] (bO [0,22,23,24])]) (a4.aZ (.az (dQ bx)))))
  (fun bx =>
  .ret (bT (t1.append [.aj true,(ad 1),.bp [] [] (bO [4])]) (a4.aZ (.az (dR bx)))))))
  (fun o =>
  .ret (bT [(ad 1),.aj false,.bp [] [] []] (.az o)))
theorem NM {c9:List br}{cS:List bP}{gx:List (List Int)}{ph jK:Int}{r} (h:I2 c9 cS gx ph jK=some r):fB bt 33 0 33 [1,1,0,1,0,0] (HM c9 cS gx ph) (NG c9 cS gx ph) jK r:=fD (fun _=>U1) h
def ye (aO:ck)(ki:List (List Int)):Option Bool :=
 if (decide ((len_ (dL 1 I) ki)<(1:Int)))=true then
  some false
 else
  if (decide ((6:Int)<(len_ (dL 1 I) ki)))=true then
   some false
  else
   qH aO >>= fun a9 =>
   if a9=true then
    I2 aO.cE aO.b5 ki (len_ (dL 1 I) ki) 0 >>= fun a5 =>
    match a5 with
    | .inl wM=>(some true)
    | .inr wM=>(some false)
   else
    some false
theorem N6 {aO:ck}{ki:List (List Int)}:b1 (ye aO ki) (fun r=>Con bt 33 [.eE 2 [(gM aO)] 0 0,.isl 1 (ki.map (dL 1 I))] [] (.b r) []):=by
 unfold ye
 exact .ite (fun o =>
  .ret (bW [(ad 1),.aG (ae 4 (cm 3 (ah (.aj true) (ae 1 (cm 5 (ae 1 [])))))),.aj true,(ad 1)] (.bj o o o o bl bl bl bl (.aH bl bl))))
  (fun o =>
  .ite (fun J =>
  .ret (bW [(ad 1),.aG (ae 7 (ah (.aj false) (ae 1 (cm 5 (ah (.aj true) []))))),.aj true,(ad 1)] (.bj o o o o J J J J (.b2 J J bl))))
  (fun J =>
  .aw fun a9 ay =>
  (let t1:List cK:=[(ad 1),.aG (ae 7 (ah (.aj false) (ae 4 (ah (bD 1 (.b a9) true) (ae 1 (ah (.aj false) []))))))];
  have a4:=((.bj o o o o J J J J (.dn (z5 a9 ay) (cz.b a9) J J)):c1 _);
  .ite (fun aI =>
  .aw fun a5 bx =>
  (let t3:List cK:=t1.append [.aj false,(ad 3),.bp [] [] (bO [0,22,23,24])];
  (by
  rcases a5 with wM|wM
  ·exact (.ret (bW (t3.append [.sub (.exit 0) [] [],(ad 1)]) (a4.aZ (.aH (dQ aI) (NM bx)))))
  ·exact (.ret (bW (t3.append [.sub (.ret) [(4,.b false)] []]) (a4.aZ (.aH (dQ aI) (NM bx))))))))
  (fun aI =>
  .ret (bW (t1.append [.aj true,(ad 1)]) (a4.aZ (.az (dR aI))))))))
def GR (gY:List bP)(ey:Int):(Int×(List ev))→S:=fun (c6,au)=>eV [(3,.bC 0 0 0 au.length),(9,.isl 3 (gY.map dm)),(10,.n .i64 ey),(11,.n .i64 c6)] [(av 2 ek au)]
def Nl (gY:List bP)(ey:Int):(List ev)→e3
 | a=>⟨some 0,[(3,.bC 0 0 0 a.length)],[(av 2 ek a)]⟩
def xc (gY:List bP)(ey c6:Int)(au:List ev):Option ((Int×(List ev))⊕((List ev))) :=
 if (decide (c6<ey))=true then
  if 0≤c6∧c6<gY.length then
  gY[c6.toNat]? >>= fun aQ =>
  if (aQ.jS != (2:Int))=true then
   if (au++([(⟨c6,1⟩:ev)]:List ev)).length*16≤140737488355328 then
   if (aQ.jS != (1:Int))=true then
    if ((au++([(⟨c6,1⟩:ev)]:List ev))++([(⟨c6,(-1)⟩:ev)]:List ev)).length*16≤140737488355328 then
    some (.inl (U (c6+(1:Int)),(au++([(⟨c6,1⟩:ev)]:List ev))++([(⟨c6,(-1)⟩:ev)]:List ev)))
    else none
   else
    some (.inl (U (c6+(1:Int)),au++([(⟨c6,1⟩:ev)]:List ev)))
   else none
  else
   if (aQ.jS != (1:Int))=true then
    if (au++([(⟨c6,(-1)⟩:ev)]:List ev)).length*16≤140737488355328 then
    some (.inl (U (c6+(1:Int)),au++([(⟨c6,(-1)⟩:ev)]:List ev)))
    else none
   else
    some (.inl (U (c6+(1:Int)),au))
  else none
 else
  some (.inr au)
def Hj (gY:List bP)(ey c6:Int)(au:List ev):Option ((List ev)):=iter (fun w:Int×(List ev)=>xc gY ey w.1 w.2) (c6,au)
theorem Ug {gY:List bP}{ey c6:Int}{au:List ev}:b1 (xc gY ey c6 au) (fA bt 34 0 67 [1,1,0,1,0,0] (GR gY ey (c6,au)) (GR gY ey) (Nl gY ey)):=by
 unfold xc
 exact .ite (fun o =>
  .bq fun J =>
  .aw fun aQ ay =>
  (let t1:List cK:=[(ad 1),.aj true,.aG (bQ 2 (.cA (dm aQ)) 3),(ad 3)];
  have a4:=((.dn o J.1 (d9 dm J.2) (cD dm ay)):c1 _);
  .ite (fun aI =>
  .bq fun bu =>
  (let t3:List cK:=t1.append [.aj true,.aG (bQ 4 (.aZ ((au++([(⟨c6,1⟩:ev)]:List ev)).length)) 1),(ad 3)];
  have fK:=a4.aZ (.ej aI (mN ek (⟨c6,1⟩:ev)) (r9 ek au) (oY ek au (⟨c6,1⟩:ev)) bu);
  .ite (fun bx =>
  .bq fun bn =>
  .ret (let aR:=(au++([(⟨c6,1⟩:ev)]:List ev));let bb:=(aR++([(⟨c6,(-1)⟩:ev)]:List ev));let b7:=(sa ek au (⟨c6,1⟩:ev));bT (t3.append [.aj true,.aG (bQ 4 (.aZ (bb.length)) 1),(ad 2),.bp [24] [.d3 (av 2 ek bb)] (bO [3,9,10,11])]) (fK.aZ (.fr bx (mN ek (⟨c6,(-1)⟩:ev)) (vy b7 (ft aR)) (oY ek aR (⟨c6,(-1)⟩:ev)) bn (eX 2 .live (rD b7 (ft aR) (wH ek (⟨c6,(-1)⟩:ev)))) (aF 2 .live u7 bb)))))
  (fun bx =>
  .ret (let cC:=(au++([(⟨c6,1⟩:ev)]:List ev));bT (t3.append [.aj false,(ad 2),.bp [15] [.d3 (av 2 ek cC)] (bO [3,9,10,11])]) (fK.aZ (.b2 bx (eX 2 .live (sa ek au (⟨c6,1⟩:ev))) (aF 2 .live u7 cC)))))))
  (fun aI =>
  .ite (fun bu =>
  .bq fun bx =>
  .ret (let en:=(au++([(⟨c6,(-1)⟩:ev)]:List ev));bT (t1.append [.aj false,(ad 3),.aj true,.aG (bQ 4 (.aZ (en.length)) 1),(ad 2),.bp [18] [.d3 (av 2 ek en)] (bO [3,9,10,11])]) (a4.aZ (.hB aI bu (mN ek (⟨c6,(-1)⟩:ev)) (r9 ek au) (oY ek au (⟨c6,(-1)⟩:ev)) bx (eX 2 .live (sa ek au (⟨c6,(-1)⟩:ev))) (aF 2 .live u7 en)))))
  (fun bu =>
  .ret (bT (t1.append [.aj false,(ad 3),.aj false,(ad 2),.bp [0] [.pure] (bO [3,9,10,11])]) (a4.aZ (.b2 aI bu (aF 2 .live u7 au))))))))
  (fun o =>
  .ret (bT [(ad 1),.aj false,.bp [0] [.pure] (bO [3])] (.aH o (aF 2 .live u7 au))))
theorem Uz {gY:List bP}{ey c6:Int}{au:List ev}{r} (h:Hj gY ey c6 au=some r):fB bt 34 0 67 [1,1,0,1,0,0] (GR gY ey) (Nl gY ey) (c6,au) r:=fD (fun _=>Ug) h
def si (aO:ck):Option (List ev) :=
 Hj aO.b5 (len_ dm aO.b5) 0 ([]:List ev) >>= fun aq =>
 some aq
theorem xp {aO:ck}:b1 (si aO) (fun r=>Con bt 67 [.eE 2 [(gM aO)] 0 0] [] (.isl 2 (r.map ek)) []):=by
 unfold si
 exact .aw fun aq J =>
  .ret (bW [(ad 1),(ad 1),(ad 6),.uz 3 2,.bp [8] [.d3 (av 2 ek ([]:List ev))] [(3,gQ (([]:List ev).length)),(9,ii),(10,ii),(11,ii)],.sub (.exit 0) [(3,.bC 0 0 0 aq.length)] [(av 2 ek aq)],(ad 2)] (.fr (eX 2 .live (tX ek)) (aF 2 .live u7 ([]:List ev)) (my ev) (Uz J) (kp ek aq) (jA ek aq) (e9 u7 aq)) (.bN (.cj (.gn (aq.map ek)))))
def GG (gY:List br)(ey:Int):(Int×(List Int))→S:=fun (c6,au)=>eV [(3,.bC 0 0 0 au.length),(9,.isl 4 (gY.map dz)),(10,.n .i64 ey),(11,.n .i64 c6)] [(av 1 I au)]
def Nf (gY:List br)(ey:Int):(List Int)→e3
 | a=>⟨some 0,[(3,.bC 0 0 0 a.length)],[(av 1 I a)]⟩
def zV (gY:List br)(ey c6:Int)(au:List Int):Option ((Int×(List Int))⊕((List Int))) :=
 if (decide (c6<ey))=true then
  if 0≤c6∧c6<gY.length then
  gY[c6.toNat]? >>= fun aQ =>
  if aQ.ox=true then
   some (.inl (U (c6+(1:Int)),au))
  else
   if (au++([c6]:List Int)).length*8≤140737488355328 then
   some (.inl (U (c6+(1:Int)),au++([c6]:List Int)))
   else none
  else none
 else
  some (.inr au)
def GX (gY:List br)(ey c6:Int)(au:List Int):Option ((List Int)):=iter (fun w:Int×(List Int)=>zV gY ey w.1 w.2) (c6,au)
theorem T4 {gY:List br}{ey c6:Int}{au:List Int}:b1 (zV gY ey c6 au) (fA bt 25 0 50 [1,1,0,1,0,0] (GG gY ey (c6,au)) (GG gY ey) (Nf gY ey)):=by
 unfold zV
 exact .ite (fun o =>
  .bq fun J =>
  .aw fun aQ ay =>
  (let t1:List cK:=[(ad 1),.aj true,.aG (bQ 2 (.cA (dz aQ)) 3),(ad 3)];
  have a4:=((.dn o J.1 (d9 dz J.2) (cD dz ay)):c1 _);
  .ite (fun aI =>
  .ret (bT (t1.append [.aj false,(ad 2),.bp [0] [.pure] (bO [3,9,10,11])]) (a4.aZ (.aH (dQ aI) (aF 1 .live aD au)))))
  (fun aI =>
  .bq fun bu =>
  .ret (let aR:=(au++([c6]:List Int));bT (t1.append [.aj true,.aG (bQ 3 (.aZ (aR.length)) 1),(ad 2),.bp [14] [.d3 (av 1 I aR)] (bO [3,9,10,11])]) (a4.aZ (.fr (dR aI) (mN I c6) (r9 I au) (oY I au c6) bu (eX 1 .live (sa I au c6)) (aF 1 .live aD aR)))))))
  (fun o =>
  .ret (bT [(ad 1),.aj false,.bp [0] [.pure] (bO [3])] (.aH o (aF 1 .live aD au))))
theorem Ul {gY:List br}{ey c6:Int}{au:List Int}{r} (h:GX gY ey c6 au=some r):fB bt 25 0 50 [1,1,0,1,0,0] (GG gY ey) (Nf gY ey) (c6,au) r:=fD (fun _=>T4) h
def tZ (aO:ck):Option (List Int) :=
 GX aO.cE (len_ dz aO.cE) 0 ([]:List Int) >>= fun aq =>
 some aq
theorem C2 {aO:ck}:b1 (tZ aO) (fun r=>Con bt 50 [.eE 2 [(gM aO)] 0 0] [] (.isl 1 (r.map I)) []):=by
 unfold tZ
 exact .aw fun aq J =>
  .ret (bW [(ad 1),(ad 1),(ad 6),.uz 3 1,.bp [8] [.d3 (av 1 I ([]:List Int))] [(3,gQ (([]:List Int).length)),(9,ii),(10,ii),(11,ii)],.sub (.exit 0) [(3,.bC 0 0 0 aq.length)] [(av 1 I aq)],(ad 2)] (.fr (eX 1 .live (tX I)) (aF 1 .live aD ([]:List Int)) (my Int) (Ul J) (kp I aq) (jA I aq) (e9 aD aq)) (.bN (.cj (.gn (aq.map I)))))
def sZ (aO:ck)(bV:Int):Option (Int×Int) :=
 if 0≤bV∧bV<aO.b5.length then
 aO.b5[bV.toNat]? >>= fun fk =>
 if 0≤fk.fY∧fk.fY<aO.cE.length then
 aO.cE[fk.fY.toNat]? >>= fun nq =>
 if 0≤fk.fX∧fk.fX<aO.cE.length then
 aO.cE[fk.fX.toNat]? >>= fun iH =>
 some (U (nq.mO-iH.mO),U (nq.mP-iH.mP))
 else none
 else none
 else none
theorem Ns {aO:ck}{bV:Int}:b1 (sZ aO bV) (fun r=>Con bt 80 [.eE 2 [(gM aO)] 0 0,.n .i64 bV] [] (.df [.n .i64 r.1,.n .i64 r.2]) []):=by
 unfold sZ
 exact .bq fun o =>
  .aw fun fk ak =>
  .bq fun ay =>
  .aw fun nq bu =>
  .bq fun bx =>
  .aw fun iH cd =>
  .ret (bW [(ad 2),.aG (bQ 6 (.cA (dm fk)) 2),.aG (ae 8 (ah (.cA (dz nq)) (ae 8 (ah (.cA (dz iH)) (ae 9 (ah (.cA (dz nq)) (bQ 8 (.cA (dz iH)) 3)))))))] (.bj o.1 (d9 dm o.2) (cD dm ak) ay.1 (d9 dz ay.2) (cD dz bu) bx.1 (d9 dz bx.2) (.fr (cD dz cd) ay.1 (d9 dz ay.2) (cD dz bu) bx.1 (d9 dz bx.2) (cD dz cd))))
def GC (c9:List br)(cS:List bP)(eg:Int)(bU:List Int)(cF gX db:Int)(au:List (List Int)):(Int×(List Int)×(List Int))→S:=fun (gB,ag,aN)=>eV [(0,.eE 2 [[.isl 4 (c9.map dz),.isl 3 (cS.map dm)]] 0 0),(3,.bC 0 0 0 au.length),(5,.n .i64 eg),(6,.bC 1 0 0 ag.length),(7,.bC 2 0 0 aN.length),(13,.isl 1 (bU.map I)),(14,.n .i64 cF),(15,.n .i64 gX),(34,.isl 3 (cS.map dm)),(35,.n .i64 db),(36,.n .i64 gB)] [(av 1 (dL 1 I) au),(av 1 I ag),(av 1 I aN)]
def GH (c9:List br)(cS:List bP)(eg:Int)(bU:List Int)(cF gX db:Int)(au:List (List Int)):((List Int)×(List Int))→e3
 | a=>⟨some 2,[(0,.eE 2 [[.isl 4 (c9.map dz),.isl 3 (cS.map dm)]] 0 0),(3,.bC 0 0 0 au.length),(6,.bC 1 0 0 a.1.length),(7,.bC 2 0 0 a.2.length),(13,.isl 1 (bU.map I)),(14,.n .i64 cF),(15,.n .i64 gX)],[(av 1 (dL 1 I) au),(av 1 I a.1),(av 1 I a.2)]⟩
def w7 (c9:List br)(cS:List bP)(eg:Int)(bU:List Int)(cF gX db:Int)(au:List (List Int))(gB:Int)(ag aN:List Int):Option ((Int×(List Int)×(List Int))⊕((List Int)×(List Int))) :=
 if (decide (gB<db))=true then
  if 0≤gB∧gB<cS.length then
  cS[gB.toNat]? >>= fun aQ =>
  sZ (⟨c9,cS⟩:ck) gB >>= fun ba =>
  if (eg == aQ.fX)=true then
   if 0≤gB∧gB<(ag.length:Nat) then
   if (0+gB.toNat)<ag.length then
   if 0≤gB∧gB<(aN.length:Nat) then
   if (0+gB.toNat)<aN.length then
   some (.inl (U (gB+(1:Int)),ag.set (0+gB.toNat) ba.1,aN.set (0+gB.toNat) ba.2))
   else none
   else none
   else none
   else none
  else
   if (eg == aQ.fY)=true then
    if 0≤gB∧gB<(ag.length:Nat) then
    if (0+gB.toNat)<ag.length then
    if 0≤gB∧gB<(aN.length:Nat) then
    if (0+gB.toNat)<aN.length then
    some (.inl (U (gB+(1:Int)),ag.set (0+gB.toNat) (U (0-ba.1)),aN.set (0+gB.toNat) (U (0-ba.2))))
    else none
    else none
    else none
    else none
   else
    some (.inl (U (gB+(1:Int)),ag,aN))
  else none
 else
  some (.inr (ag,aN))
def C1 (c9:List br)(cS:List bP)(eg:Int)(bU:List Int)(cF gX db:Int)(au:List (List Int))(gB:Int)(ag aN:List Int):Option ((List Int)×(List Int)):=iter (fun w:Int×(List Int)×(List Int)=>w7 c9 cS eg bU cF gX db au w.1 w.2.1 w.2.2) (gB,ag,aN)
theorem T1 {c9:List br}{cS:List bP}{eg:Int}{bU:List Int}{cF gX db:Int}{au:List (List Int)}{gB:Int}{ag aN:List Int}:b1 (w7 c9 cS eg bU cF gX db au gB ag aN) (fA bt 82 0 70 [1,1,0,1,0,0,1,1,0,0,1,1,0,1,0,0] (GC c9 cS eg bU cF gX db au (gB,ag,aN)) (GC c9 cS eg bU cF gX db au) (GH c9 cS eg bU cF gX db au)):=by
 unfold w7
 exact .ite (fun o =>
  .bq fun J =>
  .aw fun aQ ay =>
  .aw fun ba bu =>
  (let t1:List cK:=[(ad 1),.aj true,.aG (bQ 2 (.cA (dm aQ)) 3),.aG (bQ 2 (bD 2 (.df [.n .i64 ba.1,.n .i64 ba.2]) true) 5),(ad 1),(ad 4)];
  have a4:=((.fq o J.1 (d9 dm J.2) (cD dm ay) (Ns ba bu) (Rl (k4 (cz.n .i64 ba.1) (k4 (cz.n .i64 ba.2) yV)))):c1 _);
  .ite (fun bx =>
  .bq fun bn =>
  .bq fun cd =>
  .bq fun cV =>
  .bq fun cZ =>
  .ret (bT (t1.append [.aj true,.aG (ae 7 (ah .cU (ae 1 (ah .cU [])))),(ad 2),.bp [0,1,2] [.pure,.d3 (av 1 I (ag.set (0+gB.toNat) ba.1)),.d3 (av 1 I (aN.set (0+gB.toNat) ba.2))] [(0,ii),(3,ii),(5,ii),(6,gQ ((ag.set (0+gB.toNat) ba.1).length)),(7,gQ ((aN.set (0+gB.toNat) ba.2).length)),(13,ii),(14,ii),(15,ii),(34,ii),(35,ii),(36,ii)]]) (a4.aZ (.bj bx bn.1 bn.2 (hk I cd) (gL 1) cV.1 cV.2 (hk I cZ) (.hB (gL 1) (aF 1 .live (mU (sz:=1) aD) au) (eX 1 .live (fP (dV I ag) (0+gB.toNat) ba.1)) (aF 1 .live aD (ag.set (0+gB.toNat) ba.1)) (eX 1 .live (fP (dV I aN) (0+gB.toNat) ba.2)) (aF 1 .live aD (aN.set (0+gB.toNat) ba.2)) (gN (ft ag) (0+gB.toNat) ba.1) (gN (ft aN) (0+gB.toNat) ba.2))))))
  (fun bx =>
  .ite (fun bn =>
  .bq fun cd =>
  .bq fun cV =>
  .bq fun cZ =>
  .bq fun dg =>
  .ret (let aR:=U (0-ba.1);let bb:=U (0-ba.2);bT (t1.append [.aj false,(ad 4),.aj true,.aG (ae 9 (ah .cU (ae 1 (ah .cU [])))),(ad 2),.bp [0,1,2] [.pure,.d3 (av 1 I (ag.set (0+gB.toNat) aR)),.d3 (av 1 I (aN.set (0+gB.toNat) bb))] [(0,ii),(3,ii),(5,ii),(6,gQ ((ag.set (0+gB.toNat) aR).length)),(7,gQ ((aN.set (0+gB.toNat) bb).length)),(13,ii),(14,ii),(15,ii),(34,ii),(35,ii),(36,ii)]]) (a4.aZ (.bj bx bn cd.1 cd.2 (hk I cV) (gL 1) cZ.1 cZ.2 (.bj (hk I dg) (gL 1) (aF 1 .live (mU (sz:=1) aD) au) (eX 1 .live (fP (dV I ag) (0+gB.toNat) aR)) (aF 1 .live aD (ag.set (0+gB.toNat) aR)) (eX 1 .live (fP (dV I aN) (0+gB.toNat) bb)) (aF 1 .live aD (aN.set (0+gB.toNat) bb)) (gN (ft ag) (0+gB.toNat) aR) (.az (gN (ft aN) (0+gB.toNat) bb)))))))
  (fun bn =>
  .ret (bT (t1.append [.aj false,(ad 4),.aj false,(ad 2),.bp [0,1,2] [.pure,.pure,.pure] (bO [0,3,5,6,7,13,14,15,34,35,36])]) (a4.aZ (.ej bx bn (aF 1 .live (mU (sz:=1) aD) au) (aF 1 .live aD ag) (aF 1 .live aD aN))))))))
  (fun o =>
  .ret (bT [(ad 1),.aj false,.bp [0,1,2] [.pure,.pure,.pure] (bO [0,3,6,7,13,14,15])] (.dn o (aF 1 .live (mU (sz:=1) aD) au) (aF 1 .live aD ag) (aF 1 .live aD aN))))
theorem Ui {c9:List br}{cS:List bP}{eg:Int}{bU:List Int}{cF gX db:Int}{au:List (List Int)}{gB:Int}{ag aN:List Int}{r} (h:C1 c9 cS eg bU cF gX db au gB ag aN=some r):fB bt 82 0 70 [1,1,0,1,0,0,1,1,0,0,1,1,0,1,0,0] (GC c9 cS eg bU cF gX db au) (GH c9 cS eg bU cF gX db au) (gB,ag,aN) r:=fD (fun _=>T1) h
def GD (c9:List br)(cS:List bP)(bU:List Int)(cF:Int):(Int×(List (List Int)))→S:=fun (gX,au)=>eV [(0,.eE 2 [[.isl 4 (c9.map dz),.isl 3 (cS.map dm)]] 0 0),(3,.bC 0 0 0 au.length),(13,.isl 1 (bU.map I)),(14,.n .i64 cF),(15,.n .i64 gX)] [(av 1 (dL 1 I) au)]
def Nd (c9:List br)(cS:List bP)(bU:List Int)(cF:Int):(List (List Int))→e3
 | a=>⟨some 0,[(3,.bC 0 0 0 a.length)],[(av 1 (dL 1 I) a)]⟩
def w8 (c9:List br)(cS:List bP)(bU:List Int)(cF gX:Int)(au:List (List Int)):Option ((Int×(List (List Int)))⊕((List (List Int)))) :=
 if (decide (gX<cF))=true then
  if 0≤gX∧gX<bU.length then
  bU[gX.toNat]? >>= fun aQ =>
  if 0≤(len_ dm cS)∧(8:Int)*(len_ dm cS)≤281474976710656∧(len_ dm cS)<9223372036854775808 then
  C1 c9 cS aQ bU cF gX (len_ dm cS) au 0 (List.replicate (len_ dm cS).toNat 0:List Int) (List.replicate (len_ dm cS).toNat 0:List Int) >>= fun a5 =>
  if (au++([a5.1,a5.2]:List (List Int))).length*24≤140737488355328 then
  some (.inl (U (gX+(1:Int)),au++([a5.1,a5.2]:List (List Int))))
  else none
  else none
  else none
 else
  some (.inr au)
def GU (c9:List br)(cS:List bP)(bU:List Int)(cF gX:Int)(au:List (List Int)):Option ((List (List Int))):=iter (fun w:Int×(List (List Int))=>w8 c9 cS bU cF w.1 w.2) (gX,au)
theorem T2 {c9:List br}{cS:List bP}{bU:List Int}{cF gX:Int}{au:List (List Int)}:b1 (w8 c9 cS bU cF gX au) (fA bt 82 0 70 [1,1,0,1,0,0] (GD c9 cS bU cF (gX,au)) (GD c9 cS bU cF) (Nd c9 cS bU cF)):=by
 unfold w8
 exact .ite (fun o =>
  .bq fun J =>
  .aw fun aQ ay =>
  .bq fun aI =>
  .aw fun a5 bx =>
  .bq fun bn =>
  .ret (let bb:=(au++([a5.1,a5.2]:List (List Int)));let b7:=len_ dm cS;let aR:=(List.replicate b7.toNat 0:List Int);let cC:=mU (sz:=1) aD;let en:=eX 1 .live (kS I b7.toNat 0);bT [(ad 1),.aj true,.aG (bQ 1 (.cA (I aQ)) 1),(ad 14),(ad 6),.bp [0,10,16] [.pure,.d3 (av 1 I aR),.d3 (av 1 I aR)] [(0,ii),(3,ii),(5,ii),(6,gQ (aR.length)),(7,gQ (aR.length)),(13,ii),(14,ii),(15,ii),(34,ii),(35,ii),(36,ii)],(GH c9 cS aQ bU cF gX b7 au a5).gp,.bp [0] [.pure] [(0,ii),(3,ii),(6,.bN (.cj (.gn (a5.1.map I)))),(7,.bN (.cj (.gn (a5.2.map I)))),(13,ii),(14,ii),(15,ii)],.aG (bQ 4 (.aZ (bb.length)) 1),(ad 2),.bp [5] [.d3 (av 1 (dL 1 I) bb)] (bO [0,3,13,14,15])] (.bj o J.1 (d9 I J.2) (cD I ay) aI.1 (Int.le_refl b7) aI.2.1 aI.2.2 (.bj aI.1 (Int.le_refl b7) aI.2.1 aI.2.2 (aF 1 .live cC au) en (aF 1 .live aD aR) en (.bj (aF 1 .live aD aR) (k5 b7.toNat (0:Int)) (k5 b7.toNat (0:Int)) (Ui bx) (aF 1 .live cC au) (kp I a5.1) (jA I a5.1) (e9 aD a5.1) (.bj (kp I a5.2) (jA I a5.2) (e9 aD a5.2) (nO (show [[.isl 1 (a5.1.map I)],[.isl 1 (a5.2.map I)]]=(([a5.1,a5.2]:List (List Int))).map (dL 1 I) from rfl) (show 2=([a5.1,a5.2]:List (List Int)).length from rfl)) (r9 (dL 1 I) au) (yH (ft au) (Bf (show [[.isl 1 (a5.1.map I)],[.isl 1 (a5.2.map I)]]=(([a5.1,a5.2]:List (List Int))).map (dL 1 I) from rfl) (show 2=([a5.1,a5.2]:List (List Int)).length from rfl)):bb.length=au.length+(([[.isl 1 (a5.1.map I)],[.isl 1 (a5.2.map I)]].drop 0).take 2).length) bn (eX 1 .live (rD (dV (dL 1 I) au) (ft au) (Bf (show [[.isl 1 (a5.1.map I)],[.isl 1 (a5.2.map I)]]=(([a5.1,a5.2]:List (List Int))).map (dL 1 I) from rfl) (show 2=([a5.1,a5.2]:List (List Int)).length from rfl)))) (.az (aF 1 .live cC bb))))))))
  (fun o =>
  .ret (bT [(ad 1),.aj false,.bp [0] [.pure] (bO [3])] (.aH o (aF 1 .live (mU (sz:=1) aD) au))))
theorem Uj {c9:List br}{cS:List bP}{bU:List Int}{cF gX:Int}{au:List (List Int)}{r} (h:GU c9 cS bU cF gX au=some r):fB bt 82 0 70 [1,1,0,1,0,0] (GD c9 cS bU cF) (Nd c9 cS bU cF) (gX,au) r:=fD (fun _=>T2) h
def zX (aO:ck):Option (List (List Int)) :=
 tZ aO >>= fun aq =>
 GU aO.cE aO.b5 aq (len_ I aq) 0 ([]:List (List Int)) >>= fun a9 =>
 some a9
theorem Ux {aO:ck}:b1 (zX aO) (fun r=>Con bt 70 [.eE 2 [(gM aO)] 0 0] [] (.isl 1 (r.map (dL 1 I))) []):=by
 unfold zX
 exact .aw fun aq J =>
  .aw fun a9 ay =>
  .ret (bW [(ad 1),(ad 1),.aG (bQ 1 (bD 1 (.isl 1 (aq.map I)) false) 2),.uz 3 1,.bp [6] [.d3 (av 1 (dL 1 I) ([]:List (List Int)))] [(0,ii),(3,gQ (([]:List (List Int)).length)),(13,ii),(14,ii),(15,ii)],.sub (.exit 0) [(3,.bC 0 0 0 a9.length)] [(av 1 (dL 1 I) a9)],(ad 2)] (.hB (C2 aq J) (eX 1 .live (tX (dL 1 I))) (aF 1 .live (mU (sz:=1) aD) ([]:List (List Int))) (my (List Int)) (Uj ay) (kp (dL 1 I) a9) (jA (dL 1 I) a9) (e9 (mU (sz:=1) aD) a9)) (.bN (.cj (.gn (a9.map (dL 1 I))))))
def Gr (c9:List br)(cS:List bP)(cG:List Int)(iA:List ev)(a8:Int)(gV:List Int)(fR:List (List Int))(ji hN d8 dX:Int)(ao a7:List Int):(Int×(List Int))→S:=fun (mD,aN)=>eV [(0,.eE 2 [[.isl 4 (c9.map dz),.isl 3 (cS.map dm)]] 0 0),(1,.isl 1 (cG.map I)),(8,.ref 0 0 0 0),(10,.isl 2 (iA.map ek)),(11,.ref 1 0 0 0),(12,.n .i64 a8),(13,.isl 1 (gV.map I)),(46,.isl 1 (fR.map (dL 1 I))),(47,.n .i64 ji),(48,.n .i64 a8),(53,.isl 2 (iA.map ek)),(54,.n .i64 hN),(55,.n .i64 mD)] [[ab.mk 5 [[.n .i64 (0:Int),.n .i64 (0:Int),.eK,.eK,.eK]] .live],[ab.mk 5 [(d5 d8 dX 2 0 0 aN.length 3 0 0 ao.length 4 0 0 a7.length)] .live],(av 1 I aN),(av 1 I ao),(av 1 I a7)]
def Gu (c9:List br)(cS:List bP)(cG:List Int)(iA:List ev)(a8:Int)(gV:List Int)(fR:List (List Int))(ji hN d8 dX:Int)(ao a7:List Int):(List Int)→e3
 | a=>⟨some 2,[(0,.eE 2 [[.isl 4 (c9.map dz),.isl 3 (cS.map dm)]] 0 0),(1,.isl 1 (cG.map I)),(8,.ref 0 0 0 0),(10,.isl 2 (iA.map ek)),(11,.ref 1 0 0 0),(46,.isl 1 (fR.map (dL 1 I))),(47,.n .i64 ji),(48,.n .i64 a8)],[[ab.mk 5 [[.n .i64 (0:Int),.n .i64 (0:Int),.eK,.eK,.eK]] .live],[ab.mk 5 [(d5 d8 dX 2 0 0 a.length 3 0 0 ao.length 4 0 0 a7.length)] .live],(av 1 I a),(av 1 I ao),(av 1 I a7)]⟩
def w1 (c9:List br)(cS:List bP)(cG:List Int)(iA:List ev)(a8:Int)(gV:List Int)(fR:List (List Int))(ji hN d8 dX:Int)(ao a7:List Int)(mD:Int)(aN:List Int):Option ((Int×(List Int))⊕((List Int))) :=
 if (decide (mD<hN))=true then
  if 0≤mD∧mD<iA.length then
  iA[mD.toNat]? >>= fun aQ =>
  if 0≤aQ.hr∧aQ.hr<gV.length then
  gV[aQ.hr.toNat]? >>= fun cP =>
  if 0≤(U ((U (a8*dX))+mD))∧(U ((U (a8*dX))+mD))<(aN.length:Nat) then
  if (0+(U ((U (a8*dX))+mD)).toNat)<aN.length then
  some (.inl (U (mD+(1:Int)),aN.set (0+(U ((U (a8*dX))+mD)).toNat) (U (aQ.pM*cP))))
  else none
  else none
  else none
  else none
 else
  some (.inr aN)
def GJ (c9:List br)(cS:List bP)(cG:List Int)(iA:List ev)(a8:Int)(gV:List Int)(fR:List (List Int))(ji hN d8 dX:Int)(ao a7:List Int)(mD:Int)(aN:List Int):Option ((List Int)):=iter (fun w:Int×(List Int)=>w1 c9 cS cG iA a8 gV fR ji hN d8 dX ao a7 w.1 w.2) (mD,aN)
theorem TV {c9:List br}{cS:List bP}{cG:List Int}{iA:List ev}{a8:Int}{gV:List Int}{fR:List (List Int)}{ji hN d8 dX:Int}{ao a7:List Int}{mD:Int}{aN:List Int}:b1 (w1 c9 cS cG iA a8 gV fR ji hN d8 dX ao a7 mD aN) (fA bt 113 0 37 [1,1,1,1,0,1,0,0,1,1,0,0,1,1,0,0] (Gr c9 cS cG iA a8 gV fR ji hN d8 dX ao a7 (mD,aN)) (Gr c9 cS cG iA a8 gV fR ji hN d8 dX ao a7) (Gu c9 cS cG iA a8 gV fR ji hN d8 dX ao a7)):=by
 unfold w1
 exact .ite (fun o =>
  .bq fun J =>
  .aw fun aQ ay =>
  .bq fun aI =>
  .aw fun cP bx =>
  .bq fun bn =>
  .bq fun cd =>
  .ret (let aR:=U ((U (a8*dX))+mD);let bb:=U (aQ.pM*cP);bT [(ad 1),.aj true,.aG (bQ 2 (.cA (ek aQ)) 3),.aG (ae 14 (ah (.cA (I cP)) (ae 2 (ah .cU [])))),(ad 2),.bp [0,1,2,3,4] [.box [.id,.id,.id,.id,.id],.box [.id,.id,.len ((aN.set (0+aR.toNat) bb).length),.id,.id],.d3 (av 1 I (aN.set (0+aR.toNat) bb)),.pure,.pure] (bO [0,1,8,10,11,12,13,46,47,48,53,54,55])] (.bj o J.1 (d9 ek J.2) (cD ek ay) aI.1 (d9 I aI.2) (cD I bx) bn.1 (.hB bn.2 (hk I cd) (gL 1) (gN (ft aN) (0+aR.toNat) bb) (eX 1 .live (fP (dV I aN) (0+aR.toNat) bb)) (aF 1 .live aD (aN.set (0+aR.toNat) bb)) (aF 1 .live aD ao) (aF 1 .live aD a7)))))
  (fun o =>
  .ret (bT [(ad 1),.aj false,.bp [0,1,2,3,4] [.box [.id,.id,.id,.id,.id],.box [.id,.id,.id,.id,.id],.pure,.pure,.pure] (bO [0,1,8,10,11,46,47,48])] (.dn o (aF 1 .live aD aN) (aF 1 .live aD ao) (aF 1 .live aD a7))))
theorem T5 {c9:List br}{cS:List bP}{cG:List Int}{iA:List ev}{a8:Int}{gV:List Int}{fR:List (List Int)}{ji hN d8 dX:Int}{ao a7:List Int}{mD:Int}{aN:List Int}{r} (h:GJ c9 cS cG iA a8 gV fR ji hN d8 dX ao a7 mD aN=some r):fB bt 113 0 37 [1,1,1,1,0,1,0,0,1,1,0,0,1,1,0,0] (Gr c9 cS cG iA a8 gV fR ji hN d8 dX ao a7) (Gu c9 cS cG iA a8 gV fR ji hN d8 dX ao a7) (mD,aN) r:=fD (fun _=>TV) h
def Gs (c9:List br)(cS:List bP)(cG:List Int)(iA:List ev)(fR:List (List Int))(ji d8 dX:Int)(ao a7:List Int):(Int×(List Int))→S:=fun (nS,aN)=>eV [(0,.eE 2 [[.isl 4 (c9.map dz),.isl 3 (cS.map dm)]] 0 0),(1,.isl 1 (cG.map I)),(8,.ref 0 0 0 0),(10,.isl 2 (iA.map ek)),(11,.ref 1 0 0 0),(46,.isl 1 (fR.map (dL 1 I))),(47,.n .i64 ji),(48,.n .i64 nS)] [[ab.mk 5 [[.n .i64 (0:Int),.n .i64 (0:Int),.eK,.eK,.eK]] .live],[ab.mk 5 [(d5 d8 dX 2 0 0 aN.length 3 0 0 ao.length 4 0 0 a7.length)] .live],(av 1 I aN),(av 1 I ao),(av 1 I a7)]
def Gv (c9:List br)(cS:List bP)(cG:List Int)(iA:List ev)(fR:List (List Int))(ji d8 dX:Int)(ao a7:List Int):(List Int)→e3
 | a=>⟨some 0,[(0,.eE 2 [[.isl 4 (c9.map dz),.isl 3 (cS.map dm)]] 0 0),(1,.isl 1 (cG.map I)),(8,.ref 0 0 0 0),(11,.ref 1 0 0 0)],[[ab.mk 5 [[.n .i64 (0:Int),.n .i64 (0:Int),.eK,.eK,.eK]] .live],[ab.mk 5 [(d5 d8 dX 2 0 0 a.length 3 0 0 ao.length 4 0 0 a7.length)] .live],(av 1 I a),(av 1 I ao),(av 1 I a7)]⟩
def w2 (c9:List br)(cS:List bP)(cG:List Int)(iA:List ev)(fR:List (List Int))(ji d8 dX:Int)(ao a7:List Int)(nS:Int)(aN:List Int):Option ((Int×(List Int))⊕((List Int))) :=
 if (decide (nS<ji))=true then
  if 0≤nS∧nS<fR.length then
  fR[nS.toNat]? >>= fun aQ =>
  GJ c9 cS cG iA nS aQ fR ji (len_ ek iA) d8 dX ao a7 0 aN >>= fun ba =>
  some (.inl (U (nS+(1:Int)),ba))
  else none
 else
  some (.inr aN)
def GK (c9:List br)(cS:List bP)(cG:List Int)(iA:List ev)(fR:List (List Int))(ji d8 dX:Int)(ao a7:List Int)(nS:Int)(aN:List Int):Option ((List Int)):=iter (fun w:Int×(List Int)=>w2 c9 cS cG iA fR ji d8 dX ao a7 w.1 w.2) (nS,aN)
theorem TW {c9:List br}{cS:List bP}{cG:List Int}{iA:List ev}{fR:List (List Int)}{ji d8 dX:Int}{ao a7:List Int}{nS:Int}{aN:List Int}:b1 (w2 c9 cS cG iA fR ji d8 dX ao a7 nS aN) (fA bt 113 0 37 [1,1,1,1,0,1,0,0] (Gs c9 cS cG iA fR ji d8 dX ao a7 (nS,aN)) (Gs c9 cS cG iA fR ji d8 dX ao a7) (Gv c9 cS cG iA fR ji d8 dX ao a7)):=by
 unfold w2
 exact .ite (fun o =>
  .bq fun J =>
  .aw fun aQ ay =>
  .aw fun ba bu =>
  .ret (bT [(ad 1),.aj true,.aG (bQ 2 (.cA ((dL 1 I) aQ)) 2),(ad 3),.bp [0,1,2,3,4] [.box [.id,.id,.id,.id,.id],.box [.id,.id,.id,.id,.id],.pure,.pure,.pure] (bO [0,1,8,10,11,12,13,46,47,48,53,54,55]),(Gu c9 cS cG iA nS aQ fR ji (len_ ek iA) d8 dX ao a7 ba).gp,(ad 2),.bp [0,1,2,3,4] [.box [.id,.id,.id,.id,.id],.box [.id,.id,.id,.id,.id],.pure,.pure,.pure] (bO [0,1,8,10,11,46,47,48])] (.bj o J.1 (d9 (dL 1 I) J.2) (cD (dL 1 I) ay) (aF 1 .live aD aN) (aF 1 .live aD ao) (aF 1 .live aD a7) (T5 bu) (.b2 (aF 1 .live aD ba) (aF 1 .live aD ao) (aF 1 .live aD a7)))))
  (fun o =>
  .ret (bT [(ad 1),.aj false,.bp [0,1,2,3,4] [.box [.id,.id,.id,.id,.id],.box [.id,.id,.id,.id,.id],.pure,.pure,.pure] (bO [0,1,8,11])] (.dn o (aF 1 .live aD aN) (aF 1 .live aD ao) (aF 1 .live aD a7))))
theorem T6 {c9:List br}{cS:List bP}{cG:List Int}{iA:List ev}{fR:List (List Int)}{ji d8 dX:Int}{ao a7:List Int}{nS:Int}{aN:List Int}{r} (h:GK c9 cS cG iA fR ji d8 dX ao a7 nS aN=some r):fB bt 113 0 37 [1,1,1,1,0,1,0,0] (Gs c9 cS cG iA fR ji d8 dX ao a7) (Gv c9 cS cG iA fR ji d8 dX ao a7) (nS,aN) r:=fD (fun _=>TW) h
def Gt (cG oE:List Int)(pi d8 dX:Int)(aN a7:List Int):(Int×(List Int))→S:=fun (kV,ao)=>eV [(1,.isl 1 (cG.map I)),(8,.ref 0 0 0 0),(11,.ref 1 0 0 0),(80,.isl 1 (oE.map I)),(81,.n .i64 pi),(82,.n .i64 kV)] [[ab.mk 5 [[.n .i64 (0:Int),.n .i64 (0:Int),.eK,.eK,.eK]] .live],[ab.mk 5 [(d5 d8 dX 2 0 0 aN.length 3 0 0 ao.length 4 0 0 a7.length)] .live],(av 1 I aN),(av 1 I ao),(av 1 I a7)]
def Gw (cG oE:List Int)(pi d8 dX:Int)(aN a7:List Int):(List Int)→e3
 | a=>⟨some 4,[(8,.ref 0 0 0 0),(11,.ref 1 0 0 0)],[[ab.mk 5 [[.n .i64 (0:Int),.n .i64 (0:Int),.eK,.eK,.eK]] .live],[ab.mk 5 [(d5 d8 dX 2 0 0 aN.length 3 0 0 a.length 4 0 0 a7.length)] .live],(av 1 I aN),(av 1 I a),(av 1 I a7)]⟩
def w3 (cG oE:List Int)(pi d8 dX:Int)(aN a7:List Int)(kV:Int)(ao:List Int):Option ((Int×(List Int))⊕((List Int))) :=
 if (decide (kV<pi))=true then
  if 0≤kV∧kV<oE.length then
  oE[kV.toNat]? >>= fun aQ =>
  if 0≤(U ((2:Int)*aQ))∧(U ((2:Int)*aQ))<cG.length then
  cG[(U ((2:Int)*aQ)).toNat]? >>= fun cP =>
  if 0≤(U ((U ((2:Int)*aQ))+(1:Int)))∧(U ((U ((2:Int)*aQ))+(1:Int)))<cG.length then
  cG[(U ((U ((2:Int)*aQ))+(1:Int))).toNat]? >>= fun gD =>
  if 0≤(U ((2:Int)*kV))∧(U ((2:Int)*kV))<(ao.length:Nat) then
  if (0+(U ((2:Int)*kV)).toNat)<ao.length then
  if 0≤(U ((U ((2:Int)*kV))+(1:Int)))∧(U ((U ((2:Int)*kV))+(1:Int)))<(ao.length:Nat) then
  if (0+(U ((U ((2:Int)*kV))+(1:Int))).toNat)<(ao.set (0+(U ((2:Int)*kV)).toNat) (U (0-cP))).length then
  some (.inl (U (kV+(1:Int)),(ao.set (0+(U ((2:Int)*kV)).toNat) (U (0-cP))).set (0+(U ((U ((2:Int)*kV))+(1:Int))).toNat) (U (0-gD))))
  else none
  else none
  else none
  else none
  else none
  else none
  else none
 else
  some (.inr ao)
def GL (cG oE:List Int)(pi d8 dX:Int)(aN a7:List Int)(kV:Int)(ao:List Int):Option ((List Int)):=iter (fun w:Int×(List Int)=>w3 cG oE pi d8 dX aN a7 w.1 w.2) (kV,ao)
theorem TX {cG oE:List Int}{pi d8 dX:Int}{aN a7:List Int}{kV:Int}{ao:List Int}:b1 (w3 cG oE pi d8 dX aN a7 kV ao) (fA bt 113 0 37 [1,1,1,1,1,0,1,0,0] (Gt cG oE pi d8 dX aN a7 (kV,ao)) (Gt cG oE pi d8 dX aN a7) (Gw cG oE pi d8 dX aN a7)):=by
 unfold w3
 exact .ite (fun o =>
  .bq fun J =>
  .aw fun aQ ay =>
  .bq fun aI =>
  .aw fun cP bx =>
  .bq fun bn =>
  .aw fun gD cV =>
  .bq fun cZ =>
  .bq fun dg =>
  .bq fun ec =>
  .bq fun eL =>
  .ret (let aR:=(U ((2:Int)*kV));let bb:=(U (aR+(1:Int)));let b7:=U (0-cP);let cC:=U (0-gD);bT [(ad 1),.aj true,.aG (bQ 2 (.cA (I aQ)) 2),.aG (ae 13 (ah (.cA (I cP)) (ae 6 (ah (.cA (I gD)) (ae 2 (ah .cU (ae 1 (ah .cU [])))))))),(ad 2),.bp [0,1,2,3,4] [.box [.id,.id,.id,.id,.id],.box [.id,.id,.id,.len (((ao.set (0+aR.toNat) b7).set (0+bb.toNat) cC).length),.id],.pure,.d3 (av 1 I ((ao.set (0+aR.toNat) b7).set (0+bb.toNat) cC)),.pure] (bO [1,8,11,80,81,82])] (.bj o J.1 (d9 I J.2) (cD I ay) aI.1 (d9 I aI.2) (cD I bx) bn.1 (.bj (d9 I bn.2) (cD I cV) cZ.1 cZ.2 (hk I dg) (gL 1) ec.1 ec.2 (.fr (Be (fP (dV I ao) (0+aR.toNat) b7) eL) (gL 1) (gN (gN (ft ao) (0+aR.toNat) b7) (0+bb.toNat) cC) (aF 1 .live aD aN) (eX 1 .live (fP (fP (dV I ao) (0+aR.toNat) b7) (0+bb.toNat) cC)) (aF 1 .live aD ((ao.set (0+aR.toNat) b7).set (0+bb.toNat) cC)) (aF 1 .live aD a7))))))
  (fun o =>
  .ret (bT [(ad 1),.aj false,.bp [0,1,2,3,4] [.box [.id,.id,.id,.id,.id],.box [.id,.id,.id,.id,.id],.pure,.pure,.pure] (bO [8,11])] (.dn o (aF 1 .live aD aN) (aF 1 .live aD ao) (aF 1 .live aD a7))))
theorem T7 {cG oE:List Int}{pi d8 dX:Int}{aN a7:List Int}{kV:Int}{ao:List Int}{r} (h:GL cG oE pi d8 dX aN a7 kV ao=some r):fB bt 113 0 37 [1,1,1,1,1,0,1,0,0] (Gt cG oE pi d8 dX aN a7) (Gw cG oE pi d8 dX aN a7) (kV,ao) r:=fD (fun _=>TX) h
def uZ (aO:ck)(cG:List Int)(nN om:Int):Option (Int×Int×(List Int)×(List Int)×(List Int)) :=
 zX aO >>= fun aq =>
 si aO >>= fun a9 =>
 if 0≤(U ((U ((len_ (dL 1 I) aq)+om))*(U ((len_ ek a9)+nN))))∧(8:Int)*(U ((U ((len_ (dL 1 I) aq)+om))*(U ((len_ ek a9)+nN))))≤281474976710656∧(U ((U ((len_ (dL 1 I) aq)+om))*(U ((len_ ek a9)+nN))))<9223372036854775808 then
 if 0≤(U ((len_ (dL 1 I) aq)+om))∧(8:Int)*(U ((len_ (dL 1 I) aq)+om))≤281474976710656∧(U ((len_ (dL 1 I) aq)+om))<9223372036854775808 then
 if 0≤(U ((len_ ek a9)+nN))∧(8:Int)*(U ((len_ ek a9)+nN))≤281474976710656∧(U ((len_ ek a9)+nN))<9223372036854775808 then
 GK aO.cE aO.b5 cG a9 aq (len_ (dL 1 I) aq) (U ((len_ (dL 1 I) aq)+om)) (U ((len_ ek a9)+nN)) (List.replicate (U ((len_ (dL 1 I) aq)+om)).toNat 0:List Int) (List.replicate (U ((len_ ek a9)+nN)).toNat 0:List Int) 0 (List.replicate (U ((U ((len_ (dL 1 I) aq)+om))*(U ((len_ ek a9)+nN)))).toNat 0:List Int) >>= fun dW =>
 tZ aO >>= fun dc =>
 GL cG dc (len_ I dc) (U ((len_ (dL 1 I) aq)+om)) (U ((len_ ek a9)+nN)) dW (List.replicate (U ((len_ ek a9)+nN)).toNat 0:List Int) 0 (List.replicate (U ((len_ (dL 1 I) aq)+om)).toNat 0:List Int) >>= fun eW =>
 some (U ((len_ (dL 1 I) aq)+om),U ((len_ ek a9)+nN),dW,eW,(List.replicate (U ((len_ ek a9)+nN)).toNat 0:List Int))
 else none
 else none
 else none
theorem Ng {aO:ck}{cG:List Int}{nN om:Int}:b1 (uZ aO cG nN om) (fun a=>Con bt 37 [.eE 2 [(gM aO)] 0 0,.isl 1 (cG.map I),.n .i64 nN,.n .i64 om] [] (.agg (d5 a.1 a.2.1 0 0 0 a.2.2.1.length 0 1 0 a.2.2.2.1.length 0 2 0 a.2.2.2.2.length)) [[ab.mk 1 (a.2.2.1.map I) .live,ab.mk 1 (a.2.2.2.1.map I) .live,ab.mk 1 (a.2.2.2.2.map I) .live]]):=by
 unfold uZ
 exact .aw fun aq J =>
  .aw fun a9 ay =>
  .bq fun aI =>
  .bq fun bu =>
  .bq fun bx =>
  .aw fun dW cd =>
  .aw fun dc cZ =>
  .aw fun eW ec =>
  .ret (let bb:=U ((len_ (dL 1 I) aq)+om);let b7:=U ((len_ ek a9)+nN);let aR:=(List.replicate b7.toNat 0:List Int);let cC:=(List.replicate bb.toNat 0:List Int);let gf:=aF 1 .live aD aR;let hc:=U (bb*b7);let en:=(List.replicate hc.toNat 0:List Int);hE [(ad 1),.aG (ae 1 (ah (bD 1 (.isl 1 (aq.map (dL 1 I))) false) (bQ 1 (bD 1 (.isl 2 (a9.map ek)) false) 2))),(ad 11),(ad 18),(ad 3),.bp [0,16,23,26,29] [.box [.id,.id,.id,.id,.id],.box [.id,.id,.len (en.length),.len (cC.length),.len (aR.length)],.d3 (av 1 I en),.d3 (av 1 I cC),.d3 (av 1 I aR)] (bO [0,1,8,10,11,46,47,48]),(Gv aO.cE aO.b5 cG a9 aq (len_ (dL 1 I) aq) bb b7 cC aR dW).gp,.aG (bQ 1 (bD 1 (.isl 1 (dc.map I)) false) 2),.bp [0,1,2,3,4] [.box [.id,.id,.id,.id,.id],.box [.id,.id,.id,.id,.id],.pure,.pure,.pure] (bO [1,8,11,80,81,82]),(Gw cG dc (len_ I dc) bb b7 dW aR eW).gp,(ad 2),.Ch [{bo:=[(2,0),(3,0),(4,0)],du:=none},{bo:=[(0,0)]}] [([.pure,.pure,.pure],none),([.box [.id,.id,.at_ 0 0 dW.length,.at_ 0 1 eW.length,.at_ 0 2 (aR.length)]],none)] [(8,.bN (.cj (.at_ 1 0 0)))]] [0] [.bw [ab.mk 1 (dW.map I) .live,ab.mk 1 (eW.map I) .live,ab.mk 1 (aR.map I) .live]] (.bj (Ux aq J) (xp a9 ay) aI.1 (Int.le_refl hc) aI.2.1 aI.2.2 bu.1 (Int.le_refl bb) (.bj bu.2.1 bu.2.2 bx.1 (Int.le_refl b7) bx.2.1 bx.2.2 (k5 hc.toNat (0:Int)) (k5 bb.toNat (0:Int)) (.bj (k5 b7.toNat (0:Int)) (eX 1 .live (kS I hc.toNat 0)) (aF 1 .live aD en) (eX 1 .live (kS I bb.toNat 0)) (aF 1 .live aD cC) (eX 1 .live (kS I b7.toNat 0)) gf (T6 cd) (.bj (C2 dc cZ) (aF 1 .live aD dW) (aF 1 .live aD cC) gf (T7 ec) (aF 1 .live aD dW) (aF 1 .live aD eW) gf (.hB (rfl:(jN [{bo:=[(2,0),(3,0),(4,0)],du:=none},{bo:=[(0,0)]}]) 0 0=some (2,0)) (rfl:dW.length=dW.length) (rfl:(jN [{bo:=[(2,0),(3,0),(4,0)],du:=none},{bo:=[(0,0)]}]) 0 1=some (3,0)) (rfl:eW.length=eW.length) (rfl:(jN [{bo:=[(2,0),(3,0),(4,0)],du:=none},{bo:=[(0,0)]}]) 0 2=some (4,0)) (rfl:aR.length=aR.length) (rfl:(jN [{bo:=[(2,0),(3,0),(4,0)],du:=none},{bo:=[(0,0)]}]) 1 0=some (0,0)) (el (fu (dd [0]) 1 fj dW) (el (fu (dd [0]) 1 fj eW) (el (fu (dd [0]) 1 fj aR) (jG (b6:=(dd [0]))))))))))) (.bN (.agg [.id,.id,.id,.id,.id])))
def s3 (a8 bY cg:Int)(k8 lD nT:List Int):Option (Nat×Nat) :=
 if 0≤(U (a8*cg)) then
 if 0≤(U ((U (a8+(1:Int)))*cg)) then
 if (U (a8*cg)).toNat≤(U ((U (a8+(1:Int)))*cg)).toNat∧(U ((U (a8+(1:Int)))*cg)).toNat≤k8.length then
 some ((0+(U (a8*cg)).toNat),((U ((U (a8+(1:Int)))*cg)).toNat-(U (a8*cg)).toNat))
 else none
 else none
 else none
theorem HE {a8 bY cg:Int}{k8 lD nT:List Int}:b1 (s3 a8 bY cg k8 lD nT) (fun a=>Con bt 68 [.ref 0 0 0 0,.n .i64 a8] [[ab.mk 5 [(d5 bY cg 1 0 0 k8.length 1 1 0 lD.length 1 2 0 nT.length)] .live],[ab.mk 1 (k8.map I) .live,ab.mk 1 (lD.map I) .live,ab.mk 1 (nT.map I) .live]] (.bC 1 0 a.1 a.2) [[ab.mk 5 [(d5 bY cg 1 0 0 k8.length 1 1 0 lD.length 1 2 0 nT.length)] .live],[ab.mk 1 (k8.map I) .live,ab.mk 1 (lD.map I) .live,ab.mk 1 (nT.map I) .live]]):=by
 unfold s3
 exact .bq fun o =>
  .bq fun J =>
  .bq fun ak =>
  .ret (let aR:=d5 bY cg 1 0 0 k8.length 1 1 0 lD.length 1 2 0 nT.length;let bb:=dd [0,1];hE [(ad 1),(ad 19)] [0,1] [.bw [ab.mk 5 [aR] .live],.bw [ab.mk 1 (k8.map I) .live,ab.mk 1 (lD.map I) .live,ab.mk 1 (nT.map I) .live]] (.fq o J ak.1 ak.2 (gS bb 5 [aR] [aR] rfl) (el (fu bb 1 fj k8) (el (fu bb 1 fj lD) (el (fu bb 1 fj nT) (jG (b6:=bb)))))))
def Gx (c9:List br)(cS:List bP)(aS hR:Int)(cG:List Int)(gy:List (List Int))(dA:Int)(oF:List Int)(dx d8 dX:Int)(fe ff:List Int):(Int×(List Int))→S:=fun (db,fZ)=>eV [(0,.eE 2 [[.isl 4 (c9.map dz),.isl 3 (cS.map dm)]] 0 0),(4,.ref 0 0 0 0),(5,.n .i64 aS),(6,.ref 1 0 0 0),(7,.n .i64 hR),(8,.isl 1 (cG.map I)),(25,.isl 1 (gy.map (dL 1 I))),(26,.n .i64 dA),(27,.n .i64 hR),(33,.isl 1 (oF.map I)),(34,.n .i64 dx),(35,.n .i64 db)] [[ab.mk 5 [[.n .i64 (0:Int),.n .i64 (0:Int),.eK,.eK,.eK]] .live],[ab.mk 5 [(d5 d8 dX 2 0 0 fZ.length 2 1 0 fe.length 2 2 0 ff.length)] .live],[ab.mk 1 (fZ.map I) .live,ab.mk 1 (fe.map I) .live,ab.mk 1 (ff.map I) .live]]
def GA (c9:List br)(cS:List bP)(aS hR:Int)(cG:List Int)(gy:List (List Int))(dA:Int)(oF:List Int)(dx d8 dX:Int)(fe ff:List Int):(List Int)→e3
 | a=>⟨some 2,[(0,.eE 2 [[.isl 4 (c9.map dz),.isl 3 (cS.map dm)]] 0 0),(4,.ref 0 0 0 0),(5,.n .i64 aS),(6,.ref 1 0 0 0),(7,.n .i64 hR),(25,.isl 1 (gy.map (dL 1 I))),(26,.n .i64 dA),(27,.n .i64 hR)],[[ab.mk 5 [[.n .i64 (0:Int),.n .i64 (0:Int),.eK,.eK,.eK]] .live],[ab.mk 5 [(d5 d8 dX 2 0 0 a.length 2 1 0 fe.length 2 2 0 ff.length)] .live],[ab.mk 1 (a.map I) .live,ab.mk 1 (fe.map I) .live,ab.mk 1 (ff.map I) .live]]⟩
def w4 (c9:List br)(cS:List bP)(aS hR:Int)(cG:List Int)(gy:List (List Int))(dA:Int)(oF:List Int)(dx d8 dX:Int)(fe ff:List Int)(db:Int)(fZ:List Int):Option ((Int×(List Int))⊕((List Int))) :=
 if (decide (db<dx))=true then
  if 0≤db∧db<oF.length then
  oF[db.toNat]? >>= fun aQ =>
  s3 (U ((2:Int)*db)) d8 dX fZ fe ff >>= fun ba =>
  if 0≤(U ((2:Int)*aQ))∧(U ((2:Int)*aQ))<cG.length then
  cG[(U ((2:Int)*aQ)).toNat]? >>= fun iH =>
  if 0≤(U (aS+hR))∧(U (aS+hR))<(ba.2:Nat) then
  if (ba.1+(U (aS+hR)).toNat)<fZ.length then
  s3 (U ((U ((2:Int)*db))+(1:Int))) d8 dX (fZ.set (ba.1+(U (aS+hR)).toNat) iH) fe ff >>= fun eW =>
  if 0≤(U ((U ((2:Int)*aQ))+(1:Int)))∧(U ((U ((2:Int)*aQ))+(1:Int)))<cG.length then
  cG[(U ((U ((2:Int)*aQ))+(1:Int))).toNat]? >>= fun wk =>
  if 0≤(U (aS+hR))∧(U (aS+hR))<(eW.2:Nat) then
  if (eW.1+(U (aS+hR)).toNat)<(fZ.set (ba.1+(U (aS+hR)).toNat) iH).length then
  some (.inl (U (db+(1:Int)),(fZ.set (ba.1+(U (aS+hR)).toNat) iH).set (eW.1+(U (aS+hR)).toNat) wk))
  else none
  else none
  else none
  else none
  else none
  else none
  else none
 else
  some (.inr fZ)
def CU (c9:List br)(cS:List bP)(aS hR:Int)(cG:List Int)(gy:List (List Int))(dA:Int)(oF:List Int)(dx d8 dX:Int)(fe ff:List Int)(db:Int)(fZ:List Int):Option ((List Int)):=iter (fun w:Int×(List Int)=>w4 c9 cS aS hR cG gy dA oF dx d8 dX fe ff w.1 w.2) (db,fZ)
theorem TY {c9:List br}{cS:List bP}{aS hR:Int}{cG:List Int}{gy:List (List Int)}{dA:Int}{oF:List Int}{dx d8 dX:Int}{fe ff:List Int}{db:Int}{fZ:List Int}:b1 (w4 c9 cS aS hR cG gy dA oF dx d8 dX fe ff db fZ) (fA bt 83 0 35 [1,1,1,0,1,0,0,1,1,0,0,1,0,1,0,0] (Gx c9 cS aS hR cG gy dA oF dx d8 dX fe ff (db,fZ)) (Gx c9 cS aS hR cG gy dA oF dx d8 dX fe ff) (GA c9 cS aS hR cG gy dA oF dx d8 dX fe ff)):=by
 unfold w4
 exact .ite (fun o =>
  .bq fun J =>
  .aw fun aQ ay =>
  .aw fun ba bu =>
  .bq fun bx =>
  .aw fun iH cd =>
  .bq fun cV =>
  .bq fun cZ =>
  .aw fun eW ec =>
  .bq fun eL =>
  .aw fun wk jq =>
  .bq fun gG =>
  .bq fun jT =>
  .ret (let bb:=U (aS+hR);let aR:=d5 d8 dX 1 0 0 ((fZ.set (ba.1+bb.toNat) iH).length) 1 1 0 fe.length 1 2 0 ff.length;let b7:=d5 d8 dX 1 0 0 fZ.length 1 1 0 fe.length 1 2 0 ff.length;let cC:=d5 d8 dX 2 0 0 fZ.length 2 1 0 fe.length 2 2 0 ff.length;let en:=el (fu (ke [1,2]) 1 fj fe) (el (fu (ke [1,2]) 1 fj ff) (jG (b6:=(ke [1,2]))));let gf:=el (fu (hK [1,2]) 1 fj fe) (el (fu (hK [1,2]) 1 fj ff) (jG (b6:=(hK [1,2]))));let hc:=d5 d8 dX 2 0 0 ((fZ.set (ba.1+bb.toNat) iH).length) 2 1 0 fe.length 2 2 0 ff.length;let fh:=dd [0,1,2];bT [(ad 1),.aj true,.aG (bQ 2 (.cA (I aQ)) 2),.aG (ae 2 (ah (.call {aM:=(lh [1,2]),cr:=[.bw [ab.mk 5 [b7] .live],.bw [ab.mk 1 (fZ.map I) .live,ab.mk 1 (fe.map I) .live,ab.mk 1 (ff.map I) .live]],ac:=[ii,ii],r:= .bC 1 0 ba.1 ba.2,dj:=[[ab.mk 5 [b7] .live],[ab.mk 1 (fZ.map I) .live,ab.mk 1 (fe.map I) .live,ab.mk 1 (ff.map I) .live]],eh:=ii,e1:=[.bw [ab.mk 5 [cC] .live],.bw [ab.mk 1 (fZ.map I) .live,ab.mk 1 (fe.map I) .live,ab.mk 1 (ff.map I) .live]],dv:=[1,2],dq:=false}) (ae 7 (ah (.cA (I iH)) (ae 1 (ah .cU [])))))),.aG (ae 3 (ah (.call {aM:=(lh [1,2]),cr:=[.bw [ab.mk 5 [aR] .live],.bw [ab.mk 1 ((fZ.set (ba.1+bb.toNat) iH).map I) .live,ab.mk 1 (fe.map I) .live,ab.mk 1 (ff.map I) .live]],ac:=[ii,ii],r:= .bC 1 0 eW.1 eW.2,dj:=[[ab.mk 5 [aR] .live],[ab.mk 1 ((fZ.set (ba.1+bb.toNat) iH).map I) .live,ab.mk 1 (fe.map I) .live,ab.mk 1 (ff.map I) .live]],eh:=ii,e1:=[.bw [ab.mk 5 [hc] .live],.bw [ab.mk 1 ((fZ.set (ba.1+bb.toNat) iH).map I) .live,ab.mk 1 (fe.map I) .live,ab.mk 1 (ff.map I) .live]],dv:=[1,2],dq:=false}) (ae 8 (ah (.cA (I wk)) (ae 1 (ah .cU [])))))),(ad 2),.bp [0,1,2] [.box [.id,.id,.id,.id,.id],.box [.id,.id,.len (((fZ.set (ba.1+bb.toNat) iH).set (eW.1+bb.toNat) wk).length),.id,.id],.bw [ab.mk 1 (((fZ.set (ba.1+bb.toNat) iH).set (eW.1+bb.toNat) wk).map I) .live,ab.mk 1 (fe.map I) .live,ab.mk 1 (ff.map I) .live]] (bO [0,4,5,6,7,8,25,26,27,33,34,35])] (.bj o J.1 (d9 I J.2) (cD I ay) (gS (ke [1,2]) 5 [b7] [cC] rfl) (gT 5 [cC]) (el (fu (ke [1,2]) 1 fj fZ) en) ((hX rfl (hX rfl (hX rfl qf))):k7 [ab.mk 1 (fZ.map I) .live,ab.mk 1 (fe.map I) .live,ab.mk 1 (ff.map I) .live]) (.bj (gS (hK [1,2]) 5 [cC] [b7] rfl) (gT 5 [b7]) (el (fu (hK [1,2]) 1 fj fZ) gf) ((hX rfl (hX rfl (hX rfl qf))):k7 [ab.mk 1 (fZ.map I) .live,ab.mk 1 (fe.map I) .live,ab.mk 1 (ff.map I) .live]) (HE ba bu) bx.1 (d9 I bx.2) (cD I cd) (.bj cV.1 cV.2 (hk I cZ) (gL 1) (el (show ab.mk 5 [(d5 d8 dX 1 0 0 ((fZ.set (ba.1+(U (aS+hR)).toNat) iH).length) 1 1 0 fe.length 1 2 0 ff.length)] .live=ko (ke [1,2]) (ab.mk 5 [(d5 d8 dX 2 0 0 fZ.length 2 1 0 fe.length 2 2 0 ff.length)] .live) from (congrArg (fun MT=>ab.mk 5 [(d5 d8 dX 1 0 0 MT 1 1 0 fe.length 1 2 0 ff.length)] .live) (gN (ft fZ) (ba.1+(U (aS+hR)).toNat) iH).symm)) jG) (gT 5 [cC]) (el (rl (b6:=(ke [1,2])) 1 .live I (fP (dV I fZ) (ba.1+bb.toNat) iH) (mX fj)) en) ((hX rfl (hX rfl (hX rfl qf))):k7 [ab.mk 1 ((fZ.map I).set (ba.1+bb.toNat) [.n .i64 iH]) .live,ab.mk 1 (fe.map I) .live,ab.mk 1 (ff.map I) .live]) (.bj (gS (hK [1,2]) 5 [hc] [aR] rfl) (gT 5 [aR]) (el (fu (hK [1,2]) 1 fj (fZ.set (ba.1+bb.toNat) iH)) gf) ((hX rfl (hX rfl (hX rfl qf))):k7 [ab.mk 1 ((fZ.set (ba.1+bb.toNat) iH).map I) .live,ab.mk 1 (fe.map I) .live,ab.mk 1 (ff.map I) .live]) (HE eW ec) eL.1 (d9 I eL.2) (cD I jq) (.fq gG.1 gG.2 (hk I jT) (gL 1) (gN (ft (fZ.set (ba.1+bb.toNat) iH)) (eW.1+bb.toNat) wk) (el (rl (b6:=fh) 1 .live I (fP (dV I (fZ.set (ba.1+bb.toNat) iH)) (eW.1+bb.toNat) wk) (mX fj)) (el (fu fh 1 fj fe) (el (fu fh 1 fj ff) (jG (b6:=fh))))))))))))
  (fun o =>
  .ret (let hO:=dd [0,1,2];bT [(ad 1),.aj false,.bp [0,1,2] [.box [.id,.id,.id,.id,.id],.box [.id,.id,.id,.id,.id],.bw [ab.mk 1 (fZ.map I) .live,ab.mk 1 (fe.map I) .live,ab.mk 1 (ff.map I) .live]] (bO [0,4,5,6,7,25,26,27])] (.aH o (el (fu hO 1 fj fZ) (el (fu hO 1 fj fe) (el (fu hO 1 fj ff) (jG (b6:=hO))))))))
theorem T9 {c9:List br}{cS:List bP}{aS hR:Int}{cG:List Int}{gy:List (List Int)}{dA:Int}{oF:List Int}{dx d8 dX:Int}{fe ff:List Int}{db:Int}{fZ:List Int}{r} (h:CU c9 cS aS hR cG gy dA oF dx d8 dX fe ff db fZ=some r):fB bt 83 0 35 [1,1,1,0,1,0,0,1,1,0,0,1,0,1,0,0] (Gx c9 cS aS hR cG gy dA oF dx d8 dX fe ff) (GA c9 cS aS hR cG gy dA oF dx d8 dX fe ff) (db,fZ) r:=fD (fun _=>TY) h
def Gy (c9:List br)(cS:List bP)(aS:Int)(gy:List (List Int))(dA d8 dX:Int)(fe ff:List Int):(Int×(List Int))→S:=fun (d2,fZ)=>eV [(0,.eE 2 [[.isl 4 (c9.map dz),.isl 3 (cS.map dm)]] 0 0),(4,.ref 0 0 0 0),(5,.n .i64 aS),(6,.ref 1 0 0 0),(25,.isl 1 (gy.map (dL 1 I))),(26,.n .i64 dA),(27,.n .i64 d2)] [[ab.mk 5 [[.n .i64 (0:Int),.n .i64 (0:Int),.eK,.eK,.eK]] .live],[ab.mk 5 [(d5 d8 dX 2 0 0 fZ.length 2 1 0 fe.length 2 2 0 ff.length)] .live],[ab.mk 1 (fZ.map I) .live,ab.mk 1 (fe.map I) .live,ab.mk 1 (ff.map I) .live]]
def GB (c9:List br)(cS:List bP)(aS:Int)(gy:List (List Int))(dA d8 dX:Int)(fe ff:List Int):(List Int)→e3
 | a=>⟨some 0,[(4,.ref 0 0 0 0),(6,.ref 1 0 0 0)],[[ab.mk 5 [[.n .i64 (0:Int),.n .i64 (0:Int),.eK,.eK,.eK]] .live],[ab.mk 5 [(d5 d8 dX 2 0 0 a.length 2 1 0 fe.length 2 2 0 ff.length)] .live],[ab.mk 1 (a.map I) .live,ab.mk 1 (fe.map I) .live,ab.mk 1 (ff.map I) .live]]⟩
def w5 (c9:List br)(cS:List bP)(aS:Int)(gy:List (List Int))(dA d8 dX:Int)(fe ff:List Int)(d2:Int)(fZ:List Int):Option ((Int×(List Int))⊕((List Int))) :=
 if (decide (d2<dA))=true then
  if 0≤d2∧d2<gy.length then
  gy[d2.toNat]? >>= fun aQ =>
  tZ (⟨c9,cS⟩:ck) >>= fun ba =>
  CU c9 cS aS d2 aQ gy dA ba (len_ I ba) d8 dX fe ff 0 fZ >>= fun bI =>
  s3 (U (d8-(1:Int))) d8 dX bI fe ff >>= fun bk =>
  if 0≤(U (aS+d2))∧(U (aS+d2))<(bk.2:Nat) then
  if (bk.1+(U (aS+d2)).toNat)<bI.length then
  some (.inl (U (d2+(1:Int)),bI.set (bk.1+(U (aS+d2)).toNat) 1))
  else none
  else none
  else none
 else
  some (.inr fZ)
def CV (c9:List br)(cS:List bP)(aS:Int)(gy:List (List Int))(dA d8 dX:Int)(fe ff:List Int)(d2:Int)(fZ:List Int):Option ((List Int)):=iter (fun w:Int×(List Int)=>w5 c9 cS aS gy dA d8 dX fe ff w.1 w.2) (d2,fZ)
theorem TZ {c9:List br}{cS:List bP}{aS:Int}{gy:List (List Int)}{dA d8 dX:Int}{fe ff:List Int}{d2:Int}{fZ:List Int}:b1 (w5 c9 cS aS gy dA d8 dX fe ff d2 fZ) (fA bt 83 0 35 [1,1,1,0,1,0,0] (Gy c9 cS aS gy dA d8 dX fe ff (d2,fZ)) (Gy c9 cS aS gy dA d8 dX fe ff) (GB c9 cS aS gy dA d8 dX fe ff)):=by
 unfold w5
 exact .ite (fun o =>
  .bq fun J =>
  .aw fun aQ ay =>
  .aw fun ba bu =>
  .aw fun bI bn =>
  .aw fun bk cV =>
  .bq fun cZ =>
  .bq fun dg =>
  .ret (let aR:=d5 d8 dX 1 0 0 bI.length 1 1 0 fe.length 1 2 0 ff.length;let bb:=d5 d8 dX 2 0 0 bI.length 2 1 0 fe.length 2 2 0 ff.length;let b7:=el (fu (dd [0,1,2]) 1 fj fe) (el (fu (dd [0,1,2]) 1 fj ff) (jG (b6:=(dd [0,1,2]))));let cC:=U (aS+d2);bT [(ad 1),.aj true,.aG (bQ 2 (.cA ((dL 1 I) aQ)) 2),.aG (bQ 1 (bD 1 (.isl 1 (ba.map I)) false) 2),.bp [0,1,2] [.box [.id,.id,.id,.id,.id],.box [.id,.id,.id,.id,.id],.bw [ab.mk 1 (fZ.map I) .live,ab.mk 1 (fe.map I) .live,ab.mk 1 (ff.map I) .live]] (bO [0,4,5,6,7,8,25,26,27,33,34,35]),(GA c9 cS aS d2 aQ gy dA ba (len_ I ba) d8 dX fe ff bI).gp,.aG (ae 3 (ah (.call {aM:=(lh [1,2]),cr:=[.bw [ab.mk 5 [aR] .live],.bw [ab.mk 1 (bI.map I) .live,ab.mk 1 (fe.map I) .live,ab.mk 1 (ff.map I) .live]],ac:=[ii,ii],r:= .bC 1 0 bk.1 bk.2,dj:=[[ab.mk 5 [aR] .live],[ab.mk 1 (bI.map I) .live,ab.mk 1 (fe.map I) .live,ab.mk 1 (ff.map I) .live]],eh:=ii,e1:=[.bw [ab.mk 5 [bb] .live],.bw [ab.mk 1 (bI.map I) .live,ab.mk 1 (fe.map I) .live,ab.mk 1 (ff.map I) .live]],dv:=[1,2],dq:=false}) (ae 4 (ah .cU [])))),(ad 2),.bp [0,1,2] [.box [.id,.id,.id,.id,.id],.box [.id,.id,.len ((bI.set (bk.1+cC.toNat) 1).length),.id,.id],.bw [ab.mk 1 ((bI.set (bk.1+cC.toNat) 1).map I) .live,ab.mk 1 (fe.map I) .live,ab.mk 1 (ff.map I) .live]] (bO [0,4,5,6,25,26,27])] (.bj o J.1 (d9 (dL 1 I) J.2) (cD (dL 1 I) ay) (C2 ba bu) (el (fu (dd [0,1,2]) 1 fj fZ) b7) (T9 bn) (gS (ke [1,2]) 5 [aR] [bb] rfl) (.bj (gT 5 [bb]) (el (fu (ke [1,2]) 1 fj bI) (el (fu (ke [1,2]) 1 fj fe) (el (fu (ke [1,2]) 1 fj ff) (jG (b6:=(ke [1,2])))))) ((hX rfl (hX rfl (hX rfl qf))):k7 [ab.mk 1 (bI.map I) .live,ab.mk 1 (fe.map I) .live,ab.mk 1 (ff.map I) .live]) (gS (hK [1,2]) 5 [bb] [aR] rfl) (gT 5 [aR]) (el (fu (hK [1,2]) 1 fj bI) (el (fu (hK [1,2]) 1 fj fe) (el (fu (hK [1,2]) 1 fj ff) (jG (b6:=(hK [1,2])))))) ((hX rfl (hX rfl (hX rfl qf))):k7 [ab.mk 1 (bI.map I) .live,ab.mk 1 (fe.map I) .live,ab.mk 1 (ff.map I) .live]) (HE bk cV) (.fq cZ.1 cZ.2 (hk I dg) (gL 1) (gN (ft bI) (bk.1+cC.toNat) 1) (el (rl (b6:=(dd [0,1,2])) 1 .live I (fP (dV I bI) (bk.1+cC.toNat) 1) (mX fj)) b7))))))
  (fun o =>
  .ret (let en:=dd [0,1,2];bT [(ad 1),.aj false,.bp [0,1,2] [.box [.id,.id,.id,.id,.id],.box [.id,.id,.id,.id,.id],.bw [ab.mk 1 (fZ.map I) .live,ab.mk 1 (fe.map I) .live,ab.mk 1 (ff.map I) .live]] (bO [4,6])] (.aH o (el (fu en 1 fj fZ) (el (fu en 1 fj fe) (el (fu en 1 fj ff) (jG (b6:=en))))))))
theorem Ua {c9:List br}{cS:List bP}{aS:Int}{gy:List (List Int)}{dA d8 dX:Int}{fe ff:List Int}{d2:Int}{fZ:List Int}{r} (h:CV c9 cS aS gy dA d8 dX fe ff d2 fZ=some r):fB bt 83 0 35 [1,1,1,0,1,0,0] (Gy c9 cS aS gy dA d8 dX fe ff) (GB c9 cS aS gy dA d8 dX fe ff) (d2,fZ) r:=fD (fun _=>TZ) h
def xd (aO:ck)(ki:List (List Int)):Option (Int×Int×(List Int)×(List Int)×(List Int)) :=
 si aO >>= fun aq =>
 if 0≤(U ((2:Int)*(len_ dz aO.cE)))∧(8:Int)*(U ((2:Int)*(len_ dz aO.cE)))≤281474976710656∧(U ((2:Int)*(len_ dz aO.cE)))<9223372036854775808 then
 uZ aO (List.replicate (U ((2:Int)*(len_ dz aO.cE))).toNat 0:List Int) (len_ (dL 1 I) ki) 1 >>= fun aW =>
 CV aO.cE aO.b5 (len_ ek aq) ki (len_ (dL 1 I) ki) aW.1 aW.2.1 aW.2.2.2.1 aW.2.2.2.2 0 aW.2.2.1 >>= fun a5 =>
 if 0≤(U (aW.1-(1:Int)))∧(U (aW.1-(1:Int)))<(aW.2.2.2.1.length:Nat) then
 if (0+(U (aW.1-(1:Int))).toNat)<aW.2.2.2.1.length then
 some (aW.1,aW.2.1,a5,aW.2.2.2.1.set (0+(U (aW.1-(1:Int))).toNat) 1,aW.2.2.2.2)
 else none
 else none
 else none
theorem Nh {aO:ck}{ki:List (List Int)}:b1 (xd aO ki) (fun a=>Con bt 35 [.eE 2 [(gM aO)] 0 0,.isl 1 (ki.map (dL 1 I))] [] (.agg (d5 a.1 a.2.1 0 0 0 a.2.2.1.length 0 1 0 a.2.2.2.1.length 0 2 0 a.2.2.2.2.length)) [[ab.mk 1 (a.2.2.1.map I) .live,ab.mk 1 (a.2.2.2.1.map I) .live,ab.mk 1 (a.2.2.2.2.map I) .live]]):=by
 unfold xd
 exact .aw fun aq J =>
  .bq fun ak =>
  .aw fun aW aI =>
  .aw fun a5 bx =>
  .bq fun bn =>
  .bq fun cd =>
  .ret (let aR:=(U ((2:Int)*(len_ dz aO.cE)));let bb:=(U (aW.1-(1:Int)));let b7:=dd [0,16,15];let cC:=(List.replicate aR.toNat 0:List Int);hE [(ad 1),.aG (bQ 1 (bD 1 (.isl 2 (aq.map ek)) false) 2),.aG (bQ 10 (.call {aM:=[],cr:=[],ac:=[ii,.bN (.cj (.gn (cC.map I))),ii,ii],r:= .agg (d5 aW.1 aW.2.1 0 0 0 aW.2.2.1.length 0 1 0 aW.2.2.2.1.length 0 2 0 aW.2.2.2.2.length),dj:=[[ab.mk 1 (aW.2.2.1.map I) .live,ab.mk 1 (aW.2.2.2.1.map I) .live,ab.mk 1 (aW.2.2.2.2.map I) .live]],eh:= .bN (.agg [.id,.id,.id,.id,.id]),e1:=[.bw [ab.mk 1 (aW.2.2.1.map I) .live,ab.mk 1 (aW.2.2.2.1.map I) .live,ab.mk 1 (aW.2.2.2.2.map I) .live]],dv:=[12],dq:=true}) 2),(ad 3),.bp [0,16,15] [.box [.id,.id,.id,.id,.id],.box [.id,.id,.id,.id,.id],.bw [ab.mk 1 (aW.2.2.1.map I) .live,ab.mk 1 (aW.2.2.2.1.map I) .live,ab.mk 1 (aW.2.2.2.2.map I) .live]] (bO [0,4,5,6,25,26,27]),(GB aO.cE aO.b5 (len_ ek aq) ki (len_ (dL 1 I) ki) aW.1 aW.2.1 aW.2.2.2.1 aW.2.2.2.2 a5).gp,.aG (ae 6 (ah .cU [])),(ad 2)] [2] [.bw [ab.mk 1 (a5.map I) .live,ab.mk 1 ((aW.2.2.2.1.set (0+bb.toNat) 1).map I) .live,ab.mk 1 (aW.2.2.2.2.map I) .live]] (.bj (xp aq J) ak.1 (Int.le_refl aR) ak.2.1 ak.2.2 (lO (kS I aR.toNat 0) (k5 aR.toNat (0:Int))) (nO (kS I aR.toNat 0) (k5 aR.toNat (0:Int))) (e9 aD cC) (.bj (el (fu (hK [15]) 1 fj aW.2.2.1) (el (fu (hK [15]) 1 fj aW.2.2.2.1) (el (fu (hK [15]) 1 fj aW.2.2.2.2) (jG (b6:=(hK [15])))))) ((hX rfl (hX rfl (hX rfl qf))):k7 [ab.mk 1 (aW.2.2.1.map I) .live,ab.mk 1 (aW.2.2.2.1.map I) .live,ab.mk 1 (aW.2.2.2.2.map I) .live]) (Ng aW aI) (cz.agg (k4 (cz.n .i64 aW.1) (k4 (cz.n .i64 aW.2.1) (k4 (cz.bC 0 0 0 aW.2.2.1.length) (k4 (cz.bC 0 1 0 aW.2.2.2.1.length) (k4 (cz.bC 0 2 0 aW.2.2.2.2.length) yV)))))) ((yB (pG (o7 pJ) (pG (o7 pJ) (pG (o7 pJ) yK))) yJ):rZ [[ab.mk 1 (aW.2.2.1.map I) .live,ab.mk 1 (aW.2.2.2.1.map I) .live,ab.mk 1 (aW.2.2.2.2.map I) .live]]) (el (fu b7 1 fj aW.2.2.1) (el (fu b7 1 fj aW.2.2.2.1) (el (fu b7 1 fj aW.2.2.2.2) (jG (b6:=b7))))) (Ua bx) bn.1 (.ej bn.2 (hk I cd) (gL 1) (el (fu (dd [2]) 1 fj a5) (el (rl (b6:=(dd [2])) 1 .live I (fP (dV I aW.2.2.2.1) (0+bb.toNat) 1) (mX fj)) (el (fu (dd [2]) 1 fj aW.2.2.2.2) (jG (b6:=(dd [2])))))) (gN (ft aW.2.2.2.1) (0+bb.toNat) 1)))) (.bN (.agg [.id,.id,.id,.len ((aW.2.2.2.1.set (0+bb.toNat) 1).length),.id])))
def GY (bV hs:Int)(c6:List ev)(cL aK aE:Int)(ag aN:List Int):(Int×(List Int))→S:=fun (bU,ao)=>eV [(1,.ref 0 0 0 0),(2,.n .i64 bV),(3,.n .i64 hs),(11,.isl 2 (c6.map ek)),(12,.n .i64 cL),(13,.n .i64 bU)] [[ab.mk 5 [(d5 aK aE 1 0 0 ag.length 2 0 0 aN.length 3 0 0 ao.length)] .live],(av 1 I ag),(av 1 I aN),(av 1 I ao)]
def G7 (bV hs:Int)(c6:List ev)(cL aK aE:Int)(ag aN:List Int):(List Int)→e3
 | a=>⟨some 0,[],[[ab.mk 5 [(d5 aK aE 1 0 0 ag.length 2 0 0 aN.length 3 0 0 a.length)] .live],(av 1 I ag),(av 1 I aN),(av 1 I a)]⟩
def xe (bV hs:Int)(c6:List ev)(cL aK aE:Int)(ag aN:List Int)(bU:Int)(ao:List Int):Option ((Int×(List Int))⊕((List Int))) :=
 if (decide (bU<cL))=true then
  if 0≤bU∧bU<c6.length then
  c6[bU.toNat]? >>= fun aQ =>
  if 0≤bU∧bU<(ao.length:Nat) then
  if (0+bU.toNat)<ao.length then
  if (aQ.hr == bV)=true then
   if (0+bU.toNat)<(ao.set (0+bU.toNat) 0).length then
   some (.inl (U (bU+(1:Int)),(ao.set (0+bU.toNat) 0).set (0+bU.toNat) (U (hs*aQ.pM))))
   else none
  else
   some (.inl (U (bU+(1:Int)),ao.set (0+bU.toNat) 0))
  else none
  else none
  else none
 else
  some (.inr ao)
def Hn (bV hs:Int)(c6:List ev)(cL aK aE:Int)(ag aN:List Int)(bU:Int)(ao:List Int):Option ((List Int)):=iter (fun w:Int×(List Int)=>xe bV hs c6 cL aK aE ag aN w.1 w.2) (bU,ao)
theorem Um {bV hs:Int}{c6:List ev}{cL aK aE:Int}{ag aN:List Int}{bU:Int}{ao:List Int}:b1 (xe bV hs c6 cL aK aE ag aN bU ao) (fA bt 39 4 42 [1,0,0] (GY bV hs c6 cL aK aE ag aN (bU,ao)) (GY bV hs c6 cL aK aE ag aN) (G7 bV hs c6 cL aK aE ag aN)):=by
 unfold xe
 exact .ite (fun o =>
  .bq fun J =>
  .aw fun aQ ay =>
  .bq fun aI =>
  .bq fun bu =>
  (let t1:List cK:=[(ad 1),.aj true,.aG (bQ 2 (.cA (ek aQ)) 3),.aG (ae 6 (ah .cU [])),(ad 4)];
  have a4:=((.hB o J.1 (d9 ek J.2) (cD ek ay) aI.1 aI.2 (hk I bu) (gL 1)):c1 _);
  .ite (fun bx =>
  .bq fun bn =>
  .ret (let aR:=U (hs*aQ.pM);bT (t1.append [.aj true,.aG (ae 10 (ah .cU [])),(ad 2),.bp [0,1,2,3] [.box [.id,.id,.id,.id,.len (((ao.set (0+bU.toNat) 0).set (0+bU.toNat) aR).length)],.pure,.pure,.d3 (av 1 I ((ao.set (0+bU.toNat) 0).set (0+bU.toNat) aR))] (bO [1,2,3,11,12,13])]) (a4.aZ (.bj bx aI.1 aI.2 (Be (fP (dV I ao) (0+bU.toNat) 0) bn) (gL 1) (gN (gN (ft ao) (0+bU.toNat) 0) (0+bU.toNat) aR) (aF 1 .live aD ag) (aF 1 .live aD aN) (.aH (eX 1 .live (fP (fP (dV I ao) (0+bU.toNat) 0) (0+bU.toNat) aR)) (aF 1 .live aD ((ao.set (0+bU.toNat) 0).set (0+bU.toNat) aR)))))))
  (fun bx =>
  .ret (bT (t1.append [.aj false,(ad 2),.bp [0,1,2,3] [.box [.id,.id,.id,.id,.len ((ao.set (0+bU.toNat) 0).length)],.pure,.pure,.d3 (av 1 I (ao.set (0+bU.toNat) 0))] (bO [1,2,3,11,12,13])]) (a4.aZ (.fq bx (gN (ft ao) (0+bU.toNat) 0) (aF 1 .live aD ag) (aF 1 .live aD aN) (eX 1 .live (fP (dV I ao) (0+bU.toNat) 0)) (aF 1 .live aD (ao.set (0+bU.toNat) 0))))))))
  (fun o =>
  .ret (bT [(ad 1),.aj false,.bp [0,1,2,3] [.box [.id,.id,.id,.id,.id],.pure,.pure,.pure] []] (.dn o (aF 1 .live aD ag) (aF 1 .live aD aN) (aF 1 .live aD ao))))
theorem UF {bV hs:Int}{c6:List ev}{cL aK aE:Int}{ag aN:List Int}{bU:Int}{ao:List Int}{r} (h:Hn bV hs c6 cL aK aE ag aN bU ao=some r):fB bt 39 4 42 [1,0,0] (GY bV hs c6 cL aK aE ag aN) (G7 bV hs c6 cL aK aE ag aN) (bU,ao) r:=fD (fun _=>Um) h
def t0 (aO:ck)(bV hs bY cg:Int)(cf d1 dh:List Int):Option (List Int) :=
 si aO >>= fun aq =>
 Hn bV hs aq (len_ ek aq) bY cg cf d1 0 dh >>= fun a9 =>
 some a9
theorem Ho {aO:ck}{bV hs bY cg:Int}{cf d1 dh:List Int}:b1 (t0 aO bV hs bY cg cf d1 dh) (fun a=>Con bt 42 [.eE 2 [(gM aO)] 0 0,.ref 0 0 0 0,.n .i64 bV,.n .i64 hs] [[ab.mk 5 [(d5 bY cg 1 0 0 cf.length 2 0 0 d1.length 3 0 0 dh.length)] .live],(av 1 I cf),(av 1 I d1),(av 1 I dh)] (.df []) [[ab.mk 5 [(d5 bY cg 1 0 0 cf.length 2 0 0 d1.length 3 0 0 a.length)] .live],(av 1 I cf),(av 1 I d1),(av 1 I a)]):=by
 unfold t0
 exact .aw fun aq J =>
  .aw fun a9 ay =>
  .ret (let aR:=d5 bY cg 1 0 0 cf.length 2 0 0 d1.length 3 0 0 a9.length;hE [.aG (bQ 1 (bD 1 (.isl 2 (aq.map ek)) false) 2),.bp [0,1,2,3] [.box [.id,.id,.id,.id,.id],.pure,.pure,.pure] (bO [1,2,3,11,12,13]),(G7 bV hs aq (len_ ek aq) bY cg cf d1 a9).gp] [0,1,2,3] [.bw [ab.mk 5 [aR] .live],.pure,.pure,.pure] (.bj (xp aq J) (aF 1 .live aD cf) (aF 1 .live aD d1) (aF 1 .live aD dh) (UF ay) (gS (dd [0,1,2,3]) 5 [aR] [aR] rfl) (aF 1 .live aD cf) (aF 1 .live aD d1) (.az (aF 1 .live aD a9))))
def HN:(Int×(List Int))→S:=fun (aS,au)=>eV [(0,.n .u64 aS),(3,.bC 0 0 0 au.length)] [(av 1 I au)]
def H8:(List Int)→e3
 | a=>⟨some 0,[(3,.bC 0 0 0 a.length)],[(av 1 I a)]⟩
def xB (aS:Int)(au:List Int):Option ((Int×(List Int))⊕((List Int))) :=
 if (decide ((0:Int)<aS))=true then
  if (au++([IntKind.wrap .i64 (aS.tmod (1000000000:Int))]:List Int)).length*8≤140737488355328 then
  some (.inl (IntKind.wrap .u64 (aS.tdiv (1000000000:Int)),au++([IntKind.wrap .i64 (aS.tmod (1000000000:Int))]:List Int)))
  else none
 else
  some (.inr au)
def I3 (aS:Int)(au:List Int):Option ((List Int)):=iter (fun w:Int×(List Int)=>xB w.1 w.2) (aS,au)
theorem U2 {aS:Int}{au:List Int}:b1 (xB aS au) (fA bt 15 0 98 [1,1,0,0,0] (HN (aS,au)) (HN) (H8)):=by
 unfold xB
 exact .ite (fun o =>
  .bq fun J =>
  .ret (let aR:=(au++([(IntKind.wrap .i64 (aS.tmod (1000000000:Int)))]:List Int));bT [(ad 2),.aj true,.aG (bQ 5 (.aZ (aR.length)) 1),(ad 3),.bp [8] [.d3 (av 1 I aR)] (bO [0,3])] (.bj o (by decide:(1000000000:Int)≠0) (mN I (IntKind.wrap .i64 (aS.tmod (1000000000:Int)))) (r9 I au) (oY I au (IntKind.wrap .i64 (aS.tmod (1000000000:Int)))) J (by decide:(1000000000:Int)≠0) (eX 1 .live (sa I au (IntKind.wrap .i64 (aS.tmod (1000000000:Int))))) (.az (aF 1 .live aD aR)))))
  (fun o =>
  .ret (bT [(ad 2),.aj false,.bp [0] [.pure] (bO [3])] (.aH o (aF 1 .live aD au))))
theorem VP {aS:Int}{au:List Int}{r} (h:I3 aS au=some r):fB bt 15 0 98 [1,1,0,0,0] (HN) (H8) (aS,au) r:=fD (fun _=>U2) h
def vd (aS:Int):Option (List Int) :=
 I3 aS ([]:List Int) >>= fun aq =>
 some aq
theorem I4 {aS:Int}:b1 (vd aS) (fun r=>Con bt 98 [.n .u64 aS] [] (.isl 1 (r.map I)) []):=by
 unfold vd
 exact .aw fun aq J =>
  .ret (bW [(ad 1),(ad 1),.uz 3 1,.bp [2] [.d3 (av 1 I ([]:List Int))] [(0,ii),(3,gQ (([]:List Int).length))],(H8 aq).gp,(ad 2)] (.fr (eX 1 .live (tX I)) (aF 1 .live aD ([]:List Int)) (my Int) (VP J) (kp I aq) (jA I aq) (e9 aD aq)) (.bN (.cj (.gn (aq.map I)))))
def lu (E9:Bool)(y7:List Int):Option bg :=
 if E9=true then
  some (⟨(decide ((0:Int)<(len_ I y7))),y7⟩:bg)
 else
  some (⟨false,y7⟩:bg)
theorem so {E9:Bool}{y7:List Int}:b1 (lu E9 y7) (fun r=>Con bt 95 [.b E9,.isl 1 (y7.map I)] [] (.agg (aT r)) []):=by
 unfold lu
 exact .ite (fun o =>
  .ret (bW [(ad 1),.aG (bQ 5 (.aj true) 3)] (.dn o o o o)))
  (fun o =>
  .ret (bW [(ad 1),.aG (ae 2 (cm 3 (ah (.aj false) (ae 3 []))))] (.dn o o o o)))
def oi (aS:Int):Option bg :=
 if (decide (aS<(0:Int)))=true then
  vd (IntKind.wrap .u64 ((IntKind.wrap .u64 (U (0-(U (aS+(1:Int))))))+(1:Int))) >>= fun bE =>
  lu true bE >>= fun aW =>
  some aW
 else
  vd (IntKind.wrap .u64 aS) >>= fun bE =>
  lu false bE >>= fun aW =>
  some aW
theorem sl {aS:Int}:b1 (oi aS) (fun r=>Con bt 79 [.n .i64 aS] [] (.agg (aT r)) []):=by
 unfold oi
 exact .ite (fun o =>
  .aw fun bE ak =>
  .aw fun aW aI =>
  .ret (bW [(ad 1),(ad 2),.aj true,.aG (ae 5 (ah (bD 1 (.isl 1 (bE.map I)) false) (ah (bD 2 (.agg (aT aW)) false) (ae 1 []))))] (.b2 o (I4 bE ak) (so aW aI))))
  (fun o =>
  .aw fun bE ak =>
  .aw fun aW aI =>
  .ret (bW [(ad 1),(ad 2),.aj false,.aG (ae 2 (ah (bD 1 (.isl 1 (bE.map I)) false) (ah (bD 2 (.agg (aT aW)) false) (ae 1 []))))] (.b2 o (I4 bE ak) (so aW aI))))
def Dh (a8 bY cg:Int)(cf d1 dh:List Int):Option (Nat×Nat) :=
 if 0≤(U (a8*cg)) then
 if 0≤(U ((U (a8+(1:Int)))*cg)) then
 if (U (a8*cg)).toNat≤(U ((U (a8+(1:Int)))*cg)).toNat∧(U ((U (a8+(1:Int)))*cg)).toNat≤cf.length then
 some ((0+(U (a8*cg)).toNat),((U ((U (a8+(1:Int)))*cg)).toNat-(U (a8*cg)).toNat))
 else none
 else none
 else none
theorem Nx {a8 bY cg:Int}{cf d1 dh:List Int}:b1 (Dh a8 bY cg cf d1 dh) (fun a=>Con bt 68 [.ref 0 0 0 0,.n .i64 a8] [[ab.mk 5 [(d5 bY cg 1 0 0 cf.length 2 0 0 d1.length 3 0 0 dh.length)] .live],(av 1 I cf),(av 1 I d1),(av 1 I dh)] (.bC 1 0 a.1 a.2) [[ab.mk 5 [(d5 bY cg 1 0 0 cf.length 2 0 0 d1.length 3 0 0 dh.length)] .live],(av 1 I cf),(av 1 I d1),(av 1 I dh)]):=by
 unfold Dh
 exact .bq fun o =>
  .bq fun J =>
  .bq fun ak =>
  .ret (let aR:=d5 bY cg 1 0 0 cf.length 2 0 0 d1.length 3 0 0 dh.length;hE [(ad 1),(ad 19)] [0,1,2,3] [.bw [ab.mk 5 [aR] .live],.pure,.pure,.pure] (.hB o J ak.1 ak.2 (gS (dd [0,1,2,3]) 5 [aR] [aR] rfl) (aF 1 .live aD cf) (aF 1 .live aD d1) (aF 1 .live aD dh)))
def I5 (aO:List Int)(dl eC:Int):Int→S:=fun eP=>eV [(0,.isl 1 (aO.map I)),(1,.n .i64 dl),(7,.n .i64 eC),(8,.n .i64 eP)] []
def Og (aO:List Int)(dl eC:Int):((Unit)⊕(Int))→e3
 | .inl a=>⟨some 0,[],[]⟩
 | .inr a=>⟨none,[(4,.n .i64 a)],[]⟩
def xZ (aO:List Int)(dl eC eP:Int):Option ((Int)⊕((Unit)⊕(Int))) :=
 if (decide (eP<eC))=true then
  if 0≤eP∧eP<aO.length then
  aO[eP.toNat]? >>= fun aQ =>
  if (dl == aQ)=true then
   some (.inr (.inr eP))
  else
   some (.inl (U (eP+(1:Int))))
  else none
 else
  some (.inr (.inl ()))
def JL (aO:List Int)(dl eC eP:Int):Option ((Unit)⊕(Int)):=iter (fun w:Int=>xZ aO dl eC w) eP
theorem VQ {aO:List Int}{dl eC eP:Int}:b1 (xZ aO dl eC eP) (fA bt 19 0 111 [1,0,1,0,0] (I5 aO dl eC eP) (I5 aO dl eC) (Og aO dl eC)):=by
 unfold xZ
 exact .ite (fun o =>
  .bq fun J =>
  .aw fun aQ ay =>
  (let t1:List cK:=[(ad 1),.aj true,(ad 2),.aG (bQ 4 (.cA (I aQ)) 1)];
  have a4:=((.dn o J.1 (d9 I J.2) (cD I ay)):c1 _);
  .ite (fun aI =>
  .ret (bT (t1.append [.aj true,(ad 2),.bp [] [] (bO [4])]) (a4.aZ (.az aI))))
  (fun aI =>
  .ret (bT (t1.append [.aj false,(ad 2),.bp [] [] (bO [0,1,7,8])]) (a4.aZ (.az aI))))))
  (fun o =>
  .ret (bT [(ad 1),.aj false,.bp [] [] []] (.az o)))
theorem Ot {aO:List Int}{dl eC eP:Int}{r} (h:JL aO dl eC eP=some r):fB bt 19 0 111 [1,0,1,0,0] (I5 aO dl eC) (Og aO dl eC) eP r:=fD (fun _=>VQ) h
def EK (aO:List Int)(dl:Int):Option Int :=
 JL aO dl (len_ I aO) 0 >>= fun aq =>
 match aq with
 | .inl bK=>(some (-1))
 | .inr bK=>(some bK)
theorem XN {aO:List Int}{dl:Int}:b1 (EK aO dl) (fun r=>Con bt 111 [.isl 1 (aO.map I),.n .i64 dl] [] (.n .i64 r) []):=by
 unfold EK
 exact .aw fun aq J =>
  (let t1:List cK:=[(ad 1),(ad 3),.bp [] [] (bO [0,1,7,8])];
  (by
  rcases aq with bK|bK
  ·exact (.ret (bW (t1.append [.sub (.exit 0) [] [],(ad 1)]) (.az (Ot J))))
  ·exact (.ret (bW (t1.append [.sub (.ret) [(4,.n .i64 bK)] []]) (.az (Ot J))))))
def yp (aO:List Int)(dl:Int):Option Bool :=
 EK aO dl >>= fun aq =>
 some (decide ((0:Int)≤aq))
theorem Ou {aO:List Int}{dl:Int}:b1 (yp aO dl) (fun r=>Con bt 102 [.isl 1 (aO.map I),.n .i64 dl] [] (.b r) []):=by
 unfold yp
 exact .aw fun aq J =>
  .ret (bW [(ad 1),.aG (bQ 2 (bD 2 (.n .i64 aq) true) 2)] (.aH (XN aq J) (cz.n .i64 aq)))
def IF:(List Int)→S:=fun bf=>eV [(0,.isl 1 (bf.map I))] []
def IR:(List Int)→e3
 | a=>⟨some 0,[(0,.isl 1 (a.map I))],[]⟩
def xU (bf:List Int):Option (((List Int))⊕((List Int))) :=
 if (decide ((0:Int)<(len_ I bf)))=true then
  if 0≤(U ((len_ I bf)-(1:Int)))∧(U ((len_ I bf)-(1:Int)))<bf.length then
  bf[(U ((len_ I bf)-(1:Int))).toNat]? >>= fun aQ =>
  if (aQ == (0:Int))=true then
   if 0≤(U ((len_ I bf)-(1:Int))) then
   if 0≤(U ((len_ I bf)-(1:Int))).toNat∧(U ((len_ I bf)-(1:Int))).toNat≤bf.length then
   some (.inl ((bf.drop 0).take ((U ((len_ I bf)-(1:Int))).toNat-0)))
   else none
   else none
  else
   some (.inr bf)
  else none
 else
  some (.inr bf)
def Jt (bf:List Int):Option ((List Int)):=iter (fun w:(List Int)=>xU w) bf
theorem Vz {bf:List Int}:b1 (xU bf) (fA bt 21 0 108 [1,0,0,0] (IF bf) (IF) (IR)):=by
 unfold xU
 exact .ite (fun o =>
  .bq fun J =>
  .aw fun aQ ay =>
  (let t1:List cK:=[.aG (ae 9 (ah (.cA (I aQ)) (ae 1 (ah (.aj true) []))))];
  have a4:=((.bj o o o o o J.1 (d9 I J.2) o (.b2 (cD I ay) o o)):c1 _);
  .ite (fun aI =>
  .bq fun bu =>
  .bq fun bx =>
  .ret (let aR:=(U ((len_ I bf)-(1:Int)));bT (t1.append [.aj true,(ad 6),.bp [] [] [(0,.bN (.cj (.d3 (.isl 1 (((bf.drop 0).take (aR.toNat-0)).map I)))))]]) (a4.aZ (.ej aI bu bx.1 (uh (dV I bf) bx.2) (congrArg (aA.isl 1) (pH (dV I bf) 0 (aR.toNat-0)):(.isl 1 (((bf.map I).drop 0).take (aR.toNat-0)):aA) = .isl 1 (((bf.drop 0).take (aR.toNat-0)).map I))))))
  (fun aI =>
  .ret (bT (t1.append [.aj false,.bp [] [] (bO [0])]) (a4.aZ (.az aI))))))
  (fun o =>
  .ret (bT [.aG (ae 4 (cm 7 (ah (.aj false) []))),.aj false,.bp [] [] (bO [0])] (.bj o o o o o o o o (.az ez))))
theorem Wt {bf:List Int}{r} (h:Jt bf=some r):fB bt 21 0 108 [1,0,0,0] (IF) (IR) bf r:=fD (fun _=>Vz) h
def qM (bf:List Int):Option (List Int) :=
 Jt bf >>= fun aq =>
 some aq
theorem ve {bf:List Int}:b1 (qM bf) (fun r=>Con bt 108 [.isl 1 (bf.map I)] [] (.isl 1 (r.map I)) []):=by
 unfold qM
 exact .aw fun aq J =>
  .ret (bW [(ad 1),.bp [] [] (bO [0]),(IR aq).gp,(ad 2)] (.az (Wt J)))
def It (bd:List Int)(a8 aS:Int)(dA:List Int)(d2 dx:Int):(Int×Int×(List Int))→S:=fun (eA,db,au)=>eV [(1,.isl 1 (bd.map I)),(5,.bC 0 0 0 au.length),(6,.n .i64 a8),(7,.n .i64 aS),(8,.n .i64 eA),(26,.isl 1 (dA.map I)),(27,.n .i64 d2),(28,.n .i64 a8),(33,.isl 1 (bd.map I)),(34,.n .i64 dx),(35,.n .i64 db)] [(av 1 I au)]
def IG (bd:List Int)(a8 aS:Int)(dA:List Int)(d2 dx:Int):(Int×(List Int))→e3
 | a=>⟨some 2,[(1,.isl 1 (bd.map I)),(5,.bC 0 0 0 a.2.length),(6,.n .i64 a8),(8,.n .i64 a.1),(26,.isl 1 (dA.map I)),(27,.n .i64 d2),(28,.n .i64 a8)],[(av 1 I a.2)]⟩
def Iu (bd:List Int)(a8 aS:Int)(dA:List Int)(d2 dx eA db:Int)(au:List Int):Option ((Int×Int×(List Int))⊕(Int×(List Int))) :=
 if (decide (db<dx))=true then
  if 0≤db∧db<bd.length then
  bd[db.toNat]? >>= fun aQ =>
  if 0≤(U (a8+db))∧(U (a8+db))<(au.length:Nat) then
  au[(0+(U (a8+db)).toNat)]? >>= fun cP =>
  if (0+(U (a8+db)).toNat)<au.length then
  some (.inl (U ((U ((U (cP+(U (aS*aQ))))+eA)).tdiv (1000000000:Int)),U (db+(1:Int)),au.set (0+(U (a8+db)).toNat) ((U ((U (cP+(U (aS*aQ))))+eA)).tmod (1000000000:Int))))
  else none
  else none
  else none
 else
  some (.inr (eA,au))
def Ov (bd:List Int)(a8 aS:Int)(dA:List Int)(d2 dx eA db:Int)(au:List Int):Option (Int×(List Int)):=iter (fun w:Int×Int×(List Int)=>Iu bd a8 aS dA d2 dx w.1 w.2.1 w.2.2) (eA,db,au)
theorem Vt {bd:List Int}{a8 aS:Int}{dA:List Int}{d2 dx eA db:Int}{au:List Int}:b1 (Iu bd a8 aS dA d2 dx eA db au) (fA bt 72 0 96 [1,1,1,0,1,0,0,1,1,0,0,1,1,0,1,0,0] (It bd a8 aS dA d2 dx (eA,db,au)) (It bd a8 aS dA d2 dx) (IG bd a8 aS dA d2 dx)):=by
 unfold Iu
 exact .ite (fun o =>
  .bq fun J =>
  .aw fun aQ ay =>
  .bq fun aI =>
  .aw fun cP bx =>
  .bq fun bn =>
  .ret (let aR:=U ((U (cP+(U (aS*aQ))))+eA);let bb:=U (a8+db);bT [(ad 1),.aj true,.aG (bQ 2 (.cA (I aQ)) 2),.aG (bQ 5 (.cA (I cP)) 7),.aG (bQ 9 .cU 1),(ad 2),.bp [0] [.d3 (av 1 I (au.set (0+bb.toNat) (aR.tmod (1000000000:Int))))] [(1,ii),(5,gQ ((au.set (0+bb.toNat) (aR.tmod (1000000000:Int))).length)),(6,ii),(7,ii),(8,ii),(26,ii),(27,ii),(28,ii),(33,ii),(34,ii),(35,ii)]] (.bj o J.1 (d9 I J.2) (cD I ay) aI.1 aI.2 (cD I bx) (by decide:(1000000000:Int)≠0) (.hB (by decide:(1000000000:Int)≠0) aI.1 aI.2 (hk I bn) (gL 1) (eX 1 .live (fP (dV I au) (0+bb.toNat) (aR.tmod (1000000000:Int)))) (aF 1 .live aD (au.set (0+bb.toNat) (aR.tmod (1000000000:Int)))) (gN (ft au) (0+bb.toNat) (aR.tmod (1000000000:Int)))))))
  (fun o =>
  .ret (bT [(ad 1),.aj false,.bp [0] [.pure] (bO [1,5,6,8,26,27,28])] (.aH o (aF 1 .live aD au))))
theorem Wj {bd:List Int}{a8 aS:Int}{dA:List Int}{d2 dx eA db:Int}{au:List Int}{r} (h:Ov bd a8 aS dA d2 dx eA db au=some r):fB bt 72 0 96 [1,1,1,0,1,0,0,1,1,0,0,1,1,0,1,0,0] (It bd a8 aS dA d2 dx) (IG bd a8 aS dA d2 dx) (eA,db,au) r:=fD (fun _=>Vt) h
def Iv (bd dA:List Int)(d2:Int):(Int×(List Int))→S:=fun (gi,au)=>eV [(1,.isl 1 (bd.map I)),(5,.bC 0 0 0 au.length),(26,.isl 1 (dA.map I)),(27,.n .i64 d2),(28,.n .i64 gi)] [(av 1 I au)]
def IH (bd dA:List Int)(d2:Int):(List Int)→e3
 | a=>⟨some 0,[(5,.bC 0 0 0 a.length)],[(av 1 I a)]⟩
def Iw (bd dA:List Int)(d2 gi:Int)(au:List Int):Option ((Int×(List Int))⊕((List Int))) :=
 if (decide (gi<d2))=true then
  if 0≤gi∧gi<dA.length then
  dA[gi.toNat]? >>= fun aQ =>
  Ov bd gi aQ dA d2 (len_ I bd) 0 0 au >>= fun ba =>
  if 0≤(U (gi+(len_ I bd)))∧(U (gi+(len_ I bd)))<(ba.2.length:Nat) then
  if (0+(U (gi+(len_ I bd))).toNat)<ba.2.length then
  some (.inl (U (gi+(1:Int)),ba.2.set (0+(U (gi+(len_ I bd))).toNat) ba.1))
  else none
  else none
  else none
 else
  some (.inr au)
def Jj (bd dA:List Int)(d2 gi:Int)(au:List Int):Option ((List Int)):=iter (fun w:Int×(List Int)=>Iw bd dA d2 w.1 w.2) (gi,au)
theorem Vu {bd dA:List Int}{d2 gi:Int}{au:List Int}:b1 (Iw bd dA d2 gi au) (fA bt 72 0 96 [1,1,1,0,1,0,0] (Iv bd dA d2 (gi,au)) (Iv bd dA d2) (IH bd dA d2)):=by
 unfold Iw
 exact .ite (fun o =>
  .bq fun J =>
  .aw fun aQ ay =>
  .aw fun ba bu =>
  .bq fun bx =>
  .bq fun bn =>
  .ret (let aR:=U (gi+(len_ I bd));bT [(ad 1),.aj true,.aG (bQ 2 (.cA (I aQ)) 2),(ad 1),(ad 3),.bp [0] [.pure] (bO [1,5,6,7,8,26,27,28,33,34,35]),(IG bd gi aQ dA d2 (len_ I bd) ba).gp,.aG (ae 7 (ah .cU [])),(ad 2),.bp [0] [.d3 (av 1 I (ba.2.set (0+aR.toNat) ba.1))] [(1,ii),(5,gQ ((ba.2.set (0+aR.toNat) ba.1).length)),(26,ii),(27,ii),(28,ii)]] (.bj o J.1 (d9 I J.2) (cD I ay) (aF 1 .live aD au) (Wj bu) bx.1 bx.2 (.ej (hk I bn) (gL 1) (eX 1 .live (fP (dV I ba.2) (0+aR.toNat) ba.1)) (aF 1 .live aD (ba.2.set (0+aR.toNat) ba.1)) (gN (ft ba.2) (0+aR.toNat) ba.1)))))
  (fun o =>
  .ret (bT [(ad 1),.aj false,.bp [0] [.pure] (bO [5])] (.aH o (aF 1 .live aD au))))
theorem Wk {bd dA:List Int}{d2 gi:Int}{au:List Int}{r} (h:Jj bd dA d2 gi au=some r):fB bt 72 0 96 [1,1,1,0,1,0,0] (Iv bd dA d2) (IH bd dA d2) (gi,au) r:=fD (fun _=>Vu) h
def qK (bf bd:List Int):Option (List Int) :=
 if ((len_ I bf) == (0:Int))=true then
  some ([]:List Int)
 else
  if ((len_ I bd) == (0:Int))=true then
   some ([]:List Int)
  else
   if 0≤(U ((len_ I bf)+(len_ I bd)))∧(8:Int)*(U ((len_ I bf)+(len_ I bd)))≤281474976710656∧(U ((len_ I bf)+(len_ I bd)))<9223372036854775808 then
   Jj bd bf (len_ I bf) 0 (List.replicate (U ((len_ I bf)+(len_ I bd))).toNat 0:List Int) >>= fun aW =>
   qM aW >>= fun a5 =>
   some a5
   else none
theorem DS {bf bd:List Int}:b1 (qK bf bd) (fun r=>Con bt 96 [.isl 1 (bf.map I),.isl 1 (bd.map I)] [] (.isl 1 (r.map I)) []):=by
 unfold qK
 exact .ite (fun o =>
  .ret (bW [(ad 1),.aG (ae 4 (cm 3 (ah (.aj true) []))),.aj true,(ad 1)] (.ej o o o o bl) (.bN (.cj (.fM 1)))))
  (fun o =>
  (let t1:List cK:=[(ad 1),.aG (ae 7 (ah (.aj false) []))];
  .ite (fun J =>
  .ret (bW (t1.append [.aj true,(ad 1)]) (.ej o o o o J) (.bN (.cj (.fM 1)))))
  (fun J =>
  .bq fun ak =>
  .aw fun aW aI =>
  .aw fun a5 bx =>
  .ret (let aR:=U ((len_ I bf)+(len_ I bd));let bb:=(List.replicate aR.toNat 0:List Int);bW (t1.append [.aj false,(ad 7),(ad 3),.bp [14] [.d3 (av 1 I bb)] [(1,ii),(5,gQ (bb.length)),(26,ii),(27,ii),(28,ii)],(IH bd bf (len_ I bf) aW).gp,.hn 0,.aG (bQ 1 (.call {ac:=[.bN (.cj (.gn (aW.map I)))],r:= .isl 1 (a5.map I),dq:=false,dv:=[0]}) 1)]) (.bj o o o o J ak.1 (Int.le_refl aR) ak.2.1 (.bj ak.2.2 (eX 1 .live (kS I aR.toNat 0)) (aF 1 .live aD bb) (k5 aR.toNat (0:Int)) (Wk aI) (kp I aW) (jA I aW) (e9 aD aW) (.az (ve a5 bx))))))))
def o1 (ch eQ:bg):Option bg :=
 qK ch.cB eQ.cB >>= fun aq =>
 lu (!(ch.cY == eQ.cY)) aq >>= fun a9 =>
 some a9
theorem u1 {ch eQ:bg}:b1 (o1 ch eQ) (fun r=>Con bt 99 [.agg (aT ch),.agg (aT eQ)] [] (.agg (aT r)) []):=by
 unfold o1
 exact .aw fun aq J =>
  .aw fun a9 ay =>
  .ret (bW [(ad 3),.aG (ae 9 (ah (bD 2 (.isl 1 (aq.map I)) false) (ah (bD 2 (.agg (aT a9)) false) (ae 1 []))))] (.aH (DS aq J) (so a9 ay)))
def o3 (ch:bg):Option Int :=
 if ((len_ I ch.cB) == (0:Int))=true then
  some 0
 else
  if ch.cY=true then
   some (-1)
  else
   some 1
theorem s0 {ch:bg}:b1 (o3 ch) (fun r=>Con bt 75 [.agg (aT ch)] [] (.n .i64 r) []):=by
 unfold o3
 exact .ite (fun o =>
  .ret (bW [(ad 2),(ad 5),.aj true,(ad 1)] (.az o)))
  (fun o =>
  (let t1:List cK:=[(ad 2),(ad 5),.aj false,(ad 3)];
  .ite (fun J =>
  .ret (bW (t1.append [.aj true,(ad 1)]) (.aH o J)))
  (fun J =>
  .ret (bW (t1.append [.aj false,(ad 1)]) (.aH o J)))))
def qb (ch:bg):Option bg :=
 lu (!ch.cY) ch.cB >>= fun aq =>
 some aq
theorem C7 {ch:bg}:b1 (qb ch) (fun r=>Con bt 82 [.agg (aT ch)] [] (.agg (aT r)) []):=by
 unfold qb
 exact .aw fun aq J =>
  .ret (bW [(ad 2),.aG (bQ 5 (bD 2 (.agg (aT aq)) false) 1)] (.az (so aq J)))
def HO (bf bd:List Int):Int→S:=fun a8=>eV [(0,.isl 1 (bf.map I)),(1,.isl 1 (bd.map I)),(5,.n .i64 a8)] []
def NH (bf bd:List Int):((Unit)⊕(Int))→e3
 | .inl a=>⟨some 0,[],[]⟩
 | .inr a=>⟨none,[(4,.n .i64 a)],[]⟩
def HP (bf bd:List Int)(a8:Int):Option ((Int)⊕((Unit)⊕(Int))) :=
 if (decide ((0:Int)≤a8))=true then
  if 0≤a8∧a8<bf.length then
  bf[a8.toNat]? >>= fun aQ =>
  if 0≤a8∧a8<bd.length then
  bd[a8.toNat]? >>= fun cP =>
  if (decide (aQ<cP))=true then
   some (.inr (.inr (-1)))
  else
   if (decide (cP<aQ))=true then
    some (.inr (.inr 1))
   else
    some (.inl (U (a8-(1:Int))))
  else none
  else none
 else
  some (.inr (.inl ()))
def N7 (bf bd:List Int)(a8:Int):Option ((Unit)⊕(Int)):=iter (fun w:Int=>HP bf bd w) a8
theorem U3 {bf bd:List Int}{a8:Int}:b1 (HP bf bd a8) (fA bt 43 0 93 [1,1,0,1,0,0] (HO bf bd a8) (HO bf bd) (NH bf bd)):=by
 unfold HP
 exact .ite (fun o =>
  .bq fun J =>
  .aw fun aQ ay =>
  .bq fun aI =>
  .aw fun cP bx =>
  (let t1:List cK:=[(ad 2),.aj true,.aG (ae 3 (ah (.cA (I aQ)) (bQ 3 (.cA (I cP)) 2)))];
  have a4:=((.fr o J.1 (d9 I J.2) (cD I ay) aI.1 (d9 I aI.2) (cD I bx)):c1 _);
  .ite (fun bn =>
  .ret (bT (t1.append [.aj true,(ad 1),.bp [] [] (bO [4])]) (a4.aZ (.az bn))))
  (fun bn =>
  (let t3:List cK:=t1.append [.aj false,.aG (ae 3 (ah (.cA (I aQ)) (bQ 3 (.cA (I cP)) 2)))];
  have fK:=a4.aZ (.fr bn J.1 (d9 I J.2) (cD I ay) aI.1 (d9 I aI.2) (cD I bx));
  .ite (fun cd =>
  .ret (bT (t3.append [.aj true,(ad 1),.bp [] [] (bO [4])]) (fK.aZ (.az cd))))
  (fun cd =>
  .ret (bT (t3.append [.aj false,(ad 3),.bp [] [] (bO [0,1,5])]) (fK.aZ (.az cd))))))))
  (fun o =>
  .ret (bT [(ad 2),.aj false,.bp [] [] []] (.az o)))
theorem NN {bf bd:List Int}{a8:Int}{r} (h:N7 bf bd a8=some r):fB bt 43 0 93 [1,1,0,1,0,0] (HO bf bd) (NH bf bd) a8 r:=fD (fun _=>U3) h
def qc (bf bd:List Int):Option Int :=
 if ((len_ I bf) != (len_ I bd))=true then
  if (decide ((len_ I bf)<(len_ I bd)))=true then
   some (-1)
  else
   some 1
 else
  N7 bf bd (U ((len_ I bf)-(1:Int))) >>= fun bE =>
  match bE with
  | .inl f7=>(some 0)
  | .inr f7=>(some f7)
theorem x1 {bf bd:List Int}:b1 (qc bf bd) (fun r=>Con bt 93 [.isl 1 (bf.map I),.isl 1 (bd.map I)] [] (.n .i64 r) []):=by
 unfold qc
 exact .ite (fun o =>
  (let t1:List cK:=[(ad 1),(ad 5),.aj true,(ad 5)];
  .ite (fun J =>
  .ret (bW (t1.append [.aj true,(ad 1)]) (.aH o J)))
  (fun J =>
  .ret (bW (t1.append [.aj false,(ad 1)]) (.aH o J)))))
  (fun o =>
  .aw fun bE ak =>
  (let t1:List cK:=[(ad 1),(ad 5),.aj false,(ad 4),.bp [] [] (bO [0,1,5])];
  (by
  rcases bE with f7|f7
  ·exact (.ret (bW (t1.append [.sub (.exit 0) [] [],(ad 1)]) (.aH o (NN ak))))
  ·exact (.ret (bW (t1.append [.sub (.ret) [(4,.n .i64 f7)] []]) (.aH o (NN ak)))))))
def II (bf bd:List Int)(h5:Int):(Int×Int×(List Int))→S:=fun (eA,gx,au)=>eV [(0,.isl 1 (bf.map I)),(1,.isl 1 (bd.map I)),(5,.bC 0 0 0 au.length),(6,.n .i64 eA),(20,.isl 1 (bf.map I)),(21,.n .i64 h5),(22,.n .i64 gx)] [(av 1 I au)]
def Dx (bf bd:List Int)(h5:Int):(Int×(List Int))→e3
 | a=>⟨some 0,[(0,.isl 1 (bf.map I)),(5,.bC 0 0 0 a.2.length),(6,.n .i64 a.1)],[(av 1 I a.2)]⟩
def xV (bf bd:List Int)(h5 eA gx:Int)(au:List Int):Option ((Int×Int×(List Int))⊕(Int×(List Int))) :=
 if (decide (gx<h5))=true then
  if 0≤gx∧gx<bf.length then
  bf[gx.toNat]? >>= fun aQ =>
  if (decide (gx<(len_ I bd)))=true then
   if 0≤gx∧gx<bd.length then
   bd[gx.toNat]? >>= fun gR =>
   if 0≤gx∧gx<(au.length:Nat) then
   if (0+gx.toNat)<au.length then
   some (.inl (U ((U ((U (aQ+eA))+gR)).tdiv (1000000000:Int)),U (gx+(1:Int)),au.set (0+gx.toNat) ((U ((U (aQ+eA))+gR)).tmod (1000000000:Int))))
   else none
   else none
   else none
  else
   if 0≤gx∧gx<(au.length:Nat) then
   if (0+gx.toNat)<au.length then
   some (.inl (U ((U (aQ+eA)).tdiv (1000000000:Int)),U (gx+(1:Int)),au.set (0+gx.toNat) ((U (aQ+eA)).tmod (1000000000:Int))))
   else none
   else none
  else none
 else
  some (.inr (eA,au))
def Ap (bf bd:List Int)(h5 eA gx:Int)(au:List Int):Option (Int×(List Int)):=iter (fun w:Int×Int×(List Int)=>xV bf bd h5 w.1 w.2.1 w.2.2) (eA,gx,au)
theorem VA {bf bd:List Int}{h5 eA gx:Int}{au:List Int}:b1 (xV bf bd h5 eA gx au) (fA bt 55 0 109 [1,1,1,1,0,1,0,0] (II bf bd h5 (eA,gx,au)) (II bf bd h5) (Dx bf bd h5)):=by
 unfold xV
 exact .ite (fun o =>
  .bq fun J =>
  .aw fun aQ ay =>
  (let t1:List cK:=[(ad 1),.aj true,.aG (bQ 2 (.cA (I aQ)) 2),(ad 4),(ad 4)];
  have a4:=((.dn o J.1 (d9 I J.2) (cD I ay)):c1 _);
  .ite (fun aI =>
  .bq fun bu =>
  .aw fun gR bn =>
  .bq fun cd =>
  .bq fun cV =>
  .ret (let aR:=U ((U (aQ+eA))+gR);bT (t1.append [.aj true,.aG (bQ 4 (.cA (I gR)) 2),.aG (bQ 7 .cU 1),(ad 2),.bp [0] [.d3 (av 1 I (au.set (0+gx.toNat) (aR.tmod (1000000000:Int))))] [(0,ii),(1,ii),(5,gQ ((au.set (0+gx.toNat) (aR.tmod (1000000000:Int))).length)),(6,ii),(20,ii),(21,ii),(22,ii)]]) (a4.aZ (.bj aI bu.1 (d9 I bu.2) (cD I bn) (by decide:(1000000000:Int)≠0) (by decide:(1000000000:Int)≠0) cd.1 cd.2 (.ej (hk I cV) (gL 1) (eX 1 .live (fP (dV I au) (0+gx.toNat) (aR.tmod (1000000000:Int)))) (aF 1 .live aD (au.set (0+gx.toNat) (aR.tmod (1000000000:Int)))) (gN (ft au) (0+gx.toNat) (aR.tmod (1000000000:Int))))))))
  (fun aI =>
  .bq fun bu =>
  .bq fun bx =>
  .ret (let bb:=U (aQ+eA);bT (t1.append [.aj false,.aG (bQ 7 .cU 1),(ad 2),.bp [0] [.d3 (av 1 I (au.set (0+gx.toNat) (bb.tmod (1000000000:Int))))] [(0,ii),(1,ii),(5,gQ ((au.set (0+gx.toNat) (bb.tmod (1000000000:Int))).length)),(6,ii),(20,ii),(21,ii),(22,ii)]]) (a4.aZ (.bj aI (by decide:(1000000000:Int)≠0) (by decide:(1000000000:Int)≠0) bu.1 bu.2 (hk I bx) (gL 1) (eX 1 .live (fP (dV I au) (0+gx.toNat) (bb.tmod (1000000000:Int)))) (.aH (aF 1 .live aD (au.set (0+gx.toNat) (bb.tmod (1000000000:Int)))) (gN (ft au) (0+gx.toNat) (bb.tmod (1000000000:Int))))))))))
  (fun o =>
  .ret (bT [(ad 1),.aj false,.bp [0] [.pure] (bO [0,5,6])] (.aH o (aF 1 .live aD au))))
theorem N8 {bf bd:List Int}{h5 eA gx:Int}{au:List Int}{r} (h:Ap bf bd h5 eA gx au=some r):fB bt 55 0 109 [1,1,1,1,0,1,0,0] (II bf bd h5) (Dx bf bd h5) (eA,gx,au) r:=fD (fun _=>VA) h
def yw (bf bd:List Int):Option (List Int) :=
 if (decide ((len_ I bf)<(len_ I bd)))=true then
  if 0≤(U ((len_ I bd)+(1:Int)))∧(8:Int)*(U ((len_ I bd)+(1:Int)))≤281474976710656∧(U ((len_ I bd)+(1:Int)))<9223372036854775808 then
  Ap bd bf (len_ I bd) 0 0 (List.replicate (U ((len_ I bd)+(1:Int))).toNat 0:List Int) >>= fun a9 =>
  if 0≤(len_ I bd)∧(len_ I bd)<(a9.2.length:Nat) then
  if (0+(len_ I bd).toNat)<a9.2.length then
  qM (a9.2.set (0+(len_ I bd).toNat) a9.1) >>= fun bI =>
  some bI
  else none
  else none
  else none
 else
  if 0≤(U ((len_ I bf)+(1:Int)))∧(8:Int)*(U ((len_ I bf)+(1:Int)))≤281474976710656∧(U ((len_ I bf)+(1:Int)))<9223372036854775808 then
  Ap bf bd (len_ I bf) 0 0 (List.replicate (U ((len_ I bf)+(1:Int))).toNat 0:List Int) >>= fun a9 =>
  if 0≤(len_ I bf)∧(len_ I bf)<(a9.2.length:Nat) then
  if (0+(len_ I bf).toNat)<a9.2.length then
  qM (a9.2.set (0+(len_ I bf).toNat) a9.1) >>= fun bI =>
  some bI
  else none
  else none
  else none
theorem W3 {bf bd:List Int}:b1 (yw bf bd) (fun r=>Con bt 109 [.isl 1 (bf.map I),.isl 1 (bd.map I)] [] (.isl 1 (r.map I)) []):=by
 unfold yw
 exact .ite (fun o =>
  .bq fun J =>
  .aw fun a9 ay =>
  .bq fun aI =>
  .bq fun bu =>
  .aw fun bI bn =>
  .ret (let bb:=len_ I bd;let aR:=(U (bb+(1:Int)));let b7:=(List.replicate aR.toNat 0:List Int);let cC:=gN (ft a9.2) (0+bb.toNat) a9.1;bW [(ad 1),(ad 5),.aj true,(ad 4),(ad 5),(ad 1),(ad 3),.bp [13] [.d3 (av 1 I b7)] [(0,ii),(1,ii),(5,gQ (b7.length)),(6,ii),(20,ii),(21,ii),(22,ii)],(Dx bd bf bb a9).gp,.aG (ae 5 (ah .cU [])),.hn 0,.aG (bQ 1 (.call {ac:=[.bN (.cj (.gn ((a9.2.set (0+bb.toNat) a9.1).map I)))],r:= .isl 1 (bI.map I),dq:=false,dv:=[0]}) 1)] (.bj o J.1 (Int.le_refl aR) J.2.1 J.2.2 (eX 1 .live (kS I aR.toNat 0)) (aF 1 .live aD b7) (k5 aR.toNat (0:Int)) (.bj (N8 ay) aI.1 aI.2 (hk I bu) (gL 1) (lO (fP (dV I a9.2) (0+bb.toNat) a9.1) cC) (nO (fP (dV I a9.2) (0+bb.toNat) a9.1) cC) (e9 aD (a9.2.set (0+bb.toNat) a9.1)) (.az (ve bI bn))))))
  (fun o =>
  .bq fun J =>
  .aw fun a9 ay =>
  .bq fun aI =>
  .bq fun bu =>
  .aw fun bI bn =>
  .ret (let gf:=len_ I bf;let en:=(U (gf+(1:Int)));let hc:=(List.replicate en.toNat 0:List Int);let fh:=gN (ft a9.2) (0+gf.toNat) a9.1;bW [(ad 1),(ad 5),.aj false,(ad 5),(ad 1),(ad 3),.bp [9] [.d3 (av 1 I hc)] [(0,ii),(1,ii),(5,gQ (hc.length)),(6,ii),(20,ii),(21,ii),(22,ii)],(Dx bf bd gf a9).gp,.aG (ae 5 (ah .cU [])),.hn 0,.aG (bQ 1 (.call {ac:=[.bN (.cj (.gn ((a9.2.set (0+gf.toNat) a9.1).map I)))],r:= .isl 1 (bI.map I),dq:=false,dv:=[0]}) 1)] (.bj o J.1 (Int.le_refl en) J.2.1 J.2.2 (eX 1 .live (kS I en.toNat 0)) (aF 1 .live aD hc) (k5 en.toNat (0:Int)) (.bj (N8 ay) aI.1 aI.2 (hk I bu) (gL 1) (lO (fP (dV I a9.2) (0+gf.toNat) a9.1) fh) (nO (fP (dV I a9.2) (0+gf.toNat) a9.1) fh) (e9 aD (a9.2.set (0+gf.toNat) a9.1)) (.az (ve bI bn))))))
def Ix (bd cL:List Int)(bU:Int):(Int×Int×(List Int))→S:=fun (mC,cF,au)=>eV [(1,.isl 1 (bd.map I)),(5,.bC 0 0 0 au.length),(6,.n .i64 mC),(12,.isl 1 (cL.map I)),(13,.n .i64 bU),(14,.n .i64 cF)] [(av 1 I au)]
def IJ (bd cL:List Int)(bU:Int):(List Int)→e3
 | a=>⟨some 0,[(5,.bC 0 0 0 a.length)],[(av 1 I a)]⟩
def xR (bd cL:List Int)(bU mC cF:Int)(au:List Int):Option ((Int×Int×(List Int))⊕((List Int))) :=
 if (decide (cF<bU))=true then
  if 0≤cF∧cF<cL.length then
  cL[cF.toNat]? >>= fun aQ =>
  if (decide (cF<(len_ I bd)))=true then
   if 0≤cF∧cF<bd.length then
   bd[cF.toNat]? >>= fun gR =>
   if (decide ((U ((U (aQ-mC))-gR))<(0:Int)))=true then
    if 0≤cF∧cF<(au.length:Nat) then
    if (0+cF.toNat)<au.length then
    some (.inl (1,U (cF+(1:Int)),au.set (0+cF.toNat) (U ((U ((U (aQ-mC))-gR))+(1000000000:Int)))))
    else none
    else none
   else
    if 0≤cF∧cF<(au.length:Nat) then
    if (0+cF.toNat)<au.length then
    some (.inl (0,U (cF+(1:Int)),au.set (0+cF.toNat) (U ((U (aQ-mC))-gR))))
    else none
    else none
   else none
  else
   if (decide ((U (aQ-mC))<(0:Int)))=true then
    if 0≤cF∧cF<(au.length:Nat) then
    if (0+cF.toNat)<au.length then
    some (.inl (1,U (cF+(1:Int)),au.set (0+cF.toNat) (U ((U (aQ-mC))+(1000000000:Int)))))
    else none
    else none
   else
    if 0≤cF∧cF<(au.length:Nat) then
    if (0+cF.toNat)<au.length then
    some (.inl (0,U (cF+(1:Int)),au.set (0+cF.toNat) (U (aQ-mC))))
    else none
    else none
  else none
 else
  some (.inr au)
def Jk (bd cL:List Int)(bU mC cF:Int)(au:List Int):Option ((List Int)):=iter (fun w:Int×Int×(List Int)=>xR bd cL bU w.1 w.2.1 w.2.2) (mC,cF,au)
theorem Vv {bd cL:List Int}{bU mC cF:Int}{au:List Int}:b1 (xR bd cL bU mC cF au) (fA bt 43 0 110 [1,1,1,0,1,0,0] (Ix bd cL bU (mC,cF,au)) (Ix bd cL bU) (IJ bd cL bU)):=by
 unfold xR
 exact .ite (fun o =>
  .bq fun J =>
  .aw fun aQ ay =>
  (let t1:List cK:=[(ad 1),.aj true,.aG (bQ 2 (.cA (I aQ)) 2),(ad 4),(ad 4)];
  have a4:=((.dn o J.1 (d9 I J.2) (cD I ay)):c1 _);
  .ite (fun aI =>
  .bq fun bu =>
  .aw fun gR bn =>
  (let t3:List cK:=t1.append [.aj true,.aG (bQ 4 (.cA (I gR)) 2),(ad 1),(ad 2)];
  have fK:=a4.aZ (.dn aI bu.1 (d9 I bu.2) (cD I bn));
  .ite (fun cd =>
  .bq fun cV =>
  .bq fun cZ =>
  .ret (let aR:=(U ((U ((U (aQ-mC))-gR))+(1000000000:Int)));bT (t3.append [.aj true,(ad 3),(ad 1),.aG (ae 4 (ah .cU [])),(ad 2),.bp [0] [.d3 (av 1 I (au.set (0+cF.toNat) aR))] [(1,ii),(5,gQ ((au.set (0+cF.toNat) aR).length)),(6,ii),(12,ii),(13,ii),(14,ii)]]) (fK.aZ (.hB cd cV.1 cV.2 (hk I cZ) (gL 1) (eX 1 .live (fP (dV I au) (0+cF.toNat) aR)) (aF 1 .live aD (au.set (0+cF.toNat) aR)) (gN (ft au) (0+cF.toNat) aR)))))
  (fun cd =>
  .bq fun cV =>
  .bq fun cZ =>
  .ret (let bb:=U ((U (aQ-mC))-gR);bT (t3.append [.aj false,.aG (ae 4 (ah .cU [])),(ad 2),.bp [0] [.d3 (av 1 I (au.set (0+cF.toNat) bb))] [(1,ii),(5,gQ ((au.set (0+cF.toNat) bb).length)),(6,ii),(12,ii),(13,ii),(14,ii)]]) (fK.aZ (.hB cd cV.1 cV.2 (hk I cZ) (gL 1) (eX 1 .live (fP (dV I au) (0+cF.toNat) bb)) (aF 1 .live aD (au.set (0+cF.toNat) bb)) (gN (ft au) (0+cF.toNat) bb)))))))
  (fun aI =>
  (let t3:List cK:=t1.append [.aj false,(ad 1),(ad 2)];
  .ite (fun bu =>
  .bq fun bx =>
  .bq fun bn =>
  .ret (let b7:=(U ((U (aQ-mC))+(1000000000:Int)));bT (t3.append [.aj true,(ad 3),(ad 1),.aG (ae 4 (ah .cU [])),(ad 2),.bp [0] [.d3 (av 1 I (au.set (0+cF.toNat) b7))] [(1,ii),(5,gQ ((au.set (0+cF.toNat) b7).length)),(6,ii),(12,ii),(13,ii),(14,ii)]]) (a4.aZ (.bj aI bu bx.1 bx.2 (hk I bn) (gL 1) (eX 1 .live (fP (dV I au) (0+cF.toNat) b7)) (aF 1 .live aD (au.set (0+cF.toNat) b7)) (.az (gN (ft au) (0+cF.toNat) b7))))))
  (fun bu =>
  .bq fun bx =>
  .bq fun bn =>
  .ret (let cC:=U (aQ-mC);bT (t3.append [.aj false,.aG (ae 4 (ah .cU [])),(ad 2),.bp [0] [.d3 (av 1 I (au.set (0+cF.toNat) cC))] [(1,ii),(5,gQ ((au.set (0+cF.toNat) cC).length)),(6,ii),(12,ii),(13,ii),(14,ii)]]) (a4.aZ (.bj aI bu bx.1 bx.2 (hk I bn) (gL 1) (eX 1 .live (fP (dV I au) (0+cF.toNat) cC)) (aF 1 .live aD (au.set (0+cF.toNat) cC)) (.az (gN (ft au) (0+cF.toNat) cC))))))))))
  (fun o =>
  .ret (bT [(ad 1),.aj false,.bp [0] [.pure] (bO [5])] (.aH o (aF 1 .live aD au))))
theorem Wl {bd cL:List Int}{bU mC cF:Int}{au:List Int}{r} (h:Jk bd cL bU mC cF au=some r):fB bt 43 0 110 [1,1,1,0,1,0,0] (Ix bd cL bU) (IJ bd cL bU) (mC,cF,au) r:=fD (fun _=>Vv) h
def ue (bf bd:List Int):Option (List Int) :=
 if 0≤(len_ I bf)∧(8:Int)*(len_ I bf)≤281474976710656∧(len_ I bf)<9223372036854775808 then
 Jk bd bf (len_ I bf) 0 0 (List.replicate (len_ I bf).toNat 0:List Int) >>= fun bE =>
 qM bE >>= fun aW =>
 some aW
 else none
theorem Ow {bf bd:List Int}:b1 (ue bf bd) (fun r=>Con bt 110 [.isl 1 (bf.map I),.isl 1 (bd.map I)] [] (.isl 1 (r.map I)) []):=by
 unfold ue
 exact .bq fun o =>
  .aw fun bE ak =>
  .aw fun aW aI =>
  .ret (let bb:=len_ I bf;let aR:=(List.replicate bb.toNat 0:List Int);bW [(ad 1),(ad 4),(ad 1),(ad 3),.bp [3] [.d3 (av 1 I aR)] [(1,ii),(5,gQ (aR.length)),(6,ii),(12,ii),(13,ii),(14,ii)],(IJ bd bf bb bE).gp,.hn 0,.aG (bQ 1 (.call {ac:=[.bN (.cj (.gn (bE.map I)))],r:= .isl 1 (aW.map I),dq:=false,dv:=[0]}) 1)] (.bj o.1 (Int.le_refl bb) o.2.1 o.2.2 (eX 1 .live (kS I bb.toNat 0)) (aF 1 .live aD aR) (k5 bb.toNat (0:Int)) (Wl ak) (.dn (kp I bE) (jA I bE) (e9 aD bE) (ve aW aI))))
def ub (ch eQ:bg):Option bg :=
 qc ch.cB eQ.cB >>= fun aq =>
 if (ch.cY == eQ.cY)=true then
  yw ch.cB eQ.cB >>= fun aW =>
  lu ch.cY aW >>= fun a5 =>
  some a5
 else
  if (decide ((0:Int)≤aq))=true then
   ue ch.cB eQ.cB >>= fun ba =>
   lu ch.cY ba >>= fun bI =>
   some bI
  else
   ue eQ.cB ch.cB >>= fun ba =>
   lu eQ.cY ba >>= fun bI =>
   some bI
theorem NI {ch eQ:bg}:b1 (ub ch eQ) (fun r=>Con bt 97 [.agg (aT ch),.agg (aT eQ)] [] (.agg (aT r)) []):=by
 unfold ub
 exact .aw fun aq J =>
  (let t1:List cK:=[(ad 3),.aG (bQ 4 (bD 2 (.n .i64 aq) true) 1),(ad 6)];
  have a4:=((.aH (x1 aq J) (cz.n .i64 aq)):c1 _);
  .ite (fun ak =>
  .aw fun aW aI =>
  .aw fun a5 bx =>
  .ret (bW (t1.append [.aj true,.aG (ae 6 (ah (bD 2 (.isl 1 (aW.map I)) false) (ah (bD 2 (.agg (aT a5)) false) (ae 1 []))))]) (a4.aZ (.b2 ak (W3 aW aI) (so a5 bx)))))
  (fun ak =>
  .ite (fun ay =>
  .aw fun ba bu =>
  .aw fun bI bn =>
  .ret (bW (t1.append [.aj false,(ad 3),.aj true,.aG (ae 6 (ah (bD 2 (.isl 1 (ba.map I)) false) (ah (bD 2 (.agg (aT bI)) false) (ae 1 []))))]) (a4.aZ (.dn ak ay (Ow ba bu) (so bI bn)))))
  (fun ay =>
  .aw fun ba bu =>
  .aw fun bI bn =>
  .ret (bW (t1.append [.aj false,(ad 3),.aj false,.aG (ae 6 (ah (bD 2 (.isl 1 (ba.map I)) false) (ah (bD 2 (.agg (aT bI)) false) (ae 1 []))))]) (a4.aZ (.dn ak ay (Ow ba bu) (so bI bn)))))))
def u4 (ch eQ:bg):Option bg :=
 qb eQ >>= fun aq =>
 ub ch aq >>= fun a9 =>
 some a9
theorem NA {ch eQ:bg}:b1 (u4 ch eQ) (fun r=>Con bt 112 [.agg (aT ch),.agg (aT eQ)] [] (.agg (aT r)) []):=by
 unfold u4
 exact .aw fun aq J =>
  .aw fun a9 ay =>
  .ret (bW [(ad 3),.aG (ae 2 (ah (bD 1 (.agg (aT aq)) false) (ah (bD 2 (.agg (aT a9)) false) (ae 1 []))))] (.aH (C7 aq J) (NI a9 ay)))
def Hk (iK:List (List bg))(j5:Bool)(j1 iI:List Int)(iS:Int)(j0:List Bool)(lv:List Int)(bV jK:Int):(Int×Bool×(List Int))→S:=fun (gy,aK,aE)=>eV [(0,.eE 6 [[.isl 1 (iK.map (dL 2 aT)),.b j5,.isl 1 (j1.map I),.isl 1 (iI.map I),.n .i64 iS,.isl 1 (j0.map dT)]] 0 0),(1,.isl 1 (lv.map I)),(2,.n .i64 bV),(7,.ref 0 0 0 0),(23,.isl 1 (iI.map I)),(24,.n .i64 jK),(25,.n .i64 gy)] [[ab.mk 2 [[.b aK,.isl 1 (aE.map I)]] .live]]
def Nt (iK:List (List bg))(j5:Bool)(j1 iI:List Int)(iS:Int)(j0:List Bool)(lv:List Int)(bV jK:Int):(Bool×(List Int))→e3
 | a=>⟨some 0,[(7,.ref 0 0 0 0)],[[ab.mk 2 [[.b a.1,.isl 1 (a.2.map I)]] .live]]⟩
def xq (iK:List (List bg))(j5:Bool)(j1 iI:List Int)(iS:Int)(j0:List Bool)(lv:List Int)(bV jK gy:Int)(aK:Bool)(aE:List Int):Option ((Int×Bool×(List Int))⊕(Bool×(List Int))) :=
 if (decide (gy<jK))=true then
  if 0≤gy∧gy<iI.length then
  iI[gy.toNat]? >>= fun aQ =>
  if 0≤aQ∧aQ<lv.length then
  lv[aQ.toNat]? >>= fun cP =>
  if (cP != (0:Int))=true then
   if 0≤gy∧gy<iK.length then
   iK[gy.toNat]? >>= fun iY =>
   if 0≤bV∧bV<iY.length then
   iY[bV.toNat]? >>= fun nf =>
   o3 nf >>= fun dS =>
   if (dS != (0:Int))=true then
    oi cP >>= fun d6 =>
    o1 nf d6 >>= fun fw =>
    u4 (⟨aK,aE⟩:bg) fw >>= fun py =>
    some (.inl (U (gy+(1:Int)),py.cY,py.cB))
   else
    some (.inl (U (gy+(1:Int)),aK,aE))
   else none
   else none
  else
   some (.inl (U (gy+(1:Int)),aK,aE))
  else none
  else none
 else
  some (.inr (aK,aE))
def HQ (iK:List (List bg))(j5:Bool)(j1 iI:List Int)(iS:Int)(j0:List Bool)(lv:List Int)(bV jK gy:Int)(aK:Bool)(aE:List Int):Option (Bool×(List Int)):=iter (fun w:Int×Bool×(List Int)=>xq iK j5 j1 iI iS j0 lv bV jK w.1 w.2.1 w.2.2) (gy,aK,aE)
theorem UA {iK:List (List bg)}{j5:Bool}{j1 iI:List Int}{iS:Int}{j0:List Bool}{lv:List Int}{bV jK gy:Int}{aK:Bool}{aE:List Int}:b1 (xq iK j5 j1 iI iS j0 lv bV jK gy aK aE) (fA bt 70 0 103 [1,1,0,1,0,0] (Hk iK j5 j1 iI iS j0 lv bV jK (gy,aK,aE)) (Hk iK j5 j1 iI iS j0 lv bV jK) (Nt iK j5 j1 iI iS j0 lv bV jK)):=by
 unfold xq
 exact .ite (fun o =>
  .bq fun J =>
  .aw fun aQ ay =>
  .bq fun aI =>
  .aw fun cP bx =>
  (let t1:List cK:=[(ad 1),.aj true,.aG (bQ 2 (.cA (I aQ)) 2)];
  have a4:=((.fr o J.1 (d9 I J.2) (cD I ay) aI.1 (d9 I aI.2) (cD I bx)):c1 _);
  .ite (fun bn =>
  .bq fun cd =>
  .aw fun iY cZ =>
  .bq fun dg =>
  .aw fun nf eL =>
  .aw fun dS jq =>
  (let t3:List cK:=t1.append [.aG (ae 3 (ah (.cA (I cP)) (ae 8 (ah (.cA ((dL 2 aT) iY)) (ae 2 (ah (.cA (aT nf)) (ah (bD 1 (.n .i64 dS) true) (ae 1 (ah (.aj true) [])))))))))];
  have fK:=a4.aZ (.bj bn bn bn bn bn bn cd.1 (d9 (dL 2 aT) cd.2) (.bj bn (cD (dL 2 aT) cZ) bn bn dg.1 (d9 aT dg.2) bn (cD aT eL) (.ej bn (s0 dS jq) (cz.n .i64 dS) bn bn)));
  .ite (fun gG =>
  .aw fun d6 iM =>
  .aw fun fw mw =>
  .aw fun py hy =>
  .ret (bT (t3.append [.aj true,.aG (ae 7 (ah (.cA ((dL 2 aT) iY)) (ae 2 (ah (.cA (aT nf)) (ae 3 (ah (.cA (I cP)) (ah (bD 1 (.agg (aT d6)) false) (ah (bD 2 (.agg (aT fw)) false) (ah (bD 2 (.agg (aT py)) false) (ae 1 [])))))))))),(ad 2),.bp [0] [.box [.id,.id]] (bO [0,1,2,7,23,24,25])]) (fK.aZ (.bj gG cd.1 (d9 (dL 2 aT) cd.2) (cD (dL 2 aT) cZ) dg.1 (d9 aT dg.2) (cD aT eL) aI.1 (.ej (d9 I aI.2) (cD I bx) (sl d6 iM) (u1 fw mw) (NA py hy))))))
  (fun gG =>
  .ret (bT (t3.append [.aj false,(ad 2),.bp [0] [.box [.id,.id]] (bO [0,1,2,7,23,24,25])]) (fK.aZ (.az gG))))))
  (fun bn =>
  .ret (bT (t1.append [.aG (ae 3 (ah (.cA (I cP)) (ae 2 (cm 12 (ah (.aj false) []))))),.aj false,(ad 2),.bp [0] [.box [.id,.id]] (bO [0,1,2,7,23,24,25])]) (a4.aZ (.bj bn bn bn bn bn bn bn bn (.fq bn bn bn bn bn ez)))))))
  (fun o =>
  .ret (bT [(ad 1),.aj false,.bp [0] [.box [.id,.id]] (bO [7])] (.az o)))
theorem U4 {iK:List (List bg)}{j5:Bool}{j1 iI:List Int}{iS:Int}{j0:List Bool}{lv:List Int}{bV jK gy:Int}{aK:Bool}{aE:List Int}{r} (h:HQ iK j5 j1 iI iS j0 lv bV jK gy aK aE=some r):fB bt 70 0 103 [1,1,0,1,0,0] (Hk iK j5 j1 iI iS j0 lv bV jK) (Nt iK j5 j1 iI iS j0 lv bV jK) (gy,aK,aE) r:=fD (fun _=>UA) h
def xW (l5:rB)(lv:List Int)(bV:Int):Option Int :=
 if 0≤bV∧bV<lv.length then
 lv[bV.toNat]? >>= fun fk =>
 oi fk >>= fun aW =>
 o1 l5.wj aW >>= fun a5 =>
 HQ l5.E8 l5.wj.cY l5.wj.cB l5.EX l5.KY l5.KZ lv bV (len_ I l5.EX) 0 a5.cY a5.cB >>= fun dW =>
 o3 (⟨dW.1,dW.2⟩:bg) >>= fun dc =>
 some dc
 else none
theorem NB {l5:rB}{lv:List Int}{bV:Int}:b1 (xW l5 lv bV) (fun r=>Con bt 103 [.eE 6 [(yo l5)] 0 0,.isl 1 (lv.map I),.n .i64 bV] [] (.n .i64 r) []):=by
 unfold xW
 exact .bq fun o =>
  .aw fun fk ak =>
  .aw fun aW aI =>
  .aw fun a5 bx =>
  .aw fun dW cd =>
  .aw fun dc cZ =>
  .ret (bW [(ad 1),.aG (ae 7 (ah (.cA (I fk)) (ah (bD 1 (.agg (aT aW)) false) (ah (bD 2 (.agg (aT a5)) false) (ae 2 []))))),(ad 6),.bp [11] [.box [.id,.id]] (bO [0,1,2,7,23,24,25]),.sub (.exit 0) [(7,.ref 0 0 0 0)] [[ab.mk 2 [[.b dW.1,.isl 1 (dW.2.map I)]] .live]],.aG (bQ 1 (bD 1 (.n .i64 dc) true) 1)] (.hB o.1 (d9 I o.2) (cD I ak) (sl aW aI) (u1 a5 bx) (U4 cd) (s0 dc cZ) (cz.n .i64 dc)))
def sj (ch eQ:bg):Option Int :=
 if (ch.cY == eQ.cY)=true then
  if ch.cY=true then
   qc eQ.cB ch.cB >>= fun a9 =>
   some a9
  else
   qc ch.cB eQ.cB >>= fun a9 =>
   some a9
 else
  if ch.cY=true then
   some (-1)
  else
   some 1
theorem Ny {ch eQ:bg}:b1 (sj ch eQ) (fun r=>Con bt 73 [.agg (aT ch),.agg (aT eQ)] [] (.n .i64 r) []):=by
 unfold sj
 exact .ite (fun o =>
  (let t1:List cK:=[(ad 3),.aG (ae 6 (cm 2 (ah (.aj false) (ae 1 [])))),.aj false,(ad 6),.aj false,(ad 3)];
  have a4:=((.ej (dQ o) (dQ o) (dQ o) ez (dQ o)):c1 _);
  .ite (fun J =>
  .aw fun a9 ay =>
  .ret (bW (t1.append [.aj true,.aG (bQ 4 (bD 2 (.n .i64 a9) true) 1)]) (a4.aZ (.b2 J (x1 a9 ay) (cz.n .i64 a9)))))
  (fun J =>
  .aw fun a9 ay =>
  .ret (bW (t1.append [.aj false,.aG (bQ 4 (bD 2 (.n .i64 a9) true) 1)]) (a4.aZ (.b2 J (x1 a9 ay) (cz.n .i64 a9)))))))
  (fun o =>
  (let t1:List cK:=[(ad 3),.aG (bQ 8 (.aj true) 1)];
  have a4:=((.b2 (dR o) (dR o) (dR o)):c1 _);
  .ite (fun J =>
  .ret (bW (t1.append [.aj true,(ad 1)]) (a4.aZ (.az J))))
  (fun J =>
  .ret (bW (t1.append [.aj false,(ad 6),.aj true,(ad 1)]) (a4.aZ (.aH J (dR o)))))))
def GZ (iK:List (List bg))(j5:Bool)(j1 iI:List Int)(iS:Int)(j0:List Bool)(bV bU:Int):(Int×Int)→S:=fun (i1,cF)=>eV [(0,.eE 6 [[.isl 1 (iK.map (dL 2 aT)),.b j5,.isl 1 (j1.map I),.isl 1 (iI.map I),.n .i64 iS,.isl 1 (j0.map dT)]] 0 0),(1,.n .i64 bV),(5,.n .i64 i1),(12,.isl 1 (iK.map (dL 2 aT))),(13,.n .i64 bU),(14,.n .i64 cF)] []
def Np (iK:List (List bg))(j5:Bool)(j1 iI:List Int)(iS:Int)(j0:List Bool)(bV bU:Int):Int→e3
 | a=>⟨some 0,[(5,.n .i64 a)],[]⟩
def xf (iK:List (List bg))(j5:Bool)(j1 iI:List Int)(iS:Int)(j0:List Bool)(bV bU i1 cF:Int):Option ((Int×Int)⊕(Int)) :=
 if (decide (cF<bU))=true then
  if 0≤cF∧cF<iK.length then
  iK[cF.toNat]? >>= fun aQ =>
  if 0≤bV∧bV<aQ.length then
  aQ[bV.toNat]? >>= fun cP =>
  o3 cP >>= fun dW =>
  if (decide (dW≤(0:Int)))=true then
   some (.inl (i1,U (cF+(1:Int))))
  else
   if (decide (i1<(0:Int)))=true then
    some (.inl (cF,U (cF+(1:Int))))
   else
    if 0≤iS∧iS<aQ.length then
    aQ[iS.toNat]? >>= fun nf =>
    if 0≤i1∧i1<iK.length then
    iK[i1.toNat]? >>= fun lk =>
    if 0≤bV∧bV<lk.length then
    lk[bV.toNat]? >>= fun r5 =>
    o1 nf r5 >>= fun iX =>
    if 0≤iS∧iS<lk.length then
    lk[iS.toNat]? >>= fun tJ =>
    o1 tJ cP >>= fun n7 =>
    sj iX n7 >>= fun jy =>
    if (decide (jy<(0:Int)))=true then
     some (.inl (cF,U (cF+(1:Int))))
    else
     if (jy == (0:Int))=true then
      if 0≤cF∧cF<iI.length then
      iI[cF.toNat]? >>= fun L4 =>
      if 0≤i1∧i1<iI.length then
      iI[i1.toNat]? >>= fun L5 =>
      if (decide (L4<L5))=true then
       some (.inl (cF,U (cF+(1:Int))))
      else
       some (.inl (i1,U (cF+(1:Int))))
      else none
      else none
     else
      some (.inl (i1,U (cF+(1:Int))))
    else none
    else none
    else none
    else none
  else none
  else none
 else
  some (.inr i1)
def Hp (iK:List (List bg))(j5:Bool)(j1 iI:List Int)(iS:Int)(j0:List Bool)(bV bU i1 cF:Int):Option (Int):=iter (fun w:Int×Int=>xf iK j5 j1 iI iS j0 bV bU w.1 w.2) (i1,cF)
theorem Un {iK:List (List bg)}{j5:Bool}{j1 iI:List Int}{iS:Int}{j0:List Bool}{bV bU i1 cF:Int}:b1 (xf iK j5 j1 iI iS j0 bV bU i1 cF) (fA bt 91 0 104 [1,1,0,1,0,0] (GZ iK j5 j1 iI iS j0 bV bU (i1,cF)) (GZ iK j5 j1 iI iS j0 bV bU) (Np iK j5 j1 iI iS j0 bV bU)):=by
 unfold xf
 exact .ite (fun o =>
  .bq fun J =>
  .aw fun aQ ay =>
  .bq fun aI =>
  .aw fun cP bx =>
  .aw fun dW cd =>
  (let t1:List cK:=[(ad 1),.aj true,.aG (bQ 2 (.cA ((dL 2 aT) aQ)) 2),.aG (ae 3 (ah (.cA (aT cP)) (ah (bD 1 (.n .i64 dW) true) (ae 1 []))))];
  have a4:=((.bj o J.1 (d9 (dL 2 aT) J.2) (cD (dL 2 aT) ay) aI.1 (d9 aT aI.2) (cD aT bx) (s0 dW cd) (.az (cz.n .i64 dW))):c1 _);
  .ite (fun cV =>
  .ret (bT (t1.append [.aj true,(ad 2),.bp [] [] (bO [0,1,5,12,13,14])]) (a4.aZ (.az cV))))
  (fun cV =>
  .ite (fun cZ =>
  .ret (bT (t1.append [.aj false,(ad 2),.aj true,(ad 2),(ad 2),.bp [] [] (bO [0,1,5,12,13,14])]) (a4.aZ (.aH cV cZ))))
  (fun cZ =>
  .bq fun dg =>
  .aw fun nf eL =>
  .bq fun gm =>
  .aw fun lk gG =>
  .bq fun jT =>
  .aw fun r5 nd =>
  .aw fun iX lj =>
  .bq fun hy =>
  .aw fun tJ oS =>
  .aw fun n7 wm =>
  .aw fun jy wo =>
  (let aR:=dL 2 aT;let t3:List cK:=t1.append [.aj false,(ad 2),.aj false,.aG (ae 6 (ah (.cA (aT nf)) (ae 6 (ah (.cA (aR lk)) (ae 2 (ah (.cA (aT r5)) (ah (bD 2 (.agg (aT iX)) false) (ae 6 (ah (.cA (aR lk)) (ae 5 (ah (.cA (aT tJ)) (ae 3 (ah (.cA (aT cP)) (ah (bD 2 (.agg (aT n7)) false) (ah (bD 2 (.n .i64 jy) true) (ae 1 []))))))))))))))))];
  have fK:=a4.aZ (.bj cV cZ dg.1 (d9 aT dg.2) (cD aT eL) gm.1 (d9 aR gm.2) (cD aR gG) (.bj jT.1 (d9 aT jT.2) (cD aT nd) (u1 iX lj) gm.1 (d9 aR gm.2) (cD aR gG) hy.1 (.hB (d9 aT hy.2) (cD aT oS) aI.1 (d9 aT aI.2) (cD aT bx) (u1 n7 wm) (Ny jy wo) (cz.n .i64 jy))));
  .ite (fun jU =>
  .ret (bT (t3.append [.aG (ae 3 (cm 3 (ae 15 (cm 1 (ah (.aj true) []))))),.aj true,(ad 2),(ad 2),.bp [] [] (bO [0,1,5,12,13,14])]) (fK.aZ (.fq jU jU jU jU jU bl))))
  (fun jU =>
  .ite (fun ir =>
  .bq fun FK =>
  .aw fun L4 zB =>
  .bq fun SX =>
  .aw fun L5 ade =>
  (let t5:List cK:=t3.append [.aG (ae 12 (ah (.cA (I L4)) (ae 6 (ah (.cA (I L5)) (ae 1 (ah (.aj true) (ah (.aj false) [])))))))];
  have od:=fK.aZ (.bj jU jU jU ir ir ir ir ir (.bj ir FK.1 (d9 I FK.2) ir (cD I zB) ir ir ir (.bj ir ir ir SX.1 (d9 I SX.2) ir (cD I ade) ir (.b2 jU ir jU))));
  .ite (fun Ci =>
  .ret (bT (t5.append [.aj true,(ad 2),(ad 2),.bp [] [] (bO [0,1,5,12,13,14])]) (od.aZ (.az Ci))))
  (fun Ci =>
  .ret (bT (t5.append [.aj false,(ad 2),.bp [] [] (bO [0,1,5,12,13,14])]) (od.aZ (.az Ci))))))
  (fun ir =>
  .ret (bT (t3.append [.aG (ae 6 (cm 15 (ah (.aj false) (ah (.aj false) [])))),.aj false,(ad 2),.bp [] [] (bO [0,1,5,12,13,14])]) (fK.aZ (.bj jU jU jU ir ir ir ir ir (.bj ir ir ir ir ir ir ir ir (.fq ir ir jU ir jU ez))))))))))))
  (fun o =>
  .ret (bT [(ad 1),.aj false,.bp [] [] (bO [5])] (.az o)))
theorem UG {iK:List (List bg)}{j5:Bool}{j1 iI:List Int}{iS:Int}{j0:List Bool}{bV bU i1 cF:Int}{r} (h:Hp iK j5 j1 iI iS j0 bV bU i1 cF=some r):fB bt 91 0 104 [1,1,0,1,0,0] (GZ iK j5 j1 iI iS j0 bV bU) (Np iK j5 j1 iI iS j0 bV bU) (i1,cF) r:=fD (fun _=>Un) h
def z2 (l5:rB)(bV:Int):Option Int :=
 Hp l5.E8 l5.wj.cY l5.wj.cB l5.EX l5.KY l5.KZ bV (len_ (dL 2 aT) l5.E8) (-1) 0 >>= fun aq =>
 some aq
theorem U5 {l5:rB}{bV:Int}:b1 (z2 l5 bV) (fun r=>Con bt 104 [.eE 6 [(yo l5)] 0 0,.n .i64 bV] [] (.n .i64 r) []):=by
 unfold z2
 exact .aw fun aq J =>
  .ret (bW [(ad 1),(ad 1),(ad 6),.bp [] [] (bO [0,1,5,12,13,14]),.sub (.exit 0) [(5,.n .i64 aq)] [],(ad 2)] (.az (UG J)))
def vA (aO:List Int):Option (List Int) :=
 if aO.length*8≤140737488355328 then some aO else none
theorem Yk:Con bt 77 [.eK] [] (.isl 1 (([]:List Int).map I)) []:=bW [(ad 1),(ad 2),.aj true,(ad 1)] (.az bl) (.bN (.cj (.fM 1)))
theorem Yl:Con bt 77 [.iE] [] (.isl 1 (([]:List Int).map I)) []:=(by
 have h:=fun (o:(([]:List Int)++([]:List Int)).length*8≤140737488355328)=>(bW [(ad 1),(ad 2),.aj false,.aG (bQ 2 (.aZ ((([]:List Int)++([]:List Int)).length)) 1)] (.fr ez (vy (show []=(([]:List Int)).map I from rfl) (my Int)) (yH (my Int) (tX I):(([]:List Int)++([]:List Int)).length=0+([]:List (List aA)).length) o (lO (rD (show []=(([]:List Int)).map I from rfl) (my Int) (tX I)) (ft (([]:List Int)++([]:List Int)))) (nO (rD (show []=(([]:List Int)).map I from rfl) (my Int) (tX I)) (ft (([]:List Int)++([]:List Int)))) (e9 aD (([]:List Int)++([]:List Int)))) (.bN (.cj (.gn ((([]:List Int)++([]:List Int)).map I)))):Con bt 77 [.iE] [] (.isl 1 ((([]:List Int)++([]:List Int)).map I)) [])
 exact h (by decide))
theorem Ym (x:Int)(l:List Int)(o:(([]:List Int)++(x::l)).length*8≤140737488355328):Con bt 77 [.isl 1 ((x::l).map I)] [] (.isl 1 ((([]:List Int)++(x::l)).map I)) []:=bW [(ad 1),.aG (ae 1 (ah .cU [])),.aj false,.aG (bQ 2 (.aZ ((([]:List Int)++(x::l)).length)) 1)] (.hB (by simp:(x::l).map I≠[]) ez (vy (show []=(([]:List Int)).map I from rfl) (my Int)) (yH (my Int) (dV I (x::l)):(([]:List Int)++(x::l)).length=0+((x::l).map I).length) o (lO (rD (show []=(([]:List Int)).map I from rfl) (my Int) (dV I (x::l))) (ft (([]:List Int)++(x::l)))) (nO (rD (show []=(([]:List Int)).map I from rfl) (my Int) (dV I (x::l))) (ft (([]:List Int)++(x::l)))) (e9 aD (([]:List Int)++(x::l)))) (.bN (.cj (.gn ((([]:List Int)++(x::l)).map I))))
theorem JM {aO:List Int}:b1 (vA aO) (fun r=>Con bt 77 [.isl 1 (aO.map I)] [] (.isl 1 (r.map I)) []):=by
 unfold vA
 refine .bq fun h=> .ret ?_
 cases aO with
 | nil=>exact .j6 Yk Yl
 | cons x l =>
  have J:=Ym x l (by simpa using h)
  simpa using J
def Hs (bf:List Int)(bd:Int):(Int×Int×(List Int))→S:=fun (hQ,a8,au)=>eV [(0,.isl 1 (bf.map I)),(1,.n .i64 bd),(6,.bC 0 0 0 au.length),(7,.n .i64 hQ),(8,.n .i64 a8)] [(av 1 I au)]
def HF (bf:List Int)(bd:Int):(Int×(List Int))→e3
 | a=>⟨some 0,[(6,.bC 0 0 0 a.2.length),(7,.n .i64 a.1)],[(av 1 I a.2)]⟩
def Ht (bf:List Int)(bd hQ a8:Int)(au:List Int):Option ((Int×Int×(List Int))⊕(Int×(List Int))) :=
 if (decide ((0:Int)≤a8))=true then
  if 0≤a8∧a8<bf.length then
  bf[a8.toNat]? >>= fun aQ =>
  if bd≠0 then
  if 0≤a8∧a8<(au.length:Nat) then
  if (0+a8.toNat)<au.length then
  some (.inl ((U ((U (hQ*(1000000000:Int)))+aQ)).tmod bd,U (a8-(1:Int)),au.set (0+a8.toNat) (U ((U ((U (hQ*(1000000000:Int)))+aQ)).tdiv bd))))
  else none
  else none
  else none
  else none
 else
  some (.inr (hQ,au))
def IK (bf:List Int)(bd hQ a8:Int)(au:List Int):Option (Int×(List Int)):=iter (fun w:Int×Int×(List Int)=>Ht bf bd w.1 w.2.1 w.2.2) (hQ,a8,au)
theorem UP {bf:List Int}{bd hQ a8:Int}{au:List Int}:b1 (Ht bf bd hQ a8 au) (fA bt 39 0 114 [1,1,1,0,1,0,0] (Hs bf bd (hQ,a8,au)) (Hs bf bd) (HF bf bd)):=by
 unfold Ht
 exact .ite (fun o =>
  .bq fun J =>
  .aw fun aQ ay =>
  .bq fun aI =>
  .bq fun bu =>
  .bq fun bx =>
  .ret (let aR:=(U ((U ((U (hQ*(1000000000:Int)))+aQ)).tdiv bd));bT [(ad 2),.aj true,.aG (bQ 5 (.cA (I aQ)) 2),.aG (bQ 9 .cU 1),(ad 3),.bp [0] [.d3 (av 1 I (au.set (0+a8.toNat) aR))] [(0,ii),(1,ii),(6,gQ ((au.set (0+a8.toNat) aR).length)),(7,ii),(8,ii)]] (.bj o J.1 (d9 I J.2) (cD I ay) aI aI bu.1 bu.2 (.ej (hk I bx) (gL 1) (eX 1 .live (fP (dV I au) (0+a8.toNat) aR)) (aF 1 .live aD (au.set (0+a8.toNat) aR)) (gN (ft au) (0+a8.toNat) aR)))))
  (fun o =>
  .ret (bT [(ad 2),.aj false,.bp [0] [.pure] (bO [6,7])] (.aH o (aF 1 .live aD au))))
theorem VB {bf:List Int}{bd hQ a8:Int}{au:List Int}{r} (h:IK bf bd hQ a8 au=some r):fB bt 39 0 114 [1,1,1,0,1,0,0] (Hs bf bd) (HF bf bd) (hQ,a8,au) r:=fD (fun _=>UP) h
def x8 (bf:List Int)(bd:Int):Option ((List Int)×Int) :=
 if 0≤(len_ I bf)∧(8:Int)*(len_ I bf)≤281474976710656∧(len_ I bf)<9223372036854775808 then
 IK bf bd 0 (U ((len_ I bf)-(1:Int))) (List.replicate (len_ I bf).toNat 0:List Int) >>= fun bE =>
 qM bE.2 >>= fun aW =>
 some (aW,bE.1)
 else none
theorem NR {bf:List Int}{bd:Int}:b1 (x8 bf bd) (fun r=>Con bt 114 [.isl 1 (bf.map I),.n .i64 bd] [] (.df [.isl 1 (r.1.map I),.n .i64 r.2]) []):=by
 unfold x8
 exact .bq fun o =>
  .aw fun bE ak =>
  .aw fun aW aI =>
  .ret (let aR:=(List.replicate (len_ I bf).toNat 0:List Int);bW [(ad 2),(ad 4),(ad 1),(ad 4),.bp [4] [.d3 (av 1 I aR)] [(0,ii),(1,ii),(6,gQ (aR.length)),(7,ii),(8,ii)],(HF bf bd bE).gp,.hn 0,.aG (bQ 1 (.call {ac:=[.bN (.cj (.gn (bE.2.map I)))],r:= .isl 1 (aW.map I),dq:=false,dv:=[0]}) 3)] (.bj o.1 (Int.le_refl (len_ I bf)) o.2.1 o.2.2 (eX 1 .live (kS I (len_ I bf).toNat 0)) (aF 1 .live aD aR) (k5 (len_ I bf).toNat (0:Int)) (VB ak) (.dn (kp I bE.2) (jA I bE.2) (e9 aD bE.2) (ve aW aI))))
end Go.Proofs.YtgfpnhmcmgnepaeGreat
