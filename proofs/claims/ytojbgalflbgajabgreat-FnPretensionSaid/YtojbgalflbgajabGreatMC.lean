/- Lemmas, plain functions of the program, and what they answer. No condition. -/
import Derived.Test.YtojbgalflbgajabGreatChecked
import Derived.Test.YtojbgalflbgajabGreatMB
namespace Go.VL
set_option linter.unusedVariables false
set_option linter.unusedSimpArgs false
def o2 (m n:Nat)(a:Nat→Nat→Int)(b:Nat→Int)(x:Nat→Rat):Prop:=(∀j,j<n→0≤x j)∧ ∀i,i<m→cb n (fun j=>(a i j:Rat)*x j)=(b i:Rat)
def val (n:Nat)(R x:Nat→Rat):Rat:=cb n (fun j=>R j*x j)
def iI (c:Nat→Rat)(l j:Nat):Rat:=match l with
 | 0=>c j
 | l+1=>if j=l then -1 else 0
def s7 (m n:Nat)(a:Nat→Nat→Int)(b:Nat→Int)(c x:Nat→Rat):Prop :=
 o2 m n a b x∧ ∀y,o2 m n a b y→ ¬h7 (n+1) (fun l=>val n (iI c l) y-val n (iI c l) x)
def Bounded (m n:Nat)(a:Nat→Nat→Int)(b:Nat→Int)(c:Nat→Rat):Prop:= ∃V,∀y,o2 m n a b y→val n c y≤V
section
variable {m n:Nat} {a:Nat→Nat→Int} {b:Nat→Int} {c:Nat→Rat}
theorem Zl {x:Nat→Rat}{j:Nat}(aE:j<n):val n (iI c (j+1)) x = - x j:=by
 unfold val
 rw [kp aE (f:=fun i=>iI c (j+1) i*x i) (fun i ag cM=>by simp only [iI];rw [if_neg cM];grind)]
 simp only [iI,if_true];grind
theorem s7.unique {x y:Nat→Rat}(aa:s7 m n a b c x)(aP:s7 m n a b c y):(∀j,j<n→x j=y j)∧val n c x=val n c y:=by
 rcases Ed (n+1) (fun l=>val n (iI c l) y-val n (iI c l) x) with h|h|h
 ·exact (aa.2 y aP.1 h).elim
 ·refine ⟨fun j aE=> ?_,?_⟩
  ·have:=h (j+1) (by omega)
   simp only [Zl aE] at this;grind
  ·have:=h 0 (by omega)
   simp only at this
   have e:iI c 0=c:=rfl
   rw [e] at this;grind
 ·exact (aP.2 x aa.1 (h.congr fun l _=>by grind)).elim
theorem s7.Fo {x y:Nat→Rat}(aa:s7 m n a b c x)(aP:o2 m n a b y):val n c y≤val n c x:=by
 apply Classical.byContradiction
 intro h
 refine aa.2 y aP ⟨0,by omega,?_,fun l aT=>by omega⟩
 have e:iI c 0=c:=rfl
 simp only [e];grind
structure LT (m n:Nat) (a:Nat→Nat→Int) (b:Nat→Int) (a2 N:Nat) (u:cm):Prop where
 eqv : ∀x:Nat→Rat,(∀i,i<m→cb n (fun j=>(a i j:Rat)*x j)=(b i:Rat))↔ ∀i,i<a2→cb n (fun j=>u.T i j*x j)=u.T i N
 unit : ∀i,i<a2→ ∀k,k<a2→u.T i (u.B k)=if i=k then 1 else 0
 kz : ∀i,i<a2→u.B i<n
 lV:u.lz a2 N
 MI:n≤N
variable {a2 N:Nat} {u:cm}
theorem LT.EB (h:LT m n a b a2 N u)(f:Nat→Rat):cb n (fun j=>f j*u.hc a2 N j)=cb a2 (fun i=>f (u.B i)*u.T i N):=by
 unfold cm.hc
 rw [fK (g:=fun j=>cb a2 (fun i=>if u.B i=j then f (u.B i)*u.T i N else 0)) (fun j _=>by
  rw [← iO];exact fK fun i _=>by split<;>grind),pQ]
 exact fK fun i ag=>by rw [kp (h.kz i ag) (f:=fun j=>if u.B i=j then f (u.B i)*u.T i N else 0) (fun j _ cM=>if_neg fun x=>cM x.symm),if_pos rfl]
theorem LT.hc (h:LT m n a b a2 N u):o2 m n a b (u.hc a2 N):=by
 refine ⟨fun j _=>h.lV.hc j,(h.eqv _).2 fun i ag=> ?_⟩
 rw [h.EB,kp ag (f:=fun k=>u.T i (u.B k)*u.T k N) (fun k aY cM=>by rw [h.unit i ag k aY,if_neg (fun e=>cM e.symm)];grind),h.unit i ag i ag,if_pos rfl];grind
theorem LT.J9 (h:LT m n a b a2 N u)(R:Nat→Rat){x:Nat→Rat}(aa:o2 m n a b x):cb n (fun j=>u.dW a2 R j*x j)=val n R x-val n R (u.hc a2 N):=by
 have ao:=(h.eqv x).1 aa.2
 unfold val cm.dW
 rw [h.EB R,fK (g:=fun j=>R j*x j-cb a2 (fun i=>R (u.B i)*(u.T i j*x j))) (fun j _=>by
  rw [fK (f:=fun i=>R (u.B i)*(u.T i j*x j)) (g:=fun i=>x j*(R (u.B i)*u.T i j)) (fun i _=>by grind),iO];grind),rA,pQ]
 congr 1
 exact fK fun i ag=>by rw [iO,ao i ag]
theorem LT.ya (h:LT m n a b a2 N u)(R:Nat→Rat){i:Nat}(ag:i<a2):u.dW a2 R (u.B i)=0:=by
 unfold cm.dW
 rw [kp ag (f:=fun k=>R (u.B k)*u.T k (u.B i)) (fun k aY cM=>by rw [h.unit k aY i ag,if_neg cM];grind),h.unit i ag i ag,if_pos rfl];grind
theorem LT.k5 (h:LT m n a b a2 N u)(ei:∀j,j<n→ ¬u.F5 a2 (n+1) (iI c) j):s7 m n a b c (u.hc a2 N):=by
 refine ⟨h.hc,fun y aP aT=> ?_⟩
 have FI:h7 (n+1) (fun l=>cb n (fun j=>u.dW a2 (iI c l) j*y j)):=aT.congr fun l _=>(h.J9 (iI c l) aP).symm
 obtain ⟨j,aE,aj⟩:=h7.KC (v:=fun j l=>u.dW a2 (iI c l) j*y j) FI
 rcases (aj.congr (gn:=fun l=>y j*u.dW a2 (iI c l) j) fun l _=>Rat.mul_comm _ _).Rh with ⟨-,J⟩|⟨J,-⟩
 ·exact ei j aE J
 ·have:=aP.1 j aE;grind
theorem LT.LW (h:LT m n a b a2 N u)(R:Nat→Rat){s:Nat}(b0:s<n)(ei:0<u.dW a2 R s)(iK:∀i,i<a2→ ¬0<u.T i s): ¬Bounded m n a b R:=by
 rintro ⟨V,hV⟩
 have bc : ∀f:Nat→Rat,cb n (fun j=>f j*u.dir a2 s j)=f s-cb a2 (fun i=>f (u.B i)*u.T i s):=fun f=>by
  unfold cm.dir
  rw [fK (g:=fun j=>(if j=s then f s else 0)-cb a2 (fun i=>if u.B i=j then f (u.B i)*u.T i s else 0)) (fun j _=>by
   have e:cb a2 (fun i=>if u.B i=j then f (u.B i)*u.T i s else 0)=f j*cb a2 (fun i=>if u.B i=j then u.T i s else 0):=by
    rw [← iO];exact fK fun i _=>by split<;>grind
   rw [e];split<;>grind),rA,kp b0 (f:=fun j=>if j=s then f s else 0) (fun i _ cM=>if_neg cM),if_pos rfl,pQ]
  congr 1
  exact fK fun i ag=>by rw [kp (h.kz i ag) (f:=fun j=>if u.B i=j then f (u.B i)*u.T i s else 0) (fun j _ cM=>if_neg fun x=>cM x.symm),if_pos rfl]
 have pos : ∀j,0≤u.dir a2 s j:=fun j=>by
  unfold cm.dir
  have o:0≤cb a2 (fun i=> -(if u.B i=j then u.T i s else 0)):=ry fun i ag=>by
   have:=iK i ag
   split<;>grind
  rw [fK (g:=fun i=>(-1)*(if u.B i=j then u.T i s else 0)) (fun i _=>by grind),iO] at o
  split<;>grind
 have LW : ∀wL:Rat,0≤wL→o2 m n a b (fun j=>u.hc a2 N j+wL*u.dir a2 s j)∧val n R (fun j=>u.hc a2 N j+wL*u.dir a2 s j)=val n R (u.hc a2 N)+wL*u.dW a2 R s:=fun wL MH=>by
  have SM : ∀f:Nat→Rat,cb n (fun j=>f j*(u.hc a2 N j+wL*u.dir a2 s j))=cb n (fun j=>f j*u.hc a2 N j)+wL*(f s-cb a2 (fun i=>f (u.B i)*u.T i s)):=fun f=>by
   rw [← bc f,← iO,← sV]
   exact fK fun j _=>by grind
  refine ⟨⟨fun j _=> ?_,(h.eqv _).2 fun i ag=> ?_⟩,SM R⟩
  ·have o:=h.lV.hc (m:=a2) (N:=N) j
   have J:=Rat.mul_nonneg MH (pos j)
   grind
  ·rw [SM (u.T i),(h.eqv _).1 h.hc.2 i ag,kp ag (f:=fun k=>u.T i (u.B k)*u.T k s) (fun k aY cM=>by rw [h.unit i ag k aY,if_neg (fun e=>cM e.symm)];grind),h.unit i ag i ag,if_pos rfl];grind
 have SN:=hV _ h.hc
 have cM:u.dW a2 R s≠0:=by grind
 obtain ⟨ae,bq⟩:=LW ((V-val n R (u.hc a2 N)+1) / u.dW a2 R s) (by
  rw [Rat.div_def]
  exact Rat.mul_nonneg (by grind) (Rat.le_of_lt (Rat.inv_pos.2 ei)))
 have af:=hV _ ae
 rw [bq] at af
 have:(V-val n R (u.hc a2 N)+1) / u.dW a2 R s*u.dW a2 R s=V-val n R (u.hc a2 N)+1:=by grind
 grind
theorem LT.cZ (h:LT m n a b a2 N u){r k:Nat}(ao:r<a2)(aY:k<n)(aj:u.T r k≠0)(ca:(u.cZ r k).lz a2 N):LT m n a b a2 N (u.cZ r k) where
 eqv:=fun x=>by
  rw [h.eqv x]
  have aC:cb n (fun j=>(u.cZ r k).T r j*x j)=(1 / u.T r k)*cb n (fun j=>u.T r j*x j):=by
   rw [← iO]
   exact fK fun j _=>by simp only [cm.cZ,if_true];grind
  have aH : ∀i,i≠r→cb n (fun j=>(u.cZ r k).T i j*x j)=cb n (fun j=>u.T i j*x j)-(u.T i k / u.T r k)*cb n (fun j=>u.T r j*x j):=fun i ag=>by
   rw [← iO,← rA]
   exact fK fun j _=>by simp only [cm.cZ,if_neg ag];grind
  have h5:(u.cZ r k).T r N=(1 / u.T r k)*u.T r N:=by simp only [cm.cZ,if_true];grind
  have kF : ∀i,i≠r→(u.cZ r k).T i N=u.T i N-(u.T i k / u.T r k)*u.T r N:=fun i ag=>by simp only [cm.cZ,if_neg ag];grind
  constructor
  ·intro aa i ag
   by_cases c:i=r
   ·rw [c,aC,h5,aa r ao]
   ·rw [aH i c,kF i c,aa i ag,aa r ao]
  ·intro aa
   have SO:cb n (fun j=>u.T r j*x j)=u.T r N:=by
    have:=aa r ao
    rw [aC,h5] at this
    have J:u.T r k*((1 / u.T r k)*cb n (fun j=>u.T r j*x j))=u.T r k*((1 / u.T r k)*u.T r N):=by rw [this]
    grind
   intro i ag
   by_cases c:i=r
   ·rw [c];exact SO
   ·have:=aa i ag
    rw [aH i c,kF i c,SO] at this
    grind
 unit:=by
  intro i ag d5 nq
  simp only [cm.cZ]
  by_cases e:i=r
  ·subst e
   simp only [if_true]
   by_cases e5:d5=i
   ·subst e5;simp only [if_true];grind
   ·simp only [if_neg e5]
    rw [h.unit i ag d5 nq,if_neg (fun x=>e5 x.symm)];grind
  ·simp only [if_neg e]
   by_cases e5:d5=r
   ·subst e5;simp only [if_true,if_neg e];grind
   ·simp only [if_neg e5]
    rw [h.unit i ag d5 nq,h.unit r ao d5 nq,if_neg (c:=r=d5) (fun x=>e5 x.symm)];grind
 kz:=fun i ag=>by
  simp only [cm.cZ]
  split
  ·exact aY
  ·exact h.kz i ag
 lV:=ca
 MI:=h.MI
theorem LT.tok (h:LT m n a b a2 N u)(a0:n≤N)(gQ:0<N):gA a2 a2 N u.T u where
 rf:=fun c aQ j _=>by
  rw [kp aQ (f:=fun i=>u.T c (u.B i)*u.T i j) (fun i ag cM=>by rw [h.unit c aQ i ag,if_neg (fun e=>cM e.symm)];grind),h.unit c aQ c aQ,if_pos rfl];grind
 row:=⟨fun i c=>if i=c then 1 else 0,fun i ag j _=>by
  rw [kp ag (f:=fun c=>(if i=c then (1:Rat) else 0)*u.T c j) (fun c _ cM=>by rw [if_neg (Ne.symm cM)];grind),if_pos rfl];grind⟩
 unit:=h.unit
 kz:=fun i ag=>Nat.lt_of_lt_of_le (h.kz i ag) a0
def uk (n:Nat)(dj:Nat→Bool)(x:Nat→Rat):Prop:= ∀j,j<n→dj j=false→x j=0
structure pF (m n:Nat) (a:Nat→Nat→Int) (b:Nat→Int) (c:Nat→Rat) (l:Nat) (dj:Nat→Bool) (V:Nat→Rat):Prop where
 low : ∀y,o2 m n a b y→uk n dj y→ ∀k,k<l→val n (iI c k) y=V k
 up : ∀y,o2 m n a b y→ ¬uk n dj y→ ∃k,k<l∧val n (iI c k) y<V k∧ ∀q,q<k→val n (iI c q) y=V q
theorem pF.zero {dj:Nat→Bool}(h:∀j,j<n→dj j=true)(V:Nat→Rat):pF m n a b c 0 dj V where
 low:=fun y _ _ k aY=>by omega
 up:=fun y _ ca=>(ca fun j aE e=>by rw [h j aE] at e;cases e).elim
theorem pF.next (h:LT m n a b a2 N u){l:Nat}{dj k6:Nat→Bool}{V:Nat→Rat}(s:pF m n a b c l dj V)(ei:∀j,j<n→dj j=true→ ¬0<u.dW a2 (iI c l) j)
 (p1 : ∀j,j<n→k6 j=(dj j && !decide (u.dW a2 (iI c l) j<0))) : ∃CB,pF m n a b c (l+1) k6 CB:=by
 have sub : ∀y,uk n k6 y→uk n dj y:=fun y aP j aE e=>aP j aE (by rw [p1 j aE,e];rfl)
 have neg : ∀y,o2 m n a b y→uk n dj y→ ∀j,j<n→0≤ -(u.dW a2 (iI c l) j*y j):=fun y aP ca j aE=>by
  cases e:dj j with
  | false=>rw [ca j aE e];grind
  | true =>
   have:=Rat.mul_nonneg (show 0≤ -(u.dW a2 (iI c l) j) by have:=ei j aE e;grind) (aP.1 j aE)
   grind
 refine ⟨fun k=>if k=l then val n (iI c l) (u.hc a2 N) else V k,fun y aP ca k aY=> ?_,fun y aP ca=> ?_⟩
 ·by_cases e:k=l
  ·rw [if_pos e,e]
   have ch:cb n (fun j=>u.dW a2 (iI c l) j*y j)=0:=nJ fun j aE=>by
    cases e:k6 j with
    | false=>rw [ca j aE e];grind
    | true =>
     rw [p1 j aE,Bool.and_eq_true] at e
     have o:=ei j aE e.1
     have J : ¬u.dW a2 (iI c l) j<0:=by simpa using e.2
     have:u.dW a2 (iI c l) j=0:=by grind
     rw [this];grind
   rw [h.J9 _ aP] at ch;grind
  ·rw [if_neg e]
   exact s.low y aP (sub y ca) k (by omega)
 ·by_cases g:uk n dj y
  ·refine ⟨l,by omega,?_,fun q bi=>by rw [if_neg (by omega)];exact s.low y aP g q bi⟩
   rw [if_pos rfl]
   have o:=h.J9 (iI c l) aP
   have J:=neg y aP g
   have af:=ry J
   have aF:cb n (fun j=> -(u.dW a2 (iI c l) j*y j))≠0:=fun e=>ca fun j aE Tv=>by
    have:=Jh J e j aE
    cases aC:dj j with
    | false=>exact g j aE aC
    | true =>
     rw [p1 j aE,aC,Bool.true_and] at Tv
     have aJ:u.dW a2 (iI c l) j<0:=by simpa using Tv
     grind
   rw [fK (g:=fun j=>(-1)*(u.dW a2 (iI c l) j*y j)) (fun j _=>by grind),iO,o] at af aF
   grind
  ·obtain ⟨k,kE,j1,mj⟩:=s.up y aP g
   exact ⟨k,by omega,by rw [if_neg (by omega)];exact j1,fun q bi=>by rw [if_neg (by omega)];exact mj q bi⟩
theorem pF.k5 (h:LT m n a b a2 N u){dj:Nat→Bool}{V:Nat→Rat}(s:pF m n a b c (n+1) dj V)(aW:∀i,i<a2→dj (u.B i)=true):s7 m n a b c (u.hc a2 N):=by
 have aa:uk n dj (u.hc a2 N):=fun j aE e=>cm.Jr fun i ag aH=>by
  have:=aW i ag
  rw [aH,e] at this;cases this
 have a6:=s.low _ h.hc aa
 refine ⟨h.hc,fun y aP ⟨l,ny,p7,F7⟩=> ?_⟩
 by_cases g:uk n dj y
 ·have:=s.low y aP g l ny
  have:=a6 l ny
  grind
 ·obtain ⟨k,kE,j1,mj⟩:=s.up y aP g
  rcases Nat.lt_trichotomy l k with e|e|e
  ·have:=mj l e;have:=a6 l ny;grind
  ·subst e;have:=a6 l ny;grind
  ·have:=F7 k e;have:=a6 k kE;grind
theorem LT.Yg (h:LT m n a b a2 N u){k s:Nat}(ei:0<u.dW a2 (iI c (k+1)) s): ∃i,i<a2∧0<u.T i s:=by
 apply Classical.byContradiction
 intro cM
 have o:0≤cb a2 (fun i=>iI c (k+1) (u.B i)*u.T i s):=ry fun i ag=>by
  have J : ¬0<u.T i s:=fun e=>cM ⟨i,ag,e⟩
  simp only [iI]
  split<;>grind
 unfold cm.dW at ei
 have af:iI c (k+1) s≤0:=by simp only [iI];split<;>grind
 grind
end
end Go.VL
namespace Go.Proofs.YtojbgalflbgajabGreat
set_option linter.unusedVariables false
set_option linter.unusedSimpArgs false
open Go Go.VL
structure bs where
 pU:ByteArray
 lc:Int
 ld:Int
 oN:Bool
 deriving DecidableEq
structure bF where
 f9:Int
 fX:Int
 gr:Int
 deriving DecidableEq
structure b4 where
 cj:(List bs)
 bz:(List bF)
 deriving DecidableEq
structure Zm where
 nF:(List Int)
 aeI:Int
 aeJ:Int
 deriving DecidableEq
structure bf where
 db:Bool
 cN:(List Int)
 deriving DecidableEq
structure ep where
 ik:bf
 iy:(List Int)
 deriving DecidableEq
structure m8 where
 jL:Int
 i1:Int
 f9:(List Int)
 fX:(List Int)
 jT:(List Int)
 deriving DecidableEq
structure ez where
 fj:Int
 og:Int
 deriving DecidableEq
structure bj where
 qn:bf
 pY:(List Int)
 deriving DecidableEq
structure rB where
 E2:(List (List bf))
 v9:bf
 EQ:(List Int)
 KT:Int
 KU:(List Bool)
 deriving DecidableEq
structure yS where
 Lb:ep
 E3:ep
 aaQ:Bool
 QB:Bool
 deriving DecidableEq
def dk (x:bs):List aB:=[.s x.pU,.n .i64 x.lc,.n .i64 x.ld,.b x.oN]
theorem afj : ∀x,∀v∈dk x,v.iQ=true:=by
 intro x v a6
 simp only [dk,List.mem_cons,List.not_mem_nil,or_false] at a6
 rcases a6 with rfl|rfl|rfl|rfl<;>rfl
theorem afk : ∀x,∀v∈dk x,cl v:=fun x=>(sX (.s _) (sX (.n _ _) (sX (.n _ _) (sX (.b _) Kn))))
theorem u2 : ∀x,∀v∈dk x,Pure v:=by
 intro x v a6
 simp only [dk,List.mem_cons,List.not_mem_nil,or_false] at a6
 rcases a6 with rfl|rfl|rfl|rfl
 ·exact .s _
 ·exact .n _ _
 ·exact .n _ _
 ·exact .b _
def c3 (x:bF):List aB:=[.n .i64 x.f9,.n .i64 x.fX,.n .i64 x.gr]
theorem afe : ∀x,∀v∈c3 x,v.iQ=true:=by
 intro x v a6
 simp only [c3,List.mem_cons,List.not_mem_nil,or_false] at a6
 rcases a6 with rfl|rfl|rfl<;>rfl
theorem aff : ∀x,∀v∈c3 x,cl v:=fun x=>(sX (.n _ _) (sX (.n _ _) (sX (.n _ _) Kn)))
theorem u0 : ∀x,∀v∈c3 x,Pure v:=by
 intro x v a6
 simp only [c3,List.mem_cons,List.not_mem_nil,or_false] at a6
 rcases a6 with rfl|rfl|rfl
 ·exact .n _ _
 ·exact .n _ _
 ·exact .n _ _
def gf (x:b4):List aB:=[.isl 4 (x.cj.map dk),.isl 3 (x.bz.map c3)]
theorem ae3 : ∀x,∀v∈gf x,v.iQ=true:=by
 intro x v a6
 simp only [gf,List.mem_cons,List.not_mem_nil,or_false] at a6
 rcases a6 with rfl|rfl<;>rfl
theorem m6 : ∀x,∀v∈gf x,Pure v:=by
 intro x v a6
 simp only [gf,List.mem_cons,List.not_mem_nil,or_false] at a6
 rcases a6 with rfl|rfl
 ·exact .isl (fs u2 _)
 ·exact .isl (fs u0 _)
def Ef (x:Zm):List aB:=[.isl 1 (x.nF.map eU8),.n .i64 x.aeI,.n .i64 x.aeJ]
theorem afa : ∀x,∀v∈Ef x,v.iQ=true:=by
 intro x v a6
 simp only [Ef,List.mem_cons,List.not_mem_nil,or_false] at a6
 rcases a6 with rfl|rfl|rfl<;>rfl
theorem ae4 : ∀x,∀v∈Ef x,Pure v:=by
 intro x v a6
 simp only [Ef,List.mem_cons,List.not_mem_nil,or_false] at a6
 rcases a6 with rfl|rfl|rfl
 ·exact .isl (fs PU _)
 ·exact .n _ _
 ·exact .n _ _
def aU (x:bf):List aB:=[.b x.db,.isl 1 (x.cN.map I)]
theorem eC : ∀x,∀v∈aU x,v.iQ=true:=by
 intro x v a6
 simp only [aU,List.mem_cons,List.not_mem_nil,or_false] at a6
 rcases a6 with rfl|rfl<;>rfl
theorem sQ : ∀x,∀v∈aU x,Pure v:=by
 intro x v a6
 simp only [aU,List.mem_cons,List.not_mem_nil,or_false] at a6
 rcases a6 with rfl|rfl
 ·exact .b _
 ·exact .isl (fs aA _)
def eE (x:ep):List aB:=[.b x.ik.db,.isl 1 (x.ik.cN.map I),.isl 1 (x.iy.map I)]
theorem afF : ∀x,∀v∈eE x,v.iQ=true:=by
 intro x v a6
 simp only [eE,List.mem_cons,List.not_mem_nil,or_false] at a6
 rcases a6 with rfl|rfl|rfl<;>rfl
theorem D6 : ∀x,∀v∈eE x,Pure v:=by
 intro x v a6
 simp only [eE,List.mem_cons,List.not_mem_nil,or_false] at a6
 rcases a6 with rfl|rfl|rfl
 ·exact .b _
 ·exact .isl (fs aA _)
 ·exact .isl (fs aA _)
def Eg (x:m8):List aB:=[.n .i64 x.jL,.n .i64 x.i1,.isl 1 (x.f9.map I),.isl 1 (x.fX.map I),.isl 1 (x.jT.map I)]
theorem afb : ∀x,∀v∈Eg x,v.iQ=true:=by
 intro x v a6
 simp only [Eg,List.mem_cons,List.not_mem_nil,or_false] at a6
 rcases a6 with rfl|rfl|rfl|rfl|rfl<;>rfl
theorem ae5 : ∀x,∀v∈Eg x,Pure v:=by
 intro x v a6
 simp only [Eg,List.mem_cons,List.not_mem_nil,or_false] at a6
 rcases a6 with rfl|rfl|rfl|rfl|rfl
 ·exact .n _ _
 ·exact .n _ _
 ·exact .isl (fs aA _)
 ·exact .isl (fs aA _)
 ·exact .isl (fs aA _)
def et (x:ez):List aB:=[.n .i64 x.fj,.n .i64 x.og]
theorem afc : ∀x,∀v∈et x,v.iQ=true:=by
 intro x v a6
 simp only [et,List.mem_cons,List.not_mem_nil,or_false] at a6
 rcases a6 with rfl|rfl<;>rfl
theorem afd : ∀x,∀v∈et x,cl v:=fun x=>(sX (.n _ _) (sX (.n _ _) Kn))
theorem uY : ∀x,∀v∈et x,Pure v:=by
 intro x v a6
 simp only [et,List.mem_cons,List.not_mem_nil,or_false] at a6
 rcases a6 with rfl|rfl
 ·exact .n _ _
 ·exact .n _ _
def aS (x:bj):List aB:=[.b x.qn.db,.isl 1 (x.qn.cN.map I),.isl 1 (x.pY.map I)]
theorem afg : ∀x,∀v∈aS x,v.iQ=true:=by
 intro x v a6
 simp only [aS,List.mem_cons,List.not_mem_nil,or_false] at a6
 rcases a6 with rfl|rfl|rfl<;>rfl
theorem hM : ∀x,∀v∈aS x,Pure v:=by
 intro x v a6
 simp only [aS,List.mem_cons,List.not_mem_nil,or_false] at a6
 rcases a6 with rfl|rfl|rfl
 ·exact .b _
 ·exact .isl (fs aA _)
 ·exact .isl (fs aA _)
def yb (x:rB):List aB:=[.isl 1 (x.E2.map (fi 2 aU)),.b x.v9.db,.isl 1 (x.v9.cN.map I),.isl 1 (x.EQ.map I),.n .i64 x.KT,.isl 1 (x.KU.map d6)]
theorem ae7 : ∀x,∀v∈yb x,v.iQ=true:=by
 intro x v a6
 simp only [yb,List.mem_cons,List.not_mem_nil,or_false] at a6
 rcases a6 with rfl|rfl|rfl|rfl|rfl|rfl<;>rfl
theorem I1 : ∀x,∀v∈yb x,Pure v:=by
 intro x v a6
 simp only [yb,List.mem_cons,List.not_mem_nil,or_false] at a6
 rcases a6 with rfl|rfl|rfl|rfl|rfl|rfl
 ·exact .isl (fs (pb (sz:=2) sQ) _)
 ·exact .b _
 ·exact .isl (fs aA _)
 ·exact .isl (fs aA _)
 ·exact .n _ _
 ·exact .isl (fs eD _)
def yH (x:yS):List aB:=[.b x.Lb.ik.db,.isl 1 (x.Lb.ik.cN.map I),.isl 1 (x.Lb.iy.map I),.b x.E3.ik.db,.isl 1 (x.E3.ik.cN.map I),.isl 1 (x.E3.iy.map I),.b x.aaQ,.b x.QB]
theorem afw : ∀x,∀v∈yH x,v.iQ=true:=by
 intro x v a6
 simp only [yH,List.mem_cons,List.not_mem_nil,or_false] at a6
 rcases a6 with rfl|rfl|rfl|rfl|rfl|rfl|rfl|rfl<;>rfl
theorem afh : ∀x,∀v∈yH x,Pure v:=by
 intro x v a6
 simp only [yH,List.mem_cons,List.not_mem_nil,or_false] at a6
 rcases a6 with rfl|rfl|rfl|rfl|rfl|rfl|rfl|rfl
 ·exact .b _
 ·exact .isl (fs aA _)
 ·exact .isl (fs aA _)
 ·exact .b _
 ·exact .isl (fs aA _)
 ·exact .isl (fs aA _)
 ·exact .b _
 ·exact .b _
noncomputable abbrev bt:Program:=Go.Proofs.Tryz.prog
theorem qm:bt.follows .mixedOrders=true:=Go.Proofs.Tryz.checked.mixed
theorem bQ {N m:Nat}{c:Code}{E:List (Nat×aB)}{rows:List (List ab)}(tape:List cG){e:Exit}{s:S}{ah:List Prop}(bk:cW ah)
 (h:FF bt N m c tape (fh E rows) rows.length=some (e,s,ah):=by kernel_rfl):jD bt N m c e (fh E rows) s:=Pv qm h bk (vk _ _)
theorem bY {f:FuncId}{args:List aB}{r:aB}{ah:List Prop}(tape:List cG)(bk:cW ah)(eL:lF:=ii)
 (h:BD bt f args [] tape [] [] eL=some (r,[],ah):=by kernel_rfl):Con bt f args [] r []:=Yb qm h bk
theorem h2 {f:FuncId}{args:List aB}{T jF:List (List ab)}{r:aB}{ah:List Prop}(tape:List cG)(aO:List Nat)(cu:List iW)(bk:cW ah)(eL:lF:=ii)
 (h:BD bt f args T tape aO cu eL=some (r,jF,ah):=by kernel_rfl):Con bt f args T r jF:=PT qm h bk
def eJ (qC ir:Int)(ja bN gH gM wG MJ gx MK LX wa LY tu:Nat):List aB:=[.n .i64 qC,.n .i64 ir,.bx ja bN gH gM,.bx wG MJ gx MK,.bx LX wa LY tu]
def ads (qC ir ja bN:Nat)(gH:List Int)(gM:Int):List aB:=[.bx qC ir ja bN,.isl 1 (gH.map I),.n .i64 gM]
def eX (qC ir ja bN:Nat)(gH:Bool)(gM:List Int)(wG MJ gx MK:Nat)(LX:Int)(wa LY tu adt:Nat):List aB:=[.bx qC ir ja bN,.b gH,.isl 1 (gM.map I),.bx wG MJ gx MK,.n .i64 LX,.bx wa LY tu adt]
end Go.Proofs.YtojbgalflbgajabGreat
namespace Go.Proofs.YtojbgalflbgajabGreat
set_option linter.unusedVariables false
set_option linter.unusedSimpArgs false
open Go Go.VL
def HE (iD:List Int):(Int×Int)→S:=fun (qw,bd)=>fh [(0,.isl 1 (iD.map eU8)),(3,.n .i64 qw),(4,.n .i64 bd)] []
def HJ (iD:List Int):Int→fp
 | a=>⟨some 0,[(0,.isl 1 (iD.map eU8)),(3,.n .i64 a)],[]⟩
def xm (iD:List Int)(qw bd:Int):Option ((Int×Int)⊕(Int)) :=
 if (decide (bd<(len_ eU8 iD)))=true then
  if (decide (bd<(4000:Int)))=true then
   if 0≤bd∧bd<iD.length then
   iD[bd.toNat]? >>= fun gP =>
   some (.inl (U (((BitVec.ofInt (IntKind.bits .i64) (U ((U ((U (qw*(73:Int)))+(IntKind.wrap .i64 gP)))+(7:Int))) &&& BitVec.ofInt (IntKind.bits .i64) (1073741823:Int)).toNat:Int)),U (bd+(1:Int))))
   else none
  else
   some (.inr qw)
 else
  some (.inr qw)
def NO (iD:List Int)(qw bd:Int):Option (Int):=iter (fun w:Int×Int=>xm iD w.1 w.2) (qw,bd)
theorem UW {iD:List Int}{qw bd:Int}:bV (xm iD qw bd) (fV bt 32 0 18 [1,1,0,1,0,0] (HE iD (qw,bd)) (HE iD) (HJ iD)):=by
 unfold xm
 exact .ite (fun o =>
  .ite (fun J =>
  .bn fun af =>
  .ay fun gP aJ =>
  .ret (bQ [.aI (av 7 (aq (.ap true) [])),.ap true,.aI (bL 5 (.cz (eU8 gP)) 5),(ad 3),.bm [] [] (bX [0,3,4])] (.fC o o o J af.1 (eI eU8 af.2) (cD eU8 aJ))))
  (fun J =>
  .ret (bQ [.aI (av 7 (aq (.ap true) [])),.ap false,.bm [] [] (bX [0,3])] (.dh o o o J))))
  (fun o =>
  .ret (bQ [.aI (av 5 (dm 2 (aq (.ap false) []))),.ap false,.bm [] [] (bX [0,3])] (.dh o o o fv)))
theorem VM {iD:List Int}{qw bd:Int}{r} (h:NO iD qw bd=some r):fW bt 32 0 18 [1,1,0,1,0,0] (HE iD) (HJ iD) (qw,bd) r:=fZ (fun _=>UW) h
def DL (iD:List Int):Option Int :=
 NO iD (U ((1975:Int)+(len_ eU8 iD))) 0 >>= fun ae =>
 some ae
theorem Wi {iD:List Int}:bV (DL iD) (fun a=>Con bt 18 [.isl 1 (iD.map eU8)] [] (.ref 0 0 0 0) [[ab.mk 3 [[.isl 1 (iD.map eU8),.n .i64 (0:Int),.n .i64 a]] .live]]):=by
 unfold DL
 exact .ay fun ae J =>
  .ret (h2 [(ad 1),(ad 4),(ad 1),.bm [] [] (bX [0,3,4]),(HJ iD ae).gL,(ad 5)] [3] [.box [.id,.id,.id]] (.aC (VM J)))
def sP (b5:List Int)(cC e7:Int):Option (Int×Int×Int) :=
 if (decide (cC<(len_ eU8 b5)))=true then
  if 0≤cC∧cC<b5.length then
  b5[cC.toNat]? >>= fun aM =>
  some (U (((BitVec.ofInt (IntKind.bits .i64) (U ((U (((BitVec.ofInt (IntKind.bits .i64) (U (((BitVec.ofInt (IntKind.bits .i64) ((U ((U (e7*(6364136223846793005:Int)))+(1442695040888963407:Int))).fdiv (2 ^ (min (33:Int).toNat (IntKind.bits .i64)))) ^^^ BitVec.ofInt (IntKind.bits .i64) ((U ((U (e7*(6364136223846793005:Int)))+(1442695040888963407:Int))).fdiv (2 ^ (min (45:Int).toNat (IntKind.bits .i64))))).toNat:Int))) &&& BitVec.ofInt (IntKind.bits .i64) (255:Int)).toNat:Int)))+(IntKind.wrap .i64 aM))) &&& BitVec.ofInt (IntKind.bits .i64) (255:Int)).toNat:Int)),U (cC+(1:Int)),U ((U (e7*(6364136223846793005:Int)))+(1442695040888963407:Int)))
  else none
 else
  some (U (((BitVec.ofInt (IntKind.bits .i64) (U (((BitVec.ofInt (IntKind.bits .i64) ((U ((U (e7*(6364136223846793005:Int)))+(1442695040888963407:Int))).fdiv (2 ^ (min (33:Int).toNat (IntKind.bits .i64)))) ^^^ BitVec.ofInt (IntKind.bits .i64) ((U ((U (e7*(6364136223846793005:Int)))+(1442695040888963407:Int))).fdiv (2 ^ (min (45:Int).toNat (IntKind.bits .i64))))).toNat:Int))) &&& BitVec.ofInt (IntKind.bits .i64) (255:Int)).toNat:Int)),cC,U ((U (e7*(6364136223846793005:Int)))+(1442695040888963407:Int)))
theorem zW {b5:List Int}{cC e7:Int}:bV (sP b5 cC e7) (fun a=>Con bt 108 [.ref 0 0 0 0] [[ab.mk 3 [[.isl 1 (b5.map eU8),.n .i64 cC,.n .i64 e7]] .live]] (.n .i64 a.1) [[ab.mk 3 [[.isl 1 (b5.map eU8),.n .i64 a.2.1,.n .i64 a.2.2]] .live]]):=by
 unfold sP
 exact (let t1:List cG:=[(ad 1),(ad 10),(ad 13),(ad 10)];
  have a5:=((.aH (by decide:(0:Int)≤33) (by decide:(0:Int)≤45)):cW _);
  .ite (fun o =>
  .bn fun J =>
  .ay fun aM aF =>
  .ret (h2 (t1.append [.ap true,.aI (bL 10 (.cz (eU8 aM)) 4),(ad 9),(ad 2)]) [0] [.box [.id,.id,.id]] (a5.a1 (.dh o J.1 (eI eU8 J.2) (cD eU8 aF)))))
  (fun o =>
  .ret (h2 (t1.append [.ap false,(ad 2)]) [0] [.box [.id,.id,.id]] (a5.a1 (.aC o)))))
def lg (bh:Int)(b5:List Int)(cC e7:Int):Option (Int×Int×Int) :=
 if (decide (bh≤(0:Int)))=true then
  some (0,cC,e7)
 else
  if (decide (bh≤(256:Int)))=true then
   sP b5 cC e7 >>= fun bl =>
   if bh≠0 then
   some (bl.1.tmod bh,bl.2.1,bl.2.2)
   else none
  else
   sP b5 cC e7 >>= fun bl =>
   sP b5 bl.2.1 bl.2.2 >>= fun br =>
   sP b5 br.2.1 br.2.2 >>= fun bZ =>
   sP b5 bZ.2.1 bZ.2.2 >>= fun ba =>
   if bh≠0 then
   some ((U ((U ((U ((U (bl.1*(16777216:Int)))+(U (br.1*(65536:Int)))))+(U (bZ.1*(256:Int)))))+ba.1)).tmod bh,ba.2.1,ba.2.2)
   else none
theorem mr {bh:Int}{b5:List Int}{cC e7:Int}:bV (lg bh b5 cC e7) (fun a=>Con bt 84 [.ref 0 0 0 0,.n .i64 bh] [[ab.mk 3 [[.isl 1 (b5.map eU8),.n .i64 cC,.n .i64 e7]] .live]] (.n .i64 a.1) [[ab.mk 3 [[.isl 1 (b5.map eU8),.n .i64 a.2.1,.n .i64 a.2.2]] .live]]):=by
 unfold lg
 exact .ite (fun o =>
  .ret (h2 [(ad 1),(ad 2),.ap true,(ad 1)] [0] [.box [.id,.id,.id]] (.aC o)))
  (fun o =>
  (let t1:List cG:=[(ad 1),(ad 2),.ap false,(ad 2)];
  .ite (fun J =>
  .ay fun bl aF =>
  .bn fun aJ =>
  .ret (h2 (t1.append [.ap true,.aI (bL 1 (.call {aO:=[.row 0],cu:=[.box [.id,.id,.id]],ac:=[ii],r:= .n .i64 bl.1,dg:=[[ab.mk 3 [[.isl 1 (b5.map eU8),.n .i64 bl.2.1,.n .i64 bl.2.2]] .live]],eL:=ii,fq:=[.box [.id,.id,.id]],dZ:=[0],dr:=false}) 3)]) [0] [.box [.id,.id,.id]] (.dh o J (zW bl aF) aJ)))
  (fun J =>
  .ay fun bl aF =>
  .ay fun br bp =>
  .ay fun bZ bu =>
  .ay fun ba da =>
  .bn fun c8 =>
  .ret (h2 (t1.append [.ap false,.aI (bL 1 (.call {aO:=[.row 0],cu:=[.box [.id,.id,.id]],ac:=[ii],r:= .n .i64 bl.1,dg:=[[ab.mk 3 [[.isl 1 (b5.map eU8),.n .i64 bl.2.1,.n .i64 bl.2.2]] .live]],eL:=ii,fq:=[.box [.id,.id,.id]],dZ:=[0],dr:=false}) 1),.aI (bL 1 (.call {aO:=[.row 0],cu:=[.box [.id,.id,.id]],ac:=[ii],r:= .n .i64 br.1,dg:=[[ab.mk 3 [[.isl 1 (b5.map eU8),.n .i64 br.2.1,.n .i64 br.2.2]] .live]],eL:=ii,fq:=[.box [.id,.id,.id]],dZ:=[0],dr:=false}) 1),.aI (bL 1 (.call {aO:=[.row 0],cu:=[.box [.id,.id,.id]],ac:=[ii],r:= .n .i64 bZ.1,dg:=[[ab.mk 3 [[.isl 1 (b5.map eU8),.n .i64 bZ.2.1,.n .i64 bZ.2.2]] .live]],eL:=ii,fq:=[.box [.id,.id,.id]],dZ:=[0],dr:=false}) 1),.aI (bL 1 (.call {aO:=[.row 0],cu:=[.box [.id,.id,.id]],ac:=[ii],r:= .n .i64 ba.1,dg:=[[ab.mk 3 [[.isl 1 (b5.map eU8),.n .i64 ba.2.1,.n .i64 ba.2.2]] .live]],eL:=ii,fq:=[.box [.id,.id,.id]],dZ:=[0],dr:=false}) 1),(ad 13)]) [0] [.box [.id,.id,.id]] (.fC o J (zW bl aF) (zW br bp) (zW bZ bu) (zW ba da) c8)))))
def xW (bh:Int)(b5:List Int)(cC e7:Int):Option (Bool×Int×Int) :=
 lg bh b5 cC e7 >>= fun ae =>
 some ((ae.1 == (0:Int)),ae.2.1,ae.2.2)
theorem Dn {bh:Int}{b5:List Int}{cC e7:Int}:bV (xW bh b5 cC e7) (fun a=>Con bt 81 [.ref 0 0 0 0,.n .i64 bh] [[ab.mk 3 [[.isl 1 (b5.map eU8),.n .i64 cC,.n .i64 e7]] .live]] (.b a.1) [[ab.mk 3 [[.isl 1 (b5.map eU8),.n .i64 a.2.1,.n .i64 a.2.2]] .live]]):=by
 unfold xW
 exact .ay fun ae J =>
  .ret (h2 [(ad 1),.aI (bL 2 (.call {aO:=[.row 0],cu:=[.box [.id,.id,.id]],ac:=[ii,ii],r:= .n .i64 ae.1,dg:=[[ab.mk 3 [[.isl 1 (b5.map eU8),.n .i64 ae.2.1,.n .i64 ae.2.2]] .live]],eL:=ii,fq:=[.box [.id,.id,.id]],dZ:=[0],dr:=false}) 2)] [0] [.box [.id,.id,.id]] (.aC (mr ae J)))
def xX (cH b5:List Int)(cC e7:Int):Option (Int×Int×Int) :=
 lg (len_ I cH) b5 cC e7 >>= fun ae =>
 if 0≤ae.1∧ae.1<cH.length then
 cH[ae.1.toNat]? >>= fun gP =>
 some (gP,ae.2.1,ae.2.2)
 else none
theorem ID {cH b5:List Int}{cC e7:Int}:bV (xX cH b5 cC e7) (fun a=>Con bt 107 [.ref 0 0 0 0,.isl 1 (cH.map I)] [[ab.mk 3 [[.isl 1 (b5.map eU8),.n .i64 cC,.n .i64 e7]] .live]] (.n .i64 a.1) [[ab.mk 3 [[.isl 1 (b5.map eU8),.n .i64 a.2.1,.n .i64 a.2.2]] .live]]):=by
 unfold xX
 exact .ay fun ae J =>
  .bn fun af =>
  .ay fun gP aJ =>
  .ret (h2 [(ad 1),.aI (av 4 (aq (.call {aO:=[.row 0],cu:=[.box [.id,.id,.id]],ac:=[ii,ii],r:= .n .i64 ae.1,dg:=[[ab.mk 3 [[.isl 1 (b5.map eU8),.n .i64 ae.2.1,.n .i64 ae.2.2]] .live]],eL:=ii,fq:=[.box [.id,.id,.id]],dZ:=[0],dr:=false}) (bL 1 (.cz (I gP)) 1)))] [0] [.box [.id,.id,.id]] (.dh (mr ae J) af.1 (eI I af.2) (cD I aJ)))
def HF (aZ:List Int)(an:List bs):(Int×Int×Int×(List bF))→S:=fun (bh,aN,cJ,a7)=>fh [(0,.ref 0 0 0 0),(2,.ref 1 0 0 0),(3,.ref 2 0 0 0),(4,.n .i64 bh)] [[ab.mk 3 [[.isl 1 (aZ.map eU8),.n .i64 aN,.n .i64 cJ]] .live],[ab.mk 2 [[.eP,.eP]] .live],[ab.mk 2 [[.bx 3 0 0 an.length,.bx 4 0 0 a7.length]] .live],(au 4 dk an),(au 3 c3 a7)]
def HK (aZ:List Int)(an:List bs):(Int×Int×(List bF))→fp
 | a=>⟨some 0,[(2,.ref 1 0 0 0),(3,.ref 2 0 0 0)],[[ab.mk 3 [[.isl 1 (aZ.map eU8),.n .i64 a.1,.n .i64 a.2.1]] .live],[ab.mk 2 [[.eP,.eP]] .live],[ab.mk 2 [[.bx 3 0 0 an.length,.bx 4 0 0 a.2.2.length]] .live],(au 4 dk an),(au 3 c3 a.2.2)]⟩
def xn (aZ:List Int)(an:List bs)(bh aN cJ:Int)(a7:List bF):Option ((Int×Int×Int×(List bF))⊕(Int×Int×(List bF))) :=
 if (decide ((0:Int)<bh))=true then
  lg 2 aZ aN cJ >>= fun bq =>
  lg 2 aZ bq.2.1 bq.2.2 >>= fun aw =>
  lg 3 aZ aw.2.1 aw.2.2 >>= fun bI =>
  if (a7++([(⟨bq.1,U ((2:Int)+aw.1),U ((1:Int)+bI.1)⟩:bF)]:List bF)).length*24≤140737488355328 then
  some (.inl (U (bh-(1:Int)),bI.2.1,bI.2.2,a7++([(⟨bq.1,U ((2:Int)+aw.1),U ((1:Int)+bI.1)⟩:bF)]:List bF)))
  else none
 else
  some (.inr (aN,cJ,a7))
def NP (aZ:List Int)(an:List bs)(bh aN cJ:Int)(a7:List bF):Option (Int×Int×(List bF)):=iter (fun w:Int×Int×Int×(List bF)=>xn aZ an w.1 w.2.1 w.2.2.1 w.2.2.2) (bh,aN,cJ,a7)
theorem UX {aZ:List Int}{an:List bs}{bh aN cJ:Int}{a7:List bF}:bV (xn aZ an bh aN cJ a7) (fV bt 56 1 82 [1,1,1,1,0,1,0,0] (HF aZ an (bh,aN,cJ,a7)) (HF aZ an) (HK aZ an)):=by
 unfold xn
 exact .ite (fun o =>
  .ay fun bq af =>
  .ay fun aw aJ =>
  .ay fun bI bJ =>
  .bn fun bu =>
  .ret (let aL:=(a7++([(⟨bq.1,U ((2:Int)+aw.1),U ((1:Int)+bI.1)⟩:bF)]:List bF));bQ [(ad 2),.ap true,.aI (av 3 (aq (.call {aO:=[.row 0],cu:=[.box [.id,.id,.id]],ac:=[ii,ii],r:= .n .i64 bq.1,dg:=[[ab.mk 3 [[.isl 1 (aZ.map eU8),.n .i64 bq.2.1,.n .i64 bq.2.2]] .live]],eL:=ii,fq:=[.box [.id,.id,.id]],dZ:=[0],dr:=false}) (av 1 (aq (.call {aO:=[.row 0],cu:=[.box [.id,.id,.id]],ac:=[ii,ii],r:= .n .i64 aw.1,dg:=[[ab.mk 3 [[.isl 1 (aZ.map eU8),.n .i64 aw.2.1,.n .i64 aw.2.2]] .live]],eL:=ii,fq:=[.box [.id,.id,.id]],dZ:=[0],dr:=false}) (av 2 (aq (.call {aO:=[.row 0],cu:=[.box [.id,.id,.id]],ac:=[ii,ii],r:= .n .i64 bI.1,dg:=[[ab.mk 3 [[.isl 1 (aZ.map eU8),.n .i64 bI.2.1,.n .i64 bI.2.2]] .live]],eL:=ii,fq:=[.box [.id,.id,.id]],dZ:=[0],dr:=false}) (bL 3 (.a1 (aL.length)) 2))))))),(ad 3),.bm [0,1,2,3,19] [.box [.id,.id,.id],.box [.id,.id],.box [.id,.id],.pure,.dY (au 3 c3 aL)] (bX [0,2,3,4])] (.bo o (mr bq af) (mr aw aJ) (mr bI bJ) (mi c3 (⟨bq.1,U ((2:Int)+aw.1),U ((1:Int)+bI.1)⟩:bF)) (qF c3 a7) (n7 c3 a7 (⟨bq.1,U ((2:Int)+aw.1),U ((1:Int)+bI.1)⟩:bF)) bu (.cd (aD 4 .live u2 an) (eB 3 .live (qG c3 a7 (⟨bq.1,U ((2:Int)+aw.1),U ((1:Int)+bI.1)⟩:bF))) (aD 3 .live u0 aL)))))
  (fun o =>
  .ret (bQ [(ad 2),.ap false,.bm [0,1,2,3,4] [.box [.id,.id,.id],.box [.id,.id],.box [.id,.id],.pure,.pure] (bX [2,3])] (.cd o (aD 4 .live u2 an) (aD 3 .live u0 a7))))
theorem VN {aZ:List Int}{an:List bs}{bh aN cJ:Int}{a7:List bF}{r} (h:NP aZ an bh aN cJ a7=some r):fW bt 56 1 82 [1,1,1,1,0,1,0,0] (HF aZ an) (HK aZ an) (bh,aN,cJ,a7) r:=fZ (fun _=>UX) h
def z5 (b5:List Int)(cC e7:Int):Option ((List bs)×(List bF)×Int×Int) :=
 lg 3 b5 cC e7 >>= fun ae =>
 lg 3 b5 ae.2.1 ae.2.2 >>= fun bl =>
 lg 2 b5 bl.2.1 bl.2.2 >>= fun br =>
 lg 3 b5 br.2.1 br.2.2 >>= fun bZ =>
 lg 2 b5 bZ.2.1 bZ.2.2 >>= fun ba =>
 lg 3 b5 ba.2.1 ba.2.2 >>= fun cE =>
 xX ([1,2,3]:List Int) b5 cE.2.1 cE.2.2 >>= fun ed =>
 lg 3 b5 ed.2.1 ed.2.2 >>= fun fN =>
 NP b5 ([(⟨(⟨#[97]⟩:ByteArray),(-2),ae.1,true⟩:bs),(⟨(⟨#[98]⟩:ByteArray),6,bl.1,true⟩:bs),(⟨(⟨#[99]⟩:ByteArray),br.1,U ((-1:Int)-bZ.1),false⟩:bs),(⟨(⟨#[100]⟩:ByteArray),U ((3:Int)+ba.1),U ((-1:Int)-cE.1),false⟩:bs)]:List bs) fN.1 fN.2.1 fN.2.2 ([(⟨0,2,1⟩:bF),(⟨2,3,ed.1⟩:bF),(⟨3,1,1⟩:bF)]:List bF) >>= fun iU =>
 some (([(⟨(⟨#[97]⟩:ByteArray),(-2),ae.1,true⟩:bs),(⟨(⟨#[98]⟩:ByteArray),6,bl.1,true⟩:bs),(⟨(⟨#[99]⟩:ByteArray),br.1,U ((-1:Int)-bZ.1),false⟩:bs),(⟨(⟨#[100]⟩:ByteArray),U ((3:Int)+ba.1),U ((-1:Int)-cE.1),false⟩:bs)]:List bs),iU.2.2,iU.1,iU.2.1)
theorem Wj {b5:List Int}{cC e7:Int}:bV (z5 b5 cC e7) (fun a=>Con bt 82 [.ref 0 0 0 0] [[ab.mk 3 [[.isl 1 (b5.map eU8),.n .i64 cC,.n .i64 e7]] .live]] (.agg [.isl 4 (a.1.map dk),.isl 3 (a.2.1.map c3)]) [[ab.mk 3 [[.isl 1 (b5.map eU8),.n .i64 a.2.2.1,.n .i64 a.2.2.2]] .live]]):=by
 unfold z5
 exact .ay fun ae J =>
  .ay fun bl aF =>
  .ay fun br bp =>
  .ay fun bZ bu =>
  .ay fun ba da =>
  .ay fun cE eF =>
  .ay fun ed d8 =>
  .ay fun fN fT =>
  .ay fun iU kA =>
  .ret (h2 [(ad 1),(ad 3),.aI (av 1 (aq (.call {aO:=[.row 0],cu:=[.box [.id,.id,.id]],ac:=[ii,ii],r:= .n .i64 ae.1,dg:=[[ab.mk 3 [[.isl 1 (b5.map eU8),.n .i64 ae.2.1,.n .i64 ae.2.2]] .live]],eL:=ii,fq:=[.box [.id,.id,.id]],dZ:=[0],dr:=false}) (av 2 (aq (.call {aO:=[.row 0],cu:=[.box [.id,.id,.id]],ac:=[ii,ii],r:= .n .i64 bl.1,dg:=[[ab.mk 3 [[.isl 1 (b5.map eU8),.n .i64 bl.2.1,.n .i64 bl.2.2]] .live]],eL:=ii,fq:=[.box [.id,.id,.id]],dZ:=[0],dr:=false}) (av 2 (aq (.call {aO:=[.row 0],cu:=[.box [.id,.id,.id]],ac:=[ii,ii],r:= .n .i64 br.1,dg:=[[ab.mk 3 [[.isl 1 (b5.map eU8),.n .i64 br.2.1,.n .i64 br.2.2]] .live]],eL:=ii,fq:=[.box [.id,.id,.id]],dZ:=[0],dr:=false}) (av 1 (aq (.call {aO:=[.row 0],cu:=[.box [.id,.id,.id]],ac:=[ii,ii],r:= .n .i64 bZ.1,dg:=[[ab.mk 3 [[.isl 1 (b5.map eU8),.n .i64 bZ.2.1,.n .i64 bZ.2.2]] .live]],eL:=ii,fq:=[.box [.id,.id,.id]],dZ:=[0],dr:=false}) (av 3 (aq (.call {aO:=[.row 0],cu:=[.box [.id,.id,.id]],ac:=[ii,ii],r:= .n .i64 ba.1,dg:=[[ab.mk 3 [[.isl 1 (b5.map eU8),.n .i64 ba.2.1,.n .i64 ba.2.2]] .live]],eL:=ii,fq:=[.box [.id,.id,.id]],dZ:=[0],dr:=false}) (bL 2 (.call {aO:=[.row 0],cu:=[.box [.id,.id,.id]],ac:=[ii,ii],r:= .n .i64 cE.1,dg:=[[ab.mk 3 [[.isl 1 (b5.map eU8),.n .i64 cE.2.1,.n .i64 cE.2.2]] .live]],eL:=ii,fq:=[.box [.id,.id,.id]],dZ:=[0],dr:=false}) 5))))))))))),.aI (bL 3 (.wu 29 (.call {aO:=[.row 0],cu:=[.box [.id,.id,.id]],ac:=[ii,.bE (.ck (.gv (([1,2,3]:List Int).map I)))],r:= .n .i64 ed.1,dg:=[[ab.mk 3 [[.isl 1 (b5.map eU8),.n .i64 ed.2.1,.n .i64 ed.2.2]] .live]],eL:=ii,fq:=[.box [.id,.id,.id]],dZ:=[0,29],dr:=false})) 5),.aI (bL 1 (.call {aO:=[.row 0],cu:=[.box [.id,.id,.id]],ac:=[ii,ii],r:= .n .i64 fN.1,dg:=[[ab.mk 3 [[.isl 1 (b5.map eU8),.n .i64 fN.2.1,.n .i64 fN.2.2]] .live]],eL:=ii,fq:=[.box [.id,.id,.id]],dZ:=[0],dr:=false}) 1),.bm [0,1,3,24,33] [.box [.id,.id,.id],.box [.id,.id],.box [.len (([(⟨(⟨#[97]⟩:ByteArray),(-2),ae.1,true⟩:bs),(⟨(⟨#[98]⟩:ByteArray),6,bl.1,true⟩:bs),(⟨(⟨#[99]⟩:ByteArray),br.1,U ((-1:Int)-bZ.1),false⟩:bs),(⟨(⟨#[100]⟩:ByteArray),U ((3:Int)+ba.1),U ((-1:Int)-cE.1),false⟩:bs)]:List bs).length),.len (([(⟨0,2,1⟩:bF),(⟨2,3,ed.1⟩:bF),(⟨3,1,1⟩:bF)]:List bF).length)],.dY (au 4 dk ([(⟨(⟨#[97]⟩:ByteArray),(-2),ae.1,true⟩:bs),(⟨(⟨#[98]⟩:ByteArray),6,bl.1,true⟩:bs),(⟨(⟨#[99]⟩:ByteArray),br.1,U ((-1:Int)-bZ.1),false⟩:bs),(⟨(⟨#[100]⟩:ByteArray),U ((3:Int)+ba.1),U ((-1:Int)-cE.1),false⟩:bs)]:List bs)),.dY (au 3 c3 ([(⟨0,2,1⟩:bF),(⟨2,3,ed.1⟩:bF),(⟨3,1,1⟩:bF)]:List bF))] (bX [0,2,3,4]),(HK b5 ([(⟨(⟨#[97]⟩:ByteArray),(-2),ae.1,true⟩:bs),(⟨(⟨#[98]⟩:ByteArray),6,bl.1,true⟩:bs),(⟨(⟨#[99]⟩:ByteArray),br.1,U ((-1:Int)-bZ.1),false⟩:bs),(⟨(⟨#[100]⟩:ByteArray),U ((3:Int)+ba.1),U ((-1:Int)-cE.1),false⟩:bs)]:List bs) iU).gL,(ad 2)] [0] [.box [.id,.id,.id]] (.bo (mr ae J) (mr bl aF) (mr br bp) (mr bZ bu) (mr ba da) (mr cE eF) (ms (show [[.n .i64 (1:Int)],[.n .i64 (2:Int)],[.n .i64 (3:Int)]]=(([1,2,3]:List Int)).map I from rfl) (show 3=([1,2,3]:List Int).length from rfl)) (oK (show [[.n .i64 (1:Int)],[.n .i64 (2:Int)],[.n .i64 (3:Int)]]=(([1,2,3]:List Int)).map I from rfl) (show 3=([1,2,3]:List Int).length from rfl)) (.bo (fs aA ([1,2,3]:List Int)) (ID ed d8) (mr fN fT) (show 4=([(⟨(⟨#[97]⟩:ByteArray),(-2),ae.1,true⟩:bs),(⟨(⟨#[98]⟩:ByteArray),6,bl.1,true⟩:bs),(⟨(⟨#[99]⟩:ByteArray),br.1,U ((-1:Int)-bZ.1),false⟩:bs),(⟨(⟨#[100]⟩:ByteArray),U ((3:Int)+ba.1),U ((-1:Int)-cE.1),false⟩:bs)]:List bs).length from rfl) (show 3=([(⟨0,2,1⟩:bF),(⟨2,3,ed.1⟩:bF),(⟨3,1,1⟩:bF)]:List bF).length from rfl) (eB 4 .live (show [[.s (⟨#[97]⟩:ByteArray),.n .i64 (-2:Int),.n .i64 ae.1,.b true],[.s (⟨#[98]⟩:ByteArray),.n .i64 (6:Int),.n .i64 bl.1,.b true],[.s (⟨#[99]⟩:ByteArray),.n .i64 br.1,.n .i64 (U ((-1:Int)-bZ.1)),.b false],[.s (⟨#[100]⟩:ByteArray),.n .i64 (U ((3:Int)+ba.1)),.n .i64 (U ((-1:Int)-cE.1)),.b false]]=(([(⟨(⟨#[97]⟩:ByteArray),(-2),ae.1,true⟩:bs),(⟨(⟨#[98]⟩:ByteArray),6,bl.1,true⟩:bs),(⟨(⟨#[99]⟩:ByteArray),br.1,U ((-1:Int)-bZ.1),false⟩:bs),(⟨(⟨#[100]⟩:ByteArray),U ((3:Int)+ba.1),U ((-1:Int)-cE.1),false⟩:bs)]:List bs)).map dk from rfl)) (aD 4 .live u2 ([(⟨(⟨#[97]⟩:ByteArray),(-2),ae.1,true⟩:bs),(⟨(⟨#[98]⟩:ByteArray),6,bl.1,true⟩:bs),(⟨(⟨#[99]⟩:ByteArray),br.1,U ((-1:Int)-bZ.1),false⟩:bs),(⟨(⟨#[100]⟩:ByteArray),U ((3:Int)+ba.1),U ((-1:Int)-cE.1),false⟩:bs)]:List bs)) (eB 3 .live (show [[.n .i64 (0:Int),.n .i64 (2:Int),.n .i64 (1:Int)],[.n .i64 (2:Int),.n .i64 (3:Int),.n .i64 ed.1],[.n .i64 (3:Int),.n .i64 (1:Int),.n .i64 (1:Int)]]=(([(⟨0,2,1⟩:bF),(⟨2,3,ed.1⟩:bF),(⟨3,1,1⟩:bF)]:List bF)).map c3 from rfl)) (.h6 (aD 3 .live u0 ([(⟨0,2,1⟩:bF),(⟨2,3,ed.1⟩:bF),(⟨3,1,1⟩:bF)]:List bF)) (VN kA) (ki dk ([(⟨(⟨#[97]⟩:ByteArray),(-2),ae.1,true⟩:bs),(⟨(⟨#[98]⟩:ByteArray),6,bl.1,true⟩:bs),(⟨(⟨#[99]⟩:ByteArray),br.1,U ((-1:Int)-bZ.1),false⟩:bs),(⟨(⟨#[100]⟩:ByteArray),U ((3:Int)+ba.1),U ((-1:Int)-cE.1),false⟩:bs)]:List bs)) (jw dk ([(⟨(⟨#[97]⟩:ByteArray),(-2),ae.1,true⟩:bs),(⟨(⟨#[98]⟩:ByteArray),6,bl.1,true⟩:bs),(⟨(⟨#[99]⟩:ByteArray),br.1,U ((-1:Int)-bZ.1),false⟩:bs),(⟨(⟨#[100]⟩:ByteArray),U ((3:Int)+ba.1),U ((-1:Int)-cE.1),false⟩:bs)]:List bs)) (fs u2 ([(⟨(⟨#[97]⟩:ByteArray),(-2),ae.1,true⟩:bs),(⟨(⟨#[98]⟩:ByteArray),6,bl.1,true⟩:bs),(⟨(⟨#[99]⟩:ByteArray),br.1,U ((-1:Int)-bZ.1),false⟩:bs),(⟨(⟨#[100]⟩:ByteArray),U ((3:Int)+ba.1),U ((-1:Int)-cE.1),false⟩:bs)]:List bs)) (ki c3 iU.2.2) (jw c3 iU.2.2) (fs u0 iU.2.2)))) (.bE (.agg [.gv (([(⟨(⟨#[97]⟩:ByteArray),(-2),ae.1,true⟩:bs),(⟨(⟨#[98]⟩:ByteArray),6,bl.1,true⟩:bs),(⟨(⟨#[99]⟩:ByteArray),br.1,U ((-1:Int)-bZ.1),false⟩:bs),(⟨(⟨#[100]⟩:ByteArray),U ((3:Int)+ba.1),U ((-1:Int)-cE.1),false⟩:bs)]:List bs).map dk),.gv (iU.2.2.map c3)])))
def z2 (b5:List Int)(cC e7:Int):Option ((List bs)×(List bF)×Int×Int) :=
 lg 4 b5 cC e7 >>= fun ae =>
 lg 3 b5 ae.2.1 ae.2.2 >>= fun bl =>
 lg 4 b5 bl.2.1 bl.2.2 >>= fun br =>
 lg 3 b5 br.2.1 br.2.2 >>= fun bZ =>
 lg 4 b5 bZ.2.1 bZ.2.2 >>= fun ba =>
 lg 4 b5 ba.2.1 ba.2.2 >>= fun cE =>
 xX ([1,1,1,3]:List Int) b5 cE.2.1 cE.2.2 >>= fun ed =>
 xW 2 b5 ed.2.1 ed.2.2 >>= fun fN =>
 if fN.1=true then
  lg 5 b5 fN.2.1 fN.2.2 >>= fun eK =>
  if (([(⟨(⟨#[97]⟩:ByteArray),U ((-1:Int)-ae.1),bl.1,true⟩:bs),(⟨(⟨#[98]⟩:ByteArray),U ((3:Int)+br.1),bZ.1,true⟩:bs),(⟨(⟨#[99]⟩:ByteArray),U (ba.1-(1:Int)),U ((-1:Int)-cE.1),false⟩:bs)]:List bs)++([(⟨(⟨#[100]⟩:ByteArray),U (eK.1-(1:Int)),(-7),true⟩:bs)]:List bs)).length*40≤140737488355328 then
  xX ([1,2,3]:List Int) b5 eK.2.1 eK.2.2 >>= fun jr =>
  if (([(⟨0,2,1⟩:bF),(⟨1,2,ed.1⟩:bF)]:List bF)++([(⟨3,2,jr.1⟩:bF)]:List bF)).length*24≤140737488355328 then
  some (([(⟨(⟨#[97]⟩:ByteArray),U ((-1:Int)-ae.1),bl.1,true⟩:bs),(⟨(⟨#[98]⟩:ByteArray),U ((3:Int)+br.1),bZ.1,true⟩:bs),(⟨(⟨#[99]⟩:ByteArray),U (ba.1-(1:Int)),U ((-1:Int)-cE.1),false⟩:bs)]:List bs)++([(⟨(⟨#[100]⟩:ByteArray),U (eK.1-(1:Int)),(-7),true⟩:bs)]:List bs),([(⟨0,2,1⟩:bF),(⟨1,2,ed.1⟩:bF)]:List bF)++([(⟨3,2,jr.1⟩:bF)]:List bF),jr.2.1,jr.2.2)
  else none
  else none
 else
  some (([(⟨(⟨#[97]⟩:ByteArray),U ((-1:Int)-ae.1),bl.1,true⟩:bs),(⟨(⟨#[98]⟩:ByteArray),U ((3:Int)+br.1),bZ.1,true⟩:bs),(⟨(⟨#[99]⟩:ByteArray),U (ba.1-(1:Int)),U ((-1:Int)-cE.1),false⟩:bs)]:List bs),([(⟨0,2,1⟩:bF),(⟨1,2,ed.1⟩:bF)]:List bF),fN.2.1,fN.2.2)
set_option maxHeartbeats 4000000 in
theorem V7 {b5:List Int}{cC e7:Int}:bV (z2 b5 cC e7) (fun a=>Con bt 83 [.ref 0 0 0 0] [[ab.mk 3 [[.isl 1 (b5.map eU8),.n .i64 cC,.n .i64 e7]] .live]] (.agg [.isl 4 (a.1.map dk),.isl 3 (a.2.1.map c3)]) [[ab.mk 3 [[.isl 1 (b5.map eU8),.n .i64 a.2.2.1,.n .i64 a.2.2.2]] .live]]):=by
 unfold z2
 exact .ay fun ae J =>
  .ay fun bl aF =>
  .ay fun br bp =>
  .ay fun bZ bu =>
  .ay fun ba da =>
  .ay fun cE eF =>
  .ay fun ed d8 =>
  .ay fun fN fT =>
  (let t1:List cG:=[(ad 1),(ad 3),.aI (av 1 (aq (.call {aO:=[.row 0],cu:=[.box [.id,.id,.id]],ac:=[ii,ii],r:= .n .i64 ae.1,dg:=[[ab.mk 3 [[.isl 1 (b5.map eU8),.n .i64 ae.2.1,.n .i64 ae.2.2]] .live]],eL:=ii,fq:=[.box [.id,.id,.id]],dZ:=[0],dr:=false}) (av 2 (aq (.call {aO:=[.row 0],cu:=[.box [.id,.id,.id]],ac:=[ii,ii],r:= .n .i64 bl.1,dg:=[[ab.mk 3 [[.isl 1 (b5.map eU8),.n .i64 bl.2.1,.n .i64 bl.2.2]] .live]],eL:=ii,fq:=[.box [.id,.id,.id]],dZ:=[0],dr:=false}) (av 2 (aq (.call {aO:=[.row 0],cu:=[.box [.id,.id,.id]],ac:=[ii,ii],r:= .n .i64 br.1,dg:=[[ab.mk 3 [[.isl 1 (b5.map eU8),.n .i64 br.2.1,.n .i64 br.2.2]] .live]],eL:=ii,fq:=[.box [.id,.id,.id]],dZ:=[0],dr:=false}) (av 2 (aq (.call {aO:=[.row 0],cu:=[.box [.id,.id,.id]],ac:=[ii,ii],r:= .n .i64 bZ.1,dg:=[[ab.mk 3 [[.isl 1 (b5.map eU8),.n .i64 bZ.2.1,.n .i64 bZ.2.2]] .live]],eL:=ii,fq:=[.box [.id,.id,.id]],dZ:=[0],dr:=false}) (av 2 (aq (.call {aO:=[.row 0],cu:=[.box [.id,.id,.id]],ac:=[ii,ii],r:= .n .i64 ba.1,dg:=[[ab.mk 3 [[.isl 1 (b5.map eU8),.n .i64 ba.2.1,.n .i64 ba.2.2]] .live]],eL:=ii,fq:=[.box [.id,.id,.id]],dZ:=[0],dr:=false}) (bL 2 (.call {aO:=[.row 0],cu:=[.box [.id,.id,.id]],ac:=[ii,ii],r:= .n .i64 cE.1,dg:=[[ab.mk 3 [[.isl 1 (b5.map eU8),.n .i64 cE.2.1,.n .i64 cE.2.2]] .live]],eL:=ii,fq:=[.box [.id,.id,.id]],dZ:=[0],dr:=false}) 5))))))))))),.aI (bL 3 (.wu 29 (.call {aO:=[.row 0],cu:=[.box [.id,.id,.id]],ac:=[ii,.bE (.ck (.gv (([1,1,1,3]:List Int).map I)))],r:= .n .i64 ed.1,dg:=[[ab.mk 3 [[.isl 1 (b5.map eU8),.n .i64 ed.2.1,.n .i64 ed.2.2]] .live]],eL:=ii,fq:=[.box [.id,.id,.id]],dZ:=[0,29],dr:=false})) 4),.aI (av 1 (aq (.call {aO:=[.row 0],cu:=[.box [.id,.id,.id]],ac:=[ii,ii],r:= .b fN.1,dg:=[[ab.mk 3 [[.isl 1 (b5.map eU8),.n .i64 fN.2.1,.n .i64 fN.2.2]] .live]],eL:=ii,fq:=[.box [.id,.id,.id]],dZ:=[0],dr:=false}) []))];
  have a5:=((.bo (mr ae J) (mr bl aF) (mr br bp) (mr bZ bu) (mr ba da) (mr cE eF) (ms (show [[.n .i64 (1:Int)],[.n .i64 (1:Int)],[.n .i64 (1:Int)],[.n .i64 (3:Int)]]=(([1,1,1,3]:List Int)).map I from rfl) (show 4=([1,1,1,3]:List Int).length from rfl)) (oK (show [[.n .i64 (1:Int)],[.n .i64 (1:Int)],[.n .i64 (1:Int)],[.n .i64 (3:Int)]]=(([1,1,1,3]:List Int)).map I from rfl) (show 4=([1,1,1,3]:List Int).length from rfl)) (.cd (fs aA ([1,1,1,3]:List Int)) (ID ed d8) (Dn fN fT))):cW _);
  .ite (fun g7 =>
  .ay fun eK j0 =>
  .bn fun oA =>
  .ay fun jr n1 =>
  .bn fun lT =>
  .ret (let aL:=(([(⟨(⟨#[97]⟩:ByteArray),U ((-1:Int)-ae.1),bl.1,true⟩:bs),(⟨(⟨#[98]⟩:ByteArray),U ((3:Int)+br.1),bZ.1,true⟩:bs),(⟨(⟨#[99]⟩:ByteArray),U (ba.1-(1:Int)),U ((-1:Int)-cE.1),false⟩:bs)]:List bs)++([(⟨(⟨#[100]⟩:ByteArray),U (eK.1-(1:Int)),(-7),true⟩:bs)]:List bs));let bg:=(([(⟨0,2,1⟩:bF),(⟨1,2,ed.1⟩:bF)]:List bF)++([(⟨3,2,jr.1⟩:bF)]:List bF));let b1:=(wC dk (⟨(⟨#[100]⟩:ByteArray),U (eK.1-(1:Int)),(-7),true⟩:bs));let cI:=(wC c3 (⟨3,2,jr.1⟩:bF));h2 (t1.append [.ap true,.aI (av 3 (aq (.call {aO:=[.row 0],cu:=[.box [.id,.id,.id]],ac:=[ii,ii],r:= .n .i64 eK.1,dg:=[[ab.mk 3 [[.isl 1 (b5.map eU8),.n .i64 eK.2.1,.n .i64 eK.2.2]] .live]],eL:=ii,fq:=[.box [.id,.id,.id]],dZ:=[0],dr:=false}) (bL 3 (.a1 (aL.length)) 2))),.aI (av 4 (aq (.wu 50 (.call {aO:=[.row 0],cu:=[.box [.id,.id,.id]],ac:=[ii,.bE (.ck (.gv (([1,2,3]:List Int).map I)))],r:= .n .i64 jr.1,dg:=[[ab.mk 3 [[.isl 1 (b5.map eU8),.n .i64 jr.2.1,.n .i64 jr.2.2]] .live]],eL:=ii,fq:=[.box [.id,.id,.id]],dZ:=[0,50],dr:=false})) (bL 2 (.a1 (bg.length)) 2))),(ad 2)]) [0] [.box [.id,.id,.id]] (a5.a1 (.bo g7 (mr eK j0) (mi dk (⟨(⟨#[100]⟩:ByteArray),U (eK.1-(1:Int)),(-7),true⟩:bs)) (vq (show [[.s (⟨#[97]⟩:ByteArray),.n .i64 (U ((-1:Int)-ae.1)),.n .i64 bl.1,.b true],[.s (⟨#[98]⟩:ByteArray),.n .i64 (U ((3:Int)+br.1)),.n .i64 bZ.1,.b true],[.s (⟨#[99]⟩:ByteArray),.n .i64 (U (ba.1-(1:Int))),.n .i64 (U ((-1:Int)-cE.1)),.b false]]=(([(⟨(⟨#[97]⟩:ByteArray),U ((-1:Int)-ae.1),bl.1,true⟩:bs),(⟨(⟨#[98]⟩:ByteArray),U ((3:Int)+br.1),bZ.1,true⟩:bs),(⟨(⟨#[99]⟩:ByteArray),U (ba.1-(1:Int)),U ((-1:Int)-cE.1),false⟩:bs)]:List bs)).map dk from rfl) (show 3=([(⟨(⟨#[97]⟩:ByteArray),U ((-1:Int)-ae.1),bl.1,true⟩:bs),(⟨(⟨#[98]⟩:ByteArray),U ((3:Int)+br.1),bZ.1,true⟩:bs),(⟨(⟨#[99]⟩:ByteArray),U (ba.1-(1:Int)),U ((-1:Int)-cE.1),false⟩:bs)]:List bs).length from rfl)) (yv (show 3=([(⟨(⟨#[97]⟩:ByteArray),U ((-1:Int)-ae.1),bl.1,true⟩:bs),(⟨(⟨#[98]⟩:ByteArray),U ((3:Int)+br.1),bZ.1,true⟩:bs),(⟨(⟨#[99]⟩:ByteArray),U (ba.1-(1:Int)),U ((-1:Int)-cE.1),false⟩:bs)]:List bs).length from rfl) b1) oA (ms (show [[.n .i64 (1:Int)],[.n .i64 (2:Int)],[.n .i64 (3:Int)]]=(([1,2,3]:List Int)).map I from rfl) (show 3=([1,2,3]:List Int).length from rfl)) (oK (show [[.n .i64 (1:Int)],[.n .i64 (2:Int)],[.n .i64 (3:Int)]]=(([1,2,3]:List Int)).map I from rfl) (show 3=([1,2,3]:List Int).length from rfl)) (.bo (fs aA ([1,2,3]:List Int)) (ID jr n1) (mi c3 (⟨3,2,jr.1⟩:bF)) (vq (show [[.n .i64 (0:Int),.n .i64 (2:Int),.n .i64 (1:Int)],[.n .i64 (1:Int),.n .i64 (2:Int),.n .i64 ed.1]]=(([(⟨0,2,1⟩:bF),(⟨1,2,ed.1⟩:bF)]:List bF)).map c3 from rfl) (show 2=([(⟨0,2,1⟩:bF),(⟨1,2,ed.1⟩:bF)]:List bF).length from rfl)) (yv (show 2=([(⟨0,2,1⟩:bF),(⟨1,2,ed.1⟩:bF)]:List bF).length from rfl) cI) lT (ms (rD (show [[.s (⟨#[97]⟩:ByteArray),.n .i64 (U ((-1:Int)-ae.1)),.n .i64 bl.1,.b true],[.s (⟨#[98]⟩:ByteArray),.n .i64 (U ((3:Int)+br.1)),.n .i64 bZ.1,.b true],[.s (⟨#[99]⟩:ByteArray),.n .i64 (U (ba.1-(1:Int))),.n .i64 (U ((-1:Int)-cE.1)),.b false]]=(([(⟨(⟨#[97]⟩:ByteArray),U ((-1:Int)-ae.1),bl.1,true⟩:bs),(⟨(⟨#[98]⟩:ByteArray),U ((3:Int)+br.1),bZ.1,true⟩:bs),(⟨(⟨#[99]⟩:ByteArray),U (ba.1-(1:Int)),U ((-1:Int)-cE.1),false⟩:bs)]:List bs)).map dk from rfl) (show 3=([(⟨(⟨#[97]⟩:ByteArray),U ((-1:Int)-ae.1),bl.1,true⟩:bs),(⟨(⟨#[98]⟩:ByteArray),U ((3:Int)+br.1),bZ.1,true⟩:bs),(⟨(⟨#[99]⟩:ByteArray),U (ba.1-(1:Int)),U ((-1:Int)-cE.1),false⟩:bs)]:List bs).length from rfl) b1) (fP aL)) (oK (rD (show [[.s (⟨#[97]⟩:ByteArray),.n .i64 (U ((-1:Int)-ae.1)),.n .i64 bl.1,.b true],[.s (⟨#[98]⟩:ByteArray),.n .i64 (U ((3:Int)+br.1)),.n .i64 bZ.1,.b true],[.s (⟨#[99]⟩:ByteArray),.n .i64 (U (ba.1-(1:Int))),.n .i64 (U ((-1:Int)-cE.1)),.b false]]=(([(⟨(⟨#[97]⟩:ByteArray),U ((-1:Int)-ae.1),bl.1,true⟩:bs),(⟨(⟨#[98]⟩:ByteArray),U ((3:Int)+br.1),bZ.1,true⟩:bs),(⟨(⟨#[99]⟩:ByteArray),U (ba.1-(1:Int)),U ((-1:Int)-cE.1),false⟩:bs)]:List bs)).map dk from rfl) (show 3=([(⟨(⟨#[97]⟩:ByteArray),U ((-1:Int)-ae.1),bl.1,true⟩:bs),(⟨(⟨#[98]⟩:ByteArray),U ((3:Int)+br.1),bZ.1,true⟩:bs),(⟨(⟨#[99]⟩:ByteArray),U (ba.1-(1:Int)),U ((-1:Int)-cE.1),false⟩:bs)]:List bs).length from rfl) b1) (fP aL)) (.dh (fs u2 aL) (ms (rD (show [[.n .i64 (0:Int),.n .i64 (2:Int),.n .i64 (1:Int)],[.n .i64 (1:Int),.n .i64 (2:Int),.n .i64 ed.1]]=(([(⟨0,2,1⟩:bF),(⟨1,2,ed.1⟩:bF)]:List bF)).map c3 from rfl) (show 2=([(⟨0,2,1⟩:bF),(⟨1,2,ed.1⟩:bF)]:List bF).length from rfl) cI) (fP bg)) (oK (rD (show [[.n .i64 (0:Int),.n .i64 (2:Int),.n .i64 (1:Int)],[.n .i64 (1:Int),.n .i64 (2:Int),.n .i64 ed.1]]=(([(⟨0,2,1⟩:bF),(⟨1,2,ed.1⟩:bF)]:List bF)).map c3 from rfl) (show 2=([(⟨0,2,1⟩:bF),(⟨1,2,ed.1⟩:bF)]:List bF).length from rfl) cI) (fP bg)) (fs u0 bg))))) (.bE (.agg [.gv (aL.map dk),.gv (bg.map c3)]))))
  (fun g7 =>
  .ret (h2 (t1.append [.ap false,(ad 2)]) [0] [.box [.id,.id,.id]] (a5.a1 (.fC g7 (ms (show [[.s (⟨#[97]⟩:ByteArray),.n .i64 (U ((-1:Int)-ae.1)),.n .i64 bl.1,.b true],[.s (⟨#[98]⟩:ByteArray),.n .i64 (U ((3:Int)+br.1)),.n .i64 bZ.1,.b true],[.s (⟨#[99]⟩:ByteArray),.n .i64 (U (ba.1-(1:Int))),.n .i64 (U ((-1:Int)-cE.1)),.b false]]=(([(⟨(⟨#[97]⟩:ByteArray),U ((-1:Int)-ae.1),bl.1,true⟩:bs),(⟨(⟨#[98]⟩:ByteArray),U ((3:Int)+br.1),bZ.1,true⟩:bs),(⟨(⟨#[99]⟩:ByteArray),U (ba.1-(1:Int)),U ((-1:Int)-cE.1),false⟩:bs)]:List bs)).map dk from rfl) (show 3=([(⟨(⟨#[97]⟩:ByteArray),U ((-1:Int)-ae.1),bl.1,true⟩:bs),(⟨(⟨#[98]⟩:ByteArray),U ((3:Int)+br.1),bZ.1,true⟩:bs),(⟨(⟨#[99]⟩:ByteArray),U (ba.1-(1:Int)),U ((-1:Int)-cE.1),false⟩:bs)]:List bs).length from rfl)) (oK (show [[.s (⟨#[97]⟩:ByteArray),.n .i64 (U ((-1:Int)-ae.1)),.n .i64 bl.1,.b true],[.s (⟨#[98]⟩:ByteArray),.n .i64 (U ((3:Int)+br.1)),.n .i64 bZ.1,.b true],[.s (⟨#[99]⟩:ByteArray),.n .i64 (U (ba.1-(1:Int))),.n .i64 (U ((-1:Int)-cE.1)),.b false]]=(([(⟨(⟨#[97]⟩:ByteArray),U ((-1:Int)-ae.1),bl.1,true⟩:bs),(⟨(⟨#[98]⟩:ByteArray),U ((3:Int)+br.1),bZ.1,true⟩:bs),(⟨(⟨#[99]⟩:ByteArray),U (ba.1-(1:Int)),U ((-1:Int)-cE.1),false⟩:bs)]:List bs)).map dk from rfl) (show 3=([(⟨(⟨#[97]⟩:ByteArray),U ((-1:Int)-ae.1),bl.1,true⟩:bs),(⟨(⟨#[98]⟩:ByteArray),U ((3:Int)+br.1),bZ.1,true⟩:bs),(⟨(⟨#[99]⟩:ByteArray),U (ba.1-(1:Int)),U ((-1:Int)-cE.1),false⟩:bs)]:List bs).length from rfl)) (fs u2 ([(⟨(⟨#[97]⟩:ByteArray),U ((-1:Int)-ae.1),bl.1,true⟩:bs),(⟨(⟨#[98]⟩:ByteArray),U ((3:Int)+br.1),bZ.1,true⟩:bs),(⟨(⟨#[99]⟩:ByteArray),U (ba.1-(1:Int)),U ((-1:Int)-cE.1),false⟩:bs)]:List bs)) (ms (show [[.n .i64 (0:Int),.n .i64 (2:Int),.n .i64 (1:Int)],[.n .i64 (1:Int),.n .i64 (2:Int),.n .i64 ed.1]]=(([(⟨0,2,1⟩:bF),(⟨1,2,ed.1⟩:bF)]:List bF)).map c3 from rfl) (show 2=([(⟨0,2,1⟩:bF),(⟨1,2,ed.1⟩:bF)]:List bF).length from rfl)) (oK (show [[.n .i64 (0:Int),.n .i64 (2:Int),.n .i64 (1:Int)],[.n .i64 (1:Int),.n .i64 (2:Int),.n .i64 ed.1]]=(([(⟨0,2,1⟩:bF),(⟨1,2,ed.1⟩:bF)]:List bF)).map c3 from rfl) (show 2=([(⟨0,2,1⟩:bF),(⟨1,2,ed.1⟩:bF)]:List bF).length from rfl)) (fs u0 ([(⟨0,2,1⟩:bF),(⟨1,2,ed.1⟩:bF)]:List bF)))) (.bE (.agg [.gv (([(⟨(⟨#[97]⟩:ByteArray),U ((-1:Int)-ae.1),bl.1,true⟩:bs),(⟨(⟨#[98]⟩:ByteArray),U ((3:Int)+br.1),bZ.1,true⟩:bs),(⟨(⟨#[99]⟩:ByteArray),U (ba.1-(1:Int)),U ((-1:Int)-cE.1),false⟩:bs)]:List bs).map dk),.gv (([(⟨0,2,1⟩:bF),(⟨1,2,ed.1⟩:bF)]:List bF).map c3)])))))
def z3 (b5:List Int)(cC e7:Int):Option ((List bs)×(List bF)×Int×Int) :=
 xW 3 b5 cC e7 >>= fun ae =>
 if ae.1=true then
  z5 b5 ae.2.1 ae.2.2 >>= fun aw =>
  some (aw.1,aw.2.1,aw.2.2.1,aw.2.2.2)
 else
  z2 b5 ae.2.1 ae.2.2 >>= fun aw =>
  some (aw.1,aw.2.1,aw.2.2.1,aw.2.2.2)
theorem V8 {b5:List Int}{cC e7:Int}:bV (z3 b5 cC e7) (fun a=>Con bt 47 [.ref 0 0 0 0] [[ab.mk 3 [[.isl 1 (b5.map eU8),.n .i64 cC,.n .i64 e7]] .live]] (.agg [.isl 4 (a.1.map dk),.isl 3 (a.2.1.map c3)]) [[ab.mk 3 [[.isl 1 (b5.map eU8),.n .i64 a.2.2.1,.n .i64 a.2.2.2]] .live]]):=by
 unfold z3
 exact .ay fun ae J =>
  (let t1:List cG:=[(ad 1),.aI (av 1 (aq (.call {aO:=[.row 0],cu:=[.box [.id,.id,.id]],ac:=[ii,ii],r:= .b ae.1,dg:=[[ab.mk 3 [[.isl 1 (b5.map eU8),.n .i64 ae.2.1,.n .i64 ae.2.2]] .live]],eL:=ii,fq:=[.box [.id,.id,.id]],dZ:=[0],dr:=false}) []))];
  .ite (fun af =>
  .ay fun aw aJ =>
  .ret (h2 (t1.append [.ap true,.aI (bL 1 (.call {aO:=[.row 0],cu:=[.box [.id,.id,.id]],ac:=[ii],r:= .agg [.isl 4 (aw.1.map dk),.isl 3 (aw.2.1.map c3)],dg:=[[ab.mk 3 [[.isl 1 (b5.map eU8),.n .i64 aw.2.2.1,.n .i64 aw.2.2.2]] .live]],eL:=ii,fq:=[.box [.id,.id,.id]],dZ:=[0],dr:=false}) 1)]) [0] [.box [.id,.id,.id]] (.cd (Dn ae J) af (Wj aw aJ))))
  (fun af =>
  .ay fun aw aJ =>
  .ret (h2 (t1.append [.ap false,.aI (bL 1 (.call {aO:=[.row 0],cu:=[.box [.id,.id,.id]],ac:=[ii],r:= .agg [.isl 4 (aw.1.map dk),.isl 3 (aw.2.1.map c3)],dg:=[[ab.mk 3 [[.isl 1 (b5.map eU8),.n .i64 aw.2.2.1,.n .i64 aw.2.2.2]] .live]],eL:=ii,fq:=[.box [.id,.id,.id]],dZ:=[0],dr:=false}) 1)]) [0] [.box [.id,.id,.id]] (.cd (Dn ae J) af (V7 aw aJ)))))
def Hy (cF:List bs)(ht:Int)(aZ:List Int):(Int×Int×Int×(List Int))→S:=fun (fu,aN,cJ,ak)=>fh [(0,.ref 0 0 0 0),(5,.bx 1 0 0 ak.length),(14,.isl 4 (cF.map dk)),(15,.n .i64 ht),(16,.n .i64 fu)] [[ab.mk 3 [[.isl 1 (aZ.map eU8),.n .i64 aN,.n .i64 cJ]] .live],(au 1 I ak)]
def HG (cF:List bs)(ht:Int)(aZ:List Int):(Int×Int×(List Int))→fp
 | a=>⟨some 0,[(0,.ref 0 0 0 0),(5,.bx 1 0 0 a.2.2.length)],[[ab.mk 3 [[.isl 1 (aZ.map eU8),.n .i64 a.1,.n .i64 a.2.1]] .live],(au 1 I a.2.2)]⟩
def uO (cF:List bs)(ht:Int)(aZ:List Int)(fu aN cJ:Int)(ak:List Int):Option ((Int×Int×Int×(List Int))⊕(Int×Int×(List Int))) :=
 if (decide (fu<ht))=true then
  if 0≤fu∧fu<cF.length then
  cF[fu.toNat]? >>= fun aM =>
  if aM.oN=true then
   some (.inl (U (fu+(1:Int)),aN,cJ,ak))
  else
   lg 7 aZ aN cJ >>= fun bI =>
   if 0≤(U ((2:Int)*fu))∧(U ((2:Int)*fu))<(ak.length:Nat) then
   if (0+(U ((2:Int)*fu)).toNat)<ak.length then
   lg 9 aZ bI.2.1 bI.2.2 >>= fun fb =>
   if 0≤(U ((U ((2:Int)*fu))+(1:Int)))∧(U ((U ((2:Int)*fu))+(1:Int)))<(ak.length:Nat) then
   if (0+(U ((U ((2:Int)*fu))+(1:Int))).toNat)<(ak.set (0+(U ((2:Int)*fu)).toNat) (U (bI.1-(3:Int)))).length then
   some (.inl (U (fu+(1:Int)),fb.2.1,fb.2.2,(ak.set (0+(U ((2:Int)*fu)).toNat) (U (bI.1-(3:Int)))).set (0+(U ((U ((2:Int)*fu))+(1:Int))).toNat) (U (0-fb.1))))
   else none
   else none
   else none
   else none
  else none
 else
  some (.inr (aN,cJ,ak))
def Dp (cF:List bs)(ht:Int)(aZ:List Int)(fu aN cJ:Int)(ak:List Int):Option (Int×Int×(List Int)):=iter (fun w:Int×Int×Int×(List Int)=>uO cF ht aZ w.1 w.2.1 w.2.2.1 w.2.2.2) (fu,aN,cJ,ak)
theorem UQ {cF:List bs}{ht:Int}{aZ:List Int}{fu aN cJ:Int}{ak:List Int}:bV (uO cF ht aZ fu aN cJ ak) (fV bt 48 1 48 [1,1,0,1,0,0] (Hy cF ht aZ (fu,aN,cJ,ak)) (Hy cF ht aZ) (HG cF ht aZ)):=by
 unfold uO
 exact .ite (fun o =>
  .bn fun J =>
  .ay fun aM aF =>
  (let t1:List cG:=[(ad 1),.ap true,.aI (bL 2 (.cz (dk aM)) 3),(ad 3)];
  have a5:=((.dh o J.1 (eI dk J.2) (cD dk aF)):cW _);
  .ite (fun aJ =>
  .ret (bQ (t1.append [.ap false,(ad 2),.bm [0,1] [.box [.id,.id,.id],.pure] (bX [0,5,14,15,16])]) (a5.a1 (.aH (d7 aJ) (aD 1 .live aA ak)))))
  (fun aJ =>
  .ay fun bI bJ =>
  .bn fun bu =>
  .bn fun c9 =>
  .ay fun fb c8 =>
  .bn fun eF =>
  .bn fun d4 =>
  .ret (let aL:=(U ((2:Int)*fu));let bg:=(U (bI.1-(3:Int)));let b1:=(U (aL+(1:Int)));let cI:=U (0-fb.1);bQ (t1.append [.ap true,.aI (av 4 (aq (.call {aO:=[.row 0],cu:=[.box [.id,.id,.id]],ac:=[ii,ii],r:= .n .i64 bI.1,dg:=[[ab.mk 3 [[.isl 1 (aZ.map eU8),.n .i64 bI.2.1,.n .i64 bI.2.2]] .live]],eL:=ii,fq:=[.box [.id,.id,.id]],dZ:=[0],dr:=false}) (av 2 (aq .c4 [])))),.aI (av 5 (aq (.call {aO:=[.row 0],cu:=[.box [.id,.id,.id]],ac:=[ii,ii],r:= .n .i64 fb.1,dg:=[[ab.mk 3 [[.isl 1 (aZ.map eU8),.n .i64 fb.2.1,.n .i64 fb.2.2]] .live]],eL:=ii,fq:=[.box [.id,.id,.id]],dZ:=[0],dr:=false}) (av 2 (aq .c4 [])))),(ad 2),.bm [0,1] [.box [.id,.id,.id],.dY (au 1 I ((ak.set (0+aL.toNat) bg).set (0+b1.toNat) cI))] [(0,ii),(5,gz (((ak.set (0+aL.toNat) bg).set (0+b1.toNat) cI).length)),(14,ii),(15,ii),(16,ii)]]) (a5.a1 (.bo (ee aJ) (mr bI bJ) bu.1 bu.2 (hB I c9) (g8 1) (mr fb c8) eF.1 (.fG eF.2 (EN (gi (ej I ak) (0+aL.toNat) bg) d4) (g8 1) (eB 1 .live (gi (gi (ej I ak) (0+aL.toNat) bg) (0+b1.toNat) cI)) (aD 1 .live aA ((ak.set (0+aL.toNat) bg).set (0+b1.toNat) cI)) (hg (hg (fP ak) (0+aL.toNat) bg) (0+b1.toNat) cI))))))))
  (fun o =>
  .ret (bQ [(ad 1),.ap false,.bm [0,1] [.box [.id,.id,.id],.pure] (bX [0,5])] (.aH o (aD 1 .live aA ak))))
theorem Vy {cF:List bs}{ht:Int}{aZ:List Int}{fu aN cJ:Int}{ak:List Int}{r} (h:Dp cF ht aZ fu aN cJ ak=some r):fW bt 48 1 48 [1,1,0,1,0,0] (Hy cF ht aZ) (HG cF ht aZ) (fu,aN,cJ,ak) r:=fZ (fun _=>UQ) h
def z4 (aK:b4)(b5:List Int)(cC e7:Int):Option ((List Int)×Int×Int) :=
 if 0≤(U ((2:Int)*(len_ dk aK.cj)))∧(8:Int)*(U ((2:Int)*(len_ dk aK.cj)))≤281474976710656∧(U ((2:Int)*(len_ dk aK.cj)))<9223372036854775808 then
 Dp aK.cj (len_ dk aK.cj) b5 0 cC e7 (List.replicate (U ((2:Int)*(len_ dk aK.cj))).toNat 0:List Int) >>= fun bq =>
 xW 8 b5 bq.1 bq.2.1 >>= fun aw =>
 if aw.1=true then
  if 0≤(U (((bq.2.2.length:Nat):Int)-(1:Int)))∧(U (((bq.2.2.length:Nat):Int)-(1:Int)))<(bq.2.2.length:Nat) then
  if (0+(U (((bq.2.2.length:Nat):Int)-(1:Int))).toNat)<bq.2.2.length then
  some (bq.2.2.set (0+(U (((bq.2.2.length:Nat):Int)-(1:Int))).toNat) 4,aw.2.1,aw.2.2)
  else none
  else none
 else
  some (bq.2.2,aw.2.1,aw.2.2)
 else none
theorem V9 {aK:b4}{b5:List Int}{cC e7:Int}:bV (z4 aK b5 cC e7) (fun a=>Con bt 48 [.ref 0 0 0 0,.agg (gf aK)] [[ab.mk 3 [[.isl 1 (b5.map eU8),.n .i64 cC,.n .i64 e7]] .live]] (.isl 1 (a.1.map I)) [[ab.mk 3 [[.isl 1 (b5.map eU8),.n .i64 a.2.1,.n .i64 a.2.2]] .live]]):=by
 unfold z4
 exact .bn fun o =>
  .ay fun bq af =>
  .ay fun aw aJ =>
  (let b1:=(U ((2:Int)*(len_ dk aK.cj)));let cI:=(List.replicate b1.toNat 0:List Int);let t1:List cG:=[(ad 2),(ad 6),(ad 4),.bm [0,7] [.box [.id,.id,.id],.dY (au 1 I cI)] [(0,ii),(5,gz (cI.length)),(14,ii),(15,ii),(16,ii)],(HG aK.cj (len_ dk aK.cj) b5 bq).gL,.aI (av 1 (aq (.call {aO:=[.row 0],cu:=[.box [.id,.id,.id]],ac:=[ii,ii],r:= .b aw.1,dg:=[[ab.mk 3 [[.isl 1 (b5.map eU8),.n .i64 aw.2.1,.n .i64 aw.2.2]] .live]],eL:=ii,fq:=[.box [.id,.id,.id]],dZ:=[0],dr:=false}) []))];
  have a5:=((.bo o.1 (Int.le_refl b1) o.2.1 o.2.2 (eB 1 .live (kr I b1.toNat 0)) (aD 1 .live aA cI) (kI b1.toNat (0:Int)) (Vy af) (.aC (Dn aw aJ))):cW _);
  .ite (fun bp =>
  .bn fun bJ =>
  .bn fun bu =>
  .ret (let aL:=(U (((bq.2.2.length:Nat):Int)-(1:Int)));let bg:=hg (fP bq.2.2) (0+aL.toNat) 4;h2 (t1.append [.ap true,.aI (av 5 (aq .c4 [])),(ad 2)]) [0] [.box [.id,.id,.id]] (a5.a1 (.h6 bp bJ.1 bJ.2 (hB I bu) (g8 1) (ms (gi (ej I bq.2.2) (0+aL.toNat) 4) bg) (oK (gi (ej I bq.2.2) (0+aL.toNat) 4) bg) (fs aA (bq.2.2.set (0+aL.toNat) 4)))) (.bE (.ck (.gv ((bq.2.2.set (0+aL.toNat) 4).map I))))))
  (fun bp =>
  .ret (h2 (t1.append [.ap false,(ad 2)]) [0] [.box [.id,.id,.id]] (a5.a1 (.dh bp (ki I bq.2.2) (jw I bq.2.2) (fs aA bq.2.2))) (.bE (.ck (.gv (bq.2.2.map I)))))))
def I8 (b5:List Int)(cC e7:Int):Option ((List bs)×(List bF)×(List Int)×Int×Int) :=
 z3 b5 cC e7 >>= fun ae =>
 z4 (⟨ae.1,ae.2.1⟩:b4) b5 ae.2.2.1 ae.2.2.2 >>= fun bl =>
 some (ae.1,ae.2.1,bl.1,bl.2.1,bl.2.2)
theorem Wa {b5:List Int}{cC e7:Int}:bV (I8 b5 cC e7) (fun a=>Con bt 17 [.ref 0 0 0 0] [[ab.mk 3 [[.isl 1 (b5.map eU8),.n .i64 cC,.n .i64 e7]] .live]] (.cY [.agg [.isl 4 (a.1.map dk),.isl 3 (a.2.1.map c3)],.isl 1 (a.2.2.1.map I)]) [[ab.mk 3 [[.isl 1 (b5.map eU8),.n .i64 a.2.2.2.1,.n .i64 a.2.2.2.2]] .live]]):=by
 unfold I8
 exact .ay fun ae J =>
  .ay fun bl aF =>
  .ret (h2 [(ad 2),.aI (bL 1 (.call {aO:=[.row 0],cu:=[.box [.id,.id,.id]],ac:=[ii],r:= .agg [.isl 4 (ae.1.map dk),.isl 3 (ae.2.1.map c3)],dg:=[[ab.mk 3 [[.isl 1 (b5.map eU8),.n .i64 ae.2.2.1,.n .i64 ae.2.2.2]] .live]],eL:=ii,fq:=[.box [.id,.id,.id]],dZ:=[0],dr:=false}) 2),.aI (bL 3 (.call {aO:=[.row 0],cu:=[.box [.id,.id,.id]],ac:=[ii,ii],r:= .isl 1 (bl.1.map I),dg:=[[ab.mk 3 [[.isl 1 (b5.map eU8),.n .i64 bl.2.1,.n .i64 bl.2.2]] .live]],eL:=ii,fq:=[.box [.id,.id,.id]],dZ:=[0],dr:=false}) 2)] [0] [.box [.id,.id,.id]] (.aH (V8 ae J) (V9 bl aF)))
def DM (iD:List Int):Option (b4×(List Int)) :=
 DL iD >>= fun ae =>
 I8 iD 0 ae >>= fun bl =>
 some ((⟨bl.1,bl.2.1⟩:b4),bl.2.2.1)
theorem Wk {iD:List Int}:bV (DM iD) (fun r=>Con bt 4 [.isl 1 (iD.map eU8)] [] (.cY [.agg (gf r.1),.isl 1 (r.2.map I)]) []):=by
 unfold DM
 exact .ay fun ae J =>
  .ay fun bl aF =>
  .ret (bY [(ad 2),.aI (av 1 (aq (.call {aO:=[],cu:=[],ac:=[ii],r:= .ref 0 0 0 0,dg:=[[ab.mk 3 [[.isl 1 (iD.map eU8),.n .i64 (0:Int),.n .i64 ae]] .live]],eL:=ii,fq:=[.box [.id,.id,.id]],dZ:=[],dr:=false}) (aq (.call {aO:=[.row 3],cu:=[.box [.id,.id,.id]],ac:=[ii],r:= .cY [.agg [.isl 4 (bl.1.map dk),.isl 3 (bl.2.1.map c3)],.isl 1 (bl.2.2.1.map I)],dg:=[[ab.mk 3 [[.isl 1 (iD.map eU8),.n .i64 bl.2.2.2.1,.n .i64 bl.2.2.2.2]] .live]],eL:=ii,fq:=[.box [.id,.id,.id]],dZ:=[3],dr:=false}) (av 4 []))))] (.aH (Wi ae J) (Wa bl aF)))
def DN (rY:Int):Option Bool :=
 if (decide ((97:Int)≤rY))=true then
  some (decide (rY≤(122:Int)))
 else
  some false
theorem Wl {rY:Int}:bV (DN rY) (fun r=>Con bt 86 [.n .u8 rY] [] (.b r) []):=by
 unfold DN
 exact .ite (fun o =>
  .ret (bY [(ad 1),.aI (bL 5 (.ap true) 1)] (.cd o o o)))
  (fun o =>
  .ret (bY [(ad 1),.aI (av 3 (dm 2 (aq (.ap false) (av 1 []))))] (.cd o o o)))
def Js (rY:Int):Option Bool :=
 if (decide ((48:Int)≤rY))=true then
  some (decide (rY≤(57:Int)))
 else
  some false
theorem Wt {rY:Int}:bV (Js rY) (fun r=>Con bt 87 [.n .u8 rY] [] (.b r) []):=by
 unfold Js
 exact .ite (fun o =>
  .ret (bY [(ad 1),.aI (bL 5 (.ap true) 1)] (.cd o o o)))
  (fun o =>
  .ret (bY [(ad 1),.aI (av 3 (dm 2 (aq (.ap false) (av 1 []))))] (.cd o o o)))
def H6 (aK:ByteArray)(pA:Int):Int→S:=fun l5=>fh [(0,.s aK),(5,.n .i64 pA),(6,.n .i64 l5)] []
def NF (aK:ByteArray)(pA:Int):((Unit)⊕(Unit))→fp
 | .inl a=>⟨some 0,[(0,.s aK)],[]⟩
 | .inr a=>⟨none,[(2,.b false)],[]⟩
def xC (aK:ByteArray)(pA l5:Int):Option ((Int)⊕((Unit)⊕(Unit))) :=
 if (decide (l5<pA))=true then
  if 0≤l5∧l5<(aK.size:Nat) then
  DN ((aK.data.toList.getD l5.toNat 0).toNat:Int) >>= fun bl =>
  if bl=true then
   some (.inl (U (l5+(1:Int))))
  else
   if (l5 == (0:Int))=true then
    some (.inr (.inr ()))
   else
    Js ((aK.data.toList.getD l5.toNat 0).toNat:Int) >>= fun bZ =>
    if bZ=true then
     some (.inl (U (l5+(1:Int))))
    else
     some (.inr (.inr ()))
  else none
 else
  some (.inr (.inl ()))
def I9 (aK:ByteArray)(pA l5:Int):Option ((Unit)⊕(Unit)):=iter (fun w:Int=>xC aK pA w) l5
theorem Vk {aK:ByteArray}{pA l5:Int}:bV (xC aK pA l5) (fV bt 33 0 52 [1,0,1,0,0] (H6 aK pA l5) (H6 aK pA) (NF aK pA)):=by
 unfold xC
 exact .ite (fun o =>
  .bn fun J =>
  .ay fun bl aF =>
  (let t1:List cG:=[(ad 1),.ap true,(ad 2)];
  have a5:=((.eR o J.1 J.2 (Wl bl aF) (cl.b bl)):cW _);
  .ite (fun aJ =>
  .ret (bQ (t1.append [.aI (av 3 (aq (bC 1 (.b bl) true) (av 2 (dm 3 (av 5 (dm 1 (aq (.ap false) []))))))),.ap false,(ad 2),.bm [] [] (bX [0,5,6])]) (a5.a1 (.fG (d7 aJ) (d7 aJ) (d7 aJ) (d7 aJ) (d7 aJ) fv))))
  (fun aJ =>
  (have gh:=a5.a1 (.cd (ee aJ) (ee aJ) (ee aJ));
  .ite (fun bp =>
  .ret (bQ (t1.append [.aI (av 3 (aq (bC 1 (.b bl) true) (av 5 (dm 5 (aq (.ap true) (aq (.ap true) [])))))),.ap true,(ad 1),.bm [] [] (bX [2])]) (gh.a1 (.bo bp bp bp bp bp (ee aJ) bp (ee aJ) (.aC cV)))))
  (fun bp =>
  .ay fun bZ bu =>
  (let t4:List cG:=t1.append [.aI (av 3 (aq (bC 1 (.b bl) true) (av 8 (aq (bC 1 (.b bZ) true) (av 1 (aq (.ap false) (aq (.ap true) [])))))))];
  have n8:=gh.a1 (.bo bp bp bp J.1 J.2 bp (Wt bZ bu) (cl.b bZ) (.dh bp (ee aJ) bp (ee aJ)));
  .ite (fun c9 =>
  .ret (bQ (t4.append [.ap false,(ad 2),.bm [] [] (bX [0,5,6])]) (n8.a1 (.aC (d7 c9)))))
  (fun c9 =>
  .ret (bQ (t4.append [.ap true,(ad 1),.bm [] [] (bX [2])]) (n8.a1 (.aC (ee c9)))))))))))
  (fun o =>
  .ret (bQ [(ad 1),.ap false,.bm [] [] (bX [0])] (.aC o)))
theorem IE {aK:ByteArray}{pA l5:Int}{r} (h:I9 aK pA l5=some r):fW bt 33 0 52 [1,0,1,0,0] (H6 aK pA) (NF aK pA) l5 r:=fZ (fun _=>Vk) h
def u9 (aK:ByteArray):Option Bool :=
 I9 aK (aK.size:Int) 0 >>= fun ae =>
 match ae with
 | .inl bN=>(if (!(aK.toList == (⟨#[]⟩:ByteArray).toList))=true then
  some (decide ((aK.size:Int)≤(8:Int)))
  else
   some false)
 | .inr bN=>(some false)
theorem WI {aK:ByteArray}:bV (u9 aK) (fun r=>Con bt 52 [.s aK] [] (.b r) []):=by
 unfold u9
 exact .ay fun ae J =>
  (let t1:List cG:=[(ad 1),(ad 3),.bm [] [] (bX [0,5,6])];
  (by
  rcases ae with bN|bN
  ·exact ((let t2:List cG:=t1.append [.sub (.exit 0) [(0,.s aK)] []];
  .ite (fun aF =>
  .ret (bY (t2.append [.aI (bL 6 (.ap true) 1)]) (.eR (IE J) aF aF aF aF)))
  (fun aF =>
  .ret (bY (t2.append [.aI (av 3 (dm 3 (aq (.ap false) (av 1 []))))]) (.eR (IE J) aF aF aF aF)))))
  ·exact (.ret (bY (t1.append [.sub (.ret) [(2,.b false)] []]) (.aC (IE J))))))
def x3 (bh:Int):Option Bool :=
 if (decide ((-50:Int)≤bh))=true then
  some (decide (bh≤(50:Int)))
 else
  some false
theorem NW {bh:Int}:bV (x3 bh) (fun r=>Con bt 53 [.n .i64 bh] [] (.b r) []):=by
 unfold x3
 exact .ite (fun o =>
  .ret (bY [(ad 1),.aI (bL 5 (.ap true) 1)] (.cd o o o)))
  (fun o =>
  .ret (bY [(ad 1),.aI (av 3 (dm 2 (aq (.ap false) (av 1 []))))] (.cd o o o)))
def Aa (eG:bs):Option Bool :=
 u9 eG.pU >>= fun ae =>
 if ae=true then
  x3 eG.lc >>= fun aw =>
  if aw=true then
   x3 eG.ld >>= fun bZ =>
   some bZ
  else
   some false
 else
  some false
theorem Wu {eG:bs}:bV (Aa eG) (fun r=>Con bt 20 [.agg (dk eG)] [] (.b r) []):=by
 unfold Aa
 exact .ay fun ae J =>
  (have cf:=((.aH (WI ae J) (cl.b ae)):cW _);
  .ite (fun af =>
  .ay fun aw aJ =>
  (have a5:=cf.a1 (.fG af af af (NW aw aJ) (cl.b aw) af);
  .ite (fun bp =>
  .ay fun bZ bu =>
  .ret (bY [(ad 2),.aI (av 2 (aq (bC 1 (.b ae) true) (av 3 (aq (bC 1 (.b aw) true) (aq (.ap true) (av 3 (aq (bC 1 (.b bZ) true) (aq (.ap true) (av 1 [])))))))))] (a5.a1 (.fG bp bp bp (NW bZ bu) (cl.b bZ) bp))))
  (fun bp =>
  .ret (bY [(ad 2),.aI (av 2 (aq (bC 1 (.b ae) true) (av 3 (aq (bC 1 (.b aw) true) (aq (.ap true) (av 1 (dm 3 (aq (.ap false) (av 1 [])))))))))] (a5.a1 (.dh bp bp bp bp))))))
  (fun af =>
  .ret (bY [(ad 2),.aI (av 2 (aq (bC 1 (.b ae) true) (av 1 (dm 3 (aq (.ap false) (av 1 (dm 3 (av 2 []))))))))] (cf.a1 (.fC af af af af fv fv fv)))))
def Dq (eG:bs)(ck:ByteArray):Option Bool :=
 some (eG.pU.toList == ck.toList)
theorem Vz {eG:bs}{ck:ByteArray}:bV (Dq eG ck) (fun r=>Con bt 55 [.agg (dk eG),.eh 1 [[.s ck]] 0 0] [] (.b r) []):=by
 unfold Dq
 exact .ret (bY [(ad 2),(ad 5)] .nil)
def Gm (aK:List bs)(kb:ByteArray)(e1:Int):Int→S:=fun fa=>fh [(0,.isl 4 (aK.map dk)),(1,.fn 55 [.eh 1 [[.s kb]] 0 0]),(7,.n .i64 e1),(8,.n .i64 fa)] []
def M2 (aK:List bs)(kb:ByteArray)(e1:Int):((Unit)⊕(Int))→fp
 | .inl a=>⟨some 0,[],[]⟩
 | .inr a=>⟨none,[(4,.n .i64 a)],[]⟩
def zF (aK:List bs)(kb:ByteArray)(e1 fa:Int):Option ((Int)⊕((Unit)⊕(Int))) :=
 if (decide (fa<e1))=true then
  if 0≤fa∧fa<aK.length then
  aK[fa.toNat]? >>= fun aM =>
  Dq aM kb >>= fun br =>
  if br=true then
   some (.inr (.inr fa))
  else
   some (.inl (U (fa+(1:Int))))
  else none
 else
  some (.inr (.inl ()))
def GG (aK:List bs)(kb:ByteArray)(e1 fa:Int):Option ((Unit)⊕(Int)):=iter (fun w:Int=>zF aK kb e1 w) fa
theorem TQ {aK:List bs}{kb:ByteArray}{e1 fa:Int}:bV (zF aK kb e1 fa) (fV bt 19 0 54 [1,0,1,0,0] (Gm aK kb e1 fa) (Gm aK kb e1) (M2 aK kb e1)):=by
 unfold zF
 exact .ite (fun o =>
  .bn fun J =>
  .ay fun aM aF =>
  .ay fun br bp =>
  (let t1:List cG:=[(ad 1),.ap true,(ad 2),.aI (av 4 (aq (.cz (dk aM)) (aq (bC 2 (.b br) true) [])))];
  have a5:=((.fG o J.1 (eI dk J.2) (cD dk aF) (Vz br bp) (cl.b br)):cW _);
  .ite (fun bJ =>
  .ret (bQ (t1.append [.ap true,(ad 2),.bm [] [] (bX [4])]) (a5.a1 (.aC bJ))))
  (fun bJ =>
  .ret (bQ (t1.append [.ap false,(ad 2),.bm [] [] [(0,ii),(1,.comp [.ck .id]),(7,ii),(8,ii)]]) (a5.a1 (.aC bJ))))))
  (fun o =>
  .ret (bQ [(ad 1),.ap false,.bm [] [] []] (.aC o)))
theorem M4 {aK:List bs}{kb:ByteArray}{e1 fa:Int}{r} (h:GG aK kb e1 fa=some r):fW bt 19 0 54 [1,0,1,0,0] (Gm aK kb e1) (M2 aK kb e1) fa r:=fZ (fun _=>TQ) h
def CV (aK:List bs)(pf:ByteArray):Option Int :=
 GG aK pf (len_ dk aK) 0 >>= fun ae =>
 match ae with
 | .inl bN=>(some (-1))
 | .inr bN=>(some bN)
theorem Ue {aK:List bs}{pf:ByteArray}:bV (CV aK pf) (fun r=>Con bt 54 [.isl 4 (aK.map dk),.fn 55 [.eh 1 [[.s pf]] 0 0]] [] (.n .i64 r) []):=by
 unfold CV
 exact .ay fun ae J =>
  (let t1:List cG:=[(ad 1),(ad 3),.bm [] [] [(0,ii),(1,.comp [.ck .id]),(7,ii),(8,ii)]];
  (by
  rcases ae with bN|bN
  ·exact (.ret (bY (t1.append [.sub (.exit 0) [] [],(ad 1)]) (.aC (M4 J))))
  ·exact (.ret (bY (t1.append [.sub (.ret) [(4,.n .i64 bN)] []]) (.aC (M4 J))))))
def zZ (aK:b4)(yI:ByteArray):Option Int :=
 CV aK.cj yI >>= fun ae =>
 some ae
theorem VP {aK:b4}{yI:ByteArray}:bV (zZ aK yI) (fun r=>Con bt 21 [.agg (gf aK),.s yI] [] (.n .i64 r) []):=by
 unfold zZ
 exact .ay fun ae J =>
  .ret (bY [(ad 3),.aI (bL 3 (.call {ac:=[ii,.comp [.ptr [.id]]],r:= .n .i64 ae,dr:=true,dZ:=[1]}) 1)] (.cd (j6 (Qr yI):g9 [[.s yI]]) (Ue ae J) (cl.n .i64 ae)))
def zK (aK:b4)(mX:bF):Option Bool :=
 if (decide (mX.f9<(0:Int)))=true then
  some false
 else
  if (decide ((len_ dk aK.cj)≤mX.f9))=true then
   some false
  else
   if (decide (mX.fX<(0:Int)))=true then
    some false
   else
    if (decide ((len_ dk aK.cj)≤mX.fX))=true then
     some false
    else
     if (decide (mX.gr<(1:Int)))=true then
      some false
     else
      if (decide ((3:Int)<mX.gr))=true then
       some false
      else
       if 0≤mX.f9∧mX.f9<aK.cj.length then
       aK.cj[mX.f9.toNat]? >>= fun lu =>
       if 0≤mX.fX∧mX.fX<aK.cj.length then
       aK.cj[mX.fX.toNat]? >>= fun qx =>
       if (lu.lc != qx.lc)=true then
        if lu.oN=true then
         some (!qx.oN)
        else
         some true
       else
        if (lu.ld != qx.ld)=true then
         if lu.oN=true then
          some (!qx.oN)
         else
          some true
        else
         some false
       else none
       else none
theorem UD {aK:b4}{mX:bF}:bV (zK aK mX) (fun r=>Con bt 24 [.eh 2 [(gf aK)] 0 0,.agg (c3 mX)] [] (.b r) []):=by
 unfold zK
 exact .ite (fun o =>
  .ret (bY [(ad 2),(ad 6),.aI (av 4 (dm 4 (aq (.ap true) (av 1 (dm 3 (av 2 (dm 4 (av 2 (dm 3 (av 2 (dm 3 (av 1 [])))))))))))),.ap true,(ad 1)] (.bo o o o o o cV cV cV (.bo cV cV cV cV cV cV cV cV (.cd cV cV cV)))))
  (fun o =>
  .ite (fun J =>
  .ret (bY [(ad 2),(ad 6),.aI (av 8 (aq (.ap false) (av 1 (dm 3 (aq (.ap true) (av 1 (dm 4 (av 2 (dm 3 (av 2 (dm 3 (av 1 [])))))))))))),.ap true,(ad 1)] (.bo o o o o o J J J (.bo J cV cV cV cV cV cV cV (.dh cV cV cV cV)))))
  (fun J =>
  (have cf:=((.bo o o o o o J J J (.aC J)):cW _);
  .ite (fun af =>
  .ret (bY [(ad 2),(ad 6),.aI (av 8 (aq (.ap false) (av 4 (aq (.ap false) (av 1 (dm 4 (aq (.ap true) (av 1 (dm 3 (av 2 (dm 3 (av 1 [])))))))))))),.ap true,(ad 1)] (cf.a1 (.bo af af af af af cV cV cV (.dh cV cV cV cV)))))
  (fun af =>
  .ite (fun aF =>
  .ret (bY [(ad 2),(ad 6),.aI (av 8 (aq (.ap false) (av 4 (aq (.ap false) (av 5 (aq (.ap false) (av 1 (dm 3 (aq (.ap true) (av 1 (dm 3 (av 1 [])))))))))))),.ap true,(ad 1)] (cf.a1 (.bo af af af af af aF aF aF (.eR aF cV cV cV cV)))))
  (fun aF =>
  (have a5:=cf.a1 (.bo af af af af af aF aF aF (.aC aF));
  .ite (fun aJ =>
  .ret (bY [(ad 2),(ad 6),.aI (av 8 (aq (.ap false) (av 4 (aq (.ap false) (av 5 (aq (.ap false) (av 4 (aq (.ap false) (av 1 (dm 3 (aq (.ap true) []))))))))))),.ap true,(ad 1)] (a5.a1 (.eR aJ aJ aJ aJ cV))))
  (fun aJ =>
  (let t3:List cG:=[(ad 2),(ad 6),.aI (av 8 (aq (.ap false) (av 4 (aq (.ap false) (av 5 (aq (.ap false) (av 4 (aq (.ap false) (av 4 (aq (.ap false) []))))))))))];
  .ite (fun bp =>
  .ret (bY (t3.append [.ap true,(ad 1)]) (a5.a1 (.eR aJ aJ aJ aJ bp))))
  (fun bp =>
  .bn fun bJ =>
  .ay fun lu c9 =>
  .bn fun da =>
  .ay fun qx eF =>
  (let t4:List cG:=t3.append [.ap false,.aI (av 7 (aq (.cz (dk lu)) (bL 7 (.cz (dk qx)) 4)))];
  have n8:=a5.a1 (.bo aJ aJ aJ aJ bp bJ.1 (eI dk bJ.2) (cD dk c9) (.cd da.1 (eI dk da.2) (cD dk eF)));
  .ite (fun d4 =>
  (have nG:=n8.a1 (.bo d4 d4 d4 d4 d4 d4 cV cV (.aC cV));
  .ite (fun d8 =>
  .ret (bY (t4.append [.aI (av 6 (dm 5 (aq (.ap true) (bL 6 (.ap true) 3))))]) (nG.a1 (.eR d8 d8 cV d8 cV))))
  (fun d8 =>
  .ret (bY (t4.append [.aI (av 6 (dm 5 (aq (.ap true) (av 4 (dm 2 (aq (.ap false) (av 3 [])))))))]) (nG.a1 (.eR d8 d8 cV d8 cV))))))
  (fun d4 =>
  .ite (fun d8 =>
  (have nG:=n8.a1 (.bo d4 d4 d4 d4 d4 d4 d8 d8 (.aC d8));
  .ite (fun gK =>
  .ret (bY (t4.append [.aI (av 11 (aq (.ap false) (av 6 (aq (.ap true) (bL 1 (.ap true) 1)))))]) (nG.a1 (.fG gK gK d8 gK d8 d8))))
  (fun gK =>
  .ret (bY (t4.append [.aI (av 11 (aq (.ap false) (av 4 (dm 2 (aq (.ap false) (bL 1 (.ap true) 1))))))]) (nG.a1 (.fG gK gK d8 gK d8 d8))))))
  (fun d8 =>
  .ret (bY (t4.append [.aI (av 11 (aq (.ap false) (av 1 (dm 3 (av 2 (dm 2 (aq (.ap false) (av 1 []))))))))]) (n8.a1 (.bo d4 d4 d4 d4 d4 d4 d8 d8 (.dh d8 d8 d8 d8))))))))))))))))
def Dj (mX:bF)(ck:b4):Option Bool :=
 zK ck mX >>= fun ae =>
 some (!ae)
theorem Vs {mX:bF}{ck:b4}:bV (Dj mX ck) (fun r=>Con bt 23 [.agg (c3 mX),.eh 2 [(gf ck)] 0 0] [] (.b r) []):=by
 unfold Dj
 exact .ay fun ae J =>
  .ret (bY [(ad 2),.aI (bL 1 (bC 2 (.b ae) true) 2)] (.aH (UD ae J) (cl.b ae)))
def Gj (aK:List bF)(kb:List bs)(pg:List bF)(e1:Int):Int→S:=fun fa=>fh [(0,.isl 3 (aK.map c3)),(1,.fn 23 [.eh 2 [[.isl 4 (kb.map dk),.isl 3 (pg.map c3)]] 0 0]),(7,.n .i64 e1),(8,.n .i64 fa)] []
def M1 (aK:List bF)(kb:List bs)(pg:List bF)(e1:Int):((Unit)⊕(Int))→fp
 | .inl a=>⟨some 0,[],[]⟩
 | .inr a=>⟨none,[(4,.n .i64 a)],[]⟩
def wO (aK:List bF)(kb:List bs)(pg:List bF)(e1 fa:Int):Option ((Int)⊕((Unit)⊕(Int))) :=
 if (decide (fa<e1))=true then
  if 0≤fa∧fa<aK.length then
  aK[fa.toNat]? >>= fun aM =>
  Dj aM (⟨kb,pg⟩:b4) >>= fun br =>
  if br=true then
   some (.inr (.inr fa))
  else
   some (.inl (U (fa+(1:Int))))
  else none
 else
  some (.inr (.inl ()))
def GC (aK:List bF)(kb:List bs)(pg:List bF)(e1 fa:Int):Option ((Unit)⊕(Int)):=iter (fun w:Int=>wO aK kb pg e1 w) fa
theorem TN {aK:List bF}{kb:List bs}{pg:List bF}{e1 fa:Int}:bV (wO aK kb pg e1 fa) (fV bt 19 0 56 [1,0,1,0,0] (Gj aK kb pg e1 fa) (Gj aK kb pg e1) (M1 aK kb pg e1)):=by
 unfold wO
 exact .ite (fun o =>
  .bn fun J =>
  .ay fun aM aF =>
  .ay fun br bp =>
  (let t1:List cG:=[(ad 1),.ap true,(ad 2),.aI (av 4 (aq (.cz (c3 aM)) (aq (bC 2 (.b br) true) [])))];
  have a5:=((.fG o J.1 (eI c3 J.2) (cD c3 aF) (Vs br bp) (cl.b br)):cW _);
  .ite (fun bJ =>
  .ret (bQ (t1.append [.ap true,(ad 2),.bm [] [] (bX [4])]) (a5.a1 (.aC bJ))))
  (fun bJ =>
  .ret (bQ (t1.append [.ap false,(ad 2),.bm [] [] [(0,ii),(1,.comp [.ck .id]),(7,ii),(8,ii)]]) (a5.a1 (.aC bJ))))))
  (fun o =>
  .ret (bQ [(ad 1),.ap false,.bm [] [] []] (.aC o)))
theorem M3 {aK:List bF}{kb:List bs}{pg:List bF}{e1 fa:Int}{r} (h:GC aK kb pg e1 fa=some r):fW bt 19 0 56 [1,0,1,0,0] (Gj aK kb pg e1) (M1 aK kb pg e1) fa r:=fZ (fun _=>TN) h
def CR (aK:List bF)(pf:b4):Option Int :=
 GC aK pf.cj pf.bz (len_ c3 aK) 0 >>= fun ae =>
 match ae with
 | .inl bN=>(some (-1))
 | .inr bN=>(some bN)
theorem Ub {aK:List bF}{pf:b4}:bV (CR aK pf) (fun r=>Con bt 56 [.isl 3 (aK.map c3),.fn 23 [.eh 2 [(gf pf)] 0 0]] [] (.n .i64 r) []):=by
 unfold CR
 exact .ay fun ae J =>
  (let t1:List cG:=[(ad 1),(ad 3),.bm [] [] [(0,ii),(1,.comp [.ck .id]),(7,ii),(8,ii)]];
  (by
  rcases ae with bN|bN
  ·exact (.ret (bY (t1.append [.sub (.exit 0) [] [],(ad 1)]) (.aC (M3 J))))
  ·exact (.ret (bY (t1.append [.sub (.ret) [(4,.n .i64 bN)] []]) (.aC (M3 J))))))
def zG (aK:List bF)(pf:b4):Option Bool :=
 CR aK pf >>= fun ae =>
 some (decide ((0:Int)≤ae))
theorem T0 {aK:List bF}{pf:b4}:bV (zG aK pf) (fun r=>Con bt 22 [.isl 3 (aK.map c3),.fn 23 [.eh 2 [(gf pf)] 0 0]] [] (.b r) []):=by
 unfold zG
 exact .ay fun ae J =>
  .ret (bY [(ad 1),.aI (bL 2 (bC 2 (.n .i64 ae) true) 2)] (.aH (Ub ae J) (cl.n .i64 ae)))
def Hp (fu:List bs)(hI:Int)(aN:List bF):Int→S:=fun dt=>fh [(1,.ref 0 0 0 0),(16,.isl 4 (fu.map dk)),(17,.n .i64 hI),(18,.n .i64 dt)] [[ab.mk 2 [[.isl 4 (fu.map dk),.isl 3 (aN.map c3)]] .live]]
def Hs (fu:List bs)(hI:Int)(aN:List bF):((Unit)⊕(Unit))→fp
 | .inl a=>⟨some 0,[(1,.ref 0 0 0 0)],[[ab.mk 2 [[.isl 4 (fu.map dk),.isl 3 (aN.map c3)]] .live]]⟩
 | .inr a=>⟨none,[(2,.b false)],[]⟩
def xj (fu:List bs)(hI:Int)(aN:List bF)(dt:Int):Option ((Int)⊕((Unit)⊕(Unit))) :=
 if (decide (dt<hI))=true then
  if 0≤dt∧dt<fu.length then
  fu[dt.toNat]? >>= fun aM =>
  Aa aM >>= fun br =>
  if br=true then
   zZ (⟨fu,aN⟩:b4) aM.pU >>= fun ea =>
   if (ea != dt)=true then
    some (.inr (.inr ()))
   else
    some (.inl (U (dt+(1:Int))))
  else
   some (.inr (.inr ()))
  else none
 else
  some (.inr (.inl ()))
def De (fu:List bs)(hI:Int)(aN:List bF)(dt:Int):Option ((Unit)⊕(Unit)):=iter (fun w:Int=>xj fu hI aN w) dt
theorem UA {fu:List bs}{hI:Int}{aN:List bF}{dt:Int}:bV (xj fu hI aN dt) (fV bt 40 0 6 [1,1,0,1,0,0] (Hp fu hI aN dt) (Hp fu hI aN) (Hs fu hI aN)):=by
 unfold xj
 exact .ite (fun o =>
  .bn fun J =>
  .ay fun aM aF =>
  .ay fun br bp =>
  (let t1:List cG:=[(ad 1),.ap true,.aI (bL 2 (.cz (dk aM)) 3)];
  have a5:=((.fG o J.1 (eI dk J.2) (cD dk aF) (Wu br bp) (cl.b br)):cW _);
  .ite (fun bJ =>
  .ay fun ea c9 =>
  (let t3:List cG:=t1.append [.aI (av 1 (aq (bC 1 (.b br) true) (av 5 (aq (bC 2 (.n .i64 ea) true) (av 2 (aq (.ap false) []))))))];
  have fI:=a5.a1 (.bo (d7 bJ) (d7 bJ) (d7 bJ) (d7 bJ) (VP ea c9) (cl.n .i64 ea) (d7 bJ) (d7 bJ) (.aC (d7 bJ)));
  .ite (fun da =>
  .ret (bQ (t3.append [.ap true,(ad 1),.bm [] [] (bX [2])]) (fI.a1 (.aC da))))
  (fun da =>
  .ret (bQ (t3.append [.ap false,(ad 2),.bm [0] [.box [.id,.id]] (bX [1,16,17,18])]) (fI.a1 (.aC da))))))
  (fun bJ =>
  .ret (bQ (t1.append [.aI (av 1 (aq (bC 1 (.b br) true) (av 2 (dm 6 (aq (.ap true) []))))),.ap true,(ad 1),.bm [] [] (bX [2])]) (a5.a1 (.h6 (ee bJ) (ee bJ) (ee bJ) (ee bJ) (ee bJ) (ee bJ) (ee bJ) cV))))))
  (fun o =>
  .ret (bQ [(ad 1),.ap false,.bm [0] [.box [.id,.id]] (bX [1])] (.aC o)))
theorem Ns {fu:List bs}{hI:Int}{aN:List bF}{dt:Int}{r} (h:De fu hI aN dt=some r):fW bt 40 0 6 [1,1,0,1,0,0] (Hp fu hI aN) (Hs fu hI aN) dt r:=fZ (fun _=>UA) h
def o8 (aK:b4):Option Bool :=
 if (decide ((6:Int)<(len_ dk aK.cj)))=true then
  some false
 else
  if (decide ((8:Int)<(len_ c3 aK.bz)))=true then
   some false
  else
   De aK.cj (len_ dk aK.cj) aK.bz 0 >>= fun bl =>
   match bl with
   | .inl gM=>(zG aK.bz aK >>= fun bI =>
    some (!bI))
   | .inr gM=>(some false)
theorem xD {aK:b4}:bV (o8 aK) (fun r=>Con bt 6 [.agg (gf aK)] [] (.b r) []):=by
 unfold o8
 exact .ite (fun o =>
  .ret (bY [(ad 2),.aI (av 5 (dm 4 (aq (.ap true) []))),.ap true,(ad 1)] (.fG o o o o o cV)))
  (fun o =>
  (let t1:List cG:=[(ad 2),.aI (av 9 (aq (.ap false) []))];
  .ite (fun J =>
  .ret (bY (t1.append [.ap true,(ad 1)]) (.fG o o o o o J)))
  (fun J =>
  .ay fun bl aF =>
  (let t2:List cG:=t1.append [.ap false,(ad 4),.bm [0] [.box [.id,.id]] (bX [1,16,17,18])];
  (by
  rcases bl with gM|gM
  ·exact (.ay fun bI bJ =>
  .ret (bY (t2.append [(Hs aK.cj (len_ dk aK.cj) aK.bz (.inl gM)).gL,.aI (bL 3 (.call {ac:=[ii,.comp [.ptr [.id,.id]]],r:= .b bI,dr:=true,dZ:=[0]}) 2)]) (.bo o o o o o J (Ns aF) (j6 (m6 aK):g9 [(gf aK)]) (.aH (T0 bI bJ) (cl.b bI)))))
  ·exact (.ret (bY (t2.append [.sub (.ret) [(2,.b false)] []]) (.fC o o o o o J (Ns aF)))))))))
def Ab (bh:Int):Option Bool :=
 if (decide ((-100:Int)≤bh))=true then
  some (decide (bh≤(100:Int)))
 else
  some false
theorem Wv {bh:Int}:bV (Ab bh) (fun r=>Con bt 51 [.n .i64 bh] [] (.b r) []):=by
 unfold Ab
 exact .ite (fun o =>
  .ret (bY [(ad 1),.aI (bL 5 (.ap true) 1)] (.cd o o o)))
  (fun o =>
  .ret (bY [(ad 1),.aI (av 3 (dm 2 (aq (.ap false) (av 1 []))))] (.cd o o o)))
def Dv (bh:Int):Option Bool :=
 Ab bh >>= fun ae =>
 some (!ae)
theorem VQ {bh:Int}:bV (Dv bh) (fun r=>Con bt 50 [.n .i64 bh] [] (.b r) []):=by
 unfold Dv
 exact .ay fun ae J =>
  .ret (bY [(ad 1),.aI (bL 1 (bC 1 (.b ae) true) 2)] (.aH (Wv ae J) (cl.b ae)))
def Gy (aK:List Int)(e1:Int):Int→S:=fun fa=>fh [(0,.isl 1 (aK.map I)),(1,.fn 50 []),(7,.n .i64 e1),(8,.n .i64 fa)] []
def M5 (aK:List Int)(e1:Int):((Unit)⊕(Int))→fp
 | .inl a=>⟨some 0,[],[]⟩
 | .inr a=>⟨none,[(4,.n .i64 a)],[]⟩
def wU (aK:List Int)(e1 fa:Int):Option ((Int)⊕((Unit)⊕(Int))) :=
 if (decide (fa<e1))=true then
  if 0≤fa∧fa<aK.length then
  aK[fa.toNat]? >>= fun aM =>
  Dv aM >>= fun br =>
  if br=true then
   some (.inr (.inr fa))
  else
   some (.inl (U (fa+(1:Int))))
  else none
 else
  some (.inr (.inl ()))
def GP (aK:List Int)(e1 fa:Int):Option ((Unit)⊕(Int)):=iter (fun w:Int=>wU aK e1 w) fa
theorem TW {aK:List Int}{e1 fa:Int}:bV (wU aK e1 fa) (fV bt 19 0 85 [1,0,1,0,0] (Gy aK e1 fa) (Gy aK e1) (M5 aK e1)):=by
 unfold wU
 exact .ite (fun o =>
  .bn fun J =>
  .ay fun aM aF =>
  .ay fun br bp =>
  (let t1:List cG:=[(ad 1),.ap true,(ad 2),.aI (av 4 (aq (.cz (I aM)) (aq (bC 1 (.b br) true) [])))];
  have a5:=((.fG o J.1 (eI I J.2) (cD I aF) (VQ br bp) (cl.b br)):cW _);
  .ite (fun bJ =>
  .ret (bQ (t1.append [.ap true,(ad 2),.bm [] [] (bX [4])]) (a5.a1 (.aC bJ))))
  (fun bJ =>
  .ret (bQ (t1.append [.ap false,(ad 2),.bm [] [] (bX [0,1,7,8])]) (a5.a1 (.aC bJ))))))
  (fun o =>
  .ret (bQ [(ad 1),.ap false,.bm [] [] []] (.aC o)))
theorem M6 {aK:List Int}{e1 fa:Int}{r} (h:GP aK e1 fa=some r):fW bt 19 0 85 [1,0,1,0,0] (Gy aK e1) (M5 aK e1) fa r:=fZ (fun _=>TW) h
def CX (aK:List Int):Option Int :=
 GP aK (len_ I aK) 0 >>= fun ae =>
 match ae with
 | .inl bN=>(some (-1))
 | .inr bN=>(some bN)
theorem Us {aK:List Int}:bV (CX aK) (fun r=>Con bt 85 [.isl 1 (aK.map I),.fn 50 []] [] (.n .i64 r) []):=by
 unfold CX
 exact .ay fun ae J =>
  (let t1:List cG:=[(ad 1),(ad 3),.bm [] [] (bX [0,1,7,8])];
  (by
  rcases ae with bN|bN
  ·exact (.ret (bY (t1.append [.sub (.exit 0) [] [],(ad 1)]) (.aC (M6 J))))
  ·exact (.ret (bY (t1.append [.sub (.ret) [(4,.n .i64 bN)] []]) (.aC (M6 J))))))
def CS (aK:List Int):Option Bool :=
 CX aK >>= fun ae =>
 some (decide ((0:Int)≤ae))
theorem Uc {aK:List Int}:bV (CS aK) (fun r=>Con bt 49 [.isl 1 (aK.map I),.fn 50 []] [] (.b r) []):=by
 unfold CS
 exact .ay fun ae J =>
  .ret (bY [(ad 1),.aI (bL 2 (bC 2 (.n .i64 ae) true) 2)] (.aH (Us ae J) (cl.n .i64 ae)))
def sR (aK:b4)(cH:List Int):Option Bool :=
 if ((len_ I cH) == (U ((2:Int)*(len_ dk aK.cj))))=true then
  CS cH >>= fun bq =>
  some (!bq)
 else
  some false
theorem NQ {aK:b4}{cH:List Int}:bV (sR aK cH) (fun r=>Con bt 19 [.eh 2 [(gf aK)] 0 0,.isl 1 (cH.map I)] [] (.b r) []):=by
 unfold sR
 exact .ite (fun o =>
  .ay fun bq af =>
  .ret (bY [(ad 1),.aI (av 11 (aq (bC 2 (.b bq) true) (bL 1 (.ap true) 1)))] (.fG o o (Uc bq af) (cl.b bq) o o)))
  (fun o =>
  .ret (bY [(ad 1),.aI (av 10 (dm 3 (aq (.ap false) (av 1 []))))] (.dh o o o o)))
def tO (aK:b4)(cH:List Int):Option Bool :=
 o8 aK >>= fun ae =>
 if ae=true then
  sR aK cH >>= fun aw =>
  some aw
 else
  some false
theorem DH {aK:b4}{cH:List Int}:bV (tO aK cH) (fun r=>Con bt 5 [.agg (gf aK),.isl 1 (cH.map I)] [] (.b r) []):=by
 unfold tO
 exact .ay fun ae J =>
  (have cf:=((.aH (xD ae J) (cl.b ae)):cW _);
  .ite (fun af =>
  .ay fun aw aJ =>
  .ret (bY [(ad 2),.aI (av 1 (aq (bC 1 (.b ae) true) (av 2 (aq (.call {ac:=[.bE (.ptr [.id,.id]),ii],r:= .b aw,dr:=true,dZ:=[0]}) (aq (.ap true) (av 1 []))))))] (cf.a1 (.fG af af (j6 (m6 aK):g9 [(gf aK)]) (NQ aw aJ) (cl.b aw) af))))
  (fun af =>
  .ret (bY [(ad 2),.aI (av 1 (aq (bC 1 (.b ae) true) (av 1 (dm 2 (aq (.ap false) (av 1 []))))))] (cf.a1 (.cd af af af)))))
def GD (hx:List bs)(eT:Int):(Int×(List Int))→S:=fun (cL,ai)=>fh [(3,.bx 0 0 0 ai.length),(9,.isl 4 (hx.map dk)),(10,.n .i64 eT),(11,.n .i64 cL)] [(au 1 I ai)]
def M8 (hx:List bs)(eT:Int):(List Int)→fp
 | a=>⟨some 0,[(3,.bx 0 0 0 a.length)],[(au 1 I a)]⟩
def zH (hx:List bs)(eT cL:Int)(ai:List Int):Option ((Int×(List Int))⊕((List Int))) :=
 if (decide (cL<eT))=true then
  if 0≤cL∧cL<hx.length then
  hx[cL.toNat]? >>= fun aM =>
  if aM.oN=true then
   some (.inl (U (cL+(1:Int)),ai))
  else
   if (ai++([cL]:List Int)).length*8≤140737488355328 then
   some (.inl (U (cL+(1:Int)),ai++([cL]:List Int)))
   else none
  else none
 else
  some (.inr ai)
def GW (hx:List bs)(eT cL:Int)(ai:List Int):Option ((List Int)):=iter (fun w:Int×(List Int)=>zH hx eT w.1 w.2) (cL,ai)
theorem T1 {hx:List bs}{eT cL:Int}{ai:List Int}:bV (zH hx eT cL ai) (fV bt 25 0 68 [1,1,0,1,0,0] (GD hx eT (cL,ai)) (GD hx eT) (M8 hx eT)):=by
 unfold zH
 exact .ite (fun o =>
  .bn fun J =>
  .ay fun aM aF =>
  (let t1:List cG:=[(ad 1),.ap true,.aI (bL 2 (.cz (dk aM)) 3),(ad 3)];
  have a5:=((.dh o J.1 (eI dk J.2) (cD dk aF)):cW _);
  .ite (fun aJ =>
  .ret (bQ (t1.append [.ap false,(ad 2),.bm [0] [.pure] (bX [3,9,10,11])]) (a5.a1 (.aH (d7 aJ) (aD 1 .live aA ai)))))
  (fun aJ =>
  .bn fun bp =>
  .ret (let aL:=(ai++([cL]:List Int));bQ (t1.append [.ap true,.aI (bL 3 (.a1 (aL.length)) 1),(ad 2),.bm [14] [.dY (au 1 I aL)] (bX [3,9,10,11])]) (a5.a1 (.fC (ee aJ) (mi I cL) (qF I ai) (n7 I ai cL) bp (eB 1 .live (qG I ai cL)) (aD 1 .live aA aL)))))))
  (fun o =>
  .ret (bQ [(ad 1),.ap false,.bm [0] [.pure] (bX [3])] (.aH o (aD 1 .live aA ai))))
theorem Ui {hx:List bs}{eT cL:Int}{ai:List Int}{r} (h:GW hx eT cL ai=some r):fW bt 25 0 68 [1,1,0,1,0,0] (GD hx eT) (M8 hx eT) (cL,ai) r:=fZ (fun _=>T1) h
def uM (aK:b4):Option (List Int) :=
 GW aK.cj (len_ dk aK.cj) 0 ([]:List Int) >>= fun ae =>
 some ae
theorem GX {aK:b4}:bV (uM aK) (fun r=>Con bt 68 [.eh 2 [(gf aK)] 0 0] [] (.isl 1 (r.map I)) []):=by
 unfold uM
 exact .ay fun ae J =>
  .ret (bY [(ad 1),(ad 1),(ad 6),.su 3 1,.bm [8] [.dY (au 1 I ([]:List Int))] [(3,gz (([]:List Int).length)),(9,ii),(10,ii),(11,ii)],.sub (.exit 0) [(3,.bx 0 0 0 ae.length)] [(au 1 I ae)],(ad 2)] (.fC (eB 1 .live (r4 I)) (aD 1 .live aA ([]:List Int)) (mL Int) (Ui J) (ki I ae) (jw I ae) (fs aA ae)) (.bE (.ck (.gv (ae.map I)))))
def ru (aK:b4)(cc:Int):Option (Int×Int) :=
 if 0≤cc∧cc<aK.bz.length then
 aK.bz[cc.toNat]? >>= fun fo =>
 if 0≤fo.fX∧fo.fX<aK.cj.length then
 aK.cj[fo.fX.toNat]? >>= fun nD =>
 if 0≤fo.f9∧fo.f9<aK.cj.length then
 aK.cj[fo.f9.toNat]? >>= fun lu =>
 some (U (nD.lc-lu.lc),U (nD.ld-lu.ld))
 else none
 else none
 else none
theorem Nl {aK:b4}{cc:Int}:bV (ru aK cc) (fun r=>Con bt 91 [.eh 2 [(gf aK)] 0 0,.n .i64 cc] [] (.cY [.n .i64 r.1,.n .i64 r.2]) []):=by
 unfold ru
 exact .bn fun o =>
  .ay fun fo af =>
  .bn fun aF =>
  .ay fun nD bp =>
  .bn fun bJ =>
  .ay fun lu c9 =>
  .ret (bY [(ad 2),.aI (bL 6 (.cz (c3 fo)) 2),.aI (av 8 (aq (.cz (dk nD)) (av 8 (aq (.cz (dk lu)) (av 9 (aq (.cz (dk nD)) (bL 8 (.cz (dk lu)) 3)))))))] (.bo o.1 (eI c3 o.2) (cD c3 af) aF.1 (eI dk aF.2) (cD dk bp) bJ.1 (eI dk bJ.2) (.fC (cD dk c9) aF.1 (eI dk aF.2) (cD dk bp) bJ.1 (eI dk bJ.2) (cD dk c9))))
def GA (cO:List bs)(cr:List bF)(eG:Int)(cw:List Int)(cF ht dU:Int)(ai:List (List Int)):(Int×(List Int)×(List Int))→S:=fun (gV,ak,aR)=>fh [(0,.eh 2 [[.isl 4 (cO.map dk),.isl 3 (cr.map c3)]] 0 0),(3,.bx 0 0 0 ai.length),(5,.n .i64 eG),(6,.bx 1 0 0 ak.length),(7,.bx 2 0 0 aR.length),(13,.isl 1 (cw.map I)),(14,.n .i64 cF),(15,.n .i64 ht),(34,.isl 3 (cr.map c3)),(35,.n .i64 dU),(36,.n .i64 gV)] [(au 1 (fi 1 I) ai),(au 1 I ak),(au 1 I aR)]
def GF (cO:List bs)(cr:List bF)(eG:Int)(cw:List Int)(cF ht dU:Int)(ai:List (List Int)):((List Int)×(List Int))→fp
 | a=>⟨some 2,[(0,.eh 2 [[.isl 4 (cO.map dk),.isl 3 (cr.map c3)]] 0 0),(3,.bx 0 0 0 ai.length),(6,.bx 1 0 0 a.1.length),(7,.bx 2 0 0 a.2.length),(13,.isl 1 (cw.map I)),(14,.n .i64 cF),(15,.n .i64 ht)],[(au 1 (fi 1 I) ai),(au 1 I a.1),(au 1 I a.2)]⟩
def wV (cO:List bs)(cr:List bF)(eG:Int)(cw:List Int)(cF ht dU:Int)(ai:List (List Int))(gV:Int)(ak aR:List Int):Option ((Int×(List Int)×(List Int))⊕((List Int)×(List Int))) :=
 if (decide (gV<dU))=true then
  if 0≤gV∧gV<cr.length then
  cr[gV.toNat]? >>= fun aM =>
  ru (⟨cO,cr⟩:b4) gV >>= fun br =>
  if (eG == aM.f9)=true then
   if 0≤gV∧gV<(ak.length:Nat) then
   if (0+gV.toNat)<ak.length then
   if 0≤gV∧gV<(aR.length:Nat) then
   if (0+gV.toNat)<aR.length then
   some (.inl (U (gV+(1:Int)),ak.set (0+gV.toNat) br.1,aR.set (0+gV.toNat) br.2))
   else none
   else none
   else none
   else none
  else
   if (eG == aM.fX)=true then
    if 0≤gV∧gV<(ak.length:Nat) then
    if (0+gV.toNat)<ak.length then
    if 0≤gV∧gV<(aR.length:Nat) then
    if (0+gV.toNat)<aR.length then
    some (.inl (U (gV+(1:Int)),ak.set (0+gV.toNat) (U (0-br.1)),aR.set (0+gV.toNat) (U (0-br.2))))
    else none
    else none
    else none
    else none
   else
    some (.inl (U (gV+(1:Int)),ak,aR))
  else none
 else
  some (.inr (ak,aR))
def CW (cO:List bs)(cr:List bF)(eG:Int)(cw:List Int)(cF ht dU:Int)(ai:List (List Int))(gV:Int)(ak aR:List Int):Option ((List Int)×(List Int)):=iter (fun w:Int×(List Int)×(List Int)=>wV cO cr eG cw cF ht dU ai w.1 w.2.1 w.2.2) (gV,ak,aR)
theorem TY {cO:List bs}{cr:List bF}{eG:Int}{cw:List Int}{cF ht dU:Int}{ai:List (List Int)}{gV:Int}{ak aR:List Int}:bV (wV cO cr eG cw cF ht dU ai gV ak aR) (fV bt 82 0 60 [1,1,0,1,0,0,1,1,0,0,1,1,0,1,0,0] (GA cO cr eG cw cF ht dU ai (gV,ak,aR)) (GA cO cr eG cw cF ht dU ai) (GF cO cr eG cw cF ht dU ai)):=by
 unfold wV
 exact .ite (fun o =>
  .bn fun J =>
  .ay fun aM aF =>
  .ay fun br bp =>
  (let t1:List cG:=[(ad 1),.ap true,.aI (bL 2 (.cz (c3 aM)) 3),.aI (bL 2 (bC 2 (.cY [.n .i64 br.1,.n .i64 br.2]) true) 5),(ad 1),(ad 4)];
  have a5:=((.fG o J.1 (eI c3 J.2) (cD c3 aF) (Nl br bp) (Q6 (jx (cl.n .i64 br.1) (jx (cl.n .i64 br.2) t0)))):cW _);
  .ite (fun bJ =>
  .bn fun bu =>
  .bn fun c9 =>
  .bn fun da =>
  .bn fun c8 =>
  .ret (bQ (t1.append [.ap true,.aI (av 7 (aq .c4 (av 1 (aq .c4 [])))),(ad 2),.bm [0,1,2] [.pure,.dY (au 1 I (ak.set (0+gV.toNat) br.1)),.dY (au 1 I (aR.set (0+gV.toNat) br.2))] [(0,ii),(3,ii),(5,ii),(6,gz ((ak.set (0+gV.toNat) br.1).length)),(7,gz ((aR.set (0+gV.toNat) br.2).length)),(13,ii),(14,ii),(15,ii),(34,ii),(35,ii),(36,ii)]]) (a5.a1 (.bo bJ bu.1 bu.2 (hB I c9) (g8 1) da.1 da.2 (hB I c8) (.h6 (g8 1) (aD 1 .live (pb (sz:=1) aA) ai) (eB 1 .live (gi (ej I ak) (0+gV.toNat) br.1)) (aD 1 .live aA (ak.set (0+gV.toNat) br.1)) (eB 1 .live (gi (ej I aR) (0+gV.toNat) br.2)) (aD 1 .live aA (aR.set (0+gV.toNat) br.2)) (hg (fP ak) (0+gV.toNat) br.1) (hg (fP aR) (0+gV.toNat) br.2))))))
  (fun bJ =>
  .ite (fun bu =>
  .bn fun c9 =>
  .bn fun da =>
  .bn fun c8 =>
  .bn fun eF =>
  .ret (let aL:=U (0-br.1);let bg:=U (0-br.2);bQ (t1.append [.ap false,(ad 4),.ap true,.aI (av 9 (aq .c4 (av 1 (aq .c4 [])))),(ad 2),.bm [0,1,2] [.pure,.dY (au 1 I (ak.set (0+gV.toNat) aL)),.dY (au 1 I (aR.set (0+gV.toNat) bg))] [(0,ii),(3,ii),(5,ii),(6,gz ((ak.set (0+gV.toNat) aL).length)),(7,gz ((aR.set (0+gV.toNat) bg).length)),(13,ii),(14,ii),(15,ii),(34,ii),(35,ii),(36,ii)]]) (a5.a1 (.bo bJ bu c9.1 c9.2 (hB I da) (g8 1) c8.1 c8.2 (.bo (hB I eF) (g8 1) (aD 1 .live (pb (sz:=1) aA) ai) (eB 1 .live (gi (ej I ak) (0+gV.toNat) aL)) (aD 1 .live aA (ak.set (0+gV.toNat) aL)) (eB 1 .live (gi (ej I aR) (0+gV.toNat) bg)) (aD 1 .live aA (aR.set (0+gV.toNat) bg)) (hg (fP ak) (0+gV.toNat) aL) (.aC (hg (fP aR) (0+gV.toNat) bg)))))))
  (fun bu =>
  .ret (bQ (t1.append [.ap false,(ad 4),.ap false,(ad 2),.bm [0,1,2] [.pure,.pure,.pure] (bX [0,3,5,6,7,13,14,15,34,35,36])]) (a5.a1 (.eR bJ bu (aD 1 .live (pb (sz:=1) aA) ai) (aD 1 .live aA ak) (aD 1 .live aA aR))))))))
  (fun o =>
  .ret (bQ [(ad 1),.ap false,.bm [0,1,2] [.pure,.pure,.pure] (bX [0,3,6,7,13,14,15])] (.dh o (aD 1 .live (pb (sz:=1) aA) ai) (aD 1 .live aA ak) (aD 1 .live aA aR))))
theorem Uf {cO:List bs}{cr:List bF}{eG:Int}{cw:List Int}{cF ht dU:Int}{ai:List (List Int)}{gV:Int}{ak aR:List Int}{r} (h:CW cO cr eG cw cF ht dU ai gV ak aR=some r):fW bt 82 0 60 [1,1,0,1,0,0,1,1,0,0,1,1,0,1,0,0] (GA cO cr eG cw cF ht dU ai) (GF cO cr eG cw cF ht dU ai) (gV,ak,aR) r:=fZ (fun _=>TY) h
def GB (cO:List bs)(cr:List bF)(cw:List Int)(cF:Int):(Int×(List (List Int)))→S:=fun (ht,ai)=>fh [(0,.eh 2 [[.isl 4 (cO.map dk),.isl 3 (cr.map c3)]] 0 0),(3,.bx 0 0 0 ai.length),(13,.isl 1 (cw.map I)),(14,.n .i64 cF),(15,.n .i64 ht)] [(au 1 (fi 1 I) ai)]
def M7 (cO:List bs)(cr:List bF)(cw:List Int)(cF:Int):(List (List Int))→fp
 | a=>⟨some 0,[(3,.bx 0 0 0 a.length)],[(au 1 (fi 1 I) a)]⟩
def wW (cO:List bs)(cr:List bF)(cw:List Int)(cF ht:Int)(ai:List (List Int)):Option ((Int×(List (List Int)))⊕((List (List Int)))) :=
 if (decide (ht<cF))=true then
  if 0≤ht∧ht<cw.length then
  cw[ht.toNat]? >>= fun aM =>
  if 0≤(len_ c3 cr)∧(8:Int)*(len_ c3 cr)≤281474976710656∧(len_ c3 cr)<9223372036854775808 then
  CW cO cr aM cw cF ht (len_ c3 cr) ai 0 (List.replicate (len_ c3 cr).toNat 0:List Int) (List.replicate (len_ c3 cr).toNat 0:List Int) >>= fun bI =>
  if (ai++([bI.1,bI.2]:List (List Int))).length*24≤140737488355328 then
  some (.inl (U (ht+(1:Int)),ai++([bI.1,bI.2]:List (List Int))))
  else none
  else none
  else none
 else
  some (.inr ai)
def GS (cO:List bs)(cr:List bF)(cw:List Int)(cF ht:Int)(ai:List (List Int)):Option ((List (List Int))):=iter (fun w:Int×(List (List Int))=>wW cO cr cw cF w.1 w.2) (ht,ai)
theorem TZ {cO:List bs}{cr:List bF}{cw:List Int}{cF ht:Int}{ai:List (List Int)}:bV (wW cO cr cw cF ht ai) (fV bt 82 0 60 [1,1,0,1,0,0] (GB cO cr cw cF (ht,ai)) (GB cO cr cw cF) (M7 cO cr cw cF)):=by
 unfold wW
 exact .ite (fun o =>
  .bn fun J =>
  .ay fun aM aF =>
  .bn fun aJ =>
  .ay fun bI bJ =>
  .bn fun bu =>
  .ret (let bg:=(ai++([bI.1,bI.2]:List (List Int)));let b1:=len_ c3 cr;let aL:=(List.replicate b1.toNat 0:List Int);let cI:=pb (sz:=1) aA;let eU:=eB 1 .live (kr I b1.toNat 0);bQ [(ad 1),.ap true,.aI (bL 1 (.cz (I aM)) 1),(ad 14),(ad 6),.bm [0,10,16] [.pure,.dY (au 1 I aL),.dY (au 1 I aL)] [(0,ii),(3,ii),(5,ii),(6,gz (aL.length)),(7,gz (aL.length)),(13,ii),(14,ii),(15,ii),(34,ii),(35,ii),(36,ii)],(GF cO cr aM cw cF ht b1 ai bI).gL,.bm [0] [.pure] [(0,ii),(3,ii),(6,.bE (.ck (.gv (bI.1.map I)))),(7,.bE (.ck (.gv (bI.2.map I)))),(13,ii),(14,ii),(15,ii)],.aI (bL 4 (.a1 (bg.length)) 1),(ad 2),.bm [5] [.dY (au 1 (fi 1 I) bg)] (bX [0,3,13,14,15])] (.bo o J.1 (eI I J.2) (cD I aF) aJ.1 (Int.le_refl b1) aJ.2.1 aJ.2.2 (.bo aJ.1 (Int.le_refl b1) aJ.2.1 aJ.2.2 (aD 1 .live cI ai) eU (aD 1 .live aA aL) eU (.bo (aD 1 .live aA aL) (kI b1.toNat (0:Int)) (kI b1.toNat (0:Int)) (Uf bJ) (aD 1 .live cI ai) (ki I bI.1) (jw I bI.1) (fs aA bI.1) (.bo (ki I bI.2) (jw I bI.2) (fs aA bI.2) (oK (show [[.isl 1 (bI.1.map I)],[.isl 1 (bI.2.map I)]]=(([bI.1,bI.2]:List (List Int))).map (fi 1 I) from rfl) (show 2=([bI.1,bI.2]:List (List Int)).length from rfl)) (qF (fi 1 I) ai) (yv (fP ai) (AZ (show [[.isl 1 (bI.1.map I)],[.isl 1 (bI.2.map I)]]=(([bI.1,bI.2]:List (List Int))).map (fi 1 I) from rfl) (show 2=([bI.1,bI.2]:List (List Int)).length from rfl)):bg.length=ai.length+(([[.isl 1 (bI.1.map I)],[.isl 1 (bI.2.map I)]].drop 0).take 2).length) bu (eB 1 .live (rD (ej (fi 1 I) ai) (fP ai) (AZ (show [[.isl 1 (bI.1.map I)],[.isl 1 (bI.2.map I)]]=(([bI.1,bI.2]:List (List Int))).map (fi 1 I) from rfl) (show 2=([bI.1,bI.2]:List (List Int)).length from rfl)))) (.aC (aD 1 .live cI bg))))))))
  (fun o =>
  .ret (bQ [(ad 1),.ap false,.bm [0] [.pure] (bX [3])] (.aH o (aD 1 .live (pb (sz:=1) aA) ai))))
theorem Ug {cO:List bs}{cr:List bF}{cw:List Int}{cF ht:Int}{ai:List (List Int)}{r} (h:GS cO cr cw cF ht ai=some r):fW bt 82 0 60 [1,1,0,1,0,0] (GB cO cr cw cF) (M7 cO cr cw cF) (ht,ai) r:=fZ (fun _=>TZ) h
def xd (aK:b4):Option (List (List Int)) :=
 uM aK >>= fun ae =>
 GS aK.cj aK.bz ae (len_ I ae) 0 ([]:List (List Int)) >>= fun bl =>
 some bl
theorem Nd {aK:b4}:bV (xd aK) (fun r=>Con bt 60 [.eh 2 [(gf aK)] 0 0] [] (.isl 1 (r.map (fi 1 I))) []):=by
 unfold xd
 exact .ay fun ae J =>
  .ay fun bl aF =>
  .ret (bY [(ad 1),(ad 1),.aI (bL 1 (bC 1 (.isl 1 (ae.map I)) false) 2),.su 3 1,.bm [6] [.dY (au 1 (fi 1 I) ([]:List (List Int)))] [(0,ii),(3,gz (([]:List (List Int)).length)),(13,ii),(14,ii),(15,ii)],.sub (.exit 0) [(3,.bx 0 0 0 bl.length)] [(au 1 (fi 1 I) bl)],(ad 2)] (.h6 (GX ae J) (eB 1 .live (r4 (fi 1 I))) (aD 1 .live (pb (sz:=1) aA) ([]:List (List Int))) (mL (List Int)) (Ug aF) (ki (fi 1 I) bl) (jw (fi 1 I) bl) (fs (pb (sz:=1) aA) bl)) (.bE (.ck (.gv (bl.map (fi 1 I))))))
def GQ (hx:List bF)(eT:Int):(Int×(List ez))→S:=fun (cL,ai)=>fh [(3,.bx 0 0 0 ai.length),(9,.isl 3 (hx.map c3)),(10,.n .i64 eT),(11,.n .i64 cL)] [(au 2 et ai)]
def Nf (hx:List bF)(eT:Int):(List ez)→fp
 | a=>⟨some 0,[(3,.bx 0 0 0 a.length)],[(au 2 et a)]⟩
def w0 (hx:List bF)(eT cL:Int)(ai:List ez):Option ((Int×(List ez))⊕((List ez))) :=
 if (decide (cL<eT))=true then
  if 0≤cL∧cL<hx.length then
  hx[cL.toNat]? >>= fun aM =>
  if (aM.gr != (2:Int))=true then
   if (ai++([(⟨cL,1⟩:ez)]:List ez)).length*16≤140737488355328 then
   if (aM.gr != (1:Int))=true then
    if ((ai++([(⟨cL,1⟩:ez)]:List ez))++([(⟨cL,(-1)⟩:ez)]:List ez)).length*16≤140737488355328 then
    some (.inl (U (cL+(1:Int)),(ai++([(⟨cL,1⟩:ez)]:List ez))++([(⟨cL,(-1)⟩:ez)]:List ez)))
    else none
   else
    some (.inl (U (cL+(1:Int)),ai++([(⟨cL,1⟩:ez)]:List ez)))
   else none
  else
   if (aM.gr != (1:Int))=true then
    if (ai++([(⟨cL,(-1)⟩:ez)]:List ez)).length*16≤140737488355328 then
    some (.inl (U (cL+(1:Int)),ai++([(⟨cL,(-1)⟩:ez)]:List ez)))
    else none
   else
    some (.inl (U (cL+(1:Int)),ai))
  else none
 else
  some (.inr ai)
def Hl (hx:List bF)(eT cL:Int)(ai:List ez):Option ((List ez)):=iter (fun w:Int×(List ez)=>w0 hx eT w.1 w.2) (cL,ai)
theorem Ud {hx:List bF}{eT cL:Int}{ai:List ez}:bV (w0 hx eT cL ai) (fV bt 34 0 58 [1,1,0,1,0,0] (GQ hx eT (cL,ai)) (GQ hx eT) (Nf hx eT)):=by
 unfold w0
 exact .ite (fun o =>
  .bn fun J =>
  .ay fun aM aF =>
  (let t1:List cG:=[(ad 1),.ap true,.aI (bL 2 (.cz (c3 aM)) 3),(ad 3)];
  have a5:=((.dh o J.1 (eI c3 J.2) (cD c3 aF)):cW _);
  .ite (fun aJ =>
  .bn fun bp =>
  (let t3:List cG:=t1.append [.ap true,.aI (bL 4 (.a1 ((ai++([(⟨cL,1⟩:ez)]:List ez)).length)) 1),(ad 3)];
  have fI:=a5.a1 (.eR aJ (mi et (⟨cL,1⟩:ez)) (qF et ai) (n7 et ai (⟨cL,1⟩:ez)) bp);
  .ite (fun bJ =>
  .bn fun bu =>
  .ret (let aL:=(ai++([(⟨cL,1⟩:ez)]:List ez));let bg:=(aL++([(⟨cL,(-1)⟩:ez)]:List ez));let b1:=(qG et ai (⟨cL,1⟩:ez));bQ (t3.append [.ap true,.aI (bL 4 (.a1 (bg.length)) 1),(ad 2),.bm [24] [.dY (au 2 et bg)] (bX [3,9,10,11])]) (fI.a1 (.fC bJ (mi et (⟨cL,(-1)⟩:ez)) (vq b1 (fP aL)) (n7 et aL (⟨cL,(-1)⟩:ez)) bu (eB 2 .live (rD b1 (fP aL) (wC et (⟨cL,(-1)⟩:ez)))) (aD 2 .live uY bg)))))
  (fun bJ =>
  .ret (let cI:=(ai++([(⟨cL,1⟩:ez)]:List ez));bQ (t3.append [.ap false,(ad 2),.bm [15] [.dY (au 2 et cI)] (bX [3,9,10,11])]) (fI.a1 (.cd bJ (eB 2 .live (qG et ai (⟨cL,1⟩:ez))) (aD 2 .live uY cI)))))))
  (fun aJ =>
  .ite (fun bp =>
  .bn fun bJ =>
  .ret (let eU:=(ai++([(⟨cL,(-1)⟩:ez)]:List ez));bQ (t1.append [.ap false,(ad 3),.ap true,.aI (bL 4 (.a1 (eU.length)) 1),(ad 2),.bm [18] [.dY (au 2 et eU)] (bX [3,9,10,11])]) (a5.a1 (.h6 aJ bp (mi et (⟨cL,(-1)⟩:ez)) (qF et ai) (n7 et ai (⟨cL,(-1)⟩:ez)) bJ (eB 2 .live (qG et ai (⟨cL,(-1)⟩:ez))) (aD 2 .live uY eU)))))
  (fun bp =>
  .ret (bQ (t1.append [.ap false,(ad 3),.ap false,(ad 2),.bm [0] [.pure] (bX [3,9,10,11])]) (a5.a1 (.cd aJ bp (aD 2 .live uY ai))))))))
  (fun o =>
  .ret (bQ [(ad 1),.ap false,.bm [0] [.pure] (bX [3])] (.aH o (aD 2 .live uY ai))))
theorem Uw {hx:List bF}{eT cL:Int}{ai:List ez}{r} (h:Hl hx eT cL ai=some r):fW bt 34 0 58 [1,1,0,1,0,0] (GQ hx eT) (Nf hx eT) (cL,ai) r:=fZ (fun _=>Ud) h
def sb (aK:b4):Option (List ez) :=
 Hl aK.bz (len_ c3 aK.bz) 0 ([]:List ez) >>= fun ae =>
 some ae
theorem xf {aK:b4}:bV (sb aK) (fun r=>Con bt 58 [.eh 2 [(gf aK)] 0 0] [] (.isl 2 (r.map et)) []):=by
 unfold sb
 exact .ay fun ae J =>
  .ret (bY [(ad 1),(ad 1),(ad 6),.su 3 2,.bm [8] [.dY (au 2 et ([]:List ez))] [(3,gz (([]:List ez).length)),(9,ii),(10,ii),(11,ii)],.sub (.exit 0) [(3,.bx 0 0 0 ae.length)] [(au 2 et ae)],(ad 2)] (.fC (eB 2 .live (r4 et)) (aD 2 .live uY ([]:List ez)) (mL ez) (Uw J) (ki et ae) (jw et ae) (fs uY ae)) (.bE (.ck (.gv (ae.map et)))))
def Gn (cO:List bs)(cr:List bF)(cH:List Int)(iZ:List ez)(bd:Int)(ga:List Int)(gj:List (List Int))(jM h8 fe eW:Int)(an a7:List Int):(Int×(List Int))→S:=fun (mS,aR)=>fh [(0,.eh 2 [[.isl 4 (cO.map dk),.isl 3 (cr.map c3)]] 0 0),(1,.isl 1 (cH.map I)),(8,.ref 0 0 0 0),(10,.isl 2 (iZ.map et)),(11,.ref 1 0 0 0),(12,.n .i64 bd),(13,.isl 1 (ga.map I)),(46,.isl 1 (gj.map (fi 1 I))),(47,.n .i64 jM),(48,.n .i64 bd),(53,.isl 2 (iZ.map et)),(54,.n .i64 h8),(55,.n .i64 mS)] [[ab.mk 5 [[.n .i64 (0:Int),.n .i64 (0:Int),.eP,.eP,.eP]] .live],[ab.mk 5 [(eJ fe eW 2 0 0 aR.length 3 0 0 an.length 4 0 0 a7.length)] .live],(au 1 I aR),(au 1 I an),(au 1 I a7)]
def Gt (cO:List bs)(cr:List bF)(cH:List Int)(iZ:List ez)(bd:Int)(ga:List Int)(gj:List (List Int))(jM h8 fe eW:Int)(an a7:List Int):(List Int)→fp
 | a=>⟨some 2,[(0,.eh 2 [[.isl 4 (cO.map dk),.isl 3 (cr.map c3)]] 0 0),(1,.isl 1 (cH.map I)),(8,.ref 0 0 0 0),(10,.isl 2 (iZ.map et)),(11,.ref 1 0 0 0),(46,.isl 1 (gj.map (fi 1 I))),(47,.n .i64 jM),(48,.n .i64 bd)],[[ab.mk 5 [[.n .i64 (0:Int),.n .i64 (0:Int),.eP,.eP,.eP]] .live],[ab.mk 5 [(eJ fe eW 2 0 0 a.length 3 0 0 an.length 4 0 0 a7.length)] .live],(au 1 I a),(au 1 I an),(au 1 I a7)]⟩
def wP (cO:List bs)(cr:List bF)(cH:List Int)(iZ:List ez)(bd:Int)(ga:List Int)(gj:List (List Int))(jM h8 fe eW:Int)(an a7:List Int)(mS:Int)(aR:List Int):Option ((Int×(List Int))⊕((List Int))) :=
 if (decide (mS<h8))=true then
  if 0≤mS∧mS<iZ.length then
  iZ[mS.toNat]? >>= fun aM =>
  if 0≤aM.fj∧aM.fj<ga.length then
  ga[aM.fj.toNat]? >>= fun cy =>
  if 0≤(U ((U (bd*eW))+mS))∧(U ((U (bd*eW))+mS))<(aR.length:Nat) then
  if (0+(U ((U (bd*eW))+mS)).toNat)<aR.length then
  some (.inl (U (mS+(1:Int)),aR.set (0+(U ((U (bd*eW))+mS)).toNat) (U (aM.og*cy))))
  else none
  else none
  else none
  else none
 else
  some (.inr aR)
def GH (cO:List bs)(cr:List bF)(cH:List Int)(iZ:List ez)(bd:Int)(ga:List Int)(gj:List (List Int))(jM h8 fe eW:Int)(an a7:List Int)(mS:Int)(aR:List Int):Option ((List Int)):=iter (fun w:Int×(List Int)=>wP cO cr cH iZ bd ga gj jM h8 fe eW an a7 w.1 w.2) (mS,aR)
theorem TR {cO:List bs}{cr:List bF}{cH:List Int}{iZ:List ez}{bd:Int}{ga:List Int}{gj:List (List Int)}{jM h8 fe eW:Int}{an a7:List Int}{mS:Int}{aR:List Int}:bV (wP cO cr cH iZ bd ga gj jM h8 fe eW an a7 mS aR) (fV bt 113 0 41 [1,1,1,1,0,1,0,0,1,1,0,0,1,1,0,0] (Gn cO cr cH iZ bd ga gj jM h8 fe eW an a7 (mS,aR)) (Gn cO cr cH iZ bd ga gj jM h8 fe eW an a7) (Gt cO cr cH iZ bd ga gj jM h8 fe eW an a7)):=by
 unfold wP
 exact .ite (fun o =>
  .bn fun J =>
  .ay fun aM aF =>
  .bn fun aJ =>
  .ay fun cy bJ =>
  .bn fun bu =>
  .bn fun c9 =>
  .ret (let aL:=U ((U (bd*eW))+mS);let bg:=U (aM.og*cy);bQ [(ad 1),.ap true,.aI (bL 2 (.cz (et aM)) 3),.aI (av 14 (aq (.cz (I cy)) (av 2 (aq .c4 [])))),(ad 2),.bm [0,1,2,3,4] [.box [.id,.id,.id,.id,.id],.box [.id,.id,.len ((aR.set (0+aL.toNat) bg).length),.id,.id],.dY (au 1 I (aR.set (0+aL.toNat) bg)),.pure,.pure] (bX [0,1,8,10,11,12,13,46,47,48,53,54,55])] (.bo o J.1 (eI et J.2) (cD et aF) aJ.1 (eI I aJ.2) (cD I bJ) bu.1 (.h6 bu.2 (hB I c9) (g8 1) (hg (fP aR) (0+aL.toNat) bg) (eB 1 .live (gi (ej I aR) (0+aL.toNat) bg)) (aD 1 .live aA (aR.set (0+aL.toNat) bg)) (aD 1 .live aA an) (aD 1 .live aA a7)))))
  (fun o =>
  .ret (bQ [(ad 1),.ap false,.bm [0,1,2,3,4] [.box [.id,.id,.id,.id,.id],.box [.id,.id,.id,.id,.id],.pure,.pure,.pure] (bX [0,1,8,10,11,46,47,48])] (.dh o (aD 1 .live aA aR) (aD 1 .live aA an) (aD 1 .live aA a7))))
theorem T2 {cO:List bs}{cr:List bF}{cH:List Int}{iZ:List ez}{bd:Int}{ga:List Int}{gj:List (List Int)}{jM h8 fe eW:Int}{an a7:List Int}{mS:Int}{aR:List Int}{r} (h:GH cO cr cH iZ bd ga gj jM h8 fe eW an a7 mS aR=some r):fW bt 113 0 41 [1,1,1,1,0,1,0,0,1,1,0,0,1,1,0,0] (Gn cO cr cH iZ bd ga gj jM h8 fe eW an a7) (Gt cO cr cH iZ bd ga gj jM h8 fe eW an a7) (mS,aR) r:=fZ (fun _=>TR) h
def Gp (cO:List bs)(cr:List bF)(cH:List Int)(iZ:List ez)(gj:List (List Int))(jM fe eW:Int)(an a7:List Int):(Int×(List Int))→S:=fun (oh,aR)=>fh [(0,.eh 2 [[.isl 4 (cO.map dk),.isl 3 (cr.map c3)]] 0 0),(1,.isl 1 (cH.map I)),(8,.ref 0 0 0 0),(10,.isl 2 (iZ.map et)),(11,.ref 1 0 0 0),(46,.isl 1 (gj.map (fi 1 I))),(47,.n .i64 jM),(48,.n .i64 oh)] [[ab.mk 5 [[.n .i64 (0:Int),.n .i64 (0:Int),.eP,.eP,.eP]] .live],[ab.mk 5 [(eJ fe eW 2 0 0 aR.length 3 0 0 an.length 4 0 0 a7.length)] .live],(au 1 I aR),(au 1 I an),(au 1 I a7)]
def Gu (cO:List bs)(cr:List bF)(cH:List Int)(iZ:List ez)(gj:List (List Int))(jM fe eW:Int)(an a7:List Int):(List Int)→fp
 | a=>⟨some 0,[(0,.eh 2 [[.isl 4 (cO.map dk),.isl 3 (cr.map c3)]] 0 0),(1,.isl 1 (cH.map I)),(8,.ref 0 0 0 0),(11,.ref 1 0 0 0)],[[ab.mk 5 [[.n .i64 (0:Int),.n .i64 (0:Int),.eP,.eP,.eP]] .live],[ab.mk 5 [(eJ fe eW 2 0 0 a.length 3 0 0 an.length 4 0 0 a7.length)] .live],(au 1 I a),(au 1 I an),(au 1 I a7)]⟩
def wQ (cO:List bs)(cr:List bF)(cH:List Int)(iZ:List ez)(gj:List (List Int))(jM fe eW:Int)(an a7:List Int)(oh:Int)(aR:List Int):Option ((Int×(List Int))⊕((List Int))) :=
 if (decide (oh<jM))=true then
  if 0≤oh∧oh<gj.length then
  gj[oh.toNat]? >>= fun aM =>
  GH cO cr cH iZ oh aM gj jM (len_ et iZ) fe eW an a7 0 aR >>= fun br =>
  some (.inl (U (oh+(1:Int)),br))
  else none
 else
  some (.inr aR)
def GI (cO:List bs)(cr:List bF)(cH:List Int)(iZ:List ez)(gj:List (List Int))(jM fe eW:Int)(an a7:List Int)(oh:Int)(aR:List Int):Option ((List Int)):=iter (fun w:Int×(List Int)=>wQ cO cr cH iZ gj jM fe eW an a7 w.1 w.2) (oh,aR)
theorem TS {cO:List bs}{cr:List bF}{cH:List Int}{iZ:List ez}{gj:List (List Int)}{jM fe eW:Int}{an a7:List Int}{oh:Int}{aR:List Int}:bV (wQ cO cr cH iZ gj jM fe eW an a7 oh aR) (fV bt 113 0 41 [1,1,1,1,0,1,0,0] (Gp cO cr cH iZ gj jM fe eW an a7 (oh,aR)) (Gp cO cr cH iZ gj jM fe eW an a7) (Gu cO cr cH iZ gj jM fe eW an a7)):=by
 unfold wQ
 exact .ite (fun o =>
  .bn fun J =>
  .ay fun aM aF =>
  .ay fun br bp =>
  .ret (bQ [(ad 1),.ap true,.aI (bL 2 (.cz ((fi 1 I) aM)) 2),(ad 3),.bm [0,1,2,3,4] [.box [.id,.id,.id,.id,.id],.box [.id,.id,.id,.id,.id],.pure,.pure,.pure] (bX [0,1,8,10,11,12,13,46,47,48,53,54,55]),(Gt cO cr cH iZ oh aM gj jM (len_ et iZ) fe eW an a7 br).gL,(ad 2),.bm [0,1,2,3,4] [.box [.id,.id,.id,.id,.id],.box [.id,.id,.id,.id,.id],.pure,.pure,.pure] (bX [0,1,8,10,11,46,47,48])] (.bo o J.1 (eI (fi 1 I) J.2) (cD (fi 1 I) aF) (aD 1 .live aA aR) (aD 1 .live aA an) (aD 1 .live aA a7) (T2 bp) (.cd (aD 1 .live aA br) (aD 1 .live aA an) (aD 1 .live aA a7)))))
  (fun o =>
  .ret (bQ [(ad 1),.ap false,.bm [0,1,2,3,4] [.box [.id,.id,.id,.id,.id],.box [.id,.id,.id,.id,.id],.pure,.pure,.pure] (bX [0,1,8,11])] (.dh o (aD 1 .live aA aR) (aD 1 .live aA an) (aD 1 .live aA a7))))
theorem T3 {cO:List bs}{cr:List bF}{cH:List Int}{iZ:List ez}{gj:List (List Int)}{jM fe eW:Int}{an a7:List Int}{oh:Int}{aR:List Int}{r} (h:GI cO cr cH iZ gj jM fe eW an a7 oh aR=some r):fW bt 113 0 41 [1,1,1,1,0,1,0,0] (Gp cO cr cH iZ gj jM fe eW an a7) (Gu cO cr cH iZ gj jM fe eW an a7) (oh,aR) r:=fZ (fun _=>TS) h
def Gq (cH oR:List Int)(pq fe eW:Int)(aR a7:List Int):(Int×(List Int))→S:=fun (lj,an)=>fh [(1,.isl 1 (cH.map I)),(8,.ref 0 0 0 0),(11,.ref 1 0 0 0),(80,.isl 1 (oR.map I)),(81,.n .i64 pq),(82,.n .i64 lj)] [[ab.mk 5 [[.n .i64 (0:Int),.n .i64 (0:Int),.eP,.eP,.eP]] .live],[ab.mk 5 [(eJ fe eW 2 0 0 aR.length 3 0 0 an.length 4 0 0 a7.length)] .live],(au 1 I aR),(au 1 I an),(au 1 I a7)]
def Gv (cH oR:List Int)(pq fe eW:Int)(aR a7:List Int):(List Int)→fp
 | a=>⟨some 4,[(8,.ref 0 0 0 0),(11,.ref 1 0 0 0)],[[ab.mk 5 [[.n .i64 (0:Int),.n .i64 (0:Int),.eP,.eP,.eP]] .live],[ab.mk 5 [(eJ fe eW 2 0 0 aR.length 3 0 0 a.length 4 0 0 a7.length)] .live],(au 1 I aR),(au 1 I a),(au 1 I a7)]⟩
def wR (cH oR:List Int)(pq fe eW:Int)(aR a7:List Int)(lj:Int)(an:List Int):Option ((Int×(List Int))⊕((List Int))) :=
 if (decide (lj<pq))=true then
  if 0≤lj∧lj<oR.length then
  oR[lj.toNat]? >>= fun aM =>
  if 0≤(U ((2:Int)*aM))∧(U ((2:Int)*aM))<cH.length then
  cH[(U ((2:Int)*aM)).toNat]? >>= fun cy =>
  if 0≤(U ((U ((2:Int)*aM))+(1:Int)))∧(U ((U ((2:Int)*aM))+(1:Int)))<cH.length then
  cH[(U ((U ((2:Int)*aM))+(1:Int))).toNat]? >>= fun gE =>
  if 0≤(U ((2:Int)*lj))∧(U ((2:Int)*lj))<(an.length:Nat) then
  if (0+(U ((2:Int)*lj)).toNat)<an.length then
  if 0≤(U ((U ((2:Int)*lj))+(1:Int)))∧(U ((U ((2:Int)*lj))+(1:Int)))<(an.length:Nat) then
  if (0+(U ((U ((2:Int)*lj))+(1:Int))).toNat)<(an.set (0+(U ((2:Int)*lj)).toNat) (U (0-cy))).length then
  some (.inl (U (lj+(1:Int)),(an.set (0+(U ((2:Int)*lj)).toNat) (U (0-cy))).set (0+(U ((U ((2:Int)*lj))+(1:Int))).toNat) (U (0-gE))))
  else none
  else none
  else none
  else none
  else none
  else none
  else none
 else
  some (.inr an)
def GJ (cH oR:List Int)(pq fe eW:Int)(aR a7:List Int)(lj:Int)(an:List Int):Option ((List Int)):=iter (fun w:Int×(List Int)=>wR cH oR pq fe eW aR a7 w.1 w.2) (lj,an)
theorem TT {cH oR:List Int}{pq fe eW:Int}{aR a7:List Int}{lj:Int}{an:List Int}:bV (wR cH oR pq fe eW aR a7 lj an) (fV bt 113 0 41 [1,1,1,1,1,0,1,0,0] (Gq cH oR pq fe eW aR a7 (lj,an)) (Gq cH oR pq fe eW aR a7) (Gv cH oR pq fe eW aR a7)):=by
 unfold wR
 exact .ite (fun o =>
  .bn fun J =>
  .ay fun aM aF =>
  .bn fun aJ =>
  .ay fun cy bJ =>
  .bn fun bu =>
  .ay fun gE da =>
  .bn fun c8 =>
  .bn fun eF =>
  .bn fun d4 =>
  .bn fun d8 =>
  .ret (let aL:=(U ((2:Int)*lj));let bg:=(U (aL+(1:Int)));let b1:=U (0-cy);let cI:=U (0-gE);bQ [(ad 1),.ap true,.aI (bL 2 (.cz (I aM)) 2),.aI (av 13 (aq (.cz (I cy)) (av 6 (aq (.cz (I gE)) (av 2 (aq .c4 (av 1 (aq .c4 [])))))))),(ad 2),.bm [0,1,2,3,4] [.box [.id,.id,.id,.id,.id],.box [.id,.id,.id,.len (((an.set (0+aL.toNat) b1).set (0+bg.toNat) cI).length),.id],.pure,.dY (au 1 I ((an.set (0+aL.toNat) b1).set (0+bg.toNat) cI)),.pure] (bX [1,8,11,80,81,82])] (.bo o J.1 (eI I J.2) (cD I aF) aJ.1 (eI I aJ.2) (cD I bJ) bu.1 (.bo (eI I bu.2) (cD I da) c8.1 c8.2 (hB I eF) (g8 1) d4.1 d4.2 (.fC (EN (gi (ej I an) (0+aL.toNat) b1) d8) (g8 1) (hg (hg (fP an) (0+aL.toNat) b1) (0+bg.toNat) cI) (aD 1 .live aA aR) (eB 1 .live (gi (gi (ej I an) (0+aL.toNat) b1) (0+bg.toNat) cI)) (aD 1 .live aA ((an.set (0+aL.toNat) b1).set (0+bg.toNat) cI)) (aD 1 .live aA a7))))))
  (fun o =>
  .ret (bQ [(ad 1),.ap false,.bm [0,1,2,3,4] [.box [.id,.id,.id,.id,.id],.box [.id,.id,.id,.id,.id],.pure,.pure,.pure] (bX [8,11])] (.dh o (aD 1 .live aA aR) (aD 1 .live aA an) (aD 1 .live aA a7))))
theorem T4 {cH oR:List Int}{pq fe eW:Int}{aR a7:List Int}{lj:Int}{an:List Int}{r} (h:GJ cH oR pq fe eW aR a7 lj an=some r):fW bt 113 0 41 [1,1,1,1,1,0,1,0,0] (Gq cH oR pq fe eW aR a7) (Gv cH oR pq fe eW aR a7) (lj,an) r:=fZ (fun _=>TT) h
def sK (aK:b4)(cH:List Int)(ob oJ:Int):Option (Int×Int×(List Int)×(List Int)×(List Int)) :=
 xd aK >>= fun ae =>
 sb aK >>= fun bl =>
 if 0≤(U ((U ((len_ (fi 1 I) ae)+oJ))*(U ((len_ et bl)+ob))))∧(8:Int)*(U ((U ((len_ (fi 1 I) ae)+oJ))*(U ((len_ et bl)+ob))))≤281474976710656∧(U ((U ((len_ (fi 1 I) ae)+oJ))*(U ((len_ et bl)+ob))))<9223372036854775808 then
 if 0≤(U ((len_ (fi 1 I) ae)+oJ))∧(8:Int)*(U ((len_ (fi 1 I) ae)+oJ))≤281474976710656∧(U ((len_ (fi 1 I) ae)+oJ))<9223372036854775808 then
 if 0≤(U ((len_ et bl)+ob))∧(8:Int)*(U ((len_ et bl)+ob))≤281474976710656∧(U ((len_ et bl)+ob))<9223372036854775808 then
 GI aK.cj aK.bz cH bl ae (len_ (fi 1 I) ae) (U ((len_ (fi 1 I) ae)+oJ)) (U ((len_ et bl)+ob)) (List.replicate (U ((len_ (fi 1 I) ae)+oJ)).toNat 0:List Int) (List.replicate (U ((len_ et bl)+ob)).toNat 0:List Int) 0 (List.replicate (U ((U ((len_ (fi 1 I) ae)+oJ))*(U ((len_ et bl)+ob)))).toNat 0:List Int) >>= fun ea =>
 uM aK >>= fun fb =>
 GJ cH fb (len_ I fb) (U ((len_ (fi 1 I) ae)+oJ)) (U ((len_ et bl)+ob)) ea (List.replicate (U ((len_ et bl)+ob)).toNat 0:List Int) 0 (List.replicate (U ((len_ (fi 1 I) ae)+oJ)).toNat 0:List Int) >>= fun fA =>
 some (U ((len_ (fi 1 I) ae)+oJ),U ((len_ et bl)+ob),ea,fA,(List.replicate (U ((len_ et bl)+ob)).toNat 0:List Int))
 else none
 else none
 else none
theorem CP {aK:b4}{cH:List Int}{ob oJ:Int}:bV (sK aK cH ob oJ) (fun a=>Con bt 41 [.eh 2 [(gf aK)] 0 0,.isl 1 (cH.map I),.n .i64 ob,.n .i64 oJ] [] (.agg (eJ a.1 a.2.1 0 0 0 a.2.2.1.length 0 1 0 a.2.2.2.1.length 0 2 0 a.2.2.2.2.length)) [[ab.mk 1 (a.2.2.1.map I) .live,ab.mk 1 (a.2.2.2.1.map I) .live,ab.mk 1 (a.2.2.2.2.map I) .live]]):=by
 unfold sK
 exact .ay fun ae J =>
  .ay fun bl aF =>
  .bn fun aJ =>
  .bn fun bp =>
  .bn fun bJ =>
  .ay fun ea c9 =>
  .ay fun fb c8 =>
  .ay fun fA d4 =>
  .ret (let bg:=U ((len_ (fi 1 I) ae)+oJ);let b1:=U ((len_ et bl)+ob);let aL:=(List.replicate b1.toNat 0:List Int);let cI:=(List.replicate bg.toNat 0:List Int);let gC:=aD 1 .live aA aL;let hq:=U (bg*b1);let eU:=(List.replicate hq.toNat 0:List Int);h2 [(ad 1),.aI (av 1 (aq (bC 1 (.isl 1 (ae.map (fi 1 I))) false) (bL 1 (bC 1 (.isl 2 (bl.map et)) false) 2))),(ad 11),(ad 18),(ad 3),.bm [0,16,23,26,29] [.box [.id,.id,.id,.id,.id],.box [.id,.id,.len (eU.length),.len (cI.length),.len (aL.length)],.dY (au 1 I eU),.dY (au 1 I cI),.dY (au 1 I aL)] (bX [0,1,8,10,11,46,47,48]),(Gu aK.cj aK.bz cH bl ae (len_ (fi 1 I) ae) bg b1 cI aL ea).gL,.aI (bL 1 (bC 1 (.isl 1 (fb.map I)) false) 2),.bm [0,1,2,3,4] [.box [.id,.id,.id,.id,.id],.box [.id,.id,.id,.id,.id],.pure,.pure,.pure] (bX [1,8,11,80,81,82]),(Gv cH fb (len_ I fb) bg b1 ea aL fA).gL,(ad 2),.vZ [{bc:=[(2,0),(3,0),(4,0)],c2:=none},{bc:=[(0,0)]}] [([.pure,.pure,.pure],none),([.box [.id,.id,.at_ 0 0 ea.length,.at_ 0 1 fA.length,.at_ 0 2 (aL.length)]],none)] [(8,.bE (.ck (.at_ 1 0 0)))]] [0] [.bB [ab.mk 1 (ea.map I) .live,ab.mk 1 (fA.map I) .live,ab.mk 1 (aL.map I) .live]] (.bo (Nd ae J) (xf bl aF) aJ.1 (Int.le_refl hq) aJ.2.1 aJ.2.2 bp.1 (Int.le_refl bg) (.bo bp.2.1 bp.2.2 bJ.1 (Int.le_refl b1) bJ.2.1 bJ.2.2 (kI hq.toNat (0:Int)) (kI bg.toNat (0:Int)) (.bo (kI b1.toNat (0:Int)) (eB 1 .live (kr I hq.toNat 0)) (aD 1 .live aA eU) (eB 1 .live (kr I bg.toNat 0)) (aD 1 .live aA cI) (eB 1 .live (kr I b1.toNat 0)) gC (T3 c9) (.bo (GX fb c8) (aD 1 .live aA ea) (aD 1 .live aA cI) gC (T4 d4) (aD 1 .live aA ea) (aD 1 .live aA fA) gC (.h6 (rfl:(ia [{bc:=[(2,0),(3,0),(4,0)],c2:=none},{bc:=[(0,0)]}]) 0 0=some (2,0)) (rfl:ea.length=ea.length) (rfl:(ia [{bc:=[(2,0),(3,0),(4,0)],c2:=none},{bc:=[(0,0)]}]) 0 1=some (3,0)) (rfl:fA.length=fA.length) (rfl:(ia [{bc:=[(2,0),(3,0),(4,0)],c2:=none},{bc:=[(0,0)]}]) 0 2=some (4,0)) (rfl:aL.length=aL.length) (rfl:(ia [{bc:=[(2,0),(3,0),(4,0)],c2:=none},{bc:=[(0,0)]}]) 1 0=some (0,0)) (fL (gR (di [0]) 1 ha ea) (fL (gR (di [0]) 1 ha fA) (fL (gR (di [0]) 1 ha aL) (l0 (cg:=(di [0]))))))))))) (.bE (.agg [.id,.id,.id,.id,.id])))
def xZ (A0:Int):Option Int :=
 if (A0 == (1:Int))=true then
  some 1
 else
  if (A0 == (2:Int))=true then
   some (-1)
  else
   some 0
theorem NR {A0:Int}:bV (xZ A0) (fun r=>Con bt 29 [.n .i64 A0] [] (.n .i64 r) []):=by
 unfold xZ
 exact (let t1:List cG:=[(ad 1),(ad 1),(ad 2)];
  .ite (fun o =>
  .ret (bY (t1.append [.ap true,(ad 1)]) (.aC o)))
  (fun o =>
  .ite (fun J =>
  .ret (bY (t1.append [.ap false,(ad 2),.ap true,(ad 1)]) (.aH o J)))
  (fun J =>
  .ret (bY (t1.append [.ap false,(ad 2),.ap false,(ad 1)]) (.aH o J)))))
def Gr (cO:List bs)(cr:List bF)(bd:Int)(ga:List Int)(dt:List (List Int))(hv pr fe eW:Int)(hH hN:List Int):(Int×(List Int))→S:=fun (nP,iE)=>fh [(0,.eh 2 [[.isl 4 (cO.map dk),.isl 3 (cr.map c3)]] 0 0),(2,.ref 0 0 0 0),(3,.ref 1 0 0 0),(4,.n .i64 bd),(5,.isl 1 (ga.map I)),(18,.isl 1 (dt.map (fi 1 I))),(19,.n .i64 hv),(20,.n .i64 bd),(28,.isl 3 (cr.map c3)),(29,.n .i64 pr),(30,.n .i64 nP)] [[ab.mk 5 [[.n .i64 (0:Int),.n .i64 (0:Int),.eP,.eP,.eP]] .live],[ab.mk 5 [(eJ fe eW 2 0 0 hH.length 2 1 0 iE.length 2 2 0 hN.length)] .live],[ab.mk 1 (hH.map I) .live,ab.mk 1 (iE.map I) .live,ab.mk 1 (hN.map I) .live]]
def Gw (cO:List bs)(cr:List bF)(bd:Int)(ga:List Int)(dt:List (List Int))(hv pr fe eW:Int)(hH hN:List Int):(List Int)→fp
 | a=>⟨some 2,[(0,.eh 2 [[.isl 4 (cO.map dk),.isl 3 (cr.map c3)]] 0 0),(2,.ref 0 0 0 0),(3,.ref 1 0 0 0),(18,.isl 1 (dt.map (fi 1 I))),(19,.n .i64 hv),(20,.n .i64 bd)],[[ab.mk 5 [[.n .i64 (0:Int),.n .i64 (0:Int),.eP,.eP,.eP]] .live],[ab.mk 5 [(eJ fe eW 2 0 0 hH.length 2 1 0 a.length 2 2 0 hN.length)] .live],[ab.mk 1 (hH.map I) .live,ab.mk 1 (a.map I) .live,ab.mk 1 (hN.map I) .live]]⟩
def wS (cO:List bs)(cr:List bF)(bd:Int)(ga:List Int)(dt:List (List Int))(hv pr fe eW:Int)(hH hN:List Int)(nP:Int)(iE:List Int):Option ((Int×(List Int))⊕((List Int))) :=
 if (decide (nP<pr))=true then
  if 0≤nP∧nP<cr.length then
  cr[nP.toNat]? >>= fun aM =>
  if 0≤bd∧bd<(iE.length:Nat) then
  iE[(0+bd.toNat)]? >>= fun cy =>
  if 0≤nP∧nP<ga.length then
  ga[nP.toNat]? >>= fun gE =>
  xZ aM.gr >>= fun cE =>
  if (0+bd.toNat)<iE.length then
  some (.inl (U (nP+(1:Int)),iE.set (0+bd.toNat) (U (cy-(U (gE*cE))))))
  else none
  else none
  else none
  else none
 else
  some (.inr iE)
def CQ (cO:List bs)(cr:List bF)(bd:Int)(ga:List Int)(dt:List (List Int))(hv pr fe eW:Int)(hH hN:List Int)(nP:Int)(iE:List Int):Option ((List Int)):=iter (fun w:Int×(List Int)=>wS cO cr bd ga dt hv pr fe eW hH hN w.1 w.2) (nP,iE)
theorem TU {cO:List bs}{cr:List bF}{bd:Int}{ga:List Int}{dt:List (List Int)}{hv pr fe eW:Int}{hH hN:List Int}{nP:Int}{iE:List Int}:bV (wS cO cr bd ga dt hv pr fe eW hH hN nP iE) (fV bt 53 0 26 [1,1,0,1,0,0,1,1,0,0,1,1,0,0] (Gr cO cr bd ga dt hv pr fe eW hH hN (nP,iE)) (Gr cO cr bd ga dt hv pr fe eW hH hN) (Gw cO cr bd ga dt hv pr fe eW hH hN)):=by
 unfold wS
 exact .ite (fun o =>
  .bn fun J =>
  .ay fun aM aF =>
  .bn fun aJ =>
  .ay fun cy bJ =>
  .bn fun bu =>
  .ay fun gE da =>
  .ay fun cE eF =>
  .bn fun d4 =>
  .ret (let aL:=U (cy-(U (gE*cE)));let bg:=di [0,1,2];bQ [(ad 1),.ap true,.aI (bL 2 (.cz (c3 aM)) 3),.aI (av 4 (aq (.cz (I cy)) (av 3 (aq (.cz (I gE)) (av 2 (aq (bC 1 (.n .i64 cE) true) (av 3 (aq .c4 [])))))))),(ad 2),.bm [0,1,2] [.box [.id,.id,.id,.id,.id],.box [.id,.id,.id,.len ((iE.set (0+bd.toNat) aL).length),.id],.bB [ab.mk 1 (hH.map I) .live,ab.mk 1 ((iE.set (0+bd.toNat) aL).map I) .live,ab.mk 1 (hN.map I) .live]] (bX [0,2,3,4,5,18,19,20,28,29,30])] (.bo o J.1 (eI c3 J.2) (cD c3 aF) aJ.1 aJ.2 (cD I bJ) bu.1 (.bo (eI I bu.2) (cD I da) (NR cE eF) (cl.n .i64 cE) aJ.1 aJ.2 (hB I d4) (g8 1) (.aH (hg (fP iE) (0+bd.toNat) aL) (fL (gR bg 1 ha hH) (fL (wB (cg:=bg) 1 .live I (gi (ej I iE) (0+bd.toNat) aL) (pS ha)) (fL (gR bg 1 ha hN) (l0 (cg:=bg))))))))))
  (fun o =>
  .ret (let b1:=di [0,1,2];bQ [(ad 1),.ap false,.bm [0,1,2] [.box [.id,.id,.id,.id,.id],.box [.id,.id,.id,.id,.id],.bB [ab.mk 1 (hH.map I) .live,ab.mk 1 (iE.map I) .live,ab.mk 1 (hN.map I) .live]] (bX [0,2,3,18,19,20])] (.aH o (fL (gR b1 1 ha hH) (fL (gR b1 1 ha iE) (fL (gR b1 1 ha hN) (l0 (cg:=b1))))))))
theorem T5 {cO:List bs}{cr:List bF}{bd:Int}{ga:List Int}{dt:List (List Int)}{hv pr fe eW:Int}{hH hN:List Int}{nP:Int}{iE:List Int}{r} (h:CQ cO cr bd ga dt hv pr fe eW hH hN nP iE=some r):fW bt 53 0 26 [1,1,0,1,0,0,1,1,0,0,1,1,0,0] (Gr cO cr bd ga dt hv pr fe eW hH hN) (Gw cO cr bd ga dt hv pr fe eW hH hN) (nP,iE) r:=fZ (fun _=>TU) h
def Gs (cO:List bs)(cr:List bF)(dt:List (List Int))(hv fe eW:Int)(hH hN:List Int):(Int×(List Int))→S:=fun (gU,iE)=>fh [(0,.eh 2 [[.isl 4 (cO.map dk),.isl 3 (cr.map c3)]] 0 0),(2,.ref 0 0 0 0),(3,.ref 1 0 0 0),(18,.isl 1 (dt.map (fi 1 I))),(19,.n .i64 hv),(20,.n .i64 gU)] [[ab.mk 5 [[.n .i64 (0:Int),.n .i64 (0:Int),.eP,.eP,.eP]] .live],[ab.mk 5 [(eJ fe eW 2 0 0 hH.length 2 1 0 iE.length 2 2 0 hN.length)] .live],[ab.mk 1 (hH.map I) .live,ab.mk 1 (iE.map I) .live,ab.mk 1 (hN.map I) .live]]
def Gx (cO:List bs)(cr:List bF)(dt:List (List Int))(hv fe eW:Int)(hH hN:List Int):(List Int)→fp
 | a=>⟨some 0,[(2,.ref 0 0 0 0),(3,.ref 1 0 0 0)],[[ab.mk 5 [[.n .i64 (0:Int),.n .i64 (0:Int),.eP,.eP,.eP]] .live],[ab.mk 5 [(eJ fe eW 2 0 0 hH.length 2 1 0 a.length 2 2 0 hN.length)] .live],[ab.mk 1 (hH.map I) .live,ab.mk 1 (a.map I) .live,ab.mk 1 (hN.map I) .live]]⟩
def wT (cO:List bs)(cr:List bF)(dt:List (List Int))(hv fe eW:Int)(hH hN:List Int)(gU:Int)(iE:List Int):Option ((Int×(List Int))⊕((List Int))) :=
 if (decide (gU<hv))=true then
  if 0≤gU∧gU<dt.length then
  dt[gU.toNat]? >>= fun aM =>
  CQ cO cr gU aM dt hv (len_ c3 cr) fe eW hH hN 0 iE >>= fun br =>
  some (.inl (U (gU+(1:Int)),br))
  else none
 else
  some (.inr iE)
def GK (cO:List bs)(cr:List bF)(dt:List (List Int))(hv fe eW:Int)(hH hN:List Int)(gU:Int)(iE:List Int):Option ((List Int)):=iter (fun w:Int×(List Int)=>wT cO cr dt hv fe eW hH hN w.1 w.2) (gU,iE)
theorem TV {cO:List bs}{cr:List bF}{dt:List (List Int)}{hv fe eW:Int}{hH hN:List Int}{gU:Int}{iE:List Int}:bV (wT cO cr dt hv fe eW hH hN gU iE) (fV bt 53 0 26 [1,1,0,1,0,0] (Gs cO cr dt hv fe eW hH hN (gU,iE)) (Gs cO cr dt hv fe eW hH hN) (Gx cO cr dt hv fe eW hH hN)):=by
 unfold wT
 exact .ite (fun o =>
  .bn fun J =>
  .ay fun aM aF =>
  .ay fun br bp =>
  .ret (let aL:=di [0,1,2];let bg:=fL (gR aL 1 ha hN) (l0 (cg:=aL));bQ [(ad 1),.ap true,.aI (bL 2 (.cz ((fi 1 I) aM)) 2),(ad 6),.bm [0,1,2] [.box [.id,.id,.id,.id,.id],.box [.id,.id,.id,.id,.id],.bB [ab.mk 1 (hH.map I) .live,ab.mk 1 (iE.map I) .live,ab.mk 1 (hN.map I) .live]] (bX [0,2,3,4,5,18,19,20,28,29,30]),(Gw cO cr gU aM dt hv (len_ c3 cr) fe eW hH hN br).gL,(ad 2),.bm [0,1,2] [.box [.id,.id,.id,.id,.id],.box [.id,.id,.id,.id,.id],.bB [ab.mk 1 (hH.map I) .live,ab.mk 1 (br.map I) .live,ab.mk 1 (hN.map I) .live]] (bX [0,2,3,18,19,20])] (.fC o J.1 (eI (fi 1 I) J.2) (cD (fi 1 I) aF) (fL (gR aL 1 ha hH) (fL (gR aL 1 ha iE) bg)) (T5 bp) (fL (gR aL 1 ha hH) (fL (gR aL 1 ha br) bg)))))
  (fun o =>
  .ret (let b1:=di [0,1,2];bQ [(ad 1),.ap false,.bm [0,1,2] [.box [.id,.id,.id,.id,.id],.box [.id,.id,.id,.id,.id],.bB [ab.mk 1 (hH.map I) .live,ab.mk 1 (iE.map I) .live,ab.mk 1 (hN.map I) .live]] (bX [2,3])] (.aH o (fL (gR b1 1 ha hH) (fL (gR b1 1 ha iE) (fL (gR b1 1 ha hN) (l0 (cg:=b1))))))))
theorem T6 {cO:List bs}{cr:List bF}{dt:List (List Int)}{hv fe eW:Int}{hH hN:List Int}{gU:Int}{iE:List Int}{r} (h:GK cO cr dt hv fe eW hH hN gU iE=some r):fW bt 53 0 26 [1,1,0,1,0,0] (Gs cO cr dt hv fe eW hH hN) (Gx cO cr dt hv fe eW hH hN) (gU,iE) r:=fZ (fun _=>TV) h
def w1 (aK:b4):Option (Int×Int×(List Int)×(List Int)×(List Int)) :=
 if 0≤(U ((2:Int)*(len_ dk aK.cj)))∧(8:Int)*(U ((2:Int)*(len_ dk aK.cj)))≤281474976710656∧(U ((2:Int)*(len_ dk aK.cj)))<9223372036854775808 then
 sK aK (List.replicate (U ((2:Int)*(len_ dk aK.cj))).toNat 0:List Int) 0 0 >>= fun bq =>
 xd aK >>= fun aw =>
 GK aK.cj aK.bz aw (len_ (fi 1 I) aw) bq.1 bq.2.1 bq.2.2.1 bq.2.2.2.2 0 bq.2.2.2.1 >>= fun bI =>
 some (bq.1,bq.2.1,bq.2.2.1,bI,bq.2.2.2.2)
 else none
theorem M9 {aK:b4}:bV (w1 aK) (fun a=>Con bt 26 [.eh 2 [(gf aK)] 0 0] [] (.agg (eJ a.1 a.2.1 0 0 0 a.2.2.1.length 0 1 0 a.2.2.2.1.length 0 2 0 a.2.2.2.2.length)) [[ab.mk 1 (a.2.2.1.map I) .live,ab.mk 1 (a.2.2.2.1.map I) .live,ab.mk 1 (a.2.2.2.2.map I) .live]]):=by
 unfold w1
 exact .bn fun o =>
  .ay fun bq af =>
  .ay fun aw aJ =>
  .ay fun bI bJ =>
  .ret (let aL:=(U ((2:Int)*(len_ dk aK.cj)));let bg:=di [0,10,9];let b1:=(List.replicate aL.toNat 0:List Int);h2 [(ad 1),.aI (bL 8 (.call {aO:=[],cu:=[],ac:=[ii,.bE (.ck (.gv (b1.map I))),ii,ii],r:= .agg (eJ bq.1 bq.2.1 0 0 0 bq.2.2.1.length 0 1 0 bq.2.2.2.1.length 0 2 0 bq.2.2.2.2.length),dg:=[[ab.mk 1 (bq.2.2.1.map I) .live,ab.mk 1 (bq.2.2.2.1.map I) .live,ab.mk 1 (bq.2.2.2.2.map I) .live]],eL:= .bE (.agg [.id,.id,.id,.id,.id]),fq:=[.bB [ab.mk 1 (bq.2.2.1.map I) .live,ab.mk 1 (bq.2.2.2.1.map I) .live,ab.mk 1 (bq.2.2.2.2.map I) .live]],dZ:=[8],dr:=true}) 2),.aI (bL 1 (bC 1 (.isl 1 (aw.map (fi 1 I))) false) 2),.bm [0,10,9] [.box [.id,.id,.id,.id,.id],.box [.id,.id,.id,.id,.id],.bB [ab.mk 1 (bq.2.2.1.map I) .live,ab.mk 1 (bq.2.2.2.1.map I) .live,ab.mk 1 (bq.2.2.2.2.map I) .live]] (bX [0,2,3,18,19,20]),(Gx aK.cj aK.bz aw (len_ (fi 1 I) aw) bq.1 bq.2.1 bq.2.2.1 bq.2.2.2.2 bI).gL,(ad 2)] [2] [.bB [ab.mk 1 (bq.2.2.1.map I) .live,ab.mk 1 (bI.map I) .live,ab.mk 1 (bq.2.2.2.2.map I) .live]] (.bo o.1 (Int.le_refl aL) o.2.1 o.2.2 (ms (kr I aL.toNat 0) (kI aL.toNat (0:Int))) (oK (kr I aL.toNat 0) (kI aL.toNat (0:Int))) (fs aA b1) (fL (gR (hR [9]) 1 ha bq.2.2.1) (fL (gR (hR [9]) 1 ha bq.2.2.2.1) (fL (gR (hR [9]) 1 ha bq.2.2.2.2) (l0 (cg:=(hR [9])))))) (.h6 ((j4 rfl (j4 rfl (j4 rfl vl))):mQ [ab.mk 1 (bq.2.2.1.map I) .live,ab.mk 1 (bq.2.2.2.1.map I) .live,ab.mk 1 (bq.2.2.2.2.map I) .live]) (CP bq af) (cl.agg (jx (cl.n .i64 bq.1) (jx (cl.n .i64 bq.2.1) (jx (cl.bx 0 0 0 bq.2.2.1.length) (jx (cl.bx 0 1 0 bq.2.2.2.1.length) (jx (cl.bx 0 2 0 bq.2.2.2.2.length) t0)))))) ((tS (mO (mA mR) (mO (mA mR) (mO (mA mR) tW))) tV):qt [[ab.mk 1 (bq.2.2.1.map I) .live,ab.mk 1 (bq.2.2.2.1.map I) .live,ab.mk 1 (bq.2.2.2.2.map I) .live]]) (Nd aw aJ) (fL (gR bg 1 ha bq.2.2.1) (fL (gR bg 1 ha bq.2.2.2.1) (fL (gR bg 1 ha bq.2.2.2.2) (l0 (cg:=bg))))) (T6 bJ) (fL (gR (di [2]) 1 ha bq.2.2.1) (fL (gR (di [2]) 1 ha bI) (fL (gR (di [2]) 1 ha bq.2.2.2.2) (l0 (cg:=(di [2])))))))) (.bE (.agg [.id,.id,.id,.id,.id])))
def HL:(Int×(List Int))→S:=fun (bh,ai)=>fh [(0,.n .u64 bh),(3,.bx 0 0 0 ai.length)] [(au 1 I ai)]
def H7:(List Int)→fp
 | a=>⟨some 0,[(3,.bx 0 0 0 a.length)],[(au 1 I a)]⟩
def xp (bh:Int)(ai:List Int):Option ((Int×(List Int))⊕((List Int))) :=
 if (decide ((0:Int)<bh))=true then
  if (ai++([IntKind.wrap .i64 (bh.tmod (1000000000:Int))]:List Int)).length*8≤140737488355328 then
  some (.inl (IntKind.wrap .u64 (bh.tdiv (1000000000:Int)),ai++([IntKind.wrap .i64 (bh.tmod (1000000000:Int))]:List Int)))
  else none
 else
  some (.inr ai)
def I2 (bh:Int)(ai:List Int):Option ((List Int)):=iter (fun w:Int×(List Int)=>xp w.1 w.2) (bh,ai)
theorem U0 {bh:Int}{ai:List Int}:bV (xp bh ai) (fV bt 15 0 95 [1,1,0,0,0] (HL (bh,ai)) (HL) (H7)):=by
 unfold xp
 exact .ite (fun o =>
  .bn fun J =>
  .ret (let aL:=(ai++([(IntKind.wrap .i64 (bh.tmod (1000000000:Int)))]:List Int));bQ [(ad 2),.ap true,.aI (bL 5 (.a1 (aL.length)) 1),(ad 3),.bm [8] [.dY (au 1 I aL)] (bX [0,3])] (.bo o (by decide:(1000000000:Int)≠0) (mi I (IntKind.wrap .i64 (bh.tmod (1000000000:Int)))) (qF I ai) (n7 I ai (IntKind.wrap .i64 (bh.tmod (1000000000:Int)))) J (by decide:(1000000000:Int)≠0) (eB 1 .live (qG I ai (IntKind.wrap .i64 (bh.tmod (1000000000:Int))))) (.aC (aD 1 .live aA aL)))))
  (fun o =>
  .ret (bQ [(ad 2),.ap false,.bm [0] [.pure] (bX [3])] (.aH o (aD 1 .live aA ai))))
theorem VR {bh:Int}{ai:List Int}{r} (h:I2 bh ai=some r):fW bt 15 0 95 [1,1,0,0,0] (HL) (H7) (bh,ai) r:=fZ (fun _=>U0) h
def u3 (bh:Int):Option (List Int) :=
 I2 bh ([]:List Int) >>= fun ae =>
 some ae
theorem I3 {bh:Int}:bV (u3 bh) (fun r=>Con bt 95 [.n .u64 bh] [] (.isl 1 (r.map I)) []):=by
 unfold u3
 exact .ay fun ae J =>
  .ret (bY [(ad 1),(ad 1),.su 3 1,.bm [2] [.dY (au 1 I ([]:List Int))] [(0,ii),(3,gz (([]:List Int).length))],(H7 ae).gL,(ad 2)] (.fC (eB 1 .live (r4 I)) (aD 1 .live aA ([]:List Int)) (mL Int) (VR J) (ki I ae) (jw I ae) (fs aA ae)) (.bE (.ck (.gv (ae.map I)))))
def lL (E4:Bool)(yT:List Int):Option bf :=
 if E4=true then
  some (⟨(decide ((0:Int)<(len_ I yT))),yT⟩:bf)
 else
  some (⟨false,yT⟩:bf)
theorem sf {E4:Bool}{yT:List Int}:bV (lL E4 yT) (fun r=>Con bt 94 [.b E4,.isl 1 (yT.map I)] [] (.agg (aU r)) []):=by
 unfold lL
 exact .ite (fun o =>
  .ret (bY [(ad 1),.aI (bL 5 (.ap true) 3)] (.dh o o o o)))
  (fun o =>
  .ret (bY [(ad 1),.aI (av 2 (dm 3 (aq (.ap false) (av 3 []))))] (.dh o o o o)))
def oI (bh:Int):Option bf :=
 if (decide (bh<(0:Int)))=true then
  u3 (IntKind.wrap .u64 ((IntKind.wrap .u64 (U (0-(U (bh+(1:Int))))))+(1:Int))) >>= fun bq =>
  lL true bq >>= fun aw =>
  some aw
 else
  u3 (IntKind.wrap .u64 bh) >>= fun bq =>
  lL false bq >>= fun aw =>
  some aw
theorem sd {bh:Int}:bV (oI bh) (fun r=>Con bt 63 [.n .i64 bh] [] (.agg (aU r)) []):=by
 unfold oI
 exact .ite (fun o =>
  .ay fun bq af =>
  .ay fun aw aJ =>
  .ret (bY [(ad 1),(ad 2),.ap true,.aI (av 5 (aq (bC 1 (.isl 1 (bq.map I)) false) (aq (bC 2 (.agg (aU aw)) false) (av 1 []))))] (.cd o (I3 bq af) (sf aw aJ))))
  (fun o =>
  .ay fun bq af =>
  .ay fun aw aJ =>
  .ret (bY [(ad 1),(ad 2),.ap false,.aI (av 2 (aq (bC 1 (.isl 1 (bq.map I)) false) (aq (bC 2 (.agg (aU aw)) false) (av 1 []))))] (.cd o (I3 bq af) (sf aw aJ))))
def xH (bd b5 cC:Int)(b6 dl dc:List Int):Option (Nat×Nat) :=
 if 0≤(U (bd*cC)) then
 if 0≤(U ((U (bd+(1:Int)))*cC)) then
 if (U (bd*cC)).toNat≤(U ((U (bd+(1:Int)))*cC)).toNat∧(U ((U (bd+(1:Int)))*cC)).toNat≤b6.length then
 some ((0+(U (bd*cC)).toNat),((U ((U (bd+(1:Int)))*cC)).toNat-(U (bd*cC)).toNat))
 else none
 else none
 else none
theorem Nv {bd b5 cC:Int}{b6 dl dc:List Int}:bV (xH bd b5 cC b6 dl dc) (fun a=>Con bt 64 [.ref 0 0 0 0,.n .i64 bd] [[ab.mk 5 [(eJ b5 cC 1 0 0 b6.length 2 0 0 dl.length 3 0 0 dc.length)] .live],(au 1 I b6),(au 1 I dl),(au 1 I dc)] (.bx 1 0 a.1 a.2) [[ab.mk 5 [(eJ b5 cC 1 0 0 b6.length 2 0 0 dl.length 3 0 0 dc.length)] .live],(au 1 I b6),(au 1 I dl),(au 1 I dc)]):=by
 unfold xH
 exact .bn fun o =>
  .bn fun J =>
  .bn fun af =>
  .ret (let aL:=eJ b5 cC 1 0 0 b6.length 2 0 0 dl.length 3 0 0 dc.length;h2 [(ad 1),(ad 19)] [0,1,2,3] [.bB [ab.mk 5 [aL] .live],.pure,.pure,.pure] (.h6 o J af.1 af.2 (hr (di [0,1,2,3]) 5 [aL] [aL] rfl) (aD 1 .live aA b6) (aD 1 .live aA dl) (aD 1 .live aA dc)))
def I4 (aK:List Int)(dd e1:Int):Int→S:=fun fa=>fh [(0,.isl 1 (aK.map I)),(1,.n .i64 dd),(7,.n .i64 e1),(8,.n .i64 fa)] []
def N4 (aK:List Int)(dd e1:Int):((Unit)⊕(Int))→fp
 | .inl a=>⟨some 0,[],[]⟩
 | .inr a=>⟨none,[(4,.n .i64 a)],[]⟩
def xQ (aK:List Int)(dd e1 fa:Int):Option ((Int)⊕((Unit)⊕(Int))) :=
 if (decide (fa<e1))=true then
  if 0≤fa∧fa<aK.length then
  aK[fa.toNat]? >>= fun aM =>
  if (dd == aM)=true then
   some (.inr (.inr fa))
  else
   some (.inl (U (fa+(1:Int))))
  else none
 else
  some (.inr (.inl ()))
def JL (aK:List Int)(dd e1 fa:Int):Option ((Unit)⊕(Int)):=iter (fun w:Int=>xQ aK dd e1 w) fa
theorem VS {aK:List Int}{dd e1 fa:Int}:bV (xQ aK dd e1 fa) (fV bt 19 0 115 [1,0,1,0,0] (I4 aK dd e1 fa) (I4 aK dd e1) (N4 aK dd e1)):=by
 unfold xQ
 exact .ite (fun o =>
  .bn fun J =>
  .ay fun aM aF =>
  (let t1:List cG:=[(ad 1),.ap true,(ad 2),.aI (bL 4 (.cz (I aM)) 1)];
  have a5:=((.dh o J.1 (eI I J.2) (cD I aF)):cW _);
  .ite (fun aJ =>
  .ret (bQ (t1.append [.ap true,(ad 2),.bm [] [] (bX [4])]) (a5.a1 (.aC aJ))))
  (fun aJ =>
  .ret (bQ (t1.append [.ap false,(ad 2),.bm [] [] (bX [0,1,7,8])]) (a5.a1 (.aC aJ))))))
  (fun o =>
  .ret (bQ [(ad 1),.ap false,.bm [] [] []] (.aC o)))
theorem Od {aK:List Int}{dd e1 fa:Int}{r} (h:JL aK dd e1 fa=some r):fW bt 19 0 115 [1,0,1,0,0] (I4 aK dd e1) (N4 aK dd e1) fa r:=fZ (fun _=>VS) h
def ED (aK:List Int)(dd:Int):Option Int :=
 JL aK dd (len_ I aK) 0 >>= fun ae =>
 match ae with
 | .inl bN=>(some (-1))
 | .inr bN=>(some bN)
theorem XL {aK:List Int}{dd:Int}:bV (ED aK dd) (fun r=>Con bt 115 [.isl 1 (aK.map I),.n .i64 dd] [] (.n .i64 r) []):=by
 unfold ED
 exact .ay fun ae J =>
  (let t1:List cG:=[(ad 1),(ad 3),.bm [] [] (bX [0,1,7,8])];
  (by
  rcases ae with bN|bN
  ·exact (.ret (bY (t1.append [.sub (.exit 0) [] [],(ad 1)]) (.aC (Od J))))
  ·exact (.ret (bY (t1.append [.sub (.ret) [(4,.n .i64 bN)] []]) (.aC (Od J))))))
def yc (aK:List Int)(dd:Int):Option Bool :=
 ED aK dd >>= fun ae =>
 some (decide ((0:Int)≤ae))
theorem Oe {aK:List Int}{dd:Int}:bV (yc aK dd) (fun r=>Con bt 96 [.isl 1 (aK.map I),.n .i64 dd] [] (.b r) []):=by
 unfold yc
 exact .ay fun ae J =>
  .ret (bY [(ad 1),.aI (bL 2 (bC 2 (.n .i64 ae) true) 2)] (.aH (XL ae J) (cl.n .i64 ae)))
def IF:(List Int)→S:=fun a9=>fh [(0,.isl 1 (a9.map I))] []
def IU:(List Int)→fp
 | a=>⟨some 0,[(0,.isl 1 (a.map I))],[]⟩
def xL (a9:List Int):Option (((List Int))⊕((List Int))) :=
 if (decide ((0:Int)<(len_ I a9)))=true then
  if 0≤(U ((len_ I a9)-(1:Int)))∧(U ((len_ I a9)-(1:Int)))<a9.length then
  a9[(U ((len_ I a9)-(1:Int))).toNat]? >>= fun aM =>
  if (aM == (0:Int))=true then
   if 0≤(U ((len_ I a9)-(1:Int))) then
   if 0≤(U ((len_ I a9)-(1:Int))).toNat∧(U ((len_ I a9)-(1:Int))).toNat≤a9.length then
   some (.inl ((a9.drop 0).take ((U ((len_ I a9)-(1:Int))).toNat-0)))
   else none
   else none
  else
   some (.inr a9)
  else none
 else
  some (.inr a9)
def Jt (a9:List Int):Option ((List Int)):=iter (fun w:(List Int)=>xL w) a9
theorem VA {a9:List Int}:bV (xL a9) (fV bt 21 0 114 [1,0,0,0] (IF a9) (IF) (IU)):=by
 unfold xL
 exact .ite (fun o =>
  .bn fun J =>
  .ay fun aM aF =>
  (let t1:List cG:=[.aI (av 9 (aq (.cz (I aM)) (av 1 (aq (.ap true) []))))];
  have a5:=((.bo o o o o o J.1 (eI I J.2) o (.cd (cD I aF) o o)):cW _);
  .ite (fun aJ =>
  .bn fun bp =>
  .bn fun bJ =>
  .ret (let aL:=(U ((len_ I a9)-(1:Int)));bQ (t1.append [.ap true,(ad 6),.bm [] [] [(0,.bE (.ck (.dY (.isl 1 (((a9.drop 0).take (aL.toNat-0)).map I)))))]]) (a5.a1 (.eR aJ bp bJ.1 (s3 (ej I a9) bJ.2) (congrArg (aB.isl 1) (oM (ej I a9) 0 (aL.toNat-0)):(.isl 1 (((a9.map I).drop 0).take (aL.toNat-0)):aB) = .isl 1 (((a9.drop 0).take (aL.toNat-0)).map I))))))
  (fun aJ =>
  .ret (bQ (t1.append [.ap false,.bm [] [] (bX [0])]) (a5.a1 (.aC aJ))))))
  (fun o =>
  .ret (bQ [.aI (av 4 (dm 7 (aq (.ap false) []))),.ap false,.bm [] [] (bX [0])] (.bo o o o o o o o o (.aC fv))))
theorem Ww {a9:List Int}{r} (h:Jt a9=some r):fW bt 21 0 114 [1,0,0,0] (IF) (IU) a9 r:=fZ (fun _=>VA) h
def qN (a9:List Int):Option (List Int) :=
 Jt a9 >>= fun ae =>
 some ae
theorem u4 {a9:List Int}:bV (qN a9) (fun r=>Con bt 114 [.isl 1 (a9.map I)] [] (.isl 1 (r.map I)) []):=by
 unfold qN
 exact .ay fun ae J =>
  .ret (bY [(ad 1),.bm [] [] (bX [0]),(IU ae).gL,(ad 2)] (.aC (Ww J)))
def Is (a8:List Int)(bd bh:Int)(eA:List Int)(eN eu:Int):(Int×Int×(List Int))→S:=fun (eV,dU,ai)=>fh [(1,.isl 1 (a8.map I)),(5,.bx 0 0 0 ai.length),(6,.n .i64 bd),(7,.n .i64 bh),(8,.n .i64 eV),(26,.isl 1 (eA.map I)),(27,.n .i64 eN),(28,.n .i64 bd),(33,.isl 1 (a8.map I)),(34,.n .i64 eu),(35,.n .i64 dU)] [(au 1 I ai)]
def IG (a8:List Int)(bd bh:Int)(eA:List Int)(eN eu:Int):(Int×(List Int))→fp
 | a=>⟨some 2,[(1,.isl 1 (a8.map I)),(5,.bx 0 0 0 a.2.length),(6,.n .i64 bd),(8,.n .i64 a.1),(26,.isl 1 (eA.map I)),(27,.n .i64 eN),(28,.n .i64 bd)],[(au 1 I a.2)]⟩
def It (a8:List Int)(bd bh:Int)(eA:List Int)(eN eu eV dU:Int)(ai:List Int):Option ((Int×Int×(List Int))⊕(Int×(List Int))) :=
 if (decide (dU<eu))=true then
  if 0≤dU∧dU<a8.length then
  a8[dU.toNat]? >>= fun aM =>
  if 0≤(U (bd+dU))∧(U (bd+dU))<(ai.length:Nat) then
  ai[(0+(U (bd+dU)).toNat)]? >>= fun cy =>
  if (0+(U (bd+dU)).toNat)<ai.length then
  some (.inl (U ((U ((U (cy+(U (bh*aM))))+eV)).tdiv (1000000000:Int)),U (dU+(1:Int)),ai.set (0+(U (bd+dU)).toNat) ((U ((U (cy+(U (bh*aM))))+eV)).tmod (1000000000:Int))))
  else none
  else none
  else none
 else
  some (.inr (eV,ai))
def Of (a8:List Int)(bd bh:Int)(eA:List Int)(eN eu eV dU:Int)(ai:List Int):Option (Int×(List Int)):=iter (fun w:Int×Int×(List Int)=>It a8 bd bh eA eN eu w.1 w.2.1 w.2.2) (eV,dU,ai)
theorem Vt {a8:List Int}{bd bh:Int}{eA:List Int}{eN eu eV dU:Int}{ai:List Int}:bV (It a8 bd bh eA eN eu eV dU ai) (fV bt 72 0 93 [1,1,1,0,1,0,0,1,1,0,0,1,1,0,1,0,0] (Is a8 bd bh eA eN eu (eV,dU,ai)) (Is a8 bd bh eA eN eu) (IG a8 bd bh eA eN eu)):=by
 unfold It
 exact .ite (fun o =>
  .bn fun J =>
  .ay fun aM aF =>
  .bn fun aJ =>
  .ay fun cy bJ =>
  .bn fun bu =>
  .ret (let aL:=U ((U (cy+(U (bh*aM))))+eV);let bg:=U (bd+dU);bQ [(ad 1),.ap true,.aI (bL 2 (.cz (I aM)) 2),.aI (bL 5 (.cz (I cy)) 7),.aI (bL 9 .c4 1),(ad 2),.bm [0] [.dY (au 1 I (ai.set (0+bg.toNat) (aL.tmod (1000000000:Int))))] [(1,ii),(5,gz ((ai.set (0+bg.toNat) (aL.tmod (1000000000:Int))).length)),(6,ii),(7,ii),(8,ii),(26,ii),(27,ii),(28,ii),(33,ii),(34,ii),(35,ii)]] (.bo o J.1 (eI I J.2) (cD I aF) aJ.1 aJ.2 (cD I bJ) (by decide:(1000000000:Int)≠0) (.h6 (by decide:(1000000000:Int)≠0) aJ.1 aJ.2 (hB I bu) (g8 1) (eB 1 .live (gi (ej I ai) (0+bg.toNat) (aL.tmod (1000000000:Int)))) (aD 1 .live aA (ai.set (0+bg.toNat) (aL.tmod (1000000000:Int)))) (hg (fP ai) (0+bg.toNat) (aL.tmod (1000000000:Int)))))))
  (fun o =>
  .ret (bQ [(ad 1),.ap false,.bm [0] [.pure] (bX [1,5,6,8,26,27,28])] (.aH o (aD 1 .live aA ai))))
theorem Wm {a8:List Int}{bd bh:Int}{eA:List Int}{eN eu eV dU:Int}{ai:List Int}{r} (h:Of a8 bd bh eA eN eu eV dU ai=some r):fW bt 72 0 93 [1,1,1,0,1,0,0,1,1,0,0,1,1,0,1,0,0] (Is a8 bd bh eA eN eu) (IG a8 bd bh eA eN eu) (eV,dU,ai) r:=fZ (fun _=>Vt) h
def Iu (a8 eA:List Int)(eN:Int):(Int×(List Int))→S:=fun (gG,ai)=>fh [(1,.isl 1 (a8.map I)),(5,.bx 0 0 0 ai.length),(26,.isl 1 (eA.map I)),(27,.n .i64 eN),(28,.n .i64 gG)] [(au 1 I ai)]
def IH (a8 eA:List Int)(eN:Int):(List Int)→fp
 | a=>⟨some 0,[(5,.bx 0 0 0 a.length)],[(au 1 I a)]⟩
def Iv (a8 eA:List Int)(eN gG:Int)(ai:List Int):Option ((Int×(List Int))⊕((List Int))) :=
 if (decide (gG<eN))=true then
  if 0≤gG∧gG<eA.length then
  eA[gG.toNat]? >>= fun aM =>
  Of a8 gG aM eA eN (len_ I a8) 0 0 ai >>= fun br =>
  if 0≤(U (gG+(len_ I a8)))∧(U (gG+(len_ I a8)))<(br.2.length:Nat) then
  if (0+(U (gG+(len_ I a8))).toNat)<br.2.length then
  some (.inl (U (gG+(1:Int)),br.2.set (0+(U (gG+(len_ I a8))).toNat) br.1))
  else none
  else none
  else none
 else
  some (.inr ai)
def Jj (a8 eA:List Int)(eN gG:Int)(ai:List Int):Option ((List Int)):=iter (fun w:Int×(List Int)=>Iv a8 eA eN w.1 w.2) (gG,ai)
theorem Vu {a8 eA:List Int}{eN gG:Int}{ai:List Int}:bV (Iv a8 eA eN gG ai) (fV bt 72 0 93 [1,1,1,0,1,0,0] (Iu a8 eA eN (gG,ai)) (Iu a8 eA eN) (IH a8 eA eN)):=by
 unfold Iv
 exact .ite (fun o =>
  .bn fun J =>
  .ay fun aM aF =>
  .ay fun br bp =>
  .bn fun bJ =>
  .bn fun bu =>
  .ret (let aL:=U (gG+(len_ I a8));bQ [(ad 1),.ap true,.aI (bL 2 (.cz (I aM)) 2),(ad 1),(ad 3),.bm [0] [.pure] (bX [1,5,6,7,8,26,27,28,33,34,35]),(IG a8 gG aM eA eN (len_ I a8) br).gL,.aI (av 7 (aq .c4 [])),(ad 2),.bm [0] [.dY (au 1 I (br.2.set (0+aL.toNat) br.1))] [(1,ii),(5,gz ((br.2.set (0+aL.toNat) br.1).length)),(26,ii),(27,ii),(28,ii)]] (.bo o J.1 (eI I J.2) (cD I aF) (aD 1 .live aA ai) (Wm bp) bJ.1 bJ.2 (.eR (hB I bu) (g8 1) (eB 1 .live (gi (ej I br.2) (0+aL.toNat) br.1)) (aD 1 .live aA (br.2.set (0+aL.toNat) br.1)) (hg (fP br.2) (0+aL.toNat) br.1)))))
  (fun o =>
  .ret (bQ [(ad 1),.ap false,.bm [0] [.pure] (bX [5])] (.aH o (aD 1 .live aA ai))))
theorem Wn {a8 eA:List Int}{eN gG:Int}{ai:List Int}{r} (h:Jj a8 eA eN gG ai=some r):fW bt 72 0 93 [1,1,1,0,1,0,0] (Iu a8 eA eN) (IH a8 eA eN) (gG,ai) r:=fZ (fun _=>Vu) h
def qM (a9 a8:List Int):Option (List Int) :=
 if ((len_ I a9) == (0:Int))=true then
  some ([]:List Int)
 else
  if ((len_ I a8) == (0:Int))=true then
   some ([]:List Int)
  else
   if 0≤(U ((len_ I a9)+(len_ I a8)))∧(8:Int)*(U ((len_ I a9)+(len_ I a8)))≤281474976710656∧(U ((len_ I a9)+(len_ I a8)))<9223372036854775808 then
   Jj a8 a9 (len_ I a9) 0 (List.replicate (U ((len_ I a9)+(len_ I a8))).toNat 0:List Int) >>= fun aw =>
   qN aw >>= fun bI =>
   some bI
   else none
theorem DO {a9 a8:List Int}:bV (qM a9 a8) (fun r=>Con bt 93 [.isl 1 (a9.map I),.isl 1 (a8.map I)] [] (.isl 1 (r.map I)) []):=by
 unfold qM
 exact .ite (fun o =>
  .ret (bY [(ad 1),.aI (av 4 (dm 3 (aq (.ap true) []))),.ap true,(ad 1)] (.eR o o o o cV) (.bE (.ck (.hh 1)))))
  (fun o =>
  (let t1:List cG:=[(ad 1),.aI (av 7 (aq (.ap false) []))];
  .ite (fun J =>
  .ret (bY (t1.append [.ap true,(ad 1)]) (.eR o o o o J) (.bE (.ck (.hh 1)))))
  (fun J =>
  .bn fun af =>
  .ay fun aw aJ =>
  .ay fun bI bJ =>
  .ret (let aL:=U ((len_ I a9)+(len_ I a8));let bg:=(List.replicate aL.toNat 0:List Int);bY (t1.append [.ap false,(ad 7),(ad 3),.bm [14] [.dY (au 1 I bg)] [(1,ii),(5,gz (bg.length)),(26,ii),(27,ii),(28,ii)],(IH a8 a9 (len_ I a9) aw).gL,.h9 0,.aI (bL 1 (.call {ac:=[.bE (.ck (.gv (aw.map I)))],r:= .isl 1 (bI.map I),dr:=false,dZ:=[0]}) 1)]) (.bo o o o o J af.1 (Int.le_refl aL) af.2.1 (.bo af.2.2 (eB 1 .live (kr I aL.toNat 0)) (aD 1 .live aA bg) (kI aL.toNat (0:Int)) (Wn aJ) (ki I aw) (jw I aw) (fs aA aw) (.aC (u4 bI bJ))))))))
def o7 (b3 el:bf):Option bf :=
 qM b3.cN el.cN >>= fun ae =>
 lL (!(b3.db == el.db)) ae >>= fun bl =>
 some bl
theorem uP {b3 el:bf}:bV (o7 b3 el) (fun r=>Con bt 110 [.agg (aU b3),.agg (aU el)] [] (.agg (aU r)) []):=by
 unfold o7
 exact .ay fun ae J =>
  .ay fun bl aF =>
  .ret (bY [(ad 3),.aI (av 9 (aq (bC 2 (.isl 1 (ae.map I)) false) (aq (bC 2 (.agg (aU bl)) false) (av 1 []))))] (.aH (DO ae J) (sf bl aF)))
def o9 (b3:bf):Option Int :=
 if ((len_ I b3.cN) == (0:Int))=true then
  some 0
 else
  if b3.db=true then
   some (-1)
  else
   some 1
theorem sM {b3:bf}:bV (o9 b3) (fun r=>Con bt 66 [.agg (aU b3)] [] (.n .i64 r) []):=by
 unfold o9
 exact .ite (fun o =>
  .ret (bY [(ad 2),(ad 5),.ap true,(ad 1)] (.aC o)))
  (fun o =>
  (let t1:List cG:=[(ad 2),(ad 5),.ap false,(ad 3)];
  .ite (fun J =>
  .ret (bY (t1.append [.ap true,(ad 1)]) (.aH o J)))
  (fun J =>
  .ret (bY (t1.append [.ap false,(ad 1)]) (.aH o J)))))
def p9 (b3:bf):Option bf :=
 lL (!b3.db) b3.cN >>= fun ae =>
 some ae
theorem C1 {b3:bf}:bV (p9 b3) (fun r=>Con bt 111 [.agg (aU b3)] [] (.agg (aU r)) []):=by
 unfold p9
 exact .ay fun ae J =>
  .ret (bY [(ad 2),.aI (bL 5 (bC 2 (.agg (aU ae)) false) 1)] (.aC (sf ae J)))
def HM (a9 a8:List Int):Int→S:=fun bd=>fh [(0,.isl 1 (a9.map I)),(1,.isl 1 (a8.map I)),(5,.n .i64 bd)] []
def NB (a9 a8:List Int):((Unit)⊕(Int))→fp
 | .inl a=>⟨some 0,[],[]⟩
 | .inr a=>⟨none,[(4,.n .i64 a)],[]⟩
def HN (a9 a8:List Int)(bd:Int):Option ((Int)⊕((Unit)⊕(Int))) :=
 if (decide ((0:Int)≤bd))=true then
  if 0≤bd∧bd<a9.length then
  a9[bd.toNat]? >>= fun aM =>
  if 0≤bd∧bd<a8.length then
  a8[bd.toNat]? >>= fun cy =>
  if (decide (aM<cy))=true then
   some (.inr (.inr (-1)))
  else
   if (decide (cy<aM))=true then
    some (.inr (.inr 1))
   else
    some (.inl (U (bd-(1:Int))))
  else none
  else none
 else
  some (.inr (.inl ()))
def NX (a9 a8:List Int)(bd:Int):Option ((Unit)⊕(Int)):=iter (fun w:Int=>HN a9 a8 w) bd
theorem U1 {a9 a8:List Int}{bd:Int}:bV (HN a9 a8 bd) (fV bt 43 0 103 [1,1,0,1,0,0] (HM a9 a8 bd) (HM a9 a8) (NB a9 a8)):=by
 unfold HN
 exact .ite (fun o =>
  .bn fun J =>
  .ay fun aM aF =>
  .bn fun aJ =>
  .ay fun cy bJ =>
  (let t1:List cG:=[(ad 2),.ap true,.aI (av 3 (aq (.cz (I aM)) (bL 3 (.cz (I cy)) 2)))];
  have a5:=((.fC o J.1 (eI I J.2) (cD I aF) aJ.1 (eI I aJ.2) (cD I bJ)):cW _);
  .ite (fun bu =>
  .ret (bQ (t1.append [.ap true,(ad 1),.bm [] [] (bX [4])]) (a5.a1 (.aC bu))))
  (fun bu =>
  (let t3:List cG:=t1.append [.ap false,.aI (av 3 (aq (.cz (I aM)) (bL 3 (.cz (I cy)) 2)))];
  have fI:=a5.a1 (.fC bu J.1 (eI I J.2) (cD I aF) aJ.1 (eI I aJ.2) (cD I bJ));
  .ite (fun c9 =>
  .ret (bQ (t3.append [.ap true,(ad 1),.bm [] [] (bX [4])]) (fI.a1 (.aC c9))))
  (fun c9 =>
  .ret (bQ (t3.append [.ap false,(ad 3),.bm [] [] (bX [0,1,5])]) (fI.a1 (.aC c9))))))))
  (fun o =>
  .ret (bQ [(ad 2),.ap false,.bm [] [] []] (.aC o)))
theorem NG {a9 a8:List Int}{bd:Int}{r} (h:NX a9 a8 bd=some r):fW bt 43 0 103 [1,1,0,1,0,0] (HM a9 a8) (NB a9 a8) bd r:=fZ (fun _=>U1) h
def qb (a9 a8:List Int):Option Int :=
 if ((len_ I a9) != (len_ I a8))=true then
  if (decide ((len_ I a9)<(len_ I a8)))=true then
   some (-1)
  else
   some 1
 else
  NX a9 a8 (U ((len_ I a9)-(1:Int))) >>= fun bq =>
  match bq with
  | .inl gH=>(some 0)
  | .inr gH=>(some gH)
theorem xR {a9 a8:List Int}:bV (qb a9 a8) (fun r=>Con bt 103 [.isl 1 (a9.map I),.isl 1 (a8.map I)] [] (.n .i64 r) []):=by
 unfold qb
 exact .ite (fun o =>
  (let t1:List cG:=[(ad 1),(ad 5),.ap true,(ad 5)];
  .ite (fun J =>
  .ret (bY (t1.append [.ap true,(ad 1)]) (.aH o J)))
  (fun J =>
  .ret (bY (t1.append [.ap false,(ad 1)]) (.aH o J)))))
  (fun o =>
  .ay fun bq af =>
  (let t1:List cG:=[(ad 1),(ad 5),.ap false,(ad 4),.bm [] [] (bX [0,1,5])];
  (by
  rcases bq with gH|gH
  ·exact (.ret (bY (t1.append [.sub (.exit 0) [] [],(ad 1)]) (.aH o (NG af))))
  ·exact (.ret (bY (t1.append [.sub (.ret) [(4,.n .i64 gH)] []]) (.aH o (NG af)))))))
def II (a9 a8:List Int)(gI:Int):(Int×Int×(List Int))→S:=fun (eV,gW,ai)=>fh [(0,.isl 1 (a9.map I)),(1,.isl 1 (a8.map I)),(5,.bx 0 0 0 ai.length),(6,.n .i64 eV),(20,.isl 1 (a9.map I)),(21,.n .i64 gI),(22,.n .i64 gW)] [(au 1 I ai)]
def Du (a9 a8:List Int)(gI:Int):(Int×(List Int))→fp
 | a=>⟨some 0,[(0,.isl 1 (a9.map I)),(5,.bx 0 0 0 a.2.length),(6,.n .i64 a.1)],[(au 1 I a.2)]⟩
def xM (a9 a8:List Int)(gI eV gW:Int)(ai:List Int):Option ((Int×Int×(List Int))⊕(Int×(List Int))) :=
 if (decide (gW<gI))=true then
  if 0≤gW∧gW<a9.length then
  a9[gW.toNat]? >>= fun aM =>
  if (decide (gW<(len_ I a8)))=true then
   if 0≤gW∧gW<a8.length then
   a8[gW.toNat]? >>= fun gD =>
   if 0≤gW∧gW<(ai.length:Nat) then
   if (0+gW.toNat)<ai.length then
   some (.inl (U ((U ((U (aM+eV))+gD)).tdiv (1000000000:Int)),U (gW+(1:Int)),ai.set (0+gW.toNat) ((U ((U (aM+eV))+gD)).tmod (1000000000:Int))))
   else none
   else none
   else none
  else
   if 0≤gW∧gW<(ai.length:Nat) then
   if (0+gW.toNat)<ai.length then
   some (.inl (U ((U (aM+eV)).tdiv (1000000000:Int)),U (gW+(1:Int)),ai.set (0+gW.toNat) ((U (aM+eV)).tmod (1000000000:Int))))
   else none
   else none
  else none
 else
  some (.inr (eV,ai))
def Ac (a9 a8:List Int)(gI eV gW:Int)(ai:List Int):Option (Int×(List Int)):=iter (fun w:Int×Int×(List Int)=>xM a9 a8 gI w.1 w.2.1 w.2.2) (eV,gW,ai)
theorem VB {a9 a8:List Int}{gI eV gW:Int}{ai:List Int}:bV (xM a9 a8 gI eV gW ai) (fV bt 55 0 112 [1,1,1,1,0,1,0,0] (II a9 a8 gI (eV,gW,ai)) (II a9 a8 gI) (Du a9 a8 gI)):=by
 unfold xM
 exact .ite (fun o =>
  .bn fun J =>
  .ay fun aM aF =>
  (let t1:List cG:=[(ad 1),.ap true,.aI (bL 2 (.cz (I aM)) 2),(ad 4),(ad 4)];
  have a5:=((.dh o J.1 (eI I J.2) (cD I aF)):cW _);
  .ite (fun aJ =>
  .bn fun bp =>
  .ay fun gD bu =>
  .bn fun c9 =>
  .bn fun da =>
  .ret (let aL:=U ((U (aM+eV))+gD);bQ (t1.append [.ap true,.aI (bL 4 (.cz (I gD)) 2),.aI (bL 7 .c4 1),(ad 2),.bm [0] [.dY (au 1 I (ai.set (0+gW.toNat) (aL.tmod (1000000000:Int))))] [(0,ii),(1,ii),(5,gz ((ai.set (0+gW.toNat) (aL.tmod (1000000000:Int))).length)),(6,ii),(20,ii),(21,ii),(22,ii)]]) (a5.a1 (.bo aJ bp.1 (eI I bp.2) (cD I bu) (by decide:(1000000000:Int)≠0) (by decide:(1000000000:Int)≠0) c9.1 c9.2 (.eR (hB I da) (g8 1) (eB 1 .live (gi (ej I ai) (0+gW.toNat) (aL.tmod (1000000000:Int)))) (aD 1 .live aA (ai.set (0+gW.toNat) (aL.tmod (1000000000:Int)))) (hg (fP ai) (0+gW.toNat) (aL.tmod (1000000000:Int))))))))
  (fun aJ =>
  .bn fun bp =>
  .bn fun bJ =>
  .ret (let bg:=U (aM+eV);bQ (t1.append [.ap false,.aI (bL 7 .c4 1),(ad 2),.bm [0] [.dY (au 1 I (ai.set (0+gW.toNat) (bg.tmod (1000000000:Int))))] [(0,ii),(1,ii),(5,gz ((ai.set (0+gW.toNat) (bg.tmod (1000000000:Int))).length)),(6,ii),(20,ii),(21,ii),(22,ii)]]) (a5.a1 (.bo aJ (by decide:(1000000000:Int)≠0) (by decide:(1000000000:Int)≠0) bp.1 bp.2 (hB I bJ) (g8 1) (eB 1 .live (gi (ej I ai) (0+gW.toNat) (bg.tmod (1000000000:Int)))) (.aH (aD 1 .live aA (ai.set (0+gW.toNat) (bg.tmod (1000000000:Int)))) (hg (fP ai) (0+gW.toNat) (bg.tmod (1000000000:Int))))))))))
  (fun o =>
  .ret (bQ [(ad 1),.ap false,.bm [0] [.pure] (bX [0,5,6])] (.aH o (aD 1 .live aA ai))))
theorem NY {a9 a8:List Int}{gI eV gW:Int}{ai:List Int}{r} (h:Ac a9 a8 gI eV gW ai=some r):fW bt 55 0 112 [1,1,1,1,0,1,0,0] (II a9 a8 gI) (Du a9 a8 gI) (eV,gW,ai) r:=fZ (fun _=>VB) h
def yj (a9 a8:List Int):Option (List Int) :=
 if (decide ((len_ I a9)<(len_ I a8)))=true then
  if 0≤(U ((len_ I a8)+(1:Int)))∧(8:Int)*(U ((len_ I a8)+(1:Int)))≤281474976710656∧(U ((len_ I a8)+(1:Int)))<9223372036854775808 then
  Ac a8 a9 (len_ I a8) 0 0 (List.replicate (U ((len_ I a8)+(1:Int))).toNat 0:List Int) >>= fun bl =>
  if 0≤(len_ I a8)∧(len_ I a8)<(bl.2.length:Nat) then
  if (0+(len_ I a8).toNat)<bl.2.length then
  qN (bl.2.set (0+(len_ I a8).toNat) bl.1) >>= fun bZ =>
  some bZ
  else none
  else none
  else none
 else
  if 0≤(U ((len_ I a9)+(1:Int)))∧(8:Int)*(U ((len_ I a9)+(1:Int)))≤281474976710656∧(U ((len_ I a9)+(1:Int)))<9223372036854775808 then
  Ac a9 a8 (len_ I a9) 0 0 (List.replicate (U ((len_ I a9)+(1:Int))).toNat 0:List Int) >>= fun bl =>
  if 0≤(len_ I a9)∧(len_ I a9)<(bl.2.length:Nat) then
  if (0+(len_ I a9).toNat)<bl.2.length then
  qN (bl.2.set (0+(len_ I a9).toNat) bl.1) >>= fun bZ =>
  some bZ
  else none
  else none
  else none
theorem W2 {a9 a8:List Int}:bV (yj a9 a8) (fun r=>Con bt 112 [.isl 1 (a9.map I),.isl 1 (a8.map I)] [] (.isl 1 (r.map I)) []):=by
 unfold yj
 exact .ite (fun o =>
  .bn fun J =>
  .ay fun bl aF =>
  .bn fun aJ =>
  .bn fun bp =>
  .ay fun bZ bu =>
  .ret (let bg:=len_ I a8;let aL:=(U (bg+(1:Int)));let b1:=(List.replicate aL.toNat 0:List Int);let cI:=hg (fP bl.2) (0+bg.toNat) bl.1;bY [(ad 1),(ad 5),.ap true,(ad 4),(ad 5),(ad 1),(ad 3),.bm [13] [.dY (au 1 I b1)] [(0,ii),(1,ii),(5,gz (b1.length)),(6,ii),(20,ii),(21,ii),(22,ii)],(Du a8 a9 bg bl).gL,.aI (av 5 (aq .c4 [])),.h9 0,.aI (bL 1 (.call {ac:=[.bE (.ck (.gv ((bl.2.set (0+bg.toNat) bl.1).map I)))],r:= .isl 1 (bZ.map I),dr:=false,dZ:=[0]}) 1)] (.bo o J.1 (Int.le_refl aL) J.2.1 J.2.2 (eB 1 .live (kr I aL.toNat 0)) (aD 1 .live aA b1) (kI aL.toNat (0:Int)) (.bo (NY aF) aJ.1 aJ.2 (hB I bp) (g8 1) (ms (gi (ej I bl.2) (0+bg.toNat) bl.1) cI) (oK (gi (ej I bl.2) (0+bg.toNat) bl.1) cI) (fs aA (bl.2.set (0+bg.toNat) bl.1)) (.aC (u4 bZ bu))))))
  (fun o =>
  .bn fun J =>
  .ay fun bl aF =>
  .bn fun aJ =>
  .bn fun bp =>
  .ay fun bZ bu =>
  .ret (let gC:=len_ I a9;let eU:=(U (gC+(1:Int)));let hq:=(List.replicate eU.toNat 0:List Int);let fY:=hg (fP bl.2) (0+gC.toNat) bl.1;bY [(ad 1),(ad 5),.ap false,(ad 5),(ad 1),(ad 3),.bm [9] [.dY (au 1 I hq)] [(0,ii),(1,ii),(5,gz (hq.length)),(6,ii),(20,ii),(21,ii),(22,ii)],(Du a9 a8 gC bl).gL,.aI (av 5 (aq .c4 [])),.h9 0,.aI (bL 1 (.call {ac:=[.bE (.ck (.gv ((bl.2.set (0+gC.toNat) bl.1).map I)))],r:= .isl 1 (bZ.map I),dr:=false,dZ:=[0]}) 1)] (.bo o J.1 (Int.le_refl eU) J.2.1 J.2.2 (eB 1 .live (kr I eU.toNat 0)) (aD 1 .live aA hq) (kI eU.toNat (0:Int)) (.bo (NY aF) aJ.1 aJ.2 (hB I bp) (g8 1) (ms (gi (ej I bl.2) (0+gC.toNat) bl.1) fY) (oK (gi (ej I bl.2) (0+gC.toNat) bl.1) fY) (fs aA (bl.2.set (0+gC.toNat) bl.1)) (.aC (u4 bZ bu))))))
def Iw (a8 cB:List Int)(cw:Int):(Int×Int×(List Int))→S:=fun (mP,cF,ai)=>fh [(1,.isl 1 (a8.map I)),(5,.bx 0 0 0 ai.length),(6,.n .i64 mP),(12,.isl 1 (cB.map I)),(13,.n .i64 cw),(14,.n .i64 cF)] [(au 1 I ai)]
def IJ (a8 cB:List Int)(cw:Int):(List Int)→fp
 | a=>⟨some 0,[(5,.bx 0 0 0 a.length)],[(au 1 I a)]⟩
def xI (a8 cB:List Int)(cw mP cF:Int)(ai:List Int):Option ((Int×Int×(List Int))⊕((List Int))) :=
 if (decide (cF<cw))=true then
  if 0≤cF∧cF<cB.length then
  cB[cF.toNat]? >>= fun aM =>
  if (decide (cF<(len_ I a8)))=true then
   if 0≤cF∧cF<a8.length then
   a8[cF.toNat]? >>= fun gD =>
   if (decide ((U ((U (aM-mP))-gD))<(0:Int)))=true then
    if 0≤cF∧cF<(ai.length:Nat) then
    if (0+cF.toNat)<ai.length then
    some (.inl (1,U (cF+(1:Int)),ai.set (0+cF.toNat) (U ((U ((U (aM-mP))-gD))+(1000000000:Int)))))
    else none
    else none
   else
    if 0≤cF∧cF<(ai.length:Nat) then
    if (0+cF.toNat)<ai.length then
    some (.inl (0,U (cF+(1:Int)),ai.set (0+cF.toNat) (U ((U (aM-mP))-gD))))
    else none
    else none
   else none
  else
   if (decide ((U (aM-mP))<(0:Int)))=true then
    if 0≤cF∧cF<(ai.length:Nat) then
    if (0+cF.toNat)<ai.length then
    some (.inl (1,U (cF+(1:Int)),ai.set (0+cF.toNat) (U ((U (aM-mP))+(1000000000:Int)))))
    else none
    else none
   else
    if 0≤cF∧cF<(ai.length:Nat) then
    if (0+cF.toNat)<ai.length then
    some (.inl (0,U (cF+(1:Int)),ai.set (0+cF.toNat) (U (aM-mP))))
    else none
    else none
  else none
 else
  some (.inr ai)
def Jk (a8 cB:List Int)(cw mP cF:Int)(ai:List Int):Option ((List Int)):=iter (fun w:Int×Int×(List Int)=>xI a8 cB cw w.1 w.2.1 w.2.2) (mP,cF,ai)
theorem Vv {a8 cB:List Int}{cw mP cF:Int}{ai:List Int}:bV (xI a8 cB cw mP cF ai) (fV bt 43 0 113 [1,1,1,0,1,0,0] (Iw a8 cB cw (mP,cF,ai)) (Iw a8 cB cw) (IJ a8 cB cw)):=by
 unfold xI
 exact .ite (fun o =>
  .bn fun J =>
  .ay fun aM aF =>
  (let t1:List cG:=[(ad 1),.ap true,.aI (bL 2 (.cz (I aM)) 2),(ad 4),(ad 4)];
  have a5:=((.dh o J.1 (eI I J.2) (cD I aF)):cW _);
  .ite (fun aJ =>
  .bn fun bp =>
  .ay fun gD bu =>
  (let t3:List cG:=t1.append [.ap true,.aI (bL 4 (.cz (I gD)) 2),(ad 1),(ad 2)];
  have fI:=a5.a1 (.dh aJ bp.1 (eI I bp.2) (cD I bu));
  .ite (fun c9 =>
  .bn fun da =>
  .bn fun c8 =>
  .ret (let aL:=(U ((U ((U (aM-mP))-gD))+(1000000000:Int)));bQ (t3.append [.ap true,(ad 3),(ad 1),.aI (av 4 (aq .c4 [])),(ad 2),.bm [0] [.dY (au 1 I (ai.set (0+cF.toNat) aL))] [(1,ii),(5,gz ((ai.set (0+cF.toNat) aL).length)),(6,ii),(12,ii),(13,ii),(14,ii)]]) (fI.a1 (.h6 c9 da.1 da.2 (hB I c8) (g8 1) (eB 1 .live (gi (ej I ai) (0+cF.toNat) aL)) (aD 1 .live aA (ai.set (0+cF.toNat) aL)) (hg (fP ai) (0+cF.toNat) aL)))))
  (fun c9 =>
  .bn fun da =>
  .bn fun c8 =>
  .ret (let bg:=U ((U (aM-mP))-gD);bQ (t3.append [.ap false,.aI (av 4 (aq .c4 [])),(ad 2),.bm [0] [.dY (au 1 I (ai.set (0+cF.toNat) bg))] [(1,ii),(5,gz ((ai.set (0+cF.toNat) bg).length)),(6,ii),(12,ii),(13,ii),(14,ii)]]) (fI.a1 (.h6 c9 da.1 da.2 (hB I c8) (g8 1) (eB 1 .live (gi (ej I ai) (0+cF.toNat) bg)) (aD 1 .live aA (ai.set (0+cF.toNat) bg)) (hg (fP ai) (0+cF.toNat) bg)))))))
  (fun aJ =>
  (let t3:List cG:=t1.append [.ap false,(ad 1),(ad 2)];
  .ite (fun bp =>
  .bn fun bJ =>
  .bn fun bu =>
  .ret (let b1:=(U ((U (aM-mP))+(1000000000:Int)));bQ (t3.append [.ap true,(ad 3),(ad 1),.aI (av 4 (aq .c4 [])),(ad 2),.bm [0] [.dY (au 1 I (ai.set (0+cF.toNat) b1))] [(1,ii),(5,gz ((ai.set (0+cF.toNat) b1).length)),(6,ii),(12,ii),(13,ii),(14,ii)]]) (a5.a1 (.bo aJ bp bJ.1 bJ.2 (hB I bu) (g8 1) (eB 1 .live (gi (ej I ai) (0+cF.toNat) b1)) (aD 1 .live aA (ai.set (0+cF.toNat) b1)) (.aC (hg (fP ai) (0+cF.toNat) b1))))))
  (fun bp =>
  .bn fun bJ =>
  .bn fun bu =>
  .ret (let cI:=U (aM-mP);bQ (t3.append [.ap false,.aI (av 4 (aq .c4 [])),(ad 2),.bm [0] [.dY (au 1 I (ai.set (0+cF.toNat) cI))] [(1,ii),(5,gz ((ai.set (0+cF.toNat) cI).length)),(6,ii),(12,ii),(13,ii),(14,ii)]]) (a5.a1 (.bo aJ bp bJ.1 bJ.2 (hB I bu) (g8 1) (eB 1 .live (gi (ej I ai) (0+cF.toNat) cI)) (aD 1 .live aA (ai.set (0+cF.toNat) cI)) (.aC (hg (fP ai) (0+cF.toNat) cI))))))))))
  (fun o =>
  .ret (bQ [(ad 1),.ap false,.bm [0] [.pure] (bX [5])] (.aH o (aD 1 .live aA ai))))
theorem Wo {a8 cB:List Int}{cw mP cF:Int}{ai:List Int}{r} (h:Jk a8 cB cw mP cF ai=some r):fW bt 43 0 113 [1,1,1,0,1,0,0] (Iw a8 cB cw) (IJ a8 cB cw) (mP,cF,ai) r:=fZ (fun _=>Vv) h
def tQ (a9 a8:List Int):Option (List Int) :=
 if 0≤(len_ I a9)∧(8:Int)*(len_ I a9)≤281474976710656∧(len_ I a9)<9223372036854775808 then
 Jk a8 a9 (len_ I a9) 0 0 (List.replicate (len_ I a9).toNat 0:List Int) >>= fun bq =>
 qN bq >>= fun aw =>
 some aw
 else none
theorem Og {a9 a8:List Int}:bV (tQ a9 a8) (fun r=>Con bt 113 [.isl 1 (a9.map I),.isl 1 (a8.map I)] [] (.isl 1 (r.map I)) []):=by
 unfold tQ
 exact .bn fun o =>
  .ay fun bq af =>
  .ay fun aw aJ =>
  .ret (let bg:=len_ I a9;let aL:=(List.replicate bg.toNat 0:List Int);bY [(ad 1),(ad 4),(ad 1),(ad 3),.bm [3] [.dY (au 1 I aL)] [(1,ii),(5,gz (aL.length)),(6,ii),(12,ii),(13,ii),(14,ii)],(IJ a8 a9 bg bq).gL,.h9 0,.aI (bL 1 (.call {ac:=[.bE (.ck (.gv (bq.map I)))],r:= .isl 1 (aw.map I),dr:=false,dZ:=[0]}) 1)] (.bo o.1 (Int.le_refl bg) o.2.1 o.2.2 (eB 1 .live (kr I bg.toNat 0)) (aD 1 .live aA aL) (kI bg.toNat (0:Int)) (Wo af) (.dh (ki I bq) (jw I bq) (fs aA bq) (u4 aw aJ))))
def tL (b3 el:bf):Option bf :=
 qb b3.cN el.cN >>= fun ae =>
 if (b3.db == el.db)=true then
  yj b3.cN el.cN >>= fun aw =>
  lL b3.db aw >>= fun bI =>
  some bI
 else
  if (decide ((0:Int)≤ae))=true then
   tQ b3.cN el.cN >>= fun br =>
   lL b3.db br >>= fun bZ =>
   some bZ
  else
   tQ el.cN b3.cN >>= fun br =>
   lL el.db br >>= fun bZ =>
   some bZ
theorem NC {b3 el:bf}:bV (tL b3 el) (fun r=>Con bt 92 [.agg (aU b3),.agg (aU el)] [] (.agg (aU r)) []):=by
 unfold tL
 exact .ay fun ae J =>
  (let t1:List cG:=[(ad 3),.aI (bL 4 (bC 2 (.n .i64 ae) true) 1),(ad 6)];
  have a5:=((.aH (xR ae J) (cl.n .i64 ae)):cW _);
  .ite (fun af =>
  .ay fun aw aJ =>
  .ay fun bI bJ =>
  .ret (bY (t1.append [.ap true,.aI (av 6 (aq (bC 2 (.isl 1 (aw.map I)) false) (aq (bC 2 (.agg (aU bI)) false) (av 1 []))))]) (a5.a1 (.cd af (W2 aw aJ) (sf bI bJ)))))
  (fun af =>
  .ite (fun aF =>
  .ay fun br bp =>
  .ay fun bZ bu =>
  .ret (bY (t1.append [.ap false,(ad 3),.ap true,.aI (av 6 (aq (bC 2 (.isl 1 (br.map I)) false) (aq (bC 2 (.agg (aU bZ)) false) (av 1 []))))]) (a5.a1 (.dh af aF (Og br bp) (sf bZ bu)))))
  (fun aF =>
  .ay fun br bp =>
  .ay fun bZ bu =>
  .ret (bY (t1.append [.ap false,(ad 3),.ap false,.aI (av 6 (aq (bC 2 (.isl 1 (br.map I)) false) (aq (bC 2 (.agg (aU bZ)) false) (av 1 []))))]) (a5.a1 (.dh af aF (Og br bp) (sf bZ bu)))))))
def uU (b3 el:bf):Option bf :=
 p9 el >>= fun ae =>
 tL b3 ae >>= fun bl =>
 some bl
theorem Ny {b3 el:bf}:bV (uU b3 el) (fun r=>Con bt 116 [.agg (aU b3),.agg (aU el)] [] (.agg (aU r)) []):=by
 unfold uU
 exact .ay fun ae J =>
  .ay fun bl aF =>
  .ret (bY [(ad 3),.aI (av 2 (aq (bC 1 (.agg (aU ae)) false) (aq (bC 2 (.agg (aU bl)) false) (av 1 []))))] (.aH (C1 ae J) (NC bl aF)))
def Hm (je:List (List bf))(kv:Bool)(ks jb:List Int)(jk:Int)(kq:List Bool)(lM:List Int)(cc ps:Int):(Int×Bool×(List Int))→S:=fun (i2,aZ,aN)=>fh [(0,.eh 6 [[.isl 1 (je.map (fi 2 aU)),.b kv,.isl 1 (ks.map I),.isl 1 (jb.map I),.n .i64 jk,.isl 1 (kq.map d6)]] 0 0),(1,.isl 1 (lM.map I)),(2,.n .i64 cc),(7,.ref 0 0 0 0),(23,.isl 1 (jb.map I)),(24,.n .i64 ps),(25,.n .i64 i2)] [[ab.mk 2 [[.b aZ,.isl 1 (aN.map I)]] .live]]
def Nm (je:List (List bf))(kv:Bool)(ks jb:List Int)(jk:Int)(kq:List Bool)(lM:List Int)(cc ps:Int):(Bool×(List Int))→fp
 | a=>⟨some 0,[(7,.ref 0 0 0 0)],[[ab.mk 2 [[.b a.1,.isl 1 (a.2.map I)]] .live]]⟩
def xg (je:List (List bf))(kv:Bool)(ks jb:List Int)(jk:Int)(kq:List Bool)(lM:List Int)(cc ps i2:Int)(aZ:Bool)(aN:List Int):Option ((Int×Bool×(List Int))⊕(Bool×(List Int))) :=
 if (decide (i2<ps))=true then
  if 0≤i2∧i2<jb.length then
  jb[i2.toNat]? >>= fun aM =>
  if 0≤aM∧aM<lM.length then
  lM[aM.toNat]? >>= fun cy =>
  if (cy != (0:Int))=true then
   if 0≤i2∧i2<je.length then
   je[i2.toNat]? >>= fun il =>
   if 0≤cc∧cc<il.length then
   il[cc.toNat]? >>= fun pG =>
   o9 pG >>= fun fN =>
   if (fN != (0:Int))=true then
    oI cy >>= fun eK =>
    o7 pG eK >>= fun iJ =>
    uU (⟨aZ,aN⟩:bf) iJ >>= fun mY =>
    some (.inl (U (i2+(1:Int)),mY.db,mY.cN))
   else
    some (.inl (U (i2+(1:Int)),aZ,aN))
   else none
   else none
  else
   some (.inl (U (i2+(1:Int)),aZ,aN))
  else none
  else none
 else
  some (.inr (aZ,aN))
def HO (je:List (List bf))(kv:Bool)(ks jb:List Int)(jk:Int)(kq:List Bool)(lM:List Int)(cc ps i2:Int)(aZ:Bool)(aN:List Int):Option (Bool×(List Int)):=iter (fun w:Int×Bool×(List Int)=>xg je kv ks jb jk kq lM cc ps w.1 w.2.1 w.2.2) (i2,aZ,aN)
theorem Ux {je:List (List bf)}{kv:Bool}{ks jb:List Int}{jk:Int}{kq:List Bool}{lM:List Int}{cc ps i2:Int}{aZ:Bool}{aN:List Int}:bV (xg je kv ks jb jk kq lM cc ps i2 aZ aN) (fV bt 70 0 97 [1,1,0,1,0,0] (Hm je kv ks jb jk kq lM cc ps (i2,aZ,aN)) (Hm je kv ks jb jk kq lM cc ps) (Nm je kv ks jb jk kq lM cc ps)):=by
 unfold xg
 exact .ite (fun o =>
  .bn fun J =>
  .ay fun aM aF =>
  .bn fun aJ =>
  .ay fun cy bJ =>
  (let t1:List cG:=[(ad 1),.ap true,.aI (bL 2 (.cz (I aM)) 2)];
  have a5:=((.fC o J.1 (eI I J.2) (cD I aF) aJ.1 (eI I aJ.2) (cD I bJ)):cW _);
  .ite (fun bu =>
  .bn fun c9 =>
  .ay fun il c8 =>
  .bn fun eF =>
  .ay fun pG d8 =>
  .ay fun fN fT =>
  (let t3:List cG:=t1.append [.aI (av 3 (aq (.cz (I cy)) (av 8 (aq (.cz ((fi 2 aU) il)) (av 2 (aq (.cz (aU pG)) (aq (bC 1 (.n .i64 fN) true) (av 1 (aq (.ap true) [])))))))))];
  have fI:=a5.a1 (.bo bu bu bu bu bu bu c9.1 (eI (fi 2 aU) c9.2) (.bo bu (cD (fi 2 aU) c8) bu bu eF.1 (eI aU eF.2) bu (cD aU d8) (.eR bu (sM fN fT) (cl.n .i64 fN) bu bu)));
  .ite (fun g7 =>
  .ay fun eK j0 =>
  .ay fun iJ jS =>
  .ay fun mY lT =>
  .ret (bQ (t3.append [.ap true,.aI (av 7 (aq (.cz ((fi 2 aU) il)) (av 2 (aq (.cz (aU pG)) (av 3 (aq (.cz (I cy)) (aq (bC 1 (.agg (aU eK)) false) (aq (bC 2 (.agg (aU iJ)) false) (aq (bC 2 (.agg (aU mY)) false) (av 1 [])))))))))),(ad 2),.bm [0] [.box [.id,.id]] (bX [0,1,2,7,23,24,25])]) (fI.a1 (.bo g7 c9.1 (eI (fi 2 aU) c9.2) (cD (fi 2 aU) c8) eF.1 (eI aU eF.2) (cD aU d8) aJ.1 (.eR (eI I aJ.2) (cD I bJ) (sd eK j0) (uP iJ jS) (Ny mY lT))))))
  (fun g7 =>
  .ret (bQ (t3.append [.ap false,(ad 2),.bm [0] [.box [.id,.id]] (bX [0,1,2,7,23,24,25])]) (fI.a1 (.aC g7))))))
  (fun bu =>
  .ret (bQ (t1.append [.aI (av 3 (aq (.cz (I cy)) (av 2 (dm 12 (aq (.ap false) []))))),.ap false,(ad 2),.bm [0] [.box [.id,.id]] (bX [0,1,2,7,23,24,25])]) (a5.a1 (.bo bu bu bu bu bu bu bu bu (.fG bu bu bu bu bu fv)))))))
  (fun o =>
  .ret (bQ [(ad 1),.ap false,.bm [0] [.box [.id,.id]] (bX [7])] (.aC o)))
theorem U2 {je:List (List bf)}{kv:Bool}{ks jb:List Int}{jk:Int}{kq:List Bool}{lM:List Int}{cc ps i2:Int}{aZ:Bool}{aN:List Int}{r} (h:HO je kv ks jb jk kq lM cc ps i2 aZ aN=some r):fW bt 70 0 97 [1,1,0,1,0,0] (Hm je kv ks jb jk kq lM cc ps) (Nm je kv ks jb jk kq lM cc ps) (i2,aZ,aN) r:=fZ (fun _=>Ux) h
def xN (mc:rB)(lM:List Int)(cc:Int):Option Int :=
 if 0≤cc∧cc<lM.length then
 lM[cc.toNat]? >>= fun fo =>
 oI fo >>= fun aw =>
 o7 mc.v9 aw >>= fun bI =>
 HO mc.E2 mc.v9.db mc.v9.cN mc.EQ mc.KT mc.KU lM cc (len_ I mc.EQ) 0 bI.db bI.cN >>= fun ea =>
 o9 (⟨ea.1,ea.2⟩:bf) >>= fun fb =>
 some fb
 else none
theorem Nz {mc:rB}{lM:List Int}{cc:Int}:bV (xN mc lM cc) (fun r=>Con bt 97 [.eh 6 [(yb mc)] 0 0,.isl 1 (lM.map I),.n .i64 cc] [] (.n .i64 r) []):=by
 unfold xN
 exact .bn fun o =>
  .ay fun fo af =>
  .ay fun aw aJ =>
  .ay fun bI bJ =>
  .ay fun ea c9 =>
  .ay fun fb c8 =>
  .ret (bY [(ad 1),.aI (av 7 (aq (.cz (I fo)) (aq (bC 1 (.agg (aU aw)) false) (aq (bC 2 (.agg (aU bI)) false) (av 2 []))))),(ad 6),.bm [11] [.box [.id,.id]] (bX [0,1,2,7,23,24,25]),.sub (.exit 0) [(7,.ref 0 0 0 0)] [[ab.mk 2 [[.b ea.1,.isl 1 (ea.2.map I)]] .live]],.aI (bL 1 (bC 1 (.n .i64 fb) true) 1)] (.h6 o.1 (eI I o.2) (cD I af) (sd aw aJ) (uP bI bJ) (U2 c9) (sM fb c8) (cl.n .i64 fb)))
def sc (b3 el:bf):Option Int :=
 if (b3.db == el.db)=true then
  if b3.db=true then
   qb el.cN b3.cN >>= fun bl =>
   some bl
  else
   qb b3.cN el.cN >>= fun bl =>
   some bl
 else
  if b3.db=true then
   some (-1)
  else
   some 1
theorem Nt {b3 el:bf}:bV (sc b3 el) (fun r=>Con bt 75 [.agg (aU b3),.agg (aU el)] [] (.n .i64 r) []):=by
 unfold sc
 exact .ite (fun o =>
  (let t1:List cG:=[(ad 3),.aI (av 6 (dm 2 (aq (.ap false) (av 1 [])))),.ap false,(ad 6),.ap false,(ad 3)];
  have a5:=((.eR (d7 o) (d7 o) (d7 o) fv (d7 o)):cW _);
  .ite (fun J =>
  .ay fun bl aF =>
  .ret (bY (t1.append [.ap true,.aI (bL 4 (bC 2 (.n .i64 bl) true) 1)]) (a5.a1 (.cd J (xR bl aF) (cl.n .i64 bl)))))
  (fun J =>
  .ay fun bl aF =>
  .ret (bY (t1.append [.ap false,.aI (bL 4 (bC 2 (.n .i64 bl) true) 1)]) (a5.a1 (.cd J (xR bl aF) (cl.n .i64 bl)))))))
  (fun o =>
  (let t1:List cG:=[(ad 3),.aI (bL 8 (.ap true) 1)];
  have a5:=((.cd (ee o) (ee o) (ee o)):cW _);
  .ite (fun J =>
  .ret (bY (t1.append [.ap true,(ad 1)]) (a5.a1 (.aC J))))
  (fun J =>
  .ret (bY (t1.append [.ap false,(ad 6),.ap true,(ad 1)]) (a5.a1 (.aH J (ee o)))))))
def GY (je:List (List bf))(kv:Bool)(ks jb:List Int)(jk:Int)(kq:List Bool)(cc cw:Int):(Int×Int)→S:=fun (jy,cF)=>fh [(0,.eh 6 [[.isl 1 (je.map (fi 2 aU)),.b kv,.isl 1 (ks.map I),.isl 1 (jb.map I),.n .i64 jk,.isl 1 (kq.map d6)]] 0 0),(1,.n .i64 cc),(5,.n .i64 jy),(12,.isl 1 (je.map (fi 2 aU))),(13,.n .i64 cw),(14,.n .i64 cF)] []
def Ni (je:List (List bf))(kv:Bool)(ks jb:List Int)(jk:Int)(kq:List Bool)(cc cw:Int):Int→fp
 | a=>⟨some 0,[(5,.n .i64 a)],[]⟩
def w2 (je:List (List bf))(kv:Bool)(ks jb:List Int)(jk:Int)(kq:List Bool)(cc cw jy cF:Int):Option ((Int×Int)⊕(Int)) :=
 if (decide (cF<cw))=true then
  if 0≤cF∧cF<je.length then
  je[cF.toNat]? >>= fun aM =>
  if 0≤cc∧cc<aM.length then
  aM[cc.toNat]? >>= fun cy =>
  o9 cy >>= fun ea =>
  if (decide (ea≤(0:Int)))=true then
   some (.inl (jy,U (cF+(1:Int))))
  else
   if (decide (jy<(0:Int)))=true then
    some (.inl (cF,U (cF+(1:Int))))
   else
    if 0≤jk∧jk<aM.length then
    aM[jk.toNat]? >>= fun pG =>
    if 0≤jy∧jy<je.length then
    je[jy.toNat]? >>= fun mZ =>
    if 0≤cc∧cc<mZ.length then
    mZ[cc.toNat]? >>= fun rZ =>
    o7 pG rZ >>= fun jr =>
    if 0≤jk∧jk<mZ.length then
    mZ[jk.toNat]? >>= fun tv =>
    o7 tv cy >>= fun oB =>
    sc jr oB >>= fun kV =>
    if (decide (kV<(0:Int)))=true then
     some (.inl (cF,U (cF+(1:Int))))
    else
     if (kV == (0:Int))=true then
      if 0≤cF∧cF<jb.length then
      jb[cF.toNat]? >>= fun LZ =>
      if 0≤jy∧jy<jb.length then
      jb[jy.toNat]? >>= fun L0 =>
      if (decide (LZ<L0))=true then
       some (.inl (cF,U (cF+(1:Int))))
      else
       some (.inl (jy,U (cF+(1:Int))))
      else none
      else none
     else
      some (.inl (jy,U (cF+(1:Int))))
    else none
    else none
    else none
    else none
  else none
  else none
 else
  some (.inr jy)
def Ht (je:List (List bf))(kv:Bool)(ks jb:List Int)(jk:Int)(kq:List Bool)(cc cw jy cF:Int):Option (Int):=iter (fun w:Int×Int=>w2 je kv ks jb jk kq cc cw w.1 w.2) (jy,cF)
theorem Uj {je:List (List bf)}{kv:Bool}{ks jb:List Int}{jk:Int}{kq:List Bool}{cc cw jy cF:Int}:bV (w2 je kv ks jb jk kq cc cw jy cF) (fV bt 91 0 98 [1,1,0,1,0,0] (GY je kv ks jb jk kq cc cw (jy,cF)) (GY je kv ks jb jk kq cc cw) (Ni je kv ks jb jk kq cc cw)):=by
 unfold w2
 exact .ite (fun o =>
  .bn fun J =>
  .ay fun aM aF =>
  .bn fun aJ =>
  .ay fun cy bJ =>
  .ay fun ea c9 =>
  (let t1:List cG:=[(ad 1),.ap true,.aI (bL 2 (.cz ((fi 2 aU) aM)) 2),.aI (av 3 (aq (.cz (aU cy)) (aq (bC 1 (.n .i64 ea) true) (av 1 []))))];
  have a5:=((.bo o J.1 (eI (fi 2 aU) J.2) (cD (fi 2 aU) aF) aJ.1 (eI aU aJ.2) (cD aU bJ) (sM ea c9) (.aC (cl.n .i64 ea))):cW _);
  .ite (fun da =>
  .ret (bQ (t1.append [.ap true,(ad 2),.bm [] [] (bX [0,1,5,12,13,14])]) (a5.a1 (.aC da))))
  (fun da =>
  .ite (fun c8 =>
  .ret (bQ (t1.append [.ap false,(ad 2),.ap true,(ad 2),(ad 2),.bm [] [] (bX [0,1,5,12,13,14])]) (a5.a1 (.aH da c8))))
  (fun c8 =>
  .bn fun eF =>
  .ay fun pG d8 =>
  .bn fun gK =>
  .ay fun mZ g7 =>
  .bn fun kA =>
  .ay fun rZ oA =>
  .ay fun jr n1 =>
  .bn fun lT =>
  .ay fun tv qy =>
  .ay fun oB B7 =>
  .ay fun kV wb =>
  (let aL:=fi 2 aU;let t3:List cG:=t1.append [.ap false,(ad 2),.ap false,.aI (av 6 (aq (.cz (aU pG)) (av 6 (aq (.cz (aL mZ)) (av 2 (aq (.cz (aU rZ)) (aq (bC 2 (.agg (aU jr)) false) (av 6 (aq (.cz (aL mZ)) (av 5 (aq (.cz (aU tv)) (av 3 (aq (.cz (aU cy)) (aq (bC 2 (.agg (aU oB)) false) (aq (bC 2 (.n .i64 kV) true) (av 1 []))))))))))))))))];
  have fI:=a5.a1 (.bo da c8 eF.1 (eI aU eF.2) (cD aU d8) gK.1 (eI aL gK.2) (cD aL g7) (.bo kA.1 (eI aU kA.2) (cD aU oA) (uP jr n1) gK.1 (eI aL gK.2) (cD aL g7) lT.1 (.h6 (eI aU lT.2) (cD aU qy) aJ.1 (eI aU aJ.2) (cD aU bJ) (uP oB B7) (Nt kV wb) (cl.n .i64 kV))));
  .ite (fun m0 =>
  .ret (bQ (t3.append [.aI (av 3 (dm 3 (av 15 (dm 1 (aq (.ap true) []))))),.ap true,(ad 2),(ad 2),.bm [] [] (bX [0,1,5,12,13,14])]) (fI.a1 (.fG m0 m0 m0 m0 m0 cV))))
  (fun m0 =>
  .ite (fun js =>
  .bn fun zp =>
  .ay fun LZ adu =>
  .bn fun FJ =>
  .ay fun L0 adv =>
  (let t5:List cG:=t3.append [.aI (av 12 (aq (.cz (I LZ)) (av 6 (aq (.cz (I L0)) (av 1 (aq (.ap true) (aq (.ap false) [])))))))];
  have nG:=fI.a1 (.bo m0 m0 m0 js js js js js (.bo js zp.1 (eI I zp.2) js (cD I adu) js js js (.bo js js js FJ.1 (eI I FJ.2) js (cD I adv) js (.cd m0 js m0))));
  .ite (fun B8 =>
  .ret (bQ (t5.append [.ap true,(ad 2),(ad 2),.bm [] [] (bX [0,1,5,12,13,14])]) (nG.a1 (.aC B8))))
  (fun B8 =>
  .ret (bQ (t5.append [.ap false,(ad 2),.bm [] [] (bX [0,1,5,12,13,14])]) (nG.a1 (.aC B8))))))
  (fun js =>
  .ret (bQ (t3.append [.aI (av 6 (dm 15 (aq (.ap false) (aq (.ap false) [])))),.ap false,(ad 2),.bm [] [] (bX [0,1,5,12,13,14])]) (fI.a1 (.bo m0 m0 m0 js js js js js (.bo js js js js js js js js (.fG js js m0 js m0 fv))))))))))))
  (fun o =>
  .ret (bQ [(ad 1),.ap false,.bm [] [] (bX [5])] (.aC o)))
theorem UE {je:List (List bf)}{kv:Bool}{ks jb:List Int}{jk:Int}{kq:List Bool}{cc cw jy cF:Int}{r} (h:Ht je kv ks jb jk kq cc cw jy cF=some r):fW bt 91 0 98 [1,1,0,1,0,0] (GY je kv ks jb jk kq cc cw) (Ni je kv ks jb jk kq cc cw) (jy,cF) r:=fZ (fun _=>Uj) h
def zO (mc:rB)(cc:Int):Option Int :=
 Ht mc.E2 mc.v9.db mc.v9.cN mc.EQ mc.KT mc.KU cc (len_ (fi 2 aU) mc.E2) (-1) 0 >>= fun ae =>
 some ae
theorem U3 {mc:rB}{cc:Int}:bV (zO mc cc) (fun r=>Con bt 98 [.eh 6 [(yb mc)] 0 0,.n .i64 cc] [] (.n .i64 r) []):=by
 unfold zO
 exact .ay fun ae J =>
  .ret (bY [(ad 1),(ad 1),(ad 6),.bm [] [] (bX [0,1,5,12,13,14]),.sub (.exit 0) [(5,.n .i64 ae)] [],(ad 2)] (.aC (UE J)))
def vt (aK:List Int):Option (List Int) :=
 if aK.length*8≤140737488355328 then some aK else none
theorem Yh:Con bt 77 [.eP] [] (.isl 1 (([]:List Int).map I)) []:=bY [(ad 1),(ad 2),.ap true,(ad 1)] (.aC cV) (.bE (.ck (.hh 1)))
theorem Yi:Con bt 77 [.i5] [] (.isl 1 (([]:List Int).map I)) []:=(by
 have h:=fun (o:(([]:List Int)++([]:List Int)).length*8≤140737488355328)=>(bY [(ad 1),(ad 2),.ap false,.aI (bL 2 (.a1 ((([]:List Int)++([]:List Int)).length)) 1)] (.fC fv (vq (show []=(([]:List Int)).map I from rfl) (mL Int)) (yv (mL Int) (r4 I):(([]:List Int)++([]:List Int)).length=0+([]:List (List aB)).length) o (ms (rD (show []=(([]:List Int)).map I from rfl) (mL Int) (r4 I)) (fP (([]:List Int)++([]:List Int)))) (oK (rD (show []=(([]:List Int)).map I from rfl) (mL Int) (r4 I)) (fP (([]:List Int)++([]:List Int)))) (fs aA (([]:List Int)++([]:List Int)))) (.bE (.ck (.gv ((([]:List Int)++([]:List Int)).map I)))):Con bt 77 [.i5] [] (.isl 1 ((([]:List Int)++([]:List Int)).map I)) [])
 exact h (by decide))
theorem Yj (x:Int)(l:List Int)(o:(([]:List Int)++(x::l)).length*8≤140737488355328):Con bt 77 [.isl 1 ((x::l).map I)] [] (.isl 1 ((([]:List Int)++(x::l)).map I)) []:=bY [(ad 1),.aI (av 1 (aq .c4 [])),.ap false,.aI (bL 2 (.a1 ((([]:List Int)++(x::l)).length)) 1)] (.h6 (by simp:(x::l).map I≠[]) fv (vq (show []=(([]:List Int)).map I from rfl) (mL Int)) (yv (mL Int) (ej I (x::l)):(([]:List Int)++(x::l)).length=0+((x::l).map I).length) o (ms (rD (show []=(([]:List Int)).map I from rfl) (mL Int) (ej I (x::l))) (fP (([]:List Int)++(x::l)))) (oK (rD (show []=(([]:List Int)).map I from rfl) (mL Int) (ej I (x::l))) (fP (([]:List Int)++(x::l)))) (fs aA (([]:List Int)++(x::l)))) (.bE (.ck (.gv ((([]:List Int)++(x::l)).map I))))
theorem JM {aK:List Int}:bV (vt aK) (fun r=>Con bt 77 [.isl 1 (aK.map I)] [] (.isl 1 (r.map I)) []):=by
 unfold vt
 refine .bn fun h=> .ret ?_
 cases aK with
 | nil=>exact .kw Yh Yi
 | cons x l =>
  have J:=Yj x l (by simpa using h)
  simpa using J
def Hz (a9:List Int)(a8:Int):(Int×Int×(List Int))→S:=fun (ij,bd,ai)=>fh [(0,.isl 1 (a9.map I)),(1,.n .i64 a8),(6,.bx 0 0 0 ai.length),(7,.n .i64 ij),(8,.n .i64 bd)] [(au 1 I ai)]
def HH (a9:List Int)(a8:Int):(Int×(List Int))→fp
 | a=>⟨some 0,[(6,.bx 0 0 0 a.2.length),(7,.n .i64 a.1)],[(au 1 I a.2)]⟩
def HA (a9:List Int)(a8 ij bd:Int)(ai:List Int):Option ((Int×Int×(List Int))⊕(Int×(List Int))) :=
 if (decide ((0:Int)≤bd))=true then
  if 0≤bd∧bd<a9.length then
  a9[bd.toNat]? >>= fun aM =>
  if a8≠0 then
  if 0≤bd∧bd<(ai.length:Nat) then
  if (0+bd.toNat)<ai.length then
  some (.inl ((U ((U (ij*(1000000000:Int)))+aM)).tmod a8,U (bd-(1:Int)),ai.set (0+bd.toNat) (U ((U ((U (ij*(1000000000:Int)))+aM)).tdiv a8))))
  else none
  else none
  else none
  else none
 else
  some (.inr (ij,ai))
def IK (a9:List Int)(a8 ij bd:Int)(ai:List Int):Option (Int×(List Int)):=iter (fun w:Int×Int×(List Int)=>HA a9 a8 w.1 w.2.1 w.2.2) (ij,bd,ai)
theorem UR {a9:List Int}{a8 ij bd:Int}{ai:List Int}:bV (HA a9 a8 ij bd ai) (fV bt 39 0 119 [1,1,1,0,1,0,0] (Hz a9 a8 (ij,bd,ai)) (Hz a9 a8) (HH a9 a8)):=by
 unfold HA
 exact .ite (fun o =>
  .bn fun J =>
  .ay fun aM aF =>
  .bn fun aJ =>
  .bn fun bp =>
  .bn fun bJ =>
  .ret (let aL:=(U ((U ((U (ij*(1000000000:Int)))+aM)).tdiv a8));bQ [(ad 2),.ap true,.aI (bL 5 (.cz (I aM)) 2),.aI (bL 9 .c4 1),(ad 3),.bm [0] [.dY (au 1 I (ai.set (0+bd.toNat) aL))] [(0,ii),(1,ii),(6,gz ((ai.set (0+bd.toNat) aL).length)),(7,ii),(8,ii)]] (.bo o J.1 (eI I J.2) (cD I aF) aJ aJ bp.1 bp.2 (.eR (hB I bJ) (g8 1) (eB 1 .live (gi (ej I ai) (0+bd.toNat) aL)) (aD 1 .live aA (ai.set (0+bd.toNat) aL)) (hg (fP ai) (0+bd.toNat) aL)))))
  (fun o =>
  .ret (bQ [(ad 2),.ap false,.bm [0] [.pure] (bX [6,7])] (.aH o (aD 1 .live aA ai))))
theorem VC {a9:List Int}{a8 ij bd:Int}{ai:List Int}{r} (h:IK a9 a8 ij bd ai=some r):fW bt 39 0 119 [1,1,1,0,1,0,0] (Hz a9 a8) (HH a9 a8) (ij,bd,ai) r:=fZ (fun _=>UR) h
def xY (a9:List Int)(a8:Int):Option ((List Int)×Int) :=
 if 0≤(len_ I a9)∧(8:Int)*(len_ I a9)≤281474976710656∧(len_ I a9)<9223372036854775808 then
 IK a9 a8 0 (U ((len_ I a9)-(1:Int))) (List.replicate (len_ I a9).toNat 0:List Int) >>= fun bq =>
 qN bq.2 >>= fun aw =>
 some (aw,bq.1)
 else none
theorem NL {a9:List Int}{a8:Int}:bV (xY a9 a8) (fun r=>Con bt 119 [.isl 1 (a9.map I),.n .i64 a8] [] (.cY [.isl 1 (r.1.map I),.n .i64 r.2]) []):=by
 unfold xY
 exact .bn fun o =>
  .ay fun bq af =>
  .ay fun aw aJ =>
  .ret (let aL:=(List.replicate (len_ I a9).toNat 0:List Int);bY [(ad 2),(ad 4),(ad 1),(ad 4),.bm [4] [.dY (au 1 I aL)] [(0,ii),(1,ii),(6,gz (aL.length)),(7,ii),(8,ii)],(HH a9 a8 bq).gL,.h9 0,.aI (bL 1 (.call {ac:=[.bE (.ck (.gv (bq.2.map I)))],r:= .isl 1 (aw.map I),dr:=false,dZ:=[0]}) 3)] (.bo o.1 (Int.le_refl (len_ I a9)) o.2.1 o.2.2 (eB 1 .live (kr I (len_ I a9).toNat 0)) (aD 1 .live aA aL) (kI (len_ I a9).toNat (0:Int)) (VC af) (.dh (ki I bq.2) (jw I bq.2) (fs aA bq.2) (u4 aw aJ))))
def H8 (ai:List Int):Nat→S:=fun lX=>fh [(0,.bx 0 0 0 lX)] [(au 1 I ai)]
def Ix (ai:List Int):Nat→fp
 | a=>⟨some 0,[(0,.bx 0 0 0 a)],[(au 1 I ai)]⟩
def xE (ai:List Int)(lX:Nat):Option ((Nat)⊕(Nat)) :=
 if (decide ((0:Int)<((lX:Nat):Int)))=true then
  if 0≤(U (((lX:Nat):Int)-(1:Int)))∧(U (((lX:Nat):Int)-(1:Int)))<(lX:Nat) then
  ai[(0+(U (((lX:Nat):Int)-(1:Int))).toNat)]? >>= fun aM =>
  if (aM == (0:Int))=true then
   if 0≤(U (((lX:Nat):Int)-(1:Int))) then
   if 0≤(U (((lX:Nat):Int)-(1:Int))).toNat∧(U (((lX:Nat):Int)-(1:Int))).toNat≤lX then
   some (.inl ((U (((lX:Nat):Int)-(1:Int))).toNat-0))
   else none
   else none
  else
   some (.inr lX)
  else none
 else
  some (.inr lX)
def Ja (ai:List Int)(lX:Nat):Option (Nat):=iter (fun w:Nat=>xE ai w) lX
theorem Vl {ai:List Int}{lX:Nat}:bV (xE ai lX) (fV bt 21 1 114 [1,0,0,0] (H8 ai lX) (H8 ai) (Ix ai)):=by
 unfold xE
 exact .ite (fun o =>
  .bn fun J =>
  .ay fun aM aF =>
  (let t1:List cG:=[.aI (av 9 (aq (.cz (I aM)) (av 1 (aq (.ap true) []))))];
  have a5:=((.bo o o o o o J.1 J.2 o (.cd (cD I aF) o o)):cW _);
  .ite (fun aJ =>
  .bn fun bp =>
  .bn fun bJ =>
  .ret (bQ (t1.append [.ap true,(ad 6),.bm [0] [.pure] (bX [0])]) (a5.a1 (.eR aJ bp bJ.1 bJ.2 (aD 1 .live aA ai)))))
  (fun aJ =>
  .ret (bQ (t1.append [.ap false,.bm [0] [.pure] (bX [0])]) (a5.a1 (.aH aJ (aD 1 .live aA ai)))))))
  (fun o =>
  .ret (bQ [.aI (av 4 (dm 7 (aq (.ap false) []))),.ap false,.bm [0] [.pure] (bX [0])] (.bo o o o o o o o o (.aH fv (aD 1 .live aA ai)))))
theorem Wb {ai:List Int}{lX:Nat}{r} (h:Ja ai lX=some r):fW bt 21 1 114 [1,0,0,0] (H8 ai) (Ix ai) lX r:=fZ (fun _=>Vl) h
def Ak (dn:List Int):Option Nat :=
 Ja dn dn.length >>= fun ae =>
 some ae
theorem WJ {dn:List Int}:bV (Ak dn) (fun a=>Con bt 114 [.bx 0 0 0 dn.length] [(au 1 I dn)] (.bx 0 0 0 a) [(au 1 I dn)]):=by
 unfold Ak
 exact .ay fun ae J =>
  .ret (h2 [(ad 1),.bm [0] [.pure] (bX [0]),(Ix dn ae).gL,(ad 2)] [0] [.pure] (.cd (aD 1 .live aA dn) (Wb J) (aD 1 .live aA dn)))
def HP (a8:List Int)(bd bh:Int)(eA:List Int)(eN eu:Int):(Int×Int×(List Int))→S:=fun (eV,dU,ai)=>fh [(1,.isl 1 (a8.map I)),(5,.bx 0 0 0 ai.length),(6,.n .i64 bd),(7,.n .i64 bh),(8,.n .i64 eV),(26,.isl 1 (eA.map I)),(27,.n .i64 eN),(28,.n .i64 bd),(33,.isl 1 (a8.map I)),(34,.n .i64 eu),(35,.n .i64 dU)] [(au 1 I ai)]
def H9 (a8:List Int)(bd bh:Int)(eA:List Int)(eN eu:Int):(Int×(List Int))→fp
 | a=>⟨some 2,[(1,.isl 1 (a8.map I)),(5,.bx 0 0 0 a.2.length),(6,.n .i64 bd),(8,.n .i64 a.1),(26,.isl 1 (eA.map I)),(27,.n .i64 eN),(28,.n .i64 bd)],[(au 1 I a.2)]⟩
def HQ (a8:List Int)(bd bh:Int)(eA:List Int)(eN eu eV dU:Int)(ai:List Int):Option ((Int×Int×(List Int))⊕(Int×(List Int))) :=
 if (decide (dU<eu))=true then
  if 0≤dU∧dU<a8.length then
  a8[dU.toNat]? >>= fun aM =>
  if 0≤(U (bd+dU))∧(U (bd+dU))<(ai.length:Nat) then
  ai[(0+(U (bd+dU)).toNat)]? >>= fun cy =>
  if (0+(U (bd+dU)).toNat)<ai.length then
  some (.inl (U ((U ((U (cy+(U (bh*aM))))+eV)).tdiv (1000000000:Int)),U (dU+(1:Int)),ai.set (0+(U (bd+dU)).toNat) ((U ((U (cy+(U (bh*aM))))+eV)).tmod (1000000000:Int))))
  else none
  else none
  else none
 else
  some (.inr (eV,ai))
def NZ (a8:List Int)(bd bh:Int)(eA:List Int)(eN eu eV dU:Int)(ai:List Int):Option (Int×(List Int)):=iter (fun w:Int×Int×(List Int)=>HQ a8 bd bh eA eN eu w.1 w.2.1 w.2.2) (eV,dU,ai)
theorem U4 {a8:List Int}{bd bh:Int}{eA:List Int}{eN eu eV dU:Int}{ai:List Int}:bV (HQ a8 bd bh eA eN eu eV dU ai) (fV bt 72 0 93 [1,1,1,0,1,0,0,1,1,0,0,1,1,0,1,0,0] (HP a8 bd bh eA eN eu (eV,dU,ai)) (HP a8 bd bh eA eN eu) (H9 a8 bd bh eA eN eu)):=by
 unfold HQ
 exact .ite (fun o =>
  .bn fun J =>
  .ay fun aM aF =>
  .bn fun aJ =>
  .ay fun cy bJ =>
  .bn fun bu =>
  .ret (let aL:=U ((U (cy+(U (bh*aM))))+eV);let bg:=U (bd+dU);bQ [(ad 1),.ap true,.aI (bL 2 (.cz (I aM)) 2),.aI (bL 5 (.cz (I cy)) 7),.aI (bL 9 .c4 1),(ad 2),.bm [0] [.dY (au 1 I (ai.set (0+bg.toNat) (aL.tmod (1000000000:Int))))] [(1,ii),(5,gz ((ai.set (0+bg.toNat) (aL.tmod (1000000000:Int))).length)),(6,ii),(7,ii),(8,ii),(26,ii),(27,ii),(28,ii),(33,ii),(34,ii),(35,ii)]] (.bo o J.1 (eI I J.2) (cD I aF) aJ.1 aJ.2 (cD I bJ) (by decide:(1000000000:Int)≠0) (.h6 (by decide:(1000000000:Int)≠0) aJ.1 aJ.2 (hB I bu) (g8 1) (eB 1 .live (gi (ej I ai) (0+bg.toNat) (aL.tmod (1000000000:Int)))) (aD 1 .live aA (ai.set (0+bg.toNat) (aL.tmod (1000000000:Int)))) (hg (fP ai) (0+bg.toNat) (aL.tmod (1000000000:Int)))))))
  (fun o =>
  .ret (bQ [(ad 1),.ap false,.bm [0] [.pure] (bX [1,5,6,8,26,27,28])] (.aH o (aD 1 .live aA ai))))
theorem VT {a8:List Int}{bd bh:Int}{eA:List Int}{eN eu eV dU:Int}{ai:List Int}{r} (h:NZ a8 bd bh eA eN eu eV dU ai=some r):fW bt 72 0 93 [1,1,1,0,1,0,0,1,1,0,0,1,1,0,1,0,0] (HP a8 bd bh eA eN eu) (H9 a8 bd bh eA eN eu) (eV,dU,ai) r:=fZ (fun _=>U4) h
def HR (a8 eA:List Int)(eN:Int):(Int×(List Int))→S:=fun (gG,ai)=>fh [(1,.isl 1 (a8.map I)),(5,.bx 0 0 0 ai.length),(26,.isl 1 (eA.map I)),(27,.n .i64 eN),(28,.n .i64 gG)] [(au 1 I ai)]
def Ia (a8 eA:List Int)(eN:Int):(List Int)→fp
 | a=>⟨some 0,[(5,.bx 0 0 0 a.length)],[(au 1 I a)]⟩
def HS (a8 eA:List Int)(eN gG:Int)(ai:List Int):Option ((Int×(List Int))⊕((List Int))) :=
 if (decide (gG<eN))=true then
  if 0≤gG∧gG<eA.length then
  eA[gG.toNat]? >>= fun aM =>
  NZ a8 gG aM eA eN (len_ I a8) 0 0 ai >>= fun br =>
  if 0≤(U (gG+(len_ I a8)))∧(U (gG+(len_ I a8)))<(br.2.length:Nat) then
  if (0+(U (gG+(len_ I a8))).toNat)<br.2.length then
  some (.inl (U (gG+(1:Int)),br.2.set (0+(U (gG+(len_ I a8))).toNat) br.1))
  else none
  else none
  else none
 else
  some (.inr ai)
def I5 (a8 eA:List Int)(eN gG:Int)(ai:List Int):Option ((List Int)):=iter (fun w:Int×(List Int)=>HS a8 eA eN w.1 w.2) (gG,ai)
theorem U5 {a8 eA:List Int}{eN gG:Int}{ai:List Int}:bV (HS a8 eA eN gG ai) (fV bt 72 0 93 [1,1,1,0,1,0,0] (HR a8 eA eN (gG,ai)) (HR a8 eA eN) (Ia a8 eA eN)):=by
 unfold HS
 exact .ite (fun o =>
  .bn fun J =>
  .ay fun aM aF =>
  .ay fun br bp =>
  .bn fun bJ =>
  .bn fun bu =>
  .ret (let aL:=U (gG+(len_ I a8));bQ [(ad 1),.ap true,.aI (bL 2 (.cz (I aM)) 2),(ad 1),(ad 3),.bm [0] [.pure] (bX [1,5,6,7,8,26,27,28,33,34,35]),(H9 a8 gG aM eA eN (len_ I a8) br).gL,.aI (av 7 (aq .c4 [])),(ad 2),.bm [0] [.dY (au 1 I (br.2.set (0+aL.toNat) br.1))] [(1,ii),(5,gz ((br.2.set (0+aL.toNat) br.1).length)),(26,ii),(27,ii),(28,ii)]] (.bo o J.1 (eI I J.2) (cD I aF) (aD 1 .live aA ai) (VT bp) bJ.1 bJ.2 (.eR (hB I bu) (g8 1) (eB 1 .live (gi (ej I br.2) (0+aL.toNat) br.1)) (aD 1 .live aA (br.2.set (0+aL.toNat) br.1)) (hg (fP br.2) (0+aL.toNat) br.1)))))
  (fun o =>
  .ret (bQ [(ad 1),.ap false,.bm [0] [.pure] (bX [5])] (.aH o (aD 1 .live aA ai))))
theorem VU {a8 eA:List Int}{eN gG:Int}{ai:List Int}{r} (h:I5 a8 eA eN gG ai=some r):fW bt 72 0 93 [1,1,1,0,1,0,0] (HR a8 eA eN) (Ia a8 eA eN) (gG,ai) r:=fZ (fun _=>U5) h
def x4 (a9 a8:List Int):Option (Nat×(List Int)) :=
 if ((len_ I a9) == (0:Int))=true then
  none
 else
  if ((len_ I a8) == (0:Int))=true then
   none
  else
   if 0≤(U ((len_ I a9)+(len_ I a8)))∧(8:Int)*(U ((len_ I a9)+(len_ I a8)))≤281474976710656∧(U ((len_ I a9)+(len_ I a8)))<9223372036854775808 then
   I5 a8 a9 (len_ I a9) 0 (List.replicate (U ((len_ I a9)+(len_ I a8))).toNat 0:List Int) >>= fun aw =>
   Ak aw >>= fun bI =>
   some (bI,aw)
   else none
theorem N0 {a9 a8:List Int}:bV (x4 a9 a8) (fun a=>Con bt 93 [.isl 1 (a9.map I),.isl 1 (a8.map I)] [] (.bx 0 0 0 a.1) [(au 1 I a.2)]):=by
 unfold x4
 exact .ite (fun o =>
  .SF)
  (fun o =>
  .ite (fun J =>
  .SF)
  (fun J =>
  .bn fun af =>
  .ay fun aw aJ =>
  .ay fun bI bJ =>
  .ret (let aL:=U ((len_ I a9)+(len_ I a8));let bg:=(List.replicate aL.toNat 0:List Int);h2 [(ad 1),.aI (av 7 (aq (.ap false) [])),.ap false,(ad 7),(ad 3),.bm [14] [.dY (au 1 I bg)] [(1,ii),(5,gz (bg.length)),(26,ii),(27,ii),(28,ii)],(Ia a8 a9 (len_ I a9) aw).gL,.aI (bL 1 (.call {aO:=[.row 0],cu:=[.pure],ac:=[ii],r:= .bx 0 0 0 bI,dg:=[(au 1 I aw)],eL:=ii,fq:=[.pure],dZ:=[0],dr:=false}) 1)] [0] [.pure] (.bo o o o o J af.1 (Int.le_refl aL) af.2.1 (.bo af.2.2 (eB 1 .live (kr I aL.toNat 0)) (aD 1 .live aA bg) (kI aL.toNat (0:Int)) (VU aJ) (du 1 aA aw) (du 1 aA aw) (WJ bI bJ) (.aC (aD 1 .live aA aw)))))))
def Ib (fH eS:Nat)(dd:List Int)(jR cB:Int):(Int×Int×(List Int))→S:=fun (eV,cw,ai)=>fh [(0,.bx 0 0 fH eS),(1,.isl 1 (dd.map I)),(2,.n .i64 jR),(7,.n .i64 eV),(11,.isl 1 (dd.map I)),(12,.n .i64 cB),(13,.n .i64 cw)] [(au 1 I ai)]
def Iy (fH eS:Nat)(dd:List Int)(jR cB:Int):(Int×(List Int))→fp
 | a=>⟨some 0,[(0,.bx 0 0 fH eS),(1,.isl 1 (dd.map I)),(7,.n .i64 a.1)],[(au 1 I a.2)]⟩
def uS (fH eS:Nat)(dd:List Int)(jR cB eV cw:Int)(ai:List Int):Option ((Int×Int×(List Int))⊕(Int×(List Int))) :=
 if (decide (cw<cB))=true then
  if 0≤cw∧cw<dd.length then
  dd[cw.toNat]? >>= fun aM =>
  if 0≤cw∧cw<(eS:Nat) then
  ai[(fH+cw.toNat)]? >>= fun cy =>
  if (decide ((U ((U (cy-(U (jR*aM))))-eV))<(0:Int)))=true then
   if (fH+cw.toNat)<ai.length then
   some (.inl (U ((U ((999999999:Int)-(U ((U (cy-(U (jR*aM))))-eV)))).tdiv (1000000000:Int)),U (cw+(1:Int)),ai.set (fH+cw.toNat) (U ((U ((U (cy-(U (jR*aM))))-eV))+(U ((U ((U ((999999999:Int)-(U ((U (cy-(U (jR*aM))))-eV)))).tdiv (1000000000:Int)))*(1000000000:Int)))))))
   else none
  else
   if (fH+cw.toNat)<ai.length then
   some (.inl (0,U (cw+(1:Int)),ai.set (fH+cw.toNat) (U ((U (cy-(U (jR*aM))))-eV))))
   else none
  else none
  else none
 else
  some (.inr (eV,ai))
def Jb (fH eS:Nat)(dd:List Int)(jR cB eV cw:Int)(ai:List Int):Option (Int×(List Int)):=iter (fun w:Int×Int×(List Int)=>uS fH eS dd jR cB w.1 w.2.1 w.2.2) (eV,cw,ai)
theorem Vm {fH eS:Nat}{dd:List Int}{jR cB eV cw:Int}{ai:List Int}:bV (uS fH eS dd jR cB eV cw ai) (fV bt 56 1 120 [1,1,0,1,0,0] (Ib fH eS dd jR cB (eV,cw,ai)) (Ib fH eS dd jR cB) (Iy fH eS dd jR cB)):=by
 unfold uS
 exact .ite (fun o =>
  .bn fun J =>
  .ay fun aM aF =>
  .bn fun aJ =>
  .ay fun cy bJ =>
  (let t1:List cG:=[(ad 1),.ap true,.aI (bL 2 (.cz (I aM)) 2),.aI (bL 3 (.cz (I cy)) 7),(ad 1),(ad 2)];
  have a5:=((.fC o J.1 (eI I J.2) (cD I aF) aJ.1 aJ.2 (cD I bJ)):cW _);
  .ite (fun bu =>
  .bn fun c9 =>
  .ret (let aL:=(U ((U ((U (cy-(U (jR*aM))))-eV))+(U ((U ((U ((999999999:Int)-(U ((U (cy-(U (jR*aM))))-eV)))).tdiv (1000000000:Int)))*(1000000000:Int)))));bQ (t1.append [.ap true,(ad 4),(ad 5),.aI (av 4 (aq .c4 [])),(ad 2),.bm [0] [.dY (au 1 I (ai.set (fH+cw.toNat) aL))] (bX [0,1,2,7,11,12,13])]) (a5.a1 (.h6 bu (by decide:(1000000000:Int)≠0) aJ.1 aJ.2 (hB I c9) (g8 1) (eB 1 .live (gi (ej I ai) (fH+cw.toNat) aL)) (aD 1 .live aA (ai.set (fH+cw.toNat) aL))))))
  (fun bu =>
  .bn fun c9 =>
  .ret (let bg:=U ((U (cy-(U (jR*aM))))-eV);bQ (t1.append [.ap false,.aI (av 4 (aq .c4 [])),(ad 2),.bm [0] [.dY (au 1 I (ai.set (fH+cw.toNat) bg))] (bX [0,1,2,7,11,12,13])]) (a5.a1 (.fC bu aJ.1 aJ.2 (hB I c9) (g8 1) (eB 1 .live (gi (ej I ai) (fH+cw.toNat) bg)) (aD 1 .live aA (ai.set (fH+cw.toNat) bg))))))))
  (fun o =>
  .ret (bQ [(ad 1),.ap false,.bm [0] [.pure] (bX [0,1,7])] (.aH o (aD 1 .live aA ai))))
theorem Wc {fH eS:Nat}{dd:List Int}{jR cB eV cw:Int}{ai:List Int}{r} (h:Jb fH eS dd jR cB eV cw ai=some r):fW bt 56 1 120 [1,1,0,1,0,0] (Ib fH eS dd jR cB) (Iy fH eS dd jR cB) (eV,cw,ai) r:=fZ (fun _=>Vm) h
def Al (dd:List Int)(jR:Int)(fH eS:Nat)(dn:List Int):Option (Bool×(List Int)) :=
 Jb fH eS dd jR (len_ I dd) 0 0 dn >>= fun ae =>
 if 0≤(len_ I dd)∧(len_ I dd)<(eS:Nat) then
 ae.2[(fH+(len_ I dd).toNat)]? >>= fun gP =>
 if (fH+(len_ I dd).toNat)<ae.2.length then
 (ae.2.set (fH+(len_ I dd).toNat) (U (gP-ae.1)))[(fH+(len_ I dd).toNat)]? >>= fun gD =>
 some ((decide (gD<(0:Int))),ae.2.set (fH+(len_ I dd).toNat) (U (gP-ae.1)))
 else none
 else none
theorem WK {dd:List Int}{jR:Int}{fH eS:Nat}{dn:List Int}:bV (Al dd jR fH eS dn) (fun a=>Con bt 120 (ads 0 0 fH eS dd jR) [(au 1 I dn)] (.b a.1) [(au 1 I a.2)]):=by
 unfold Al
 exact .ay fun ae J =>
  .bn fun af =>
  .ay fun gP aJ =>
  .bn fun bp =>
  .ay fun gD bu =>
  .ret (let aL:=U (gP-ae.1);let bg:=len_ I dd;h2 [(ad 1),(ad 1),(ad 3),.bm [0] [.pure] (bX [0,1,2,7,11,12,13]),(Iy fH eS dd jR bg ae).gL,.aI (av 4 (aq (.cz (I gP)) (av 3 (aq .c4 [])))),.aI (bL 4 (.cz (I gD)) 2)] [0] [.dY (au 1 I (ae.2.set (fH+bg.toNat) aL))] (.bo (aD 1 .live aA dn) (Wc J) af.1 af.2 (cD I aJ) af.1 af.2 (hB I bp) (.fG (g8 1) af.1 af.2 (Qq (gi (ej I ae.2) (fH+bg.toNat) aL) bu) (eB 1 .live (gi (ej I ae.2) (fH+bg.toNat) aL)) (aD 1 .live aA (ae.2.set (fH+bg.toNat) aL)))))
def Ic (fH eS:Nat)(dd:List Int)(hx:Int):(Int×Int×(List Int))→S:=fun (eV,eT,ai)=>fh [(0,.bx 0 0 fH eS),(1,.isl 1 (dd.map I)),(4,.n .i64 eV),(8,.isl 1 (dd.map I)),(9,.n .i64 hx),(10,.n .i64 eT)] [(au 1 I ai)]
def Iz (fH eS:Nat)(dd:List Int)(hx:Int):(Int×(List Int))→fp
 | a=>⟨some 0,[(0,.bx 0 0 fH eS),(1,.isl 1 (dd.map I)),(4,.n .i64 a.1)],[(au 1 I a.2)]⟩
def xF (fH eS:Nat)(dd:List Int)(hx eV eT:Int)(ai:List Int):Option ((Int×Int×(List Int))⊕(Int×(List Int))) :=
 if (decide (eT<hx))=true then
  if 0≤eT∧eT<dd.length then
  dd[eT.toNat]? >>= fun aM =>
  if 0≤eT∧eT<(eS:Nat) then
  ai[(fH+eT.toNat)]? >>= fun cy =>
  if (fH+eT.toNat)<ai.length then
  some (.inl (U ((U ((U (cy+aM))+eV)).tdiv (1000000000:Int)),U (eT+(1:Int)),ai.set (fH+eT.toNat) ((U ((U (cy+aM))+eV)).tmod (1000000000:Int))))
  else none
  else none
  else none
 else
  some (.inr (eV,ai))
def Jc (fH eS:Nat)(dd:List Int)(hx eV eT:Int)(ai:List Int):Option (Int×(List Int)):=iter (fun w:Int×Int×(List Int)=>xF fH eS dd hx w.1 w.2.1 w.2.2) (eV,eT,ai)
theorem Vn {fH eS:Nat}{dd:List Int}{hx eV eT:Int}{ai:List Int}:bV (xF fH eS dd hx eV eT ai) (fV bt 39 1 121 [1,0,1,0,0] (Ic fH eS dd hx (eV,eT,ai)) (Ic fH eS dd hx) (Iz fH eS dd hx)):=by
 unfold xF
 exact .ite (fun o =>
  .bn fun J =>
  .ay fun aM aF =>
  .bn fun aJ =>
  .ay fun cy bJ =>
  .bn fun bu =>
  .ret (let aL:=U ((U (cy+aM))+eV);bQ [(ad 1),.ap true,.aI (bL 2 (.cz (I aM)) 2),.aI (bL 3 (.cz (I cy)) 5),.aI (bL 7 .c4 1),(ad 2),.bm [0] [.dY (au 1 I (ai.set (fH+eT.toNat) (aL.tmod (1000000000:Int))))] (bX [0,1,4,8,9,10])] (.bo o J.1 (eI I J.2) (cD I aF) aJ.1 aJ.2 (cD I bJ) (by decide:(1000000000:Int)≠0) (.fC (by decide:(1000000000:Int)≠0) aJ.1 aJ.2 (hB I bu) (g8 1) (eB 1 .live (gi (ej I ai) (fH+eT.toNat) (aL.tmod (1000000000:Int)))) (aD 1 .live aA (ai.set (fH+eT.toNat) (aL.tmod (1000000000:Int))))))))
  (fun o =>
  .ret (bQ [(ad 1),.ap false,.bm [0] [.pure] (bX [0,1,4])] (.aH o (aD 1 .live aA ai))))
theorem Wd {fH eS:Nat}{dd:List Int}{hx eV eT:Int}{ai:List Int}{r} (h:Jc fH eS dd hx eV eT ai=some r):fW bt 39 1 121 [1,0,1,0,0] (Ic fH eS dd hx) (Iz fH eS dd hx) (eV,eT,ai) r:=fZ (fun _=>Vn) h
def x6 (dd:List Int)(fH eS:Nat)(dn:List Int):Option (List Int) :=
 Jc fH eS dd (len_ I dd) 0 0 dn >>= fun ae =>
 if 0≤(len_ I dd)∧(len_ I dd)<(eS:Nat) then
 ae.2[(fH+(len_ I dd).toNat)]? >>= fun gP =>
 if (fH+(len_ I dd).toNat)<ae.2.length then
 some (ae.2.set (fH+(len_ I dd).toNat) (U (gP+ae.1)))
 else none
 else none
theorem WL {dd:List Int}{fH eS:Nat}{dn:List Int}:bV (x6 dd fH eS dn) (fun a=>Con bt 121 [.bx 0 0 fH eS,.isl 1 (dd.map I)] [(au 1 I dn)] (.cY []) [(au 1 I a)]):=by
 unfold x6
 exact .ay fun ae J =>
  .bn fun af =>
  .ay fun gP aJ =>
  .bn fun bp =>
  .ret (let aL:=U (gP+ae.1);let bg:=len_ I dd;h2 [(ad 1),(ad 3),.bm [0] [.pure] (bX [0,1,4,8,9,10]),(Iz fH eS dd bg ae).gL,.aI (av 4 (aq (.cz (I gP)) (av 3 (aq .c4 []))))] [0] [.dY (au 1 I (ae.2.set (fH+bg.toNat) aL))] (.bo (aD 1 .live aA dn) (Wd J) af.1 af.2 (cD I aJ) af.1 af.2 (hB I bp) (.cd (g8 1) (eB 1 .live (gi (ej I ae.2) (fH+bg.toNat) aL)) (aD 1 .live aA (ae.2.set (fH+bg.toNat) aL)))))
end Go.Proofs.YtojbgalflbgajabGreat
