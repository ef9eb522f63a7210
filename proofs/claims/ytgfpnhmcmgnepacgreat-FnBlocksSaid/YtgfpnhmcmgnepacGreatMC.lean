/- Lemmas, plain functions of the program, and what they answer. No condition. -/
import Derived.Test.YtgfpnhmcmgnepacGreatChecked
import Derived.Test.YtgfpnhmcmgnepacGreatMB
namespace Go.VL
set_option linter.unusedVariables false
set_option linter.unusedSimpArgs false
def oc (m n:Nat)(a:Nat→Nat→Int)(b:Nat→Int)(x:Nat→Rat):Prop:=(∀j,j<n→0≤x j)∧ ∀i,i<m→bZ n (fun j=>(a i j:Rat)*x j)=(b i:Rat)
def val (n:Nat)(I x:Nat→Rat):Rat:=bZ n (fun j=>I j*x j)
def iq (c:Nat→Rat)(l j:Nat):Rat:=match l with
 | 0=>c j
 | l+1=>if j=l then -1 else 0
def sU (m n:Nat)(a:Nat→Nat→Int)(b:Nat→Int)(c x:Nat→Rat):Prop :=
 oc m n a b x∧ ∀y,oc m n a b y→ ¬hO (n+1) (fun l=>val n (iq c l) y-val n (iq c l) x)
def Bounded (m n:Nat)(a:Nat→Nat→Int)(b:Nat→Int)(c:Nat→Rat):Prop:= ∃V,∀y,oc m n a b y→val n c y≤V
section
variable {m n:Nat} {a:Nat→Nat→Int} {b:Nat→Int} {c:Nat→Rat}
theorem X1 {x:Nat→Rat}{j:Nat}(aA:j<n):val n (iq c (j+1)) x = - x j:=by
 unfold val
 rw [kq aA (f:=fun i=>iq c (j+1) i*x i) (fun i ag cu=>by simp only [iq];rw [if_neg cu];grind)]
 simp only [iq,if_true];grind
theorem sU.unique {x y:Nat→Rat}(aa:sU m n a b c x)(aK:sU m n a b c y):(∀j,j<n→x j=y j)∧val n c x=val n c y:=by
 rcases DP (n+1) (fun l=>val n (iq c l) y-val n (iq c l) x) with h|h|h
 ·exact (aa.2 y aK.1 h).elim
 ·refine ⟨fun j aA=> ?_,?_⟩
  ·have:=h (j+1) (by omega)
   simp only [X1 aA] at this;grind
  ·have:=h 0 (by omega)
   simp only at this
   have e:iq c 0=c:=rfl
   rw [e] at this;grind
 ·exact (aK.2 x aa.1 (h.congr fun l _=>by grind)).elim
theorem sU.aeB {x y:Nat→Rat}(aa:sU m n a b c x)(aK:oc m n a b y):val n c y≤val n c x:=by
 apply Classical.byContradiction
 intro h
 refine aa.2 y aK ⟨0,by omega,?_,fun l aL=>by omega⟩
 have e:iq c 0=c:=rfl
 simp only [e];grind
structure LT (m n:Nat) (a:Nat→Nat→Int) (b:Nat→Int) (a4 N:Nat) (u:cm):Prop where
 eqv : ∀x:Nat→Rat,(∀i,i<m→bZ n (fun j=>(a i j:Rat)*x j)=(b i:Rat))↔ ∀i,i<a4→bZ n (fun j=>u.T i j*x j)=u.T i N
 unit : ∀i,i<a4→ ∀k,k<a4→u.T i (u.B k)=if i=k then 1 else 0
 ki : ∀i,i<a4→u.B i<n
 mh:u.lq a4 N
 L1:n≤N
variable {a4 N:Nat} {u:cm}
theorem LT.Ej (h:LT m n a b a4 N u)(f:Nat→Rat):bZ n (fun j=>f j*u.gH a4 N j)=bZ a4 (fun i=>f (u.B i)*u.T i N):=by
 unfold cm.gH
 rw [fi (g:=fun j=>bZ a4 (fun i=>if u.B i=j then f (u.B i)*u.T i N else 0)) (fun j _=>by
  rw [← ic];exact fi fun i _=>by split<;>grind),pL]
 exact fi fun i ag=>by rw [kq (h.ki i ag) (f:=fun j=>if u.B i=j then f (u.B i)*u.T i N else 0) (fun j _ cu=>if_neg fun x=>cu x.symm),if_pos rfl]
theorem LT.gH (h:LT m n a b a4 N u):oc m n a b (u.gH a4 N):=by
 refine ⟨fun j _=>h.mh.gH j,(h.eqv _).2 fun i ag=> ?_⟩
 rw [h.Ej,kq ag (f:=fun k=>u.T i (u.B k)*u.T k N) (fun k aX cu=>by rw [h.unit i ag k aX,if_neg (fun e=>cu e.symm)];grind),h.unit i ag i ag,if_pos rfl];grind
theorem LT.JA (h:LT m n a b a4 N u)(I:Nat→Rat){x:Nat→Rat}(aa:oc m n a b x):bZ n (fun j=>u.dz a4 I j*x j)=val n I x-val n I (u.gH a4 N):=by
 have ap:=(h.eqv x).1 aa.2
 unfold val cm.dz
 rw [h.Ej I,fi (g:=fun j=>I j*x j-bZ a4 (fun i=>I (u.B i)*(u.T i j*x j))) (fun j _=>by
  rw [fi (f:=fun i=>I (u.B i)*(u.T i j*x j)) (g:=fun i=>x j*(I (u.B i)*u.T i j)) (fun i _=>by grind),ic];grind),qK,pL]
 congr 1
 exact fi fun i ag=>by rw [ic,ap i ag]
theorem LT.xO (h:LT m n a b a4 N u)(I:Nat→Rat){i:Nat}(ag:i<a4):u.dz a4 I (u.B i)=0:=by
 unfold cm.dz
 rw [kq ag (f:=fun k=>I (u.B k)*u.T k (u.B i)) (fun k aX cu=>by rw [h.unit k aX i ag,if_neg cu];grind),h.unit i ag i ag,if_pos rfl];grind
theorem LT.nd (h:LT m n a b a4 N u)(dN:∀j,j<n→ ¬u.FH a4 (n+1) (iq c) j):sU m n a b c (u.gH a4 N):=by
 refine ⟨h.gH,fun y aK aL=> ?_⟩
 have Fi:hO (n+1) (fun l=>bZ n (fun j=>u.dz a4 (iq c l) j*y j)):=aL.congr fun l _=>(h.JA (iq c l) aK).symm
 obtain ⟨j,aA,ah⟩:=hO.JY (v:=fun j l=>u.dz a4 (iq c l) j*y j) Fi
 rcases (ah.congr (fU:=fun l=>y j*u.dz a4 (iq c l) j) fun l _=>Rat.mul_comm _ _).Qe with ⟨-,R⟩|⟨R,-⟩
 ·exact dN j aA R
 ·have:=aK.1 j aA;grind
theorem LT.Le (h:LT m n a b a4 N u)(I:Nat→Rat){s:Nat}(bW:s<n)(dN:0<u.dz a4 I s)(ht:∀i,i<a4→ ¬0<u.T i s): ¬Bounded m n a b I:=by
 rintro ⟨V,hV⟩
 have bh : ∀f:Nat→Rat,bZ n (fun j=>f j*u.dir a4 s j)=f s-bZ a4 (fun i=>f (u.B i)*u.T i s):=fun f=>by
  unfold cm.dir
  rw [fi (g:=fun j=>(if j=s then f s else 0)-bZ a4 (fun i=>if u.B i=j then f (u.B i)*u.T i s else 0)) (fun j _=>by
   have e:bZ a4 (fun i=>if u.B i=j then f (u.B i)*u.T i s else 0)=f j*bZ a4 (fun i=>if u.B i=j then u.T i s else 0):=by
    rw [← ic];exact fi fun i _=>by split<;>grind
   rw [e];split<;>grind),qK,kq bW (f:=fun j=>if j=s then f s else 0) (fun i _ cu=>if_neg cu),if_pos rfl,pL]
  congr 1
  exact fi fun i ag=>by rw [kq (h.ki i ag) (f:=fun j=>if u.B i=j then f (u.B i)*u.T i s else 0) (fun j _ cu=>if_neg fun x=>cu x.symm),if_pos rfl]
 have pos : ∀j,0≤u.dir a4 s j:=fun j=>by
  unfold cm.dir
  have o:0≤bZ a4 (fun i=> -(if u.B i=j then u.T i s else 0)):=rp fun i ag=>by
   have:=ht i ag
   split<;>grind
  rw [fi (g:=fun i=>(-1)*(if u.B i=j then u.T i s else 0)) (fun i _=>by grind),ic] at o
  split<;>grind
 have Le : ∀wC:Rat,0≤wC→oc m n a b (fun j=>u.gH a4 N j+wC*u.dir a4 s j)∧val n I (fun j=>u.gH a4 N j+wC*u.dir a4 s j)=val n I (u.gH a4 N)+wC*u.dz a4 I s:=fun wC L0=>by
  have RB : ∀f:Nat→Rat,bZ n (fun j=>f j*(u.gH a4 N j+wC*u.dir a4 s j))=bZ n (fun j=>f j*u.gH a4 N j)+wC*(f s-bZ a4 (fun i=>f (u.B i)*u.T i s)):=fun f=>by
   rw [← bh f,← ic,← ve]
   exact fi fun j _=>by grind
  refine ⟨⟨fun j _=> ?_,(h.eqv _).2 fun i ag=> ?_⟩,RB I⟩
  ·have o:=h.mh.gH (m:=a4) (N:=N) j
   have R:=Rat.mul_nonneg L0 (pos j)
   grind
  ·rw [RB (u.T i),(h.eqv _).1 h.gH.2 i ag,kq ag (f:=fun k=>u.T i (u.B k)*u.T k s) (fun k aX cu=>by rw [h.unit i ag k aX,if_neg (fun e=>cu e.symm)];grind),h.unit i ag i ag,if_pos rfl];grind
 have RC:=hV _ h.gH
 have cu:u.dz a4 I s≠0:=by grind
 obtain ⟨an,cb⟩:=Le ((V-val n I (u.gH a4 N)+1) / u.dz a4 I s) (by
  rw [Rat.div_def]
  exact Rat.mul_nonneg (by grind) (Rat.le_of_lt (Rat.inv_pos.2 dN)))
 have ad:=hV _ an
 rw [cb] at ad
 have:(V-val n I (u.gH a4 N)+1) / u.dz a4 I s*u.dz a4 I s=V-val n I (u.gH a4 N)+1:=by grind
 grind
theorem LT.c4 (h:LT m n a b a4 N u){r k:Nat}(ap:r<a4)(aX:k<n)(ah:u.T r k≠0)(b9:(u.c4 r k).lq a4 N):LT m n a b a4 N (u.c4 r k) where
 eqv:=fun x=>by
  rw [h.eqv x]
  have aw:bZ n (fun j=>(u.c4 r k).T r j*x j)=(1 / u.T r k)*bZ n (fun j=>u.T r j*x j):=by
   rw [← ic]
   exact fi fun j _=>by simp only [cm.c4,if_true];grind
  have aC : ∀i,i≠r→bZ n (fun j=>(u.c4 r k).T i j*x j)=bZ n (fun j=>u.T i j*x j)-(u.T i k / u.T r k)*bZ n (fun j=>u.T r j*x j):=fun i ag=>by
   rw [← ic,← qK]
   exact fi fun j _=>by simp only [cm.c4,if_neg ag];grind
  have ho:(u.c4 r k).T r N=(1 / u.T r k)*u.T r N:=by simp only [cm.c4,if_true];grind
  have jN : ∀i,i≠r→(u.c4 r k).T i N=u.T i N-(u.T i k / u.T r k)*u.T r N:=fun i ag=>by simp only [cm.c4,if_neg ag];grind
  constructor
  ·intro aa i ag
   by_cases c:i=r
   ·rw [c,aw,ho,aa r ap]
   ·rw [aC i c,jN i c,aa i ag,aa r ap]
  ·intro aa
   have RD:bZ n (fun j=>u.T r j*x j)=u.T r N:=by
    have:=aa r ap
    rw [aw,ho] at this
    have R:u.T r k*((1 / u.T r k)*bZ n (fun j=>u.T r j*x j))=u.T r k*((1 / u.T r k)*u.T r N):=by rw [this]
    grind
   intro i ag
   by_cases c:i=r
   ·rw [c];exact RD
   ·have:=aa i ag
    rw [aC i c,jN i c,RD] at this
    grind
 unit:=by
  intro i ag dI m9
  simp only [cm.c4]
  by_cases e:i=r
  ·subst e
   simp only [if_true]
   by_cases eD:dI=i
   ·subst eD;simp only [if_true];grind
   ·simp only [if_neg eD]
    rw [h.unit i ag dI m9,if_neg (fun x=>eD x.symm)];grind
  ·simp only [if_neg e]
   by_cases eD:dI=r
   ·subst eD;simp only [if_true,if_neg e];grind
   ·simp only [if_neg eD]
    rw [h.unit i ag dI m9,h.unit r ap dI m9,if_neg (c:=r=dI) (fun x=>eD x.symm)];grind
 ki:=fun i ag=>by
  simp only [cm.c4]
  split
  ·exact aX
  ·exact h.ki i ag
 mh:=b9
 L1:=h.L1
theorem LT.tok (h:LT m n a b a4 N u)(a1:n≤N)(fC:0<N):gf a4 a4 N u.T u where
 ra:=fun c aP j _=>by
  rw [kq aP (f:=fun i=>u.T c (u.B i)*u.T i j) (fun i ag cu=>by rw [h.unit c aP i ag,if_neg (fun e=>cu e.symm)];grind),h.unit c aP c aP,if_pos rfl];grind
 row:=⟨fun i c=>if i=c then 1 else 0,fun i ag j _=>by
  rw [kq ag (f:=fun c=>(if i=c then (1:Rat) else 0)*u.T c j) (fun c _ cu=>by rw [if_neg (Ne.symm cu)];grind),if_pos rfl];grind⟩
 unit:=h.unit
 ki:=fun i ag=>Nat.lt_of_lt_of_le (h.ki i ag) a1
def uk (n:Nat)(dj:Nat→Bool)(x:Nat→Rat):Prop:= ∀j,j<n→dj j=false→x j=0
structure px (m n:Nat) (a:Nat→Nat→Int) (b:Nat→Int) (c:Nat→Rat) (l:Nat) (dj:Nat→Bool) (V:Nat→Rat):Prop where
 low : ∀y,oc m n a b y→uk n dj y→ ∀k,k<l→val n (iq c k) y=V k
 up : ∀y,oc m n a b y→ ¬uk n dj y→ ∃k,k<l∧val n (iq c k) y<V k∧ ∀q,q<k→val n (iq c q) y=V q
theorem px.zero {dj:Nat→Bool}(h:∀j,j<n→dj j=true)(V:Nat→Rat):px m n a b c 0 dj V where
 low:=fun y _ _ k aX=>by omega
 up:=fun y _ b9=>(b9 fun j aA e=>by rw [h j aA] at e;cases e).elim
theorem px.next (h:LT m n a b a4 N u){l:Nat}{dj kW:Nat→Bool}{V:Nat→Rat}(s:px m n a b c l dj V)(dN:∀j,j<n→dj j=true→ ¬0<u.dz a4 (iq c l) j)
 (pY : ∀j,j<n→kW j=(dj j && !decide (u.dz a4 (iq c l) j<0))) : ∃Cm,px m n a b c (l+1) kW Cm:=by
 have sub : ∀y,uk n kW y→uk n dj y:=fun y aK j aA e=>aK j aA (by rw [pY j aA,e];rfl)
 have neg : ∀y,oc m n a b y→uk n dj y→ ∀j,j<n→0≤ -(u.dz a4 (iq c l) j*y j):=fun y aK b9 j aA=>by
  cases e:dj j with
  | false=>rw [b9 j aA e];grind
  | true =>
   have:=Rat.mul_nonneg (show 0≤ -(u.dz a4 (iq c l) j) by have:=dN j aA e;grind) (aK.1 j aA)
   grind
 refine ⟨fun k=>if k=l then val n (iq c l) (u.gH a4 N) else V k,fun y aK b9 k aX=> ?_,fun y aK b9=> ?_⟩
 ·by_cases e:k=l
  ·rw [if_pos e,e]
   have cd:bZ n (fun j=>u.dz a4 (iq c l) j*y j)=0:=nN fun j aA=>by
    cases e:kW j with
    | false=>rw [b9 j aA e];grind
    | true =>
     rw [pY j aA,Bool.and_eq_true] at e
     have o:=dN j aA e.1
     have R : ¬u.dz a4 (iq c l) j<0:=by simpa using e.2
     have:u.dz a4 (iq c l) j=0:=by grind
     rw [this];grind
   rw [h.JA _ aK] at cd;grind
  ·rw [if_neg e]
   exact s.low y aK (sub y b9) k (by omega)
 ·by_cases g:uk n dj y
  ·refine ⟨l,by omega,?_,fun q a6=>by rw [if_neg (by omega)];exact s.low y aK g q a6⟩
   rw [if_pos rfl]
   have o:=h.JA (iq c l) aK
   have R:=neg y aK g
   have ad:=rp R
   have aD:bZ n (fun j=> -(u.dz a4 (iq c l) j*y j))≠0:=fun e=>b9 fun j aA Sk=>by
    have:=IC R e j aA
    cases aw:dj j with
    | false=>exact g j aA aw
    | true =>
     rw [pY j aA,aw,Bool.true_and] at Sk
     have aM:u.dz a4 (iq c l) j<0:=by simpa using Sk
     grind
   rw [fi (g:=fun j=>(-1)*(u.dz a4 (iq c l) j*y j)) (fun j _=>by grind),ic,o] at ad aD
   grind
  ·obtain ⟨k,j8,jM,nJ⟩:=s.up y aK g
   exact ⟨k,by omega,by rw [if_neg (by omega)];exact jM,fun q a6=>by rw [if_neg (by omega)];exact nJ q a6⟩
theorem px.nd (h:LT m n a b a4 N u){dj:Nat→Bool}{V:Nat→Rat}(s:px m n a b c (n+1) dj V)(aJ:∀i,i<a4→dj (u.B i)=true):sU m n a b c (u.gH a4 N):=by
 have aa:uk n dj (u.gH a4 N):=fun j aA e=>cm.IM fun i ag aC=>by
  have:=aJ i ag
  rw [aC,e] at this;cases this
 have a2:=s.low _ h.gH aa
 refine ⟨h.gH,fun y aK ⟨l,mG,qB,L2⟩=> ?_⟩
 by_cases g:uk n dj y
 ·have:=s.low y aK g l mG
  have:=a2 l mG
  grind
 ·obtain ⟨k,j8,jM,nJ⟩:=s.up y aK g
  rcases Nat.lt_trichotomy l k with e|e|e
  ·have:=nJ l e;have:=a2 l mG;grind
  ·subst e;have:=a2 l mG;grind
  ·have:=L2 k e;have:=a2 k j8;grind
theorem LT.W0 (h:LT m n a b a4 N u){k s:Nat}(dN:0<u.dz a4 (iq c (k+1)) s): ∃i,i<a4∧0<u.T i s:=by
 apply Classical.byContradiction
 intro cu
 have o:0≤bZ a4 (fun i=>iq c (k+1) (u.B i)*u.T i s):=rp fun i ag=>by
  have R : ¬0<u.T i s:=fun e=>cu ⟨i,ag,e⟩
  simp only [iq]
  split<;>grind
 unfold cm.dz at dN
 have ad:iq c (k+1) s≤0:=by simp only [iq];split<;>grind
 grind
end
end Go.VL
namespace Go.Proofs.YtgfpnhmcmgnepacGreat
set_option linter.unusedVariables false
set_option linter.unusedSimpArgs false
open Go Go.VL
structure aU where
 iG:ByteArray
 hH:Int
 mR:Int
 iF:Bool
 deriving DecidableEq
structure a5 where
 c0:Int
 c1:Int
 h8:Int
 deriving DecidableEq
structure ca where
 c7:(List aU)
 b2:(List a5)
 deriving DecidableEq
structure bu where
 c0:Int
 c1:Int
 dW:Int
 dX:Int
 deriving DecidableEq
structure X2 where
 iw:(List Int)
 ac6:Int
 ac7:Int
 deriving DecidableEq
structure bg where
 du:Bool
 cY:(List Int)
 deriving DecidableEq
structure gb where
 dW:bg
 dX:(List Int)
 deriving DecidableEq
structure ov where
 ln:Int
 ks:Int
 c0:(List Int)
 c1:(List Int)
 kP:(List Int)
 deriving DecidableEq
structure d8 where
 hx:Int
 sf:Int
 deriving DecidableEq
structure bB where
 qo:bg
 oJ:(List Int)
 deriving DecidableEq
structure rq where
 EI:(List (List bg))
 vW:bg
 Ew:(List Int)
 Kc:Int
 Kd:(List Bool)
 deriving DecidableEq
def dJ (x:aU):List ax:=[.s x.iG,.n .i64 x.hH,.n .i64 x.mR,.b x.iF]
theorem adO : ∀x,∀v∈dJ x,v.iy=true:=by
 intro x v a2
 simp only [dJ,List.mem_cons,List.not_mem_nil,or_false] at a2
 rcases a2 with rfl|rfl|rfl|rfl<;>rfl
theorem adP : ∀x,∀v∈dJ x,cf v:=fun x=>(qc (.s _) (qc (.n _ _) (qc (.n _ _) (qc (.b _) Ef))))
theorem sK : ∀x,∀v∈dJ x,Pure v:=by
 intro x v a2
 simp only [dJ,List.mem_cons,List.not_mem_nil,or_false] at a2
 rcases a2 with rfl|rfl|rfl|rfl
 ·exact .s _
 ·exact .n _ _
 ·exact .n _ _
 ·exact .b _
def db (x:a5):List ax:=[.n .i64 x.c0,.n .i64 x.c1,.n .i64 x.h8]
theorem adK : ∀x,∀v∈db x,v.iy=true:=by
 intro x v a2
 simp only [db,List.mem_cons,List.not_mem_nil,or_false] at a2
 rcases a2 with rfl|rfl|rfl<;>rfl
theorem adL : ∀x,∀v∈db x,cf v:=fun x=>(qc (.n _ _) (qc (.n _ _) (qc (.n _ _) Ef)))
theorem sH : ∀x,∀v∈db x,Pure v:=by
 intro x v a2
 simp only [db,List.mem_cons,List.not_mem_nil,or_false] at a2
 rcases a2 with rfl|rfl|rfl
 ·exact .n _ _
 ·exact .n _ _
 ·exact .n _ _
def ga (x:ca):List ax:=[.isl 4 (x.c7.map dJ),.isl 3 (x.b2.map db)]
theorem adz : ∀x,∀v∈ga x,v.iy=true:=by
 intro x v a2
 simp only [ga,List.mem_cons,List.not_mem_nil,or_false] at a2
 rcases a2 with rfl|rfl<;>rfl
theorem mm : ∀x,∀v∈ga x,Pure v:=by
 intro x v a2
 simp only [ga,List.mem_cons,List.not_mem_nil,or_false] at a2
 rcases a2 with rfl|rfl
 ·exact .isl (d3 sK _)
 ·exact .isl (d3 sH _)
def cG (x:bu):List ax:=[.n .i64 x.c0,.n .i64 x.c1,.n .i64 x.dW,.n .i64 x.dX]
theorem adQ : ∀x,∀v∈cG x,v.iy=true:=by
 intro x v a2
 simp only [cG,List.mem_cons,List.not_mem_nil,or_false] at a2
 rcases a2 with rfl|rfl|rfl|rfl<;>rfl
theorem adR : ∀x,∀v∈cG x,cf v:=fun x=>(qc (.n _ _) (qc (.n _ _) (qc (.n _ _) (qc (.n _ _) Ef))))
theorem nM : ∀x,∀v∈cG x,Pure v:=by
 intro x v a2
 simp only [cG,List.mem_cons,List.not_mem_nil,or_false] at a2
 rcases a2 with rfl|rfl|rfl|rfl
 ·exact .n _ _
 ·exact .n _ _
 ·exact .n _ _
 ·exact .n _ _
def DR (x:X2):List ax:=[.isl 1 (x.iw.map eU8),.n .i64 x.ac6,.n .i64 x.ac7]
theorem adG : ∀x,∀v∈DR x,v.iy=true:=by
 intro x v a2
 simp only [DR,List.mem_cons,List.not_mem_nil,or_false] at a2
 rcases a2 with rfl|rfl|rfl<;>rfl
theorem adA : ∀x,∀v∈DR x,Pure v:=by
 intro x v a2
 simp only [DR,List.mem_cons,List.not_mem_nil,or_false] at a2
 rcases a2 with rfl|rfl|rfl
 ·exact .isl (d3 OY _)
 ·exact .n _ _
 ·exact .n _ _
def aN (x:bg):List ax:=[.b x.du,.isl 1 (x.cY.map J)]
theorem ef : ∀x,∀v∈aN x,v.iy=true:=by
 intro x v a2
 simp only [aN,List.mem_cons,List.not_mem_nil,or_false] at a2
 rcases a2 with rfl|rfl<;>rfl
theorem sI : ∀x,∀v∈aN x,Pure v:=by
 intro x v a2
 simp only [aN,List.mem_cons,List.not_mem_nil,or_false] at a2
 rcases a2 with rfl|rfl
 ·exact .b _
 ·exact .isl (d3 aF _)
def g7 (x:gb):List ax:=[.b x.dW.du,.isl 1 (x.dW.cY.map J),.isl 1 (x.dX.map J)]
theorem aeb : ∀x,∀v∈g7 x,v.iy=true:=by
 intro x v a2
 simp only [g7,List.mem_cons,List.not_mem_nil,or_false] at a2
 rcases a2 with rfl|rfl|rfl<;>rfl
theorem DI : ∀x,∀v∈g7 x,Pure v:=by
 intro x v a2
 simp only [g7,List.mem_cons,List.not_mem_nil,or_false] at a2
 rcases a2 with rfl|rfl|rfl
 ·exact .b _
 ·exact .isl (d3 aF _)
 ·exact .isl (d3 aF _)
def DS (x:ov):List ax:=[.n .i64 x.ln,.n .i64 x.ks,.isl 1 (x.c0.map J),.isl 1 (x.c1.map J),.isl 1 (x.kP.map J)]
theorem adH : ∀x,∀v∈DS x,v.iy=true:=by
 intro x v a2
 simp only [DS,List.mem_cons,List.not_mem_nil,or_false] at a2
 rcases a2 with rfl|rfl|rfl|rfl|rfl<;>rfl
theorem adB : ∀x,∀v∈DS x,Pure v:=by
 intro x v a2
 simp only [DS,List.mem_cons,List.not_mem_nil,or_false] at a2
 rcases a2 with rfl|rfl|rfl|rfl|rfl
 ·exact .n _ _
 ·exact .n _ _
 ·exact .isl (d3 aF _)
 ·exact .isl (d3 aF _)
 ·exact .isl (d3 aF _)
def ev (x:d8):List ax:=[.n .i64 x.hx,.n .i64 x.sf]
theorem adI : ∀x,∀v∈ev x,v.iy=true:=by
 intro x v a2
 simp only [ev,List.mem_cons,List.not_mem_nil,or_false] at a2
 rcases a2 with rfl|rfl<;>rfl
theorem adJ : ∀x,∀v∈ev x,cf v:=fun x=>(qc (.n _ _) (qc (.n _ _) Ef))
theorem u1 : ∀x,∀v∈ev x,Pure v:=by
 intro x v a2
 simp only [ev,List.mem_cons,List.not_mem_nil,or_false] at a2
 rcases a2 with rfl|rfl
 ·exact .n _ _
 ·exact .n _ _
def bd (x:bB):List ax:=[.b x.qo.du,.isl 1 (x.qo.cY.map J),.isl 1 (x.oJ.map J)]
theorem adM : ∀x,∀v∈bd x,v.iy=true:=by
 intro x v a2
 simp only [bd,List.mem_cons,List.not_mem_nil,or_false] at a2
 rcases a2 with rfl|rfl|rfl<;>rfl
theorem kA : ∀x,∀v∈bd x,Pure v:=by
 intro x v a2
 simp only [bd,List.mem_cons,List.not_mem_nil,or_false] at a2
 rcases a2 with rfl|rfl|rfl
 ·exact .b _
 ·exact .isl (d3 aF _)
 ·exact .isl (d3 aF _)
def xP (x:rq):List ax:=[.isl 1 (x.EI.map (fp 2 aN)),.b x.vW.du,.isl 1 (x.vW.cY.map J),.isl 1 (x.Ew.map J),.n .i64 x.Kc,.isl 1 (x.Kd.map dO)]
theorem adD : ∀x,∀v∈xP x,v.iy=true:=by
 intro x v a2
 simp only [xP,List.mem_cons,List.not_mem_nil,or_false] at a2
 rcases a2 with rfl|rfl|rfl|rfl|rfl|rfl<;>rfl
theorem Ip : ∀x,∀v∈xP x,Pure v:=by
 intro x v a2
 simp only [xP,List.mem_cons,List.not_mem_nil,or_false] at a2
 rcases a2 with rfl|rfl|rfl|rfl|rfl|rfl
 ·exact .isl (d3 (qf (sz:=2) sI) _)
 ·exact .b _
 ·exact .isl (d3 aF _)
 ·exact .isl (d3 aF _)
 ·exact .n _ _
 ·exact .isl (d3 ec _)
noncomputable abbrev bx:Program:=Go.Proofs.Tryz.prog
theorem qn:bx.follows .mixedOrders=true:=Go.Proofs.Tryz.checked.mixed
theorem b0 {N m:Nat}{c:Code}{E:List (Nat×ax)}{rows:List (List af)}(tape:List cL){e:Exit}{s:S}{aj:List Prop}(bi:c3 aj)
 (h:Ff bx N m c tape (e2 E rows) rows.length=some (e,s,aj):=by kernel_rfl):jt bx N m c e (e2 E rows) s:=Ov qn h bi (vj _ _)
theorem bM {f:FuncId}{args:List ax}{r:ax}{aj:List Prop}(tape:List cL)(bi:c3 aj)(fu:lC:=ii)
 (h:Bn bx f args [] tape [] [] fu=some (r,[],aj):=by kernel_rfl):Con bx f args [] r []:=WV qn h bi
theorem i1 {f:FuncId}{args:List ax}{T jw:List (List af)}{r:ax}{aj:List Prop}(tape:List cL)(aQ:List Nat)(cO:List iJ)(bi:c3 aj)(fu:lC:=ii)
 (h:Bn bx f args T tape aQ cO fu=some (r,jw,aj):=by kernel_rfl):Con bx f args T r jw:=OX qn h bi
def fA (mO h3:Int)(j2 bI gq gD wt wu L3 L4 Lf vX Lg tm:Nat):List ax:=[.n .i64 mO,.n .i64 h3,.bF j2 bI gq gD,.bF wt wu L3 L4,.bF Lf vX Lg tm]
def ab0 (mO h3 j2 bI:Nat)(gq:List Int)(gD:Int):List ax:=[.bF mO h3 j2 bI,.isl 1 (gq.map J),.n .i64 gD]
def eJ (mO h3 j2 bI:Nat)(gq:Bool)(gD:List Int)(wt wu L3 L4:Nat)(Lf:Int)(vX Lg tm ab1:Nat):List ax:=[.bF mO h3 j2 bI,.b gq,.isl 1 (gD.map J),.bF wt wu L3 L4,.n .i64 Lf,.bF vX Lg tm ab1]
end Go.Proofs.YtgfpnhmcmgnepacGreat
namespace Go.Proofs.YtgfpnhmcmgnepacGreat
set_option linter.unusedVariables false
set_option linter.unusedSimpArgs false
open Go Go.VL
def G8 (ie:List Int):(Int×Int)→S:=fun (qw,a3)=>e2 [(0,.isl 1 (ie.map eU8)),(3,.n .i64 qw),(4,.n .i64 a3)] []
def Hc (ie:List Int):Int→e5
 | a=>⟨some 0,[(0,.isl 1 (ie.map eU8)),(3,.n .i64 a)],[]⟩
def w5 (ie:List Int)(qw a3:Int):Option ((Int×Int)⊕(Int)) :=
 if (decide (a3<(len_ eU8 ie)))=true then
  if (decide (a3<(4000:Int)))=true then
   if 0≤a3∧a3<ie.length then
   ie[a3.toNat]? >>= fun gj =>
   some (.inl (U (((BitVec.ofInt (IntKind.bits .i64) (U ((U ((U (qw*(73:Int)))+(IntKind.wrap .i64 gj)))+(7:Int))) &&& BitVec.ofInt (IntKind.bits .i64) (1073741823:Int)).toNat:Int)),U (a3+(1:Int))))
   else none
  else
   some (.inr qw)
 else
  some (.inr qw)
def MS (ie:List Int)(qw a3:Int):Option (Int):=iter (fun w:Int×Int=>w5 ie w.1 w.2) (qw,a3)
theorem TI {ie:List Int}{qw a3:Int}:b4 (w5 ie qw a3) (fG bx 32 0 14 [1,1,0,1,0,0] (G8 ie (qw,a3)) (G8 ie) (Hc ie)):=by
 unfold w5
 exact .ite (fun o =>
  .ite (fun R =>
  .bl fun ad =>
  .az fun gj aM =>
  .ret (b0 [.aE (ae 7 (ai (.al true) [])),.al true,.aE (bT 5 (.cq (eU8 gj)) 5),(ab 3),.bm [] [] (bY [0,3,4])] (.ff o o o R ad.1 (en eU8 ad.2) (cz eU8 aM))))
  (fun R =>
  .ret (b0 [.aE (ae 7 (ai (.al true) [])),.al false,.bm [] [] (bY [0,3])] (.dn o o o R))))
  (fun o =>
  .ret (b0 [.aE (ae 5 (cw 2 (ai (.al false) []))),.al false,.bm [] [] (bY [0,3])] (.dn o o o dU)))
theorem Uq {ie:List Int}{qw a3:Int}{r} (h:MS ie qw a3=some r):fH bx 32 0 14 [1,1,0,1,0,0] (G8 ie) (Hc ie) (qw,a3) r:=fI (fun _=>TI) h
def Dr (ie:List Int):Option Int :=
 MS ie (U ((1975:Int)+(len_ eU8 ie))) 0 >>= fun an =>
 some an
theorem UU {ie:List Int}:b4 (Dr ie) (fun a=>Con bx 14 [.isl 1 (ie.map eU8)] [] (.ref 0 0 0 0) [[af.mk 3 [[.isl 1 (ie.map eU8),.n .i64 (0:Int),.n .i64 a]] .live]]):=by
 unfold Dr
 exact .az fun an R =>
  .ret (i1 [(ab 1),(ab 4),(ab 1),.bm [] [] (bY [0,3,4]),(Hc ie an).gC,(ab 5)] [3] [.box [.id,.id,.id]] (.aw (Uq R)))
def sG (cg:List Int)(cH fJ:Int):Option (Int×Int×Int) :=
 if (decide (cH<(len_ eU8 cg)))=true then
  if 0≤cH∧cH<cg.length then
  cg[cH.toNat]? >>= fun aO =>
  some (U (((BitVec.ofInt (IntKind.bits .i64) (U ((U (((BitVec.ofInt (IntKind.bits .i64) (U (((BitVec.ofInt (IntKind.bits .i64) ((U ((U (fJ*(6364136223846793005:Int)))+(1442695040888963407:Int))).fdiv (2 ^ (min (33:Int).toNat (IntKind.bits .i64)))) ^^^ BitVec.ofInt (IntKind.bits .i64) ((U ((U (fJ*(6364136223846793005:Int)))+(1442695040888963407:Int))).fdiv (2 ^ (min (45:Int).toNat (IntKind.bits .i64))))).toNat:Int))) &&& BitVec.ofInt (IntKind.bits .i64) (255:Int)).toNat:Int)))+(IntKind.wrap .i64 aO))) &&& BitVec.ofInt (IntKind.bits .i64) (255:Int)).toNat:Int)),U (cH+(1:Int)),U ((U (fJ*(6364136223846793005:Int)))+(1442695040888963407:Int)))
  else none
 else
  some (U (((BitVec.ofInt (IntKind.bits .i64) (U (((BitVec.ofInt (IntKind.bits .i64) ((U ((U (fJ*(6364136223846793005:Int)))+(1442695040888963407:Int))).fdiv (2 ^ (min (33:Int).toNat (IntKind.bits .i64)))) ^^^ BitVec.ofInt (IntKind.bits .i64) ((U ((U (fJ*(6364136223846793005:Int)))+(1442695040888963407:Int))).fdiv (2 ^ (min (45:Int).toNat (IntKind.bits .i64))))).toNat:Int))) &&& BitVec.ofInt (IntKind.bits .i64) (255:Int)).toNat:Int)),cH,U ((U (fJ*(6364136223846793005:Int)))+(1442695040888963407:Int)))
theorem zK {cg:List Int}{cH fJ:Int}:b4 (sG cg cH fJ) (fun a=>Con bx 60 [.ref 0 0 0 0] [[af.mk 3 [[.isl 1 (cg.map eU8),.n .i64 cH,.n .i64 fJ]] .live]] (.n .i64 a.1) [[af.mk 3 [[.isl 1 (cg.map eU8),.n .i64 a.2.1,.n .i64 a.2.2]] .live]]):=by
 unfold sG
 exact (let t1:List cL:=[(ab 1),(ab 10),(ab 13),(ab 10)];
  have a9:=((.aC (by decide:(0:Int)≤33) (by decide:(0:Int)≤45)):c3 _);
  .ite (fun o =>
  .bl fun R =>
  .az fun aO aD =>
  .ret (i1 (t1.append [.al true,.aE (bT 10 (.cq (eU8 aO)) 4),(ab 9),(ab 2)]) [0] [.box [.id,.id,.id]] (a9.aY (.dn o R.1 (en eU8 R.2) (cz eU8 aD)))))
  (fun o =>
  .ret (i1 (t1.append [.al false,(ab 2)]) [0] [.box [.id,.id,.id]] (a9.aY (.aw o)))))
def lX (bc:Int)(cg:List Int)(cH fJ:Int):Option (Int×Int×Int) :=
 if (decide (bc≤(0:Int)))=true then
  some (0,cH,fJ)
 else
  if (decide (bc≤(256:Int)))=true then
   sG cg cH fJ >>= fun aZ =>
   if bc≠0 then
   some (aZ.1.tmod bc,aZ.2.1,aZ.2.2)
   else none
  else
   sG cg cH fJ >>= fun aZ =>
   sG cg aZ.2.1 aZ.2.2 >>= fun bp =>
   sG cg bp.2.1 bp.2.2 >>= fun bH =>
   sG cg bH.2.1 bH.2.2 >>= fun bs =>
   if bc≠0 then
   some ((U ((U ((U ((U (aZ.1*(16777216:Int)))+(U (bp.1*(65536:Int)))))+(U (bH.1*(256:Int)))))+bs.1)).tmod bc,bs.2.1,bs.2.2)
   else none
theorem oZ {bc:Int}{cg:List Int}{cH fJ:Int}:b4 (lX bc cg cH fJ) (fun a=>Con bx 33 [.ref 0 0 0 0,.n .i64 bc] [[af.mk 3 [[.isl 1 (cg.map eU8),.n .i64 cH,.n .i64 fJ]] .live]] (.n .i64 a.1) [[af.mk 3 [[.isl 1 (cg.map eU8),.n .i64 a.2.1,.n .i64 a.2.2]] .live]]):=by
 unfold lX
 exact .ite (fun o =>
  .ret (i1 [(ab 1),(ab 2),.al true,(ab 1)] [0] [.box [.id,.id,.id]] (.aw o)))
  (fun o =>
  (let t1:List cL:=[(ab 1),(ab 2),.al false,(ab 2)];
  .ite (fun R =>
  .az fun aZ aD =>
  .bl fun aM =>
  .ret (i1 (t1.append [.al true,.aE (bT 1 (.call {aQ:=[.row 0],cO:=[.box [.id,.id,.id]],ac:=[ii],r:= .n .i64 aZ.1,d4:=[[af.mk 3 [[.isl 1 (cg.map eU8),.n .i64 aZ.2.1,.n .i64 aZ.2.2]] .live]],fu:=ii,gd:=[.box [.id,.id,.id]],dG:=[0],dD:=false}) 3)]) [0] [.box [.id,.id,.id]] (.dn o R (zK aZ aD) aM)))
  (fun R =>
  .az fun aZ aD =>
  .az fun bp bq =>
  .az fun bH bn =>
  .az fun bs de =>
  .bl fun cK =>
  .ret (i1 (t1.append [.al false,.aE (bT 1 (.call {aQ:=[.row 0],cO:=[.box [.id,.id,.id]],ac:=[ii],r:= .n .i64 aZ.1,d4:=[[af.mk 3 [[.isl 1 (cg.map eU8),.n .i64 aZ.2.1,.n .i64 aZ.2.2]] .live]],fu:=ii,gd:=[.box [.id,.id,.id]],dG:=[0],dD:=false}) 1),.aE (bT 1 (.call {aQ:=[.row 0],cO:=[.box [.id,.id,.id]],ac:=[ii],r:= .n .i64 bp.1,d4:=[[af.mk 3 [[.isl 1 (cg.map eU8),.n .i64 bp.2.1,.n .i64 bp.2.2]] .live]],fu:=ii,gd:=[.box [.id,.id,.id]],dG:=[0],dD:=false}) 1),.aE (bT 1 (.call {aQ:=[.row 0],cO:=[.box [.id,.id,.id]],ac:=[ii],r:= .n .i64 bH.1,d4:=[[af.mk 3 [[.isl 1 (cg.map eU8),.n .i64 bH.2.1,.n .i64 bH.2.2]] .live]],fu:=ii,gd:=[.box [.id,.id,.id]],dG:=[0],dD:=false}) 1),.aE (bT 1 (.call {aQ:=[.row 0],cO:=[.box [.id,.id,.id]],ac:=[ii],r:= .n .i64 bs.1,d4:=[[af.mk 3 [[.isl 1 (cg.map eU8),.n .i64 bs.2.1,.n .i64 bs.2.2]] .live]],fu:=ii,gd:=[.box [.id,.id,.id]],dG:=[0],dD:=false}) 1),(ab 13)]) [0] [.box [.id,.id,.id]] (.ff o R (zK aZ aD) (zK bp bq) (zK bH bn) (zK bs de) cK)))))
def xB (cy cg:List Int)(cH fJ:Int):Option (Int×Int×Int) :=
 lX (len_ J cy) cg cH fJ >>= fun an =>
 if 0≤an.1∧an.1<cy.length then
 cy[an.1.toNat]? >>= fun gj =>
 some (gj,an.2.1,an.2.2)
 else none
theorem H2 {cy cg:List Int}{cH fJ:Int}:b4 (xB cy cg cH fJ) (fun a=>Con bx 34 [.ref 0 0 0 0,.isl 1 (cy.map J)] [[af.mk 3 [[.isl 1 (cg.map eU8),.n .i64 cH,.n .i64 fJ]] .live]] (.n .i64 a.1) [[af.mk 3 [[.isl 1 (cg.map eU8),.n .i64 a.2.1,.n .i64 a.2.2]] .live]]):=by
 unfold xB
 exact .az fun an R =>
  .bl fun ad =>
  .az fun gj aM =>
  .ret (i1 [(ab 1),.aE (ae 4 (ai (.call {aQ:=[.row 0],cO:=[.box [.id,.id,.id]],ac:=[ii,ii],r:= .n .i64 an.1,d4:=[[af.mk 3 [[.isl 1 (cg.map eU8),.n .i64 an.2.1,.n .i64 an.2.2]] .live]],fu:=ii,gd:=[.box [.id,.id,.id]],dG:=[0],dD:=false}) (bT 1 (.cq (J gj)) 1)))] [0] [.box [.id,.id,.id]] (.dn (oZ an R) ad.1 (en J ad.2) (cz J aM)))
def r5 (bc:Int)(cg:List Int)(cH fJ:Int):Option (Bool×Int×Int) :=
 lX bc cg cH fJ >>= fun an =>
 some ((an.1 == (0:Int)),an.2.1,an.2.2)
theorem xq {bc:Int}{cg:List Int}{cH fJ:Int}:b4 (r5 bc cg cH fJ) (fun a=>Con bx 35 [.ref 0 0 0 0,.n .i64 bc] [[af.mk 3 [[.isl 1 (cg.map eU8),.n .i64 cH,.n .i64 fJ]] .live]] (.b a.1) [[af.mk 3 [[.isl 1 (cg.map eU8),.n .i64 a.2.1,.n .i64 a.2.2]] .live]]):=by
 unfold r5
 exact .az fun an R =>
  .ret (i1 [(ab 1),.aE (bT 2 (.call {aQ:=[.row 0],cO:=[.box [.id,.id,.id]],ac:=[ii,ii],r:= .n .i64 an.1,d4:=[[af.mk 3 [[.isl 1 (cg.map eU8),.n .i64 an.2.1,.n .i64 an.2.2]] .live]],fu:=ii,gd:=[.box [.id,.id,.id]],dG:=[0],dD:=false}) 2)] [0] [.box [.id,.id,.id]] (.aw (oZ an R)))
def zQ (cg:List Int)(cH fJ:Int):Option ((List aU)×(List a5)×(List Int)×(List bu)×Int×Int) :=
 lX 3 cg cH fJ >>= fun an =>
 xB ([3,0,8]:List Int) cg an.2.1 an.2.2 >>= fun aZ =>
 if 0≤(1:Int)∧(1:Int)<(4:Nat) then
 ([(⟨(⟨#[97]⟩:ByteArray),(-3),0,true⟩:aU),(⟨(⟨#[98]⟩:ByteArray),aZ.1,0,true⟩:aU),(⟨(⟨#[99]⟩:ByteArray),0,(-4),false⟩:aU),(⟨(⟨#[100]⟩:ByteArray),an.1,(-9),true⟩:aU)]:List aU)[1]? >>= fun bO =>
 if (bO.hH == (8:Int))=true then
  r5 2 cg aZ.2.1 aZ.2.2 >>= fun bs =>
  if bs.1=true then
   xB ([1,2,3]:List Int) cg bs.2.1 bs.2.2 >>= fun cC =>
   if (([(⟨0,2,1⟩:a5),(⟨2,1,1⟩:a5)]:List a5)++([(⟨2,3,cC.1⟩:a5)]:List a5)).length*24≤140737488355328 then
   lX 9 cg cC.2.1 cC.2.2 >>= fun dY =>
   lX 9 cg dY.2.1 dY.2.2 >>= fun ft =>
   lX 4 cg ft.2.1 ft.2.2 >>= fun e8 =>
   r5 3 cg e8.2.1 e8.2.2 >>= fun fW =>
   if fW.1=true then
    some (([(⟨(⟨#[97]⟩:ByteArray),(-3),0,true⟩:aU),(⟨(⟨#[98]⟩:ByteArray),aZ.1,0,true⟩:aU),(⟨(⟨#[99]⟩:ByteArray),0,(-4),false⟩:aU),(⟨(⟨#[100]⟩:ByteArray),an.1,(-9),true⟩:aU)]:List aU).set 1 (⟨bO.iG,bO.hH,2,bO.iF⟩:aU),([(⟨0,2,1⟩:a5),(⟨2,1,1⟩:a5)]:List a5)++([(⟨2,3,cC.1⟩:a5)]:List a5),([0,0,0,0,U (dY.1-(4:Int)),U (0-ft.1),0,0]:List Int),([(⟨0,1,U ((1:Int)+e8.1),U ((1:Int)+e8.1)⟩:bu)]:List bu),fW.2.1,fW.2.2)
   else
    some (([(⟨(⟨#[97]⟩:ByteArray),(-3),0,true⟩:aU),(⟨(⟨#[98]⟩:ByteArray),aZ.1,0,true⟩:aU),(⟨(⟨#[99]⟩:ByteArray),0,(-4),false⟩:aU),(⟨(⟨#[100]⟩:ByteArray),an.1,(-9),true⟩:aU)]:List aU).set 1 (⟨bO.iG,bO.hH,2,bO.iF⟩:aU),([(⟨0,2,1⟩:a5),(⟨2,1,1⟩:a5)]:List a5)++([(⟨2,3,cC.1⟩:a5)]:List a5),([0,0,0,0,U (dY.1-(4:Int)),U (0-ft.1),0,0]:List Int),([(⟨0,1,U ((1:Int)+e8.1),1⟩:bu)]:List bu),fW.2.1,fW.2.2)
   else none
  else
   lX 9 cg bs.2.1 bs.2.2 >>= fun cC =>
   lX 9 cg cC.2.1 cC.2.2 >>= fun dm =>
   lX 4 cg dm.2.1 dm.2.2 >>= fun cl =>
   r5 3 cg cl.2.1 cl.2.2 >>= fun ea =>
   if ea.1=true then
    some (([(⟨(⟨#[97]⟩:ByteArray),(-3),0,true⟩:aU),(⟨(⟨#[98]⟩:ByteArray),aZ.1,0,true⟩:aU),(⟨(⟨#[99]⟩:ByteArray),0,(-4),false⟩:aU),(⟨(⟨#[100]⟩:ByteArray),an.1,(-9),true⟩:aU)]:List aU).set 1 (⟨bO.iG,bO.hH,2,bO.iF⟩:aU),([(⟨0,2,1⟩:a5),(⟨2,1,1⟩:a5)]:List a5),([0,0,0,0,U (cC.1-(4:Int)),U (0-dm.1),0,0]:List Int),([(⟨0,1,U ((1:Int)+cl.1),U ((1:Int)+cl.1)⟩:bu)]:List bu),ea.2.1,ea.2.2)
   else
    some (([(⟨(⟨#[97]⟩:ByteArray),(-3),0,true⟩:aU),(⟨(⟨#[98]⟩:ByteArray),aZ.1,0,true⟩:aU),(⟨(⟨#[99]⟩:ByteArray),0,(-4),false⟩:aU),(⟨(⟨#[100]⟩:ByteArray),an.1,(-9),true⟩:aU)]:List aU).set 1 (⟨bO.iG,bO.hH,2,bO.iF⟩:aU),([(⟨0,2,1⟩:a5),(⟨2,1,1⟩:a5)]:List a5),([0,0,0,0,U (cC.1-(4:Int)),U (0-dm.1),0,0]:List Int),([(⟨0,1,U ((1:Int)+cl.1),1⟩:bu)]:List bu),ea.2.1,ea.2.2)
 else
  r5 2 cg aZ.2.1 aZ.2.2 >>= fun bs =>
  if bs.1=true then
   xB ([1,2,3]:List Int) cg bs.2.1 bs.2.2 >>= fun cC =>
   if (([(⟨0,2,1⟩:a5),(⟨2,1,1⟩:a5)]:List a5)++([(⟨2,3,cC.1⟩:a5)]:List a5)).length*24≤140737488355328 then
   lX 9 cg cC.2.1 cC.2.2 >>= fun dY =>
   lX 9 cg dY.2.1 dY.2.2 >>= fun ft =>
   lX 4 cg ft.2.1 ft.2.2 >>= fun e8 =>
   r5 3 cg e8.2.1 e8.2.2 >>= fun fW =>
   if fW.1=true then
    some (([(⟨(⟨#[97]⟩:ByteArray),(-3),0,true⟩:aU),(⟨(⟨#[98]⟩:ByteArray),aZ.1,0,true⟩:aU),(⟨(⟨#[99]⟩:ByteArray),0,(-4),false⟩:aU),(⟨(⟨#[100]⟩:ByteArray),an.1,(-9),true⟩:aU)]:List aU),([(⟨0,2,1⟩:a5),(⟨2,1,1⟩:a5)]:List a5)++([(⟨2,3,cC.1⟩:a5)]:List a5),([0,0,0,0,U (dY.1-(4:Int)),U (0-ft.1),0,0]:List Int),([(⟨0,1,U ((1:Int)+e8.1),U ((1:Int)+e8.1)⟩:bu)]:List bu),fW.2.1,fW.2.2)
   else
    some (([(⟨(⟨#[97]⟩:ByteArray),(-3),0,true⟩:aU),(⟨(⟨#[98]⟩:ByteArray),aZ.1,0,true⟩:aU),(⟨(⟨#[99]⟩:ByteArray),0,(-4),false⟩:aU),(⟨(⟨#[100]⟩:ByteArray),an.1,(-9),true⟩:aU)]:List aU),([(⟨0,2,1⟩:a5),(⟨2,1,1⟩:a5)]:List a5)++([(⟨2,3,cC.1⟩:a5)]:List a5),([0,0,0,0,U (dY.1-(4:Int)),U (0-ft.1),0,0]:List Int),([(⟨0,1,U ((1:Int)+e8.1),1⟩:bu)]:List bu),fW.2.1,fW.2.2)
   else none
  else
   lX 9 cg bs.2.1 bs.2.2 >>= fun cC =>
   lX 9 cg cC.2.1 cC.2.2 >>= fun dm =>
   lX 4 cg dm.2.1 dm.2.2 >>= fun cl =>
   r5 3 cg cl.2.1 cl.2.2 >>= fun ea =>
   if ea.1=true then
    some (([(⟨(⟨#[97]⟩:ByteArray),(-3),0,true⟩:aU),(⟨(⟨#[98]⟩:ByteArray),aZ.1,0,true⟩:aU),(⟨(⟨#[99]⟩:ByteArray),0,(-4),false⟩:aU),(⟨(⟨#[100]⟩:ByteArray),an.1,(-9),true⟩:aU)]:List aU),([(⟨0,2,1⟩:a5),(⟨2,1,1⟩:a5)]:List a5),([0,0,0,0,U (cC.1-(4:Int)),U (0-dm.1),0,0]:List Int),([(⟨0,1,U ((1:Int)+cl.1),U ((1:Int)+cl.1)⟩:bu)]:List bu),ea.2.1,ea.2.2)
   else
    some (([(⟨(⟨#[97]⟩:ByteArray),(-3),0,true⟩:aU),(⟨(⟨#[98]⟩:ByteArray),aZ.1,0,true⟩:aU),(⟨(⟨#[99]⟩:ByteArray),0,(-4),false⟩:aU),(⟨(⟨#[100]⟩:ByteArray),an.1,(-9),true⟩:aU)]:List aU),([(⟨0,2,1⟩:a5),(⟨2,1,1⟩:a5)]:List a5),([0,0,0,0,U (cC.1-(4:Int)),U (0-dm.1),0,0]:List Int),([(⟨0,1,U ((1:Int)+cl.1),1⟩:bu)]:List bu),ea.2.1,ea.2.2)
 else none
set_option maxHeartbeats 4000000 in
theorem UM {cg:List Int}{cH fJ:Int}:b4 (zQ cg cH fJ) (fun a=>Con bx 13 [.ref 0 0 0 0] [[af.mk 3 [[.isl 1 (cg.map eU8),.n .i64 cH,.n .i64 fJ]] .live]] (.dB [.agg [.isl 4 (a.1.map dJ),.isl 3 (a.2.1.map db)],.isl 1 (a.2.2.1.map J),.isl 4 (a.2.2.2.1.map cG)]) [[af.mk 3 [[.isl 1 (cg.map eU8),.n .i64 a.2.2.2.2.1,.n .i64 a.2.2.2.2.2]] .live]]):=by
 unfold zQ
 exact .az fun an R =>
  .az fun aZ aD =>
  .bl fun aM =>
  .az fun bO bQ =>
  (let t1:List cL:=[(ab 3),.aE (bT 1 (.call {aQ:=[.row 0],cO:=[.box [.id,.id,.id]],ac:=[ii,ii],r:= .n .i64 an.1,d4:=[[af.mk 3 [[.isl 1 (cg.map eU8),.n .i64 an.2.1,.n .i64 an.2.2]] .live]],fu:=ii,gd:=[.box [.id,.id,.id]],dG:=[0],dD:=false}) 1),.aE (bT 3 (.wg 9 (.call {aQ:=[.row 0],cO:=[.box [.id,.id,.id]],ac:=[ii,.bE (.cx (.eU (([3,0,8]:List Int).map J)))],r:= .n .i64 aZ.1,d4:=[[af.mk 3 [[.isl 1 (cg.map eU8),.n .i64 aZ.2.1,.n .i64 aZ.2.2]] .live]],fu:=ii,gd:=[.box [.id,.id,.id]],dG:=[0,9],dD:=false})) 8),.aE (ae 3 (ai (.cq (dJ bO)) (ai (.cq (dJ bO)) (ae 1 []))))];
  have a9:=((.bj (oZ an R) (gY (show [[.n .i64 (3:Int)],[.n .i64 (0:Int)],[.n .i64 (8:Int)]]=(([3,0,8]:List Int)).map J from rfl) (show 3=([3,0,8]:List Int).length from rfl)) (iV (show [[.n .i64 (3:Int)],[.n .i64 (0:Int)],[.n .i64 (8:Int)]]=(([3,0,8]:List Int)).map J from rfl) (show 3=([3,0,8]:List Int).length from rfl)) (d3 aF ([3,0,8]:List Int)) (H2 aZ aD) aM.1 aM.2 (ow (show [[.s (⟨#[97]⟩:ByteArray),.n .i64 (-3:Int),.n .i64 (0:Int),.b true],[.s (⟨#[98]⟩:ByteArray),.n .i64 aZ.1,.n .i64 (0:Int),.b true],[.s (⟨#[99]⟩:ByteArray),.n .i64 (0:Int),.n .i64 (-4:Int),.b false],[.s (⟨#[100]⟩:ByteArray),.n .i64 an.1,.n .i64 (-9:Int),.b true]]=(([(⟨(⟨#[97]⟩:ByteArray),(-3),0,true⟩:aU),(⟨(⟨#[98]⟩:ByteArray),aZ.1,0,true⟩:aU),(⟨(⟨#[99]⟩:ByteArray),0,(-4),false⟩:aU),(⟨(⟨#[100]⟩:ByteArray),an.1,(-9),true⟩:aU)]:List aU)).map dJ from rfl) bQ) (.aw (ow (show [[.s (⟨#[97]⟩:ByteArray),.n .i64 (-3:Int),.n .i64 (0:Int),.b true],[.s (⟨#[98]⟩:ByteArray),.n .i64 aZ.1,.n .i64 (0:Int),.b true],[.s (⟨#[99]⟩:ByteArray),.n .i64 (0:Int),.n .i64 (-4:Int),.b false],[.s (⟨#[100]⟩:ByteArray),.n .i64 an.1,.n .i64 (-9:Int),.b true]]=(([(⟨(⟨#[97]⟩:ByteArray),(-3),0,true⟩:aU),(⟨(⟨#[98]⟩:ByteArray),aZ.1,0,true⟩:aU),(⟨(⟨#[99]⟩:ByteArray),0,(-4),false⟩:aU),(⟨(⟨#[100]⟩:ByteArray),an.1,(-9),true⟩:aU)]:List aU)).map dJ from rfl) bQ))):c3 _);
  .ite (fun bn =>
  .az fun bs de =>
  (let t3:List cL:=t1.append [.al true,.aE (ae 3 (ai (.cq (dJ bO)) (ai (.cq (dJ bO)) []))),(ab 5),.aE (ae 1 (ai (.call {aQ:=[.row 0],cO:=[.box [.id,.id,.id]],ac:=[ii,ii],r:= .b bs.1,d4:=[[af.mk 3 [[.isl 1 (cg.map eU8),.n .i64 bs.2.1,.n .i64 bs.2.2]] .live]],fu:=ii,gd:=[.box [.id,.id,.id]],dG:=[0],dD:=false}) []))];
  have fv:=a9.aY (.eF bn aM.1 aM.2 (ow (show [[.s (⟨#[97]⟩:ByteArray),.n .i64 (-3:Int),.n .i64 (0:Int),.b true],[.s (⟨#[98]⟩:ByteArray),.n .i64 aZ.1,.n .i64 (0:Int),.b true],[.s (⟨#[99]⟩:ByteArray),.n .i64 (0:Int),.n .i64 (-4:Int),.b false],[.s (⟨#[100]⟩:ByteArray),.n .i64 an.1,.n .i64 (-9:Int),.b true]]=(([(⟨(⟨#[97]⟩:ByteArray),(-3),0,true⟩:aU),(⟨(⟨#[98]⟩:ByteArray),aZ.1,0,true⟩:aU),(⟨(⟨#[99]⟩:ByteArray),0,(-4),false⟩:aU),(⟨(⟨#[100]⟩:ByteArray),an.1,(-9),true⟩:aU)]:List aU)).map dJ from rfl) bQ) (ow (show [[.s (⟨#[97]⟩:ByteArray),.n .i64 (-3:Int),.n .i64 (0:Int),.b true],[.s (⟨#[98]⟩:ByteArray),.n .i64 aZ.1,.n .i64 (0:Int),.b true],[.s (⟨#[99]⟩:ByteArray),.n .i64 (0:Int),.n .i64 (-4:Int),.b false],[.s (⟨#[100]⟩:ByteArray),.n .i64 an.1,.n .i64 (-9:Int),.b true]]=(([(⟨(⟨#[97]⟩:ByteArray),(-3),0,true⟩:aU),(⟨(⟨#[98]⟩:ByteArray),aZ.1,0,true⟩:aU),(⟨(⟨#[99]⟩:ByteArray),0,(-4),false⟩:aU),(⟨(⟨#[100]⟩:ByteArray),an.1,(-9),true⟩:aU)]:List aU)).map dJ from rfl) bQ) (xq bs de));
  .ite (fun cK =>
  .az fun cC dT =>
  .bl fun e9 =>
  .az fun dY gM =>
  .az fun ft ia =>
  .az fun e8 jJ =>
  .az fun fW hn =>
  (let t5:List cL:=t3.append [.al true,.aE (ae 4 (ai (.wg 40 (.call {aQ:=[.row 0],cO:=[.box [.id,.id,.id]],ac:=[ii,.bE (.cx (.eU (([1,2,3]:List Int).map J)))],r:= .n .i64 cC.1,d4:=[[af.mk 3 [[.isl 1 (cg.map eU8),.n .i64 cC.2.1,.n .i64 cC.2.2]] .live]],fu:=ii,gd:=[.box [.id,.id,.id]],dG:=[0,40],dD:=false})) (bT 2 (.aY ((([(⟨0,2,1⟩:a5),(⟨2,1,1⟩:a5)]:List a5)++([(⟨2,3,cC.1⟩:a5)]:List a5)).length)) 2))),.aE (ae 1 (ai (.call {aQ:=[.row 0],cO:=[.box [.id,.id,.id]],ac:=[ii,ii],r:= .n .i64 dY.1,d4:=[[af.mk 3 [[.isl 1 (cg.map eU8),.n .i64 dY.2.1,.n .i64 dY.2.2]] .live]],fu:=ii,gd:=[.box [.id,.id,.id]],dG:=[0],dD:=false}) (bT 2 (.call {aQ:=[.row 0],cO:=[.box [.id,.id,.id]],ac:=[ii,ii],r:= .n .i64 ft.1,d4:=[[af.mk 3 [[.isl 1 (cg.map eU8),.n .i64 ft.2.1,.n .i64 ft.2.2]] .live]],fu:=ii,gd:=[.box [.id,.id,.id]],dG:=[0],dD:=false}) 3))),.aE (bT 1 (.call {aQ:=[.row 0],cO:=[.box [.id,.id,.id]],ac:=[ii,ii],r:= .n .i64 e8.1,d4:=[[af.mk 3 [[.isl 1 (cg.map eU8),.n .i64 e8.2.1,.n .i64 e8.2.2]] .live]],fu:=ii,gd:=[.box [.id,.id,.id]],dG:=[0],dD:=false}) 4),.aE (ae 1 (ai (.call {aQ:=[.row 0],cO:=[.box [.id,.id,.id]],ac:=[ii,ii],r:= .b fW.1,d4:=[[af.mk 3 [[.isl 1 (cg.map eU8),.n .i64 fW.2.1,.n .i64 fW.2.2]] .live]],fu:=ii,gd:=[.box [.id,.id,.id]],dG:=[0],dD:=false}) []))];
  have jj:=fv.aY (.bj cK (gY (show [[.n .i64 (1:Int)],[.n .i64 (2:Int)],[.n .i64 (3:Int)]]=(([1,2,3]:List Int)).map J from rfl) (show 3=([1,2,3]:List Int).length from rfl)) (iV (show [[.n .i64 (1:Int)],[.n .i64 (2:Int)],[.n .i64 (3:Int)]]=(([1,2,3]:List Int)).map J from rfl) (show 3=([1,2,3]:List Int).length from rfl)) (d3 aF ([1,2,3]:List Int)) (H2 cC dT) (kO db (⟨2,3,cC.1⟩:a5)) (vm (show [[.n .i64 (0:Int),.n .i64 (2:Int),.n .i64 (1:Int)],[.n .i64 (2:Int),.n .i64 (1:Int),.n .i64 (1:Int)]]=(([(⟨0,2,1⟩:a5),(⟨2,1,1⟩:a5)]:List a5)).map db from rfl) (show 2=([(⟨0,2,1⟩:a5),(⟨2,1,1⟩:a5)]:List a5).length from rfl)) (ya (show 2=([(⟨0,2,1⟩:a5),(⟨2,1,1⟩:a5)]:List a5).length from rfl) (rU db (⟨2,3,cC.1⟩:a5))) (.dr e9 (oZ dY gM) (oZ ft ia) (oZ e8 jJ) (xq fW hn)));
  .ite (fun je =>
  .ret (let aW:=(mU (show [[.s (⟨#[97]⟩:ByteArray),.n .i64 (-3:Int),.n .i64 (0:Int),.b true],[.s (⟨#[98]⟩:ByteArray),.n .i64 aZ.1,.n .i64 (0:Int),.b true],[.s (⟨#[99]⟩:ByteArray),.n .i64 (0:Int),.n .i64 (-4:Int),.b false],[.s (⟨#[100]⟩:ByteArray),.n .i64 an.1,.n .i64 (-9:Int),.b true]]=(([(⟨(⟨#[97]⟩:ByteArray),(-3),0,true⟩:aU),(⟨(⟨#[98]⟩:ByteArray),aZ.1,0,true⟩:aU),(⟨(⟨#[99]⟩:ByteArray),0,(-4),false⟩:aU),(⟨(⟨#[100]⟩:ByteArray),an.1,(-9),true⟩:aU)]:List aU)).map dJ from rfl) 1 (⟨bO.iG,bO.hH,2,bO.iF⟩:aU) (rfl:(setCells (dJ bO) 2 [.n .i64 (2:Int)])=dJ (⟨bO.iG,bO.hH,2,bO.iF⟩:aU)));let bk:=(([(⟨0,2,1⟩:a5),(⟨2,1,1⟩:a5)]:List a5)++([(⟨2,3,cC.1⟩:a5)]:List a5));let cc:=(gZ (show 4=([(⟨(⟨#[97]⟩:ByteArray),(-3),0,true⟩:aU),(⟨(⟨#[98]⟩:ByteArray),aZ.1,0,true⟩:aU),(⟨(⟨#[99]⟩:ByteArray),0,(-4),false⟩:aU),(⟨(⟨#[100]⟩:ByteArray),an.1,(-9),true⟩:aU)]:List aU).length from rfl) 1 (⟨bO.iG,bO.hH,2,bO.iF⟩:aU));let cV:=(rU db (⟨2,3,cC.1⟩:a5));i1 (t5.append [.al true,(ab 4),(ab 7)]) [0] [.box [.id,.id,.id]] (jj.aY (.bj je (gY aW cc) (iV aW cc) (d3 sK (([(⟨(⟨#[97]⟩:ByteArray),(-3),0,true⟩:aU),(⟨(⟨#[98]⟩:ByteArray),aZ.1,0,true⟩:aU),(⟨(⟨#[99]⟩:ByteArray),0,(-4),false⟩:aU),(⟨(⟨#[100]⟩:ByteArray),an.1,(-9),true⟩:aU)]:List aU).set 1 (⟨bO.iG,bO.hH,2,bO.iF⟩:aU))) (gY (o3 (show [[.n .i64 (0:Int),.n .i64 (2:Int),.n .i64 (1:Int)],[.n .i64 (2:Int),.n .i64 (1:Int),.n .i64 (1:Int)]]=(([(⟨0,2,1⟩:a5),(⟨2,1,1⟩:a5)]:List a5)).map db from rfl) (show 2=([(⟨0,2,1⟩:a5),(⟨2,1,1⟩:a5)]:List a5).length from rfl) cV) (fq bk)) (iV (o3 (show [[.n .i64 (0:Int),.n .i64 (2:Int),.n .i64 (1:Int)],[.n .i64 (2:Int),.n .i64 (1:Int),.n .i64 (1:Int)]]=(([(⟨0,2,1⟩:a5),(⟨2,1,1⟩:a5)]:List a5)).map db from rfl) (show 2=([(⟨0,2,1⟩:a5),(⟨2,1,1⟩:a5)]:List a5).length from rfl) cV) (fq bk)) (d3 sH bk) (gY (show [[.n .i64 (0:Int)],[.n .i64 (0:Int)],[.n .i64 (0:Int)],[.n .i64 (0:Int)],[.n .i64 (U (dY.1-(4:Int)))],[.n .i64 (U (0-ft.1))],[.n .i64 (0:Int)],[.n .i64 (0:Int)]]=(([0,0,0,0,U (dY.1-(4:Int)),U (0-ft.1),0,0]:List Int)).map J from rfl) (show 8=([0,0,0,0,U (dY.1-(4:Int)),U (0-ft.1),0,0]:List Int).length from rfl)) (.dr (iV (show [[.n .i64 (0:Int)],[.n .i64 (0:Int)],[.n .i64 (0:Int)],[.n .i64 (0:Int)],[.n .i64 (U (dY.1-(4:Int)))],[.n .i64 (U (0-ft.1))],[.n .i64 (0:Int)],[.n .i64 (0:Int)]]=(([0,0,0,0,U (dY.1-(4:Int)),U (0-ft.1),0,0]:List Int)).map J from rfl) (show 8=([0,0,0,0,U (dY.1-(4:Int)),U (0-ft.1),0,0]:List Int).length from rfl)) (d3 aF ([0,0,0,0,U (dY.1-(4:Int)),U (0-ft.1),0,0]:List Int)) (gY (show [[.n .i64 (0:Int),.n .i64 (1:Int),.n .i64 (U ((1:Int)+e8.1)),.n .i64 (U ((1:Int)+e8.1))]]=(([(⟨0,1,U ((1:Int)+e8.1),U ((1:Int)+e8.1)⟩:bu)]:List bu)).map cG from rfl) (show 1=([(⟨0,1,U ((1:Int)+e8.1),U ((1:Int)+e8.1)⟩:bu)]:List bu).length from rfl)) (kO cG (⟨0,1,U ((1:Int)+e8.1),U ((1:Int)+e8.1)⟩:bu)) (d3 nM ([(⟨0,1,U ((1:Int)+e8.1),U ((1:Int)+e8.1)⟩:bu)]:List bu))))) (.comp [.agg [.eU ((([(⟨(⟨#[97]⟩:ByteArray),(-3),0,true⟩:aU),(⟨(⟨#[98]⟩:ByteArray),aZ.1,0,true⟩:aU),(⟨(⟨#[99]⟩:ByteArray),0,(-4),false⟩:aU),(⟨(⟨#[100]⟩:ByteArray),an.1,(-9),true⟩:aU)]:List aU).set 1 (⟨bO.iG,bO.hH,2,bO.iF⟩:aU)).map dJ),.eU (bk.map db)],.cx (.eU (([0,0,0,0,U (dY.1-(4:Int)),U (0-ft.1),0,0]:List Int).map J)),.cx (.eU (([(⟨0,1,U ((1:Int)+e8.1),U ((1:Int)+e8.1)⟩:bu)]:List bu).map cG))])))
  (fun je =>
  .ret (let d5:=(mU (show [[.s (⟨#[97]⟩:ByteArray),.n .i64 (-3:Int),.n .i64 (0:Int),.b true],[.s (⟨#[98]⟩:ByteArray),.n .i64 aZ.1,.n .i64 (0:Int),.b true],[.s (⟨#[99]⟩:ByteArray),.n .i64 (0:Int),.n .i64 (-4:Int),.b false],[.s (⟨#[100]⟩:ByteArray),.n .i64 an.1,.n .i64 (-9:Int),.b true]]=(([(⟨(⟨#[97]⟩:ByteArray),(-3),0,true⟩:aU),(⟨(⟨#[98]⟩:ByteArray),aZ.1,0,true⟩:aU),(⟨(⟨#[99]⟩:ByteArray),0,(-4),false⟩:aU),(⟨(⟨#[100]⟩:ByteArray),an.1,(-9),true⟩:aU)]:List aU)).map dJ from rfl) 1 (⟨bO.iG,bO.hH,2,bO.iF⟩:aU) (rfl:(setCells (dJ bO) 2 [.n .i64 (2:Int)])=dJ (⟨bO.iG,bO.hH,2,bO.iF⟩:aU)));let fB:=(([(⟨0,2,1⟩:a5),(⟨2,1,1⟩:a5)]:List a5)++([(⟨2,3,cC.1⟩:a5)]:List a5));let hE:=(gZ (show 4=([(⟨(⟨#[97]⟩:ByteArray),(-3),0,true⟩:aU),(⟨(⟨#[98]⟩:ByteArray),aZ.1,0,true⟩:aU),(⟨(⟨#[99]⟩:ByteArray),0,(-4),false⟩:aU),(⟨(⟨#[100]⟩:ByteArray),an.1,(-9),true⟩:aU)]:List aU).length from rfl) 1 (⟨bO.iG,bO.hH,2,bO.iF⟩:aU));let fD:=(rU db (⟨2,3,cC.1⟩:a5));i1 (t5.append [.al false,(ab 7)]) [0] [.box [.id,.id,.id]] (jj.aY (.bj je (gY d5 hE) (iV d5 hE) (d3 sK (([(⟨(⟨#[97]⟩:ByteArray),(-3),0,true⟩:aU),(⟨(⟨#[98]⟩:ByteArray),aZ.1,0,true⟩:aU),(⟨(⟨#[99]⟩:ByteArray),0,(-4),false⟩:aU),(⟨(⟨#[100]⟩:ByteArray),an.1,(-9),true⟩:aU)]:List aU).set 1 (⟨bO.iG,bO.hH,2,bO.iF⟩:aU))) (gY (o3 (show [[.n .i64 (0:Int),.n .i64 (2:Int),.n .i64 (1:Int)],[.n .i64 (2:Int),.n .i64 (1:Int),.n .i64 (1:Int)]]=(([(⟨0,2,1⟩:a5),(⟨2,1,1⟩:a5)]:List a5)).map db from rfl) (show 2=([(⟨0,2,1⟩:a5),(⟨2,1,1⟩:a5)]:List a5).length from rfl) fD) (fq fB)) (iV (o3 (show [[.n .i64 (0:Int),.n .i64 (2:Int),.n .i64 (1:Int)],[.n .i64 (2:Int),.n .i64 (1:Int),.n .i64 (1:Int)]]=(([(⟨0,2,1⟩:a5),(⟨2,1,1⟩:a5)]:List a5)).map db from rfl) (show 2=([(⟨0,2,1⟩:a5),(⟨2,1,1⟩:a5)]:List a5).length from rfl) fD) (fq fB)) (d3 sH fB) (gY (show [[.n .i64 (0:Int)],[.n .i64 (0:Int)],[.n .i64 (0:Int)],[.n .i64 (0:Int)],[.n .i64 (U (dY.1-(4:Int)))],[.n .i64 (U (0-ft.1))],[.n .i64 (0:Int)],[.n .i64 (0:Int)]]=(([0,0,0,0,U (dY.1-(4:Int)),U (0-ft.1),0,0]:List Int)).map J from rfl) (show 8=([0,0,0,0,U (dY.1-(4:Int)),U (0-ft.1),0,0]:List Int).length from rfl)) (.dr (iV (show [[.n .i64 (0:Int)],[.n .i64 (0:Int)],[.n .i64 (0:Int)],[.n .i64 (0:Int)],[.n .i64 (U (dY.1-(4:Int)))],[.n .i64 (U (0-ft.1))],[.n .i64 (0:Int)],[.n .i64 (0:Int)]]=(([0,0,0,0,U (dY.1-(4:Int)),U (0-ft.1),0,0]:List Int)).map J from rfl) (show 8=([0,0,0,0,U (dY.1-(4:Int)),U (0-ft.1),0,0]:List Int).length from rfl)) (d3 aF ([0,0,0,0,U (dY.1-(4:Int)),U (0-ft.1),0,0]:List Int)) (gY (show [[.n .i64 (0:Int),.n .i64 (1:Int),.n .i64 (U ((1:Int)+e8.1)),.n .i64 (1:Int)]]=(([(⟨0,1,U ((1:Int)+e8.1),1⟩:bu)]:List bu)).map cG from rfl) (show 1=([(⟨0,1,U ((1:Int)+e8.1),1⟩:bu)]:List bu).length from rfl)) (kO cG (⟨0,1,U ((1:Int)+e8.1),1⟩:bu)) (d3 nM ([(⟨0,1,U ((1:Int)+e8.1),1⟩:bu)]:List bu))))) (.comp [.agg [.eU ((([(⟨(⟨#[97]⟩:ByteArray),(-3),0,true⟩:aU),(⟨(⟨#[98]⟩:ByteArray),aZ.1,0,true⟩:aU),(⟨(⟨#[99]⟩:ByteArray),0,(-4),false⟩:aU),(⟨(⟨#[100]⟩:ByteArray),an.1,(-9),true⟩:aU)]:List aU).set 1 (⟨bO.iG,bO.hH,2,bO.iF⟩:aU)).map dJ),.eU (fB.map db)],.cx (.eU (([0,0,0,0,U (dY.1-(4:Int)),U (0-ft.1),0,0]:List Int).map J)),.cx (.eU (([(⟨0,1,U ((1:Int)+e8.1),1⟩:bu)]:List bu).map cG))])))))
  (fun cK =>
  .az fun cC dT =>
  .az fun dm fZ =>
  .az fun cl gx =>
  .az fun ea j7 =>
  (let t5:List cL:=t3.append [.al false,.aE (ae 1 (ai (.call {aQ:=[.row 0],cO:=[.box [.id,.id,.id]],ac:=[ii,ii],r:= .n .i64 cC.1,d4:=[[af.mk 3 [[.isl 1 (cg.map eU8),.n .i64 cC.2.1,.n .i64 cC.2.2]] .live]],fu:=ii,gd:=[.box [.id,.id,.id]],dG:=[0],dD:=false}) (bT 2 (.call {aQ:=[.row 0],cO:=[.box [.id,.id,.id]],ac:=[ii,ii],r:= .n .i64 dm.1,d4:=[[af.mk 3 [[.isl 1 (cg.map eU8),.n .i64 dm.2.1,.n .i64 dm.2.2]] .live]],fu:=ii,gd:=[.box [.id,.id,.id]],dG:=[0],dD:=false}) 3))),.aE (bT 1 (.call {aQ:=[.row 0],cO:=[.box [.id,.id,.id]],ac:=[ii,ii],r:= .n .i64 cl.1,d4:=[[af.mk 3 [[.isl 1 (cg.map eU8),.n .i64 cl.2.1,.n .i64 cl.2.2]] .live]],fu:=ii,gd:=[.box [.id,.id,.id]],dG:=[0],dD:=false}) 4),.aE (ae 1 (ai (.call {aQ:=[.row 0],cO:=[.box [.id,.id,.id]],ac:=[ii,ii],r:= .b ea.1,d4:=[[af.mk 3 [[.isl 1 (cg.map eU8),.n .i64 ea.2.1,.n .i64 ea.2.2]] .live]],fu:=ii,gd:=[.box [.id,.id,.id]],dG:=[0],dD:=false}) []))];
  have jj:=fv.aY (.dr cK (oZ cC dT) (oZ dm fZ) (oZ cl gx) (xq ea j7));
  .ite (fun jJ =>
  .ret (let jO:=(mU (show [[.s (⟨#[97]⟩:ByteArray),.n .i64 (-3:Int),.n .i64 (0:Int),.b true],[.s (⟨#[98]⟩:ByteArray),.n .i64 aZ.1,.n .i64 (0:Int),.b true],[.s (⟨#[99]⟩:ByteArray),.n .i64 (0:Int),.n .i64 (-4:Int),.b false],[.s (⟨#[100]⟩:ByteArray),.n .i64 an.1,.n .i64 (-9:Int),.b true]]=(([(⟨(⟨#[97]⟩:ByteArray),(-3),0,true⟩:aU),(⟨(⟨#[98]⟩:ByteArray),aZ.1,0,true⟩:aU),(⟨(⟨#[99]⟩:ByteArray),0,(-4),false⟩:aU),(⟨(⟨#[100]⟩:ByteArray),an.1,(-9),true⟩:aU)]:List aU)).map dJ from rfl) 1 (⟨bO.iG,bO.hH,2,bO.iF⟩:aU) (rfl:(setCells (dJ bO) 2 [.n .i64 (2:Int)])=dJ (⟨bO.iG,bO.hH,2,bO.iF⟩:aU)));let jK:=(gZ (show 4=([(⟨(⟨#[97]⟩:ByteArray),(-3),0,true⟩:aU),(⟨(⟨#[98]⟩:ByteArray),aZ.1,0,true⟩:aU),(⟨(⟨#[99]⟩:ByteArray),0,(-4),false⟩:aU),(⟨(⟨#[100]⟩:ByteArray),an.1,(-9),true⟩:aU)]:List aU).length from rfl) 1 (⟨bO.iG,bO.hH,2,bO.iF⟩:aU));i1 (t5.append [.al true,(ab 4),(ab 7)]) [0] [.box [.id,.id,.id]] (jj.aY (.bj jJ (gY jO jK) (iV jO jK) (d3 sK (([(⟨(⟨#[97]⟩:ByteArray),(-3),0,true⟩:aU),(⟨(⟨#[98]⟩:ByteArray),aZ.1,0,true⟩:aU),(⟨(⟨#[99]⟩:ByteArray),0,(-4),false⟩:aU),(⟨(⟨#[100]⟩:ByteArray),an.1,(-9),true⟩:aU)]:List aU).set 1 (⟨bO.iG,bO.hH,2,bO.iF⟩:aU))) (gY (show [[.n .i64 (0:Int),.n .i64 (2:Int),.n .i64 (1:Int)],[.n .i64 (2:Int),.n .i64 (1:Int),.n .i64 (1:Int)]]=(([(⟨0,2,1⟩:a5),(⟨2,1,1⟩:a5)]:List a5)).map db from rfl) (show 2=([(⟨0,2,1⟩:a5),(⟨2,1,1⟩:a5)]:List a5).length from rfl)) (iV (show [[.n .i64 (0:Int),.n .i64 (2:Int),.n .i64 (1:Int)],[.n .i64 (2:Int),.n .i64 (1:Int),.n .i64 (1:Int)]]=(([(⟨0,2,1⟩:a5),(⟨2,1,1⟩:a5)]:List a5)).map db from rfl) (show 2=([(⟨0,2,1⟩:a5),(⟨2,1,1⟩:a5)]:List a5).length from rfl)) (d3 sH ([(⟨0,2,1⟩:a5),(⟨2,1,1⟩:a5)]:List a5)) (gY (show [[.n .i64 (0:Int)],[.n .i64 (0:Int)],[.n .i64 (0:Int)],[.n .i64 (0:Int)],[.n .i64 (U (cC.1-(4:Int)))],[.n .i64 (U (0-dm.1))],[.n .i64 (0:Int)],[.n .i64 (0:Int)]]=(([0,0,0,0,U (cC.1-(4:Int)),U (0-dm.1),0,0]:List Int)).map J from rfl) (show 8=([0,0,0,0,U (cC.1-(4:Int)),U (0-dm.1),0,0]:List Int).length from rfl)) (.dr (iV (show [[.n .i64 (0:Int)],[.n .i64 (0:Int)],[.n .i64 (0:Int)],[.n .i64 (0:Int)],[.n .i64 (U (cC.1-(4:Int)))],[.n .i64 (U (0-dm.1))],[.n .i64 (0:Int)],[.n .i64 (0:Int)]]=(([0,0,0,0,U (cC.1-(4:Int)),U (0-dm.1),0,0]:List Int)).map J from rfl) (show 8=([0,0,0,0,U (cC.1-(4:Int)),U (0-dm.1),0,0]:List Int).length from rfl)) (d3 aF ([0,0,0,0,U (cC.1-(4:Int)),U (0-dm.1),0,0]:List Int)) (gY (show [[.n .i64 (0:Int),.n .i64 (1:Int),.n .i64 (U ((1:Int)+cl.1)),.n .i64 (U ((1:Int)+cl.1))]]=(([(⟨0,1,U ((1:Int)+cl.1),U ((1:Int)+cl.1)⟩:bu)]:List bu)).map cG from rfl) (show 1=([(⟨0,1,U ((1:Int)+cl.1),U ((1:Int)+cl.1)⟩:bu)]:List bu).length from rfl)) (kO cG (⟨0,1,U ((1:Int)+cl.1),U ((1:Int)+cl.1)⟩:bu)) (d3 nM ([(⟨0,1,U ((1:Int)+cl.1),U ((1:Int)+cl.1)⟩:bu)]:List bu))))) (.comp [.agg [.eU ((([(⟨(⟨#[97]⟩:ByteArray),(-3),0,true⟩:aU),(⟨(⟨#[98]⟩:ByteArray),aZ.1,0,true⟩:aU),(⟨(⟨#[99]⟩:ByteArray),0,(-4),false⟩:aU),(⟨(⟨#[100]⟩:ByteArray),an.1,(-9),true⟩:aU)]:List aU).set 1 (⟨bO.iG,bO.hH,2,bO.iF⟩:aU)).map dJ),.eU (([(⟨0,2,1⟩:a5),(⟨2,1,1⟩:a5)]:List a5).map db)],.cx (.eU (([0,0,0,0,U (cC.1-(4:Int)),U (0-dm.1),0,0]:List Int).map J)),.cx (.eU (([(⟨0,1,U ((1:Int)+cl.1),U ((1:Int)+cl.1)⟩:bu)]:List bu).map cG))])))
  (fun jJ =>
  .ret (let kX:=(mU (show [[.s (⟨#[97]⟩:ByteArray),.n .i64 (-3:Int),.n .i64 (0:Int),.b true],[.s (⟨#[98]⟩:ByteArray),.n .i64 aZ.1,.n .i64 (0:Int),.b true],[.s (⟨#[99]⟩:ByteArray),.n .i64 (0:Int),.n .i64 (-4:Int),.b false],[.s (⟨#[100]⟩:ByteArray),.n .i64 an.1,.n .i64 (-9:Int),.b true]]=(([(⟨(⟨#[97]⟩:ByteArray),(-3),0,true⟩:aU),(⟨(⟨#[98]⟩:ByteArray),aZ.1,0,true⟩:aU),(⟨(⟨#[99]⟩:ByteArray),0,(-4),false⟩:aU),(⟨(⟨#[100]⟩:ByteArray),an.1,(-9),true⟩:aU)]:List aU)).map dJ from rfl) 1 (⟨bO.iG,bO.hH,2,bO.iF⟩:aU) (rfl:(setCells (dJ bO) 2 [.n .i64 (2:Int)])=dJ (⟨bO.iG,bO.hH,2,bO.iF⟩:aU)));let kY:=(gZ (show 4=([(⟨(⟨#[97]⟩:ByteArray),(-3),0,true⟩:aU),(⟨(⟨#[98]⟩:ByteArray),aZ.1,0,true⟩:aU),(⟨(⟨#[99]⟩:ByteArray),0,(-4),false⟩:aU),(⟨(⟨#[100]⟩:ByteArray),an.1,(-9),true⟩:aU)]:List aU).length from rfl) 1 (⟨bO.iG,bO.hH,2,bO.iF⟩:aU));i1 (t5.append [.al false,(ab 7)]) [0] [.box [.id,.id,.id]] (jj.aY (.bj jJ (gY kX kY) (iV kX kY) (d3 sK (([(⟨(⟨#[97]⟩:ByteArray),(-3),0,true⟩:aU),(⟨(⟨#[98]⟩:ByteArray),aZ.1,0,true⟩:aU),(⟨(⟨#[99]⟩:ByteArray),0,(-4),false⟩:aU),(⟨(⟨#[100]⟩:ByteArray),an.1,(-9),true⟩:aU)]:List aU).set 1 (⟨bO.iG,bO.hH,2,bO.iF⟩:aU))) (gY (show [[.n .i64 (0:Int),.n .i64 (2:Int),.n .i64 (1:Int)],[.n .i64 (2:Int),.n .i64 (1:Int),.n .i64 (1:Int)]]=(([(⟨0,2,1⟩:a5),(⟨2,1,1⟩:a5)]:List a5)).map db from rfl) (show 2=([(⟨0,2,1⟩:a5),(⟨2,1,1⟩:a5)]:List a5).length from rfl)) (iV (show [[.n .i64 (0:Int),.n .i64 (2:Int),.n .i64 (1:Int)],[.n .i64 (2:Int),.n .i64 (1:Int),.n .i64 (1:Int)]]=(([(⟨0,2,1⟩:a5),(⟨2,1,1⟩:a5)]:List a5)).map db from rfl) (show 2=([(⟨0,2,1⟩:a5),(⟨2,1,1⟩:a5)]:List a5).length from rfl)) (d3 sH ([(⟨0,2,1⟩:a5),(⟨2,1,1⟩:a5)]:List a5)) (gY (show [[.n .i64 (0:Int)],[.n .i64 (0:Int)],[.n .i64 (0:Int)],[.n .i64 (0:Int)],[.n .i64 (U (cC.1-(4:Int)))],[.n .i64 (U (0-dm.1))],[.n .i64 (0:Int)],[.n .i64 (0:Int)]]=(([0,0,0,0,U (cC.1-(4:Int)),U (0-dm.1),0,0]:List Int)).map J from rfl) (show 8=([0,0,0,0,U (cC.1-(4:Int)),U (0-dm.1),0,0]:List Int).length from rfl)) (.dr (iV (show [[.n .i64 (0:Int)],[.n .i64 (0:Int)],[.n .i64 (0:Int)],[.n .i64 (0:Int)],[.n .i64 (U (cC.1-(4:Int)))],[.n .i64 (U (0-dm.1))],[.n .i64 (0:Int)],[.n .i64 (0:Int)]]=(([0,0,0,0,U (cC.1-(4:Int)),U (0-dm.1),0,0]:List Int)).map J from rfl) (show 8=([0,0,0,0,U (cC.1-(4:Int)),U (0-dm.1),0,0]:List Int).length from rfl)) (d3 aF ([0,0,0,0,U (cC.1-(4:Int)),U (0-dm.1),0,0]:List Int)) (gY (show [[.n .i64 (0:Int),.n .i64 (1:Int),.n .i64 (U ((1:Int)+cl.1)),.n .i64 (1:Int)]]=(([(⟨0,1,U ((1:Int)+cl.1),1⟩:bu)]:List bu)).map cG from rfl) (show 1=([(⟨0,1,U ((1:Int)+cl.1),1⟩:bu)]:List bu).length from rfl)) (kO cG (⟨0,1,U ((1:Int)+cl.1),1⟩:bu)) (d3 nM ([(⟨0,1,U ((1:Int)+cl.1),1⟩:bu)]:List bu))))) (.comp [.agg [.eU ((([(⟨(⟨#[97]⟩:ByteArray),(-3),0,true⟩:aU),(⟨(⟨#[98]⟩:ByteArray),aZ.1,0,true⟩:aU),(⟨(⟨#[99]⟩:ByteArray),0,(-4),false⟩:aU),(⟨(⟨#[100]⟩:ByteArray),an.1,(-9),true⟩:aU)]:List aU).set 1 (⟨bO.iG,bO.hH,2,bO.iF⟩:aU)).map dJ),.eU (([(⟨0,2,1⟩:a5),(⟨2,1,1⟩:a5)]:List a5).map db)],.cx (.eU (([0,0,0,0,U (cC.1-(4:Int)),U (0-dm.1),0,0]:List Int).map J)),.cx (.eU (([(⟨0,1,U ((1:Int)+cl.1),1⟩:bu)]:List bu).map cG))])))))))
  (fun bn =>
  .az fun bs de =>
  (let t3:List cL:=t1.append [.al false,(ab 5),.aE (ae 1 (ai (.call {aQ:=[.row 0],cO:=[.box [.id,.id,.id]],ac:=[ii,ii],r:= .b bs.1,d4:=[[af.mk 3 [[.isl 1 (cg.map eU8),.n .i64 bs.2.1,.n .i64 bs.2.2]] .live]],fu:=ii,gd:=[.box [.id,.id,.id]],dG:=[0],dD:=false}) []))];
  have fv:=a9.aY (.aC bn (xq bs de));
  .ite (fun cK =>
  .az fun cC dT =>
  .bl fun e9 =>
  .az fun dY gM =>
  .az fun ft ia =>
  .az fun e8 jJ =>
  .az fun fW hn =>
  (let t5:List cL:=t3.append [.al true,.aE (ae 4 (ai (.wg 35 (.call {aQ:=[.row 0],cO:=[.box [.id,.id,.id]],ac:=[ii,.bE (.cx (.eU (([1,2,3]:List Int).map J)))],r:= .n .i64 cC.1,d4:=[[af.mk 3 [[.isl 1 (cg.map eU8),.n .i64 cC.2.1,.n .i64 cC.2.2]] .live]],fu:=ii,gd:=[.box [.id,.id,.id]],dG:=[0,35],dD:=false})) (bT 2 (.aY ((([(⟨0,2,1⟩:a5),(⟨2,1,1⟩:a5)]:List a5)++([(⟨2,3,cC.1⟩:a5)]:List a5)).length)) 2))),.aE (ae 1 (ai (.call {aQ:=[.row 0],cO:=[.box [.id,.id,.id]],ac:=[ii,ii],r:= .n .i64 dY.1,d4:=[[af.mk 3 [[.isl 1 (cg.map eU8),.n .i64 dY.2.1,.n .i64 dY.2.2]] .live]],fu:=ii,gd:=[.box [.id,.id,.id]],dG:=[0],dD:=false}) (bT 2 (.call {aQ:=[.row 0],cO:=[.box [.id,.id,.id]],ac:=[ii,ii],r:= .n .i64 ft.1,d4:=[[af.mk 3 [[.isl 1 (cg.map eU8),.n .i64 ft.2.1,.n .i64 ft.2.2]] .live]],fu:=ii,gd:=[.box [.id,.id,.id]],dG:=[0],dD:=false}) 3))),.aE (bT 1 (.call {aQ:=[.row 0],cO:=[.box [.id,.id,.id]],ac:=[ii,ii],r:= .n .i64 e8.1,d4:=[[af.mk 3 [[.isl 1 (cg.map eU8),.n .i64 e8.2.1,.n .i64 e8.2.2]] .live]],fu:=ii,gd:=[.box [.id,.id,.id]],dG:=[0],dD:=false}) 4),.aE (ae 1 (ai (.call {aQ:=[.row 0],cO:=[.box [.id,.id,.id]],ac:=[ii,ii],r:= .b fW.1,d4:=[[af.mk 3 [[.isl 1 (cg.map eU8),.n .i64 fW.2.1,.n .i64 fW.2.2]] .live]],fu:=ii,gd:=[.box [.id,.id,.id]],dG:=[0],dD:=false}) []))];
  have jj:=fv.aY (.bj cK (gY (show [[.n .i64 (1:Int)],[.n .i64 (2:Int)],[.n .i64 (3:Int)]]=(([1,2,3]:List Int)).map J from rfl) (show 3=([1,2,3]:List Int).length from rfl)) (iV (show [[.n .i64 (1:Int)],[.n .i64 (2:Int)],[.n .i64 (3:Int)]]=(([1,2,3]:List Int)).map J from rfl) (show 3=([1,2,3]:List Int).length from rfl)) (d3 aF ([1,2,3]:List Int)) (H2 cC dT) (kO db (⟨2,3,cC.1⟩:a5)) (vm (show [[.n .i64 (0:Int),.n .i64 (2:Int),.n .i64 (1:Int)],[.n .i64 (2:Int),.n .i64 (1:Int),.n .i64 (1:Int)]]=(([(⟨0,2,1⟩:a5),(⟨2,1,1⟩:a5)]:List a5)).map db from rfl) (show 2=([(⟨0,2,1⟩:a5),(⟨2,1,1⟩:a5)]:List a5).length from rfl)) (ya (show 2=([(⟨0,2,1⟩:a5),(⟨2,1,1⟩:a5)]:List a5).length from rfl) (rU db (⟨2,3,cC.1⟩:a5))) (.dr e9 (oZ dY gM) (oZ ft ia) (oZ e8 jJ) (xq fW hn)));
  .ite (fun je =>
  .ret (let mC:=(([(⟨0,2,1⟩:a5),(⟨2,1,1⟩:a5)]:List a5)++([(⟨2,3,cC.1⟩:a5)]:List a5));let od:=(rU db (⟨2,3,cC.1⟩:a5));i1 (t5.append [.al true,(ab 4),(ab 7)]) [0] [.box [.id,.id,.id]] (jj.aY (.bj je (gY (show [[.s (⟨#[97]⟩:ByteArray),.n .i64 (-3:Int),.n .i64 (0:Int),.b true],[.s (⟨#[98]⟩:ByteArray),.n .i64 aZ.1,.n .i64 (0:Int),.b true],[.s (⟨#[99]⟩:ByteArray),.n .i64 (0:Int),.n .i64 (-4:Int),.b false],[.s (⟨#[100]⟩:ByteArray),.n .i64 an.1,.n .i64 (-9:Int),.b true]]=(([(⟨(⟨#[97]⟩:ByteArray),(-3),0,true⟩:aU),(⟨(⟨#[98]⟩:ByteArray),aZ.1,0,true⟩:aU),(⟨(⟨#[99]⟩:ByteArray),0,(-4),false⟩:aU),(⟨(⟨#[100]⟩:ByteArray),an.1,(-9),true⟩:aU)]:List aU)).map dJ from rfl) (show 4=([(⟨(⟨#[97]⟩:ByteArray),(-3),0,true⟩:aU),(⟨(⟨#[98]⟩:ByteArray),aZ.1,0,true⟩:aU),(⟨(⟨#[99]⟩:ByteArray),0,(-4),false⟩:aU),(⟨(⟨#[100]⟩:ByteArray),an.1,(-9),true⟩:aU)]:List aU).length from rfl)) (iV (show [[.s (⟨#[97]⟩:ByteArray),.n .i64 (-3:Int),.n .i64 (0:Int),.b true],[.s (⟨#[98]⟩:ByteArray),.n .i64 aZ.1,.n .i64 (0:Int),.b true],[.s (⟨#[99]⟩:ByteArray),.n .i64 (0:Int),.n .i64 (-4:Int),.b false],[.s (⟨#[100]⟩:ByteArray),.n .i64 an.1,.n .i64 (-9:Int),.b true]]=(([(⟨(⟨#[97]⟩:ByteArray),(-3),0,true⟩:aU),(⟨(⟨#[98]⟩:ByteArray),aZ.1,0,true⟩:aU),(⟨(⟨#[99]⟩:ByteArray),0,(-4),false⟩:aU),(⟨(⟨#[100]⟩:ByteArray),an.1,(-9),true⟩:aU)]:List aU)).map dJ from rfl) (show 4=([(⟨(⟨#[97]⟩:ByteArray),(-3),0,true⟩:aU),(⟨(⟨#[98]⟩:ByteArray),aZ.1,0,true⟩:aU),(⟨(⟨#[99]⟩:ByteArray),0,(-4),false⟩:aU),(⟨(⟨#[100]⟩:ByteArray),an.1,(-9),true⟩:aU)]:List aU).length from rfl)) (d3 sK ([(⟨(⟨#[97]⟩:ByteArray),(-3),0,true⟩:aU),(⟨(⟨#[98]⟩:ByteArray),aZ.1,0,true⟩:aU),(⟨(⟨#[99]⟩:ByteArray),0,(-4),false⟩:aU),(⟨(⟨#[100]⟩:ByteArray),an.1,(-9),true⟩:aU)]:List aU)) (gY (o3 (show [[.n .i64 (0:Int),.n .i64 (2:Int),.n .i64 (1:Int)],[.n .i64 (2:Int),.n .i64 (1:Int),.n .i64 (1:Int)]]=(([(⟨0,2,1⟩:a5),(⟨2,1,1⟩:a5)]:List a5)).map db from rfl) (show 2=([(⟨0,2,1⟩:a5),(⟨2,1,1⟩:a5)]:List a5).length from rfl) od) (fq mC)) (iV (o3 (show [[.n .i64 (0:Int),.n .i64 (2:Int),.n .i64 (1:Int)],[.n .i64 (2:Int),.n .i64 (1:Int),.n .i64 (1:Int)]]=(([(⟨0,2,1⟩:a5),(⟨2,1,1⟩:a5)]:List a5)).map db from rfl) (show 2=([(⟨0,2,1⟩:a5),(⟨2,1,1⟩:a5)]:List a5).length from rfl) od) (fq mC)) (d3 sH mC) (gY (show [[.n .i64 (0:Int)],[.n .i64 (0:Int)],[.n .i64 (0:Int)],[.n .i64 (0:Int)],[.n .i64 (U (dY.1-(4:Int)))],[.n .i64 (U (0-ft.1))],[.n .i64 (0:Int)],[.n .i64 (0:Int)]]=(([0,0,0,0,U (dY.1-(4:Int)),U (0-ft.1),0,0]:List Int)).map J from rfl) (show 8=([0,0,0,0,U (dY.1-(4:Int)),U (0-ft.1),0,0]:List Int).length from rfl)) (.dr (iV (show [[.n .i64 (0:Int)],[.n .i64 (0:Int)],[.n .i64 (0:Int)],[.n .i64 (0:Int)],[.n .i64 (U (dY.1-(4:Int)))],[.n .i64 (U (0-ft.1))],[.n .i64 (0:Int)],[.n .i64 (0:Int)]]=(([0,0,0,0,U (dY.1-(4:Int)),U (0-ft.1),0,0]:List Int)).map J from rfl) (show 8=([0,0,0,0,U (dY.1-(4:Int)),U (0-ft.1),0,0]:List Int).length from rfl)) (d3 aF ([0,0,0,0,U (dY.1-(4:Int)),U (0-ft.1),0,0]:List Int)) (gY (show [[.n .i64 (0:Int),.n .i64 (1:Int),.n .i64 (U ((1:Int)+e8.1)),.n .i64 (U ((1:Int)+e8.1))]]=(([(⟨0,1,U ((1:Int)+e8.1),U ((1:Int)+e8.1)⟩:bu)]:List bu)).map cG from rfl) (show 1=([(⟨0,1,U ((1:Int)+e8.1),U ((1:Int)+e8.1)⟩:bu)]:List bu).length from rfl)) (kO cG (⟨0,1,U ((1:Int)+e8.1),U ((1:Int)+e8.1)⟩:bu)) (d3 nM ([(⟨0,1,U ((1:Int)+e8.1),U ((1:Int)+e8.1)⟩:bu)]:List bu))))) (.comp [.agg [.eU (([(⟨(⟨#[97]⟩:ByteArray),(-3),0,true⟩:aU),(⟨(⟨#[98]⟩:ByteArray),aZ.1,0,true⟩:aU),(⟨(⟨#[99]⟩:ByteArray),0,(-4),false⟩:aU),(⟨(⟨#[100]⟩:ByteArray),an.1,(-9),true⟩:aU)]:List aU).map dJ),.eU (mC.map db)],.cx (.eU (([0,0,0,0,U (dY.1-(4:Int)),U (0-ft.1),0,0]:List Int).map J)),.cx (.eU (([(⟨0,1,U ((1:Int)+e8.1),U ((1:Int)+e8.1)⟩:bu)]:List bu).map cG))])))
  (fun je =>
  .ret (let mb:=(([(⟨0,2,1⟩:a5),(⟨2,1,1⟩:a5)]:List a5)++([(⟨2,3,cC.1⟩:a5)]:List a5));let qx:=(rU db (⟨2,3,cC.1⟩:a5));i1 (t5.append [.al false,(ab 7)]) [0] [.box [.id,.id,.id]] (jj.aY (.bj je (gY (show [[.s (⟨#[97]⟩:ByteArray),.n .i64 (-3:Int),.n .i64 (0:Int),.b true],[.s (⟨#[98]⟩:ByteArray),.n .i64 aZ.1,.n .i64 (0:Int),.b true],[.s (⟨#[99]⟩:ByteArray),.n .i64 (0:Int),.n .i64 (-4:Int),.b false],[.s (⟨#[100]⟩:ByteArray),.n .i64 an.1,.n .i64 (-9:Int),.b true]]=(([(⟨(⟨#[97]⟩:ByteArray),(-3),0,true⟩:aU),(⟨(⟨#[98]⟩:ByteArray),aZ.1,0,true⟩:aU),(⟨(⟨#[99]⟩:ByteArray),0,(-4),false⟩:aU),(⟨(⟨#[100]⟩:ByteArray),an.1,(-9),true⟩:aU)]:List aU)).map dJ from rfl) (show 4=([(⟨(⟨#[97]⟩:ByteArray),(-3),0,true⟩:aU),(⟨(⟨#[98]⟩:ByteArray),aZ.1,0,true⟩:aU),(⟨(⟨#[99]⟩:ByteArray),0,(-4),false⟩:aU),(⟨(⟨#[100]⟩:ByteArray),an.1,(-9),true⟩:aU)]:List aU).length from rfl)) (iV (show [[.s (⟨#[97]⟩:ByteArray),.n .i64 (-3:Int),.n .i64 (0:Int),.b true],[.s (⟨#[98]⟩:ByteArray),.n .i64 aZ.1,.n .i64 (0:Int),.b true],[.s (⟨#[99]⟩:ByteArray),.n .i64 (0:Int),.n .i64 (-4:Int),.b false],[.s (⟨#[100]⟩:ByteArray),.n .i64 an.1,.n .i64 (-9:Int),.b true]]=(([(⟨(⟨#[97]⟩:ByteArray),(-3),0,true⟩:aU),(⟨(⟨#[98]⟩:ByteArray),aZ.1,0,true⟩:aU),(⟨(⟨#[99]⟩:ByteArray),0,(-4),false⟩:aU),(⟨(⟨#[100]⟩:ByteArray),an.1,(-9),true⟩:aU)]:List aU)).map dJ from rfl) (show 4=([(⟨(⟨#[97]⟩:ByteArray),(-3),0,true⟩:aU),(⟨(⟨#[98]⟩:ByteArray),aZ.1,0,true⟩:aU),(⟨(⟨#[99]⟩:ByteArray),0,(-4),false⟩:aU),(⟨(⟨#[100]⟩:ByteArray),an.1,(-9),true⟩:aU)]:List aU).length from rfl)) (d3 sK ([(⟨(⟨#[97]⟩:ByteArray),(-3),0,true⟩:aU),(⟨(⟨#[98]⟩:ByteArray),aZ.1,0,true⟩:aU),(⟨(⟨#[99]⟩:ByteArray),0,(-4),false⟩:aU),(⟨(⟨#[100]⟩:ByteArray),an.1,(-9),true⟩:aU)]:List aU)) (gY (o3 (show [[.n .i64 (0:Int),.n .i64 (2:Int),.n .i64 (1:Int)],[.n .i64 (2:Int),.n .i64 (1:Int),.n .i64 (1:Int)]]=(([(⟨0,2,1⟩:a5),(⟨2,1,1⟩:a5)]:List a5)).map db from rfl) (show 2=([(⟨0,2,1⟩:a5),(⟨2,1,1⟩:a5)]:List a5).length from rfl) qx) (fq mb)) (iV (o3 (show [[.n .i64 (0:Int),.n .i64 (2:Int),.n .i64 (1:Int)],[.n .i64 (2:Int),.n .i64 (1:Int),.n .i64 (1:Int)]]=(([(⟨0,2,1⟩:a5),(⟨2,1,1⟩:a5)]:List a5)).map db from rfl) (show 2=([(⟨0,2,1⟩:a5),(⟨2,1,1⟩:a5)]:List a5).length from rfl) qx) (fq mb)) (d3 sH mb) (gY (show [[.n .i64 (0:Int)],[.n .i64 (0:Int)],[.n .i64 (0:Int)],[.n .i64 (0:Int)],[.n .i64 (U (dY.1-(4:Int)))],[.n .i64 (U (0-ft.1))],[.n .i64 (0:Int)],[.n .i64 (0:Int)]]=(([0,0,0,0,U (dY.1-(4:Int)),U (0-ft.1),0,0]:List Int)).map J from rfl) (show 8=([0,0,0,0,U (dY.1-(4:Int)),U (0-ft.1),0,0]:List Int).length from rfl)) (.dr (iV (show [[.n .i64 (0:Int)],[.n .i64 (0:Int)],[.n .i64 (0:Int)],[.n .i64 (0:Int)],[.n .i64 (U (dY.1-(4:Int)))],[.n .i64 (U (0-ft.1))],[.n .i64 (0:Int)],[.n .i64 (0:Int)]]=(([0,0,0,0,U (dY.1-(4:Int)),U (0-ft.1),0,0]:List Int)).map J from rfl) (show 8=([0,0,0,0,U (dY.1-(4:Int)),U (0-ft.1),0,0]:List Int).length from rfl)) (d3 aF ([0,0,0,0,U (dY.1-(4:Int)),U (0-ft.1),0,0]:List Int)) (gY (show [[.n .i64 (0:Int),.n .i64 (1:Int),.n .i64 (U ((1:Int)+e8.1)),.n .i64 (1:Int)]]=(([(⟨0,1,U ((1:Int)+e8.1),1⟩:bu)]:List bu)).map cG from rfl) (show 1=([(⟨0,1,U ((1:Int)+e8.1),1⟩:bu)]:List bu).length from rfl)) (kO cG (⟨0,1,U ((1:Int)+e8.1),1⟩:bu)) (d3 nM ([(⟨0,1,U ((1:Int)+e8.1),1⟩:bu)]:List bu))))) (.comp [.agg [.eU (([(⟨(⟨#[97]⟩:ByteArray),(-3),0,true⟩:aU),(⟨(⟨#[98]⟩:ByteArray),aZ.1,0,true⟩:aU),(⟨(⟨#[99]⟩:ByteArray),0,(-4),false⟩:aU),(⟨(⟨#[100]⟩:ByteArray),an.1,(-9),true⟩:aU)]:List aU).map dJ),.eU (mb.map db)],.cx (.eU (([0,0,0,0,U (dY.1-(4:Int)),U (0-ft.1),0,0]:List Int).map J)),.cx (.eU (([(⟨0,1,U ((1:Int)+e8.1),1⟩:bu)]:List bu).map cG))])))))
  (fun cK =>
  .az fun cC dT =>
  .az fun dm fZ =>
  .az fun cl gx =>
  .az fun ea j7 =>
  (let t5:List cL:=t3.append [.al false,.aE (ae 1 (ai (.call {aQ:=[.row 0],cO:=[.box [.id,.id,.id]],ac:=[ii,ii],r:= .n .i64 cC.1,d4:=[[af.mk 3 [[.isl 1 (cg.map eU8),.n .i64 cC.2.1,.n .i64 cC.2.2]] .live]],fu:=ii,gd:=[.box [.id,.id,.id]],dG:=[0],dD:=false}) (bT 2 (.call {aQ:=[.row 0],cO:=[.box [.id,.id,.id]],ac:=[ii,ii],r:= .n .i64 dm.1,d4:=[[af.mk 3 [[.isl 1 (cg.map eU8),.n .i64 dm.2.1,.n .i64 dm.2.2]] .live]],fu:=ii,gd:=[.box [.id,.id,.id]],dG:=[0],dD:=false}) 3))),.aE (bT 1 (.call {aQ:=[.row 0],cO:=[.box [.id,.id,.id]],ac:=[ii,ii],r:= .n .i64 cl.1,d4:=[[af.mk 3 [[.isl 1 (cg.map eU8),.n .i64 cl.2.1,.n .i64 cl.2.2]] .live]],fu:=ii,gd:=[.box [.id,.id,.id]],dG:=[0],dD:=false}) 4),.aE (ae 1 (ai (.call {aQ:=[.row 0],cO:=[.box [.id,.id,.id]],ac:=[ii,ii],r:= .b ea.1,d4:=[[af.mk 3 [[.isl 1 (cg.map eU8),.n .i64 ea.2.1,.n .i64 ea.2.2]] .live]],fu:=ii,gd:=[.box [.id,.id,.id]],dG:=[0],dD:=false}) []))];
  have jj:=fv.aY (.dr cK (oZ cC dT) (oZ dm fZ) (oZ cl gx) (xq ea j7));
  .ite (fun jJ =>
  .ret (i1 (t5.append [.al true,(ab 4),(ab 7)]) [0] [.box [.id,.id,.id]] (jj.aY (.bj jJ (gY (show [[.s (⟨#[97]⟩:ByteArray),.n .i64 (-3:Int),.n .i64 (0:Int),.b true],[.s (⟨#[98]⟩:ByteArray),.n .i64 aZ.1,.n .i64 (0:Int),.b true],[.s (⟨#[99]⟩:ByteArray),.n .i64 (0:Int),.n .i64 (-4:Int),.b false],[.s (⟨#[100]⟩:ByteArray),.n .i64 an.1,.n .i64 (-9:Int),.b true]]=(([(⟨(⟨#[97]⟩:ByteArray),(-3),0,true⟩:aU),(⟨(⟨#[98]⟩:ByteArray),aZ.1,0,true⟩:aU),(⟨(⟨#[99]⟩:ByteArray),0,(-4),false⟩:aU),(⟨(⟨#[100]⟩:ByteArray),an.1,(-9),true⟩:aU)]:List aU)).map dJ from rfl) (show 4=([(⟨(⟨#[97]⟩:ByteArray),(-3),0,true⟩:aU),(⟨(⟨#[98]⟩:ByteArray),aZ.1,0,true⟩:aU),(⟨(⟨#[99]⟩:ByteArray),0,(-4),false⟩:aU),(⟨(⟨#[100]⟩:ByteArray),an.1,(-9),true⟩:aU)]:List aU).length from rfl)) (iV (show [[.s (⟨#[97]⟩:ByteArray),.n .i64 (-3:Int),.n .i64 (0:Int),.b true],[.s (⟨#[98]⟩:ByteArray),.n .i64 aZ.1,.n .i64 (0:Int),.b true],[.s (⟨#[99]⟩:ByteArray),.n .i64 (0:Int),.n .i64 (-4:Int),.b false],[.s (⟨#[100]⟩:ByteArray),.n .i64 an.1,.n .i64 (-9:Int),.b true]]=(([(⟨(⟨#[97]⟩:ByteArray),(-3),0,true⟩:aU),(⟨(⟨#[98]⟩:ByteArray),aZ.1,0,true⟩:aU),(⟨(⟨#[99]⟩:ByteArray),0,(-4),false⟩:aU),(⟨(⟨#[100]⟩:ByteArray),an.1,(-9),true⟩:aU)]:List aU)).map dJ from rfl) (show 4=([(⟨(⟨#[97]⟩:ByteArray),(-3),0,true⟩:aU),(⟨(⟨#[98]⟩:ByteArray),aZ.1,0,true⟩:aU),(⟨(⟨#[99]⟩:ByteArray),0,(-4),false⟩:aU),(⟨(⟨#[100]⟩:ByteArray),an.1,(-9),true⟩:aU)]:List aU).length from rfl)) (d3 sK ([(⟨(⟨#[97]⟩:ByteArray),(-3),0,true⟩:aU),(⟨(⟨#[98]⟩:ByteArray),aZ.1,0,true⟩:aU),(⟨(⟨#[99]⟩:ByteArray),0,(-4),false⟩:aU),(⟨(⟨#[100]⟩:ByteArray),an.1,(-9),true⟩:aU)]:List aU)) (gY (show [[.n .i64 (0:Int),.n .i64 (2:Int),.n .i64 (1:Int)],[.n .i64 (2:Int),.n .i64 (1:Int),.n .i64 (1:Int)]]=(([(⟨0,2,1⟩:a5),(⟨2,1,1⟩:a5)]:List a5)).map db from rfl) (show 2=([(⟨0,2,1⟩:a5),(⟨2,1,1⟩:a5)]:List a5).length from rfl)) (iV (show [[.n .i64 (0:Int),.n .i64 (2:Int),.n .i64 (1:Int)],[.n .i64 (2:Int),.n .i64 (1:Int),.n .i64 (1:Int)]]=(([(⟨0,2,1⟩:a5),(⟨2,1,1⟩:a5)]:List a5)).map db from rfl) (show 2=([(⟨0,2,1⟩:a5),(⟨2,1,1⟩:a5)]:List a5).length from rfl)) (d3 sH ([(⟨0,2,1⟩:a5),(⟨2,1,1⟩:a5)]:List a5)) (gY (show [[.n .i64 (0:Int)],[.n .i64 (0:Int)],[.n .i64 (0:Int)],[.n .i64 (0:Int)],[.n .i64 (U (cC.1-(4:Int)))],[.n .i64 (U (0-dm.1))],[.n .i64 (0:Int)],[.n .i64 (0:Int)]]=(([0,0,0,0,U (cC.1-(4:Int)),U (0-dm.1),0,0]:List Int)).map J from rfl) (show 8=([0,0,0,0,U (cC.1-(4:Int)),U (0-dm.1),0,0]:List Int).length from rfl)) (.dr (iV (show [[.n .i64 (0:Int)],[.n .i64 (0:Int)],[.n .i64 (0:Int)],[.n .i64 (0:Int)],[.n .i64 (U (cC.1-(4:Int)))],[.n .i64 (U (0-dm.1))],[.n .i64 (0:Int)],[.n .i64 (0:Int)]]=(([0,0,0,0,U (cC.1-(4:Int)),U (0-dm.1),0,0]:List Int)).map J from rfl) (show 8=([0,0,0,0,U (cC.1-(4:Int)),U (0-dm.1),0,0]:List Int).length from rfl)) (d3 aF ([0,0,0,0,U (cC.1-(4:Int)),U (0-dm.1),0,0]:List Int)) (gY (show [[.n .i64 (0:Int),.n .i64 (1:Int),.n .i64 (U ((1:Int)+cl.1)),.n .i64 (U ((1:Int)+cl.1))]]=(([(⟨0,1,U ((1:Int)+cl.1),U ((1:Int)+cl.1)⟩:bu)]:List bu)).map cG from rfl) (show 1=([(⟨0,1,U ((1:Int)+cl.1),U ((1:Int)+cl.1)⟩:bu)]:List bu).length from rfl)) (kO cG (⟨0,1,U ((1:Int)+cl.1),U ((1:Int)+cl.1)⟩:bu)) (d3 nM ([(⟨0,1,U ((1:Int)+cl.1),U ((1:Int)+cl.1)⟩:bu)]:List bu))))) (.comp [.agg [.eU (([(⟨(⟨#[97]⟩:ByteArray),(-3),0,true⟩:aU),(⟨(⟨#[98]⟩:ByteArray),aZ.1,0,true⟩:aU),(⟨(⟨#[99]⟩:ByteArray),0,(-4),false⟩:aU),(⟨(⟨#[100]⟩:ByteArray),an.1,(-9),true⟩:aU)]:List aU).map dJ),.eU (([(⟨0,2,1⟩:a5),(⟨2,1,1⟩:a5)]:List a5).map db)],.cx (.eU (([0,0,0,0,U (cC.1-(4:Int)),U (0-dm.1),0,0]:List Int).map J)),.cx (.eU (([(⟨0,1,U ((1:Int)+cl.1),U ((1:Int)+cl.1)⟩:bu)]:List bu).map cG))])))
  (fun jJ =>
  .ret (i1 (t5.append [.al false,(ab 7)]) [0] [.box [.id,.id,.id]] (jj.aY (.bj jJ (gY (show [[.s (⟨#[97]⟩:ByteArray),.n .i64 (-3:Int),.n .i64 (0:Int),.b true],[.s (⟨#[98]⟩:ByteArray),.n .i64 aZ.1,.n .i64 (0:Int),.b true],[.s (⟨#[99]⟩:ByteArray),.n .i64 (0:Int),.n .i64 (-4:Int),.b false],[.s (⟨#[100]⟩:ByteArray),.n .i64 an.1,.n .i64 (-9:Int),.b true]]=(([(⟨(⟨#[97]⟩:ByteArray),(-3),0,true⟩:aU),(⟨(⟨#[98]⟩:ByteArray),aZ.1,0,true⟩:aU),(⟨(⟨#[99]⟩:ByteArray),0,(-4),false⟩:aU),(⟨(⟨#[100]⟩:ByteArray),an.1,(-9),true⟩:aU)]:List aU)).map dJ from rfl) (show 4=([(⟨(⟨#[97]⟩:ByteArray),(-3),0,true⟩:aU),(⟨(⟨#[98]⟩:ByteArray),aZ.1,0,true⟩:aU),(⟨(⟨#[99]⟩:ByteArray),0,(-4),false⟩:aU),(⟨(⟨#[100]⟩:ByteArray),an.1,(-9),true⟩:aU)]:List aU).length from rfl)) (iV (show [[.s (⟨#[97]⟩:ByteArray),.n .i64 (-3:Int),.n .i64 (0:Int),.b true],[.s (⟨#[98]⟩:ByteArray),.n .i64 aZ.1,.n .i64 (0:Int),.b true],[.s (⟨#[99]⟩:ByteArray),.n .i64 (0:Int),.n .i64 (-4:Int),.b false],[.s (⟨#[100]⟩:ByteArray),.n .i64 an.1,.n .i64 (-9:Int),.b true]]=(([(⟨(⟨#[97]⟩:ByteArray),(-3),0,true⟩:aU),(⟨(⟨#[98]⟩:ByteArray),aZ.1,0,true⟩:aU),(⟨(⟨#[99]⟩:ByteArray),0,(-4),false⟩:aU),(⟨(⟨#[100]⟩:ByteArray),an.1,(-9),true⟩:aU)]:List aU)).map dJ from rfl) (show 4=([(⟨(⟨#[97]⟩:ByteArray),(-3),0,true⟩:aU),(⟨(⟨#[98]⟩:ByteArray),aZ.1,0,true⟩:aU),(⟨(⟨#[99]⟩:ByteArray),0,(-4),false⟩:aU),(⟨(⟨#[100]⟩:ByteArray),an.1,(-9),true⟩:aU)]:List aU).length from rfl)) (d3 sK ([(⟨(⟨#[97]⟩:ByteArray),(-3),0,true⟩:aU),(⟨(⟨#[98]⟩:ByteArray),aZ.1,0,true⟩:aU),(⟨(⟨#[99]⟩:ByteArray),0,(-4),false⟩:aU),(⟨(⟨#[100]⟩:ByteArray),an.1,(-9),true⟩:aU)]:List aU)) (gY (show [[.n .i64 (0:Int),.n .i64 (2:Int),.n .i64 (1:Int)],[.n .i64 (2:Int),.n .i64 (1:Int),.n .i64 (1:Int)]]=(([(⟨0,2,1⟩:a5),(⟨2,1,1⟩:a5)]:List a5)).map db from rfl) (show 2=([(⟨0,2,1⟩:a5),(⟨2,1,1⟩:a5)]:List a5).length from rfl)) (iV (show [[.n .i64 (0:Int),.n .i64 (2:Int),.n .i64 (1:Int)],[.n .i64 (2:Int),.n .i64 (1:Int),.n .i64 (1:Int)]]=(([(⟨0,2,1⟩:a5),(⟨2,1,1⟩:a5)]:List a5)).map db from rfl) (show 2=([(⟨0,2,1⟩:a5),(⟨2,1,1⟩:a5)]:List a5).length from rfl)) (d3 sH ([(⟨0,2,1⟩:a5),(⟨2,1,1⟩:a5)]:List a5)) (gY (show [[.n .i64 (0:Int)],[.n .i64 (0:Int)],[.n .i64 (0:Int)],[.n .i64 (0:Int)],[.n .i64 (U (cC.1-(4:Int)))],[.n .i64 (U (0-dm.1))],[.n .i64 (0:Int)],[.n .i64 (0:Int)]]=(([0,0,0,0,U (cC.1-(4:Int)),U (0-dm.1),0,0]:List Int)).map J from rfl) (show 8=([0,0,0,0,U (cC.1-(4:Int)),U (0-dm.1),0,0]:List Int).length from rfl)) (.dr (iV (show [[.n .i64 (0:Int)],[.n .i64 (0:Int)],[.n .i64 (0:Int)],[.n .i64 (0:Int)],[.n .i64 (U (cC.1-(4:Int)))],[.n .i64 (U (0-dm.1))],[.n .i64 (0:Int)],[.n .i64 (0:Int)]]=(([0,0,0,0,U (cC.1-(4:Int)),U (0-dm.1),0,0]:List Int)).map J from rfl) (show 8=([0,0,0,0,U (cC.1-(4:Int)),U (0-dm.1),0,0]:List Int).length from rfl)) (d3 aF ([0,0,0,0,U (cC.1-(4:Int)),U (0-dm.1),0,0]:List Int)) (gY (show [[.n .i64 (0:Int),.n .i64 (1:Int),.n .i64 (U ((1:Int)+cl.1)),.n .i64 (1:Int)]]=(([(⟨0,1,U ((1:Int)+cl.1),1⟩:bu)]:List bu)).map cG from rfl) (show 1=([(⟨0,1,U ((1:Int)+cl.1),1⟩:bu)]:List bu).length from rfl)) (kO cG (⟨0,1,U ((1:Int)+cl.1),1⟩:bu)) (d3 nM ([(⟨0,1,U ((1:Int)+cl.1),1⟩:bu)]:List bu))))) (.comp [.agg [.eU (([(⟨(⟨#[97]⟩:ByteArray),(-3),0,true⟩:aU),(⟨(⟨#[98]⟩:ByteArray),aZ.1,0,true⟩:aU),(⟨(⟨#[99]⟩:ByteArray),0,(-4),false⟩:aU),(⟨(⟨#[100]⟩:ByteArray),an.1,(-9),true⟩:aU)]:List aU).map dJ),.eU (([(⟨0,2,1⟩:a5),(⟨2,1,1⟩:a5)]:List a5).map db)],.cx (.eU (([0,0,0,0,U (cC.1-(4:Int)),U (0-dm.1),0,0]:List Int).map J)),.cx (.eU (([(⟨0,1,U ((1:Int)+cl.1),1⟩:bu)]:List bu).map cG))]))))))))
def C9 (ie:List Int):Option (ca×(List Int)×(List bu)) :=
 Dr ie >>= fun an =>
 zQ ie 0 an >>= fun aZ =>
 some ((⟨aZ.1,aZ.2.1⟩:ca),aZ.2.2.1,aZ.2.2.2.1)
theorem Us {ie:List Int}:b4 (C9 ie) (fun r=>Con bx 4 [.isl 1 (ie.map eU8)] [] (.dB [.agg (ga r.1),.isl 1 (r.2.1.map J),.isl 4 (r.2.2.map cG)]) []):=by
 unfold C9
 exact .az fun an R =>
  .az fun aZ aD =>
  .ret (bM [(ab 3),.aE (ae 1 (ai (.call {aQ:=[],cO:=[],ac:=[ii],r:= .ref 0 0 0 0,d4:=[[af.mk 3 [[.isl 1 (ie.map eU8),.n .i64 (0:Int),.n .i64 an]] .live]],fu:=ii,gd:=[.box [.id,.id,.id]],dG:=[],dD:=false}) (ai (.call {aQ:=[.row 4],cO:=[.box [.id,.id,.id]],ac:=[ii],r:= .dB [.agg [.isl 4 (aZ.1.map dJ),.isl 3 (aZ.2.1.map db)],.isl 1 (aZ.2.2.1.map J),.isl 4 (aZ.2.2.2.1.map cG)],d4:=[[af.mk 3 [[.isl 1 (ie.map eU8),.n .i64 aZ.2.2.2.2.1,.n .i64 aZ.2.2.2.2.2]] .live]],fu:=ii,gd:=[.box [.id,.id,.id]],dG:=[4],dD:=false}) (ae 6 []))))] (.aC (UU an R) (UM aZ aD)))
def Ds (rO:Int):Option Bool :=
 if (decide ((97:Int)≤rO))=true then
  some (decide (rO≤(122:Int)))
 else
  some false
theorem UW {rO:Int}:b4 (Ds rO) (fun r=>Con bx 94 [.n .u8 rO] [] (.b r) []):=by
 unfold Ds
 exact .ite (fun o =>
  .ret (bM [(ab 1),.aE (bT 5 (.al true) 1)] (.b1 o o o)))
  (fun o =>
  .ret (bM [(ab 1),.aE (ae 3 (cw 2 (ai (.al false) (ae 1 []))))] (.b1 o o o)))
def IP (rO:Int):Option Bool :=
 if (decide ((48:Int)≤rO))=true then
  some (decide (rO≤(57:Int)))
 else
  some false
theorem U6 {rO:Int}:b4 (IP rO) (fun r=>Con bx 95 [.n .u8 rO] [] (.b r) []):=by
 unfold IP
 exact .ite (fun o =>
  .ret (bM [(ab 1),.aE (bT 5 (.al true) 1)] (.b1 o o o)))
  (fun o =>
  .ret (bM [(ab 1),.aE (ae 3 (cw 2 (ai (.al false) (ae 1 []))))] (.b1 o o o)))
def Hx (aI:ByteArray)(ps:Int):Int→S:=fun l5=>e2 [(0,.s aI),(5,.n .i64 ps),(6,.n .i64 l5)] []
def MM (aI:ByteArray)(ps:Int):((Unit)⊕(Unit))→e5
 | .inl a=>⟨some 0,[(0,.s aI)],[]⟩
 | .inr a=>⟨none,[(2,.b false)],[]⟩
def xk (aI:ByteArray)(ps l5:Int):Option ((Int)⊕((Unit)⊕(Unit))) :=
 if (decide (l5<ps))=true then
  if 0≤l5∧l5<(aI.size:Nat) then
  Ds ((aI.data.toList.getD l5.toNat 0).toNat:Int) >>= fun aZ =>
  if aZ=true then
   some (.inl (U (l5+(1:Int))))
  else
   if (l5 == (0:Int))=true then
    some (.inr (.inr ()))
   else
    IP ((aI.data.toList.getD l5.toNat 0).toNat:Int) >>= fun bH =>
    if bH=true then
     some (.inl (U (l5+(1:Int))))
    else
     some (.inr (.inr ()))
  else none
 else
  some (.inr (.inl ()))
def Iw (aI:ByteArray)(ps l5:Int):Option ((Unit)⊕(Unit)):=iter (fun w:Int=>xk aI ps w) l5
theorem T3 {aI:ByteArray}{ps l5:Int}:b4 (xk aI ps l5) (fG bx 33 0 71 [1,0,1,0,0] (Hx aI ps l5) (Hx aI ps) (MM aI ps)):=by
 unfold xk
 exact .ite (fun o =>
  .bl fun R =>
  .az fun aZ aD =>
  (let t1:List cL:=[(ab 1),.al true,(ab 2)];
  have a9:=((.dr o R.1 R.2 (UW aZ aD) (cf.b aZ)):c3 _);
  .ite (fun aM =>
  .ret (b0 (t1.append [.aE (ae 3 (ai (bA 1 (.b aZ) true) (ae 2 (cw 3 (ae 5 (cw 1 (ai (.al false) []))))))),.al false,(ab 2),.bm [] [] (bY [0,5,6])]) (a9.aY (.eF (cR aM) (cR aM) (cR aM) (cR aM) (cR aM) dU))))
  (fun aM =>
  (have fR:=a9.aY (.b1 (c2 aM) (c2 aM) (c2 aM));
  .ite (fun bq =>
  .ret (b0 (t1.append [.aE (ae 3 (ai (bA 1 (.b aZ) true) (ae 5 (cw 5 (ai (.al true) (ai (.al true) [])))))),.al true,(ab 1),.bm [] [] (bY [2])]) (fR.aY (.bj bq bq bq bq bq (c2 aM) bq (c2 aM) (.aw bP)))))
  (fun bq =>
  .az fun bH bn =>
  (let t4:List cL:=t1.append [.aE (ae 3 (ai (bA 1 (.b aZ) true) (ae 8 (ai (bA 1 (.b bH) true) (ae 1 (ai (.al false) (ai (.al true) [])))))))];
  have nn:=fR.aY (.bj bq bq bq R.1 R.2 bq (U6 bH bn) (cf.b bH) (.dn bq (c2 aM) bq (c2 aM)));
  .ite (fun cA =>
  .ret (b0 (t4.append [.al false,(ab 2),.bm [] [] (bY [0,5,6])]) (nn.aY (.aw (cR cA)))))
  (fun cA =>
  .ret (b0 (t4.append [.al true,(ab 1),.bm [] [] (bY [2])]) (nn.aY (.aw (c2 cA)))))))))))
  (fun o =>
  .ret (b0 [(ab 1),.al false,.bm [] [] (bY [0])] (.aw o)))
theorem H3 {aI:ByteArray}{ps l5:Int}{r} (h:Iw aI ps l5=some r):fH bx 33 0 71 [1,0,1,0,0] (Hx aI ps) (MM aI ps) l5 r:=fI (fun _=>T3) h
def u9 (aI:ByteArray):Option Bool :=
 Iw aI (aI.size:Int) 0 >>= fun an =>
 match an with
 | .inl bI=>(if (!(aI.toList == (⟨#[]⟩:ByteArray).toList))=true then
  some (decide ((aI.size:Int)≤(8:Int)))
  else
   some false)
 | .inr bI=>(some false)
theorem Vj {aI:ByteArray}:b4 (u9 aI) (fun r=>Con bx 71 [.s aI] [] (.b r) []):=by
 unfold u9
 exact .az fun an R =>
  (let t1:List cL:=[(ab 1),(ab 3),.bm [] [] (bY [0,5,6])];
  (by
  rcases an with bI|bI
  ·exact ((let t2:List cL:=t1.append [.sub (.exit 0) [(0,.s aI)] []];
  .ite (fun aD =>
  .ret (bM (t2.append [.aE (bT 6 (.al true) 1)]) (.dr (H3 R) aD aD aD aD)))
  (fun aD =>
  .ret (bM (t2.append [.aE (ae 3 (cw 3 (ai (.al false) (ae 1 []))))]) (.dr (H3 R) aD aD aD aD)))))
  ·exact (.ret (bM (t1.append [.sub (.ret) [(2,.b false)] []]) (.aw (H3 R))))))
def xH (bc:Int):Option Bool :=
 if (decide ((-50:Int)≤bc))=true then
  some (decide (bc≤(50:Int)))
 else
  some false
theorem M0 {bc:Int}:b4 (xH bc) (fun r=>Con bx 72 [.n .i64 bc] [] (.b r) []):=by
 unfold xH
 exact .ite (fun o =>
  .ret (bM [(ab 1),.aE (bT 5 (.al true) 1)] (.b1 o o o)))
  (fun o =>
  .ret (bM [(ab 1),.aE (ae 3 (cw 2 (ai (.al false) (ae 1 []))))] (.b1 o o o)))
def zV (ed:aU):Option Bool :=
 u9 ed.iG >>= fun an =>
 if an=true then
  xH ed.hH >>= fun bz =>
  if bz=true then
   xH ed.mR >>= fun bH =>
   some bH
  else
   some false
 else
  some false
theorem U7 {ed:aU}:b4 (zV ed) (fun r=>Con bx 43 [.agg (dJ ed)] [] (.b r) []):=by
 unfold zV
 exact .az fun an R =>
  (have b3:=((.aC (Vj an R) (cf.b an)):c3 _);
  .ite (fun ad =>
  .az fun bz aM =>
  (have a9:=b3.aY (.eF ad ad ad (M0 bz aM) (cf.b bz) ad);
  .ite (fun bq =>
  .az fun bH bn =>
  .ret (bM [(ab 2),.aE (ae 2 (ai (bA 1 (.b an) true) (ae 3 (ai (bA 1 (.b bz) true) (ai (.al true) (ae 3 (ai (bA 1 (.b bH) true) (ai (.al true) (ae 1 [])))))))))] (a9.aY (.eF bq bq bq (M0 bH bn) (cf.b bH) bq))))
  (fun bq =>
  .ret (bM [(ab 2),.aE (ae 2 (ai (bA 1 (.b an) true) (ae 3 (ai (bA 1 (.b bz) true) (ai (.al true) (ae 1 (cw 3 (ai (.al false) (ae 1 [])))))))))] (a9.aY (.dn bq bq bq bq))))))
  (fun ad =>
  .ret (bM [(ab 2),.aE (ae 2 (ai (bA 1 (.b an) true) (ae 1 (cw 3 (ai (.al false) (ae 1 (cw 3 (ae 2 []))))))))] (b3.aY (.ff ad ad ad ad dU dU dU)))))
def C4 (ed:aU)(cx:ByteArray):Option Bool :=
 some (ed.iG.toList == cx.toList)
theorem Ui {ed:aU}{cx:ByteArray}:b4 (C4 ed cx) (fun r=>Con bx 74 [.agg (dJ ed),.eu 1 [[.s cx]] 0 0] [] (.b r) []):=by
 unfold C4
 exact .ret (bM [(ab 2),(ab 5)] .nil)
def FV (aI:List aU)(jY:ByteArray)(ez:Int):Int→S:=fun eI=>e2 [(0,.isl 4 (aI.map dJ)),(1,.fn 74 [.eu 1 [[.s jY]] 0 0]),(7,.n .i64 ez),(8,.n .i64 eI)] []
def Mf (aI:List aU)(jY:ByteArray)(ez:Int):((Unit)⊕(Int))→e5
 | .inl a=>⟨some 0,[],[]⟩
 | .inr a=>⟨none,[(4,.n .i64 a)],[]⟩
def zp (aI:List aU)(jY:ByteArray)(ez eI:Int):Option ((Int)⊕((Unit)⊕(Int))) :=
 if (decide (eI<ez))=true then
  if 0≤eI∧eI<aI.length then
  aI[eI.toNat]? >>= fun aO =>
  C4 aO jY >>= fun bp =>
  if bp=true then
   some (.inr (.inr eI))
  else
   some (.inl (U (eI+(1:Int))))
  else none
 else
  some (.inr (.inl ()))
def Ge (aI:List aU)(jY:ByteArray)(ez eI:Int):Option ((Unit)⊕(Int)):=iter (fun w:Int=>zp aI jY ez w) eI
theorem SF {aI:List aU}{jY:ByteArray}{ez eI:Int}:b4 (zp aI jY ez eI) (fG bx 19 0 73 [1,0,1,0,0] (FV aI jY ez eI) (FV aI jY ez) (Mf aI jY ez)):=by
 unfold zp
 exact .ite (fun o =>
  .bl fun R =>
  .az fun aO aD =>
  .az fun bp bq =>
  (let t1:List cL:=[(ab 1),.al true,(ab 2),.aE (ae 4 (ai (.cq (dJ aO)) (ai (bA 2 (.b bp) true) [])))];
  have a9:=((.eF o R.1 (en dJ R.2) (cz dJ aD) (Ui bp bq) (cf.b bp)):c3 _);
  .ite (fun bQ =>
  .ret (b0 (t1.append [.al true,(ab 2),.bm [] [] (bY [4])]) (a9.aY (.aw bQ))))
  (fun bQ =>
  .ret (b0 (t1.append [.al false,(ab 2),.bm [] [] [(0,ii),(1,.comp [.cx .id]),(7,ii),(8,ii)]]) (a9.aY (.aw bQ))))))
  (fun o =>
  .ret (b0 [(ab 1),.al false,.bm [] [] []] (.aw o)))
theorem Mh {aI:List aU}{jY:ByteArray}{ez eI:Int}{r} (h:Ge aI jY ez eI=some r):fH bx 19 0 73 [1,0,1,0,0] (FV aI jY ez) (Mf aI jY ez) eI r:=fI (fun _=>SF) h
def CE (aI:List aU)(o8:ByteArray):Option Int :=
 Ge aI o8 (len_ dJ aI) 0 >>= fun an =>
 match an with
 | .inl bI=>(some (-1))
 | .inr bI=>(some bI)
theorem S5 {aI:List aU}{o8:ByteArray}:b4 (CE aI o8) (fun r=>Con bx 73 [.isl 4 (aI.map dJ),.fn 74 [.eu 1 [[.s o8]] 0 0]] [] (.n .i64 r) []):=by
 unfold CE
 exact .az fun an R =>
  (let t1:List cL:=[(ab 1),(ab 3),.bm [] [] [(0,ii),(1,.comp [.cx .id]),(7,ii),(8,ii)]];
  (by
  rcases an with bI|bI
  ·exact (.ret (bM (t1.append [.sub (.exit 0) [] [],(ab 1)]) (.aw (Mh R))))
  ·exact (.ret (bM (t1.append [.sub (.ret) [(4,.n .i64 bI)] []]) (.aw (Mh R))))))
def zN (aI:ca)(yo:ByteArray):Option Int :=
 CE aI.c7 yo >>= fun an =>
 some an
theorem Ut {aI:ca}{yo:ByteArray}:b4 (zN aI yo) (fun r=>Con bx 44 [.agg (ga aI),.s yo] [] (.n .i64 r) []):=by
 unfold zN
 exact .az fun an R =>
  .ret (bM [(ab 3),.aE (bT 3 (.call {ac:=[ii,.comp [.ptr [.id]]],r:= .n .i64 an,dD:=true,dG:=[1]}) 1)] (.b1 (jA (Pv yo):gr [[.s yo]]) (S5 an R) (cf.n .i64 an)))
def zy (aI:ca)(kv:a5):Option Bool :=
 if (decide (kv.c0<(0:Int)))=true then
  some false
 else
  if (decide ((len_ dJ aI.c7)≤kv.c0))=true then
   some false
  else
   if (decide (kv.c1<(0:Int)))=true then
    some false
   else
    if (decide ((len_ dJ aI.c7)≤kv.c1))=true then
     some false
    else
     if (decide (kv.h8<(1:Int)))=true then
      some false
     else
      if (decide ((3:Int)<kv.h8))=true then
       some false
      else
       if 0≤kv.c0∧kv.c0<aI.c7.length then
       aI.c7[kv.c0.toNat]? >>= fun kx =>
       if 0≤kv.c1∧kv.c1<aI.c7.length then
       aI.c7[kv.c1.toNat]? >>= fun ju =>
       if (kx.hH != ju.hH)=true then
        if kx.iF=true then
         some (!ju.iF)
        else
         some true
       else
        if (kx.mR != ju.mR)=true then
         if kx.iF=true then
          some (!ju.iF)
         else
          some true
        else
         some false
       else none
       else none
theorem Tt {aI:ca}{kv:a5}:b4 (zy aI kv) (fun r=>Con bx 47 [.eu 2 [(ga aI)] 0 0,.agg (db kv)] [] (.b r) []):=by
 unfold zy
 exact .ite (fun o =>
  .ret (bM [(ab 2),(ab 6),.aE (ae 4 (cw 4 (ai (.al true) (ae 1 (cw 3 (ae 2 (cw 4 (ae 2 (cw 3 (ae 2 (cw 3 (ae 1 [])))))))))))),.al true,(ab 1)] (.bj o o o o o bP bP bP (.bj bP bP bP bP bP bP bP bP (.b1 bP bP bP)))))
  (fun o =>
  .ite (fun R =>
  .ret (bM [(ab 2),(ab 6),.aE (ae 8 (ai (.al false) (ae 1 (cw 3 (ai (.al true) (ae 1 (cw 4 (ae 2 (cw 3 (ae 2 (cw 3 (ae 1 [])))))))))))),.al true,(ab 1)] (.bj o o o o o R R R (.bj R bP bP bP bP bP bP bP (.dn bP bP bP bP)))))
  (fun R =>
  (have b3:=((.bj o o o o o R R R (.aw R)):c3 _);
  .ite (fun ad =>
  .ret (bM [(ab 2),(ab 6),.aE (ae 8 (ai (.al false) (ae 4 (ai (.al false) (ae 1 (cw 4 (ai (.al true) (ae 1 (cw 3 (ae 2 (cw 3 (ae 1 [])))))))))))),.al true,(ab 1)] (b3.aY (.bj ad ad ad ad ad bP bP bP (.dn bP bP bP bP)))))
  (fun ad =>
  .ite (fun aD =>
  .ret (bM [(ab 2),(ab 6),.aE (ae 8 (ai (.al false) (ae 4 (ai (.al false) (ae 5 (ai (.al false) (ae 1 (cw 3 (ai (.al true) (ae 1 (cw 3 (ae 1 [])))))))))))),.al true,(ab 1)] (b3.aY (.bj ad ad ad ad ad aD aD aD (.dr aD bP bP bP bP)))))
  (fun aD =>
  (have a9:=b3.aY (.bj ad ad ad ad ad aD aD aD (.aw aD));
  .ite (fun aM =>
  .ret (bM [(ab 2),(ab 6),.aE (ae 8 (ai (.al false) (ae 4 (ai (.al false) (ae 5 (ai (.al false) (ae 4 (ai (.al false) (ae 1 (cw 3 (ai (.al true) []))))))))))),.al true,(ab 1)] (a9.aY (.dr aM aM aM aM bP))))
  (fun aM =>
  (let t3:List cL:=[(ab 2),(ab 6),.aE (ae 8 (ai (.al false) (ae 4 (ai (.al false) (ae 5 (ai (.al false) (ae 4 (ai (.al false) (ae 4 (ai (.al false) []))))))))))];
  .ite (fun bq =>
  .ret (bM (t3.append [.al true,(ab 1)]) (a9.aY (.dr aM aM aM aM bq))))
  (fun bq =>
  .bl fun bQ =>
  .az fun kx cA =>
  .bl fun de =>
  .az fun ju dc =>
  (let t4:List cL:=t3.append [.al false,.aE (ae 7 (ai (.cq (dJ kx)) (bT 7 (.cq (dJ ju)) 4)))];
  have nn:=a9.aY (.bj aM aM aM aM bq bQ.1 (en dJ bQ.2) (cz dJ cA) (.b1 de.1 (en dJ de.2) (cz dJ dc)));
  .ite (fun dT =>
  (have jj:=nn.aY (.bj dT dT dT dT dT dT bP bP (.aw bP));
  .ite (fun e9 =>
  .ret (bM (t4.append [.aE (ae 6 (cw 5 (ai (.al true) (bT 6 (.al true) 3))))]) (jj.aY (.dr e9 e9 bP e9 bP))))
  (fun e9 =>
  .ret (bM (t4.append [.aE (ae 6 (cw 5 (ai (.al true) (ae 4 (cw 2 (ai (.al false) (ae 3 [])))))))]) (jj.aY (.dr e9 e9 bP e9 bP))))))
  (fun dT =>
  .ite (fun e9 =>
  (have jj:=nn.aY (.bj dT dT dT dT dT dT e9 e9 (.aw e9));
  .ite (fun fZ =>
  .ret (bM (t4.append [.aE (ae 11 (ai (.al false) (ae 6 (ai (.al true) (bT 1 (.al true) 1)))))]) (jj.aY (.eF fZ fZ e9 fZ e9 e9))))
  (fun fZ =>
  .ret (bM (t4.append [.aE (ae 11 (ai (.al false) (ae 4 (cw 2 (ai (.al false) (bT 1 (.al true) 1))))))]) (jj.aY (.eF fZ fZ e9 fZ e9 e9))))))
  (fun e9 =>
  .ret (bM (t4.append [.aE (ae 11 (ai (.al false) (ae 1 (cw 3 (ae 2 (cw 2 (ai (.al false) (ae 1 []))))))))]) (nn.aY (.bj dT dT dT dT dT dT e9 e9 (.dn e9 e9 e9 e9))))))))))))))))
def C0 (kv:a5)(cx:ca):Option Bool :=
 zy cx kv >>= fun an =>
 some (!an)
theorem Ub {kv:a5}{cx:ca}:b4 (C0 kv cx) (fun r=>Con bx 46 [.agg (db kv),.eu 2 [(ga cx)] 0 0] [] (.b r) []):=by
 unfold C0
 exact .az fun an R =>
  .ret (bM [(ab 2),.aE (bT 1 (bA 2 (.b an) true) 2)] (.aC (Tt an R) (cf.b an)))
def FU (aI:List a5)(jY:List aU)(o9:List a5)(ez:Int):Int→S:=fun eI=>e2 [(0,.isl 3 (aI.map db)),(1,.fn 46 [.eu 2 [[.isl 4 (jY.map dJ),.isl 3 (o9.map db)]] 0 0]),(7,.n .i64 ez),(8,.n .i64 eI)] []
def Me (aI:List a5)(jY:List aU)(o9:List a5)(ez:Int):((Unit)⊕(Int))→e5
 | .inl a=>⟨some 0,[],[]⟩
 | .inr a=>⟨none,[(4,.n .i64 a)],[]⟩
def wD (aI:List a5)(jY:List aU)(o9:List a5)(ez eI:Int):Option ((Int)⊕((Unit)⊕(Int))) :=
 if (decide (eI<ez))=true then
  if 0≤eI∧eI<aI.length then
  aI[eI.toNat]? >>= fun aO =>
  C0 aO (⟨jY,o9⟩:ca) >>= fun bp =>
  if bp=true then
   some (.inr (.inr eI))
  else
   some (.inl (U (eI+(1:Int))))
  else none
 else
  some (.inr (.inl ()))
def Gb (aI:List a5)(jY:List aU)(o9:List a5)(ez eI:Int):Option ((Unit)⊕(Int)):=iter (fun w:Int=>wD aI jY o9 ez w) eI
theorem SE {aI:List a5}{jY:List aU}{o9:List a5}{ez eI:Int}:b4 (wD aI jY o9 ez eI) (fG bx 19 0 75 [1,0,1,0,0] (FU aI jY o9 ez eI) (FU aI jY o9 ez) (Me aI jY o9 ez)):=by
 unfold wD
 exact .ite (fun o =>
  .bl fun R =>
  .az fun aO aD =>
  .az fun bp bq =>
  (let t1:List cL:=[(ab 1),.al true,(ab 2),.aE (ae 4 (ai (.cq (db aO)) (ai (bA 2 (.b bp) true) [])))];
  have a9:=((.eF o R.1 (en db R.2) (cz db aD) (Ub bp bq) (cf.b bp)):c3 _);
  .ite (fun bQ =>
  .ret (b0 (t1.append [.al true,(ab 2),.bm [] [] (bY [4])]) (a9.aY (.aw bQ))))
  (fun bQ =>
  .ret (b0 (t1.append [.al false,(ab 2),.bm [] [] [(0,ii),(1,.comp [.cx .id]),(7,ii),(8,ii)]]) (a9.aY (.aw bQ))))))
  (fun o =>
  .ret (b0 [(ab 1),.al false,.bm [] [] []] (.aw o)))
theorem Mg {aI:List a5}{jY:List aU}{o9:List a5}{ez eI:Int}{r} (h:Gb aI jY o9 ez eI=some r):fH bx 19 0 75 [1,0,1,0,0] (FU aI jY o9 ez) (Me aI jY o9 ez) eI r:=fI (fun _=>SE) h
def CA (aI:List a5)(o8:ca):Option Int :=
 Gb aI o8.c7 o8.b2 (len_ db aI) 0 >>= fun an =>
 match an with
 | .inl bI=>(some (-1))
 | .inr bI=>(some bI)
theorem S2 {aI:List a5}{o8:ca}:b4 (CA aI o8) (fun r=>Con bx 75 [.isl 3 (aI.map db),.fn 46 [.eu 2 [(ga o8)] 0 0]] [] (.n .i64 r) []):=by
 unfold CA
 exact .az fun an R =>
  (let t1:List cL:=[(ab 1),(ab 3),.bm [] [] [(0,ii),(1,.comp [.cx .id]),(7,ii),(8,ii)]];
  (by
  rcases an with bI|bI
  ·exact (.ret (bM (t1.append [.sub (.exit 0) [] [],(ab 1)]) (.aw (Mg R))))
  ·exact (.ret (bM (t1.append [.sub (.ret) [(4,.n .i64 bI)] []]) (.aw (Mg R))))))
def zq (aI:List a5)(o8:ca):Option Bool :=
 CA aI o8 >>= fun an =>
 some (decide ((0:Int)≤an))
theorem SP {aI:List a5}{o8:ca}:b4 (zq aI o8) (fun r=>Con bx 45 [.isl 3 (aI.map db),.fn 46 [.eu 2 [(ga o8)] 0 0]] [] (.b r) []):=by
 unfold zq
 exact .az fun an R =>
  .ret (bM [(ab 1),.aE (bT 2 (bA 2 (.n .i64 an) true) 2)] (.aC (S2 an R) (cf.n .i64 an)))
def GU (gF:List aU)(hi:Int)(aH:List a5):Int→S:=fun gn=>e2 [(1,.ref 0 0 0 0),(16,.isl 4 (gF.map dJ)),(17,.n .i64 hi),(18,.n .i64 gn)] [[af.mk 2 [[.isl 4 (gF.map dJ),.isl 3 (aH.map db)]] .live]]
def GX (gF:List aU)(hi:Int)(aH:List a5):((Unit)⊕(Unit))→e5
 | .inl a=>⟨some 0,[(1,.ref 0 0 0 0)],[[af.mk 2 [[.isl 4 (gF.map dJ),.isl 3 (aH.map db)]] .live]]⟩
 | .inr a=>⟨none,[(2,.b false)],[]⟩
def w2 (gF:List aU)(hi:Int)(aH:List a5)(gn:Int):Option ((Int)⊕((Unit)⊕(Unit))) :=
 if (decide (gn<hi))=true then
  if 0≤gn∧gn<gF.length then
  gF[gn.toNat]? >>= fun aO =>
  zV aO >>= fun bp =>
  if bp=true then
   zN (⟨gF,aH⟩:ca) aO.iG >>= fun fz =>
   if (fz != gn)=true then
    some (.inr (.inr ()))
   else
    some (.inl (U (gn+(1:Int))))
  else
   some (.inr (.inr ()))
  else none
 else
  some (.inr (.inl ()))
def CU (gF:List aU)(hi:Int)(aH:List a5)(gn:Int):Option ((Unit)⊕(Unit)):=iter (fun w:Int=>w2 gF hi aH w) gn
theorem Tq {gF:List aU}{hi:Int}{aH:List a5}{gn:Int}:b4 (w2 gF hi aH gn) (fG bx 40 0 19 [1,1,0,1,0,0] (GU gF hi aH gn) (GU gF hi aH) (GX gF hi aH)):=by
 unfold w2
 exact .ite (fun o =>
  .bl fun R =>
  .az fun aO aD =>
  .az fun bp bq =>
  (let t1:List cL:=[(ab 1),.al true,.aE (bT 2 (.cq (dJ aO)) 3)];
  have a9:=((.eF o R.1 (en dJ R.2) (cz dJ aD) (U7 bp bq) (cf.b bp)):c3 _);
  .ite (fun bQ =>
  .az fun fz cA =>
  (let t3:List cL:=t1.append [.aE (ae 1 (ai (bA 1 (.b bp) true) (ae 5 (ai (bA 2 (.n .i64 fz) true) (ae 2 (ai (.al false) []))))))];
  have fv:=a9.aY (.bj (cR bQ) (cR bQ) (cR bQ) (cR bQ) (Ut fz cA) (cf.n .i64 fz) (cR bQ) (cR bQ) (.aw (cR bQ)));
  .ite (fun de =>
  .ret (b0 (t3.append [.al true,(ab 1),.bm [] [] (bY [2])]) (fv.aY (.aw de))))
  (fun de =>
  .ret (b0 (t3.append [.al false,(ab 2),.bm [0] [.box [.id,.id]] (bY [1,16,17,18])]) (fv.aY (.aw de))))))
  (fun bQ =>
  .ret (b0 (t1.append [.aE (ae 1 (ai (bA 1 (.b bp) true) (ae 2 (cw 6 (ai (.al true) []))))),.al true,(ab 1),.bm [] [] (bY [2])]) (a9.aY (.gX (c2 bQ) (c2 bQ) (c2 bQ) (c2 bQ) (c2 bQ) (c2 bQ) (c2 bQ) bP))))))
  (fun o =>
  .ret (b0 [(ab 1),.al false,.bm [0] [.box [.id,.id]] (bY [1])] (.aw o)))
theorem My {gF:List aU}{hi:Int}{aH:List a5}{gn:Int}{r} (h:CU gF hi aH gn=some r):fH bx 40 0 19 [1,1,0,1,0,0] (GU gF hi aH) (GX gF hi aH) gn r:=fI (fun _=>Tq) h
def pJ (aI:ca):Option Bool :=
 if (decide ((6:Int)<(len_ dJ aI.c7)))=true then
  some false
 else
  if (decide ((8:Int)<(len_ db aI.b2)))=true then
   some false
  else
   CU aI.c7 (len_ dJ aI.c7) aI.b2 0 >>= fun aZ =>
   match aZ with
   | .inl gD=>(zq aI.b2 aI >>= fun cT =>
    some (!cT))
   | .inr gD=>(some false)
theorem zE {aI:ca}:b4 (pJ aI) (fun r=>Con bx 19 [.agg (ga aI)] [] (.b r) []):=by
 unfold pJ
 exact .ite (fun o =>
  .ret (bM [(ab 2),.aE (ae 5 (cw 4 (ai (.al true) []))),.al true,(ab 1)] (.eF o o o o o bP)))
  (fun o =>
  (let t1:List cL:=[(ab 2),.aE (ae 9 (ai (.al false) []))];
  .ite (fun R =>
  .ret (bM (t1.append [.al true,(ab 1)]) (.eF o o o o o R)))
  (fun R =>
  .az fun aZ aD =>
  (let t2:List cL:=t1.append [.al false,(ab 4),.bm [0] [.box [.id,.id]] (bY [1,16,17,18])];
  (by
  rcases aZ with gD|gD
  ·exact (.az fun cT bQ =>
  .ret (bM (t2.append [(GX aI.c7 (len_ dJ aI.c7) aI.b2 (.inl gD)).gC,.aE (bT 3 (.call {ac:=[ii,.comp [.ptr [.id,.id]]],r:= .b cT,dD:=true,dG:=[0]}) 2)]) (.bj o o o o o R (My aD) (jA (mm aI):gr [(ga aI)]) (.aC (SP cT bQ) (cf.b cT)))))
  ·exact (.ret (bM (t2.append [.sub (.ret) [(2,.b false)] []]) (.ff o o o o o R (My aD)))))))))
def zW (bc:Int):Option Bool :=
 if (decide ((-100:Int)≤bc))=true then
  some (decide (bc≤(100:Int)))
 else
  some false
theorem U8 {bc:Int}:b4 (zW bc) (fun r=>Con bx 63 [.n .i64 bc] [] (.b r) []):=by
 unfold zW
 exact .ite (fun o =>
  .ret (bM [(ab 1),.aE (bT 5 (.al true) 1)] (.b1 o o o)))
  (fun o =>
  .ret (bM [(ab 1),.aE (ae 3 (cw 2 (ai (.al false) (ae 1 []))))] (.b1 o o o)))
def Da (bc:Int):Option Bool :=
 zW bc >>= fun an =>
 some (!an)
theorem Uu {bc:Int}:b4 (Da bc) (fun r=>Con bx 62 [.n .i64 bc] [] (.b r) []):=by
 unfold Da
 exact .az fun an R =>
  .ret (bM [(ab 1),.aE (bT 1 (bA 1 (.b an) true) 2)] (.aC (U8 an R) (cf.b an)))
def F8 (aI:List Int)(ez:Int):Int→S:=fun eI=>e2 [(0,.isl 1 (aI.map J)),(1,.fn 62 []),(7,.n .i64 ez),(8,.n .i64 eI)] []
def Mi (aI:List Int)(ez:Int):((Unit)⊕(Int))→e5
 | .inl a=>⟨some 0,[],[]⟩
 | .inr a=>⟨none,[(4,.n .i64 a)],[]⟩
def wK (aI:List Int)(ez eI:Int):Option ((Int)⊕((Unit)⊕(Int))) :=
 if (decide (eI<ez))=true then
  if 0≤eI∧eI<aI.length then
  aI[eI.toNat]? >>= fun aO =>
  Da aO >>= fun bp =>
  if bp=true then
   some (.inr (.inr eI))
  else
   some (.inl (U (eI+(1:Int))))
  else none
 else
  some (.inr (.inl ()))
def Gn (aI:List Int)(ez eI:Int):Option ((Unit)⊕(Int)):=iter (fun w:Int=>wK aI ez w) eI
theorem SM {aI:List Int}{ez eI:Int}:b4 (wK aI ez eI) (fG bx 19 0 84 [1,0,1,0,0] (F8 aI ez eI) (F8 aI ez) (Mi aI ez)):=by
 unfold wK
 exact .ite (fun o =>
  .bl fun R =>
  .az fun aO aD =>
  .az fun bp bq =>
  (let t1:List cL:=[(ab 1),.al true,(ab 2),.aE (ae 4 (ai (.cq (J aO)) (ai (bA 1 (.b bp) true) [])))];
  have a9:=((.eF o R.1 (en J R.2) (cz J aD) (Uu bp bq) (cf.b bp)):c3 _);
  .ite (fun bQ =>
  .ret (b0 (t1.append [.al true,(ab 2),.bm [] [] (bY [4])]) (a9.aY (.aw bQ))))
  (fun bQ =>
  .ret (b0 (t1.append [.al false,(ab 2),.bm [] [] (bY [0,1,7,8])]) (a9.aY (.aw bQ))))))
  (fun o =>
  .ret (b0 [(ab 1),.al false,.bm [] [] []] (.aw o)))
theorem Mj {aI:List Int}{ez eI:Int}{r} (h:Gn aI ez eI=some r):fH bx 19 0 84 [1,0,1,0,0] (F8 aI ez) (Mi aI ez) eI r:=fI (fun _=>SM) h
def CG (aI:List Int):Option Int :=
 Gn aI (len_ J aI) 0 >>= fun an =>
 match an with
 | .inl bI=>(some (-1))
 | .inr bI=>(some bI)
theorem Tj {aI:List Int}:b4 (CG aI) (fun r=>Con bx 84 [.isl 1 (aI.map J),.fn 62 []] [] (.n .i64 r) []):=by
 unfold CG
 exact .az fun an R =>
  (let t1:List cL:=[(ab 1),(ab 3),.bm [] [] (bY [0,1,7,8])];
  (by
  rcases an with bI|bI
  ·exact (.ret (bM (t1.append [.sub (.exit 0) [] [],(ab 1)]) (.aw (Mj R))))
  ·exact (.ret (bM (t1.append [.sub (.ret) [(4,.n .i64 bI)] []]) (.aw (Mj R))))))
def CB (aI:List Int):Option Bool :=
 CG aI >>= fun an =>
 some (decide ((0:Int)≤an))
theorem S3 {aI:List Int}:b4 (CB aI) (fun r=>Con bx 61 [.isl 1 (aI.map J),.fn 62 []] [] (.b r) []):=by
 unfold CB
 exact .az fun an R =>
  .ret (bM [(ab 1),.aE (bT 2 (bA 2 (.n .i64 an) true) 2)] (.aC (Tj an R) (cf.n .i64 an)))
def sJ (aI:ca)(cy:List Int):Option Bool :=
 if ((len_ J cy) == (U ((2:Int)*(len_ dJ aI.c7))))=true then
  CB cy >>= fun cb =>
  some (!cb)
 else
  some false
theorem MT {aI:ca}{cy:List Int}:b4 (sJ aI cy) (fun r=>Con bx 36 [.eu 2 [(ga aI)] 0 0,.isl 1 (cy.map J)] [] (.b r) []):=by
 unfold sJ
 exact .ite (fun o =>
  .az fun cb ad =>
  .ret (bM [(ab 1),.aE (ae 11 (ai (bA 2 (.b cb) true) (bT 1 (.al true) 1)))] (.eF o o (S3 cb ad) (cf.b cb) o o)))
  (fun o =>
  .ret (bM [(ab 1),.aE (ae 10 (cw 3 (ai (.al false) (ae 1 []))))] (.dn o o o o)))
def z2 (aI:ca)(cy:List Int):Option Bool :=
 pJ aI >>= fun an =>
 if an=true then
  sJ aI cy >>= fun bz =>
  some bz
 else
  some false
theorem M7 {aI:ca}{cy:List Int}:b4 (z2 aI cy) (fun r=>Con bx 15 [.agg (ga aI),.isl 1 (cy.map J)] [] (.b r) []):=by
 unfold z2
 exact .az fun an R =>
  (have b3:=((.aC (zE an R) (cf.b an)):c3 _);
  .ite (fun ad =>
  .az fun bz aM =>
  .ret (bM [(ab 2),.aE (ae 1 (ai (bA 1 (.b an) true) (ae 2 (ai (.call {ac:=[.bE (.ptr [.id,.id]),ii],r:= .b bz,dD:=true,dG:=[0]}) (ai (.al true) (ae 1 []))))))] (b3.aY (.eF ad ad (jA (mm aI):gr [(ga aI)]) (MT bz aM) (cf.b bz) ad))))
  (fun ad =>
  .ret (bM [(ab 2),.aE (ae 1 (ai (bA 1 (.b an) true) (ae 1 (cw 2 (ai (.al false) (ae 1 []))))))] (b3.aY (.b1 ad ad ad)))))
def w6 (aI:ca)(ct:Int):Option Bool :=
 if (decide ((0:Int)≤ct))=true then
  if (decide (ct<(len_ db aI.b2)))=true then
   if 0≤ct∧ct<aI.b2.length then
   aI.b2[ct.toNat]? >>= fun gj =>
   some (gj.h8 == (1:Int))
   else none
  else
   some false
 else
  some false
theorem Mv {aI:ca}{ct:Int}:b4 (w6 aI ct) (fun r=>Con bx 30 [.eu 2 [(ga aI)] 0 0,.n .i64 ct] [] (.b r) []):=by
 unfold w6
 exact .ite (fun o =>
  .ite (fun R =>
  .bl fun ad =>
  .az fun gj aM =>
  .ret (bM [(ab 1),.aE (ae 10 (ai (.al true) (ae 8 (ai (.cq (db gj)) (bT 1 (.al true) 1)))))] (.bj o o o o o o o o (.bj R R R R R R ad.1 (en db ad.2) (.dr R R (cz db aM) R R)))))
  (fun R =>
  .ret (bM [(ab 1),.aE (ae 10 (ai (.al true) (ae 1 (cw 9 (ai (.al false) (ae 1 []))))))] (.bj o o o o o o o o (.bj R R R R R R R R (.aC R R))))))
  (fun o =>
  .ret (bM [(ab 1),.aE (ae 3 (cw 7 (ai (.al false) (ae 1 (cw 9 (ae 2 []))))))] (.bj o o o o o o o o (.bj dU dU dU dU dU dU dU dU (.aw dU)))))
def C5 (kv:a5)(kD:Int):Option Int :=
 if (kD == kv.c0)=true then
  some kv.c1
 else
  if (kD == kv.c1)=true then
   some kv.c0
  else
   some (-1)
theorem MC {kv:a5}{kD:Int}:b4 (C5 kv kD) (fun r=>Con bx 31 [.agg (db kv),.n .i64 kD] [] (.n .i64 r) []):=by
 unfold C5
 exact (let t1:List cL:=[(ab 2),(ab 1),(ab 4)];
  .ite (fun o =>
  .ret (bM (t1.append [.al true,(ab 3)]) (.aw o)))
  (fun o =>
  .ite (fun R =>
  .ret (bM (t1.append [.al false,(ab 4),.al true,(ab 3)]) (.aC o R)))
  (fun R =>
  .ret (bM (t1.append [.al false,(ab 4),.al false,(ab 1)]) (.aC o R)))))
def oY (aI:ca)(ct:Int):Option (Int×Int) :=
 if 0≤ct∧ct<aI.b2.length then
 aI.b2[ct.toNat]? >>= fun fy =>
 if 0≤fy.c1∧fy.c1<aI.c7.length then
 aI.c7[fy.c1.toNat]? >>= fun nl =>
 if 0≤fy.c0∧fy.c0<aI.c7.length then
 aI.c7[fy.c0.toNat]? >>= fun kx =>
 some (U (nl.hH-kx.hH),U (nl.mR-kx.mR))
 else none
 else none
 else none
theorem GV {aI:ca}{ct:Int}:b4 (oY aI ct) (fun r=>Con bx 57 [.eu 2 [(ga aI)] 0 0,.n .i64 ct] [] (.dB [.n .i64 r.1,.n .i64 r.2]) []):=by
 unfold oY
 exact .bl fun o =>
  .az fun fy ad =>
  .bl fun aD =>
  .az fun nl bq =>
  .bl fun bQ =>
  .az fun kx cA =>
  .ret (bM [(ab 2),.aE (bT 6 (.cq (db fy)) 2),.aE (ae 8 (ai (.cq (dJ nl)) (ae 8 (ai (.cq (dJ kx)) (ae 9 (ai (.cq (dJ nl)) (bT 8 (.cq (dJ kx)) 3)))))))] (.bj o.1 (en db o.2) (cz db ad) aD.1 (en dJ aD.2) (cz dJ bq) bQ.1 (en dJ bQ.2) (.ff (cz dJ cA) aD.1 (en dJ aD.2) (cz dJ bq) bQ.1 (en dJ bQ.2) (cz dJ cA))))
def Gr (b8 dL:Int):Int→S:=fun bc=>e2 [(5,.n .i64 b8),(6,.n .i64 dL),(7,.n .i64 bc)] []
def Gt (b8 dL:Int):Int→e5
 | a=>⟨some 0,[(5,.n .i64 b8),(6,.n .i64 dL),(7,.n .i64 a)],[]⟩
def zt (b8 dL bc:Int):Option ((Int)⊕(Int)) :=
 if (decide ((U (bc*bc))<(U ((U (b8*b8))+(U (dL*dL))))))=true then
  some (.inl (U (bc+(1:Int))))
 else
  some (.inr bc)
def GW (b8 dL bc:Int):Option (Int):=iter (fun w:Int=>zt b8 dL w) bc
theorem S6 {b8 dL bc:Int}:b4 (zt b8 dL bc) (fG bx 39 0 26 [1,1,1,0,0,0] (Gr b8 dL bc) (Gr b8 dL) (Gt b8 dL)):=by
 unfold zt
 exact .ite (fun o =>
  .ret (b0 [(ab 11),.al true,(ab 3),.bm [] [] (bY [5,6,7])] (.aw o)))
  (fun o =>
  .ret (b0 [(ab 11),.al false,.bm [] [] (bY [5,6,7])] (.aw o)))
theorem Tr {b8 dL bc:Int}{r} (h:GW b8 dL bc=some r):fH bx 39 0 26 [1,1,1,0,0,0] (Gr b8 dL) (Gt b8 dL) bc r:=fI (fun _=>S6) h
def ml (aI:ca)(ct:Int):Option Int :=
 oY aI ct >>= fun an =>
 GW an.1 an.2 0 >>= fun aZ =>
 if ((U (aZ*aZ)) != (U ((U (an.1*an.1))+(U (an.2*an.2)))))=true then
  some 0
 else
  some aZ
theorem sA {aI:ca}{ct:Int}:b4 (ml aI ct) (fun r=>Con bx 26 [.eu 2 [(ga aI)] 0 0,.n .i64 ct] [] (.n .i64 r) []):=by
 unfold ml
 exact .az fun an R =>
  .az fun aZ aD =>
  (let t1:List cL:=[(ab 1),.aE (bT 2 (bA 2 (.dB [.n .i64 an.1,.n .i64 an.2]) true) 5),(ab 1),.bm [] [] (bY [5,6,7]),(Gt an.1 an.2 aZ).gC,(ab 11)];
  have a9:=((.b1 (GV an R) (JW (mr (cf.n .i64 an.1) (mr (cf.n .i64 an.2) ym))) (Tr aD)):c3 _);
  .ite (fun aM =>
  .ret (bM (t1.append [.al true,(ab 1)]) (a9.aY (.aw aM))))
  (fun aM =>
  .ret (bM (t1.append [.al false,(ab 2)]) (a9.aY (.aw aM)))))
def sL (aI:ca)(aV:bu):Option Bool :=
 pJ aI >>= fun an =>
 if an=true then
  if (aV.c0 == aV.c1)=true then
   some false
  else
   w6 aI aV.c0 >>= fun bp =>
   if bp=true then
    w6 aI aV.c1 >>= fun fz =>
    if fz=true then
     if (decide (aV.dX<(1:Int)))=true then
      some false
     else
      if (decide (aV.dW<aV.dX))=true then
       some false
      else
       if (decide ((100:Int)<aV.dW))=true then
        some false
       else
        if 0≤aV.c0∧aV.c0<aI.b2.length then
        aI.b2[aV.c0.toNat]? >>= fun Fj =>
        if 0≤aV.c1∧aV.c1<aI.b2.length then
        aI.b2[aV.c1.toNat]? >>= fun uz =>
        C5 uz Fj.c0 >>= fun ir =>
        if (decide (ir<(0:Int)))=true then
         C5 uz Fj.c1 >>= fun la =>
         if (decide (la<(0:Int)))=true then
          some false
         else
          ml aI aV.c0 >>= fun lz =>
          ml aI aV.c1 >>= fun kL =>
          if (decide ((0:Int)<lz))=true then
           if (decide ((0:Int)<kL))=true then
            if (decide ((U (lz*aV.dW))≤(100:Int)))=true then
             some (decide ((U (kL*aV.dW))≤(100:Int)))
            else
             some false
           else
            some false
          else
           some false
        else
         ml aI aV.c0 >>= fun la =>
         ml aI aV.c1 >>= fun rb =>
         if (decide ((0:Int)<la))=true then
          if (decide ((0:Int)<rb))=true then
           if (decide ((U (la*aV.dW))≤(100:Int)))=true then
            some (decide ((U (rb*aV.dW))≤(100:Int)))
           else
            some false
          else
           some false
         else
          some false
        else none
        else none
    else
     some false
   else
    some false
 else
  some false
theorem Db {aI:ca}{aV:bu}:b4 (sL aI aV) (fun r=>Con bx 10 [.agg (ga aI),.agg (cG aV)] [] (.b r) []):=by
 unfold sL
 exact .az fun an R =>
  (have b3:=((.aC (zE an R) (cf.b an)):c3 _);
  .ite (fun ad =>
  (have a9:=b3.aY (.eF (cR ad) (cR ad) (cR ad) (cR ad) (cR ad) (cR ad));
  .ite (fun aD =>
  .ret (bM [(ab 3),.aE (ae 1 (ai (bA 1 (.b an) true) (ae 7 (ai (.al false) (ae 1 (cw 4 (ai (.al true) (ae 1 (cw 4 (ae 2 (cw 3 (ae 2 (cw 5 (ae 2 (cw 3 (ae 1 [])))))))))))))))),.al true,(ab 1)] (a9.aY (.bj aD aD aD aD aD bP bP bP (.bj bP bP bP bP bP bP bP bP (.dr bP bP bP bP bP))))))
  (fun aD =>
  .az fun bp bq =>
  (have fR:=a9.aY (.gX aD aD aD (jA (mm aI):gr [(ga aI)]) (Mv bp bq) (cf.b bp) aD aD);
  .ite (fun bQ =>
  .az fun fz cA =>
  (have fv:=fR.aY (.gX (cR bQ) (cR bQ) (cR bQ) (jA (mm aI):gr [(ga aI)]) (Mv fz cA) (cf.b fz) (cR bQ) (cR bQ));
  .ite (fun de =>
  (have nn:=fv.aY (.dn (cR de) (cR de) (cR de) (cR de));
  .ite (fun cK =>
  .ret (bM [(ab 3),.aE (ae 1 (ai (bA 1 (.b an) true) (ae 7 (ai (.al false) (ae 3 (ai (.call {ac:=[.bE (.ptr [.id,.id]),ii],r:= .b bp,dD:=true,dG:=[0]}) (ae 1 (ai (.al false) (ae 3 (ai (.call {ac:=[.bE (.ptr [.id,.id]),ii],r:= .b fz,dD:=true,dG:=[0]}) (ae 1 (ai (.al false) (ae 4 (ai (.al false) (ae 1 (cw 5 (ai (.al true) (ae 1 (cw 3 (ae 1 [])))))))))))))))))))),.al true,(ab 1)] (nn.aY (.bj cK cK cK cK cK cK bP bP (.aC bP bP)))))
  (fun cK =>
  .ite (fun dc =>
  .ret (bM [(ab 3),.aE (ae 1 (ai (bA 1 (.b an) true) (ae 7 (ai (.al false) (ae 3 (ai (.call {ac:=[.bE (.ptr [.id,.id]),ii],r:= .b bp,dD:=true,dG:=[0]}) (ae 1 (ai (.al false) (ae 3 (ai (.call {ac:=[.bE (.ptr [.id,.id]),ii],r:= .b fz,dD:=true,dG:=[0]}) (ae 1 (ai (.al false) (ae 4 (ai (.al false) (ae 6 (ai (.al false) (ae 1 (cw 3 (ai (.al true) []))))))))))))))))))),.al true,(ab 1)] (nn.aY (.bj cK cK cK cK cK cK dc dc (.b1 dc dc bP)))))
  (fun dc =>
  (let t6:List cL:=[(ab 3),.aE (ae 1 (ai (bA 1 (.b an) true) (ae 7 (ai (.al false) (ae 3 (ai (.call {ac:=[.bE (.ptr [.id,.id]),ii],r:= .b bp,dD:=true,dG:=[0]}) (ae 1 (ai (.al false) (ae 3 (ai (.call {ac:=[.bE (.ptr [.id,.id]),ii],r:= .b fz,dD:=true,dG:=[0]}) (ae 1 (ai (.al false) (ae 4 (ai (.al false) (ae 6 (ai (.al false) (ae 4 (ai (.al false) []))))))))))))))))))];
  have Sl:=nn.aY (.bj cK cK cK cK cK cK dc dc (.aC dc dc));
  .ite (fun dT =>
  .ret (bM (t6.append [.al true,(ab 1)]) (Sl.aY (.aw dT))))
  (fun dT =>
  .bl fun e9 =>
  .az fun Fj gM =>
  .bl fun gx =>
  .az fun uz j7 =>
  .az fun ir lS =>
  (let t8:List cL:=t6.append [.al false,.aE (ae 5 (ai (.cq (db Fj)) (bT 5 (.cq (db uz)) 4)))];
  have Cn:=Sl.aY (.bj dT e9.1 (en db e9.2) (cz db gM) gx.1 (en db gx.2) (cz db j7) (MC ir lS) (.aw (cf.n .i64 ir)));
  .ite (fun hn =>
  .az fun la oP =>
  (let t10:List cL:=t8.append [.aE (ae 3 (ai (bA 2 (.n .i64 ir) true) (ae 5 (ai (bA 2 (.n .i64 la) true) (ae 1 (ai (.al true) []))))))];
  have tn:=Cn.aY (.gX hn hn hn hn (MC la oP) (cf.n .i64 la) hn hn);
  .ite (fun kj =>
  .ret (bM (t10.append [.al true,(ab 1)]) (tn.aY (.aw kj))))
  (fun kj =>
  .az fun lz nE =>
  .az fun kL lb =>
  (let t12:List cL:=t10.append [.al false,.aE (ae 2 (ai (.call {ac:=[.bE (.ptr [.id,.id]),ii],r:= .n .i64 lz,dD:=true,dG:=[0]}) (bT 2 (.call {ac:=[.bE (.ptr [.id,.id]),ii],r:= .n .i64 kL,dD:=true,dG:=[0]}) 2)))];
  have Lh:=tn.aY (.ff kj (jA (mm aI):gr [(ga aI)]) (sA lz nE) (cf.n .i64 lz) (jA (mm aI):gr [(ga aI)]) (sA kL lb) (cf.n .i64 kL));
  .ite (fun kk =>
  .ite (fun gN =>
  (have RE:=Lh.aY (.bj kk kk kk gN gN gN gN gN (.aw gN));
  .ite (fun hd =>
  .ret (bM (t12.append [.aE (ae 5 (ai (.al true) (ae 6 (ai (.al true) (bT 6 (.al true) 1)))))]) (RE.aY (.eF hd hd hd hd hd hd))))
  (fun hd =>
  .ret (bM (t12.append [.aE (ae 5 (ai (.al true) (ae 6 (ai (.al true) (ae 1 (cw 5 (ai (.al false) (ae 1 []))))))))]) (RE.aY (.eF hd hd hd hd hd hd))))))
  (fun gN =>
  .ret (bM (t12.append [.aE (ae 5 (ai (.al true) (ae 1 (cw 5 (ai (.al false) (ae 1 (cw 5 (ae 2 []))))))))]) (Lh.aY (.bj kk kk kk gN gN gN gN gN (.eF gN dU dU dU dU dU))))))
  (fun kk =>
  .ret (bM (t12.append [.aE (ae 3 (cw 2 (ai (.al false) (ae 1 (cw 5 (ae 2 (cw 5 (ae 2 []))))))))]) (Lh.aY (.bj kk kk kk dU dU dU dU dU (.dr dU dU dU dU dU)))))))))
  (fun hn =>
  .az fun la oP =>
  .az fun rb qy =>
  (let t10:List cL:=t8.append [.aE (ae 3 (ai (bA 2 (.n .i64 ir) true) (ae 2 (cw 5 (ai (.al false) []))))),.al false,.aE (ae 2 (ai (.call {ac:=[.bE (.ptr [.id,.id]),ii],r:= .n .i64 la,dD:=true,dG:=[0]}) (bT 2 (.call {ac:=[.bE (.ptr [.id,.id]),ii],r:= .n .i64 rb,dD:=true,dG:=[0]}) 2)))];
  have tn:=Cn.aY (.bj hn hn hn hn hn hn dU (jA (mm aI):gr [(ga aI)]) (.dr (sA la oP) (cf.n .i64 la) (jA (mm aI):gr [(ga aI)]) (sA rb qy) (cf.n .i64 rb)));
  .ite (fun nE =>
  .ite (fun oe =>
  (have RF:=tn.aY (.bj nE nE nE oe oe oe oe oe (.aw oe));
  .ite (fun lb =>
  .ret (bM (t10.append [.aE (ae 5 (ai (.al true) (ae 6 (ai (.al true) (bT 6 (.al true) 1)))))]) (RF.aY (.eF lb lb lb lb lb lb))))
  (fun lb =>
  .ret (bM (t10.append [.aE (ae 5 (ai (.al true) (ae 6 (ai (.al true) (ae 1 (cw 5 (ai (.al false) (ae 1 []))))))))]) (RF.aY (.eF lb lb lb lb lb lb))))))
  (fun oe =>
  .ret (bM (t10.append [.aE (ae 5 (ai (.al true) (ae 1 (cw 5 (ai (.al false) (ae 1 (cw 5 (ae 2 []))))))))]) (tn.aY (.bj nE nE nE oe oe oe oe oe (.eF oe dU dU dU dU dU))))))
  (fun nE =>
  .ret (bM (t10.append [.aE (ae 3 (cw 2 (ai (.al false) (ae 1 (cw 5 (ae 2 (cw 5 (ae 2 []))))))))]) (tn.aY (.bj nE nE nE dU dU dU dU dU (.dr dU dU dU dU dU))))))))))))))
  (fun de =>
  .ret (bM [(ab 3),.aE (ae 1 (ai (bA 1 (.b an) true) (ae 7 (ai (.al false) (ae 3 (ai (.call {ac:=[.bE (.ptr [.id,.id]),ii],r:= .b bp,dD:=true,dG:=[0]}) (ae 1 (ai (.al false) (ae 3 (ai (.call {ac:=[.bE (.ptr [.id,.id]),ii],r:= .b fz,dD:=true,dG:=[0]}) (ae 1 (ai (.al false) (ae 1 (cw 3 (ai (.al true) (ae 1 (cw 5 (ae 2 (cw 3 (ae 1 [])))))))))))))))))))),.al true,(ab 1)] (fv.aY (.bj (c2 de) (c2 de) (c2 de) (c2 de) bP bP bP bP (.dr bP bP bP bP bP)))))))
  (fun bQ =>
  .ret (bM [(ab 3),.aE (ae 1 (ai (bA 1 (.b an) true) (ae 7 (ai (.al false) (ae 3 (ai (.call {ac:=[.bE (.ptr [.id,.id]),ii],r:= .b bp,dD:=true,dG:=[0]}) (ae 1 (ai (.al false) (ae 1 (cw 4 (ai (.al true) (ae 1 (cw 3 (ae 2 (cw 5 (ae 2 (cw 3 (ae 1 [])))))))))))))))))),.al true,(ab 1)] (fR.aY (.bj (c2 bQ) (c2 bQ) (c2 bQ) (c2 bQ) (c2 bQ) bP bP bP (.bj bP bP bP bP bP bP bP bP (.aw bP))))))))))
  (fun ad =>
  .ret (bM [(ab 3),.aE (ae 1 (ai (bA 1 (.b an) true) (ae 2 (cw 5 (ai (.al true) (ae 1 (cw 4 (ae 2 (cw 4 (ae 2 (cw 3 (ae 2 (cw 5 (ae 2 (cw 3 (ae 1 [])))))))))))))))),.al true,(ab 1)] (b3.aY (.bj (c2 ad) (c2 ad) (c2 ad) (c2 ad) (c2 ad) (c2 ad) bP bP (.bj bP bP bP bP bP bP bP bP (.bj bP bP bP bP bP bP bP bP (.aC bP bP))))))))
def G9 (gS:List bu)(gF:Int)(a8:List aU)(aH:List a5):Int→S:=fun hi=>e2 [(2,.ref 0 0 0 0),(15,.isl 4 (gS.map cG)),(16,.n .i64 gF),(17,.n .i64 hi)] [[af.mk 2 [[.isl 4 (a8.map dJ),.isl 3 (aH.map db)]] .live]]
def MD (gS:List bu)(gF:Int)(a8:List aU)(aH:List a5):((Unit)⊕(Unit))→e5
 | .inl a=>⟨some 0,[],[]⟩
 | .inr a=>⟨none,[(4,.b false)],[]⟩
def uT (gS:List bu)(gF:Int)(a8:List aU)(aH:List a5)(hi:Int):Option ((Int)⊕((Unit)⊕(Unit))) :=
 if (decide (hi<gF))=true then
  if 0≤hi∧hi<gS.length then
  gS[hi.toNat]? >>= fun aO =>
  sL (⟨a8,aH⟩:ca) aO >>= fun bp =>
  if bp=true then
   some (.inl (U (hi+(1:Int))))
  else
   some (.inr (.inr ()))
  else none
 else
  some (.inr (.inl ()))
def MU (gS:List bu)(gF:Int)(a8:List aU)(aH:List a5)(hi:Int):Option ((Unit)⊕(Unit)):=iter (fun w:Int=>uT gS gF a8 aH w) hi
theorem TJ {gS:List bu}{gF:Int}{a8:List aU}{aH:List a5}{hi:Int}:b4 (uT gS gF a8 aH hi) (fG bx 26 0 6 [1,1,0,1,0,0] (G9 gS gF a8 aH hi) (G9 gS gF a8 aH) (MD gS gF a8 aH)):=by
 unfold uT
 exact .ite (fun o =>
  .bl fun R =>
  .az fun aO aD =>
  .az fun bp bq =>
  (let t1:List cL:=[(ab 1),.al true,.aE (bT 1 (.cq (cG aO)) 2),.aE (bT 2 (bA 2 (.b bp) true) 1)];
  have a9:=((.eF o R.1 (en cG R.2) (cz cG aD) (Db bp bq) (cf.b bp)):c3 _);
  .ite (fun bQ =>
  .ret (b0 (t1.append [.al false,(ab 2),.bm [0] [.box [.id,.id]] (bY [2,15,16,17])]) (a9.aY (.aw (cR bQ)))))
  (fun bQ =>
  .ret (b0 (t1.append [.al true,(ab 1),.bm [] [] (bY [4])]) (a9.aY (.aw (c2 bQ)))))))
  (fun o =>
  .ret (b0 [(ab 1),.al false,.bm [] [] []] (.aw o)))
theorem MH {gS:List bu}{gF:Int}{a8:List aU}{aH:List a5}{hi:Int}{r} (h:MU gS gF a8 aH hi=some r):fH bx 26 0 6 [1,1,0,1,0,0] (G9 gS gF a8 aH) (MD gS gF a8 aH) hi r:=fI (fun _=>TJ) h
def xD (aI:ca)(fm:List bu):Option Bool :=
 if (decide ((3:Int)<(len_ cG fm)))=true then
  some false
 else
  pJ aI >>= fun cb =>
  if cb=true then
   MU fm (len_ cG fm) aI.c7 aI.b2 0 >>= fun bp =>
   match bp with
   | .inl wu=>(some true)
   | .inr wu=>(some false)
  else
   some false
theorem MV {aI:ca}{fm:List bu}:b4 (xD aI fm) (fun r=>Con bx 6 [.agg (ga aI),.isl 4 (fm.map cG)] [] (.b r) []):=by
 unfold xD
 exact .ite (fun o =>
  .ret (bM [(ab 2),.aE (ae 4 (cw 3 (ai (.al true) []))),.al true,(ab 1)] (.dr o o o o bP)))
  (fun o =>
  .az fun cb ad =>
  (let t1:List cL:=[(ab 2),.aE (ae 5 (ai (bA 1 (.b cb) true) (ae 1 (ai (.al false) []))))];
  have a9:=((.eF o o (zE cb ad) (cf.b cb) o o):c3 _);
  .ite (fun aD =>
  .az fun bp bq =>
  (let t3:List cL:=t1.append [.al false,(ab 3),.bm [0] [.box [.id,.id]] (bY [2,15,16,17])];
  (by
  rcases bp with wu|wu
  ·exact (.ret (bM (t3.append [.sub (.exit 0) [] [],(ab 1)]) (a9.aY (.aC (cR aD) (MH bq)))))
  ·exact (.ret (bM (t3.append [.sub (.ret) [(4,.b false)] []]) (a9.aY (.aC (cR aD) (MH bq))))))))
  (fun aD =>
  .ret (bM (t1.append [.al true,(ab 1)]) (a9.aY (.aw (c2 aD)))))))
def Gp (g8:List a5)(et:Int):(Int×(List d8))→S:=fun (dZ,au)=>e2 [(3,.bF 0 0 0 au.length),(9,.isl 3 (g8.map db)),(10,.n .i64 et),(11,.n .i64 dZ)] [(ay 2 ev au)]
def Mq (g8:List a5)(et:Int):(List d8)→e5
 | a=>⟨some 0,[(3,.bF 0 0 0 a.length)],[(ay 2 ev a)]⟩
def wQ (g8:List a5)(et dZ:Int)(au:List d8):Option ((Int×(List d8))⊕((List d8))) :=
 if (decide (dZ<et))=true then
  if 0≤dZ∧dZ<g8.length then
  g8[dZ.toNat]? >>= fun aO =>
  if (aO.h8 != (2:Int))=true then
   if (au++([(⟨dZ,1⟩:d8)]:List d8)).length*16≤140737488355328 then
   if (aO.h8 != (1:Int))=true then
    if ((au++([(⟨dZ,1⟩:d8)]:List d8))++([(⟨dZ,(-1)⟩:d8)]:List d8)).length*16≤140737488355328 then
    some (.inl (U (dZ+(1:Int)),(au++([(⟨dZ,1⟩:d8)]:List d8))++([(⟨dZ,(-1)⟩:d8)]:List d8)))
    else none
   else
    some (.inl (U (dZ+(1:Int)),au++([(⟨dZ,1⟩:d8)]:List d8)))
   else none
  else
   if (aO.h8 != (1:Int))=true then
    if (au++([(⟨dZ,(-1)⟩:d8)]:List d8)).length*16≤140737488355328 then
    some (.inl (U (dZ+(1:Int)),au++([(⟨dZ,(-1)⟩:d8)]:List d8)))
    else none
   else
    some (.inl (U (dZ+(1:Int)),au))
  else none
 else
  some (.inr au)
def GR (g8:List a5)(et dZ:Int)(au:List d8):Option ((List d8)):=iter (fun w:Int×(List d8)=>wQ g8 et w.1 w.2) (dZ,au)
theorem S4 {g8:List a5}{et dZ:Int}{au:List d8}:b4 (wQ g8 et dZ au) (fG bx 34 0 38 [1,1,0,1,0,0] (Gp g8 et (dZ,au)) (Gp g8 et) (Mq g8 et)):=by
 unfold wQ
 exact .ite (fun o =>
  .bl fun R =>
  .az fun aO aD =>
  (let t1:List cL:=[(ab 1),.al true,.aE (bT 2 (.cq (db aO)) 3),(ab 3)];
  have a9:=((.dn o R.1 (en db R.2) (cz db aD)):c3 _);
  .ite (fun aM =>
  .bl fun bq =>
  (let t3:List cL:=t1.append [.al true,.aE (bT 4 (.aY ((au++([(⟨dZ,1⟩:d8)]:List d8)).length)) 1),(ab 3)];
  have fv:=a9.aY (.dr aM (kO ev (⟨dZ,1⟩:d8)) (sv ev au) (oi ev au (⟨dZ,1⟩:d8)) bq);
  .ite (fun bQ =>
  .bl fun bn =>
  .ret (let aW:=(au++([(⟨dZ,1⟩:d8)]:List d8));let bk:=(aW++([(⟨dZ,(-1)⟩:d8)]:List d8));let cc:=(sw ev au (⟨dZ,1⟩:d8));b0 (t3.append [.al true,.aE (bT 4 (.aY (bk.length)) 1),(ab 2),.bm [24] [.eg (ay 2 ev bk)] (bY [3,9,10,11])]) (fv.aY (.ff bQ (kO ev (⟨dZ,(-1)⟩:d8)) (vm cc (fq aW)) (oi ev aW (⟨dZ,(-1)⟩:d8)) bn (e6 2 .live (o3 cc (fq aW) (rU ev (⟨dZ,(-1)⟩:d8)))) (aG 2 .live u1 bk)))))
  (fun bQ =>
  .ret (let cV:=(au++([(⟨dZ,1⟩:d8)]:List d8));b0 (t3.append [.al false,(ab 2),.bm [15] [.eg (ay 2 ev cV)] (bY [3,9,10,11])]) (fv.aY (.b1 bQ (e6 2 .live (sw ev au (⟨dZ,1⟩:d8))) (aG 2 .live u1 cV)))))))
  (fun aM =>
  .ite (fun bq =>
  .bl fun bQ =>
  .ret (let d5:=(au++([(⟨dZ,(-1)⟩:d8)]:List d8));b0 (t1.append [.al false,(ab 3),.al true,.aE (bT 4 (.aY (d5.length)) 1),(ab 2),.bm [18] [.eg (ay 2 ev d5)] (bY [3,9,10,11])]) (a9.aY (.gX aM bq (kO ev (⟨dZ,(-1)⟩:d8)) (sv ev au) (oi ev au (⟨dZ,(-1)⟩:d8)) bQ (e6 2 .live (sw ev au (⟨dZ,(-1)⟩:d8))) (aG 2 .live u1 d5)))))
  (fun bq =>
  .ret (b0 (t1.append [.al false,(ab 3),.al false,(ab 2),.bm [0] [.pure] (bY [3,9,10,11])]) (a9.aY (.b1 aM bq (aG 2 .live u1 au))))))))
  (fun o =>
  .ret (b0 [(ab 1),.al false,.bm [0] [.pure] (bY [3])] (.aC o (aG 2 .live u1 au))))
theorem To {g8:List a5}{et dZ:Int}{au:List d8}{r} (h:GR g8 et dZ au=some r):fH bx 34 0 38 [1,1,0,1,0,0] (Gp g8 et) (Mq g8 et) (dZ,au) r:=fI (fun _=>S4) h
def tH (aI:ca):Option (List d8) :=
 GR aI.b2 (len_ db aI.b2) 0 ([]:List d8) >>= fun an =>
 some an
theorem CJ {aI:ca}:b4 (tH aI) (fun r=>Con bx 38 [.eu 2 [(ga aI)] 0 0] [] (.isl 2 (r.map ev)) []):=by
 unfold tH
 exact .az fun an R =>
  .ret (bM [(ab 1),(ab 1),(ab 6),.uj 3 2,.bm [8] [.eg (ay 2 ev ([]:List d8))] [(3,ha (([]:List d8).length)),(9,ii),(10,ii),(11,ii)],.sub (.exit 0) [(3,.bF 0 0 0 an.length)] [(ay 2 ev an)],(ab 2)] (.ff (e6 2 .live (tD ev)) (aG 2 .live u1 ([]:List d8)) (nm d8) (To R) (lh ev an) (kp ev an) (d3 u1 an)) (.bE (.cx (.eU (an.map ev)))))
def Gc (g8:List aU)(et:Int):(Int×(List Int))→S:=fun (dZ,au)=>e2 [(3,.bF 0 0 0 au.length),(9,.isl 4 (g8.map dJ)),(10,.n .i64 et),(11,.n .i64 dZ)] [(ay 1 J au)]
def Ml (g8:List aU)(et:Int):(List Int)→e5
 | a=>⟨some 0,[(3,.bF 0 0 0 a.length)],[(ay 1 J a)]⟩
def zr (g8:List aU)(et dZ:Int)(au:List Int):Option ((Int×(List Int))⊕((List Int))) :=
 if (decide (dZ<et))=true then
  if 0≤dZ∧dZ<g8.length then
  g8[dZ.toNat]? >>= fun aO =>
  if aO.iF=true then
   some (.inl (U (dZ+(1:Int)),au))
  else
   if (au++([dZ]:List Int)).length*8≤140737488355328 then
   some (.inl (U (dZ+(1:Int)),au++([dZ]:List Int)))
   else none
  else none
 else
  some (.inr au)
def Gu (g8:List aU)(et dZ:Int)(au:List Int):Option ((List Int)):=iter (fun w:Int×(List Int)=>zr g8 et w.1 w.2) (dZ,au)
theorem SQ {g8:List aU}{et dZ:Int}{au:List Int}:b4 (zr g8 et dZ au) (fG bx 25 0 48 [1,1,0,1,0,0] (Gc g8 et (dZ,au)) (Gc g8 et) (Ml g8 et)):=by
 unfold zr
 exact .ite (fun o =>
  .bl fun R =>
  .az fun aO aD =>
  (let t1:List cL:=[(ab 1),.al true,.aE (bT 2 (.cq (dJ aO)) 3),(ab 3)];
  have a9:=((.dn o R.1 (en dJ R.2) (cz dJ aD)):c3 _);
  .ite (fun aM =>
  .ret (b0 (t1.append [.al false,(ab 2),.bm [0] [.pure] (bY [3,9,10,11])]) (a9.aY (.aC (cR aM) (aG 1 .live aF au)))))
  (fun aM =>
  .bl fun bq =>
  .ret (let aW:=(au++([dZ]:List Int));b0 (t1.append [.al true,.aE (bT 3 (.aY (aW.length)) 1),(ab 2),.bm [14] [.eg (ay 1 J aW)] (bY [3,9,10,11])]) (a9.aY (.ff (c2 aM) (kO J dZ) (sv J au) (oi J au dZ) bq (e6 1 .live (sw J au dZ)) (aG 1 .live aF aW)))))))
  (fun o =>
  .ret (b0 [(ab 1),.al false,.bm [0] [.pure] (bY [3])] (.aC o (aG 1 .live aF au))))
theorem Ta {g8:List aU}{et dZ:Int}{au:List Int}{r} (h:Gu g8 et dZ au=some r):fH bx 25 0 48 [1,1,0,1,0,0] (Gc g8 et) (Ml g8 et) (dZ,au) r:=fI (fun _=>SQ) h
def uR (aI:ca):Option (List Int) :=
 Gu aI.c7 (len_ dJ aI.c7) 0 ([]:List Int) >>= fun an =>
 some an
theorem Gv {aI:ca}:b4 (uR aI) (fun r=>Con bx 48 [.eu 2 [(ga aI)] 0 0] [] (.isl 1 (r.map J)) []):=by
 unfold uR
 exact .az fun an R =>
  .ret (bM [(ab 1),(ab 1),(ab 6),.uj 3 1,.bm [8] [.eg (ay 1 J ([]:List Int))] [(3,ha (([]:List Int).length)),(9,ii),(10,ii),(11,ii)],.sub (.exit 0) [(3,.bF 0 0 0 an.length)] [(ay 1 J an)],(ab 2)] (.ff (e6 1 .live (tD J)) (aG 1 .live aF ([]:List Int)) (nm Int) (Ta R) (lh J an) (kp J an) (d3 aF an)) (.bE (.cx (.eU (an.map J)))))
def F9 (cZ:List aU)(cD:List a5)(ed:Int)(da:List Int)(cS gS dx:Int)(au:List (List Int)):(Int×(List Int)×(List Int))→S:=fun (gu,ao,aS)=>e2 [(0,.eu 2 [[.isl 4 (cZ.map dJ),.isl 3 (cD.map db)]] 0 0),(3,.bF 0 0 0 au.length),(5,.n .i64 ed),(6,.bF 1 0 0 ao.length),(7,.bF 2 0 0 aS.length),(13,.isl 1 (da.map J)),(14,.n .i64 cS),(15,.n .i64 gS),(34,.isl 3 (cD.map db)),(35,.n .i64 dx),(36,.n .i64 gu)] [(ay 1 (fp 1 J) au),(ay 1 J ao),(ay 1 J aS)]
def Gd (cZ:List aU)(cD:List a5)(ed:Int)(da:List Int)(cS gS dx:Int)(au:List (List Int)):((List Int)×(List Int))→e5
 | a=>⟨some 2,[(0,.eu 2 [[.isl 4 (cZ.map dJ),.isl 3 (cD.map db)]] 0 0),(3,.bF 0 0 0 au.length),(6,.bF 1 0 0 a.1.length),(7,.bF 2 0 0 a.2.length),(13,.isl 1 (da.map J)),(14,.n .i64 cS),(15,.n .i64 gS)],[(ay 1 (fp 1 J) au),(ay 1 J a.1),(ay 1 J a.2)]⟩
def wL (cZ:List aU)(cD:List a5)(ed:Int)(da:List Int)(cS gS dx:Int)(au:List (List Int))(gu:Int)(ao aS:List Int):Option ((Int×(List Int)×(List Int))⊕((List Int)×(List Int))) :=
 if (decide (gu<dx))=true then
  if 0≤gu∧gu<cD.length then
  cD[gu.toNat]? >>= fun aO =>
  oY (⟨cZ,cD⟩:ca) gu >>= fun bp =>
  if (ed == aO.c0)=true then
   if 0≤gu∧gu<(ao.length:Nat) then
   if (0+gu.toNat)<ao.length then
   if 0≤gu∧gu<(aS.length:Nat) then
   if (0+gu.toNat)<aS.length then
   some (.inl (U (gu+(1:Int)),ao.set (0+gu.toNat) bp.1,aS.set (0+gu.toNat) bp.2))
   else none
   else none
   else none
   else none
  else
   if (ed == aO.c1)=true then
    if 0≤gu∧gu<(ao.length:Nat) then
    if (0+gu.toNat)<ao.length then
    if 0≤gu∧gu<(aS.length:Nat) then
    if (0+gu.toNat)<aS.length then
    some (.inl (U (gu+(1:Int)),ao.set (0+gu.toNat) (U (0-bp.1)),aS.set (0+gu.toNat) (U (0-bp.2))))
    else none
    else none
    else none
    else none
   else
    some (.inl (U (gu+(1:Int)),ao,aS))
  else none
 else
  some (.inr (ao,aS))
def CF (cZ:List aU)(cD:List a5)(ed:Int)(da:List Int)(cS gS dx:Int)(au:List (List Int))(gu:Int)(ao aS:List Int):Option ((List Int)×(List Int)):=iter (fun w:Int×(List Int)×(List Int)=>wL cZ cD ed da cS gS dx au w.1 w.2.1 w.2.2) (gu,ao,aS)
theorem SN {cZ:List aU}{cD:List a5}{ed:Int}{da:List Int}{cS gS dx:Int}{au:List (List Int)}{gu:Int}{ao aS:List Int}:b4 (wL cZ cD ed da cS gS dx au gu ao aS) (fG bx 82 0 68 [1,1,0,1,0,0,1,1,0,0,1,1,0,1,0,0] (F9 cZ cD ed da cS gS dx au (gu,ao,aS)) (F9 cZ cD ed da cS gS dx au) (Gd cZ cD ed da cS gS dx au)):=by
 unfold wL
 exact .ite (fun o =>
  .bl fun R =>
  .az fun aO aD =>
  .az fun bp bq =>
  (let t1:List cL:=[(ab 1),.al true,.aE (bT 2 (.cq (db aO)) 3),.aE (bT 2 (bA 2 (.dB [.n .i64 bp.1,.n .i64 bp.2]) true) 5),(ab 1),(ab 4)];
  have a9:=((.eF o R.1 (en db R.2) (cz db aD) (GV bp bq) (JW (mr (cf.n .i64 bp.1) (mr (cf.n .i64 bp.2) ym)))):c3 _);
  .ite (fun bQ =>
  .bl fun bn =>
  .bl fun cA =>
  .bl fun de =>
  .bl fun cK =>
  .ret (b0 (t1.append [.al true,.aE (ae 7 (ai .dh (ae 1 (ai .dh [])))),(ab 2),.bm [0,1,2] [.pure,.eg (ay 1 J (ao.set (0+gu.toNat) bp.1)),.eg (ay 1 J (aS.set (0+gu.toNat) bp.2))] [(0,ii),(3,ii),(5,ii),(6,ha ((ao.set (0+gu.toNat) bp.1).length)),(7,ha ((aS.set (0+gu.toNat) bp.2).length)),(13,ii),(14,ii),(15,ii),(34,ii),(35,ii),(36,ii)]]) (a9.aY (.bj bQ bn.1 bn.2 (hR J cA) (hG 1) de.1 de.2 (hR J cK) (.gX (hG 1) (aG 1 .live (qf (sz:=1) aF) au) (e6 1 .live (gE (el J ao) (0+gu.toNat) bp.1)) (aG 1 .live aF (ao.set (0+gu.toNat) bp.1)) (e6 1 .live (gE (el J aS) (0+gu.toNat) bp.2)) (aG 1 .live aF (aS.set (0+gu.toNat) bp.2)) (gZ (fq ao) (0+gu.toNat) bp.1) (gZ (fq aS) (0+gu.toNat) bp.2))))))
  (fun bQ =>
  .ite (fun bn =>
  .bl fun cA =>
  .bl fun de =>
  .bl fun cK =>
  .bl fun dc =>
  .ret (let aW:=U (0-bp.1);let bk:=U (0-bp.2);b0 (t1.append [.al false,(ab 4),.al true,.aE (ae 9 (ai .dh (ae 1 (ai .dh [])))),(ab 2),.bm [0,1,2] [.pure,.eg (ay 1 J (ao.set (0+gu.toNat) aW)),.eg (ay 1 J (aS.set (0+gu.toNat) bk))] [(0,ii),(3,ii),(5,ii),(6,ha ((ao.set (0+gu.toNat) aW).length)),(7,ha ((aS.set (0+gu.toNat) bk).length)),(13,ii),(14,ii),(15,ii),(34,ii),(35,ii),(36,ii)]]) (a9.aY (.bj bQ bn cA.1 cA.2 (hR J de) (hG 1) cK.1 cK.2 (.bj (hR J dc) (hG 1) (aG 1 .live (qf (sz:=1) aF) au) (e6 1 .live (gE (el J ao) (0+gu.toNat) aW)) (aG 1 .live aF (ao.set (0+gu.toNat) aW)) (e6 1 .live (gE (el J aS) (0+gu.toNat) bk)) (aG 1 .live aF (aS.set (0+gu.toNat) bk)) (gZ (fq ao) (0+gu.toNat) aW) (.aw (gZ (fq aS) (0+gu.toNat) bk)))))))
  (fun bn =>
  .ret (b0 (t1.append [.al false,(ab 4),.al false,(ab 2),.bm [0,1,2] [.pure,.pure,.pure] (bY [0,3,5,6,7,13,14,15,34,35,36])]) (a9.aY (.dr bQ bn (aG 1 .live (qf (sz:=1) aF) au) (aG 1 .live aF ao) (aG 1 .live aF aS))))))))
  (fun o =>
  .ret (b0 [(ab 1),.al false,.bm [0,1,2] [.pure,.pure,.pure] (bY [0,3,6,7,13,14,15])] (.dn o (aG 1 .live (qf (sz:=1) aF) au) (aG 1 .live aF ao) (aG 1 .live aF aS))))
theorem S7 {cZ:List aU}{cD:List a5}{ed:Int}{da:List Int}{cS gS dx:Int}{au:List (List Int)}{gu:Int}{ao aS:List Int}{r} (h:CF cZ cD ed da cS gS dx au gu ao aS=some r):fH bx 82 0 68 [1,1,0,1,0,0,1,1,0,0,1,1,0,1,0,0] (F9 cZ cD ed da cS gS dx au) (Gd cZ cD ed da cS gS dx au) (gu,ao,aS) r:=fI (fun _=>SN) h
def Ga (cZ:List aU)(cD:List a5)(da:List Int)(cS:Int):(Int×(List (List Int)))→S:=fun (gS,au)=>e2 [(0,.eu 2 [[.isl 4 (cZ.map dJ),.isl 3 (cD.map db)]] 0 0),(3,.bF 0 0 0 au.length),(13,.isl 1 (da.map J)),(14,.n .i64 cS),(15,.n .i64 gS)] [(ay 1 (fp 1 J) au)]
def Mk (cZ:List aU)(cD:List a5)(da:List Int)(cS:Int):(List (List Int))→e5
 | a=>⟨some 0,[(3,.bF 0 0 0 a.length)],[(ay 1 (fp 1 J) a)]⟩
def wM (cZ:List aU)(cD:List a5)(da:List Int)(cS gS:Int)(au:List (List Int)):Option ((Int×(List (List Int)))⊕((List (List Int)))) :=
 if (decide (gS<cS))=true then
  if 0≤gS∧gS<da.length then
  da[gS.toNat]? >>= fun aO =>
  if 0≤(len_ db cD)∧(8:Int)*(len_ db cD)≤281474976710656∧(len_ db cD)<9223372036854775808 then
  CF cZ cD aO da cS gS (len_ db cD) au 0 (List.replicate (len_ db cD).toNat 0:List Int) (List.replicate (len_ db cD).toNat 0:List Int) >>= fun cT =>
  if (au++([cT.1,cT.2]:List (List Int))).length*24≤140737488355328 then
  some (.inl (U (gS+(1:Int)),au++([cT.1,cT.2]:List (List Int))))
  else none
  else none
  else none
 else
  some (.inr au)
def Gs (cZ:List aU)(cD:List a5)(da:List Int)(cS gS:Int)(au:List (List Int)):Option ((List (List Int))):=iter (fun w:Int×(List (List Int))=>wM cZ cD da cS w.1 w.2) (gS,au)
theorem SO {cZ:List aU}{cD:List a5}{da:List Int}{cS gS:Int}{au:List (List Int)}:b4 (wM cZ cD da cS gS au) (fG bx 82 0 68 [1,1,0,1,0,0] (Ga cZ cD da cS (gS,au)) (Ga cZ cD da cS) (Mk cZ cD da cS)):=by
 unfold wM
 exact .ite (fun o =>
  .bl fun R =>
  .az fun aO aD =>
  .bl fun aM =>
  .az fun cT bQ =>
  .bl fun bn =>
  .ret (let bk:=(au++([cT.1,cT.2]:List (List Int)));let cc:=len_ db cD;let aW:=(List.replicate cc.toNat 0:List Int);let cV:=qf (sz:=1) aF;let d5:=e6 1 .live (lL J cc.toNat 0);b0 [(ab 1),.al true,.aE (bT 1 (.cq (J aO)) 1),(ab 14),(ab 6),.bm [0,10,16] [.pure,.eg (ay 1 J aW),.eg (ay 1 J aW)] [(0,ii),(3,ii),(5,ii),(6,ha (aW.length)),(7,ha (aW.length)),(13,ii),(14,ii),(15,ii),(34,ii),(35,ii),(36,ii)],(Gd cZ cD aO da cS gS cc au cT).gC,.bm [0] [.pure] [(0,ii),(3,ii),(6,.bE (.cx (.eU (cT.1.map J)))),(7,.bE (.cx (.eU (cT.2.map J)))),(13,ii),(14,ii),(15,ii)],.aE (bT 4 (.aY (bk.length)) 1),(ab 2),.bm [5] [.eg (ay 1 (fp 1 J) bk)] (bY [0,3,13,14,15])] (.bj o R.1 (en J R.2) (cz J aD) aM.1 (Int.le_refl cc) aM.2.1 aM.2.2 (.bj aM.1 (Int.le_refl cc) aM.2.1 aM.2.2 (aG 1 .live cV au) d5 (aG 1 .live aF aW) d5 (.bj (aG 1 .live aF aW) (lY cc.toNat (0:Int)) (lY cc.toNat (0:Int)) (S7 bQ) (aG 1 .live cV au) (lh J cT.1) (kp J cT.1) (d3 aF cT.1) (.bj (lh J cT.2) (kp J cT.2) (d3 aF cT.2) (iV (show [[.isl 1 (cT.1.map J)],[.isl 1 (cT.2.map J)]]=(([cT.1,cT.2]:List (List Int))).map (fp 1 J) from rfl) (show 2=([cT.1,cT.2]:List (List Int)).length from rfl)) (sv (fp 1 J) au) (ya (fq au) (AM (show [[.isl 1 (cT.1.map J)],[.isl 1 (cT.2.map J)]]=(([cT.1,cT.2]:List (List Int))).map (fp 1 J) from rfl) (show 2=([cT.1,cT.2]:List (List Int)).length from rfl)):bk.length=au.length+(([[.isl 1 (cT.1.map J)],[.isl 1 (cT.2.map J)]].drop 0).take 2).length) bn (e6 1 .live (o3 (el (fp 1 J) au) (fq au) (AM (show [[.isl 1 (cT.1.map J)],[.isl 1 (cT.2.map J)]]=(([cT.1,cT.2]:List (List Int))).map (fp 1 J) from rfl) (show 2=([cT.1,cT.2]:List (List Int)).length from rfl)))) (.aw (aG 1 .live cV bk))))))))
  (fun o =>
  .ret (b0 [(ab 1),.al false,.bm [0] [.pure] (bY [3])] (.aC o (aG 1 .live (qf (sz:=1) aF) au))))
theorem S8 {cZ:List aU}{cD:List a5}{da:List Int}{cS gS:Int}{au:List (List Int)}{r} (h:Gs cZ cD da cS gS au=some r):fH bx 82 0 68 [1,1,0,1,0,0] (Ga cZ cD da cS) (Mk cZ cD da cS) (gS,au) r:=fI (fun _=>SO) h
def zx (aI:ca):Option (List (List Int)) :=
 uR aI >>= fun an =>
 Gs aI.c7 aI.b2 an (len_ J an) 0 ([]:List (List Int)) >>= fun aZ =>
 some aZ
theorem Tm {aI:ca}:b4 (zx aI) (fun r=>Con bx 68 [.eu 2 [(ga aI)] 0 0] [] (.isl 1 (r.map (fp 1 J))) []):=by
 unfold zx
 exact .az fun an R =>
  .az fun aZ aD =>
  .ret (bM [(ab 1),(ab 1),.aE (bT 1 (bA 1 (.isl 1 (an.map J)) false) 2),.uj 3 1,.bm [6] [.eg (ay 1 (fp 1 J) ([]:List (List Int)))] [(0,ii),(3,ha (([]:List (List Int)).length)),(13,ii),(14,ii),(15,ii)],.sub (.exit 0) [(3,.bF 0 0 0 aZ.length)] [(ay 1 (fp 1 J) aZ)],(ab 2)] (.gX (Gv an R) (e6 1 .live (tD (fp 1 J))) (aG 1 .live (qf (sz:=1) aF) ([]:List (List Int))) (nm (List Int)) (S8 aD) (lh (fp 1 J) aZ) (kp (fp 1 J) aZ) (d3 (qf (sz:=1) aF) aZ)) (.bE (.cx (.eU (aZ.map (fp 1 J))))))
def FW (cZ:List aU)(cD:List a5)(cy:List Int)(eb:List d8)(a3:Int)(gT:List Int)(fO:List (List Int))(jD hP dP dF:Int)(aq bb:List Int):(Int×(List Int))→S:=fun (hj,aS)=>e2 [(0,.eu 2 [[.isl 4 (cZ.map dJ),.isl 3 (cD.map db)]] 0 0),(1,.isl 1 (cy.map J)),(8,.ref 0 0 0 0),(10,.isl 2 (eb.map ev)),(11,.ref 1 0 0 0),(12,.n .i64 a3),(13,.isl 1 (gT.map J)),(46,.isl 1 (fO.map (fp 1 J))),(47,.n .i64 jD),(48,.n .i64 a3),(53,.isl 2 (eb.map ev)),(54,.n .i64 hP),(55,.n .i64 hj)] [[af.mk 5 [[.n .i64 (0:Int),.n .i64 (0:Int),.ex,.ex,.ex]] .live],[af.mk 5 [(fA dP dF 2 0 0 aS.length 3 0 0 aq.length 4 0 0 bb.length)] .live],(ay 1 J aS),(ay 1 J aq),(ay 1 J bb)]
def F2 (cZ:List aU)(cD:List a5)(cy:List Int)(eb:List d8)(a3:Int)(gT:List Int)(fO:List (List Int))(jD hP dP dF:Int)(aq bb:List Int):(List Int)→e5
 | a=>⟨some 2,[(0,.eu 2 [[.isl 4 (cZ.map dJ),.isl 3 (cD.map db)]] 0 0),(1,.isl 1 (cy.map J)),(8,.ref 0 0 0 0),(10,.isl 2 (eb.map ev)),(11,.ref 1 0 0 0),(46,.isl 1 (fO.map (fp 1 J))),(47,.n .i64 jD),(48,.n .i64 a3)],[[af.mk 5 [[.n .i64 (0:Int),.n .i64 (0:Int),.ex,.ex,.ex]] .live],[af.mk 5 [(fA dP dF 2 0 0 a.length 3 0 0 aq.length 4 0 0 bb.length)] .live],(ay 1 J a),(ay 1 J aq),(ay 1 J bb)]⟩
def wE (cZ:List aU)(cD:List a5)(cy:List Int)(eb:List d8)(a3:Int)(gT:List Int)(fO:List (List Int))(jD hP dP dF:Int)(aq bb:List Int)(hj:Int)(aS:List Int):Option ((Int×(List Int))⊕((List Int))) :=
 if (decide (hj<hP))=true then
  if 0≤hj∧hj<eb.length then
  eb[hj.toNat]? >>= fun aO =>
  if 0≤aO.hx∧aO.hx<gT.length then
  gT[aO.hx.toNat]? >>= fun bO =>
  if 0≤(U ((U (a3*dF))+hj))∧(U ((U (a3*dF))+hj))<(aS.length:Nat) then
  if (0+(U ((U (a3*dF))+hj)).toNat)<aS.length then
  some (.inl (U (hj+(1:Int)),aS.set (0+(U ((U (a3*dF))+hj)).toNat) (U (aO.sf*bO))))
  else none
  else none
  else none
  else none
 else
  some (.inr aS)
def Gf (cZ:List aU)(cD:List a5)(cy:List Int)(eb:List d8)(a3:Int)(gT:List Int)(fO:List (List Int))(jD hP dP dF:Int)(aq bb:List Int)(hj:Int)(aS:List Int):Option ((List Int)):=iter (fun w:Int×(List Int)=>wE cZ cD cy eb a3 gT fO jD hP dP dF aq bb w.1 w.2) (hj,aS)
theorem SG {cZ:List aU}{cD:List a5}{cy:List Int}{eb:List d8}{a3:Int}{gT:List Int}{fO:List (List Int)}{jD hP dP dF:Int}{aq bb:List Int}{hj:Int}{aS:List Int}:b4 (wE cZ cD cy eb a3 gT fO jD hP dP dF aq bb hj aS) (fG bx 113 0 40 [1,1,1,1,0,1,0,0,1,1,0,0,1,1,0,0] (FW cZ cD cy eb a3 gT fO jD hP dP dF aq bb (hj,aS)) (FW cZ cD cy eb a3 gT fO jD hP dP dF aq bb) (F2 cZ cD cy eb a3 gT fO jD hP dP dF aq bb)):=by
 unfold wE
 exact .ite (fun o =>
  .bl fun R =>
  .az fun aO aD =>
  .bl fun aM =>
  .az fun bO bQ =>
  .bl fun bn =>
  .bl fun cA =>
  .ret (let aW:=U ((U (a3*dF))+hj);let bk:=U (aO.sf*bO);b0 [(ab 1),.al true,.aE (bT 2 (.cq (ev aO)) 3),.aE (ae 14 (ai (.cq (J bO)) (ae 2 (ai .dh [])))),(ab 2),.bm [0,1,2,3,4] [.box [.id,.id,.id,.id,.id],.box [.id,.id,.len ((aS.set (0+aW.toNat) bk).length),.id,.id],.eg (ay 1 J (aS.set (0+aW.toNat) bk)),.pure,.pure] (bY [0,1,8,10,11,12,13,46,47,48,53,54,55])] (.bj o R.1 (en ev R.2) (cz ev aD) aM.1 (en J aM.2) (cz J bQ) bn.1 (.gX bn.2 (hR J cA) (hG 1) (gZ (fq aS) (0+aW.toNat) bk) (e6 1 .live (gE (el J aS) (0+aW.toNat) bk)) (aG 1 .live aF (aS.set (0+aW.toNat) bk)) (aG 1 .live aF aq) (aG 1 .live aF bb)))))
  (fun o =>
  .ret (b0 [(ab 1),.al false,.bm [0,1,2,3,4] [.box [.id,.id,.id,.id,.id],.box [.id,.id,.id,.id,.id],.pure,.pure,.pure] (bY [0,1,8,10,11,46,47,48])] (.dn o (aG 1 .live aF aS) (aG 1 .live aF aq) (aG 1 .live aF bb))))
theorem SR {cZ:List aU}{cD:List a5}{cy:List Int}{eb:List d8}{a3:Int}{gT:List Int}{fO:List (List Int)}{jD hP dP dF:Int}{aq bb:List Int}{hj:Int}{aS:List Int}{r} (h:Gf cZ cD cy eb a3 gT fO jD hP dP dF aq bb hj aS=some r):fH bx 113 0 40 [1,1,1,1,0,1,0,0,1,1,0,0,1,1,0,0] (FW cZ cD cy eb a3 gT fO jD hP dP dF aq bb) (F2 cZ cD cy eb a3 gT fO jD hP dP dF aq bb) (hj,aS) r:=fI (fun _=>SG) h
def FX (cZ:List aU)(cD:List a5)(cy:List Int)(eb:List d8)(fO:List (List Int))(jD dP dF:Int)(aq bb:List Int):(Int×(List Int))→S:=fun (nU,aS)=>e2 [(0,.eu 2 [[.isl 4 (cZ.map dJ),.isl 3 (cD.map db)]] 0 0),(1,.isl 1 (cy.map J)),(8,.ref 0 0 0 0),(10,.isl 2 (eb.map ev)),(11,.ref 1 0 0 0),(46,.isl 1 (fO.map (fp 1 J))),(47,.n .i64 jD),(48,.n .i64 nU)] [[af.mk 5 [[.n .i64 (0:Int),.n .i64 (0:Int),.ex,.ex,.ex]] .live],[af.mk 5 [(fA dP dF 2 0 0 aS.length 3 0 0 aq.length 4 0 0 bb.length)] .live],(ay 1 J aS),(ay 1 J aq),(ay 1 J bb)]
def F3 (cZ:List aU)(cD:List a5)(cy:List Int)(eb:List d8)(fO:List (List Int))(jD dP dF:Int)(aq bb:List Int):(List Int)→e5
 | a=>⟨some 0,[(0,.eu 2 [[.isl 4 (cZ.map dJ),.isl 3 (cD.map db)]] 0 0),(1,.isl 1 (cy.map J)),(8,.ref 0 0 0 0),(11,.ref 1 0 0 0)],[[af.mk 5 [[.n .i64 (0:Int),.n .i64 (0:Int),.ex,.ex,.ex]] .live],[af.mk 5 [(fA dP dF 2 0 0 a.length 3 0 0 aq.length 4 0 0 bb.length)] .live],(ay 1 J a),(ay 1 J aq),(ay 1 J bb)]⟩
def wF (cZ:List aU)(cD:List a5)(cy:List Int)(eb:List d8)(fO:List (List Int))(jD dP dF:Int)(aq bb:List Int)(nU:Int)(aS:List Int):Option ((Int×(List Int))⊕((List Int))) :=
 if (decide (nU<jD))=true then
  if 0≤nU∧nU<fO.length then
  fO[nU.toNat]? >>= fun aO =>
  Gf cZ cD cy eb nU aO fO jD (len_ ev eb) dP dF aq bb 0 aS >>= fun bp =>
  some (.inl (U (nU+(1:Int)),bp))
  else none
 else
  some (.inr aS)
def Gg (cZ:List aU)(cD:List a5)(cy:List Int)(eb:List d8)(fO:List (List Int))(jD dP dF:Int)(aq bb:List Int)(nU:Int)(aS:List Int):Option ((List Int)):=iter (fun w:Int×(List Int)=>wF cZ cD cy eb fO jD dP dF aq bb w.1 w.2) (nU,aS)
theorem SH {cZ:List aU}{cD:List a5}{cy:List Int}{eb:List d8}{fO:List (List Int)}{jD dP dF:Int}{aq bb:List Int}{nU:Int}{aS:List Int}:b4 (wF cZ cD cy eb fO jD dP dF aq bb nU aS) (fG bx 113 0 40 [1,1,1,1,0,1,0,0] (FX cZ cD cy eb fO jD dP dF aq bb (nU,aS)) (FX cZ cD cy eb fO jD dP dF aq bb) (F3 cZ cD cy eb fO jD dP dF aq bb)):=by
 unfold wF
 exact .ite (fun o =>
  .bl fun R =>
  .az fun aO aD =>
  .az fun bp bq =>
  .ret (b0 [(ab 1),.al true,.aE (bT 2 (.cq ((fp 1 J) aO)) 2),(ab 3),.bm [0,1,2,3,4] [.box [.id,.id,.id,.id,.id],.box [.id,.id,.id,.id,.id],.pure,.pure,.pure] (bY [0,1,8,10,11,12,13,46,47,48,53,54,55]),(F2 cZ cD cy eb nU aO fO jD (len_ ev eb) dP dF aq bb bp).gC,(ab 2),.bm [0,1,2,3,4] [.box [.id,.id,.id,.id,.id],.box [.id,.id,.id,.id,.id],.pure,.pure,.pure] (bY [0,1,8,10,11,46,47,48])] (.bj o R.1 (en (fp 1 J) R.2) (cz (fp 1 J) aD) (aG 1 .live aF aS) (aG 1 .live aF aq) (aG 1 .live aF bb) (SR bq) (.b1 (aG 1 .live aF bp) (aG 1 .live aF aq) (aG 1 .live aF bb)))))
  (fun o =>
  .ret (b0 [(ab 1),.al false,.bm [0,1,2,3,4] [.box [.id,.id,.id,.id,.id],.box [.id,.id,.id,.id,.id],.pure,.pure,.pure] (bY [0,1,8,11])] (.dn o (aG 1 .live aF aS) (aG 1 .live aF aq) (aG 1 .live aF bb))))
theorem SS {cZ:List aU}{cD:List a5}{cy:List Int}{eb:List d8}{fO:List (List Int)}{jD dP dF:Int}{aq bb:List Int}{nU:Int}{aS:List Int}{r} (h:Gg cZ cD cy eb fO jD dP dF aq bb nU aS=some r):fH bx 113 0 40 [1,1,1,1,0,1,0,0] (FX cZ cD cy eb fO jD dP dF aq bb) (F3 cZ cD cy eb fO jD dP dF aq bb) (nU,aS) r:=fI (fun _=>SH) h
def FY (cy oD:List Int)(pg dP dF:Int)(aS bb:List Int):(Int×(List Int))→S:=fun (k8,aq)=>e2 [(1,.isl 1 (cy.map J)),(8,.ref 0 0 0 0),(11,.ref 1 0 0 0),(80,.isl 1 (oD.map J)),(81,.n .i64 pg),(82,.n .i64 k8)] [[af.mk 5 [[.n .i64 (0:Int),.n .i64 (0:Int),.ex,.ex,.ex]] .live],[af.mk 5 [(fA dP dF 2 0 0 aS.length 3 0 0 aq.length 4 0 0 bb.length)] .live],(ay 1 J aS),(ay 1 J aq),(ay 1 J bb)]
def F4 (cy oD:List Int)(pg dP dF:Int)(aS bb:List Int):(List Int)→e5
 | a=>⟨some 4,[(8,.ref 0 0 0 0),(11,.ref 1 0 0 0)],[[af.mk 5 [[.n .i64 (0:Int),.n .i64 (0:Int),.ex,.ex,.ex]] .live],[af.mk 5 [(fA dP dF 2 0 0 aS.length 3 0 0 a.length 4 0 0 bb.length)] .live],(ay 1 J aS),(ay 1 J a),(ay 1 J bb)]⟩
def wG (cy oD:List Int)(pg dP dF:Int)(aS bb:List Int)(k8:Int)(aq:List Int):Option ((Int×(List Int))⊕((List Int))) :=
 if (decide (k8<pg))=true then
  if 0≤k8∧k8<oD.length then
  oD[k8.toNat]? >>= fun aO =>
  if 0≤(U ((2:Int)*aO))∧(U ((2:Int)*aO))<cy.length then
  cy[(U ((2:Int)*aO)).toNat]? >>= fun bO =>
  if 0≤(U ((U ((2:Int)*aO))+(1:Int)))∧(U ((U ((2:Int)*aO))+(1:Int)))<cy.length then
  cy[(U ((U ((2:Int)*aO))+(1:Int))).toNat]? >>= fun gy =>
  if 0≤(U ((2:Int)*k8))∧(U ((2:Int)*k8))<(aq.length:Nat) then
  if (0+(U ((2:Int)*k8)).toNat)<aq.length then
  if 0≤(U ((U ((2:Int)*k8))+(1:Int)))∧(U ((U ((2:Int)*k8))+(1:Int)))<(aq.length:Nat) then
  if (0+(U ((U ((2:Int)*k8))+(1:Int))).toNat)<(aq.set (0+(U ((2:Int)*k8)).toNat) (U (0-bO))).length then
  some (.inl (U (k8+(1:Int)),(aq.set (0+(U ((2:Int)*k8)).toNat) (U (0-bO))).set (0+(U ((U ((2:Int)*k8))+(1:Int))).toNat) (U (0-gy))))
  else none
  else none
  else none
  else none
  else none
  else none
  else none
 else
  some (.inr aq)
def Gh (cy oD:List Int)(pg dP dF:Int)(aS bb:List Int)(k8:Int)(aq:List Int):Option ((List Int)):=iter (fun w:Int×(List Int)=>wG cy oD pg dP dF aS bb w.1 w.2) (k8,aq)
theorem SI {cy oD:List Int}{pg dP dF:Int}{aS bb:List Int}{k8:Int}{aq:List Int}:b4 (wG cy oD pg dP dF aS bb k8 aq) (fG bx 113 0 40 [1,1,1,1,1,0,1,0,0] (FY cy oD pg dP dF aS bb (k8,aq)) (FY cy oD pg dP dF aS bb) (F4 cy oD pg dP dF aS bb)):=by
 unfold wG
 exact .ite (fun o =>
  .bl fun R =>
  .az fun aO aD =>
  .bl fun aM =>
  .az fun bO bQ =>
  .bl fun bn =>
  .az fun gy de =>
  .bl fun cK =>
  .bl fun dc =>
  .bl fun dT =>
  .bl fun e9 =>
  .ret (let aW:=(U ((2:Int)*k8));let bk:=(U (aW+(1:Int)));let cc:=U (0-bO);let cV:=U (0-gy);b0 [(ab 1),.al true,.aE (bT 2 (.cq (J aO)) 2),.aE (ae 13 (ai (.cq (J bO)) (ae 6 (ai (.cq (J gy)) (ae 2 (ai .dh (ae 1 (ai .dh [])))))))),(ab 2),.bm [0,1,2,3,4] [.box [.id,.id,.id,.id,.id],.box [.id,.id,.id,.len (((aq.set (0+aW.toNat) cc).set (0+bk.toNat) cV).length),.id],.pure,.eg (ay 1 J ((aq.set (0+aW.toNat) cc).set (0+bk.toNat) cV)),.pure] (bY [1,8,11,80,81,82])] (.bj o R.1 (en J R.2) (cz J aD) aM.1 (en J aM.2) (cz J bQ) bn.1 (.bj (en J bn.2) (cz J de) cK.1 cK.2 (hR J dc) (hG 1) dT.1 dT.2 (.ff (P4 (gE (el J aq) (0+aW.toNat) cc) e9) (hG 1) (gZ (gZ (fq aq) (0+aW.toNat) cc) (0+bk.toNat) cV) (aG 1 .live aF aS) (e6 1 .live (gE (gE (el J aq) (0+aW.toNat) cc) (0+bk.toNat) cV)) (aG 1 .live aF ((aq.set (0+aW.toNat) cc).set (0+bk.toNat) cV)) (aG 1 .live aF bb))))))
  (fun o =>
  .ret (b0 [(ab 1),.al false,.bm [0,1,2,3,4] [.box [.id,.id,.id,.id,.id],.box [.id,.id,.id,.id,.id],.pure,.pure,.pure] (bY [8,11])] (.dn o (aG 1 .live aF aS) (aG 1 .live aF aq) (aG 1 .live aF bb))))
theorem SU {cy oD:List Int}{pg dP dF:Int}{aS bb:List Int}{k8:Int}{aq:List Int}{r} (h:Gh cy oD pg dP dF aS bb k8 aq=some r):fH bx 113 0 40 [1,1,1,1,1,0,1,0,0] (FY cy oD pg dP dF aS bb) (F4 cy oD pg dP dF aS bb) (k8,aq) r:=fI (fun _=>SI) h
def uP (aI:ca)(cy:List Int)(nO ot:Int):Option (Int×Int×(List Int)×(List Int)×(List Int)) :=
 zx aI >>= fun an =>
 tH aI >>= fun aZ =>
 if 0≤(U ((U ((len_ (fp 1 J) an)+ot))*(U ((len_ ev aZ)+nO))))∧(8:Int)*(U ((U ((len_ (fp 1 J) an)+ot))*(U ((len_ ev aZ)+nO))))≤281474976710656∧(U ((U ((len_ (fp 1 J) an)+ot))*(U ((len_ ev aZ)+nO))))<9223372036854775808 then
 if 0≤(U ((len_ (fp 1 J) an)+ot))∧(8:Int)*(U ((len_ (fp 1 J) an)+ot))≤281474976710656∧(U ((len_ (fp 1 J) an)+ot))<9223372036854775808 then
 if 0≤(U ((len_ ev aZ)+nO))∧(8:Int)*(U ((len_ ev aZ)+nO))≤281474976710656∧(U ((len_ ev aZ)+nO))<9223372036854775808 then
 Gg aI.c7 aI.b2 cy aZ an (len_ (fp 1 J) an) (U ((len_ (fp 1 J) an)+ot)) (U ((len_ ev aZ)+nO)) (List.replicate (U ((len_ (fp 1 J) an)+ot)).toNat 0:List Int) (List.replicate (U ((len_ ev aZ)+nO)).toNat 0:List Int) 0 (List.replicate (U ((U ((len_ (fp 1 J) an)+ot))*(U ((len_ ev aZ)+nO)))).toNat 0:List Int) >>= fun fz =>
 uR aI >>= fun fL =>
 Gh cy fL (len_ J fL) (U ((len_ (fp 1 J) an)+ot)) (U ((len_ ev aZ)+nO)) fz (List.replicate (U ((len_ ev aZ)+nO)).toNat 0:List Int) 0 (List.replicate (U ((len_ (fp 1 J) an)+ot)).toNat 0:List Int) >>= fun cC =>
 some (U ((len_ (fp 1 J) an)+ot),U ((len_ ev aZ)+nO),fz,cC,(List.replicate (U ((len_ ev aZ)+nO)).toNat 0:List Int))
 else none
 else none
 else none
theorem Mm {aI:ca}{cy:List Int}{nO ot:Int}:b4 (uP aI cy nO ot) (fun a=>Con bx 40 [.eu 2 [(ga aI)] 0 0,.isl 1 (cy.map J),.n .i64 nO,.n .i64 ot] [] (.agg (fA a.1 a.2.1 0 0 0 a.2.2.1.length 0 1 0 a.2.2.2.1.length 0 2 0 a.2.2.2.2.length)) [[af.mk 1 (a.2.2.1.map J) .live,af.mk 1 (a.2.2.2.1.map J) .live,af.mk 1 (a.2.2.2.2.map J) .live]]):=by
 unfold uP
 exact .az fun an R =>
  .az fun aZ aD =>
  .bl fun aM =>
  .bl fun bq =>
  .bl fun bQ =>
  .az fun fz cA =>
  .az fun fL cK =>
  .az fun cC dT =>
  .ret (let bk:=U ((len_ (fp 1 J) an)+ot);let cc:=U ((len_ ev aZ)+nO);let aW:=(List.replicate cc.toNat 0:List Int);let cV:=(List.replicate bk.toNat 0:List Int);let fB:=aG 1 .live aF aW;let hE:=U (bk*cc);let d5:=(List.replicate hE.toNat 0:List Int);i1 [(ab 1),.aE (ae 1 (ai (bA 1 (.isl 1 (an.map (fp 1 J))) false) (bT 1 (bA 1 (.isl 2 (aZ.map ev)) false) 2))),(ab 11),(ab 18),(ab 3),.bm [0,16,23,26,29] [.box [.id,.id,.id,.id,.id],.box [.id,.id,.len (d5.length),.len (cV.length),.len (aW.length)],.eg (ay 1 J d5),.eg (ay 1 J cV),.eg (ay 1 J aW)] (bY [0,1,8,10,11,46,47,48]),(F3 aI.c7 aI.b2 cy aZ an (len_ (fp 1 J) an) bk cc cV aW fz).gC,.aE (bT 1 (bA 1 (.isl 1 (fL.map J)) false) 2),.bm [0,1,2,3,4] [.box [.id,.id,.id,.id,.id],.box [.id,.id,.id,.id,.id],.pure,.pure,.pure] (bY [1,8,11,80,81,82]),(F4 cy fL (len_ J fL) bk cc fz aW cC).gC,(ab 2),.y1 [{bh:=[(2,0),(3,0),(4,0)],dd:=none},{bh:=[(0,0)]}] [([.pure,.pure,.pure],none),([.box [.id,.id,.at_ 0 0 fz.length,.at_ 0 1 cC.length,.at_ 0 2 (aW.length)]],none)] [(8,.bE (.cx (.at_ 1 0 0)))]] [0] [.bD [af.mk 1 (fz.map J) .live,af.mk 1 (cC.map J) .live,af.mk 1 (aW.map J) .live]] (.bj (Tm an R) (CJ aZ aD) aM.1 (Int.le_refl hE) aM.2.1 aM.2.2 bq.1 (Int.le_refl bk) (.bj bq.2.1 bq.2.2 bQ.1 (Int.le_refl cc) bQ.2.1 bQ.2.2 (lY hE.toNat (0:Int)) (lY bk.toNat (0:Int)) (.bj (lY cc.toNat (0:Int)) (e6 1 .live (lL J hE.toNat 0)) (aG 1 .live aF d5) (e6 1 .live (lL J bk.toNat 0)) (aG 1 .live aF cV) (e6 1 .live (lL J cc.toNat 0)) fB (SS cA) (.bj (Gv fL cK) (aG 1 .live aF fz) (aG 1 .live aF cV) fB (SU dT) (aG 1 .live aF fz) (aG 1 .live aF cC) fB (.gX (rfl:(iT [{bh:=[(2,0),(3,0),(4,0)],dd:=none},{bh:=[(0,0)]}]) 0 0=some (2,0)) (rfl:fz.length=fz.length) (rfl:(iT [{bh:=[(2,0),(3,0),(4,0)],dd:=none},{bh:=[(0,0)]}]) 0 1=some (3,0)) (rfl:cC.length=cC.length) (rfl:(iT [{bh:=[(2,0),(3,0),(4,0)],dd:=none},{bh:=[(0,0)]}]) 0 2=some (4,0)) (rfl:aW.length=aW.length) (rfl:(iT [{bh:=[(2,0),(3,0),(4,0)],dd:=none},{bh:=[(0,0)]}]) 1 0=some (0,0)) (eM (fM (c8 [0]) 1 fN fz) (eM (fM (c8 [0]) 1 fN cC) (eM (fM (c8 [0]) 1 fN aW) (kE (b7:=(c8 [0]))))))))))) (.bE (.agg [.id,.id,.id,.id,.id])))
def uY (a3 cg cH:Int)(sg s5 s6:List Int):Option (Nat×Nat) :=
 if 0≤(U (a3*cH)) then
 if 0≤(U ((U (a3+(1:Int)))*cH)) then
 if (U (a3*cH)).toNat≤(U ((U (a3+(1:Int)))*cH)).toNat∧(U ((U (a3+(1:Int)))*cH)).toNat≤sg.length then
 some ((0+(U (a3*cH)).toNat),((U ((U (a3+(1:Int)))*cH)).toNat-(U (a3*cH)).toNat))
 else none
 else none
 else none
theorem Uc {a3 cg cH:Int}{sg s5 s6:List Int}:b4 (uY a3 cg cH sg s5 s6) (fun a=>Con bx 41 [.ref 0 0 0 0,.n .i64 a3] [[af.mk 5 [(fA cg cH 1 0 0 sg.length 1 1 0 s5.length 1 2 0 s6.length)] .live],[af.mk 1 (sg.map J) .live,af.mk 1 (s5.map J) .live,af.mk 1 (s6.map J) .live]] (.bF 1 0 a.1 a.2) [[af.mk 5 [(fA cg cH 1 0 0 sg.length 1 1 0 s5.length 1 2 0 s6.length)] .live],[af.mk 1 (sg.map J) .live,af.mk 1 (s5.map J) .live,af.mk 1 (s6.map J) .live]]):=by
 unfold uY
 exact .bl fun o =>
  .bl fun R =>
  .bl fun ad =>
  .ret (let aW:=fA cg cH 1 0 0 sg.length 1 1 0 s5.length 1 2 0 s6.length;let bk:=c8 [0,1];i1 [(ab 1),(ab 19)] [0,1] [.bD [af.mk 5 [aW] .live],.bD [af.mk 1 (sg.map J) .live,af.mk 1 (s5.map J) .live,af.mk 1 (s6.map J) .live]] (.eF o R ad.1 ad.2 (iK bk 5 [aW] [aW] rfl) (eM (fM bk 1 fN sg) (eM (fM bk 1 fN s5) (eM (fM bk 1 fN s6) (kE (b7:=bk)))))))
def FZ (cZ:List aU)(cD:List a5)(eb:List d8)(gJ gm a3 nR:Int)(kC gK:Nat)(gG:List bu)(gL hY hX ph dP dF jl jk oE ox:Int)(k4 k5:List Int):(Int×(List Int))→S:=fun (jE,kc)=>e2 [(0,.eu 2 [[.isl 4 (cZ.map dJ),.isl 3 (cD.map db)]] 0 0),(6,.ref 0 0 0 0),(7,.isl 2 (eb.map ev)),(8,.ref 1 0 0 0),(9,.n .i64 gJ),(10,.n .i64 gm),(11,.n .i64 a3),(12,.ref 2 0 0 0),(13,.n .i64 nR),(14,.ref 3 0 0 0),(15,.bF 4 0 kC gK),(37,.isl 4 (gG.map cG)),(38,.n .i64 gL),(39,.n .i64 a3),(54,.agg [.n .i64 hY,.n .i64 hX,.n .i64 hX,.n .i64 hY]),(55,.n .i64 nR),(66,.isl 2 (eb.map ev)),(67,.n .i64 ph),(68,.n .i64 jE)] [[af.mk 5 [[.n .i64 (0:Int),.n .i64 (0:Int),.ex,.ex,.ex]] .live],[af.mk 5 [(fA dP dF 4 0 0 kc.length 4 1 0 k4.length 4 2 0 k5.length)] .live],[af.mk 4 [[.n .i64 hY,.n .i64 hX,.n .i64 jl,.n .i64 jk]] .live],[af.mk 2 [[.n .i64 oE,.n .i64 ox]] .live],[af.mk 1 (kc.map J) .live,af.mk 1 (k4.map J) .live,af.mk 1 (k5.map J) .live]]
def F5 (cZ:List aU)(cD:List a5)(eb:List d8)(gJ gm a3 nR:Int)(kC gK:Nat)(gG:List bu)(gL hY hX ph dP dF jl jk oE ox:Int)(k4 k5:List Int):(List Int)→e5
 | a=>⟨some 4,[(0,.eu 2 [[.isl 4 (cZ.map dJ),.isl 3 (cD.map db)]] 0 0),(6,.ref 0 0 0 0),(7,.isl 2 (eb.map ev)),(8,.ref 1 0 0 0),(9,.n .i64 gJ),(10,.n .i64 gm),(11,.n .i64 a3),(12,.ref 2 0 0 0),(13,.n .i64 nR),(15,.bF 3 0 kC gK),(37,.isl 4 (gG.map cG)),(38,.n .i64 gL),(39,.n .i64 a3),(54,.agg [.n .i64 hY,.n .i64 hX,.n .i64 hX,.n .i64 hY]),(55,.n .i64 nR)],[[af.mk 5 [[.n .i64 (0:Int),.n .i64 (0:Int),.ex,.ex,.ex]] .live],[af.mk 5 [(fA dP dF 3 0 0 a.length 3 1 0 k4.length 3 2 0 k5.length)] .live],[af.mk 4 [[.n .i64 hY,.n .i64 hX,.n .i64 jl,.n .i64 jk]] .live],[af.mk 1 (a.map J) .live,af.mk 1 (k4.map J) .live,af.mk 1 (k5.map J) .live]]⟩
def wH (cZ:List aU)(cD:List a5)(eb:List d8)(gJ gm a3 nR:Int)(kC gK:Nat)(gG:List bu)(gL hY hX ph dP dF jl jk oE ox:Int)(k4 k5:List Int)(jE:Int)(kc:List Int):Option ((Int×(List Int))⊕((List Int))) :=
 if (decide (jE<ph))=true then
  if 0≤jE∧jE<eb.length then
  eb[jE.toNat]? >>= fun aO =>
  if (aO.hx == oE)=true then
   ml (⟨cZ,cD⟩:ca) oE >>= fun cT =>
   if 0≤jE∧jE<(gK:Nat) then
   if (kC+jE.toNat)<kc.length then
   some (.inl (U (jE+(1:Int)),kc.set (kC+jE.toNat) (U (jk*cT))))
   else none
   else none
  else
   if (aO.hx == ox)=true then
    ml (⟨cZ,cD⟩:ca) ox >>= fun bH =>
    if 0≤jE∧jE<(gK:Nat) then
    if (kC+jE.toNat)<kc.length then
    some (.inl (U (jE+(1:Int)),kc.set (kC+jE.toNat) (U ((U (0-jl))*bH))))
    else none
    else none
   else
    some (.inl (U (jE+(1:Int)),kc))
  else none
 else
  some (.inr kc)
def zs (cZ:List aU)(cD:List a5)(eb:List d8)(gJ gm a3 nR:Int)(kC gK:Nat)(gG:List bu)(gL hY hX ph dP dF jl jk oE ox:Int)(k4 k5:List Int)(jE:Int)(kc:List Int):Option ((List Int)):=iter (fun w:Int×(List Int)=>wH cZ cD eb gJ gm a3 nR kC gK gG gL hY hX ph dP dF jl jk oE ox k4 k5 w.1 w.2) (jE,kc)
theorem SJ {cZ:List aU}{cD:List a5}{eb:List d8}{gJ gm a3 nR:Int}{kC gK:Nat}{gG:List bu}{gL hY hX ph dP dF jl jk oE ox:Int}{k4 k5:List Int}{jE:Int}{kc:List Int}:b4 (wH cZ cD eb gJ gm a3 nR kC gK gG gL hY hX ph dP dF jl jk oE ox k4 k5 jE kc) (fG bx 116 0 17 [1,1,1,1,0,1,0,0,1,1,0,0,1,1,0,0,1,1,0,0,1,1,0,1,0,0] (FZ cZ cD eb gJ gm a3 nR kC gK gG gL hY hX ph dP dF jl jk oE ox k4 k5 (jE,kc)) (FZ cZ cD eb gJ gm a3 nR kC gK gG gL hY hX ph dP dF jl jk oE ox k4 k5) (F5 cZ cD eb gJ gm a3 nR kC gK gG gL hY hX ph dP dF jl jk oE ox k4 k5)):=by
 unfold wH
 exact .ite (fun o =>
  .bl fun R =>
  .az fun aO aD =>
  (let t1:List cL:=[(ab 1),.al true,.aE (bT 2 (.cq (ev aO)) 3),(ab 2),(ab 4)];
  have a9:=((.eF o R.1 (en ev R.2) (cz ev aD) (by decide:(0:Int)≤0) (by decide:(0:Int)<2)):c3 _);
  .ite (fun aM =>
  .az fun cT bQ =>
  .bl fun bn =>
  .bl fun cA =>
  .ret (let aW:=c8 [0,1,2,3,4];let bk:=U (jk*cT);b0 (t1.append [.al true,.aE (ae 7 (ai (bA 2 (.n .i64 cT) true) (ae 2 (ai .dh [])))),(ab 2),.bm [0,1,2,3,4] [.box [.id,.id,.id,.id,.id],.box [.id,.id,.len ((kc.set (kC+jE.toNat) bk).length),.id,.id],.box [.id,.id,.id,.id],.box [.id,.id],.bD [af.mk 1 ((kc.set (kC+jE.toNat) bk).map J) .live,af.mk 1 (k4.map J) .live,af.mk 1 (k5.map J) .live]] (bY [0,6,7,8,9,10,11,12,13,14,15,37,38,39,54,55,66,67,68])]) (a9.aY (.bj aM (by decide:(0:Int)≤0) (by decide:(0:Int)<2) (sA cT bQ) (cf.n .i64 cT) bn.1 bn.2 (hR J cA) (.b1 (hG 1) (gZ (fq kc) (kC+jE.toNat) bk) (eM (tC (b7:=aW) 1 .live J (gE (el J kc) (kC+jE.toNat) bk) (oB fN)) (eM (fM aW 1 fN k4) (eM (fM aW 1 fN k5) (kE (b7:=aW))))))))))
  (fun aM =>
  (have fR:=a9.aY (.b1 aM (by decide:(0:Int)≤1) (by decide:(1:Int)<2));
  .ite (fun bq =>
  .az fun bH bn =>
  .bl fun cA =>
  .bl fun de =>
  .ret (let cc:=U ((U (0-jl))*bH);let cV:=c8 [0,1,2,3,4];b0 (t1.append [.al false,(ab 4),.al true,.aE (ae 8 (ai (bA 2 (.n .i64 bH) true) (ae 2 (ai .dh [])))),(ab 2),.bm [0,1,2,3,4] [.box [.id,.id,.id,.id,.id],.box [.id,.id,.len ((kc.set (kC+jE.toNat) cc).length),.id,.id],.box [.id,.id,.id,.id],.box [.id,.id],.bD [af.mk 1 ((kc.set (kC+jE.toNat) cc).map J) .live,af.mk 1 (k4.map J) .live,af.mk 1 (k5.map J) .live]] (bY [0,6,7,8,9,10,11,12,13,14,15,37,38,39,54,55,66,67,68])]) (fR.aY (.bj bq (by decide:(0:Int)≤1) (by decide:(1:Int)<2) (sA bH bn) (cf.n .i64 bH) cA.1 cA.2 (hR J de) (.b1 (hG 1) (gZ (fq kc) (kC+jE.toNat) cc) (eM (tC (b7:=cV) 1 .live J (gE (el J kc) (kC+jE.toNat) cc) (oB fN)) (eM (fM cV 1 fN k4) (eM (fM cV 1 fN k5) (kE (b7:=cV))))))))))
  (fun bq =>
  .ret (let d5:=c8 [0,1,2,3,4];b0 (t1.append [.al false,(ab 4),.al false,(ab 2),.bm [0,1,2,3,4] [.box [.id,.id,.id,.id,.id],.box [.id,.id,.id,.id,.id],.box [.id,.id,.id,.id],.box [.id,.id],.bD [af.mk 1 (kc.map J) .live,af.mk 1 (k4.map J) .live,af.mk 1 (k5.map J) .live]] (bY [0,6,7,8,9,10,11,12,13,14,15,37,38,39,54,55,66,67,68])]) (fR.aY (.aC bq (eM (fM d5 1 fN kc) (eM (fM d5 1 fN k4) (eM (fM d5 1 fN k5) (kE (b7:=d5)))))))))))))
  (fun o =>
  .ret (let fB:=c8 [0,1,2,4];b0 [(ab 1),.al false,.bm [0,1,2,4] [.box [.id,.id,.id,.id,.id],.box [.id,.id,.id,.id,.id],.box [.id,.id,.id,.id],.bD [af.mk 1 (kc.map J) .live,af.mk 1 (k4.map J) .live,af.mk 1 (k5.map J) .live]] (bY [0,6,7,8,9,10,11,12,13,15,37,38,39,54,55])] (.aC o (eM (fM fB 1 fN kc) (eM (fM fB 1 fN k4) (eM (fM fB 1 fN k5) (kE (b7:=fB))))))))
theorem SV {cZ:List aU}{cD:List a5}{eb:List d8}{gJ gm a3 nR:Int}{kC gK:Nat}{gG:List bu}{gL hY hX ph dP dF jl jk oE ox:Int}{k4 k5:List Int}{jE:Int}{kc:List Int}{r} (h:zs cZ cD eb gJ gm a3 nR kC gK gG gL hY hX ph dP dF jl jk oE ox k4 k5 jE kc=some r):fH bx 116 0 17 [1,1,1,1,0,1,0,0,1,1,0,0,1,1,0,0,1,1,0,0,1,1,0,1,0,0] (FZ cZ cD eb gJ gm a3 nR kC gK gG gL hY hX ph dP dF jl jk oE ox k4 k5) (F5 cZ cD eb gJ gm a3 nR kC gK gG gL hY hX ph dP dF jl jk oE ox k4 k5) (jE,kc) r:=fI (fun _=>SJ) h
def F0 (cZ:List aU)(cD:List a5)(eb:List d8)(gJ gm a3:Int)(gG:List bu)(gL hY hX dP dF jl jk:Int)(i7 i9:List Int):(Int×(List Int))→S:=fun (hj,kF)=>e2 [(0,.eu 2 [[.isl 4 (cZ.map dJ),.isl 3 (cD.map db)]] 0 0),(6,.ref 0 0 0 0),(7,.isl 2 (eb.map ev)),(8,.ref 1 0 0 0),(9,.n .i64 gJ),(10,.n .i64 gm),(11,.n .i64 a3),(12,.ref 2 0 0 0),(37,.isl 4 (gG.map cG)),(38,.n .i64 gL),(39,.n .i64 a3),(54,.agg [.n .i64 hY,.n .i64 hX,.n .i64 hX,.n .i64 hY]),(55,.n .i64 hj)] [[af.mk 5 [[.n .i64 (0:Int),.n .i64 (0:Int),.ex,.ex,.ex]] .live],[af.mk 5 [(fA dP dF 3 0 0 kF.length 3 1 0 i7.length 3 2 0 i9.length)] .live],[af.mk 4 [[.n .i64 hY,.n .i64 hX,.n .i64 jl,.n .i64 jk]] .live],[af.mk 1 (kF.map J) .live,af.mk 1 (i7.map J) .live,af.mk 1 (i9.map J) .live]]
def F6 (cZ:List aU)(cD:List a5)(eb:List d8)(gJ gm a3:Int)(gG:List bu)(gL hY hX dP dF jl jk:Int)(i7 i9:List Int):(List Int)→e5
 | a=>⟨some 2,[(0,.eu 2 [[.isl 4 (cZ.map dJ),.isl 3 (cD.map db)]] 0 0),(6,.ref 0 0 0 0),(7,.isl 2 (eb.map ev)),(8,.ref 1 0 0 0),(9,.n .i64 gJ),(10,.n .i64 gm),(37,.isl 4 (gG.map cG)),(38,.n .i64 gL),(39,.n .i64 a3)],[[af.mk 5 [[.n .i64 (0:Int),.n .i64 (0:Int),.ex,.ex,.ex]] .live],[af.mk 5 [(fA dP dF 2 0 0 a.length 2 1 0 i7.length 2 2 0 i9.length)] .live],[af.mk 1 (a.map J) .live,af.mk 1 (i7.map J) .live,af.mk 1 (i9.map J) .live]]⟩
def wI (cZ:List aU)(cD:List a5)(eb:List d8)(gJ gm a3:Int)(gG:List bu)(gL hY hX dP dF jl jk:Int)(i7 i9:List Int)(hj:Int)(kF:List Int):Option ((Int×(List Int))⊕((List Int))) :=
 if (decide (hj<(2:Int)))=true then
  if 0≤hj∧hj<2 then
  uY (U ((U (gJ+(U ((2:Int)*a3))))+hj)) dP dF kF i7 i9 >>= fun aZ =>
  zs cZ cD eb gJ gm a3 hj aZ.1 aZ.2 gG gL hY hX (len_ ev eb) dP dF jl jk (if hj=0 then hY else hX) (if hj=0 then hX else hY) i7 i9 0 kF >>= fun bp =>
  if 0≤(U ((U (gm+(U ((2:Int)*a3))))+hj))∧(U ((U (gm+(U ((2:Int)*a3))))+hj))<(aZ.2:Nat) then
  if (aZ.1+(U ((U (gm+(U ((2:Int)*a3))))+hj)).toNat)<bp.length then
  some (.inl (U (hj+(1:Int)),bp.set (aZ.1+(U ((U (gm+(U ((2:Int)*a3))))+hj)).toNat) 1))
  else none
  else none
  else none
 else
  some (.inr kF)
def Cz (cZ:List aU)(cD:List a5)(eb:List d8)(gJ gm a3:Int)(gG:List bu)(gL hY hX dP dF jl jk:Int)(i7 i9:List Int)(hj:Int)(kF:List Int):Option ((List Int)):=iter (fun w:Int×(List Int)=>wI cZ cD eb gJ gm a3 gG gL hY hX dP dF jl jk i7 i9 w.1 w.2) (hj,kF)
theorem SK {cZ:List aU}{cD:List a5}{eb:List d8}{gJ gm a3:Int}{gG:List bu}{gL hY hX dP dF jl jk:Int}{i7 i9:List Int}{hj:Int}{kF:List Int}:b4 (wI cZ cD eb gJ gm a3 gG gL hY hX dP dF jl jk i7 i9 hj kF) (fG bx 116 0 17 [1,1,1,1,0,1,0,0,1,1,0,0,1,1,0,0] (F0 cZ cD eb gJ gm a3 gG gL hY hX dP dF jl jk i7 i9 (hj,kF)) (F0 cZ cD eb gJ gm a3 gG gL hY hX dP dF jl jk i7 i9) (F6 cZ cD eb gJ gm a3 gG gL hY hX dP dF jl jk i7 i9)):=by
 unfold wI
 exact .ite (fun o =>
  .bl fun R =>
  .az fun aZ aD =>
  .az fun bp bq =>
  .bl fun bQ =>
  .bl fun bn =>
  .ret (let aW:=fA dP dF 1 0 0 kF.length 1 1 0 i7.length 1 2 0 i9.length;let bk:=fA dP dF 3 0 0 kF.length 3 1 0 i7.length 3 2 0 i9.length;let cc:=(U ((U (gm+(U ((2:Int)*a3))))+hj));let cV:=c8 [0,1,2,7,3];let d5:=c8 [0,1,2,3];b0 [(ab 1),.al true,(ab 5),.aE (bT 6 (.call {aQ:=(ob [1,3]),cO:=[.bD [af.mk 5 [aW] .live],.bD [af.mk 1 (kF.map J) .live,af.mk 1 (i7.map J) .live,af.mk 1 (i9.map J) .live]],ac:=[ii,ii],r:= .bF 1 0 aZ.1 aZ.2,d4:=[[af.mk 5 [aW] .live],[af.mk 1 (kF.map J) .live,af.mk 1 (i7.map J) .live,af.mk 1 (i9.map J) .live]],fu:=ii,gd:=[.bD [af.mk 5 [bk] .live],.bD [af.mk 1 (kF.map J) .live,af.mk 1 (i7.map J) .live,af.mk 1 (i9.map J) .live]],dG:=[1,3],dD:=false}) 1),(ab 3),.bm [0,1,2,7,3] [.box [.id,.id,.id,.id,.id],.box [.id,.id,.id,.id,.id],.box [.id,.id,.id,.id],.box [.id,.id],.bD [af.mk 1 (kF.map J) .live,af.mk 1 (i7.map J) .live,af.mk 1 (i9.map J) .live]] (bY [0,6,7,8,9,10,11,12,13,14,15,37,38,39,54,55,66,67,68]),(F5 cZ cD eb gJ gm a3 hj aZ.1 aZ.2 gG gL hY hX (len_ ev eb) dP dF jl jk (if hj=0 then hY else hX) (if hj=0 then hX else hY) i7 i9 bp).gC,.aE (ae 8 (ai .dh [])),(ab 2),.bm [0,1,2,3] [.box [.id,.id,.id,.id,.id],.box [.id,.id,.len ((bp.set (aZ.1+cc.toNat) 1).length),.id,.id],.box [.id,.id,.id,.id],.bD [af.mk 1 ((bp.set (aZ.1+cc.toNat) 1).map J) .live,af.mk 1 (i7.map J) .live,af.mk 1 (i9.map J) .live]] (bY [0,6,7,8,9,10,11,12,37,38,39,54,55])] (.bj o R.1 R.2 (iK (oV [1,3]) 5 [aW] [bk] rfl) (i4 5 [bk]) (eM (fM (oV [1,3]) 1 fN kF) (eM (fM (oV [1,3]) 1 fN i7) (eM (fM (oV [1,3]) 1 fN i9) (kE (b7:=(oV [1,3])))))) ((lj rfl (lj rfl (lj rfl x2))):nv [af.mk 1 (kF.map J) .live,af.mk 1 (i7.map J) .live,af.mk 1 (i9.map J) .live]) (iK (hN [1,3]) 5 [bk] [aW] rfl) (.bj (i4 5 [aW]) (eM (fM (hN [1,3]) 1 fN kF) (eM (fM (hN [1,3]) 1 fN i7) (eM (fM (hN [1,3]) 1 fN i9) (kE (b7:=(hN [1,3])))))) ((lj rfl (lj rfl (lj rfl x2))):nv [af.mk 1 (kF.map J) .live,af.mk 1 (i7.map J) .live,af.mk 1 (i9.map J) .live]) (Uc aZ aD) (eM (fM cV 1 fN kF) (eM (fM cV 1 fN i7) (eM (fM cV 1 fN i9) (kE (b7:=cV))))) (SV bq) bQ.1 bQ.2 (.dn (hR J bn) (hG 1) (gZ (fq bp) (aZ.1+cc.toNat) 1) (eM (tC (b7:=d5) 1 .live J (gE (el J bp) (aZ.1+cc.toNat) 1) (oB fN)) (eM (fM d5 1 fN i7) (eM (fM d5 1 fN i9) (kE (b7:=d5))))))))))
  (fun o =>
  .ret (let fB:=c8 [0,1,3];b0 [(ab 1),.al false,.bm [0,1,3] [.box [.id,.id,.id,.id,.id],.box [.id,.id,.id,.id,.id],.bD [af.mk 1 (kF.map J) .live,af.mk 1 (i7.map J) .live,af.mk 1 (i9.map J) .live]] (bY [0,6,7,8,9,10,37,38,39])] (.aC o (eM (fM fB 1 fN kF) (eM (fM fB 1 fN i7) (eM (fM fB 1 fN i9) (kE (b7:=fB))))))))
theorem SW {cZ:List aU}{cD:List a5}{eb:List d8}{gJ gm a3:Int}{gG:List bu}{gL hY hX dP dF jl jk:Int}{i7 i9:List Int}{hj:Int}{kF:List Int}{r} (h:Cz cZ cD eb gJ gm a3 gG gL hY hX dP dF jl jk i7 i9 hj kF=some r):fH bx 116 0 17 [1,1,1,1,0,1,0,0,1,1,0,0,1,1,0,0] (F0 cZ cD eb gJ gm a3 gG gL hY hX dP dF jl jk i7 i9) (F6 cZ cD eb gJ gm a3 gG gL hY hX dP dF jl jk i7 i9) (hj,kF) r:=fI (fun _=>SK) h
def F1 (cZ:List aU)(cD:List a5)(eb:List d8)(gJ gm:Int)(gG:List bu)(gL dP dF:Int)(k6 k7:List Int):(Int×(List Int))→S:=fun (nV,nS)=>e2 [(0,.eu 2 [[.isl 4 (cZ.map dJ),.isl 3 (cD.map db)]] 0 0),(6,.ref 0 0 0 0),(7,.isl 2 (eb.map ev)),(8,.ref 1 0 0 0),(9,.n .i64 gJ),(10,.n .i64 gm),(37,.isl 4 (gG.map cG)),(38,.n .i64 gL),(39,.n .i64 nV)] [[af.mk 5 [[.n .i64 (0:Int),.n .i64 (0:Int),.ex,.ex,.ex]] .live],[af.mk 5 [(fA dP dF 2 0 0 nS.length 2 1 0 k6.length 2 2 0 k7.length)] .live],[af.mk 1 (nS.map J) .live,af.mk 1 (k6.map J) .live,af.mk 1 (k7.map J) .live]]
def F7 (cZ:List aU)(cD:List a5)(eb:List d8)(gJ gm:Int)(gG:List bu)(gL dP dF:Int)(k6 k7:List Int):(List Int)→e5
 | a=>⟨some 0,[(6,.ref 0 0 0 0),(8,.ref 1 0 0 0)],[[af.mk 5 [[.n .i64 (0:Int),.n .i64 (0:Int),.ex,.ex,.ex]] .live],[af.mk 5 [(fA dP dF 2 0 0 a.length 2 1 0 k6.length 2 2 0 k7.length)] .live],[af.mk 1 (a.map J) .live,af.mk 1 (k6.map J) .live,af.mk 1 (k7.map J) .live]]⟩
def wJ (cZ:List aU)(cD:List a5)(eb:List d8)(gJ gm:Int)(gG:List bu)(gL dP dF:Int)(k6 k7:List Int)(nV:Int)(nS:List Int):Option ((Int×(List Int))⊕((List Int))) :=
 if (decide (nV<gL))=true then
  if 0≤nV∧nV<gG.length then
  gG[nV.toNat]? >>= fun aO =>
  Cz cZ cD eb gJ gm nV gG gL aO.c0 aO.c1 dP dF aO.dW aO.dX k6 k7 0 nS >>= fun bp =>
  some (.inl (U (nV+(1:Int)),bp))
  else none
 else
  some (.inr nS)
def Gi (cZ:List aU)(cD:List a5)(eb:List d8)(gJ gm:Int)(gG:List bu)(gL dP dF:Int)(k6 k7:List Int)(nV:Int)(nS:List Int):Option ((List Int)):=iter (fun w:Int×(List Int)=>wJ cZ cD eb gJ gm gG gL dP dF k6 k7 w.1 w.2) (nV,nS)
theorem SL {cZ:List aU}{cD:List a5}{eb:List d8}{gJ gm:Int}{gG:List bu}{gL dP dF:Int}{k6 k7:List Int}{nV:Int}{nS:List Int}:b4 (wJ cZ cD eb gJ gm gG gL dP dF k6 k7 nV nS) (fG bx 116 0 17 [1,1,1,1,0,1,0,0] (F1 cZ cD eb gJ gm gG gL dP dF k6 k7 (nV,nS)) (F1 cZ cD eb gJ gm gG gL dP dF k6 k7) (F7 cZ cD eb gJ gm gG gL dP dF k6 k7)):=by
 unfold wJ
 exact .ite (fun o =>
  .bl fun R =>
  .az fun aO aD =>
  .az fun bp bq =>
  .ret (let aW:=c8 [0,1,7,2];let bk:=c8 [0,1,2];b0 [(ab 1),.al true,.aE (bT 2 (.cq (cG aO)) 3),(ab 12),.bm [0,1,7,2] [.box [.id,.id,.id,.id,.id],.box [.id,.id,.id,.id,.id],.box [.id,.id,.id,.id],.bD [af.mk 1 (nS.map J) .live,af.mk 1 (k6.map J) .live,af.mk 1 (k7.map J) .live]] (bY [0,6,7,8,9,10,11,12,37,38,39,54,55]),(F6 cZ cD eb gJ gm nV gG gL aO.c0 aO.c1 dP dF aO.dW aO.dX k6 k7 bp).gC,(ab 2),.bm [0,1,2] [.box [.id,.id,.id,.id,.id],.box [.id,.id,.id,.id,.id],.bD [af.mk 1 (bp.map J) .live,af.mk 1 (k6.map J) .live,af.mk 1 (k7.map J) .live]] (bY [0,6,7,8,9,10,37,38,39])] (.ff o R.1 (en cG R.2) (cz cG aD) (eM (fM aW 1 fN nS) (eM (fM aW 1 fN k6) (eM (fM aW 1 fN k7) (kE (b7:=aW))))) (SW bq) (eM (fM bk 1 fN bp) (eM (fM bk 1 fN k6) (eM (fM bk 1 fN k7) (kE (b7:=bk))))))))
  (fun o =>
  .ret (let cc:=c8 [0,1,2];b0 [(ab 1),.al false,.bm [0,1,2] [.box [.id,.id,.id,.id,.id],.box [.id,.id,.id,.id,.id],.bD [af.mk 1 (nS.map J) .live,af.mk 1 (k6.map J) .live,af.mk 1 (k7.map J) .live]] (bY [6,8])] (.aC o (eM (fM cc 1 fN nS) (eM (fM cc 1 fN k6) (eM (fM cc 1 fN k7) (kE (b7:=cc))))))))
theorem SX {cZ:List aU}{cD:List a5}{eb:List d8}{gJ gm:Int}{gG:List bu}{gL dP dF:Int}{k6 k7:List Int}{nV:Int}{nS:List Int}{r} (h:Gi cZ cD eb gJ gm gG gL dP dF k6 k7 nV nS=some r):fH bx 116 0 17 [1,1,1,1,0,1,0,0] (F1 cZ cD eb gJ gm gG gL dP dF k6 k7) (F7 cZ cD eb gJ gm gG gL dP dF k6 k7) (nV,nS) r:=fI (fun _=>SL) h
def zu (aI:ca)(cy:List Int)(fm:List bu):Option (Int×Int×(List Int)×(List Int)×(List Int)) :=
 tH aI >>= fun an =>
 uP aI cy (U ((2:Int)*(len_ cG fm))) (U ((2:Int)*(len_ cG fm))) >>= fun aZ =>
 Gi aI.c7 aI.b2 an (U (aZ.1-(U ((2:Int)*(len_ cG fm))))) (len_ ev an) fm (len_ cG fm) aZ.1 aZ.2.1 aZ.2.2.2.1 aZ.2.2.2.2 0 aZ.2.2.1 >>= fun bp =>
 some (aZ.1,aZ.2.1,bp,aZ.2.2.2.1,aZ.2.2.2.2)
theorem S9 {aI:ca}{cy:List Int}{fm:List bu}:b4 (zu aI cy fm) (fun a=>Con bx 17 [.eu 2 [(ga aI)] 0 0,.isl 1 (cy.map J),.isl 4 (fm.map cG)] [] (.agg (fA a.1 a.2.1 0 0 0 a.2.2.1.length 0 1 0 a.2.2.2.1.length 0 2 0 a.2.2.2.2.length)) [[af.mk 1 (a.2.2.1.map J) .live,af.mk 1 (a.2.2.2.1.map J) .live,af.mk 1 (a.2.2.2.2.map J) .live]]):=by
 unfold zu
 exact .az fun an R =>
  .az fun aZ aD =>
  .az fun bp bq =>
  .ret (let aW:=c8 [0,13,12];i1 [(ab 1),.aE (bT 1 (bA 1 (.isl 2 (an.map ev)) false) 1),.aE (bT 8 (.call {aQ:=[],cO:=[],ac:=[ii,ii,ii,ii],r:= .agg (fA aZ.1 aZ.2.1 0 0 0 aZ.2.2.1.length 0 1 0 aZ.2.2.2.1.length 0 2 0 aZ.2.2.2.2.length),d4:=[[af.mk 1 (aZ.2.2.1.map J) .live,af.mk 1 (aZ.2.2.2.1.map J) .live,af.mk 1 (aZ.2.2.2.2.map J) .live]],fu:= .bE (.agg [.id,.id,.id,.id,.id]),gd:=[.bD [af.mk 1 (aZ.2.2.1.map J) .live,af.mk 1 (aZ.2.2.2.1.map J) .live,af.mk 1 (aZ.2.2.2.2.map J) .live]],dG:=[],dD:=true}) 2),(ab 10),(ab 3),.bm [0,13,12] [.box [.id,.id,.id,.id,.id],.box [.id,.id,.id,.id,.id],.bD [af.mk 1 (aZ.2.2.1.map J) .live,af.mk 1 (aZ.2.2.2.1.map J) .live,af.mk 1 (aZ.2.2.2.2.map J) .live]] (bY [0,6,7,8,9,10,37,38,39]),(F7 aI.c7 aI.b2 an (U (aZ.1-(U ((2:Int)*(len_ cG fm))))) (len_ ev an) fm (len_ cG fm) aZ.1 aZ.2.1 aZ.2.2.2.1 aZ.2.2.2.2 bp).gC,(ab 2)] [2] [.bD [af.mk 1 (bp.map J) .live,af.mk 1 (aZ.2.2.2.1.map J) .live,af.mk 1 (aZ.2.2.2.2.map J) .live]] (.bj (CJ an R) (eM (fM (hN [12]) 1 fN aZ.2.2.1) (eM (fM (hN [12]) 1 fN aZ.2.2.2.1) (eM (fM (hN [12]) 1 fN aZ.2.2.2.2) (kE (b7:=(hN [12])))))) ((lj rfl (lj rfl (lj rfl x2))):nv [af.mk 1 (aZ.2.2.1.map J) .live,af.mk 1 (aZ.2.2.2.1.map J) .live,af.mk 1 (aZ.2.2.2.2.map J) .live]) (Mm aZ aD) (cf.agg (mr (cf.n .i64 aZ.1) (mr (cf.n .i64 aZ.2.1) (mr (cf.bF 0 0 0 aZ.2.2.1.length) (mr (cf.bF 0 1 0 aZ.2.2.2.1.length) (mr (cf.bF 0 2 0 aZ.2.2.2.2.length) ym)))))) ((Am (rs (qR rC) (rs (qR rC) (rs (qR rC) Ay))) Ax):sm [[af.mk 1 (aZ.2.2.1.map J) .live,af.mk 1 (aZ.2.2.2.1.map J) .live,af.mk 1 (aZ.2.2.2.2.map J) .live]]) (eM (fM aW 1 fN aZ.2.2.1) (eM (fM aW 1 fN aZ.2.2.2.1) (eM (fM aW 1 fN aZ.2.2.2.2) (kE (b7:=aW))))) (SX bq) (.aw (eM (fM (c8 [2]) 1 fN bp) (eM (fM (c8 [2]) 1 fN aZ.2.2.2.1) (eM (fM (c8 [2]) 1 fN aZ.2.2.2.2) (kE (b7:=(c8 [2])))))))) (.bE (.agg [.id,.id,.id,.id,.id])))
def Hd:(Int×(List Int))→S:=fun (bc,au)=>e2 [(0,.n .u64 bc),(3,.bF 0 0 0 au.length)] [(ay 1 J au)]
def Hy:(List Int)→e5
 | a=>⟨some 0,[(3,.bF 0 0 0 a.length)],[(ay 1 J a)]⟩
def w8 (bc:Int)(au:List Int):Option ((Int×(List Int))⊕((List Int))) :=
 if (decide ((0:Int)<bc))=true then
  if (au++([IntKind.wrap .i64 (bc.tmod (1000000000:Int))]:List Int)).length*8≤140737488355328 then
  some (.inl (IntKind.wrap .u64 (bc.tdiv (1000000000:Int)),au++([IntKind.wrap .i64 (bc.tmod (1000000000:Int))]:List Int)))
  else none
 else
  some (.inr au)
def Iq (bc:Int)(au:List Int):Option ((List Int)):=iter (fun w:Int×(List Int)=>w8 w.1 w.2) (bc,au)
theorem TL {bc:Int}{au:List Int}:b4 (w8 bc au) (fG bx 15 0 80 [1,1,0,0,0] (Hd (bc,au)) (Hd) (Hy)):=by
 unfold w8
 exact .ite (fun o =>
  .bl fun R =>
  .ret (let aW:=(au++([(IntKind.wrap .i64 (bc.tmod (1000000000:Int)))]:List Int));b0 [(ab 2),.al true,.aE (bT 5 (.aY (aW.length)) 1),(ab 3),.bm [8] [.eg (ay 1 J aW)] (bY [0,3])] (.bj o (by decide:(1000000000:Int)≠0) (kO J (IntKind.wrap .i64 (bc.tmod (1000000000:Int)))) (sv J au) (oi J au (IntKind.wrap .i64 (bc.tmod (1000000000:Int)))) R (by decide:(1000000000:Int)≠0) (e6 1 .live (sw J au (IntKind.wrap .i64 (bc.tmod (1000000000:Int))))) (.aw (aG 1 .live aF aW)))))
  (fun o =>
  .ret (b0 [(ab 2),.al false,.bm [0] [.pure] (bY [3])] (.aC o (aG 1 .live aF au))))
theorem Uv {bc:Int}{au:List Int}{r} (h:Iq bc au=some r):fH bx 15 0 80 [1,1,0,0,0] (Hd) (Hy) (bc,au) r:=fI (fun _=>TL) h
def u4 (bc:Int):Option (List Int) :=
 Iq bc ([]:List Int) >>= fun an =>
 some an
theorem Ir {bc:Int}:b4 (u4 bc) (fun r=>Con bx 80 [.n .u64 bc] [] (.isl 1 (r.map J)) []):=by
 unfold u4
 exact .az fun an R =>
  .ret (bM [(ab 1),(ab 1),.uj 3 1,.bm [2] [.eg (ay 1 J ([]:List Int))] [(0,ii),(3,ha (([]:List Int).length))],(Hy an).gC,(ab 2)] (.ff (e6 1 .live (tD J)) (aG 1 .live aF ([]:List Int)) (nm Int) (Uv R) (lh J an) (kp J an) (d3 aF an)) (.bE (.cx (.eU (an.map J)))))
def lI (EJ:Bool)(yy:List Int):Option bg :=
 if EJ=true then
  some (⟨(decide ((0:Int)<(len_ J yy))),yy⟩:bg)
 else
  some (⟨false,yy⟩:bg)
theorem r6 {EJ:Bool}{yy:List Int}:b4 (lI EJ yy) (fun r=>Con bx 79 [.b EJ,.isl 1 (yy.map J)] [] (.agg (aN r)) []):=by
 unfold lI
 exact .ite (fun o =>
  .ret (bM [(ab 1),.aE (bT 5 (.al true) 3)] (.dn o o o o)))
  (fun o =>
  .ret (bM [(ab 1),.aE (ae 2 (cw 3 (ai (.al false) (ae 3 []))))] (.dn o o o o)))
def oq (bc:Int):Option bg :=
 if (decide (bc<(0:Int)))=true then
  u4 (IntKind.wrap .u64 ((IntKind.wrap .u64 (U (0-(U (bc+(1:Int))))))+(1:Int))) >>= fun cb =>
  lI true cb >>= fun bz =>
  some bz
 else
  u4 (IntKind.wrap .u64 bc) >>= fun cb =>
  lI false cb >>= fun bz =>
  some bz
theorem r2 {bc:Int}:b4 (oq bc) (fun r=>Con bx 56 [.n .i64 bc] [] (.agg (aN r)) []):=by
 unfold oq
 exact .ite (fun o =>
  .az fun cb ad =>
  .az fun bz aM =>
  .ret (bM [(ab 1),(ab 2),.al true,.aE (ae 5 (ai (bA 1 (.isl 1 (cb.map J)) false) (ai (bA 2 (.agg (aN bz)) false) (ae 1 []))))] (.b1 o (Ir cb ad) (r6 bz aM))))
  (fun o =>
  .az fun cb ad =>
  .az fun bz aM =>
  .ret (bM [(ab 1),(ab 2),.al false,.aE (ae 2 (ai (bA 1 (.isl 1 (cb.map J)) false) (ai (bA 2 (.agg (aN bz)) false) (ae 1 []))))] (.b1 o (Ir cb ad) (r6 bz aM))))
def CV (a3 cg cH:Int)(cW e3 dg:List Int):Option (Nat×Nat) :=
 if 0≤(U (a3*cH)) then
 if 0≤(U ((U (a3+(1:Int)))*cH)) then
 if (U (a3*cH)).toNat≤(U ((U (a3+(1:Int)))*cH)).toNat∧(U ((U (a3+(1:Int)))*cH)).toNat≤cW.length then
 some ((0+(U (a3*cH)).toNat),((U ((U (a3+(1:Int)))*cH)).toNat-(U (a3*cH)).toNat))
 else none
 else none
 else none
theorem Mz {a3 cg cH:Int}{cW e3 dg:List Int}:b4 (CV a3 cg cH cW e3 dg) (fun a=>Con bx 41 [.ref 0 0 0 0,.n .i64 a3] [[af.mk 5 [(fA cg cH 1 0 0 cW.length 2 0 0 e3.length 3 0 0 dg.length)] .live],(ay 1 J cW),(ay 1 J e3),(ay 1 J dg)] (.bF 1 0 a.1 a.2) [[af.mk 5 [(fA cg cH 1 0 0 cW.length 2 0 0 e3.length 3 0 0 dg.length)] .live],(ay 1 J cW),(ay 1 J e3),(ay 1 J dg)]):=by
 unfold CV
 exact .bl fun o =>
  .bl fun R =>
  .bl fun ad =>
  .ret (let aW:=fA cg cH 1 0 0 cW.length 2 0 0 e3.length 3 0 0 dg.length;i1 [(ab 1),(ab 19)] [0,1,2,3] [.bD [af.mk 5 [aW] .live],.pure,.pure,.pure] (.gX o R ad.1 ad.2 (iK (c8 [0,1,2,3]) 5 [aW] [aW] rfl) (aG 1 .live aF cW) (aG 1 .live aF e3) (aG 1 .live aF dg)))
def Is (aI:List Int)(df ez:Int):Int→S:=fun eI=>e2 [(0,.isl 1 (aI.map J)),(1,.n .i64 df),(7,.n .i64 ez),(8,.n .i64 eI)] []
def M8 (aI:List Int)(df ez:Int):((Unit)⊕(Int))→e5
 | .inl a=>⟨some 0,[],[]⟩
 | .inr a=>⟨none,[(4,.n .i64 a)],[]⟩
def xx (aI:List Int)(df ez eI:Int):Option ((Int)⊕((Unit)⊕(Int))) :=
 if (decide (eI<ez))=true then
  if 0≤eI∧eI<aI.length then
  aI[eI.toNat]? >>= fun aO =>
  if (df == aO)=true then
   some (.inr (.inr eI))
  else
   some (.inl (U (eI+(1:Int))))
  else none
 else
  some (.inr (.inl ()))
def Jc (aI:List Int)(df ez eI:Int):Option ((Unit)⊕(Int)):=iter (fun w:Int=>xx aI df ez w) eI
theorem Uw {aI:List Int}{df ez eI:Int}:b4 (xx aI df ez eI) (fG bx 19 0 98 [1,0,1,0,0] (Is aI df ez eI) (Is aI df ez) (M8 aI df ez)):=by
 unfold xx
 exact .ite (fun o =>
  .bl fun R =>
  .az fun aO aD =>
  (let t1:List cL:=[(ab 1),.al true,(ab 2),.aE (bT 4 (.cq (J aO)) 1)];
  have a9:=((.dn o R.1 (en J R.2) (cz J aD)):c3 _);
  .ite (fun aM =>
  .ret (b0 (t1.append [.al true,(ab 2),.bm [] [] (bY [4])]) (a9.aY (.aw aM))))
  (fun aM =>
  .ret (b0 (t1.append [.al false,(ab 2),.bm [] [] (bY [0,1,7,8])]) (a9.aY (.aw aM))))))
  (fun o =>
  .ret (b0 [(ab 1),.al false,.bm [] [] []] (.aw o)))
theorem Nh {aI:List Int}{df ez eI:Int}{r} (h:Jc aI df ez eI=some r):fH bx 19 0 98 [1,0,1,0,0] (Is aI df ez) (M8 aI df ez) eI r:=fI (fun _=>Uw) h
def El (aI:List Int)(df:Int):Option Int :=
 Jc aI df (len_ J aI) 0 >>= fun an =>
 match an with
 | .inl bI=>(some (-1))
 | .inr bI=>(some bI)
theorem Wu {aI:List Int}{df:Int}:b4 (El aI df) (fun r=>Con bx 98 [.isl 1 (aI.map J),.n .i64 df] [] (.n .i64 r) []):=by
 unfold El
 exact .az fun an R =>
  (let t1:List cL:=[(ab 1),(ab 3),.bm [] [] (bY [0,1,7,8])];
  (by
  rcases an with bI|bI
  ·exact (.ret (bM (t1.append [.sub (.exit 0) [] [],(ab 1)]) (.aw (Nh R))))
  ·exact (.ret (bM (t1.append [.sub (.ret) [(4,.n .i64 bI)] []]) (.aw (Nh R))))))
def xQ (aI:List Int)(df:Int):Option Bool :=
 El aI df >>= fun an =>
 some (decide ((0:Int)≤an))
theorem Ni {aI:List Int}{df:Int}:b4 (xQ aI df) (fun r=>Con bx 85 [.isl 1 (aI.map J),.n .i64 df] [] (.b r) []):=by
 unfold xQ
 exact .az fun an R =>
  .ret (bM [(ab 1),.aE (bT 2 (bA 2 (.n .i64 an) true) 2)] (.aC (Wu an R) (cf.n .i64 an)))
def H4:(List Int)→S:=fun a7=>e2 [(0,.isl 1 (a7.map J))] []
def Ih:(List Int)→e5
 | a=>⟨some 0,[(0,.isl 1 (a.map J))],[]⟩
def xr (a7:List Int):Option (((List Int))⊕((List Int))) :=
 if (decide ((0:Int)<(len_ J a7)))=true then
  if 0≤(U ((len_ J a7)-(1:Int)))∧(U ((len_ J a7)-(1:Int)))<a7.length then
  a7[(U ((len_ J a7)-(1:Int))).toNat]? >>= fun aO =>
  if (aO == (0:Int))=true then
   if 0≤(U ((len_ J a7)-(1:Int))) then
   if 0≤(U ((len_ J a7)-(1:Int))).toNat∧(U ((len_ J a7)-(1:Int))).toNat≤a7.length then
   some (.inl ((a7.drop 0).take ((U ((len_ J a7)-(1:Int))).toNat-0)))
   else none
   else none
  else
   some (.inr a7)
  else none
 else
  some (.inr a7)
def IQ (a7:List Int):Option ((List Int)):=iter (fun w:(List Int)=>xr w) a7
theorem Uj {a7:List Int}:b4 (xr a7) (fG bx 21 0 97 [1,0,0,0] (H4 a7) (H4) (Ih)):=by
 unfold xr
 exact .ite (fun o =>
  .bl fun R =>
  .az fun aO aD =>
  (let t1:List cL:=[.aE (ae 9 (ai (.cq (J aO)) (ae 1 (ai (.al true) []))))];
  have a9:=((.bj o o o o o R.1 (en J R.2) o (.b1 (cz J aD) o o)):c3 _);
  .ite (fun aM =>
  .bl fun bq =>
  .bl fun bQ =>
  .ret (let aW:=(U ((len_ J a7)-(1:Int)));b0 (t1.append [.al true,(ab 6),.bm [] [] [(0,.bE (.cx (.eg (.isl 1 (((a7.drop 0).take (aW.toNat-0)).map J)))))]]) (a9.aY (.dr aM bq bQ.1 (tR (el J a7) bQ.2) (congrArg (ax.isl 1) (pN (el J a7) 0 (aW.toNat-0)):(.isl 1 (((a7.map J).drop 0).take (aW.toNat-0)):ax) = .isl 1 (((a7.drop 0).take (aW.toNat-0)).map J))))))
  (fun aM =>
  .ret (b0 (t1.append [.al false,.bm [] [] (bY [0])]) (a9.aY (.aw aM))))))
  (fun o =>
  .ret (b0 [.aE (ae 4 (cw 7 (ai (.al false) []))),.al false,.bm [] [] (bY [0])] (.bj o o o o o o o o (.aw dU))))
theorem U9 {a7:List Int}{r} (h:IQ a7=some r):fH bx 21 0 97 [1,0,0,0] (H4) (Ih) a7 r:=fI (fun _=>Uj) h
def qL (a7:List Int):Option (List Int) :=
 IQ a7 >>= fun an =>
 some an
theorem u5 {a7:List Int}:b4 (qL a7) (fun r=>Con bx 97 [.isl 1 (a7.map J)] [] (.isl 1 (r.map J)) []):=by
 unfold qL
 exact .az fun an R =>
  .ret (bM [(ab 1),.bm [] [] (bY [0]),(Ih an).gC,(ab 2)] (.aw (U9 R)))
def HQ (aV:List Int)(a3 bc:Int)(dy:List Int)(dK d7:Int):(Int×Int×(List Int))→S:=fun (ew,dx,au)=>e2 [(1,.isl 1 (aV.map J)),(5,.bF 0 0 0 au.length),(6,.n .i64 a3),(7,.n .i64 bc),(8,.n .i64 ew),(26,.isl 1 (dy.map J)),(27,.n .i64 dK),(28,.n .i64 a3),(33,.isl 1 (aV.map J)),(34,.n .i64 d7),(35,.n .i64 dx)] [(ay 1 J au)]
def H5 (aV:List Int)(a3 bc:Int)(dy:List Int)(dK d7:Int):(Int×(List Int))→e5
 | a=>⟨some 2,[(1,.isl 1 (aV.map J)),(5,.bF 0 0 0 a.2.length),(6,.n .i64 a3),(8,.n .i64 a.1),(26,.isl 1 (dy.map J)),(27,.n .i64 dK),(28,.n .i64 a3)],[(ay 1 J a.2)]⟩
def HR (aV:List Int)(a3 bc:Int)(dy:List Int)(dK d7 ew dx:Int)(au:List Int):Option ((Int×Int×(List Int))⊕(Int×(List Int))) :=
 if (decide (dx<d7))=true then
  if 0≤dx∧dx<aV.length then
  aV[dx.toNat]? >>= fun aO =>
  if 0≤(U (a3+dx))∧(U (a3+dx))<(au.length:Nat) then
  au[(0+(U (a3+dx)).toNat)]? >>= fun bO =>
  if (0+(U (a3+dx)).toNat)<au.length then
  some (.inl (U ((U ((U (bO+(U (bc*aO))))+ew)).tdiv (1000000000:Int)),U (dx+(1:Int)),au.set (0+(U (a3+dx)).toNat) ((U ((U (bO+(U (bc*aO))))+ew)).tmod (1000000000:Int))))
  else none
  else none
  else none
 else
  some (.inr (ew,au))
def Nj (aV:List Int)(a3 bc:Int)(dy:List Int)(dK d7 ew dx:Int)(au:List Int):Option (Int×(List Int)):=iter (fun w:Int×Int×(List Int)=>HR aV a3 bc dy dK d7 w.1 w.2.1 w.2.2) (ew,dx,au)
theorem Ud {aV:List Int}{a3 bc:Int}{dy:List Int}{dK d7 ew dx:Int}{au:List Int}:b4 (HR aV a3 bc dy dK d7 ew dx au) (fG bx 72 0 78 [1,1,1,0,1,0,0,1,1,0,0,1,1,0,1,0,0] (HQ aV a3 bc dy dK d7 (ew,dx,au)) (HQ aV a3 bc dy dK d7) (H5 aV a3 bc dy dK d7)):=by
 unfold HR
 exact .ite (fun o =>
  .bl fun R =>
  .az fun aO aD =>
  .bl fun aM =>
  .az fun bO bQ =>
  .bl fun bn =>
  .ret (let aW:=U ((U (bO+(U (bc*aO))))+ew);let bk:=U (a3+dx);b0 [(ab 1),.al true,.aE (bT 2 (.cq (J aO)) 2),.aE (bT 5 (.cq (J bO)) 7),.aE (bT 9 .dh 1),(ab 2),.bm [0] [.eg (ay 1 J (au.set (0+bk.toNat) (aW.tmod (1000000000:Int))))] [(1,ii),(5,ha ((au.set (0+bk.toNat) (aW.tmod (1000000000:Int))).length)),(6,ii),(7,ii),(8,ii),(26,ii),(27,ii),(28,ii),(33,ii),(34,ii),(35,ii)]] (.bj o R.1 (en J R.2) (cz J aD) aM.1 aM.2 (cz J bQ) (by decide:(1000000000:Int)≠0) (.gX (by decide:(1000000000:Int)≠0) aM.1 aM.2 (hR J bn) (hG 1) (e6 1 .live (gE (el J au) (0+bk.toNat) (aW.tmod (1000000000:Int)))) (aG 1 .live aF (au.set (0+bk.toNat) (aW.tmod (1000000000:Int)))) (gZ (fq au) (0+bk.toNat) (aW.tmod (1000000000:Int)))))))
  (fun o =>
  .ret (b0 [(ab 1),.al false,.bm [0] [.pure] (bY [1,5,6,8,26,27,28])] (.aC o (aG 1 .live aF au))))
theorem UX {aV:List Int}{a3 bc:Int}{dy:List Int}{dK d7 ew dx:Int}{au:List Int}{r} (h:Nj aV a3 bc dy dK d7 ew dx au=some r):fH bx 72 0 78 [1,1,1,0,1,0,0,1,1,0,0,1,1,0,1,0,0] (HQ aV a3 bc dy dK d7) (H5 aV a3 bc dy dK d7) (ew,dx,au) r:=fI (fun _=>Ud) h
def HS (aV dy:List Int)(dK:Int):(Int×(List Int))→S:=fun (eN,au)=>e2 [(1,.isl 1 (aV.map J)),(5,.bF 0 0 0 au.length),(26,.isl 1 (dy.map J)),(27,.n .i64 dK),(28,.n .i64 eN)] [(ay 1 J au)]
def H6 (aV dy:List Int)(dK:Int):(List Int)→e5
 | a=>⟨some 0,[(5,.bF 0 0 0 a.length)],[(ay 1 J a)]⟩
def HT (aV dy:List Int)(dK eN:Int)(au:List Int):Option ((Int×(List Int))⊕((List Int))) :=
 if (decide (eN<dK))=true then
  if 0≤eN∧eN<dy.length then
  dy[eN.toNat]? >>= fun aO =>
  Nj aV eN aO dy dK (len_ J aV) 0 0 au >>= fun bp =>
  if 0≤(U (eN+(len_ J aV)))∧(U (eN+(len_ J aV)))<(bp.2.length:Nat) then
  if (0+(U (eN+(len_ J aV))).toNat)<bp.2.length then
  some (.inl (U (eN+(1:Int)),bp.2.set (0+(U (eN+(len_ J aV))).toNat) bp.1))
  else none
  else none
  else none
 else
  some (.inr au)
def IE (aV dy:List Int)(dK eN:Int)(au:List Int):Option ((List Int)):=iter (fun w:Int×(List Int)=>HT aV dy dK w.1 w.2) (eN,au)
theorem Ue {aV dy:List Int}{dK eN:Int}{au:List Int}:b4 (HT aV dy dK eN au) (fG bx 72 0 78 [1,1,1,0,1,0,0] (HS aV dy dK (eN,au)) (HS aV dy dK) (H6 aV dy dK)):=by
 unfold HT
 exact .ite (fun o =>
  .bl fun R =>
  .az fun aO aD =>
  .az fun bp bq =>
  .bl fun bQ =>
  .bl fun bn =>
  .ret (let aW:=U (eN+(len_ J aV));b0 [(ab 1),.al true,.aE (bT 2 (.cq (J aO)) 2),(ab 1),(ab 3),.bm [0] [.pure] (bY [1,5,6,7,8,26,27,28,33,34,35]),(H5 aV eN aO dy dK (len_ J aV) bp).gC,.aE (ae 7 (ai .dh [])),(ab 2),.bm [0] [.eg (ay 1 J (bp.2.set (0+aW.toNat) bp.1))] [(1,ii),(5,ha ((bp.2.set (0+aW.toNat) bp.1).length)),(26,ii),(27,ii),(28,ii)]] (.bj o R.1 (en J R.2) (cz J aD) (aG 1 .live aF au) (UX bq) bQ.1 bQ.2 (.dr (hR J bn) (hG 1) (e6 1 .live (gE (el J bp.2) (0+aW.toNat) bp.1)) (aG 1 .live aF (bp.2.set (0+aW.toNat) bp.1)) (gZ (fq bp.2) (0+aW.toNat) bp.1)))))
  (fun o =>
  .ret (b0 [(ab 1),.al false,.bm [0] [.pure] (bY [5])] (.aC o (aG 1 .live aF au))))
theorem UY {aV dy:List Int}{dK eN:Int}{au:List Int}{r} (h:IE aV dy dK eN au=some r):fH bx 72 0 78 [1,1,1,0,1,0,0] (HS aV dy dK) (H6 aV dy dK) (eN,au) r:=fI (fun _=>Ue) h
def pM (a7 aV:List Int):Option (List Int) :=
 if ((len_ J a7) == (0:Int))=true then
  some ([]:List Int)
 else
  if ((len_ J aV) == (0:Int))=true then
   some ([]:List Int)
  else
   if 0≤(U ((len_ J a7)+(len_ J aV)))∧(8:Int)*(U ((len_ J a7)+(len_ J aV)))≤281474976710656∧(U ((len_ J a7)+(len_ J aV)))<9223372036854775808 then
   IE aV a7 (len_ J a7) 0 (List.replicate (U ((len_ J a7)+(len_ J aV))).toNat 0:List Int) >>= fun bz =>
   qL bz >>= fun cT =>
   some cT
   else none
theorem zR {a7 aV:List Int}:b4 (pM a7 aV) (fun r=>Con bx 78 [.isl 1 (a7.map J),.isl 1 (aV.map J)] [] (.isl 1 (r.map J)) []):=by
 unfold pM
 exact .ite (fun o =>
  .ret (bM [(ab 1),.aE (ae 4 (cw 3 (ai (.al true) []))),.al true,(ab 1)] (.dr o o o o bP) (.bE (.cx (.lU 1)))))
  (fun o =>
  (let t1:List cL:=[(ab 1),.aE (ae 7 (ai (.al false) []))];
  .ite (fun R =>
  .ret (bM (t1.append [.al true,(ab 1)]) (.dr o o o o R) (.bE (.cx (.lU 1)))))
  (fun R =>
  .bl fun ad =>
  .az fun bz aM =>
  .az fun cT bQ =>
  .ret (let aW:=U ((len_ J a7)+(len_ J aV));let bk:=(List.replicate aW.toNat 0:List Int);bM (t1.append [.al false,(ab 7),(ab 3),.bm [14] [.eg (ay 1 J bk)] [(1,ii),(5,ha (bk.length)),(26,ii),(27,ii),(28,ii)],(H6 aV a7 (len_ J a7) bz).gC,.iC 0,.aE (bT 1 (.call {ac:=[.bE (.cx (.eU (bz.map J)))],r:= .isl 1 (cT.map J),dD:=false,dG:=[0]}) 1)]) (.bj o o o o R ad.1 (Int.le_refl aW) ad.2.1 (.bj ad.2.2 (e6 1 .live (lL J aW.toNat 0)) (aG 1 .live aF bk) (lY aW.toNat (0:Int)) (UY aM) (lh J bz) (kp J bz) (d3 aF bz) (.aw (u5 cT bQ))))))))
def o0 (b8 dL:bg):Option bg :=
 pM b8.cY dL.cY >>= fun an =>
 lI (!(b8.du == dL.du)) an >>= fun aZ =>
 some aZ
theorem uU {b8 dL:bg}:b4 (o0 b8 dL) (fun r=>Con bx 77 [.agg (aN b8),.agg (aN dL)] [] (.agg (aN r)) []):=by
 unfold o0
 exact .az fun an R =>
  .az fun aZ aD =>
  .ret (bM [(ab 3),.aE (ae 9 (ai (bA 2 (.isl 1 (an.map J)) false) (ai (bA 2 (.agg (aN aZ)) false) (ae 1 []))))] (.aC (zR an R) (r6 aZ aD)))
def o1 (b8:bg):Option Int :=
 if ((len_ J b8.cY) == (0:Int))=true then
  some 0
 else
  if b8.du=true then
   some (-1)
  else
   some 1
theorem sC {b8:bg}:b4 (o1 b8) (fun r=>Con bx 53 [.agg (aN b8)] [] (.n .i64 r) []):=by
 unfold o1
 exact .ite (fun o =>
  .ret (bM [(ab 2),(ab 5),.al true,(ab 1)] (.aw o)))
  (fun o =>
  (let t1:List cL:=[(ab 2),(ab 5),.al false,(ab 3)];
  .ite (fun R =>
  .ret (bM (t1.append [.al true,(ab 1)]) (.aC o R)))
  (fun R =>
  .ret (bM (t1.append [.al false,(ab 1)]) (.aC o R)))))
def p8 (b8:bg):Option bg :=
 lI (!b8.du) b8.cY >>= fun an =>
 some an
theorem CL {b8:bg}:b4 (p8 b8) (fun r=>Con bx 93 [.agg (aN b8)] [] (.agg (aN r)) []):=by
 unfold p8
 exact .az fun an R =>
  .ret (bM [(ab 2),.aE (bT 5 (bA 2 (.agg (aN an)) false) 1)] (.aw (r6 an R)))
def He (a7 aV:List Int):Int→S:=fun a3=>e2 [(0,.isl 1 (a7.map J)),(1,.isl 1 (aV.map J)),(5,.n .i64 a3)] []
def MI (a7 aV:List Int):((Unit)⊕(Int))→e5
 | .inl a=>⟨some 0,[],[]⟩
 | .inr a=>⟨none,[(4,.n .i64 a)],[]⟩
def Hf (a7 aV:List Int)(a3:Int):Option ((Int)⊕((Unit)⊕(Int))) :=
 if (decide ((0:Int)≤a3))=true then
  if 0≤a3∧a3<a7.length then
  a7[a3.toNat]? >>= fun aO =>
  if 0≤a3∧a3<aV.length then
  aV[a3.toNat]? >>= fun bO =>
  if (decide (aO<bO))=true then
   some (.inr (.inr (-1)))
  else
   if (decide (bO<aO))=true then
    some (.inr (.inr 1))
   else
    some (.inl (U (a3-(1:Int))))
  else none
  else none
 else
  some (.inr (.inl ()))
def M1 (a7 aV:List Int)(a3:Int):Option ((Unit)⊕(Int)):=iter (fun w:Int=>Hf a7 aV w) a3
theorem TM {a7 aV:List Int}{a3:Int}:b4 (Hf a7 aV a3) (fG bx 43 0 90 [1,1,0,1,0,0] (He a7 aV a3) (He a7 aV) (MI a7 aV)):=by
 unfold Hf
 exact .ite (fun o =>
  .bl fun R =>
  .az fun aO aD =>
  .bl fun aM =>
  .az fun bO bQ =>
  (let t1:List cL:=[(ab 2),.al true,.aE (ae 3 (ai (.cq (J aO)) (bT 3 (.cq (J bO)) 2)))];
  have a9:=((.ff o R.1 (en J R.2) (cz J aD) aM.1 (en J aM.2) (cz J bQ)):c3 _);
  .ite (fun bn =>
  .ret (b0 (t1.append [.al true,(ab 1),.bm [] [] (bY [4])]) (a9.aY (.aw bn))))
  (fun bn =>
  (let t3:List cL:=t1.append [.al false,.aE (ae 3 (ai (.cq (J aO)) (bT 3 (.cq (J bO)) 2)))];
  have fv:=a9.aY (.ff bn R.1 (en J R.2) (cz J aD) aM.1 (en J aM.2) (cz J bQ));
  .ite (fun cA =>
  .ret (b0 (t3.append [.al true,(ab 1),.bm [] [] (bY [4])]) (fv.aY (.aw cA))))
  (fun cA =>
  .ret (b0 (t3.append [.al false,(ab 3),.bm [] [] (bY [0,1,5])]) (fv.aY (.aw cA))))))))
  (fun o =>
  .ret (b0 [(ab 2),.al false,.bm [] [] []] (.aw o)))
theorem MN {a7 aV:List Int}{a3:Int}{r} (h:M1 a7 aV a3=some r):fH bx 43 0 90 [1,1,0,1,0,0] (He a7 aV) (MI a7 aV) a3 r:=fI (fun _=>TM) h
def p9 (a7 aV:List Int):Option Int :=
 if ((len_ J a7) != (len_ J aV))=true then
  if (decide ((len_ J a7)<(len_ J aV)))=true then
   some (-1)
  else
   some 1
 else
  M1 a7 aV (U ((len_ J a7)-(1:Int))) >>= fun cb =>
  match cb with
  | .inl gq=>(some 0)
  | .inr gq=>(some gq)
theorem xy {a7 aV:List Int}:b4 (p9 a7 aV) (fun r=>Con bx 90 [.isl 1 (a7.map J),.isl 1 (aV.map J)] [] (.n .i64 r) []):=by
 unfold p9
 exact .ite (fun o =>
  (let t1:List cL:=[(ab 1),(ab 5),.al true,(ab 5)];
  .ite (fun R =>
  .ret (bM (t1.append [.al true,(ab 1)]) (.aC o R)))
  (fun R =>
  .ret (bM (t1.append [.al false,(ab 1)]) (.aC o R)))))
  (fun o =>
  .az fun cb ad =>
  (let t1:List cL:=[(ab 1),(ab 5),.al false,(ab 4),.bm [] [] (bY [0,1,5])];
  (by
  rcases cb with gq|gq
  ·exact (.ret (bM (t1.append [.sub (.exit 0) [] [],(ab 1)]) (.aC o (MN ad))))
  ·exact (.ret (bM (t1.append [.sub (.ret) [(4,.n .i64 gq)] []]) (.aC o (MN ad)))))))
def H7 (a7 aV:List Int)(ij:Int):(Int×Int×(List Int))→S:=fun (ew,iH,au)=>e2 [(0,.isl 1 (a7.map J)),(1,.isl 1 (aV.map J)),(5,.bF 0 0 0 au.length),(6,.n .i64 ew),(20,.isl 1 (a7.map J)),(21,.n .i64 ij),(22,.n .i64 iH)] [(ay 1 J au)]
def C7 (a7 aV:List Int)(ij:Int):(Int×(List Int))→e5
 | a=>⟨some 0,[(0,.isl 1 (a7.map J)),(5,.bF 0 0 0 a.2.length),(6,.n .i64 a.1)],[(ay 1 J a.2)]⟩
def xt (a7 aV:List Int)(ij ew iH:Int)(au:List Int):Option ((Int×Int×(List Int))⊕(Int×(List Int))) :=
 if (decide (iH<ij))=true then
  if 0≤iH∧iH<a7.length then
  a7[iH.toNat]? >>= fun aO =>
  if (decide (iH<(len_ J aV)))=true then
   if 0≤iH∧iH<aV.length then
   aV[iH.toNat]? >>= fun gO =>
   if 0≤iH∧iH<(au.length:Nat) then
   if (0+iH.toNat)<au.length then
   some (.inl (U ((U ((U (aO+ew))+gO)).tdiv (1000000000:Int)),U (iH+(1:Int)),au.set (0+iH.toNat) ((U ((U (aO+ew))+gO)).tmod (1000000000:Int))))
   else none
   else none
   else none
  else
   if 0≤iH∧iH<(au.length:Nat) then
   if (0+iH.toNat)<au.length then
   some (.inl (U ((U (aO+ew)).tdiv (1000000000:Int)),U (iH+(1:Int)),au.set (0+iH.toNat) ((U (aO+ew)).tmod (1000000000:Int))))
   else none
   else none
  else none
 else
  some (.inr (ew,au))
def zX (a7 aV:List Int)(ij ew iH:Int)(au:List Int):Option (Int×(List Int)):=iter (fun w:Int×Int×(List Int)=>xt a7 aV ij w.1 w.2.1 w.2.2) (ew,iH,au)
theorem Uk {a7 aV:List Int}{ij ew iH:Int}{au:List Int}:b4 (xt a7 aV ij ew iH au) (fG bx 55 0 104 [1,1,1,1,0,1,0,0] (H7 a7 aV ij (ew,iH,au)) (H7 a7 aV ij) (C7 a7 aV ij)):=by
 unfold xt
 exact .ite (fun o =>
  .bl fun R =>
  .az fun aO aD =>
  (let t1:List cL:=[(ab 1),.al true,.aE (bT 2 (.cq (J aO)) 2),(ab 4),(ab 4)];
  have a9:=((.dn o R.1 (en J R.2) (cz J aD)):c3 _);
  .ite (fun aM =>
  .bl fun bq =>
  .az fun gO bn =>
  .bl fun cA =>
  .bl fun de =>
  .ret (let aW:=U ((U (aO+ew))+gO);b0 (t1.append [.al true,.aE (bT 4 (.cq (J gO)) 2),.aE (bT 7 .dh 1),(ab 2),.bm [0] [.eg (ay 1 J (au.set (0+iH.toNat) (aW.tmod (1000000000:Int))))] [(0,ii),(1,ii),(5,ha ((au.set (0+iH.toNat) (aW.tmod (1000000000:Int))).length)),(6,ii),(20,ii),(21,ii),(22,ii)]]) (a9.aY (.bj aM bq.1 (en J bq.2) (cz J bn) (by decide:(1000000000:Int)≠0) (by decide:(1000000000:Int)≠0) cA.1 cA.2 (.dr (hR J de) (hG 1) (e6 1 .live (gE (el J au) (0+iH.toNat) (aW.tmod (1000000000:Int)))) (aG 1 .live aF (au.set (0+iH.toNat) (aW.tmod (1000000000:Int)))) (gZ (fq au) (0+iH.toNat) (aW.tmod (1000000000:Int))))))))
  (fun aM =>
  .bl fun bq =>
  .bl fun bQ =>
  .ret (let bk:=U (aO+ew);b0 (t1.append [.al false,.aE (bT 7 .dh 1),(ab 2),.bm [0] [.eg (ay 1 J (au.set (0+iH.toNat) (bk.tmod (1000000000:Int))))] [(0,ii),(1,ii),(5,ha ((au.set (0+iH.toNat) (bk.tmod (1000000000:Int))).length)),(6,ii),(20,ii),(21,ii),(22,ii)]]) (a9.aY (.bj aM (by decide:(1000000000:Int)≠0) (by decide:(1000000000:Int)≠0) bq.1 bq.2 (hR J bQ) (hG 1) (e6 1 .live (gE (el J au) (0+iH.toNat) (bk.tmod (1000000000:Int)))) (.aC (aG 1 .live aF (au.set (0+iH.toNat) (bk.tmod (1000000000:Int)))) (gZ (fq au) (0+iH.toNat) (bk.tmod (1000000000:Int))))))))))
  (fun o =>
  .ret (b0 [(ab 1),.al false,.bm [0] [.pure] (bY [0,5,6])] (.aC o (aG 1 .live aF au))))
theorem M2 {a7 aV:List Int}{ij ew iH:Int}{au:List Int}{r} (h:zX a7 aV ij ew iH au=some r):fH bx 55 0 104 [1,1,1,1,0,1,0,0] (H7 a7 aV ij) (C7 a7 aV ij) (ew,iH,au) r:=fI (fun _=>Uk) h
def xW (a7 aV:List Int):Option (List Int) :=
 if (decide ((len_ J a7)<(len_ J aV)))=true then
  if 0≤(U ((len_ J aV)+(1:Int)))∧(8:Int)*(U ((len_ J aV)+(1:Int)))≤281474976710656∧(U ((len_ J aV)+(1:Int)))<9223372036854775808 then
  zX aV a7 (len_ J aV) 0 0 (List.replicate (U ((len_ J aV)+(1:Int))).toNat 0:List Int) >>= fun aZ =>
  if 0≤(len_ J aV)∧(len_ J aV)<(aZ.2.length:Nat) then
  if (0+(len_ J aV).toNat)<aZ.2.length then
  qL (aZ.2.set (0+(len_ J aV).toNat) aZ.1) >>= fun bH =>
  some bH
  else none
  else none
  else none
 else
  if 0≤(U ((len_ J a7)+(1:Int)))∧(8:Int)*(U ((len_ J a7)+(1:Int)))≤281474976710656∧(U ((len_ J a7)+(1:Int)))<9223372036854775808 then
  zX a7 aV (len_ J a7) 0 0 (List.replicate (U ((len_ J a7)+(1:Int))).toNat 0:List Int) >>= fun aZ =>
  if 0≤(len_ J a7)∧(len_ J a7)<(aZ.2.length:Nat) then
  if (0+(len_ J a7).toNat)<aZ.2.length then
  qL (aZ.2.set (0+(len_ J a7).toNat) aZ.1) >>= fun bH =>
  some bH
  else none
  else none
  else none
theorem VG {a7 aV:List Int}:b4 (xW a7 aV) (fun r=>Con bx 104 [.isl 1 (a7.map J),.isl 1 (aV.map J)] [] (.isl 1 (r.map J)) []):=by
 unfold xW
 exact .ite (fun o =>
  .bl fun R =>
  .az fun aZ aD =>
  .bl fun aM =>
  .bl fun bq =>
  .az fun bH bn =>
  .ret (let bk:=len_ J aV;let aW:=(U (bk+(1:Int)));let cc:=(List.replicate aW.toNat 0:List Int);let cV:=gZ (fq aZ.2) (0+bk.toNat) aZ.1;bM [(ab 1),(ab 5),.al true,(ab 4),(ab 5),(ab 1),(ab 3),.bm [13] [.eg (ay 1 J cc)] [(0,ii),(1,ii),(5,ha (cc.length)),(6,ii),(20,ii),(21,ii),(22,ii)],(C7 aV a7 bk aZ).gC,.aE (ae 5 (ai .dh [])),.iC 0,.aE (bT 1 (.call {ac:=[.bE (.cx (.eU ((aZ.2.set (0+bk.toNat) aZ.1).map J)))],r:= .isl 1 (bH.map J),dD:=false,dG:=[0]}) 1)] (.bj o R.1 (Int.le_refl aW) R.2.1 R.2.2 (e6 1 .live (lL J aW.toNat 0)) (aG 1 .live aF cc) (lY aW.toNat (0:Int)) (.bj (M2 aD) aM.1 aM.2 (hR J bq) (hG 1) (gY (gE (el J aZ.2) (0+bk.toNat) aZ.1) cV) (iV (gE (el J aZ.2) (0+bk.toNat) aZ.1) cV) (d3 aF (aZ.2.set (0+bk.toNat) aZ.1)) (.aw (u5 bH bn))))))
  (fun o =>
  .bl fun R =>
  .az fun aZ aD =>
  .bl fun aM =>
  .bl fun bq =>
  .az fun bH bn =>
  .ret (let fB:=len_ J a7;let d5:=(U (fB+(1:Int)));let hE:=(List.replicate d5.toNat 0:List Int);let fD:=gZ (fq aZ.2) (0+fB.toNat) aZ.1;bM [(ab 1),(ab 5),.al false,(ab 5),(ab 1),(ab 3),.bm [9] [.eg (ay 1 J hE)] [(0,ii),(1,ii),(5,ha (hE.length)),(6,ii),(20,ii),(21,ii),(22,ii)],(C7 a7 aV fB aZ).gC,.aE (ae 5 (ai .dh [])),.iC 0,.aE (bT 1 (.call {ac:=[.bE (.cx (.eU ((aZ.2.set (0+fB.toNat) aZ.1).map J)))],r:= .isl 1 (bH.map J),dD:=false,dG:=[0]}) 1)] (.bj o R.1 (Int.le_refl d5) R.2.1 R.2.2 (e6 1 .live (lL J d5.toNat 0)) (aG 1 .live aF hE) (lY d5.toNat (0:Int)) (.bj (M2 aD) aM.1 aM.2 (hR J bq) (hG 1) (gY (gE (el J aZ.2) (0+fB.toNat) aZ.1) fD) (iV (gE (el J aZ.2) (0+fB.toNat) aZ.1) fD) (d3 aF (aZ.2.set (0+fB.toNat) aZ.1)) (.aw (u5 bH bn))))))
def HU (aV d1:List Int)(da:Int):(Int×Int×(List Int))→S:=fun (mI,cS,au)=>e2 [(1,.isl 1 (aV.map J)),(5,.bF 0 0 0 au.length),(6,.n .i64 mI),(12,.isl 1 (d1.map J)),(13,.n .i64 da),(14,.n .i64 cS)] [(ay 1 J au)]
def H8 (aV d1:List Int)(da:Int):(List Int)→e5
 | a=>⟨some 0,[(5,.bF 0 0 0 a.length)],[(ay 1 J a)]⟩
def xo (aV d1:List Int)(da mI cS:Int)(au:List Int):Option ((Int×Int×(List Int))⊕((List Int))) :=
 if (decide (cS<da))=true then
  if 0≤cS∧cS<d1.length then
  d1[cS.toNat]? >>= fun aO =>
  if (decide (cS<(len_ J aV)))=true then
   if 0≤cS∧cS<aV.length then
   aV[cS.toNat]? >>= fun gO =>
   if (decide ((U ((U (aO-mI))-gO))<(0:Int)))=true then
    if 0≤cS∧cS<(au.length:Nat) then
    if (0+cS.toNat)<au.length then
    some (.inl (1,U (cS+(1:Int)),au.set (0+cS.toNat) (U ((U ((U (aO-mI))-gO))+(1000000000:Int)))))
    else none
    else none
   else
    if 0≤cS∧cS<(au.length:Nat) then
    if (0+cS.toNat)<au.length then
    some (.inl (0,U (cS+(1:Int)),au.set (0+cS.toNat) (U ((U (aO-mI))-gO))))
    else none
    else none
   else none
  else
   if (decide ((U (aO-mI))<(0:Int)))=true then
    if 0≤cS∧cS<(au.length:Nat) then
    if (0+cS.toNat)<au.length then
    some (.inl (1,U (cS+(1:Int)),au.set (0+cS.toNat) (U ((U (aO-mI))+(1000000000:Int)))))
    else none
    else none
   else
    if 0≤cS∧cS<(au.length:Nat) then
    if (0+cS.toNat)<au.length then
    some (.inl (0,U (cS+(1:Int)),au.set (0+cS.toNat) (U (aO-mI))))
    else none
    else none
  else none
 else
  some (.inr au)
def IF (aV d1:List Int)(da mI cS:Int)(au:List Int):Option ((List Int)):=iter (fun w:Int×Int×(List Int)=>xo aV d1 da w.1 w.2.1 w.2.2) (mI,cS,au)
theorem Uf {aV d1:List Int}{da mI cS:Int}{au:List Int}:b4 (xo aV d1 da mI cS au) (fG bx 43 0 105 [1,1,1,0,1,0,0] (HU aV d1 da (mI,cS,au)) (HU aV d1 da) (H8 aV d1 da)):=by
 unfold xo
 exact .ite (fun o =>
  .bl fun R =>
  .az fun aO aD =>
  (let t1:List cL:=[(ab 1),.al true,.aE (bT 2 (.cq (J aO)) 2),(ab 4),(ab 4)];
  have a9:=((.dn o R.1 (en J R.2) (cz J aD)):c3 _);
  .ite (fun aM =>
  .bl fun bq =>
  .az fun gO bn =>
  (let t3:List cL:=t1.append [.al true,.aE (bT 4 (.cq (J gO)) 2),(ab 1),(ab 2)];
  have fv:=a9.aY (.dn aM bq.1 (en J bq.2) (cz J bn));
  .ite (fun cA =>
  .bl fun de =>
  .bl fun cK =>
  .ret (let aW:=(U ((U ((U (aO-mI))-gO))+(1000000000:Int)));b0 (t3.append [.al true,(ab 3),(ab 1),.aE (ae 4 (ai .dh [])),(ab 2),.bm [0] [.eg (ay 1 J (au.set (0+cS.toNat) aW))] [(1,ii),(5,ha ((au.set (0+cS.toNat) aW).length)),(6,ii),(12,ii),(13,ii),(14,ii)]]) (fv.aY (.gX cA de.1 de.2 (hR J cK) (hG 1) (e6 1 .live (gE (el J au) (0+cS.toNat) aW)) (aG 1 .live aF (au.set (0+cS.toNat) aW)) (gZ (fq au) (0+cS.toNat) aW)))))
  (fun cA =>
  .bl fun de =>
  .bl fun cK =>
  .ret (let bk:=U ((U (aO-mI))-gO);b0 (t3.append [.al false,.aE (ae 4 (ai .dh [])),(ab 2),.bm [0] [.eg (ay 1 J (au.set (0+cS.toNat) bk))] [(1,ii),(5,ha ((au.set (0+cS.toNat) bk).length)),(6,ii),(12,ii),(13,ii),(14,ii)]]) (fv.aY (.gX cA de.1 de.2 (hR J cK) (hG 1) (e6 1 .live (gE (el J au) (0+cS.toNat) bk)) (aG 1 .live aF (au.set (0+cS.toNat) bk)) (gZ (fq au) (0+cS.toNat) bk)))))))
  (fun aM =>
  (let t3:List cL:=t1.append [.al false,(ab 1),(ab 2)];
  .ite (fun bq =>
  .bl fun bQ =>
  .bl fun bn =>
  .ret (let cc:=(U ((U (aO-mI))+(1000000000:Int)));b0 (t3.append [.al true,(ab 3),(ab 1),.aE (ae 4 (ai .dh [])),(ab 2),.bm [0] [.eg (ay 1 J (au.set (0+cS.toNat) cc))] [(1,ii),(5,ha ((au.set (0+cS.toNat) cc).length)),(6,ii),(12,ii),(13,ii),(14,ii)]]) (a9.aY (.bj aM bq bQ.1 bQ.2 (hR J bn) (hG 1) (e6 1 .live (gE (el J au) (0+cS.toNat) cc)) (aG 1 .live aF (au.set (0+cS.toNat) cc)) (.aw (gZ (fq au) (0+cS.toNat) cc))))))
  (fun bq =>
  .bl fun bQ =>
  .bl fun bn =>
  .ret (let cV:=U (aO-mI);b0 (t3.append [.al false,.aE (ae 4 (ai .dh [])),(ab 2),.bm [0] [.eg (ay 1 J (au.set (0+cS.toNat) cV))] [(1,ii),(5,ha ((au.set (0+cS.toNat) cV).length)),(6,ii),(12,ii),(13,ii),(14,ii)]]) (a9.aY (.bj aM bq bQ.1 bQ.2 (hR J bn) (hG 1) (e6 1 .live (gE (el J au) (0+cS.toNat) cV)) (aG 1 .live aF (au.set (0+cS.toNat) cV)) (.aw (gZ (fq au) (0+cS.toNat) cV))))))))))
  (fun o =>
  .ret (b0 [(ab 1),.al false,.bm [0] [.pure] (bY [5])] (.aC o (aG 1 .live aF au))))
theorem UZ {aV d1:List Int}{da mI cS:Int}{au:List Int}{r} (h:IF aV d1 da mI cS au=some r):fH bx 43 0 105 [1,1,1,0,1,0,0] (HU aV d1 da) (H8 aV d1 da) (mI,cS,au) r:=fI (fun _=>Uf) h
def tN (a7 aV:List Int):Option (List Int) :=
 if 0≤(len_ J a7)∧(8:Int)*(len_ J a7)≤281474976710656∧(len_ J a7)<9223372036854775808 then
 IF aV a7 (len_ J a7) 0 0 (List.replicate (len_ J a7).toNat 0:List Int) >>= fun cb =>
 qL cb >>= fun bz =>
 some bz
 else none
theorem Nk {a7 aV:List Int}:b4 (tN a7 aV) (fun r=>Con bx 105 [.isl 1 (a7.map J),.isl 1 (aV.map J)] [] (.isl 1 (r.map J)) []):=by
 unfold tN
 exact .bl fun o =>
  .az fun cb ad =>
  .az fun bz aM =>
  .ret (let bk:=len_ J a7;let aW:=(List.replicate bk.toNat 0:List Int);bM [(ab 1),(ab 4),(ab 1),(ab 3),.bm [3] [.eg (ay 1 J aW)] [(1,ii),(5,ha (aW.length)),(6,ii),(12,ii),(13,ii),(14,ii)],(H8 aV a7 bk cb).gC,.iC 0,.aE (bT 1 (.call {ac:=[.bE (.cx (.eU (cb.map J)))],r:= .isl 1 (bz.map J),dD:=false,dG:=[0]}) 1)] (.bj o.1 (Int.le_refl bk) o.2.1 o.2.2 (e6 1 .live (lL J bk.toNat 0)) (aG 1 .live aF aW) (lY bk.toNat (0:Int)) (UZ ad) (.dn (lh J cb) (kp J cb) (d3 aF cb) (u5 bz aM))))
def tJ (b8 dL:bg):Option bg :=
 p9 b8.cY dL.cY >>= fun an =>
 if (b8.du == dL.du)=true then
  xW b8.cY dL.cY >>= fun bz =>
  lI b8.du bz >>= fun cT =>
  some cT
 else
  if (decide ((0:Int)≤an))=true then
   tN b8.cY dL.cY >>= fun bp =>
   lI b8.du bp >>= fun bH =>
   some bH
  else
   tN dL.cY b8.cY >>= fun bp =>
   lI dL.du bp >>= fun bH =>
   some bH
theorem MJ {b8 dL:bg}:b4 (tJ b8 dL) (fun r=>Con bx 92 [.agg (aN b8),.agg (aN dL)] [] (.agg (aN r)) []):=by
 unfold tJ
 exact .az fun an R =>
  (let t1:List cL:=[(ab 3),.aE (bT 4 (bA 2 (.n .i64 an) true) 1),(ab 6)];
  have a9:=((.aC (xy an R) (cf.n .i64 an)):c3 _);
  .ite (fun ad =>
  .az fun bz aM =>
  .az fun cT bQ =>
  .ret (bM (t1.append [.al true,.aE (ae 6 (ai (bA 2 (.isl 1 (bz.map J)) false) (ai (bA 2 (.agg (aN cT)) false) (ae 1 []))))]) (a9.aY (.b1 ad (VG bz aM) (r6 cT bQ)))))
  (fun ad =>
  .ite (fun aD =>
  .az fun bp bq =>
  .az fun bH bn =>
  .ret (bM (t1.append [.al false,(ab 3),.al true,.aE (ae 6 (ai (bA 2 (.isl 1 (bp.map J)) false) (ai (bA 2 (.agg (aN bH)) false) (ae 1 []))))]) (a9.aY (.dn ad aD (Nk bp bq) (r6 bH bn)))))
  (fun aD =>
  .az fun bp bq =>
  .az fun bH bn =>
  .ret (bM (t1.append [.al false,(ab 3),.al false,.aE (ae 6 (ai (bA 2 (.isl 1 (bp.map J)) false) (ai (bA 2 (.agg (aN bH)) false) (ae 1 []))))]) (a9.aY (.dn ad aD (Nk bp bq) (r6 bH bn)))))))
end Go.Proofs.YtgfpnhmcmgnepacGreat
