/- Lemmas, plain functions of the program, and what they answer. No condition. -/
import Derived.Test.YtgfpnhmcmgnepabChecked
import Derived.Test.YtgfpnhmcmgnepabMB
namespace Go.VL
set_option linter.unusedVariables false
set_option linter.unusedSimpArgs false
def oh (m n:Nat)(a:Nat→Nat→Int)(b:Nat→Int)(x:Nat→Rat):Prop:=(∀j,j<n→0≤x j)∧ ∀i,i<m→b8 n (fun j=>(a i j:Rat)*x j)=(b i:Rat)
def val (n:Nat)(I x:Nat→Rat):Rat:=b8 n (fun j=>I j*x j)
def h5 (c:Nat→Rat)(l j:Nat):Rat:=match l with
 | 0=>c j
 | l+1=>if j=l then -1 else 0
def sF (m n:Nat)(a:Nat→Nat→Int)(b:Nat→Int)(c x:Nat→Rat):Prop :=
 oh m n a b x∧ ∀y,oh m n a b y→ ¬ht (n+1) (fun l=>val n (h5 c l) y-val n (h5 c l) x)
def Bounded (m n:Nat)(a:Nat→Nat→Int)(b:Nat→Int)(c:Nat→Rat):Prop:= ∃V,∀y,oh m n a b y→val n c y≤V
section
variable {m n:Nat} {a:Nat→Nat→Int} {b:Nat→Int} {c:Nat→Rat}
theorem W7 {x:Nat→Rat}{j:Nat}(az:j<n):val n (h5 c (j+1)) x = - x j:=by
 unfold val
 rw [kk az (f:=fun i=>h5 c (j+1) i*x i) (fun i ae cw=>by simp only [h5];rw [if_neg cw];grind)]
 simp only [h5,if_true];grind
theorem sF.unique {x y:Nat→Rat}(aa:sF m n a b c x)(aJ:sF m n a b c y):(∀j,j<n→x j=y j)∧val n c x=val n c y:=by
 rcases Dc (n+1) (fun l=>val n (h5 c l) y-val n (h5 c l) x) with h|h|h
 ·exact (aa.2 y aJ.1 h).elim
 ·refine ⟨fun j az=> ?_,?_⟩
  ·have:=h (j+1) (by omega)
   simp only [W7 az] at this;grind
  ·have:=h 0 (by omega)
   simp only at this
   have e:h5 c 0=c:=rfl
   rw [e] at this;grind
 ·exact (aJ.2 x aa.1 (h.congr fun l _=>by grind)).elim
theorem sF.adx {x y:Nat→Rat}(aa:sF m n a b c x)(aJ:oh m n a b y):val n c y≤val n c x:=by
 apply Classical.byContradiction
 intro h
 refine aa.2 y aJ ⟨0,by omega,?_,fun l aS=>by omega⟩
 have e:h5 c 0=c:=rfl
 simp only [e];grind
structure LT (m n:Nat) (a:Nat→Nat→Int) (b:Nat→Int) (a3 N:Nat) (u:cj):Prop where
 eqv : ∀x:Nat→Rat,(∀i,i<m→b8 n (fun j=>(a i j:Rat)*x j)=(b i:Rat))↔ ∀i,i<a3→b8 n (fun j=>u.T i j*x j)=u.T i N
 unit : ∀i,i<a3→ ∀k,k<a3→u.T i (u.B k)=if i=k then 1 else 0
 j3 : ∀i,i<a3→u.B i<n
 lX:u.k4 a3 N
 K5:n≤N
variable {a3 N:Nat} {u:cj}
theorem LT.DC (h:LT m n a b a3 N u)(f:Nat→Rat):b8 n (fun j=>f j*u.gn a3 N j)=b8 a3 (fun i=>f (u.B i)*u.T i N):=by
 unfold cj.gn
 rw [fi (g:=fun j=>b8 a3 (fun i=>if u.B i=j then f (u.B i)*u.T i N else 0)) (fun j _=>by
  rw [← h8];exact fi fun i _=>by split<;>grind),pO]
 exact fi fun i ae=>by rw [kk (h.j3 i ae) (f:=fun j=>if u.B i=j then f (u.B i)*u.T i N else 0) (fun j _ cw=>if_neg fun x=>cw x.symm),if_pos rfl]
theorem LT.gn (h:LT m n a b a3 N u):oh m n a b (u.gn a3 N):=by
 refine ⟨fun j _=>h.lX.gn j,(h.eqv _).2 fun i ae=> ?_⟩
 rw [h.DC,kk ae (f:=fun k=>u.T i (u.B k)*u.T k N) (fun k aZ cw=>by rw [h.unit i ae k aZ,if_neg (fun e=>cw e.symm)];grind),h.unit i ae i ae,if_pos rfl];grind
theorem LT.II (h:LT m n a b a3 N u)(I:Nat→Rat){x:Nat→Rat}(aa:oh m n a b x):b8 n (fun j=>u.dq a3 I j*x j)=val n I x-val n I (u.gn a3 N):=by
 have ak:=(h.eqv x).1 aa.2
 unfold val cj.dq
 rw [h.DC I,fi (g:=fun j=>I j*x j-b8 a3 (fun i=>I (u.B i)*(u.T i j*x j))) (fun j _=>by
  rw [fi (f:=fun i=>I (u.B i)*(u.T i j*x j)) (g:=fun i=>x j*(I (u.B i)*u.T i j)) (fun i _=>by grind),h8];grind),qv,pO]
 congr 1
 exact fi fun i ae=>by rw [h8,ak i ae]
theorem LT.xz (h:LT m n a b a3 N u)(I:Nat→Rat){i:Nat}(ae:i<a3):u.dq a3 I (u.B i)=0:=by
 unfold cj.dq
 rw [kk ae (f:=fun k=>I (u.B k)*u.T k (u.B i)) (fun k aZ cw=>by rw [h.unit k aZ i ae,if_neg cw];grind),h.unit i ae i ae,if_pos rfl];grind
theorem LT.pu (h:LT m n a b a3 N u)(dE:∀j,j<n→ ¬u.E5 a3 (n+1) (h5 c) j):sF m n a b c (u.gn a3 N):=by
 refine ⟨h.gn,fun y aJ aS=> ?_⟩
 have EF:ht (n+1) (fun l=>b8 n (fun j=>u.dq a3 (h5 c l) j*y j)):=aS.congr fun l _=>(h.II (h5 c l) aJ).symm
 obtain ⟨j,az,ad⟩:=ht.Ja (v:=fun j l=>u.dq a3 (h5 c l) j*y j) EF
 rcases (ad.congr (fJ:=fun l=>y j*u.dq a3 (h5 c l) j) fun l _=>Rat.mul_comm _ _).PA with ⟨-,R⟩|⟨R,-⟩
 ·exact dE j az R
 ·have:=aJ.1 j az;grind
theorem LT.Kg (h:LT m n a b a3 N u)(I:Nat→Rat){s:Nat}(bZ:s<n)(dE:0<u.dq a3 I s)(g8:∀i,i<a3→ ¬0<u.T i s): ¬Bounded m n a b I:=by
 rintro ⟨V,hV⟩
 have aU : ∀f:Nat→Rat,b8 n (fun j=>f j*u.dir a3 s j)=f s-b8 a3 (fun i=>f (u.B i)*u.T i s):=fun f=>by
  unfold cj.dir
  rw [fi (g:=fun j=>(if j=s then f s else 0)-b8 a3 (fun i=>if u.B i=j then f (u.B i)*u.T i s else 0)) (fun j _=>by
   have e:b8 a3 (fun i=>if u.B i=j then f (u.B i)*u.T i s else 0)=f j*b8 a3 (fun i=>if u.B i=j then u.T i s else 0):=by
    rw [← h8];exact fi fun i _=>by split<;>grind
   rw [e];split<;>grind),qv,kk bZ (f:=fun j=>if j=s then f s else 0) (fun i _ cw=>if_neg cw),if_pos rfl,pO]
  congr 1
  exact fi fun i ae=>by rw [kk (h.j3 i ae) (f:=fun j=>if u.B i=j then f (u.B i)*u.T i s else 0) (fun j _ cw=>if_neg fun x=>cw x.symm),if_pos rfl]
 have pos : ∀j,0≤u.dir a3 s j:=fun j=>by
  unfold cj.dir
  have o:0≤b8 a3 (fun i=> -(if u.B i=j then u.T i s else 0)):=sq fun i ae=>by
   have:=g8 i ae
   split<;>grind
  rw [fi (g:=fun i=>(-1)*(if u.B i=j then u.T i s else 0)) (fun i _=>by grind),h8] at o
  split<;>grind
 have Kg : ∀wk:Rat,0≤wk→oh m n a b (fun j=>u.gn a3 N j+wk*u.dir a3 s j)∧val n I (fun j=>u.gn a3 N j+wk*u.dir a3 s j)=val n I (u.gn a3 N)+wk*u.dq a3 I s:=fun wk K4=>by
  have Q0 : ∀f:Nat→Rat,b8 n (fun j=>f j*(u.gn a3 N j+wk*u.dir a3 s j))=b8 n (fun j=>f j*u.gn a3 N j)+wk*(f s-b8 a3 (fun i=>f (u.B i)*u.T i s)):=fun f=>by
   rw [← aU f,← h8,← uR]
   exact fi fun j _=>by grind
  refine ⟨⟨fun j _=> ?_,(h.eqv _).2 fun i ae=> ?_⟩,Q0 I⟩
  ·have o:=h.lX.gn (m:=a3) (N:=N) j
   have R:=Rat.mul_nonneg K4 (pos j)
   grind
  ·rw [Q0 (u.T i),(h.eqv _).1 h.gn.2 i ae,kk ae (f:=fun k=>u.T i (u.B k)*u.T k s) (fun k aZ cw=>by rw [h.unit i ae k aZ,if_neg (fun e=>cw e.symm)];grind),h.unit i ae i ae,if_pos rfl];grind
 have Q1:=hV _ h.gn
 have cw:u.dq a3 I s≠0:=by grind
 obtain ⟨ax,cH⟩:=Kg ((V-val n I (u.gn a3 N)+1) / u.dq a3 I s) (by
  rw [Rat.div_def]
  exact Rat.mul_nonneg (by grind) (Rat.le_of_lt (Rat.inv_pos.2 dE)))
 have ah:=hV _ ax
 rw [cH] at ah
 have:(V-val n I (u.gn a3 N)+1) / u.dq a3 I s*u.dq a3 I s=V-val n I (u.gn a3 N)+1:=by grind
 grind
theorem LT.cY (h:LT m n a b a3 N u){r k:Nat}(ak:r<a3)(aZ:k<n)(ad:u.T r k≠0)(b7:(u.cY r k).k4 a3 N):LT m n a b a3 N (u.cY r k) where
 eqv:=fun x=>by
  rw [h.eqv x]
  have ay:b8 n (fun j=>(u.cY r k).T r j*x j)=(1 / u.T r k)*b8 n (fun j=>u.T r j*x j):=by
   rw [← h8]
   exact fi fun j _=>by simp only [cj.cY,if_true];grind
  have aD : ∀i,i≠r→b8 n (fun j=>(u.cY r k).T i j*x j)=b8 n (fun j=>u.T i j*x j)-(u.T i k / u.T r k)*b8 n (fun j=>u.T r j*x j):=fun i ae=>by
   rw [← h8,← qv]
   exact fi fun j _=>by simp only [cj.cY,if_neg ae];grind
  have gY:(u.cY r k).T r N=(1 / u.T r k)*u.T r N:=by simp only [cj.cY,if_true];grind
  have js : ∀i,i≠r→(u.cY r k).T i N=u.T i N-(u.T i k / u.T r k)*u.T r N:=fun i ae=>by simp only [cj.cY,if_neg ae];grind
  constructor
  ·intro aa i ae
   by_cases c:i=r
   ·rw [c,ay,gY,aa r ak]
   ·rw [aD i c,js i c,aa i ae,aa r ak]
  ·intro aa
   have Q2:b8 n (fun j=>u.T r j*x j)=u.T r N:=by
    have:=aa r ak
    rw [ay,gY] at this
    have R:u.T r k*((1 / u.T r k)*b8 n (fun j=>u.T r j*x j))=u.T r k*((1 / u.T r k)*u.T r N):=by rw [this]
    grind
   intro i ae
   by_cases c:i=r
   ·rw [c];exact Q2
   ·have:=aa i ae
    rw [aD i c,js i c,Q2] at this
    grind
 unit:=by
  intro i ae dD mQ
  simp only [cj.cY]
  by_cases e:i=r
  ·subst e
   simp only [if_true]
   by_cases ev:dD=i
   ·subst ev;simp only [if_true];grind
   ·simp only [if_neg ev]
    rw [h.unit i ae dD mQ,if_neg (fun x=>ev x.symm)];grind
  ·simp only [if_neg e]
   by_cases ev:dD=r
   ·subst ev;simp only [if_true,if_neg e];grind
   ·simp only [if_neg ev]
    rw [h.unit i ae dD mQ,h.unit r ak dD mQ,if_neg (c:=r=dD) (fun x=>ev x.symm)];grind
 j3:=fun i ae=>by
  simp only [cj.cY]
  split
  ·exact aZ
  ·exact h.j3 i ae
 lX:=b7
 K5:=h.K5
theorem LT.tok (h:LT m n a b a3 N u)(a4:n≤N)(fk:0<N):fW a3 a3 N u.T u where
 qU:=fun c aO j _=>by
  rw [kk aO (f:=fun i=>u.T c (u.B i)*u.T i j) (fun i ae cw=>by rw [h.unit c aO i ae,if_neg (fun e=>cw e.symm)];grind),h.unit c aO c aO,if_pos rfl];grind
 row:=⟨fun i c=>if i=c then 1 else 0,fun i ae j _=>by
  rw [kk ae (f:=fun c=>(if i=c then (1:Rat) else 0)*u.T c j) (fun c _ cw=>by rw [if_neg (Ne.symm cw)];grind),if_pos rfl];grind⟩
 unit:=h.unit
 j3:=fun i ae=>Nat.lt_of_lt_of_le (h.j3 i ae) a4
def tR (n:Nat)(df:Nat→Bool)(x:Nat→Rat):Prop:= ∀j,j<n→df j=false→x j=0
structure o2 (m n:Nat) (a:Nat→Nat→Int) (b:Nat→Int) (c:Nat→Rat) (l:Nat) (df:Nat→Bool) (V:Nat→Rat):Prop where
 low : ∀y,oh m n a b y→tR n df y→ ∀k,k<l→val n (h5 c k) y=V k
 up : ∀y,oh m n a b y→ ¬tR n df y→ ∃k,k<l∧val n (h5 c k) y<V k∧ ∀q,q<k→val n (h5 c q) y=V q
theorem o2.zero {df:Nat→Bool}(h:∀j,j<n→df j=true)(V:Nat→Rat):o2 m n a b c 0 df V where
 low:=fun y _ _ k aZ=>by omega
 up:=fun y _ b7=>(b7 fun j az e=>by rw [h j az] at e;cases e).elim
theorem o2.next (h:LT m n a b a3 N u){l:Nat}{df kG:Nat→Bool}{V:Nat→Rat}(s:o2 m n a b c l df V)(dE:∀j,j<n→df j=true→ ¬0<u.dq a3 (h5 c l) j)
 (pv : ∀j,j<n→kG j=(df j && !decide (u.dq a3 (h5 c l) j<0))) : ∃BJ,o2 m n a b c (l+1) kG BJ:=by
 have sub : ∀y,tR n kG y→tR n df y:=fun y aJ j az e=>aJ j az (by rw [pv j az,e];rfl)
 have neg : ∀y,oh m n a b y→tR n df y→ ∀j,j<n→0≤ -(u.dq a3 (h5 c l) j*y j):=fun y aJ b7 j az=>by
  cases e:df j with
  | false=>rw [b7 j az e];grind
  | true =>
   have:=Rat.mul_nonneg (show 0≤ -(u.dq a3 (h5 c l) j) by have:=dE j az e;grind) (aJ.1 j az)
   grind
 refine ⟨fun k=>if k=l then val n (h5 c l) (u.gn a3 N) else V k,fun y aJ b7 k aZ=> ?_,fun y aJ b7=> ?_⟩
 ·by_cases e:k=l
  ·rw [if_pos e,e]
   have ca:b8 n (fun j=>u.dq a3 (h5 c l) j*y j)=0:=np fun j az=>by
    cases e:kG j with
    | false=>rw [b7 j az e];grind
    | true =>
     rw [pv j az,Bool.and_eq_true] at e
     have o:=dE j az e.1
     have R : ¬u.dq a3 (h5 c l) j<0:=by simpa using e.2
     have:u.dq a3 (h5 c l) j=0:=by grind
     rw [this];grind
   rw [h.II _ aJ] at ca;grind
  ·rw [if_neg e]
   exact s.low y aJ (sub y b7) k (by omega)
 ·by_cases g:tR n df y
  ·refine ⟨l,by omega,?_,fun q a5=>by rw [if_neg (by omega)];exact s.low y aJ g q a5⟩
   rw [if_pos rfl]
   have o:=h.II (h5 c l) aJ
   have R:=neg y aJ g
   have ah:=sq R
   have aB:b8 n (fun j=> -(u.dq a3 (h5 c l) j*y j))≠0:=fun e=>b7 fun j az RJ=>by
    have:=HN R e j az
    cases ay:df j with
    | false=>exact g j az ay
    | true =>
     rw [pv j az,ay,Bool.true_and] at RJ
     have aK:u.dq a3 (h5 c l) j<0:=by simpa using RJ
     grind
   rw [fi (g:=fun j=>(-1)*(u.dq a3 (h5 c l) j*y j)) (fun j _=>by grind),h8,o] at ah aB
   grind
  ·obtain ⟨k,ka,jD,nm⟩:=s.up y aJ g
   exact ⟨k,by omega,by rw [if_neg (by omega)];exact jD,fun q a5=>by rw [if_neg (by omega)];exact nm q a5⟩
theorem o2.pu (h:LT m n a b a3 N u){df:Nat→Bool}{V:Nat→Rat}(s:o2 m n a b c (n+1) df V)(aL:∀i,i<a3→df (u.B i)=true):sF m n a b c (u.gn a3 N):=by
 have aa:tR n df (u.gn a3 N):=fun j az e=>cj.HX fun i ae aD=>by
  have:=aL i ae
  rw [aD,e] at this;cases this
 have a0:=s.low _ h.gn aa
 refine ⟨h.gn,fun y aJ ⟨l,lW,qh,K6⟩=> ?_⟩
 by_cases g:tR n df y
 ·have:=s.low y aJ g l lW
  have:=a0 l lW
  grind
 ·obtain ⟨k,ka,jD,nm⟩:=s.up y aJ g
  rcases Nat.lt_trichotomy l k with e|e|e
  ·have:=nm l e;have:=a0 l lW;grind
  ·subst e;have:=a0 l lW;grind
  ·have:=K6 k e;have:=a0 k ka;grind
theorem LT.V4 (h:LT m n a b a3 N u){k s:Nat}(dE:0<u.dq a3 (h5 c (k+1)) s): ∃i,i<a3∧0<u.T i s:=by
 apply Classical.byContradiction
 intro cw
 have o:0≤b8 a3 (fun i=>h5 c (k+1) (u.B i)*u.T i s):=sq fun i ae=>by
  have R : ¬0<u.T i s:=fun e=>cw ⟨i,ae,e⟩
  simp only [h5]
  split<;>grind
 unfold cj.dq at dE
 have ah:h5 c (k+1) s≤0:=by simp only [h5];split<;>grind
 grind
end
end Go.VL
namespace Go.Proofs.Ytgfpnhmcmgnepab
set_option linter.unusedVariables false
set_option linter.unusedSimpArgs false
open Go Go.VL
structure aT where
 hI:ByteArray
 gM:Int
 mz:Int
 hF:Bool
 deriving DecidableEq
structure bk where
 cE:Int
 cF:Int
 ju:Int
 deriving DecidableEq
structure ct where
 dd:(List aT)
 cx:(List bk)
 deriving DecidableEq
structure bu where
 cE:Int
 cF:Int
 fA:Int
 b9:Int
 deriving DecidableEq
structure W8 where
 iG:(List Int)
 ab6:Int
 ab7:Int
 deriving DecidableEq
structure bc where
 dg:Bool
 cS:(List Int)
 deriving DecidableEq
structure gC where
 fA:bc
 b9:(List Int)
 deriving DecidableEq
structure oA where
 lq:Int
 kq:Int
 cE:(List Int)
 cF:(List Int)
 kK:(List Int)
 deriving DecidableEq
structure dY where
 hj:Int
 sN:Int
 deriving DecidableEq
structure cv where
 qK:bc
 qL:(List Int)
 deriving DecidableEq
structure q7 where
 D4:(List (List bc))
 vG:bc
 DS:(List Int)
 Jn:Int
 Jo:(List Bool)
 deriving DecidableEq
def cu (x:aT):List aw:=[.s x.hI,.n .i64 x.gM,.n .i64 x.mz,.b x.hF]
theorem pe : ∀x,∀v∈cu x,v.ia=true:=by
 intro x v a0
 simp only [cu,List.mem_cons,List.not_mem_nil,or_false] at a0
 rcases a0 with rfl|rfl|rfl|rfl<;>rfl
theorem Nc : ∀x,∀v∈cu x,cn v:=fun x=>(pQ (.s _) (pQ (.n _ _) (pQ (.n _ _) (pQ (.b _) Dy))))
theorem l1 : ∀x,∀v∈cu x,Pure v:=by
 intro x v a0
 simp only [cu,List.mem_cons,List.not_mem_nil,or_false] at a0
 rcases a0 with rfl|rfl|rfl|rfl
 ·exact .s _
 ·exact .n _ _
 ·exact .n _ _
 ·exact .b _
def cq (x:bk):List aw:=[.n .i64 x.cE,.n .i64 x.cF,.n .i64 x.ju]
theorem pd : ∀x,∀v∈cq x,v.ia=true:=by
 intro x v a0
 simp only [cq,List.mem_cons,List.not_mem_nil,or_false] at a0
 rcases a0 with rfl|rfl|rfl<;>rfl
theorem ML : ∀x,∀v∈cq x,cn v:=fun x=>(pQ (.n _ _) (pQ (.n _ _) (pQ (.n _ _) Dy)))
theorem l0 : ∀x,∀v∈cq x,Pure v:=by
 intro x v a0
 simp only [cq,List.mem_cons,List.not_mem_nil,or_false] at a0
 rcases a0 with rfl|rfl|rfl
 ·exact .n _ _
 ·exact .n _ _
 ·exact .n _ _
def hY (x:ct):List aw:=[.isl 4 (x.dd.map cu),.isl 3 (x.cx.map cq)]
theorem acz : ∀x,∀v∈hY x,v.ia=true:=by
 intro x v a0
 simp only [hY,List.mem_cons,List.not_mem_nil,or_false] at a0
 rcases a0 with rfl|rfl<;>rfl
theorem qs : ∀x,∀v∈hY x,Pure v:=by
 intro x v a0
 simp only [hY,List.mem_cons,List.not_mem_nil,or_false] at a0
 rcases a0 with rfl|rfl
 ·exact .isl (dP l1 _)
 ·exact .isl (dP l0 _)
def cL (x:bu):List aw:=[.n .i64 x.cE,.n .i64 x.cF,.n .i64 x.fA,.n .i64 x.b9]
theorem pf : ∀x,∀v∈cL x,v.ia=true:=by
 intro x v a0
 simp only [cL,List.mem_cons,List.not_mem_nil,or_false] at a0
 rcases a0 with rfl|rfl|rfl|rfl<;>rfl
theorem Nd : ∀x,∀v∈cL x,cn v:=fun x=>(pQ (.n _ _) (pQ (.n _ _) (pQ (.n _ _) (pQ (.n _ _) Dy))))
theorem mh : ∀x,∀v∈cL x,Pure v:=by
 intro x v a0
 simp only [cL,List.mem_cons,List.not_mem_nil,or_false] at a0
 rcases a0 with rfl|rfl|rfl|rfl
 ·exact .n _ _
 ·exact .n _ _
 ·exact .n _ _
 ·exact .n _ _
def De (x:W8):List aw:=[.isl 1 (x.iG.map eU8),.n .i64 x.ab6,.n .i64 x.ab7]
theorem acG : ∀x,∀v∈De x,v.ia=true:=by
 intro x v a0
 simp only [De,List.mem_cons,List.not_mem_nil,or_false] at a0
 rcases a0 with rfl|rfl|rfl<;>rfl
theorem acA : ∀x,∀v∈De x,Pure v:=by
 intro x v a0
 simp only [De,List.mem_cons,List.not_mem_nil,or_false] at a0
 rcases a0 with rfl|rfl|rfl
 ·exact .isl (dP N8 _)
 ·exact .n _ _
 ·exact .n _ _
def aN (x:bc):List aw:=[.b x.dg,.isl 1 (x.cS.map J)]
theorem eb : ∀x,∀v∈aN x,v.ia=true:=by
 intro x v a0
 simp only [aN,List.mem_cons,List.not_mem_nil,or_false] at a0
 rcases a0 with rfl|rfl<;>rfl
theorem so : ∀x,∀v∈aN x,Pure v:=by
 intro x v a0
 simp only [aN,List.mem_cons,List.not_mem_nil,or_false] at a0
 rcases a0 with rfl|rfl
 ·exact .b _
 ·exact .isl (dP aE _)
def fZ (x:gC):List aw:=[.b x.fA.dg,.isl 1 (x.fA.cS.map J),.isl 1 (x.b9.map J)]
theorem ac5 : ∀x,∀v∈fZ x,v.ia=true:=by
 intro x v a0
 simp only [fZ,List.mem_cons,List.not_mem_nil,or_false] at a0
 rcases a0 with rfl|rfl|rfl<;>rfl
theorem C5 : ∀x,∀v∈fZ x,Pure v:=by
 intro x v a0
 simp only [fZ,List.mem_cons,List.not_mem_nil,or_false] at a0
 rcases a0 with rfl|rfl|rfl
 ·exact .b _
 ·exact .isl (dP aE _)
 ·exact .isl (dP aE _)
def Df (x:oA):List aw:=[.n .i64 x.lq,.n .i64 x.kq,.isl 1 (x.cE.map J),.isl 1 (x.cF.map J),.isl 1 (x.kK.map J)]
theorem acH : ∀x,∀v∈Df x,v.ia=true:=by
 intro x v a0
 simp only [Df,List.mem_cons,List.not_mem_nil,or_false] at a0
 rcases a0 with rfl|rfl|rfl|rfl|rfl<;>rfl
theorem acB : ∀x,∀v∈Df x,Pure v:=by
 intro x v a0
 simp only [Df,List.mem_cons,List.not_mem_nil,or_false] at a0
 rcases a0 with rfl|rfl|rfl|rfl|rfl
 ·exact .n _ _
 ·exact .n _ _
 ·exact .isl (dP aE _)
 ·exact .isl (dP aE _)
 ·exact .isl (dP aE _)
def ek (x:dY):List aw:=[.n .i64 x.hj,.n .i64 x.sN]
theorem acI : ∀x,∀v∈ek x,v.ia=true:=by
 intro x v a0
 simp only [ek,List.mem_cons,List.not_mem_nil,or_false] at a0
 rcases a0 with rfl|rfl<;>rfl
theorem acJ : ∀x,∀v∈ek x,cn v:=fun x=>(pQ (.n _ _) (pQ (.n _ _) Dy))
theorem uF : ∀x,∀v∈ek x,Pure v:=by
 intro x v a0
 simp only [ek,List.mem_cons,List.not_mem_nil,or_false] at a0
 rcases a0 with rfl|rfl
 ·exact .n _ _
 ·exact .n _ _
def bT (x:cv):List aw:=[.b x.qK.dg,.isl 1 (x.qK.cS.map J),.isl 1 (x.qL.map J)]
theorem acK : ∀x,∀v∈bT x,v.ia=true:=by
 intro x v a0
 simp only [bT,List.mem_cons,List.not_mem_nil,or_false] at a0
 rcases a0 with rfl|rfl|rfl<;>rfl
theorem li : ∀x,∀v∈bT x,Pure v:=by
 intro x v a0
 simp only [bT,List.mem_cons,List.not_mem_nil,or_false] at a0
 rcases a0 with rfl|rfl|rfl
 ·exact .b _
 ·exact .isl (dP aE _)
 ·exact .isl (dP aE _)
def xA (x:q7):List aw:=[.isl 1 (x.D4.map (fg 2 aN)),.b x.vG.dg,.isl 1 (x.vG.cS.map J),.isl 1 (x.DS.map J),.n .i64 x.Jn,.isl 1 (x.Jo.map dM)]
theorem acD : ∀x,∀v∈xA x,v.ia=true:=by
 intro x v a0
 simp only [xA,List.mem_cons,List.not_mem_nil,or_false] at a0
 rcases a0 with rfl|rfl|rfl|rfl|rfl|rfl<;>rfl
theorem Hz : ∀x,∀v∈xA x,Pure v:=by
 intro x v a0
 simp only [xA,List.mem_cons,List.not_mem_nil,or_false] at a0
 rcases a0 with rfl|rfl|rfl|rfl|rfl|rfl
 ·exact .isl (dP (pT (sz:=2) so) _)
 ·exact .b _
 ·exact .isl (dP aE _)
 ·exact .isl (dP aE _)
 ·exact .n _ _
 ·exact .isl (dP d5 _)
noncomputable abbrev bC:Program:=Go.Proofs.Try.prog
theorem p3:bC.follows .mixedOrders=true:=Go.Proofs.Try.checked.mixed
theorem b5 {N m:Nat}{c:Code}{E:List (Nat×aw)}{rows:List (List ab)}(tape:List c5){e:Exit}{s:S}{af:List Prop}(bf:c9 af)
 (h:EC bC N m c tape (e1 E rows) rows.length=some (e,s,af):=by kernel_rfl):jb bC N m c e (e1 E rows) s:=NH p3 h bf (uW _ _)
theorem bY {f:FuncId}{args:List aw}{r:aw}{af:List Prop}(tape:List c5)(bf:c9 af)(ff:lb:=ii)
 (h:AQ bC f args [] tape [] [] ff=some (r,[],af):=by kernel_rfl):Con bC f args [] r []:=VZ p3 h bf
theorem iu {f:FuncId}{args:List aw}{T je:List (List ab)}{r:aw}{af:List Prop}(tape:List c5)(aM:List Nat)(cM:List iv)(bf:c9 af)(ff:lb:=ii)
 (h:AQ bC f args T tape aM cM ff=some (r,je,af):=by kernel_rfl):Con bC f args T r je:=N7 p3 h bf
def fE (mw hL:Int)(jE bG bl eN K7 wb K8 K9 Kh Ki Kj s7:Nat):List aw:=[.n .i64 mw,.n .i64 hL,.bm jE bG bl eN,.bm K7 wb K8 K9,.bm Kh Ki Kj s7]
def aaW (mw hL jE bG:Nat)(bl:List Int)(eN:Int):List aw:=[.bm mw hL jE bG,.isl 1 (bl.map J),.n .i64 eN]
def eL (mw hL jE bG:Nat)(bl:Bool)(eN:List Int)(K7 wb K8 K9:Nat)(Kh:Int)(Ki Kj s7 aaX:Nat):List aw:=[.bm mw hL jE bG,.b bl,.isl 1 (eN.map J),.bm K7 wb K8 K9,.n .i64 Kh,.bm Ki Kj s7 aaX]
end Go.Proofs.Ytgfpnhmcmgnepab
namespace Go.Proofs.Ytgfpnhmcmgnepab
set_option linter.unusedVariables false
set_option linter.unusedSimpArgs false
open Go Go.VL
def Gq (hv:List Int):(Int×Int)→S:=fun (qb,a2)=>e1 [(0,.isl 1 (hv.map eU8)),(3,.n .i64 qb),(4,.n .i64 a2)] []
def Gt (hv:List Int):Int→e5
 | a=>⟨some 0,[(0,.isl 1 (hv.map eU8)),(3,.n .i64 a)],[]⟩
def wR (hv:List Int)(qb a2:Int):Option ((Int×Int)⊕(Int)) :=
 if (decide (a2<(len_ eU8 hv)))=true then
  if (decide (a2<(4000:Int)))=true then
   if 0≤a2∧a2<hv.length then
   hv[a2.toNat]? >>= fun f6 =>
   some (.inl (U (((BitVec.ofInt (IntKind.bits .i64) (U ((U ((U (qb*(73:Int)))+(IntKind.wrap .i64 f6)))+(7:Int))) &&& BitVec.ofInt (IntKind.bits .i64) (1073741823:Int)).toNat:Int)),U (a2+(1:Int))))
   else none
  else
   some (.inr qb)
 else
  some (.inr qb)
def LY (hv:List Int)(qb a2:Int):Option (Int):=iter (fun w:Int×Int=>wR hv w.1 w.2) (qb,a2)
theorem S2 {hv:List Int}{qb a2:Int}:b6 (wR hv qb a2) (fG bC 32 0 14 [1,1,0,1,0,0] (Gq hv (qb,a2)) (Gq hv) (Gt hv)):=by
 unfold wR
 exact .ite (fun o =>
  .ite (fun R =>
  .bn fun ah =>
  .aC fun f6 aK =>
  .ret (b5 [.aH (an 7 (aq (.ao true) [])),.ao true,.aH (bU 5 (.cK (eU8 f6)) 5),(ag 3),.br [] [] (b2 [0,3,4])] (.fu o o o R ah.1 (eR eU8 ah.2) (cP eU8 aK))))
  (fun R =>
  .ret (b5 [.aH (an 7 (aq (.ao true) [])),.ao false,.br [] [] (b2 [0,3])] (.du o o o R))))
  (fun o =>
  .ret (b5 [.aH (an 5 (c3 2 (aq (.ao false) []))),.ao false,.br [] [] (b2 [0,3])] (.du o o o d3)))
theorem TG {hv:List Int}{qb a2:Int}{r} (h:LY hv qb a2=some r):fH bC 32 0 14 [1,1,0,1,0,0] (Gq hv) (Gt hv) (qb,a2) r:=fI (fun _=>S2) h
def CM (hv:List Int):Option Int :=
 LY hv (U ((1975:Int)+(len_ eU8 hv))) 0 >>= fun ax =>
 some ax
theorem LZ {hv:List Int}:b6 (CM hv) (fun a=>Con bC 14 [.isl 1 (hv.map eU8)] [] (.ref 0 0 0 0) [[ab.mk 3 [[.isl 1 (hv.map eU8),.n .i64 (0:Int),.n .i64 a]] .live]]):=by
 unfold CM
 exact .aC fun ax R =>
  .ret (iu [(ag 1),(ag 4),(ag 1),.br [] [] (b2 [0,3,4]),(Gt hv ax).gr,(ag 5)] [3] [.box [.id,.id,.id]] (.ay (TG R)))
def sn (cb:List Int)(cB ft:Int):Option (Int×Int×Int) :=
 if (decide (cB<(len_ eU8 cb)))=true then
  if 0≤cB∧cB<cb.length then
  cb[cB.toNat]? >>= fun aV =>
  some (U (((BitVec.ofInt (IntKind.bits .i64) (U ((U (((BitVec.ofInt (IntKind.bits .i64) (U (((BitVec.ofInt (IntKind.bits .i64) ((U ((U (ft*(6364136223846793005:Int)))+(1442695040888963407:Int))).fdiv (2 ^ (min (33:Int).toNat (IntKind.bits .i64)))) ^^^ BitVec.ofInt (IntKind.bits .i64) ((U ((U (ft*(6364136223846793005:Int)))+(1442695040888963407:Int))).fdiv (2 ^ (min (45:Int).toNat (IntKind.bits .i64))))).toNat:Int))) &&& BitVec.ofInt (IntKind.bits .i64) (255:Int)).toNat:Int)))+(IntKind.wrap .i64 aV))) &&& BitVec.ofInt (IntKind.bits .i64) (255:Int)).toNat:Int)),U (cB+(1:Int)),U ((U (ft*(6364136223846793005:Int)))+(1442695040888963407:Int)))
  else none
 else
  some (U (((BitVec.ofInt (IntKind.bits .i64) (U (((BitVec.ofInt (IntKind.bits .i64) ((U ((U (ft*(6364136223846793005:Int)))+(1442695040888963407:Int))).fdiv (2 ^ (min (33:Int).toNat (IntKind.bits .i64)))) ^^^ BitVec.ofInt (IntKind.bits .i64) ((U ((U (ft*(6364136223846793005:Int)))+(1442695040888963407:Int))).fdiv (2 ^ (min (45:Int).toNat (IntKind.bits .i64))))).toNat:Int))) &&& BitVec.ofInt (IntKind.bits .i64) (255:Int)).toNat:Int)),cB,U ((U (ft*(6364136223846793005:Int)))+(1442695040888963407:Int)))
theorem zp {cb:List Int}{cB ft:Int}:b6 (sn cb cB ft) (fun a=>Con bC 57 [.ref 0 0 0 0] [[ab.mk 3 [[.isl 1 (cb.map eU8),.n .i64 cB,.n .i64 ft]] .live]] (.n .i64 a.1) [[ab.mk 3 [[.isl 1 (cb.map eU8),.n .i64 a.2.1,.n .i64 a.2.2]] .live]]):=by
 unfold sn
 exact (let t1:List c5:=[(ag 1),(ag 10),(ag 13),(ag 10)];
  have bg:=((.aD (by decide:(0:Int)≤33) (by decide:(0:Int)≤45)):c9 _);
  .ite (fun o =>
  .bn fun R =>
  .aC fun aV aB =>
  .ret (iu (t1.append [.ao true,.aH (bU 10 (.cK (eU8 aV)) 4),(ag 9),(ag 2)]) [0] [.box [.id,.id,.id]] (bg.bb (.du o R.1 (eR eU8 R.2) (cP eU8 aB)))))
  (fun o =>
  .ret (iu (t1.append [.ao false,(ag 2)]) [0] [.box [.id,.id,.id]] (bg.bb (.ay o)))))
def lB (ba:Int)(cb:List Int)(cB ft:Int):Option (Int×Int×Int) :=
 if (decide (ba≤(0:Int)))=true then
  some (0,cB,ft)
 else
  if (decide (ba≤(256:Int)))=true then
   sn cb cB ft >>= fun a6 =>
   if ba≠0 then
   some (a6.1.tmod ba,a6.2.1,a6.2.2)
   else none
  else
   sn cb cB ft >>= fun a6 =>
   sn cb a6.2.1 a6.2.2 >>= fun bD =>
   sn cb bD.2.1 bD.2.2 >>= fun bL =>
   sn cb bL.2.1 bL.2.2 >>= fun bA =>
   if ba≠0 then
   some ((U ((U ((U ((U (a6.1*(16777216:Int)))+(U (bD.1*(65536:Int)))))+(U (bL.1*(256:Int)))))+bA.1)).tmod ba,bA.2.1,bA.2.2)
   else none
theorem ox {ba:Int}{cb:List Int}{cB ft:Int}:b6 (lB ba cb cB ft) (fun a=>Con bC 32 [.ref 0 0 0 0,.n .i64 ba] [[ab.mk 3 [[.isl 1 (cb.map eU8),.n .i64 cB,.n .i64 ft]] .live]] (.n .i64 a.1) [[ab.mk 3 [[.isl 1 (cb.map eU8),.n .i64 a.2.1,.n .i64 a.2.2]] .live]]):=by
 unfold lB
 exact .ite (fun o =>
  .ret (iu [(ag 1),(ag 2),.ao true,(ag 1)] [0] [.box [.id,.id,.id]] (.ay o)))
  (fun o =>
  (let t1:List c5:=[(ag 1),(ag 2),.ao false,(ag 2)];
  .ite (fun R =>
  .aC fun a6 aB =>
  .bn fun aK =>
  .ret (iu (t1.append [.ao true,.aH (bU 1 (.call {aM:=[.row 0],cM:=[.box [.id,.id,.id]],ac:=[ii],r:= .n .i64 a6.1,dT:=[[ab.mk 3 [[.isl 1 (cb.map eU8),.n .i64 a6.2.1,.n .i64 a6.2.2]] .live]],ff:=ii,fR:=[.box [.id,.id,.id]],dA:=[0],dt:=false}) 3)]) [0] [.box [.id,.id,.id]] (.du o R (zp a6 aB) aK)))
  (fun R =>
  .aC fun a6 aB =>
  .aC fun bD bF =>
  .aC fun bL bx =>
  .aC fun bA dQ =>
  .bn fun dC =>
  .ret (iu (t1.append [.ao false,.aH (bU 1 (.call {aM:=[.row 0],cM:=[.box [.id,.id,.id]],ac:=[ii],r:= .n .i64 a6.1,dT:=[[ab.mk 3 [[.isl 1 (cb.map eU8),.n .i64 a6.2.1,.n .i64 a6.2.2]] .live]],ff:=ii,fR:=[.box [.id,.id,.id]],dA:=[0],dt:=false}) 1),.aH (bU 1 (.call {aM:=[.row 0],cM:=[.box [.id,.id,.id]],ac:=[ii],r:= .n .i64 bD.1,dT:=[[ab.mk 3 [[.isl 1 (cb.map eU8),.n .i64 bD.2.1,.n .i64 bD.2.2]] .live]],ff:=ii,fR:=[.box [.id,.id,.id]],dA:=[0],dt:=false}) 1),.aH (bU 1 (.call {aM:=[.row 0],cM:=[.box [.id,.id,.id]],ac:=[ii],r:= .n .i64 bL.1,dT:=[[ab.mk 3 [[.isl 1 (cb.map eU8),.n .i64 bL.2.1,.n .i64 bL.2.2]] .live]],ff:=ii,fR:=[.box [.id,.id,.id]],dA:=[0],dt:=false}) 1),.aH (bU 1 (.call {aM:=[.row 0],cM:=[.box [.id,.id,.id]],ac:=[ii],r:= .n .i64 bA.1,dT:=[[ab.mk 3 [[.isl 1 (cb.map eU8),.n .i64 bA.2.1,.n .i64 bA.2.2]] .live]],ff:=ii,fR:=[.box [.id,.id,.id]],dA:=[0],dt:=false}) 1),(ag 13)]) [0] [.box [.id,.id,.id]] (.fu o R (zp a6 aB) (zp bD bF) (zp bL bx) (zp bA dQ) dC)))))
def xk (dl cb:List Int)(cB ft:Int):Option (Int×Int×Int) :=
 lB (len_ J dl) cb cB ft >>= fun ax =>
 if 0≤ax.1∧ax.1<dl.length then
 dl[ax.1.toNat]? >>= fun f6 =>
 some (f6,ax.2.1,ax.2.2)
 else none
theorem Hh {dl cb:List Int}{cB ft:Int}:b6 (xk dl cb cB ft) (fun a=>Con bC 33 [.ref 0 0 0 0,.isl 1 (dl.map J)] [[ab.mk 3 [[.isl 1 (cb.map eU8),.n .i64 cB,.n .i64 ft]] .live]] (.n .i64 a.1) [[ab.mk 3 [[.isl 1 (cb.map eU8),.n .i64 a.2.1,.n .i64 a.2.2]] .live]]):=by
 unfold xk
 exact .aC fun ax R =>
  .bn fun ah =>
  .aC fun f6 aK =>
  .ret (iu [(ag 1),.aH (an 4 (aq (.call {aM:=[.row 0],cM:=[.box [.id,.id,.id]],ac:=[ii,ii],r:= .n .i64 ax.1,dT:=[[ab.mk 3 [[.isl 1 (cb.map eU8),.n .i64 ax.2.1,.n .i64 ax.2.2]] .live]],ff:=ii,fR:=[.box [.id,.id,.id]],dA:=[0],dt:=false}) (bU 1 (.cK (J f6)) 1)))] [0] [.box [.id,.id,.id]] (.du (ox ax R) ah.1 (eR J ah.2) (cP J aK)))
def rQ (ba:Int)(cb:List Int)(cB ft:Int):Option (Bool×Int×Int) :=
 lB ba cb cB ft >>= fun ax =>
 some ((ax.1 == (0:Int)),ax.2.1,ax.2.2)
theorem xa {ba:Int}{cb:List Int}{cB ft:Int}:b6 (rQ ba cb cB ft) (fun a=>Con bC 34 [.ref 0 0 0 0,.n .i64 ba] [[ab.mk 3 [[.isl 1 (cb.map eU8),.n .i64 cB,.n .i64 ft]] .live]] (.b a.1) [[ab.mk 3 [[.isl 1 (cb.map eU8),.n .i64 a.2.1,.n .i64 a.2.2]] .live]]):=by
 unfold rQ
 exact .aC fun ax R =>
  .ret (iu [(ag 1),.aH (bU 2 (.call {aM:=[.row 0],cM:=[.box [.id,.id,.id]],ac:=[ii,ii],r:= .n .i64 ax.1,dT:=[[ab.mk 3 [[.isl 1 (cb.map eU8),.n .i64 ax.2.1,.n .i64 ax.2.2]] .live]],ff:=ii,fR:=[.box [.id,.id,.id]],dA:=[0],dt:=false}) 2)] [0] [.box [.id,.id,.id]] (.ay (ox ax R)))
def xl (cb:List Int)(cB ft:Int):Option ((Int×Int×(List aT)×(List bk)×(List Int)×(List bu))⊕(Int×Int×(List aT)×(List bk)×(List Int)×(List bu))) :=
 lB 3 cb cB ft >>= fun ax =>
 xk ([3,0,8]:List Int) cb ax.2.1 ax.2.2 >>= fun a6 =>
 if 0≤(1:Int)∧(1:Int)<(4:Nat) then
 ([(⟨(⟨#[97]⟩:ByteArray),(-3),0,true⟩:aT),(⟨(⟨#[98]⟩:ByteArray),a6.1,0,true⟩:aT),(⟨(⟨#[99]⟩:ByteArray),0,(-4),false⟩:aT),(⟨(⟨#[100]⟩:ByteArray),ax.1,(-9),true⟩:aT)]:List aT)[1]? >>= fun aF =>
 if (aF.gM == (8:Int))=true then
  rQ 2 cb a6.2.1 a6.2.2 >>= fun bA =>
  if bA.1=true then
   xk ([1,2,3]:List Int) cb bA.2.1 bA.2.2 >>= fun cO =>
   if (([(⟨0,2,1⟩:bk),(⟨2,1,1⟩:bk)]:List bk)++([(⟨2,3,cO.1⟩:bk)]:List bk)).length*24≤140737488355328 then
   lB 9 cb cO.2.1 cO.2.2 >>= fun d2 =>
   lB 9 cb d2.2.1 d2.2.2 >>= fun fB =>
   lB 4 cb fB.2.1 fB.2.2 >>= fun fw =>
   rQ 3 cb fw.2.1 fw.2.2 >>= fun hl =>
   if hl.1=true then
    some (.inl (hl.2.1,hl.2.2,([(⟨(⟨#[97]⟩:ByteArray),(-3),0,true⟩:aT),(⟨(⟨#[98]⟩:ByteArray),a6.1,0,true⟩:aT),(⟨(⟨#[99]⟩:ByteArray),0,(-4),false⟩:aT),(⟨(⟨#[100]⟩:ByteArray),ax.1,(-9),true⟩:aT)]:List aT).set 1 (⟨aF.hI,aF.gM,2,aF.hF⟩:aT),([(⟨0,2,1⟩:bk),(⟨2,1,1⟩:bk)]:List bk)++([(⟨2,3,cO.1⟩:bk)]:List bk),([0,0,0,0,U (d2.1-(4:Int)),U (0-fB.1),0,0]:List Int),([(⟨0,1,U ((1:Int)+fw.1),U ((1:Int)+fw.1)⟩:bu)]:List bu)))
   else
    some (.inl (hl.2.1,hl.2.2,([(⟨(⟨#[97]⟩:ByteArray),(-3),0,true⟩:aT),(⟨(⟨#[98]⟩:ByteArray),a6.1,0,true⟩:aT),(⟨(⟨#[99]⟩:ByteArray),0,(-4),false⟩:aT),(⟨(⟨#[100]⟩:ByteArray),ax.1,(-9),true⟩:aT)]:List aT).set 1 (⟨aF.hI,aF.gM,2,aF.hF⟩:aT),([(⟨0,2,1⟩:bk),(⟨2,1,1⟩:bk)]:List bk)++([(⟨2,3,cO.1⟩:bk)]:List bk),([0,0,0,0,U (d2.1-(4:Int)),U (0-fB.1),0,0]:List Int),([(⟨0,1,U ((1:Int)+fw.1),1⟩:bu)]:List bu)))
   else none
  else
   lB 9 cb bA.2.1 bA.2.2 >>= fun cO =>
   lB 9 cb cO.2.1 cO.2.2 >>= fun dG =>
   lB 4 cb dG.2.1 dG.2.2 >>= fun cA =>
   rQ 3 cb cA.2.1 cA.2.2 >>= fun dU =>
   if dU.1=true then
    some (.inr (dU.2.1,dU.2.2,([(⟨(⟨#[97]⟩:ByteArray),(-3),0,true⟩:aT),(⟨(⟨#[98]⟩:ByteArray),a6.1,0,true⟩:aT),(⟨(⟨#[99]⟩:ByteArray),0,(-4),false⟩:aT),(⟨(⟨#[100]⟩:ByteArray),ax.1,(-9),true⟩:aT)]:List aT).set 1 (⟨aF.hI,aF.gM,2,aF.hF⟩:aT),([(⟨0,2,1⟩:bk),(⟨2,1,1⟩:bk)]:List bk),([0,0,0,0,U (cO.1-(4:Int)),U (0-dG.1),0,0]:List Int),([(⟨0,1,U ((1:Int)+cA.1),U ((1:Int)+cA.1)⟩:bu)]:List bu)))
   else
    some (.inr (dU.2.1,dU.2.2,([(⟨(⟨#[97]⟩:ByteArray),(-3),0,true⟩:aT),(⟨(⟨#[98]⟩:ByteArray),a6.1,0,true⟩:aT),(⟨(⟨#[99]⟩:ByteArray),0,(-4),false⟩:aT),(⟨(⟨#[100]⟩:ByteArray),ax.1,(-9),true⟩:aT)]:List aT).set 1 (⟨aF.hI,aF.gM,2,aF.hF⟩:aT),([(⟨0,2,1⟩:bk),(⟨2,1,1⟩:bk)]:List bk),([0,0,0,0,U (cO.1-(4:Int)),U (0-dG.1),0,0]:List Int),([(⟨0,1,U ((1:Int)+cA.1),1⟩:bu)]:List bu)))
 else
  rQ 2 cb a6.2.1 a6.2.2 >>= fun bA =>
  if bA.1=true then
   xk ([1,2,3]:List Int) cb bA.2.1 bA.2.2 >>= fun cO =>
   if (([(⟨0,2,1⟩:bk),(⟨2,1,1⟩:bk)]:List bk)++([(⟨2,3,cO.1⟩:bk)]:List bk)).length*24≤140737488355328 then
   lB 9 cb cO.2.1 cO.2.2 >>= fun d2 =>
   lB 9 cb d2.2.1 d2.2.2 >>= fun fB =>
   lB 4 cb fB.2.1 fB.2.2 >>= fun fw =>
   rQ 3 cb fw.2.1 fw.2.2 >>= fun hl =>
   if hl.1=true then
    some (.inl (hl.2.1,hl.2.2,([(⟨(⟨#[97]⟩:ByteArray),(-3),0,true⟩:aT),(⟨(⟨#[98]⟩:ByteArray),a6.1,0,true⟩:aT),(⟨(⟨#[99]⟩:ByteArray),0,(-4),false⟩:aT),(⟨(⟨#[100]⟩:ByteArray),ax.1,(-9),true⟩:aT)]:List aT),([(⟨0,2,1⟩:bk),(⟨2,1,1⟩:bk)]:List bk)++([(⟨2,3,cO.1⟩:bk)]:List bk),([0,0,0,0,U (d2.1-(4:Int)),U (0-fB.1),0,0]:List Int),([(⟨0,1,U ((1:Int)+fw.1),U ((1:Int)+fw.1)⟩:bu)]:List bu)))
   else
    some (.inl (hl.2.1,hl.2.2,([(⟨(⟨#[97]⟩:ByteArray),(-3),0,true⟩:aT),(⟨(⟨#[98]⟩:ByteArray),a6.1,0,true⟩:aT),(⟨(⟨#[99]⟩:ByteArray),0,(-4),false⟩:aT),(⟨(⟨#[100]⟩:ByteArray),ax.1,(-9),true⟩:aT)]:List aT),([(⟨0,2,1⟩:bk),(⟨2,1,1⟩:bk)]:List bk)++([(⟨2,3,cO.1⟩:bk)]:List bk),([0,0,0,0,U (d2.1-(4:Int)),U (0-fB.1),0,0]:List Int),([(⟨0,1,U ((1:Int)+fw.1),1⟩:bu)]:List bu)))
   else none
  else
   lB 9 cb bA.2.1 bA.2.2 >>= fun cO =>
   lB 9 cb cO.2.1 cO.2.2 >>= fun dG =>
   lB 4 cb dG.2.1 dG.2.2 >>= fun cA =>
   rQ 3 cb cA.2.1 cA.2.2 >>= fun dU =>
   if dU.1=true then
    some (.inr (dU.2.1,dU.2.2,([(⟨(⟨#[97]⟩:ByteArray),(-3),0,true⟩:aT),(⟨(⟨#[98]⟩:ByteArray),a6.1,0,true⟩:aT),(⟨(⟨#[99]⟩:ByteArray),0,(-4),false⟩:aT),(⟨(⟨#[100]⟩:ByteArray),ax.1,(-9),true⟩:aT)]:List aT),([(⟨0,2,1⟩:bk),(⟨2,1,1⟩:bk)]:List bk),([0,0,0,0,U (cO.1-(4:Int)),U (0-dG.1),0,0]:List Int),([(⟨0,1,U ((1:Int)+cA.1),U ((1:Int)+cA.1)⟩:bu)]:List bu)))
   else
    some (.inr (dU.2.1,dU.2.2,([(⟨(⟨#[97]⟩:ByteArray),(-3),0,true⟩:aT),(⟨(⟨#[98]⟩:ByteArray),a6.1,0,true⟩:aT),(⟨(⟨#[99]⟩:ByteArray),0,(-4),false⟩:aT),(⟨(⟨#[100]⟩:ByteArray),ax.1,(-9),true⟩:aT)]:List aT),([(⟨0,2,1⟩:bk),(⟨2,1,1⟩:bk)]:List bk),([0,0,0,0,U (cO.1-(4:Int)),U (0-dG.1),0,0]:List Int),([(⟨0,1,U ((1:Int)+cA.1),1⟩:bu)]:List bu)))
 else none
set_option maxHeartbeats 4000000 in
theorem LV {cb:List Int}{cB ft:Int}:b6 (xl cb cB ft) (Sum.elim (fun a=>Con bC 13 [.ref 0 0 0 0] [[ab.mk 3 [[.isl 1 (cb.map eU8),.n .i64 cB,.n .i64 ft]] .live]] (.dK [.agg [.bm 1 0 0 4,.bm 1 1 0 a.2.2.2.1.length],.bm 1 2 0 8,.bm 1 3 0 1]) [[ab.mk 3 [[.isl 1 (cb.map eU8),.n .i64 a.1,.n .i64 a.2.1]] .live],[ab.mk 4 (a.2.2.1.map cu) .live,ab.mk 3 (a.2.2.2.1.map cq) .live,ab.mk 1 (a.2.2.2.2.1.map J) .live,ab.mk 4 (a.2.2.2.2.2.map cL) .live]]) (fun a=>Con bC 13 [.ref 0 0 0 0] [[ab.mk 3 [[.isl 1 (cb.map eU8),.n .i64 cB,.n .i64 ft]] .live]] (.dK [.agg [.bm 1 0 0 4,.bm 1 1 0 2],.bm 1 2 0 8,.bm 1 3 0 1]) [[ab.mk 3 [[.isl 1 (cb.map eU8),.n .i64 a.1,.n .i64 a.2.1]] .live],[ab.mk 4 (a.2.2.1.map cu) .live,ab.mk 3 (a.2.2.2.1.map cq) .live,ab.mk 1 (a.2.2.2.2.1.map J) .live,ab.mk 4 (a.2.2.2.2.2.map cL) .live]])):=by
 unfold xl
 exact .aC fun ax R =>
  .aC fun a6 aB =>
  .bn fun aK =>
  .aC fun aF bS =>
  (let t1:List c5:=[(ag 3),.aH (bU 1 (.call {aM:=[.row 0],cM:=[.box [.id,.id,.id]],ac:=[ii,ii],r:= .n .i64 ax.1,dT:=[[ab.mk 3 [[.isl 1 (cb.map eU8),.n .i64 ax.2.1,.n .i64 ax.2.2]] .live]],ff:=ii,fR:=[.box [.id,.id,.id]],dA:=[0],dt:=false}) 1),.aH (bU 3 (.vW 9 (.call {aM:=[.row 0],cM:=[.box [.id,.id,.id]],ac:=[ii,.bp (.b4 (.ej (([3,0,8]:List Int).map J)))],r:= .n .i64 a6.1,dT:=[[ab.mk 3 [[.isl 1 (cb.map eU8),.n .i64 a6.2.1,.n .i64 a6.2.2]] .live]],ff:=ii,fR:=[.box [.id,.id,.id]],dA:=[0,9],dt:=false})) 8),.aH (an 3 (aq (.cK (cu aF)) (aq (.cK (cu aF)) (an 1 []))))];
  have bg:=((.bh (ox ax R) (pg (show [[.n .i64 (3:Int)],[.n .i64 (0:Int)],[.n .i64 (8:Int)]]=(([3,0,8]:List Int)).map J from rfl) (show 3=([3,0,8]:List Int).length from rfl)) (sx (show [[.n .i64 (3:Int)],[.n .i64 (0:Int)],[.n .i64 (8:Int)]]=(([3,0,8]:List Int)).map J from rfl) (show 3=([3,0,8]:List Int).length from rfl)) (dP aE ([3,0,8]:List Int)) (Hh a6 aB) aK.1 aK.2 (z3 (show [[.s (⟨#[97]⟩:ByteArray),.n .i64 (-3:Int),.n .i64 (0:Int),.b true],[.s (⟨#[98]⟩:ByteArray),.n .i64 a6.1,.n .i64 (0:Int),.b true],[.s (⟨#[99]⟩:ByteArray),.n .i64 (0:Int),.n .i64 (-4:Int),.b false],[.s (⟨#[100]⟩:ByteArray),.n .i64 ax.1,.n .i64 (-9:Int),.b true]]=(([(⟨(⟨#[97]⟩:ByteArray),(-3),0,true⟩:aT),(⟨(⟨#[98]⟩:ByteArray),a6.1,0,true⟩:aT),(⟨(⟨#[99]⟩:ByteArray),0,(-4),false⟩:aT),(⟨(⟨#[100]⟩:ByteArray),ax.1,(-9),true⟩:aT)]:List aT)).map cu from rfl) bS) (.ay (z3 (show [[.s (⟨#[97]⟩:ByteArray),.n .i64 (-3:Int),.n .i64 (0:Int),.b true],[.s (⟨#[98]⟩:ByteArray),.n .i64 a6.1,.n .i64 (0:Int),.b true],[.s (⟨#[99]⟩:ByteArray),.n .i64 (0:Int),.n .i64 (-4:Int),.b false],[.s (⟨#[100]⟩:ByteArray),.n .i64 ax.1,.n .i64 (-9:Int),.b true]]=(([(⟨(⟨#[97]⟩:ByteArray),(-3),0,true⟩:aT),(⟨(⟨#[98]⟩:ByteArray),a6.1,0,true⟩:aT),(⟨(⟨#[99]⟩:ByteArray),0,(-4),false⟩:aT),(⟨(⟨#[100]⟩:ByteArray),ax.1,(-9),true⟩:aT)]:List aT)).map cu from rfl) bS))):c9 _);
  .ite (fun bx =>
  .aC fun bA dQ =>
  (let t3:List c5:=t1.append [.ao true,.aH (an 3 (aq (.cK (cu aF)) (aq (.cK (cu aF)) []))),(ag 5),.aH (an 1 (aq (.call {aM:=[.row 0],cM:=[.box [.id,.id,.id]],ac:=[ii,ii],r:= .b bA.1,dT:=[[ab.mk 3 [[.isl 1 (cb.map eU8),.n .i64 bA.2.1,.n .i64 bA.2.2]] .live]],ff:=ii,fR:=[.box [.id,.id,.id]],dA:=[0],dt:=false}) []))];
  have f7:=bg.bb (.eK bx aK.1 aK.2 (z3 (show [[.s (⟨#[97]⟩:ByteArray),.n .i64 (-3:Int),.n .i64 (0:Int),.b true],[.s (⟨#[98]⟩:ByteArray),.n .i64 a6.1,.n .i64 (0:Int),.b true],[.s (⟨#[99]⟩:ByteArray),.n .i64 (0:Int),.n .i64 (-4:Int),.b false],[.s (⟨#[100]⟩:ByteArray),.n .i64 ax.1,.n .i64 (-9:Int),.b true]]=(([(⟨(⟨#[97]⟩:ByteArray),(-3),0,true⟩:aT),(⟨(⟨#[98]⟩:ByteArray),a6.1,0,true⟩:aT),(⟨(⟨#[99]⟩:ByteArray),0,(-4),false⟩:aT),(⟨(⟨#[100]⟩:ByteArray),ax.1,(-9),true⟩:aT)]:List aT)).map cu from rfl) bS) (z3 (show [[.s (⟨#[97]⟩:ByteArray),.n .i64 (-3:Int),.n .i64 (0:Int),.b true],[.s (⟨#[98]⟩:ByteArray),.n .i64 a6.1,.n .i64 (0:Int),.b true],[.s (⟨#[99]⟩:ByteArray),.n .i64 (0:Int),.n .i64 (-4:Int),.b false],[.s (⟨#[100]⟩:ByteArray),.n .i64 ax.1,.n .i64 (-9:Int),.b true]]=(([(⟨(⟨#[97]⟩:ByteArray),(-3),0,true⟩:aT),(⟨(⟨#[98]⟩:ByteArray),a6.1,0,true⟩:aT),(⟨(⟨#[99]⟩:ByteArray),0,(-4),false⟩:aT),(⟨(⟨#[100]⟩:ByteArray),ax.1,(-9),true⟩:aT)]:List aT)).map cu from rfl) bS) (xa bA dQ));
  .ite (fun dC =>
  .aC fun cO eC =>
  .bn fun eQ =>
  .aC fun d2 hJ =>
  .aC fun fB ku =>
  .aC fun fw kV =>
  .aC fun hl jc =>
  (let t5:List c5:=t3.append [.ao true,.aH (an 4 (aq (.vW 40 (.call {aM:=[.row 0],cM:=[.box [.id,.id,.id]],ac:=[ii,.bp (.b4 (.ej (([1,2,3]:List Int).map J)))],r:= .n .i64 cO.1,dT:=[[ab.mk 3 [[.isl 1 (cb.map eU8),.n .i64 cO.2.1,.n .i64 cO.2.2]] .live]],ff:=ii,fR:=[.box [.id,.id,.id]],dA:=[0,40],dt:=false})) (bU 2 (.bb ((([(⟨0,2,1⟩:bk),(⟨2,1,1⟩:bk)]:List bk)++([(⟨2,3,cO.1⟩:bk)]:List bk)).length)) 2))),.aH (an 1 (aq (.call {aM:=[.row 0],cM:=[.box [.id,.id,.id]],ac:=[ii,ii],r:= .n .i64 d2.1,dT:=[[ab.mk 3 [[.isl 1 (cb.map eU8),.n .i64 d2.2.1,.n .i64 d2.2.2]] .live]],ff:=ii,fR:=[.box [.id,.id,.id]],dA:=[0],dt:=false}) (bU 2 (.call {aM:=[.row 0],cM:=[.box [.id,.id,.id]],ac:=[ii,ii],r:= .n .i64 fB.1,dT:=[[ab.mk 3 [[.isl 1 (cb.map eU8),.n .i64 fB.2.1,.n .i64 fB.2.2]] .live]],ff:=ii,fR:=[.box [.id,.id,.id]],dA:=[0],dt:=false}) 3))),.aH (bU 1 (.call {aM:=[.row 0],cM:=[.box [.id,.id,.id]],ac:=[ii,ii],r:= .n .i64 fw.1,dT:=[[ab.mk 3 [[.isl 1 (cb.map eU8),.n .i64 fw.2.1,.n .i64 fw.2.2]] .live]],ff:=ii,fR:=[.box [.id,.id,.id]],dA:=[0],dt:=false}) 4),.aH (an 1 (aq (.call {aM:=[.row 0],cM:=[.box [.id,.id,.id]],ac:=[ii,ii],r:= .b hl.1,dT:=[[ab.mk 3 [[.isl 1 (cb.map eU8),.n .i64 hl.2.1,.n .i64 hl.2.2]] .live]],ff:=ii,fR:=[.box [.id,.id,.id]],dA:=[0],dt:=false}) []))];
  have kc:=f7.bb (.bh dC (pg (show [[.n .i64 (1:Int)],[.n .i64 (2:Int)],[.n .i64 (3:Int)]]=(([1,2,3]:List Int)).map J from rfl) (show 3=([1,2,3]:List Int).length from rfl)) (sx (show [[.n .i64 (1:Int)],[.n .i64 (2:Int)],[.n .i64 (3:Int)]]=(([1,2,3]:List Int)).map J from rfl) (show 3=([1,2,3]:List Int).length from rfl)) (dP aE ([1,2,3]:List Int)) (Hh cO eC) (m1 cq (⟨2,3,cO.1⟩:bk)) (u1 (show [[.n .i64 (0:Int),.n .i64 (2:Int),.n .i64 (1:Int)],[.n .i64 (2:Int),.n .i64 (1:Int),.n .i64 (1:Int)]]=(([(⟨0,2,1⟩:bk),(⟨2,1,1⟩:bk)]:List bk)).map cq from rfl) (show 2=([(⟨0,2,1⟩:bk),(⟨2,1,1⟩:bk)]:List bk).length from rfl)) (xS (show 2=([(⟨0,2,1⟩:bk),(⟨2,1,1⟩:bk)]:List bk).length from rfl) (rG cq (⟨2,3,cO.1⟩:bk))) (.dV eQ (ox d2 hJ) (ox fB ku) (ox fw kV) (xa hl jc)));
  .ite (fun lx =>
  .ret (let aW:=(([(⟨0,2,1⟩:bk),(⟨2,1,1⟩:bk)]:List bk)++([(⟨2,3,cO.1⟩:bk)]:List bk));let bi:=cX [0,1];iu (t5.append [.ao true,(ag 4),(ag 7),.qa [{bN:=some (0,0)},{aU:=[(15,0),(44,0),(53,0),(70,0)],bN:=none},{aU:=[(1,0)]}] [([],some (.box [.id,.id,.id])),([.da (av 4 cu (([(⟨(⟨#[97]⟩:ByteArray),(-3),0,true⟩:aT),(⟨(⟨#[98]⟩:ByteArray),a6.1,0,true⟩:aT),(⟨(⟨#[99]⟩:ByteArray),0,(-4),false⟩:aT),(⟨(⟨#[100]⟩:ByteArray),ax.1,(-9),true⟩:aT)]:List aT).set 1 (⟨aF.hI,aF.gM,2,aF.hF⟩:aT))),.da (av 3 cq aW),.da (av 1 J ([0,0,0,0,U (d2.1-(4:Int)),U (0-fB.1),0,0]:List Int)),.da (av 4 cL ([(⟨0,1,U ((1:Int)+fw.1),U ((1:Int)+fw.1)⟩:bu)]:List bu))],none),([.box [.at_ 1 0 4,.at_ 1 1 (aW.length)]],none)] [(2,.bp (.b4 (.at_ 2 0 0))),(3,.bp (.b4 (.at_ 1 2 8))),(4,.bp (.b4 (.at_ 1 3 1)))]]) [0,1] [.box [.id,.id,.id],.bt [ab.mk 4 ((([(⟨(⟨#[97]⟩:ByteArray),(-3),0,true⟩:aT),(⟨(⟨#[98]⟩:ByteArray),a6.1,0,true⟩:aT),(⟨(⟨#[99]⟩:ByteArray),0,(-4),false⟩:aT),(⟨(⟨#[100]⟩:ByteArray),ax.1,(-9),true⟩:aT)]:List aT).set 1 (⟨aF.hI,aF.gM,2,aF.hF⟩:aT)).map cu) .live,ab.mk 3 (aW.map cq) .live,ab.mk 1 (([0,0,0,0,U (d2.1-(4:Int)),U (0-fB.1),0,0]:List Int).map J) .live,ab.mk 4 (([(⟨0,1,U ((1:Int)+fw.1),U ((1:Int)+fw.1)⟩:bu)]:List bu).map cL) .live]] (kc.bb (.bh lx (dF 4 .live (lD (show [[.s (⟨#[97]⟩:ByteArray),.n .i64 (-3:Int),.n .i64 (0:Int),.b true],[.s (⟨#[98]⟩:ByteArray),.n .i64 a6.1,.n .i64 (0:Int),.b true],[.s (⟨#[99]⟩:ByteArray),.n .i64 (0:Int),.n .i64 (-4:Int),.b false],[.s (⟨#[100]⟩:ByteArray),.n .i64 ax.1,.n .i64 (-9:Int),.b true]]=(([(⟨(⟨#[97]⟩:ByteArray),(-3),0,true⟩:aT),(⟨(⟨#[98]⟩:ByteArray),a6.1,0,true⟩:aT),(⟨(⟨#[99]⟩:ByteArray),0,(-4),false⟩:aT),(⟨(⟨#[100]⟩:ByteArray),ax.1,(-9),true⟩:aT)]:List aT)).map cu from rfl) 1 (⟨aF.hI,aF.gM,2,aF.hF⟩:aT) (rfl:(setCells (cu aF) 2 [.n .i64 (2:Int)])=cu (⟨aF.hI,aF.gM,2,aF.hF⟩:aT)))) (aA 4 .live l1 (([(⟨(⟨#[97]⟩:ByteArray),(-3),0,true⟩:aT),(⟨(⟨#[98]⟩:ByteArray),a6.1,0,true⟩:aT),(⟨(⟨#[99]⟩:ByteArray),0,(-4),false⟩:aT),(⟨(⟨#[100]⟩:ByteArray),ax.1,(-9),true⟩:aT)]:List aT).set 1 (⟨aF.hI,aF.gM,2,aF.hF⟩:aT))) (dF 3 .live (q9 (show [[.n .i64 (0:Int),.n .i64 (2:Int),.n .i64 (1:Int)],[.n .i64 (2:Int),.n .i64 (1:Int),.n .i64 (1:Int)]]=(([(⟨0,2,1⟩:bk),(⟨2,1,1⟩:bk)]:List bk)).map cq from rfl) (show 2=([(⟨0,2,1⟩:bk),(⟨2,1,1⟩:bk)]:List bk).length from rfl) (rG cq (⟨2,3,cO.1⟩:bk)))) (aA 3 .live l0 aW) (dF 1 .live (show [[.n .i64 (0:Int)],[.n .i64 (0:Int)],[.n .i64 (0:Int)],[.n .i64 (0:Int)],[.n .i64 (U (d2.1-(4:Int)))],[.n .i64 (U (0-fB.1))],[.n .i64 (0:Int)],[.n .i64 (0:Int)]]=(([0,0,0,0,U (d2.1-(4:Int)),U (0-fB.1),0,0]:List Int)).map J from rfl)) (aA 1 .live aE ([0,0,0,0,U (d2.1-(4:Int)),U (0-fB.1),0,0]:List Int)) (dF 4 .live (show [[.n .i64 (0:Int),.n .i64 (1:Int),.n .i64 (U ((1:Int)+fw.1)),.n .i64 (U ((1:Int)+fw.1))]]=(([(⟨0,1,U ((1:Int)+fw.1),U ((1:Int)+fw.1)⟩:bu)]:List bu)).map cL from rfl)) (.bh (aA 4 .live mh ([(⟨0,1,U ((1:Int)+fw.1),U ((1:Int)+fw.1)⟩:bu)]:List bu)) (rfl:(fb [{bN:=some (0,0)},{aU:=[(15,0),(44,0),(53,0),(70,0)],bN:=none},{aU:=[(1,0)]}]) 1 0=some (15,0)) (rfl:4=4) (rfl:(fb [{bN:=some (0,0)},{aU:=[(15,0),(44,0),(53,0),(70,0)],bN:=none},{aU:=[(1,0)]}]) 1 1=some (44,0)) (rfl:aW.length=aW.length) (rfl:(fb [{bN:=some (0,0)},{aU:=[(15,0),(44,0),(53,0),(70,0)],bN:=none},{aU:=[(1,0)]}]) 2 0=some (1,0)) (rfl:(fb [{bN:=some (0,0)},{aU:=[(15,0),(44,0),(53,0),(70,0)],bN:=none},{aU:=[(1,0)]}]) 1 2=some (53,0)) (rfl:8=8) (.bV (rfl:(fb [{bN:=some (0,0)},{aU:=[(15,0),(44,0),(53,0),(70,0)],bN:=none},{aU:=[(1,0)]}]) 1 3=some (70,0)) (rfl:1=1) (c4 (dm bi 4 pe (([(⟨(⟨#[97]⟩:ByteArray),(-3),0,true⟩:aT),(⟨(⟨#[98]⟩:ByteArray),a6.1,0,true⟩:aT),(⟨(⟨#[99]⟩:ByteArray),0,(-4),false⟩:aT),(⟨(⟨#[100]⟩:ByteArray),ax.1,(-9),true⟩:aT)]:List aT).set 1 (⟨aF.hI,aF.gM,2,aF.hF⟩:aT))) (c4 (dm bi 3 pd aW) (c4 (dm bi 1 fa ([0,0,0,0,U (d2.1-(4:Int)),U (0-fB.1),0,0]:List Int)) (c4 (dm bi 4 pf ([(⟨0,1,U ((1:Int)+fw.1),U ((1:Int)+fw.1)⟩:bu)]:List bu)) (ib (bQ:=bi)))))))))) (.comp [.agg [.id,.id],.b4 .id,.b4 .id])))
  (fun lx =>
  .ret (let cd:=(([(⟨0,2,1⟩:bk),(⟨2,1,1⟩:bk)]:List bk)++([(⟨2,3,cO.1⟩:bk)]:List bk));let cV:=cX [0,1];iu (t5.append [.ao false,(ag 7),.qa [{bN:=some (0,0)},{aU:=[(15,0),(44,0),(53,0),(66,0)],bN:=none},{aU:=[(1,0)]}] [([],some (.box [.id,.id,.id])),([.da (av 4 cu (([(⟨(⟨#[97]⟩:ByteArray),(-3),0,true⟩:aT),(⟨(⟨#[98]⟩:ByteArray),a6.1,0,true⟩:aT),(⟨(⟨#[99]⟩:ByteArray),0,(-4),false⟩:aT),(⟨(⟨#[100]⟩:ByteArray),ax.1,(-9),true⟩:aT)]:List aT).set 1 (⟨aF.hI,aF.gM,2,aF.hF⟩:aT))),.da (av 3 cq cd),.da (av 1 J ([0,0,0,0,U (d2.1-(4:Int)),U (0-fB.1),0,0]:List Int)),.da (av 4 cL ([(⟨0,1,U ((1:Int)+fw.1),1⟩:bu)]:List bu))],none),([.box [.at_ 1 0 4,.at_ 1 1 (cd.length)]],none)] [(2,.bp (.b4 (.at_ 2 0 0))),(3,.bp (.b4 (.at_ 1 2 8))),(4,.bp (.b4 (.at_ 1 3 1)))]]) [0,1] [.box [.id,.id,.id],.bt [ab.mk 4 ((([(⟨(⟨#[97]⟩:ByteArray),(-3),0,true⟩:aT),(⟨(⟨#[98]⟩:ByteArray),a6.1,0,true⟩:aT),(⟨(⟨#[99]⟩:ByteArray),0,(-4),false⟩:aT),(⟨(⟨#[100]⟩:ByteArray),ax.1,(-9),true⟩:aT)]:List aT).set 1 (⟨aF.hI,aF.gM,2,aF.hF⟩:aT)).map cu) .live,ab.mk 3 (cd.map cq) .live,ab.mk 1 (([0,0,0,0,U (d2.1-(4:Int)),U (0-fB.1),0,0]:List Int).map J) .live,ab.mk 4 (([(⟨0,1,U ((1:Int)+fw.1),1⟩:bu)]:List bu).map cL) .live]] (kc.bb (.bh lx (dF 4 .live (lD (show [[.s (⟨#[97]⟩:ByteArray),.n .i64 (-3:Int),.n .i64 (0:Int),.b true],[.s (⟨#[98]⟩:ByteArray),.n .i64 a6.1,.n .i64 (0:Int),.b true],[.s (⟨#[99]⟩:ByteArray),.n .i64 (0:Int),.n .i64 (-4:Int),.b false],[.s (⟨#[100]⟩:ByteArray),.n .i64 ax.1,.n .i64 (-9:Int),.b true]]=(([(⟨(⟨#[97]⟩:ByteArray),(-3),0,true⟩:aT),(⟨(⟨#[98]⟩:ByteArray),a6.1,0,true⟩:aT),(⟨(⟨#[99]⟩:ByteArray),0,(-4),false⟩:aT),(⟨(⟨#[100]⟩:ByteArray),ax.1,(-9),true⟩:aT)]:List aT)).map cu from rfl) 1 (⟨aF.hI,aF.gM,2,aF.hF⟩:aT) (rfl:(setCells (cu aF) 2 [.n .i64 (2:Int)])=cu (⟨aF.hI,aF.gM,2,aF.hF⟩:aT)))) (aA 4 .live l1 (([(⟨(⟨#[97]⟩:ByteArray),(-3),0,true⟩:aT),(⟨(⟨#[98]⟩:ByteArray),a6.1,0,true⟩:aT),(⟨(⟨#[99]⟩:ByteArray),0,(-4),false⟩:aT),(⟨(⟨#[100]⟩:ByteArray),ax.1,(-9),true⟩:aT)]:List aT).set 1 (⟨aF.hI,aF.gM,2,aF.hF⟩:aT))) (dF 3 .live (q9 (show [[.n .i64 (0:Int),.n .i64 (2:Int),.n .i64 (1:Int)],[.n .i64 (2:Int),.n .i64 (1:Int),.n .i64 (1:Int)]]=(([(⟨0,2,1⟩:bk),(⟨2,1,1⟩:bk)]:List bk)).map cq from rfl) (show 2=([(⟨0,2,1⟩:bk),(⟨2,1,1⟩:bk)]:List bk).length from rfl) (rG cq (⟨2,3,cO.1⟩:bk)))) (aA 3 .live l0 cd) (dF 1 .live (show [[.n .i64 (0:Int)],[.n .i64 (0:Int)],[.n .i64 (0:Int)],[.n .i64 (0:Int)],[.n .i64 (U (d2.1-(4:Int)))],[.n .i64 (U (0-fB.1))],[.n .i64 (0:Int)],[.n .i64 (0:Int)]]=(([0,0,0,0,U (d2.1-(4:Int)),U (0-fB.1),0,0]:List Int)).map J from rfl)) (aA 1 .live aE ([0,0,0,0,U (d2.1-(4:Int)),U (0-fB.1),0,0]:List Int)) (dF 4 .live (show [[.n .i64 (0:Int),.n .i64 (1:Int),.n .i64 (U ((1:Int)+fw.1)),.n .i64 (1:Int)]]=(([(⟨0,1,U ((1:Int)+fw.1),1⟩:bu)]:List bu)).map cL from rfl)) (.bh (aA 4 .live mh ([(⟨0,1,U ((1:Int)+fw.1),1⟩:bu)]:List bu)) (rfl:(fb [{bN:=some (0,0)},{aU:=[(15,0),(44,0),(53,0),(66,0)],bN:=none},{aU:=[(1,0)]}]) 1 0=some (15,0)) (rfl:4=4) (rfl:(fb [{bN:=some (0,0)},{aU:=[(15,0),(44,0),(53,0),(66,0)],bN:=none},{aU:=[(1,0)]}]) 1 1=some (44,0)) (rfl:cd.length=cd.length) (rfl:(fb [{bN:=some (0,0)},{aU:=[(15,0),(44,0),(53,0),(66,0)],bN:=none},{aU:=[(1,0)]}]) 2 0=some (1,0)) (rfl:(fb [{bN:=some (0,0)},{aU:=[(15,0),(44,0),(53,0),(66,0)],bN:=none},{aU:=[(1,0)]}]) 1 2=some (53,0)) (rfl:8=8) (.bV (rfl:(fb [{bN:=some (0,0)},{aU:=[(15,0),(44,0),(53,0),(66,0)],bN:=none},{aU:=[(1,0)]}]) 1 3=some (66,0)) (rfl:1=1) (c4 (dm cV 4 pe (([(⟨(⟨#[97]⟩:ByteArray),(-3),0,true⟩:aT),(⟨(⟨#[98]⟩:ByteArray),a6.1,0,true⟩:aT),(⟨(⟨#[99]⟩:ByteArray),0,(-4),false⟩:aT),(⟨(⟨#[100]⟩:ByteArray),ax.1,(-9),true⟩:aT)]:List aT).set 1 (⟨aF.hI,aF.gM,2,aF.hF⟩:aT))) (c4 (dm cV 3 pd cd) (c4 (dm cV 1 fa ([0,0,0,0,U (d2.1-(4:Int)),U (0-fB.1),0,0]:List Int)) (c4 (dm cV 4 pf ([(⟨0,1,U ((1:Int)+fw.1),1⟩:bu)]:List bu)) (ib (bQ:=cV)))))))))) (.comp [.agg [.id,.id],.b4 .id,.b4 .id])))))
  (fun dC =>
  .aC fun cO eC =>
  .aC fun dG gk =>
  .aC fun cA fS =>
  .aC fun dU kf =>
  (let t5:List c5:=t3.append [.ao false,.aH (an 1 (aq (.call {aM:=[.row 0],cM:=[.box [.id,.id,.id]],ac:=[ii,ii],r:= .n .i64 cO.1,dT:=[[ab.mk 3 [[.isl 1 (cb.map eU8),.n .i64 cO.2.1,.n .i64 cO.2.2]] .live]],ff:=ii,fR:=[.box [.id,.id,.id]],dA:=[0],dt:=false}) (bU 2 (.call {aM:=[.row 0],cM:=[.box [.id,.id,.id]],ac:=[ii,ii],r:= .n .i64 dG.1,dT:=[[ab.mk 3 [[.isl 1 (cb.map eU8),.n .i64 dG.2.1,.n .i64 dG.2.2]] .live]],ff:=ii,fR:=[.box [.id,.id,.id]],dA:=[0],dt:=false}) 3))),.aH (bU 1 (.call {aM:=[.row 0],cM:=[.box [.id,.id,.id]],ac:=[ii,ii],r:= .n .i64 cA.1,dT:=[[ab.mk 3 [[.isl 1 (cb.map eU8),.n .i64 cA.2.1,.n .i64 cA.2.2]] .live]],ff:=ii,fR:=[.box [.id,.id,.id]],dA:=[0],dt:=false}) 4),.aH (an 1 (aq (.call {aM:=[.row 0],cM:=[.box [.id,.id,.id]],ac:=[ii,ii],r:= .b dU.1,dT:=[[ab.mk 3 [[.isl 1 (cb.map eU8),.n .i64 dU.2.1,.n .i64 dU.2.2]] .live]],ff:=ii,fR:=[.box [.id,.id,.id]],dA:=[0],dt:=false}) []))];
  have kc:=f7.bb (.dV dC (ox cO eC) (ox dG gk) (ox cA fS) (xa dU kf));
  .ite (fun kV =>
  .ret (let dX:=cX [0,1];iu (t5.append [.ao true,(ag 4),(ag 7),.qa [{bN:=some (0,0)},{aU:=[(15,0),(32,0),(43,0),(60,0)],bN:=none},{aU:=[(1,0)]}] [([],some (.box [.id,.id,.id])),([.da (av 4 cu (([(⟨(⟨#[97]⟩:ByteArray),(-3),0,true⟩:aT),(⟨(⟨#[98]⟩:ByteArray),a6.1,0,true⟩:aT),(⟨(⟨#[99]⟩:ByteArray),0,(-4),false⟩:aT),(⟨(⟨#[100]⟩:ByteArray),ax.1,(-9),true⟩:aT)]:List aT).set 1 (⟨aF.hI,aF.gM,2,aF.hF⟩:aT))),.da (av 3 cq ([(⟨0,2,1⟩:bk),(⟨2,1,1⟩:bk)]:List bk)),.da (av 1 J ([0,0,0,0,U (cO.1-(4:Int)),U (0-dG.1),0,0]:List Int)),.da (av 4 cL ([(⟨0,1,U ((1:Int)+cA.1),U ((1:Int)+cA.1)⟩:bu)]:List bu))],none),([.box [.at_ 1 0 4,.at_ 1 1 2]],none)] [(2,.bp (.b4 (.at_ 2 0 0))),(3,.bp (.b4 (.at_ 1 2 8))),(4,.bp (.b4 (.at_ 1 3 1)))]]) [0,1] [.box [.id,.id,.id],.bt [ab.mk 4 ((([(⟨(⟨#[97]⟩:ByteArray),(-3),0,true⟩:aT),(⟨(⟨#[98]⟩:ByteArray),a6.1,0,true⟩:aT),(⟨(⟨#[99]⟩:ByteArray),0,(-4),false⟩:aT),(⟨(⟨#[100]⟩:ByteArray),ax.1,(-9),true⟩:aT)]:List aT).set 1 (⟨aF.hI,aF.gM,2,aF.hF⟩:aT)).map cu) .live,ab.mk 3 (([(⟨0,2,1⟩:bk),(⟨2,1,1⟩:bk)]:List bk).map cq) .live,ab.mk 1 (([0,0,0,0,U (cO.1-(4:Int)),U (0-dG.1),0,0]:List Int).map J) .live,ab.mk 4 (([(⟨0,1,U ((1:Int)+cA.1),U ((1:Int)+cA.1)⟩:bu)]:List bu).map cL) .live]] (kc.bb (.bh kV (dF 4 .live (lD (show [[.s (⟨#[97]⟩:ByteArray),.n .i64 (-3:Int),.n .i64 (0:Int),.b true],[.s (⟨#[98]⟩:ByteArray),.n .i64 a6.1,.n .i64 (0:Int),.b true],[.s (⟨#[99]⟩:ByteArray),.n .i64 (0:Int),.n .i64 (-4:Int),.b false],[.s (⟨#[100]⟩:ByteArray),.n .i64 ax.1,.n .i64 (-9:Int),.b true]]=(([(⟨(⟨#[97]⟩:ByteArray),(-3),0,true⟩:aT),(⟨(⟨#[98]⟩:ByteArray),a6.1,0,true⟩:aT),(⟨(⟨#[99]⟩:ByteArray),0,(-4),false⟩:aT),(⟨(⟨#[100]⟩:ByteArray),ax.1,(-9),true⟩:aT)]:List aT)).map cu from rfl) 1 (⟨aF.hI,aF.gM,2,aF.hF⟩:aT) (rfl:(setCells (cu aF) 2 [.n .i64 (2:Int)])=cu (⟨aF.hI,aF.gM,2,aF.hF⟩:aT)))) (aA 4 .live l1 (([(⟨(⟨#[97]⟩:ByteArray),(-3),0,true⟩:aT),(⟨(⟨#[98]⟩:ByteArray),a6.1,0,true⟩:aT),(⟨(⟨#[99]⟩:ByteArray),0,(-4),false⟩:aT),(⟨(⟨#[100]⟩:ByteArray),ax.1,(-9),true⟩:aT)]:List aT).set 1 (⟨aF.hI,aF.gM,2,aF.hF⟩:aT))) (dF 3 .live (show [[.n .i64 (0:Int),.n .i64 (2:Int),.n .i64 (1:Int)],[.n .i64 (2:Int),.n .i64 (1:Int),.n .i64 (1:Int)]]=(([(⟨0,2,1⟩:bk),(⟨2,1,1⟩:bk)]:List bk)).map cq from rfl)) (aA 3 .live l0 ([(⟨0,2,1⟩:bk),(⟨2,1,1⟩:bk)]:List bk)) (dF 1 .live (show [[.n .i64 (0:Int)],[.n .i64 (0:Int)],[.n .i64 (0:Int)],[.n .i64 (0:Int)],[.n .i64 (U (cO.1-(4:Int)))],[.n .i64 (U (0-dG.1))],[.n .i64 (0:Int)],[.n .i64 (0:Int)]]=(([0,0,0,0,U (cO.1-(4:Int)),U (0-dG.1),0,0]:List Int)).map J from rfl)) (aA 1 .live aE ([0,0,0,0,U (cO.1-(4:Int)),U (0-dG.1),0,0]:List Int)) (dF 4 .live (show [[.n .i64 (0:Int),.n .i64 (1:Int),.n .i64 (U ((1:Int)+cA.1)),.n .i64 (U ((1:Int)+cA.1))]]=(([(⟨0,1,U ((1:Int)+cA.1),U ((1:Int)+cA.1)⟩:bu)]:List bu)).map cL from rfl)) (.bh (aA 4 .live mh ([(⟨0,1,U ((1:Int)+cA.1),U ((1:Int)+cA.1)⟩:bu)]:List bu)) (rfl:(fb [{bN:=some (0,0)},{aU:=[(15,0),(32,0),(43,0),(60,0)],bN:=none},{aU:=[(1,0)]}]) 1 0=some (15,0)) (rfl:4=4) (rfl:(fb [{bN:=some (0,0)},{aU:=[(15,0),(32,0),(43,0),(60,0)],bN:=none},{aU:=[(1,0)]}]) 1 1=some (32,0)) (rfl:2=2) (rfl:(fb [{bN:=some (0,0)},{aU:=[(15,0),(32,0),(43,0),(60,0)],bN:=none},{aU:=[(1,0)]}]) 2 0=some (1,0)) (rfl:(fb [{bN:=some (0,0)},{aU:=[(15,0),(32,0),(43,0),(60,0)],bN:=none},{aU:=[(1,0)]}]) 1 2=some (43,0)) (rfl:8=8) (.bV (rfl:(fb [{bN:=some (0,0)},{aU:=[(15,0),(32,0),(43,0),(60,0)],bN:=none},{aU:=[(1,0)]}]) 1 3=some (60,0)) (rfl:1=1) (c4 (dm dX 4 pe (([(⟨(⟨#[97]⟩:ByteArray),(-3),0,true⟩:aT),(⟨(⟨#[98]⟩:ByteArray),a6.1,0,true⟩:aT),(⟨(⟨#[99]⟩:ByteArray),0,(-4),false⟩:aT),(⟨(⟨#[100]⟩:ByteArray),ax.1,(-9),true⟩:aT)]:List aT).set 1 (⟨aF.hI,aF.gM,2,aF.hF⟩:aT))) (c4 (dm dX 3 pd ([(⟨0,2,1⟩:bk),(⟨2,1,1⟩:bk)]:List bk)) (c4 (dm dX 1 fa ([0,0,0,0,U (cO.1-(4:Int)),U (0-dG.1),0,0]:List Int)) (c4 (dm dX 4 pf ([(⟨0,1,U ((1:Int)+cA.1),U ((1:Int)+cA.1)⟩:bu)]:List bu)) (ib (bQ:=dX)))))))))) (.comp [.agg [.id,.id],.b4 .id,.b4 .id])))
  (fun kV =>
  .ret (let fD:=cX [0,1];iu (t5.append [.ao false,(ag 7),.qa [{bN:=some (0,0)},{aU:=[(15,0),(32,0),(43,0),(56,0)],bN:=none},{aU:=[(1,0)]}] [([],some (.box [.id,.id,.id])),([.da (av 4 cu (([(⟨(⟨#[97]⟩:ByteArray),(-3),0,true⟩:aT),(⟨(⟨#[98]⟩:ByteArray),a6.1,0,true⟩:aT),(⟨(⟨#[99]⟩:ByteArray),0,(-4),false⟩:aT),(⟨(⟨#[100]⟩:ByteArray),ax.1,(-9),true⟩:aT)]:List aT).set 1 (⟨aF.hI,aF.gM,2,aF.hF⟩:aT))),.da (av 3 cq ([(⟨0,2,1⟩:bk),(⟨2,1,1⟩:bk)]:List bk)),.da (av 1 J ([0,0,0,0,U (cO.1-(4:Int)),U (0-dG.1),0,0]:List Int)),.da (av 4 cL ([(⟨0,1,U ((1:Int)+cA.1),1⟩:bu)]:List bu))],none),([.box [.at_ 1 0 4,.at_ 1 1 2]],none)] [(2,.bp (.b4 (.at_ 2 0 0))),(3,.bp (.b4 (.at_ 1 2 8))),(4,.bp (.b4 (.at_ 1 3 1)))]]) [0,1] [.box [.id,.id,.id],.bt [ab.mk 4 ((([(⟨(⟨#[97]⟩:ByteArray),(-3),0,true⟩:aT),(⟨(⟨#[98]⟩:ByteArray),a6.1,0,true⟩:aT),(⟨(⟨#[99]⟩:ByteArray),0,(-4),false⟩:aT),(⟨(⟨#[100]⟩:ByteArray),ax.1,(-9),true⟩:aT)]:List aT).set 1 (⟨aF.hI,aF.gM,2,aF.hF⟩:aT)).map cu) .live,ab.mk 3 (([(⟨0,2,1⟩:bk),(⟨2,1,1⟩:bk)]:List bk).map cq) .live,ab.mk 1 (([0,0,0,0,U (cO.1-(4:Int)),U (0-dG.1),0,0]:List Int).map J) .live,ab.mk 4 (([(⟨0,1,U ((1:Int)+cA.1),1⟩:bu)]:List bu).map cL) .live]] (kc.bb (.bh kV (dF 4 .live (lD (show [[.s (⟨#[97]⟩:ByteArray),.n .i64 (-3:Int),.n .i64 (0:Int),.b true],[.s (⟨#[98]⟩:ByteArray),.n .i64 a6.1,.n .i64 (0:Int),.b true],[.s (⟨#[99]⟩:ByteArray),.n .i64 (0:Int),.n .i64 (-4:Int),.b false],[.s (⟨#[100]⟩:ByteArray),.n .i64 ax.1,.n .i64 (-9:Int),.b true]]=(([(⟨(⟨#[97]⟩:ByteArray),(-3),0,true⟩:aT),(⟨(⟨#[98]⟩:ByteArray),a6.1,0,true⟩:aT),(⟨(⟨#[99]⟩:ByteArray),0,(-4),false⟩:aT),(⟨(⟨#[100]⟩:ByteArray),ax.1,(-9),true⟩:aT)]:List aT)).map cu from rfl) 1 (⟨aF.hI,aF.gM,2,aF.hF⟩:aT) (rfl:(setCells (cu aF) 2 [.n .i64 (2:Int)])=cu (⟨aF.hI,aF.gM,2,aF.hF⟩:aT)))) (aA 4 .live l1 (([(⟨(⟨#[97]⟩:ByteArray),(-3),0,true⟩:aT),(⟨(⟨#[98]⟩:ByteArray),a6.1,0,true⟩:aT),(⟨(⟨#[99]⟩:ByteArray),0,(-4),false⟩:aT),(⟨(⟨#[100]⟩:ByteArray),ax.1,(-9),true⟩:aT)]:List aT).set 1 (⟨aF.hI,aF.gM,2,aF.hF⟩:aT))) (dF 3 .live (show [[.n .i64 (0:Int),.n .i64 (2:Int),.n .i64 (1:Int)],[.n .i64 (2:Int),.n .i64 (1:Int),.n .i64 (1:Int)]]=(([(⟨0,2,1⟩:bk),(⟨2,1,1⟩:bk)]:List bk)).map cq from rfl)) (aA 3 .live l0 ([(⟨0,2,1⟩:bk),(⟨2,1,1⟩:bk)]:List bk)) (dF 1 .live (show [[.n .i64 (0:Int)],[.n .i64 (0:Int)],[.n .i64 (0:Int)],[.n .i64 (0:Int)],[.n .i64 (U (cO.1-(4:Int)))],[.n .i64 (U (0-dG.1))],[.n .i64 (0:Int)],[.n .i64 (0:Int)]]=(([0,0,0,0,U (cO.1-(4:Int)),U (0-dG.1),0,0]:List Int)).map J from rfl)) (aA 1 .live aE ([0,0,0,0,U (cO.1-(4:Int)),U (0-dG.1),0,0]:List Int)) (dF 4 .live (show [[.n .i64 (0:Int),.n .i64 (1:Int),.n .i64 (U ((1:Int)+cA.1)),.n .i64 (1:Int)]]=(([(⟨0,1,U ((1:Int)+cA.1),1⟩:bu)]:List bu)).map cL from rfl)) (.bh (aA 4 .live mh ([(⟨0,1,U ((1:Int)+cA.1),1⟩:bu)]:List bu)) (rfl:(fb [{bN:=some (0,0)},{aU:=[(15,0),(32,0),(43,0),(56,0)],bN:=none},{aU:=[(1,0)]}]) 1 0=some (15,0)) (rfl:4=4) (rfl:(fb [{bN:=some (0,0)},{aU:=[(15,0),(32,0),(43,0),(56,0)],bN:=none},{aU:=[(1,0)]}]) 1 1=some (32,0)) (rfl:2=2) (rfl:(fb [{bN:=some (0,0)},{aU:=[(15,0),(32,0),(43,0),(56,0)],bN:=none},{aU:=[(1,0)]}]) 2 0=some (1,0)) (rfl:(fb [{bN:=some (0,0)},{aU:=[(15,0),(32,0),(43,0),(56,0)],bN:=none},{aU:=[(1,0)]}]) 1 2=some (43,0)) (rfl:8=8) (.bV (rfl:(fb [{bN:=some (0,0)},{aU:=[(15,0),(32,0),(43,0),(56,0)],bN:=none},{aU:=[(1,0)]}]) 1 3=some (56,0)) (rfl:1=1) (c4 (dm fD 4 pe (([(⟨(⟨#[97]⟩:ByteArray),(-3),0,true⟩:aT),(⟨(⟨#[98]⟩:ByteArray),a6.1,0,true⟩:aT),(⟨(⟨#[99]⟩:ByteArray),0,(-4),false⟩:aT),(⟨(⟨#[100]⟩:ByteArray),ax.1,(-9),true⟩:aT)]:List aT).set 1 (⟨aF.hI,aF.gM,2,aF.hF⟩:aT))) (c4 (dm fD 3 pd ([(⟨0,2,1⟩:bk),(⟨2,1,1⟩:bk)]:List bk)) (c4 (dm fD 1 fa ([0,0,0,0,U (cO.1-(4:Int)),U (0-dG.1),0,0]:List Int)) (c4 (dm fD 4 pf ([(⟨0,1,U ((1:Int)+cA.1),1⟩:bu)]:List bu)) (ib (bQ:=fD)))))))))) (.comp [.agg [.id,.id],.b4 .id,.b4 .id])))))))
  (fun bx =>
  .aC fun bA dQ =>
  (let t3:List c5:=t1.append [.ao false,(ag 5),.aH (an 1 (aq (.call {aM:=[.row 0],cM:=[.box [.id,.id,.id]],ac:=[ii,ii],r:= .b bA.1,dT:=[[ab.mk 3 [[.isl 1 (cb.map eU8),.n .i64 bA.2.1,.n .i64 bA.2.2]] .live]],ff:=ii,fR:=[.box [.id,.id,.id]],dA:=[0],dt:=false}) []))];
  have f7:=bg.bb (.aD bx (xa bA dQ));
  .ite (fun dC =>
  .aC fun cO eC =>
  .bn fun eQ =>
  .aC fun d2 hJ =>
  .aC fun fB ku =>
  .aC fun fw kV =>
  .aC fun hl jc =>
  (let t5:List c5:=t3.append [.ao true,.aH (an 4 (aq (.vW 35 (.call {aM:=[.row 0],cM:=[.box [.id,.id,.id]],ac:=[ii,.bp (.b4 (.ej (([1,2,3]:List Int).map J)))],r:= .n .i64 cO.1,dT:=[[ab.mk 3 [[.isl 1 (cb.map eU8),.n .i64 cO.2.1,.n .i64 cO.2.2]] .live]],ff:=ii,fR:=[.box [.id,.id,.id]],dA:=[0,35],dt:=false})) (bU 2 (.bb ((([(⟨0,2,1⟩:bk),(⟨2,1,1⟩:bk)]:List bk)++([(⟨2,3,cO.1⟩:bk)]:List bk)).length)) 2))),.aH (an 1 (aq (.call {aM:=[.row 0],cM:=[.box [.id,.id,.id]],ac:=[ii,ii],r:= .n .i64 d2.1,dT:=[[ab.mk 3 [[.isl 1 (cb.map eU8),.n .i64 d2.2.1,.n .i64 d2.2.2]] .live]],ff:=ii,fR:=[.box [.id,.id,.id]],dA:=[0],dt:=false}) (bU 2 (.call {aM:=[.row 0],cM:=[.box [.id,.id,.id]],ac:=[ii,ii],r:= .n .i64 fB.1,dT:=[[ab.mk 3 [[.isl 1 (cb.map eU8),.n .i64 fB.2.1,.n .i64 fB.2.2]] .live]],ff:=ii,fR:=[.box [.id,.id,.id]],dA:=[0],dt:=false}) 3))),.aH (bU 1 (.call {aM:=[.row 0],cM:=[.box [.id,.id,.id]],ac:=[ii,ii],r:= .n .i64 fw.1,dT:=[[ab.mk 3 [[.isl 1 (cb.map eU8),.n .i64 fw.2.1,.n .i64 fw.2.2]] .live]],ff:=ii,fR:=[.box [.id,.id,.id]],dA:=[0],dt:=false}) 4),.aH (an 1 (aq (.call {aM:=[.row 0],cM:=[.box [.id,.id,.id]],ac:=[ii,ii],r:= .b hl.1,dT:=[[ab.mk 3 [[.isl 1 (cb.map eU8),.n .i64 hl.2.1,.n .i64 hl.2.2]] .live]],ff:=ii,fR:=[.box [.id,.id,.id]],dA:=[0],dt:=false}) []))];
  have kc:=f7.bb (.bh dC (pg (show [[.n .i64 (1:Int)],[.n .i64 (2:Int)],[.n .i64 (3:Int)]]=(([1,2,3]:List Int)).map J from rfl) (show 3=([1,2,3]:List Int).length from rfl)) (sx (show [[.n .i64 (1:Int)],[.n .i64 (2:Int)],[.n .i64 (3:Int)]]=(([1,2,3]:List Int)).map J from rfl) (show 3=([1,2,3]:List Int).length from rfl)) (dP aE ([1,2,3]:List Int)) (Hh cO eC) (m1 cq (⟨2,3,cO.1⟩:bk)) (u1 (show [[.n .i64 (0:Int),.n .i64 (2:Int),.n .i64 (1:Int)],[.n .i64 (2:Int),.n .i64 (1:Int),.n .i64 (1:Int)]]=(([(⟨0,2,1⟩:bk),(⟨2,1,1⟩:bk)]:List bk)).map cq from rfl) (show 2=([(⟨0,2,1⟩:bk),(⟨2,1,1⟩:bk)]:List bk).length from rfl)) (xS (show 2=([(⟨0,2,1⟩:bk),(⟨2,1,1⟩:bk)]:List bk).length from rfl) (rG cq (⟨2,3,cO.1⟩:bk))) (.dV eQ (ox d2 hJ) (ox fB ku) (ox fw kV) (xa hl jc)));
  .ite (fun lx =>
  .ret (let gR:=(([(⟨0,2,1⟩:bk),(⟨2,1,1⟩:bk)]:List bk)++([(⟨2,3,cO.1⟩:bk)]:List bk));let e2:=cX [0,1];iu (t5.append [.ao true,(ag 4),(ag 7),.qa [{bN:=some (0,0)},{aU:=[(15,0),(39,0),(48,0),(65,0)],bN:=none},{aU:=[(1,0)]}] [([],some (.box [.id,.id,.id])),([.da (av 4 cu ([(⟨(⟨#[97]⟩:ByteArray),(-3),0,true⟩:aT),(⟨(⟨#[98]⟩:ByteArray),a6.1,0,true⟩:aT),(⟨(⟨#[99]⟩:ByteArray),0,(-4),false⟩:aT),(⟨(⟨#[100]⟩:ByteArray),ax.1,(-9),true⟩:aT)]:List aT)),.da (av 3 cq gR),.da (av 1 J ([0,0,0,0,U (d2.1-(4:Int)),U (0-fB.1),0,0]:List Int)),.da (av 4 cL ([(⟨0,1,U ((1:Int)+fw.1),U ((1:Int)+fw.1)⟩:bu)]:List bu))],none),([.box [.at_ 1 0 4,.at_ 1 1 (gR.length)]],none)] [(2,.bp (.b4 (.at_ 2 0 0))),(3,.bp (.b4 (.at_ 1 2 8))),(4,.bp (.b4 (.at_ 1 3 1)))]]) [0,1] [.box [.id,.id,.id],.bt [ab.mk 4 (([(⟨(⟨#[97]⟩:ByteArray),(-3),0,true⟩:aT),(⟨(⟨#[98]⟩:ByteArray),a6.1,0,true⟩:aT),(⟨(⟨#[99]⟩:ByteArray),0,(-4),false⟩:aT),(⟨(⟨#[100]⟩:ByteArray),ax.1,(-9),true⟩:aT)]:List aT).map cu) .live,ab.mk 3 (gR.map cq) .live,ab.mk 1 (([0,0,0,0,U (d2.1-(4:Int)),U (0-fB.1),0,0]:List Int).map J) .live,ab.mk 4 (([(⟨0,1,U ((1:Int)+fw.1),U ((1:Int)+fw.1)⟩:bu)]:List bu).map cL) .live]] (kc.bb (.bh lx (dF 4 .live (show [[.s (⟨#[97]⟩:ByteArray),.n .i64 (-3:Int),.n .i64 (0:Int),.b true],[.s (⟨#[98]⟩:ByteArray),.n .i64 a6.1,.n .i64 (0:Int),.b true],[.s (⟨#[99]⟩:ByteArray),.n .i64 (0:Int),.n .i64 (-4:Int),.b false],[.s (⟨#[100]⟩:ByteArray),.n .i64 ax.1,.n .i64 (-9:Int),.b true]]=(([(⟨(⟨#[97]⟩:ByteArray),(-3),0,true⟩:aT),(⟨(⟨#[98]⟩:ByteArray),a6.1,0,true⟩:aT),(⟨(⟨#[99]⟩:ByteArray),0,(-4),false⟩:aT),(⟨(⟨#[100]⟩:ByteArray),ax.1,(-9),true⟩:aT)]:List aT)).map cu from rfl)) (aA 4 .live l1 ([(⟨(⟨#[97]⟩:ByteArray),(-3),0,true⟩:aT),(⟨(⟨#[98]⟩:ByteArray),a6.1,0,true⟩:aT),(⟨(⟨#[99]⟩:ByteArray),0,(-4),false⟩:aT),(⟨(⟨#[100]⟩:ByteArray),ax.1,(-9),true⟩:aT)]:List aT)) (dF 3 .live (q9 (show [[.n .i64 (0:Int),.n .i64 (2:Int),.n .i64 (1:Int)],[.n .i64 (2:Int),.n .i64 (1:Int),.n .i64 (1:Int)]]=(([(⟨0,2,1⟩:bk),(⟨2,1,1⟩:bk)]:List bk)).map cq from rfl) (show 2=([(⟨0,2,1⟩:bk),(⟨2,1,1⟩:bk)]:List bk).length from rfl) (rG cq (⟨2,3,cO.1⟩:bk)))) (aA 3 .live l0 gR) (dF 1 .live (show [[.n .i64 (0:Int)],[.n .i64 (0:Int)],[.n .i64 (0:Int)],[.n .i64 (0:Int)],[.n .i64 (U (d2.1-(4:Int)))],[.n .i64 (U (0-fB.1))],[.n .i64 (0:Int)],[.n .i64 (0:Int)]]=(([0,0,0,0,U (d2.1-(4:Int)),U (0-fB.1),0,0]:List Int)).map J from rfl)) (aA 1 .live aE ([0,0,0,0,U (d2.1-(4:Int)),U (0-fB.1),0,0]:List Int)) (dF 4 .live (show [[.n .i64 (0:Int),.n .i64 (1:Int),.n .i64 (U ((1:Int)+fw.1)),.n .i64 (U ((1:Int)+fw.1))]]=(([(⟨0,1,U ((1:Int)+fw.1),U ((1:Int)+fw.1)⟩:bu)]:List bu)).map cL from rfl)) (.bh (aA 4 .live mh ([(⟨0,1,U ((1:Int)+fw.1),U ((1:Int)+fw.1)⟩:bu)]:List bu)) (rfl:(fb [{bN:=some (0,0)},{aU:=[(15,0),(39,0),(48,0),(65,0)],bN:=none},{aU:=[(1,0)]}]) 1 0=some (15,0)) (rfl:4=4) (rfl:(fb [{bN:=some (0,0)},{aU:=[(15,0),(39,0),(48,0),(65,0)],bN:=none},{aU:=[(1,0)]}]) 1 1=some (39,0)) (rfl:gR.length=gR.length) (rfl:(fb [{bN:=some (0,0)},{aU:=[(15,0),(39,0),(48,0),(65,0)],bN:=none},{aU:=[(1,0)]}]) 2 0=some (1,0)) (rfl:(fb [{bN:=some (0,0)},{aU:=[(15,0),(39,0),(48,0),(65,0)],bN:=none},{aU:=[(1,0)]}]) 1 2=some (48,0)) (rfl:8=8) (.bV (rfl:(fb [{bN:=some (0,0)},{aU:=[(15,0),(39,0),(48,0),(65,0)],bN:=none},{aU:=[(1,0)]}]) 1 3=some (65,0)) (rfl:1=1) (c4 (dm e2 4 pe ([(⟨(⟨#[97]⟩:ByteArray),(-3),0,true⟩:aT),(⟨(⟨#[98]⟩:ByteArray),a6.1,0,true⟩:aT),(⟨(⟨#[99]⟩:ByteArray),0,(-4),false⟩:aT),(⟨(⟨#[100]⟩:ByteArray),ax.1,(-9),true⟩:aT)]:List aT)) (c4 (dm e2 3 pd gR) (c4 (dm e2 1 fa ([0,0,0,0,U (d2.1-(4:Int)),U (0-fB.1),0,0]:List Int)) (c4 (dm e2 4 pf ([(⟨0,1,U ((1:Int)+fw.1),U ((1:Int)+fw.1)⟩:bu)]:List bu)) (ib (bQ:=e2)))))))))) (.comp [.agg [.id,.id],.b4 .id,.b4 .id])))
  (fun lx =>
  .ret (let hy:=(([(⟨0,2,1⟩:bk),(⟨2,1,1⟩:bk)]:List bk)++([(⟨2,3,cO.1⟩:bk)]:List bk));let hT:=cX [0,1];iu (t5.append [.ao false,(ag 7),.qa [{bN:=some (0,0)},{aU:=[(15,0),(39,0),(48,0),(61,0)],bN:=none},{aU:=[(1,0)]}] [([],some (.box [.id,.id,.id])),([.da (av 4 cu ([(⟨(⟨#[97]⟩:ByteArray),(-3),0,true⟩:aT),(⟨(⟨#[98]⟩:ByteArray),a6.1,0,true⟩:aT),(⟨(⟨#[99]⟩:ByteArray),0,(-4),false⟩:aT),(⟨(⟨#[100]⟩:ByteArray),ax.1,(-9),true⟩:aT)]:List aT)),.da (av 3 cq hy),.da (av 1 J ([0,0,0,0,U (d2.1-(4:Int)),U (0-fB.1),0,0]:List Int)),.da (av 4 cL ([(⟨0,1,U ((1:Int)+fw.1),1⟩:bu)]:List bu))],none),([.box [.at_ 1 0 4,.at_ 1 1 (hy.length)]],none)] [(2,.bp (.b4 (.at_ 2 0 0))),(3,.bp (.b4 (.at_ 1 2 8))),(4,.bp (.b4 (.at_ 1 3 1)))]]) [0,1] [.box [.id,.id,.id],.bt [ab.mk 4 (([(⟨(⟨#[97]⟩:ByteArray),(-3),0,true⟩:aT),(⟨(⟨#[98]⟩:ByteArray),a6.1,0,true⟩:aT),(⟨(⟨#[99]⟩:ByteArray),0,(-4),false⟩:aT),(⟨(⟨#[100]⟩:ByteArray),ax.1,(-9),true⟩:aT)]:List aT).map cu) .live,ab.mk 3 (hy.map cq) .live,ab.mk 1 (([0,0,0,0,U (d2.1-(4:Int)),U (0-fB.1),0,0]:List Int).map J) .live,ab.mk 4 (([(⟨0,1,U ((1:Int)+fw.1),1⟩:bu)]:List bu).map cL) .live]] (kc.bb (.bh lx (dF 4 .live (show [[.s (⟨#[97]⟩:ByteArray),.n .i64 (-3:Int),.n .i64 (0:Int),.b true],[.s (⟨#[98]⟩:ByteArray),.n .i64 a6.1,.n .i64 (0:Int),.b true],[.s (⟨#[99]⟩:ByteArray),.n .i64 (0:Int),.n .i64 (-4:Int),.b false],[.s (⟨#[100]⟩:ByteArray),.n .i64 ax.1,.n .i64 (-9:Int),.b true]]=(([(⟨(⟨#[97]⟩:ByteArray),(-3),0,true⟩:aT),(⟨(⟨#[98]⟩:ByteArray),a6.1,0,true⟩:aT),(⟨(⟨#[99]⟩:ByteArray),0,(-4),false⟩:aT),(⟨(⟨#[100]⟩:ByteArray),ax.1,(-9),true⟩:aT)]:List aT)).map cu from rfl)) (aA 4 .live l1 ([(⟨(⟨#[97]⟩:ByteArray),(-3),0,true⟩:aT),(⟨(⟨#[98]⟩:ByteArray),a6.1,0,true⟩:aT),(⟨(⟨#[99]⟩:ByteArray),0,(-4),false⟩:aT),(⟨(⟨#[100]⟩:ByteArray),ax.1,(-9),true⟩:aT)]:List aT)) (dF 3 .live (q9 (show [[.n .i64 (0:Int),.n .i64 (2:Int),.n .i64 (1:Int)],[.n .i64 (2:Int),.n .i64 (1:Int),.n .i64 (1:Int)]]=(([(⟨0,2,1⟩:bk),(⟨2,1,1⟩:bk)]:List bk)).map cq from rfl) (show 2=([(⟨0,2,1⟩:bk),(⟨2,1,1⟩:bk)]:List bk).length from rfl) (rG cq (⟨2,3,cO.1⟩:bk)))) (aA 3 .live l0 hy) (dF 1 .live (show [[.n .i64 (0:Int)],[.n .i64 (0:Int)],[.n .i64 (0:Int)],[.n .i64 (0:Int)],[.n .i64 (U (d2.1-(4:Int)))],[.n .i64 (U (0-fB.1))],[.n .i64 (0:Int)],[.n .i64 (0:Int)]]=(([0,0,0,0,U (d2.1-(4:Int)),U (0-fB.1),0,0]:List Int)).map J from rfl)) (aA 1 .live aE ([0,0,0,0,U (d2.1-(4:Int)),U (0-fB.1),0,0]:List Int)) (dF 4 .live (show [[.n .i64 (0:Int),.n .i64 (1:Int),.n .i64 (U ((1:Int)+fw.1)),.n .i64 (1:Int)]]=(([(⟨0,1,U ((1:Int)+fw.1),1⟩:bu)]:List bu)).map cL from rfl)) (.bh (aA 4 .live mh ([(⟨0,1,U ((1:Int)+fw.1),1⟩:bu)]:List bu)) (rfl:(fb [{bN:=some (0,0)},{aU:=[(15,0),(39,0),(48,0),(61,0)],bN:=none},{aU:=[(1,0)]}]) 1 0=some (15,0)) (rfl:4=4) (rfl:(fb [{bN:=some (0,0)},{aU:=[(15,0),(39,0),(48,0),(61,0)],bN:=none},{aU:=[(1,0)]}]) 1 1=some (39,0)) (rfl:hy.length=hy.length) (rfl:(fb [{bN:=some (0,0)},{aU:=[(15,0),(39,0),(48,0),(61,0)],bN:=none},{aU:=[(1,0)]}]) 2 0=some (1,0)) (rfl:(fb [{bN:=some (0,0)},{aU:=[(15,0),(39,0),(48,0),(61,0)],bN:=none},{aU:=[(1,0)]}]) 1 2=some (48,0)) (rfl:8=8) (.bV (rfl:(fb [{bN:=some (0,0)},{aU:=[(15,0),(39,0),(48,0),(61,0)],bN:=none},{aU:=[(1,0)]}]) 1 3=some (61,0)) (rfl:1=1) (c4 (dm hT 4 pe ([(⟨(⟨#[97]⟩:ByteArray),(-3),0,true⟩:aT),(⟨(⟨#[98]⟩:ByteArray),a6.1,0,true⟩:aT),(⟨(⟨#[99]⟩:ByteArray),0,(-4),false⟩:aT),(⟨(⟨#[100]⟩:ByteArray),ax.1,(-9),true⟩:aT)]:List aT)) (c4 (dm hT 3 pd hy) (c4 (dm hT 1 fa ([0,0,0,0,U (d2.1-(4:Int)),U (0-fB.1),0,0]:List Int)) (c4 (dm hT 4 pf ([(⟨0,1,U ((1:Int)+fw.1),1⟩:bu)]:List bu)) (ib (bQ:=hT)))))))))) (.comp [.agg [.id,.id],.b4 .id,.b4 .id])))))
  (fun dC =>
  .aC fun cO eC =>
  .aC fun dG gk =>
  .aC fun cA fS =>
  .aC fun dU kf =>
  (let t5:List c5:=t3.append [.ao false,.aH (an 1 (aq (.call {aM:=[.row 0],cM:=[.box [.id,.id,.id]],ac:=[ii,ii],r:= .n .i64 cO.1,dT:=[[ab.mk 3 [[.isl 1 (cb.map eU8),.n .i64 cO.2.1,.n .i64 cO.2.2]] .live]],ff:=ii,fR:=[.box [.id,.id,.id]],dA:=[0],dt:=false}) (bU 2 (.call {aM:=[.row 0],cM:=[.box [.id,.id,.id]],ac:=[ii,ii],r:= .n .i64 dG.1,dT:=[[ab.mk 3 [[.isl 1 (cb.map eU8),.n .i64 dG.2.1,.n .i64 dG.2.2]] .live]],ff:=ii,fR:=[.box [.id,.id,.id]],dA:=[0],dt:=false}) 3))),.aH (bU 1 (.call {aM:=[.row 0],cM:=[.box [.id,.id,.id]],ac:=[ii,ii],r:= .n .i64 cA.1,dT:=[[ab.mk 3 [[.isl 1 (cb.map eU8),.n .i64 cA.2.1,.n .i64 cA.2.2]] .live]],ff:=ii,fR:=[.box [.id,.id,.id]],dA:=[0],dt:=false}) 4),.aH (an 1 (aq (.call {aM:=[.row 0],cM:=[.box [.id,.id,.id]],ac:=[ii,ii],r:= .b dU.1,dT:=[[ab.mk 3 [[.isl 1 (cb.map eU8),.n .i64 dU.2.1,.n .i64 dU.2.2]] .live]],ff:=ii,fR:=[.box [.id,.id,.id]],dA:=[0],dt:=false}) []))];
  have kc:=f7.bb (.dV dC (ox cO eC) (ox dG gk) (ox cA fS) (xa dU kf));
  .ite (fun kV =>
  .ret (let jz:=cX [0,1];iu (t5.append [.ao true,(ag 4),(ag 7),.qa [{bN:=some (0,0)},{aU:=[(15,0),(27,0),(38,0),(55,0)],bN:=none},{aU:=[(1,0)]}] [([],some (.box [.id,.id,.id])),([.da (av 4 cu ([(⟨(⟨#[97]⟩:ByteArray),(-3),0,true⟩:aT),(⟨(⟨#[98]⟩:ByteArray),a6.1,0,true⟩:aT),(⟨(⟨#[99]⟩:ByteArray),0,(-4),false⟩:aT),(⟨(⟨#[100]⟩:ByteArray),ax.1,(-9),true⟩:aT)]:List aT)),.da (av 3 cq ([(⟨0,2,1⟩:bk),(⟨2,1,1⟩:bk)]:List bk)),.da (av 1 J ([0,0,0,0,U (cO.1-(4:Int)),U (0-dG.1),0,0]:List Int)),.da (av 4 cL ([(⟨0,1,U ((1:Int)+cA.1),U ((1:Int)+cA.1)⟩:bu)]:List bu))],none),([.box [.at_ 1 0 4,.at_ 1 1 2]],none)] [(2,.bp (.b4 (.at_ 2 0 0))),(3,.bp (.b4 (.at_ 1 2 8))),(4,.bp (.b4 (.at_ 1 3 1)))]]) [0,1] [.box [.id,.id,.id],.bt [ab.mk 4 (([(⟨(⟨#[97]⟩:ByteArray),(-3),0,true⟩:aT),(⟨(⟨#[98]⟩:ByteArray),a6.1,0,true⟩:aT),(⟨(⟨#[99]⟩:ByteArray),0,(-4),false⟩:aT),(⟨(⟨#[100]⟩:ByteArray),ax.1,(-9),true⟩:aT)]:List aT).map cu) .live,ab.mk 3 (([(⟨0,2,1⟩:bk),(⟨2,1,1⟩:bk)]:List bk).map cq) .live,ab.mk 1 (([0,0,0,0,U (cO.1-(4:Int)),U (0-dG.1),0,0]:List Int).map J) .live,ab.mk 4 (([(⟨0,1,U ((1:Int)+cA.1),U ((1:Int)+cA.1)⟩:bu)]:List bu).map cL) .live]] (kc.bb (.bh kV (dF 4 .live (show [[.s (⟨#[97]⟩:ByteArray),.n .i64 (-3:Int),.n .i64 (0:Int),.b true],[.s (⟨#[98]⟩:ByteArray),.n .i64 a6.1,.n .i64 (0:Int),.b true],[.s (⟨#[99]⟩:ByteArray),.n .i64 (0:Int),.n .i64 (-4:Int),.b false],[.s (⟨#[100]⟩:ByteArray),.n .i64 ax.1,.n .i64 (-9:Int),.b true]]=(([(⟨(⟨#[97]⟩:ByteArray),(-3),0,true⟩:aT),(⟨(⟨#[98]⟩:ByteArray),a6.1,0,true⟩:aT),(⟨(⟨#[99]⟩:ByteArray),0,(-4),false⟩:aT),(⟨(⟨#[100]⟩:ByteArray),ax.1,(-9),true⟩:aT)]:List aT)).map cu from rfl)) (aA 4 .live l1 ([(⟨(⟨#[97]⟩:ByteArray),(-3),0,true⟩:aT),(⟨(⟨#[98]⟩:ByteArray),a6.1,0,true⟩:aT),(⟨(⟨#[99]⟩:ByteArray),0,(-4),false⟩:aT),(⟨(⟨#[100]⟩:ByteArray),ax.1,(-9),true⟩:aT)]:List aT)) (dF 3 .live (show [[.n .i64 (0:Int),.n .i64 (2:Int),.n .i64 (1:Int)],[.n .i64 (2:Int),.n .i64 (1:Int),.n .i64 (1:Int)]]=(([(⟨0,2,1⟩:bk),(⟨2,1,1⟩:bk)]:List bk)).map cq from rfl)) (aA 3 .live l0 ([(⟨0,2,1⟩:bk),(⟨2,1,1⟩:bk)]:List bk)) (dF 1 .live (show [[.n .i64 (0:Int)],[.n .i64 (0:Int)],[.n .i64 (0:Int)],[.n .i64 (0:Int)],[.n .i64 (U (cO.1-(4:Int)))],[.n .i64 (U (0-dG.1))],[.n .i64 (0:Int)],[.n .i64 (0:Int)]]=(([0,0,0,0,U (cO.1-(4:Int)),U (0-dG.1),0,0]:List Int)).map J from rfl)) (aA 1 .live aE ([0,0,0,0,U (cO.1-(4:Int)),U (0-dG.1),0,0]:List Int)) (dF 4 .live (show [[.n .i64 (0:Int),.n .i64 (1:Int),.n .i64 (U ((1:Int)+cA.1)),.n .i64 (U ((1:Int)+cA.1))]]=(([(⟨0,1,U ((1:Int)+cA.1),U ((1:Int)+cA.1)⟩:bu)]:List bu)).map cL from rfl)) (.bh (aA 4 .live mh ([(⟨0,1,U ((1:Int)+cA.1),U ((1:Int)+cA.1)⟩:bu)]:List bu)) (rfl:(fb [{bN:=some (0,0)},{aU:=[(15,0),(27,0),(38,0),(55,0)],bN:=none},{aU:=[(1,0)]}]) 1 0=some (15,0)) (rfl:4=4) (rfl:(fb [{bN:=some (0,0)},{aU:=[(15,0),(27,0),(38,0),(55,0)],bN:=none},{aU:=[(1,0)]}]) 1 1=some (27,0)) (rfl:2=2) (rfl:(fb [{bN:=some (0,0)},{aU:=[(15,0),(27,0),(38,0),(55,0)],bN:=none},{aU:=[(1,0)]}]) 2 0=some (1,0)) (rfl:(fb [{bN:=some (0,0)},{aU:=[(15,0),(27,0),(38,0),(55,0)],bN:=none},{aU:=[(1,0)]}]) 1 2=some (38,0)) (rfl:8=8) (.bV (rfl:(fb [{bN:=some (0,0)},{aU:=[(15,0),(27,0),(38,0),(55,0)],bN:=none},{aU:=[(1,0)]}]) 1 3=some (55,0)) (rfl:1=1) (c4 (dm jz 4 pe ([(⟨(⟨#[97]⟩:ByteArray),(-3),0,true⟩:aT),(⟨(⟨#[98]⟩:ByteArray),a6.1,0,true⟩:aT),(⟨(⟨#[99]⟩:ByteArray),0,(-4),false⟩:aT),(⟨(⟨#[100]⟩:ByteArray),ax.1,(-9),true⟩:aT)]:List aT)) (c4 (dm jz 3 pd ([(⟨0,2,1⟩:bk),(⟨2,1,1⟩:bk)]:List bk)) (c4 (dm jz 1 fa ([0,0,0,0,U (cO.1-(4:Int)),U (0-dG.1),0,0]:List Int)) (c4 (dm jz 4 pf ([(⟨0,1,U ((1:Int)+cA.1),U ((1:Int)+cA.1)⟩:bu)]:List bu)) (ib (bQ:=jz)))))))))) (.comp [.agg [.id,.id],.b4 .id,.b4 .id])))
  (fun kV =>
  .ret (let jA:=cX [0,1];iu (t5.append [.ao false,(ag 7),.qa [{bN:=some (0,0)},{aU:=[(15,0),(27,0),(38,0),(51,0)],bN:=none},{aU:=[(1,0)]}] [([],some (.box [.id,.id,.id])),([.da (av 4 cu ([(⟨(⟨#[97]⟩:ByteArray),(-3),0,true⟩:aT),(⟨(⟨#[98]⟩:ByteArray),a6.1,0,true⟩:aT),(⟨(⟨#[99]⟩:ByteArray),0,(-4),false⟩:aT),(⟨(⟨#[100]⟩:ByteArray),ax.1,(-9),true⟩:aT)]:List aT)),.da (av 3 cq ([(⟨0,2,1⟩:bk),(⟨2,1,1⟩:bk)]:List bk)),.da (av 1 J ([0,0,0,0,U (cO.1-(4:Int)),U (0-dG.1),0,0]:List Int)),.da (av 4 cL ([(⟨0,1,U ((1:Int)+cA.1),1⟩:bu)]:List bu))],none),([.box [.at_ 1 0 4,.at_ 1 1 2]],none)] [(2,.bp (.b4 (.at_ 2 0 0))),(3,.bp (.b4 (.at_ 1 2 8))),(4,.bp (.b4 (.at_ 1 3 1)))]]) [0,1] [.box [.id,.id,.id],.bt [ab.mk 4 (([(⟨(⟨#[97]⟩:ByteArray),(-3),0,true⟩:aT),(⟨(⟨#[98]⟩:ByteArray),a6.1,0,true⟩:aT),(⟨(⟨#[99]⟩:ByteArray),0,(-4),false⟩:aT),(⟨(⟨#[100]⟩:ByteArray),ax.1,(-9),true⟩:aT)]:List aT).map cu) .live,ab.mk 3 (([(⟨0,2,1⟩:bk),(⟨2,1,1⟩:bk)]:List bk).map cq) .live,ab.mk 1 (([0,0,0,0,U (cO.1-(4:Int)),U (0-dG.1),0,0]:List Int).map J) .live,ab.mk 4 (([(⟨0,1,U ((1:Int)+cA.1),1⟩:bu)]:List bu).map cL) .live]] (kc.bb (.bh kV (dF 4 .live (show [[.s (⟨#[97]⟩:ByteArray),.n .i64 (-3:Int),.n .i64 (0:Int),.b true],[.s (⟨#[98]⟩:ByteArray),.n .i64 a6.1,.n .i64 (0:Int),.b true],[.s (⟨#[99]⟩:ByteArray),.n .i64 (0:Int),.n .i64 (-4:Int),.b false],[.s (⟨#[100]⟩:ByteArray),.n .i64 ax.1,.n .i64 (-9:Int),.b true]]=(([(⟨(⟨#[97]⟩:ByteArray),(-3),0,true⟩:aT),(⟨(⟨#[98]⟩:ByteArray),a6.1,0,true⟩:aT),(⟨(⟨#[99]⟩:ByteArray),0,(-4),false⟩:aT),(⟨(⟨#[100]⟩:ByteArray),ax.1,(-9),true⟩:aT)]:List aT)).map cu from rfl)) (aA 4 .live l1 ([(⟨(⟨#[97]⟩:ByteArray),(-3),0,true⟩:aT),(⟨(⟨#[98]⟩:ByteArray),a6.1,0,true⟩:aT),(⟨(⟨#[99]⟩:ByteArray),0,(-4),false⟩:aT),(⟨(⟨#[100]⟩:ByteArray),ax.1,(-9),true⟩:aT)]:List aT)) (dF 3 .live (show [[.n .i64 (0:Int),.n .i64 (2:Int),.n .i64 (1:Int)],[.n .i64 (2:Int),.n .i64 (1:Int),.n .i64 (1:Int)]]=(([(⟨0,2,1⟩:bk),(⟨2,1,1⟩:bk)]:List bk)).map cq from rfl)) (aA 3 .live l0 ([(⟨0,2,1⟩:bk),(⟨2,1,1⟩:bk)]:List bk)) (dF 1 .live (show [[.n .i64 (0:Int)],[.n .i64 (0:Int)],[.n .i64 (0:Int)],[.n .i64 (0:Int)],[.n .i64 (U (cO.1-(4:Int)))],[.n .i64 (U (0-dG.1))],[.n .i64 (0:Int)],[.n .i64 (0:Int)]]=(([0,0,0,0,U (cO.1-(4:Int)),U (0-dG.1),0,0]:List Int)).map J from rfl)) (aA 1 .live aE ([0,0,0,0,U (cO.1-(4:Int)),U (0-dG.1),0,0]:List Int)) (dF 4 .live (show [[.n .i64 (0:Int),.n .i64 (1:Int),.n .i64 (U ((1:Int)+cA.1)),.n .i64 (1:Int)]]=(([(⟨0,1,U ((1:Int)+cA.1),1⟩:bu)]:List bu)).map cL from rfl)) (.bh (aA 4 .live mh ([(⟨0,1,U ((1:Int)+cA.1),1⟩:bu)]:List bu)) (rfl:(fb [{bN:=some (0,0)},{aU:=[(15,0),(27,0),(38,0),(51,0)],bN:=none},{aU:=[(1,0)]}]) 1 0=some (15,0)) (rfl:4=4) (rfl:(fb [{bN:=some (0,0)},{aU:=[(15,0),(27,0),(38,0),(51,0)],bN:=none},{aU:=[(1,0)]}]) 1 1=some (27,0)) (rfl:2=2) (rfl:(fb [{bN:=some (0,0)},{aU:=[(15,0),(27,0),(38,0),(51,0)],bN:=none},{aU:=[(1,0)]}]) 2 0=some (1,0)) (rfl:(fb [{bN:=some (0,0)},{aU:=[(15,0),(27,0),(38,0),(51,0)],bN:=none},{aU:=[(1,0)]}]) 1 2=some (38,0)) (rfl:8=8) (.bV (rfl:(fb [{bN:=some (0,0)},{aU:=[(15,0),(27,0),(38,0),(51,0)],bN:=none},{aU:=[(1,0)]}]) 1 3=some (51,0)) (rfl:1=1) (c4 (dm jA 4 pe ([(⟨(⟨#[97]⟩:ByteArray),(-3),0,true⟩:aT),(⟨(⟨#[98]⟩:ByteArray),a6.1,0,true⟩:aT),(⟨(⟨#[99]⟩:ByteArray),0,(-4),false⟩:aT),(⟨(⟨#[100]⟩:ByteArray),ax.1,(-9),true⟩:aT)]:List aT)) (c4 (dm jA 3 pd ([(⟨0,2,1⟩:bk),(⟨2,1,1⟩:bk)]:List bk)) (c4 (dm jA 1 fa ([0,0,0,0,U (cO.1-(4:Int)),U (0-dG.1),0,0]:List Int)) (c4 (dm jA 4 pf ([(⟨0,1,U ((1:Int)+cA.1),1⟩:bu)]:List bu)) (ib (bQ:=jA)))))))))) (.comp [.agg [.id,.id],.b4 .id,.b4 .id]))))))))
def zq (hv:List Int):Option (((List aT)×(List bk)×(List Int)×(List bu))⊕((List aT)×(List bk)×(List Int)×(List bu))) :=
 CM hv >>= fun ax =>
 xl hv 0 ax >>= fun a6 =>
 match a6 with
 | .inl eN=>(some (.inl (eN.2.2.1,eN.2.2.2.1,eN.2.2.2.2.1,eN.2.2.2.2.2)))
 | .inr eN=>(some (.inr (eN.2.2.1,eN.2.2.2.1,eN.2.2.2.2.1,eN.2.2.2.2.2)))
theorem LG {hv:List Int}:b6 (zq hv) (Sum.elim (fun a=>Con bC 4 [.isl 1 (hv.map eU8)] [] (.dK [.agg [.bm 0 0 0 4,.bm 0 1 0 a.2.1.length],.bm 0 2 0 8,.bm 0 3 0 1]) [[ab.mk 4 (a.1.map cu) .live,ab.mk 3 (a.2.1.map cq) .live,ab.mk 1 (a.2.2.1.map J) .live,ab.mk 4 (a.2.2.2.map cL) .live]]) (fun a=>Con bC 4 [.isl 1 (hv.map eU8)] [] (.dK [.agg [.bm 0 0 0 4,.bm 0 1 0 2],.bm 0 2 0 8,.bm 0 3 0 1]) [[ab.mk 4 (a.1.map cu) .live,ab.mk 3 (a.2.1.map cq) .live,ab.mk 1 (a.2.2.1.map J) .live,ab.mk 4 (a.2.2.2.map cL) .live]])):=by
 unfold zq
 exact .aC fun ax R =>
  .aC fun a6 aB =>
  (by
  rcases a6 with eN|eN
  ·exact (.ret (let aW:=cX [5];iu [(ag 3),.aH (an 1 (aq (.call {aM:=[],cM:=[],ac:=[ii],r:= .ref 0 0 0 0,dT:=[[ab.mk 3 [[.isl 1 (hv.map eU8),.n .i64 (0:Int),.n .i64 ax]] .live]],ff:=ii,fR:=[.box [.id,.id,.id]],dA:=[],dt:=false}) (aq (.call {aM:=[.row 4],cM:=[.box [.id,.id,.id]],ac:=[ii],r:= .dK [.agg [.bm 1 0 0 4,.bm 1 1 0 eN.2.2.2.1.length],.bm 1 2 0 8,.bm 1 3 0 1],dT:=[[ab.mk 3 [[.isl 1 (hv.map eU8),.n .i64 eN.1,.n .i64 eN.2.1]] .live],[ab.mk 4 (eN.2.2.1.map cu) .live,ab.mk 3 (eN.2.2.2.1.map cq) .live,ab.mk 1 (eN.2.2.2.2.1.map J) .live,ab.mk 4 (eN.2.2.2.2.2.map cL) .live]],ff:= .comp [.agg [.id,.id],.b4 .id,.b4 .id],fR:=[.box [.id,.id,.id],.bt [ab.mk 4 (eN.2.2.1.map cu) .live,ab.mk 3 (eN.2.2.2.1.map cq) .live,ab.mk 1 (eN.2.2.2.2.1.map J) .live,ab.mk 4 (eN.2.2.2.2.2.map cL) .live]],dA:=[4],dt:=false}) (an 6 []))))] [5] [.bt [ab.mk 4 (eN.2.2.1.map cu) .live,ab.mk 3 (eN.2.2.2.1.map cq) .live,ab.mk 1 (eN.2.2.2.2.1.map J) .live,ab.mk 4 (eN.2.2.2.2.2.map cL) .live]] (.dV (LZ ax R) (c4 (dm (f8 [4,5]) 4 pe eN.2.2.1) (c4 (dm (f8 [4,5]) 3 pd eN.2.2.2.1) (c4 (dm (f8 [4,5]) 1 fa eN.2.2.2.2.1) (c4 (dm (f8 [4,5]) 4 pf eN.2.2.2.2.2) (ib (bQ:=(f8 [4,5]))))))) ((jh rfl (jh rfl (jh rfl (jh rfl sy)))):mj [ab.mk 4 (eN.2.2.1.map cu) .live,ab.mk 3 (eN.2.2.2.1.map cq) .live,ab.mk 1 (eN.2.2.2.2.1.map J) .live,ab.mk 4 (eN.2.2.2.2.2.map cL) .live]) (LV (.inl eN) aB) (c4 (dm aW 4 pe eN.2.2.1) (c4 (dm aW 3 pd eN.2.2.2.1) (c4 (dm aW 1 fa eN.2.2.2.2.1) (c4 (dm aW 4 pf eN.2.2.2.2.2) (ib (bQ:=aW))))))) (.comp [.agg [.id,.id],.b4 .id,.b4 .id])))
  ·exact (.ret (let bi:=cX [5];iu [(ag 3),.aH (an 1 (aq (.call {aM:=[],cM:=[],ac:=[ii],r:= .ref 0 0 0 0,dT:=[[ab.mk 3 [[.isl 1 (hv.map eU8),.n .i64 (0:Int),.n .i64 ax]] .live]],ff:=ii,fR:=[.box [.id,.id,.id]],dA:=[],dt:=false}) (aq (.call {aM:=[.row 4],cM:=[.box [.id,.id,.id]],ac:=[ii],r:= .dK [.agg [.bm 1 0 0 4,.bm 1 1 0 2],.bm 1 2 0 8,.bm 1 3 0 1],dT:=[[ab.mk 3 [[.isl 1 (hv.map eU8),.n .i64 eN.1,.n .i64 eN.2.1]] .live],[ab.mk 4 (eN.2.2.1.map cu) .live,ab.mk 3 (eN.2.2.2.1.map cq) .live,ab.mk 1 (eN.2.2.2.2.1.map J) .live,ab.mk 4 (eN.2.2.2.2.2.map cL) .live]],ff:= .comp [.agg [.id,.id],.b4 .id,.b4 .id],fR:=[.box [.id,.id,.id],.bt [ab.mk 4 (eN.2.2.1.map cu) .live,ab.mk 3 (eN.2.2.2.1.map cq) .live,ab.mk 1 (eN.2.2.2.2.1.map J) .live,ab.mk 4 (eN.2.2.2.2.2.map cL) .live]],dA:=[4],dt:=false}) (an 6 []))))] [5] [.bt [ab.mk 4 (eN.2.2.1.map cu) .live,ab.mk 3 (eN.2.2.2.1.map cq) .live,ab.mk 1 (eN.2.2.2.2.1.map J) .live,ab.mk 4 (eN.2.2.2.2.2.map cL) .live]] (.dV (LZ ax R) (c4 (dm (f8 [4,5]) 4 pe eN.2.2.1) (c4 (dm (f8 [4,5]) 3 pd eN.2.2.2.1) (c4 (dm (f8 [4,5]) 1 fa eN.2.2.2.2.1) (c4 (dm (f8 [4,5]) 4 pf eN.2.2.2.2.2) (ib (bQ:=(f8 [4,5]))))))) ((jh rfl (jh rfl (jh rfl (jh rfl sy)))):mj [ab.mk 4 (eN.2.2.1.map cu) .live,ab.mk 3 (eN.2.2.2.1.map cq) .live,ab.mk 1 (eN.2.2.2.2.1.map J) .live,ab.mk 4 (eN.2.2.2.2.2.map cL) .live]) (LV (.inr eN) aB) (c4 (dm bi 4 pe eN.2.2.1) (c4 (dm bi 3 pd eN.2.2.2.1) (c4 (dm bi 1 fa eN.2.2.2.2.1) (c4 (dm bi 4 pf eN.2.2.2.2.2) (ib (bQ:=bi))))))) (.comp [.agg [.id,.id],.b4 .id,.b4 .id]))))
def CN (rA:Int):Option Bool :=
 if (decide ((97:Int)≤rA))=true then
  some (decide (rA≤(122:Int)))
 else
  some false
theorem T5 {rA:Int}:b6 (CN rA) (fun r=>Con bC 91 [.n .u8 rA] [] (.b r) []):=by
 unfold CN
 exact .ite (fun o =>
  .ret (bY [(ag 1),.aH (bU 5 (.ao true) 1)] (.bV o o o)))
  (fun o =>
  .ret (bY [(ag 1),.aH (an 3 (c3 2 (aq (.ao false) (an 1 []))))] (.bV o o o)))
def HY (rA:Int):Option Bool :=
 if (decide ((48:Int)≤rA))=true then
  some (decide (rA≤(57:Int)))
 else
  some false
theorem Ue {rA:Int}:b6 (HY rA) (fun r=>Con bC 92 [.n .u8 rA] [] (.b r) []):=by
 unfold HY
 exact .ite (fun o =>
  .ret (bY [(ag 1),.aH (bU 5 (.ao true) 1)] (.bV o o o)))
  (fun o =>
  .ret (bY [(ag 1),.aH (an 3 (c3 2 (aq (.ao false) (an 1 []))))] (.bV o o o)))
def GO (aX:ByteArray)(oW:Int):Int→S:=fun lL=>e1 [(0,.s aX),(5,.n .i64 oW),(6,.n .i64 lL)] []
def LQ (aX:ByteArray)(oW:Int):((Unit)⊕(Unit))→e5
 | .inl a=>⟨some 0,[(0,.s aX)],[]⟩
 | .inr a=>⟨none,[(2,.b false)],[]⟩
def w5 (aX:ByteArray)(oW lL:Int):Option ((Int)⊕((Unit)⊕(Unit))) :=
 if (decide (lL<oW))=true then
  if 0≤lL∧lL<(aX.size:Nat) then
  CN ((aX.data.toList.getD lL.toNat 0).toNat:Int) >>= fun a6 =>
  if a6=true then
   some (.inl (U (lL+(1:Int))))
  else
   if (lL == (0:Int))=true then
    some (.inr (.inr ()))
   else
    HY ((aX.data.toList.getD lL.toNat 0).toNat:Int) >>= fun bL =>
    if bL=true then
     some (.inl (U (lL+(1:Int))))
    else
     some (.inr (.inr ()))
  else none
 else
  some (.inr (.inl ()))
def HH (aX:ByteArray)(oW lL:Int):Option ((Unit)⊕(Unit)):=iter (fun w:Int=>w5 aX oW w) lL
theorem Tm {aX:ByteArray}{oW lL:Int}:b6 (w5 aX oW lL) (fG bC 33 0 68 [1,0,1,0,0] (GO aX oW lL) (GO aX oW) (LQ aX oW)):=by
 unfold w5
 exact .ite (fun o =>
  .bn fun R =>
  .aC fun a6 aB =>
  (let t1:List c5:=[(ag 1),.ao true,(ag 2)];
  have bg:=((.dV o R.1 R.2 (T5 a6 aB) (cn.b a6)):c9 _);
  .ite (fun aK =>
  .ret (b5 (t1.append [.aH (an 3 (aq (b3 1 (.b a6) true) (an 2 (c3 3 (an 5 (c3 1 (aq (.ao false) []))))))),.ao false,(ag 2),.br [] [] (b2 [0,5,6])]) (bg.bb (.eK (e3 aK) (e3 aK) (e3 aK) (e3 aK) (e3 aK) d3))))
  (fun aK =>
  (have fK:=bg.bb (.bV (e6 aK) (e6 aK) (e6 aK));
  .ite (fun bF =>
  .ret (b5 (t1.append [.aH (an 3 (aq (b3 1 (.b a6) true) (an 5 (c3 5 (aq (.ao true) (aq (.ao true) [])))))),.ao true,(ag 1),.br [] [] (b2 [2])]) (fK.bb (.bh bF bF bF bF bF (e6 aK) bF (e6 aK) (.ay ch)))))
  (fun bF =>
  .aC fun bL bx =>
  (let t4:List c5:=t1.append [.aH (an 3 (aq (b3 1 (.b a6) true) (an 8 (aq (b3 1 (.b bL) true) (an 1 (aq (.ao false) (aq (.ao true) [])))))))];
  have lY:=fK.bb (.bh bF bF bF R.1 R.2 bF (Ue bL bx) (cn.b bL) (.du bF (e6 aK) bF (e6 aK)));
  .ite (fun dy =>
  .ret (b5 (t4.append [.ao false,(ag 2),.br [] [] (b2 [0,5,6])]) (lY.bb (.ay (e3 dy)))))
  (fun dy =>
  .ret (b5 (t4.append [.ao true,(ag 1),.br [] [] (b2 [2])]) (lY.bb (.ay (e6 dy)))))))))))
  (fun o =>
  .ret (b5 [(ag 1),.ao false,.br [] [] (b2 [0])] (.ay o)))
theorem Hi {aX:ByteArray}{oW lL:Int}{r} (h:HH aX oW lL=some r):fH bC 33 0 68 [1,0,1,0,0] (GO aX oW) (LQ aX oW) lL r:=fI (fun _=>Tm) h
def uM (aX:ByteArray):Option Bool :=
 HH aX (aX.size:Int) 0 >>= fun ax =>
 match ax with
 | .inl bG=>(if (!(aX.toList == (⟨#[]⟩:ByteArray).toList))=true then
  some (decide ((aX.size:Int)≤(8:Int)))
  else
   some false)
 | .inr bG=>(some false)
theorem Us {aX:ByteArray}:b6 (uM aX) (fun r=>Con bC 68 [.s aX] [] (.b r) []):=by
 unfold uM
 exact .aC fun ax R =>
  (let t1:List c5:=[(ag 1),(ag 3),.br [] [] (b2 [0,5,6])];
  (by
  rcases ax with bG|bG
  ·exact ((let t2:List c5:=t1.append [.sub (.exit 0) [(0,.s aX)] []];
  .ite (fun aB =>
  .ret (bY (t2.append [.aH (bU 6 (.ao true) 1)]) (.dV (Hi R) aB aB aB aB)))
  (fun aB =>
  .ret (bY (t2.append [.aH (an 3 (c3 3 (aq (.ao false) (an 1 []))))]) (.dV (Hi R) aB aB aB aB)))))
  ·exact (.ret (bY (t1.append [.sub (.ret) [(2,.b false)] []]) (.ay (Hi R))))))
def xq (ba:Int):Option Bool :=
 if (decide ((-50:Int)≤ba))=true then
  some (decide (ba≤(50:Int)))
 else
  some false
theorem L5 {ba:Int}:b6 (xq ba) (fun r=>Con bC 69 [.n .i64 ba] [] (.b r) []):=by
 unfold xq
 exact .ite (fun o =>
  .ret (bY [(ag 1),.aH (bU 5 (.ao true) 1)] (.bV o o o)))
  (fun o =>
  .ret (bY [(ag 1),.aH (an 3 (c3 2 (aq (.ao false) (an 1 []))))] (.bV o o o)))
def zv (d6:aT):Option Bool :=
 uM d6.hI >>= fun ax =>
 if ax=true then
  xq d6.gM >>= fun bP =>
  if bP=true then
   xq d6.mz >>= fun bL =>
   some bL
  else
   some false
 else
  some false
theorem Uf {d6:aT}:b6 (zv d6) (fun r=>Con bC 41 [.agg (cu d6)] [] (.b r) []):=by
 unfold zv
 exact .aC fun ax R =>
  (have b0:=((.aD (Us ax R) (cn.b ax)):c9 _);
  .ite (fun ah =>
  .aC fun bP aK =>
  (have bg:=b0.bb (.eK ah ah ah (L5 bP aK) (cn.b bP) ah);
  .ite (fun bF =>
  .aC fun bL bx =>
  .ret (bY [(ag 2),.aH (an 2 (aq (b3 1 (.b ax) true) (an 3 (aq (b3 1 (.b bP) true) (aq (.ao true) (an 3 (aq (b3 1 (.b bL) true) (aq (.ao true) (an 1 [])))))))))] (bg.bb (.eK bF bF bF (L5 bL bx) (cn.b bL) bF))))
  (fun bF =>
  .ret (bY [(ag 2),.aH (an 2 (aq (b3 1 (.b ax) true) (an 3 (aq (b3 1 (.b bP) true) (aq (.ao true) (an 1 (c3 3 (aq (.ao false) (an 1 [])))))))))] (bg.bb (.du bF bF bF bF))))))
  (fun ah =>
  .ret (bY [(ag 2),.aH (an 2 (aq (b3 1 (.b ax) true) (an 1 (c3 3 (aq (.ao false) (an 1 (c3 3 (an 2 []))))))))] (b0.bb (.fu ah ah ah ah d3 d3 d3)))))
def Cs (d6:aT)(b4:ByteArray):Option Bool :=
 some (d6.hI.toList == b4.toList)
theorem Ty {d6:aT}{b4:ByteArray}:b6 (Cs d6 b4) (fun r=>Con bC 71 [.agg (cu d6),.eB 1 [[.s b4]] 0 0] [] (.b r) []):=by
 unfold Cs
 exact .ret (bY [(ag 2),(ag 5)] .nil)
def Fi (aX:List aT)(jK:ByteArray)(ep:Int):Int→S:=fun eA=>e1 [(0,.isl 4 (aX.map cu)),(1,.fn 71 [.eB 1 [[.s jK]] 0 0]),(7,.n .i64 ep),(8,.n .i64 eA)] []
def Lk (aX:List aT)(jK:ByteArray)(ep:Int):((Unit)⊕(Int))→e5
 | .inl a=>⟨some 0,[],[]⟩
 | .inr a=>⟨none,[(4,.n .i64 a)],[]⟩
def y7 (aX:List aT)(jK:ByteArray)(ep eA:Int):Option ((Int)⊕((Unit)⊕(Int))) :=
 if (decide (eA<ep))=true then
  if 0≤eA∧eA<aX.length then
  aX[eA.toNat]? >>= fun aV =>
  Cs aV jK >>= fun bD =>
  if bD=true then
   some (.inr (.inr eA))
  else
   some (.inl (U (eA+(1:Int))))
  else none
 else
  some (.inr (.inl ()))
def FD (aX:List aT)(jK:ByteArray)(ep eA:Int):Option ((Unit)⊕(Int)):=iter (fun w:Int=>y7 aX jK ep w) eA
theorem R2 {aX:List aT}{jK:ByteArray}{ep eA:Int}:b6 (y7 aX jK ep eA) (fG bC 19 0 70 [1,0,1,0,0] (Fi aX jK ep eA) (Fi aX jK ep) (Lk aX jK ep)):=by
 unfold y7
 exact .ite (fun o =>
  .bn fun R =>
  .aC fun aV aB =>
  .aC fun bD bF =>
  (let t1:List c5:=[(ag 1),.ao true,(ag 2),.aH (an 4 (aq (.cK (cu aV)) (aq (b3 2 (.b bD) true) [])))];
  have bg:=((.eK o R.1 (eR cu R.2) (cP cu aB) (Ty bD bF) (cn.b bD)):c9 _);
  .ite (fun bS =>
  .ret (b5 (t1.append [.ao true,(ag 2),.br [] [] (b2 [4])]) (bg.bb (.ay bS))))
  (fun bS =>
  .ret (b5 (t1.append [.ao false,(ag 2),.br [] [] [(0,ii),(1,.comp [.b4 .id]),(7,ii),(8,ii)]]) (bg.bb (.ay bS))))))
  (fun o =>
  .ret (b5 [(ag 1),.ao false,.br [] [] []] (.ay o)))
theorem Lm {aX:List aT}{jK:ByteArray}{ep eA:Int}{r} (h:FD aX jK ep eA=some r):fH bC 19 0 70 [1,0,1,0,0] (Fi aX jK ep) (Lk aX jK ep) eA r:=fI (fun _=>R2) h
def B0 (aX:List aT)(oD:ByteArray):Option Int :=
 FD aX oD (len_ cu aX) 0 >>= fun ax =>
 match ax with
 | .inl bG=>(some (-1))
 | .inr bG=>(some bG)
theorem Sr {aX:List aT}{oD:ByteArray}:b6 (B0 aX oD) (fun r=>Con bC 70 [.isl 4 (aX.map cu),.fn 71 [.eB 1 [[.s oD]] 0 0]] [] (.n .i64 r) []):=by
 unfold B0
 exact .aC fun ax R =>
  (let t1:List c5:=[(ag 1),(ag 3),.br [] [] [(0,ii),(1,.comp [.b4 .id]),(7,ii),(8,ii)]];
  (by
  rcases ax with bG|bG
  ·exact (.ret (bY (t1.append [.sub (.exit 0) [] [],(ag 1)]) (.ay (Lm R))))
  ·exact (.ret (bY (t1.append [.sub (.ret) [(4,.n .i64 bG)] []]) (.ay (Lm R))))))
def zs (aX:ct)(x8:ByteArray):Option Int :=
 B0 aX.dd x8 >>= fun ax =>
 some ax
theorem TH {aX:ct}{x8:ByteArray}:b6 (zs aX x8) (fun r=>Con bC 42 [.agg (hY aX),.s x8] [] (.n .i64 r) []):=by
 unfold zs
 exact .aC fun ax R =>
  .ret (bY [(ag 3),.aH (bU 3 (.call {ac:=[ii,.comp [.ptr [.id]]],r:= .n .i64 ax,dt:=true,dA:=[1]}) 1)] (.bV (lC (OO x8):hs [[.s x8]]) (Sr ax R) (cn.n .i64 ax)))
def zg (aX:ct)(kg:bk):Option Bool :=
 if (decide (kg.cE<(0:Int)))=true then
  some false
 else
  if (decide ((len_ cu aX.dd)≤kg.cE))=true then
   some false
  else
   if (decide (kg.cF<(0:Int)))=true then
    some false
   else
    if (decide ((len_ cu aX.dd)≤kg.cF))=true then
     some false
    else
     if (decide (kg.ju<(1:Int)))=true then
      some false
     else
      if (decide ((3:Int)<kg.ju))=true then
       some false
      else
       if 0≤kg.cE∧kg.cE<aX.dd.length then
       aX.dd[kg.cE.toNat]? >>= fun oq =>
       if 0≤kg.cF∧kg.cF<aX.dd.length then
       aX.dd[kg.cF.toNat]? >>= fun qc =>
       if (oq.gM != qc.gM)=true then
        if oq.hF=true then
         some (!qc.hF)
        else
         some true
       else
        if (oq.mz != qc.mz)=true then
         if oq.hF=true then
          some (!qc.hF)
         else
          some true
        else
         some false
       else none
       else none
theorem SP {aX:ct}{kg:bk}:b6 (zg aX kg) (fun r=>Con bC 45 [.eB 2 [(hY aX)] 0 0,.agg (cq kg)] [] (.b r) []):=by
 unfold zg
 exact .ite (fun o =>
  .ret (bY [(ag 2),(ag 6),.aH (an 4 (c3 4 (aq (.ao true) (an 1 (c3 3 (an 2 (c3 4 (an 2 (c3 3 (an 2 (c3 3 (an 1 [])))))))))))),.ao true,(ag 1)] (.bh o o o o o ch ch ch (.bh ch ch ch ch ch ch ch ch (.bV ch ch ch)))))
  (fun o =>
  .ite (fun R =>
  .ret (bY [(ag 2),(ag 6),.aH (an 8 (aq (.ao false) (an 1 (c3 3 (aq (.ao true) (an 1 (c3 4 (an 2 (c3 3 (an 2 (c3 3 (an 1 [])))))))))))),.ao true,(ag 1)] (.bh o o o o o R R R (.bh R ch ch ch ch ch ch ch (.du ch ch ch ch)))))
  (fun R =>
  (have b0:=((.bh o o o o o R R R (.ay R)):c9 _);
  .ite (fun ah =>
  .ret (bY [(ag 2),(ag 6),.aH (an 8 (aq (.ao false) (an 4 (aq (.ao false) (an 1 (c3 4 (aq (.ao true) (an 1 (c3 3 (an 2 (c3 3 (an 1 [])))))))))))),.ao true,(ag 1)] (b0.bb (.bh ah ah ah ah ah ch ch ch (.du ch ch ch ch)))))
  (fun ah =>
  .ite (fun aB =>
  .ret (bY [(ag 2),(ag 6),.aH (an 8 (aq (.ao false) (an 4 (aq (.ao false) (an 5 (aq (.ao false) (an 1 (c3 3 (aq (.ao true) (an 1 (c3 3 (an 1 [])))))))))))),.ao true,(ag 1)] (b0.bb (.bh ah ah ah ah ah aB aB aB (.dV aB ch ch ch ch)))))
  (fun aB =>
  (have bg:=b0.bb (.bh ah ah ah ah ah aB aB aB (.ay aB));
  .ite (fun aK =>
  .ret (bY [(ag 2),(ag 6),.aH (an 8 (aq (.ao false) (an 4 (aq (.ao false) (an 5 (aq (.ao false) (an 4 (aq (.ao false) (an 1 (c3 3 (aq (.ao true) []))))))))))),.ao true,(ag 1)] (bg.bb (.dV aK aK aK aK ch))))
  (fun aK =>
  (let t3:List c5:=[(ag 2),(ag 6),.aH (an 8 (aq (.ao false) (an 4 (aq (.ao false) (an 5 (aq (.ao false) (an 4 (aq (.ao false) (an 4 (aq (.ao false) []))))))))))];
  .ite (fun bF =>
  .ret (bY (t3.append [.ao true,(ag 1)]) (bg.bb (.dV aK aK aK aK bF))))
  (fun bF =>
  .bn fun bS =>
  .aC fun oq dy =>
  .bn fun dQ =>
  .aC fun qc fr =>
  (let t4:List c5:=t3.append [.ao false,.aH (an 7 (aq (.cK (cu oq)) (bU 7 (.cK (cu qc)) 4)))];
  have lY:=bg.bb (.bh aK aK aK aK bF bS.1 (eR cu bS.2) (cP cu dy) (.bV dQ.1 (eR cu dQ.2) (cP cu fr)));
  .ite (fun eC =>
  (have kc:=lY.bb (.bh eC eC eC eC eC eC ch ch (.ay ch));
  .ite (fun eQ =>
  .ret (bY (t4.append [.aH (an 6 (c3 5 (aq (.ao true) (bU 6 (.ao true) 3))))]) (kc.bb (.dV eQ eQ ch eQ ch))))
  (fun eQ =>
  .ret (bY (t4.append [.aH (an 6 (c3 5 (aq (.ao true) (an 4 (c3 2 (aq (.ao false) (an 3 [])))))))]) (kc.bb (.dV eQ eQ ch eQ ch))))))
  (fun eC =>
  .ite (fun eQ =>
  (have kc:=lY.bb (.bh eC eC eC eC eC eC eQ eQ (.ay eQ));
  .ite (fun gk =>
  .ret (bY (t4.append [.aH (an 11 (aq (.ao false) (an 6 (aq (.ao true) (bU 1 (.ao true) 1)))))]) (kc.bb (.eK gk gk eQ gk eQ eQ))))
  (fun gk =>
  .ret (bY (t4.append [.aH (an 11 (aq (.ao false) (an 4 (c3 2 (aq (.ao false) (bU 1 (.ao true) 1))))))]) (kc.bb (.eK gk gk eQ gk eQ eQ))))))
  (fun eQ =>
  .ret (bY (t4.append [.aH (an 11 (aq (.ao false) (an 1 (c3 3 (an 2 (c3 2 (aq (.ao false) (an 1 []))))))))]) (lY.bb (.bh eC eC eC eC eC eC eQ eQ (.du eQ eQ eQ eQ))))))))))))))))
def Co (kg:bk)(b4:ct):Option Bool :=
 zg b4 kg >>= fun ax =>
 some (!ax)
theorem Tt {kg:bk}{b4:ct}:b6 (Co kg b4) (fun r=>Con bC 44 [.agg (cq kg),.eB 2 [(hY b4)] 0 0] [] (.b r) []):=by
 unfold Co
 exact .aC fun ax R =>
  .ret (bY [(ag 2),.aH (bU 1 (b3 2 (.b ax) true) 2)] (.aD (SP ax R) (cn.b ax)))
def Fh (aX:List bk)(jK:List aT)(oE:List bk)(ep:Int):Int→S:=fun eA=>e1 [(0,.isl 3 (aX.map cq)),(1,.fn 44 [.eB 2 [[.isl 4 (jK.map cu),.isl 3 (oE.map cq)]] 0 0]),(7,.n .i64 ep),(8,.n .i64 eA)] []
def Lj (aX:List bk)(jK:List aT)(oE:List bk)(ep:Int):((Unit)⊕(Int))→e5
 | .inl a=>⟨some 0,[],[]⟩
 | .inr a=>⟨none,[(4,.n .i64 a)],[]⟩
def wm (aX:List bk)(jK:List aT)(oE:List bk)(ep eA:Int):Option ((Int)⊕((Unit)⊕(Int))) :=
 if (decide (eA<ep))=true then
  if 0≤eA∧eA<aX.length then
  aX[eA.toNat]? >>= fun aV =>
  Co aV (⟨jK,oE⟩:ct) >>= fun bD =>
  if bD=true then
   some (.inr (.inr eA))
  else
   some (.inl (U (eA+(1:Int))))
  else none
 else
  some (.inr (.inl ()))
def FA (aX:List bk)(jK:List aT)(oE:List bk)(ep eA:Int):Option ((Unit)⊕(Int)):=iter (fun w:Int=>wm aX jK oE ep w) eA
theorem R1 {aX:List bk}{jK:List aT}{oE:List bk}{ep eA:Int}:b6 (wm aX jK oE ep eA) (fG bC 19 0 72 [1,0,1,0,0] (Fh aX jK oE ep eA) (Fh aX jK oE ep) (Lj aX jK oE ep)):=by
 unfold wm
 exact .ite (fun o =>
  .bn fun R =>
  .aC fun aV aB =>
  .aC fun bD bF =>
  (let t1:List c5:=[(ag 1),.ao true,(ag 2),.aH (an 4 (aq (.cK (cq aV)) (aq (b3 2 (.b bD) true) [])))];
  have bg:=((.eK o R.1 (eR cq R.2) (cP cq aB) (Tt bD bF) (cn.b bD)):c9 _);
  .ite (fun bS =>
  .ret (b5 (t1.append [.ao true,(ag 2),.br [] [] (b2 [4])]) (bg.bb (.ay bS))))
  (fun bS =>
  .ret (b5 (t1.append [.ao false,(ag 2),.br [] [] [(0,ii),(1,.comp [.b4 .id]),(7,ii),(8,ii)]]) (bg.bb (.ay bS))))))
  (fun o =>
  .ret (b5 [(ag 1),.ao false,.br [] [] []] (.ay o)))
theorem Ll {aX:List bk}{jK:List aT}{oE:List bk}{ep eA:Int}{r} (h:FA aX jK oE ep eA=some r):fH bC 19 0 72 [1,0,1,0,0] (Fh aX jK oE ep) (Lj aX jK oE ep) eA r:=fI (fun _=>R1) h
def BV (aX:List bk)(oD:ct):Option Int :=
 FA aX oD.dd oD.cx (len_ cq aX) 0 >>= fun ax =>
 match ax with
 | .inl bG=>(some (-1))
 | .inr bG=>(some bG)
theorem So {aX:List bk}{oD:ct}:b6 (BV aX oD) (fun r=>Con bC 72 [.isl 3 (aX.map cq),.fn 44 [.eB 2 [(hY oD)] 0 0]] [] (.n .i64 r) []):=by
 unfold BV
 exact .aC fun ax R =>
  (let t1:List c5:=[(ag 1),(ag 3),.br [] [] [(0,ii),(1,.comp [.b4 .id]),(7,ii),(8,ii)]];
  (by
  rcases ax with bG|bG
  ·exact (.ret (bY (t1.append [.sub (.exit 0) [] [],(ag 1)]) (.ay (Ll R))))
  ·exact (.ret (bY (t1.append [.sub (.ret) [(4,.n .i64 bG)] []]) (.ay (Ll R))))))
def y8 (aX:List bk)(oD:ct):Option Bool :=
 BV aX oD >>= fun ax =>
 some (decide ((0:Int)≤ax))
theorem Sc {aX:List bk}{oD:ct}:b6 (y8 aX oD) (fun r=>Con bC 43 [.isl 3 (aX.map cq),.fn 44 [.eB 2 [(hY oD)] 0 0]] [] (.b r) []):=by
 unfold y8
 exact .aC fun ax R =>
  .ret (bY [(ag 1),.aH (bU 2 (b3 2 (.n .i64 ax) true) 2)] (.aD (So ax R) (cn.n .i64 ax)))
def Gf (gl:List aT)(gU:Int)(aI:List bk):Int→S:=fun iq=>e1 [(1,.ref 0 0 0 0),(16,.isl 4 (gl.map cu)),(17,.n .i64 gU),(18,.n .i64 iq)] [[ab.mk 2 [[.isl 4 (gl.map cu),.isl 3 (aI.map cq)]] .live]]
def Gh (gl:List aT)(gU:Int)(aI:List bk):((Unit)⊕(Unit))→e5
 | .inl a=>⟨some 0,[(1,.ref 0 0 0 0)],[[ab.mk 2 [[.isl 4 (gl.map cu),.isl 3 (aI.map cq)]] .live]]⟩
 | .inr a=>⟨none,[(2,.b false)],[]⟩
def wQ (gl:List aT)(gU:Int)(aI:List bk)(iq:Int):Option ((Int)⊕((Unit)⊕(Unit))) :=
 if (decide (iq<gU))=true then
  if 0≤iq∧iq<gl.length then
  gl[iq.toNat]? >>= fun aV =>
  zv aV >>= fun bD =>
  if bD=true then
   zs (⟨gl,aI⟩:ct) aV.hI >>= fun fQ =>
   if (fQ != iq)=true then
    some (.inr (.inr ()))
   else
    some (.inl (U (iq+(1:Int))))
  else
   some (.inr (.inr ()))
  else none
 else
  some (.inr (.inl ()))
def Ch (gl:List aT)(gU:Int)(aI:List bk)(iq:Int):Option ((Unit)⊕(Unit)):=iter (fun w:Int=>wQ gl gU aI w) iq
theorem SM {gl:List aT}{gU:Int}{aI:List bk}{iq:Int}:b6 (wQ gl gU aI iq) (fG bC 40 0 19 [1,1,0,1,0,0] (Gf gl gU aI iq) (Gf gl gU aI) (Gh gl gU aI)):=by
 unfold wQ
 exact .ite (fun o =>
  .bn fun R =>
  .aC fun aV aB =>
  .aC fun bD bF =>
  (let t1:List c5:=[(ag 1),.ao true,.aH (bU 2 (.cK (cu aV)) 3)];
  have bg:=((.eK o R.1 (eR cu R.2) (cP cu aB) (Uf bD bF) (cn.b bD)):c9 _);
  .ite (fun bS =>
  .aC fun fQ dy =>
  (let t3:List c5:=t1.append [.aH (an 1 (aq (b3 1 (.b bD) true) (an 5 (aq (b3 2 (.n .i64 fQ) true) (an 2 (aq (.ao false) []))))))];
  have f7:=bg.bb (.bh (e3 bS) (e3 bS) (e3 bS) (e3 bS) (TH fQ dy) (cn.n .i64 fQ) (e3 bS) (e3 bS) (.ay (e3 bS)));
  .ite (fun dQ =>
  .ret (b5 (t3.append [.ao true,(ag 1),.br [] [] (b2 [2])]) (f7.bb (.ay dQ))))
  (fun dQ =>
  .ret (b5 (t3.append [.ao false,(ag 2),.br [0] [.box [.id,.id]] (b2 [1,16,17,18])]) (f7.bb (.ay dQ))))))
  (fun bS =>
  .ret (b5 (t1.append [.aH (an 1 (aq (b3 1 (.b bD) true) (an 2 (c3 6 (aq (.ao true) []))))),.ao true,(ag 1),.br [] [] (b2 [2])]) (bg.bb (.hq (e6 bS) (e6 bS) (e6 bS) (e6 bS) (e6 bS) (e6 bS) (e6 bS) ch))))))
  (fun o =>
  .ret (b5 [(ag 1),.ao false,.br [0] [.box [.id,.id]] (b2 [1])] (.ay o)))
theorem LD {gl:List aT}{gU:Int}{aI:List bk}{iq:Int}{r} (h:Ch gl gU aI iq=some r):fH bC 40 0 19 [1,1,0,1,0,0] (Gf gl gU aI) (Gh gl gU aI) iq r:=fI (fun _=>SM) h
def sk (aX:ct):Option Bool :=
 if (decide ((6:Int)<(len_ cu aX.dd)))=true then
  some false
 else
  if (decide ((8:Int)<(len_ cq aX.cx)))=true then
   some false
  else
   Ch aX.dd (len_ cu aX.dd) aX.cx 0 >>= fun a6 =>
   match a6 with
   | .inl eN=>(y8 aX.cx aX >>= fun c0 =>
    some (!c0))
   | .inr eN=>(some false)
theorem Ci {aX:ct}:b6 (sk aX) (fun r=>Con bC 19 [.agg (hY aX)] [] (.b r) []):=by
 unfold sk
 exact .ite (fun o =>
  .ret (bY [(ag 2),.aH (an 5 (c3 4 (aq (.ao true) []))),.ao true,(ag 1)] (.eK o o o o o ch)))
  (fun o =>
  (let t1:List c5:=[(ag 2),.aH (an 9 (aq (.ao false) []))];
  .ite (fun R =>
  .ret (bY (t1.append [.ao true,(ag 1)]) (.eK o o o o o R)))
  (fun R =>
  .aC fun a6 aB =>
  (let t2:List c5:=t1.append [.ao false,(ag 4),.br [0] [.box [.id,.id]] (b2 [1,16,17,18])];
  (by
  rcases a6 with eN|eN
  ·exact (.aC fun c0 bS =>
  .ret (bY (t2.append [(Gh aX.dd (len_ cu aX.dd) aX.cx (.inl eN)).gr,.aH (bU 3 (.call {ac:=[ii,.comp [.ptr [.id,.id]]],r:= .b c0,dt:=true,dA:=[0]}) 2)]) (.bh o o o o o R (LD aB) (lC (qs aX):hs [(hY aX)]) (.aD (Sc c0 bS) (cn.b c0)))))
  ·exact (.ret (bY (t2.append [.sub (.ret) [(2,.b false)] []]) (.fu o o o o o R (LD aB)))))))))
def zw (ba:Int):Option Bool :=
 if (decide ((-100:Int)≤ba))=true then
  some (decide (ba≤(100:Int)))
 else
  some false
theorem Ug {ba:Int}:b6 (zw ba) (fun r=>Con bC 59 [.n .i64 ba] [] (.b r) []):=by
 unfold zw
 exact .ite (fun o =>
  .ret (bY [(ag 1),.aH (bU 5 (.ao true) 1)] (.bV o o o)))
  (fun o =>
  .ret (bY [(ag 1),.aH (an 3 (c3 2 (aq (.ao false) (an 1 []))))] (.bV o o o)))
def Cx (ba:Int):Option Bool :=
 zw ba >>= fun ax =>
 some (!ax)
theorem TI {ba:Int}:b6 (Cx ba) (fun r=>Con bC 58 [.n .i64 ba] [] (.b r) []):=by
 unfold Cx
 exact .aC fun ax R =>
  .ret (bY [(ag 1),.aH (bU 1 (b3 1 (.b ax) true) 2)] (.aD (Ug ax R) (cn.b ax)))
def Fx (aX:List Int)(ep:Int):Int→S:=fun eA=>e1 [(0,.isl 1 (aX.map J)),(1,.fn 58 []),(7,.n .i64 ep),(8,.n .i64 eA)] []
def Ln (aX:List Int)(ep:Int):((Unit)⊕(Int))→e5
 | .inl a=>⟨some 0,[],[]⟩
 | .inr a=>⟨none,[(4,.n .i64 a)],[]⟩
def wy (aX:List Int)(ep eA:Int):Option ((Int)⊕((Unit)⊕(Int))) :=
 if (decide (eA<ep))=true then
  if 0≤eA∧eA<aX.length then
  aX[eA.toNat]? >>= fun aV =>
  Cx aV >>= fun bD =>
  if bD=true then
   some (.inr (.inr eA))
  else
   some (.inl (U (eA+(1:Int))))
  else none
 else
  some (.inr (.inl ()))
def FM (aX:List Int)(ep eA:Int):Option ((Unit)⊕(Int)):=iter (fun w:Int=>wy aX ep w) eA
theorem R9 {aX:List Int}{ep eA:Int}:b6 (wy aX ep eA) (fG bC 19 0 77 [1,0,1,0,0] (Fx aX ep eA) (Fx aX ep) (Ln aX ep)):=by
 unfold wy
 exact .ite (fun o =>
  .bn fun R =>
  .aC fun aV aB =>
  .aC fun bD bF =>
  (let t1:List c5:=[(ag 1),.ao true,(ag 2),.aH (an 4 (aq (.cK (J aV)) (aq (b3 1 (.b bD) true) [])))];
  have bg:=((.eK o R.1 (eR J R.2) (cP J aB) (TI bD bF) (cn.b bD)):c9 _);
  .ite (fun bS =>
  .ret (b5 (t1.append [.ao true,(ag 2),.br [] [] (b2 [4])]) (bg.bb (.ay bS))))
  (fun bS =>
  .ret (b5 (t1.append [.ao false,(ag 2),.br [] [] (b2 [0,1,7,8])]) (bg.bb (.ay bS))))))
  (fun o =>
  .ret (b5 [(ag 1),.ao false,.br [] [] []] (.ay o)))
theorem Lo {aX:List Int}{ep eA:Int}{r} (h:FM aX ep eA=some r):fH bC 19 0 77 [1,0,1,0,0] (Fx aX ep) (Ln aX ep) eA r:=fI (fun _=>R9) h
def B2 (aX:List Int):Option Int :=
 FM aX (len_ J aX) 0 >>= fun ax =>
 match ax with
 | .inl bG=>(some (-1))
 | .inr bG=>(some bG)
theorem SG {aX:List Int}:b6 (B2 aX) (fun r=>Con bC 77 [.isl 1 (aX.map J),.fn 58 []] [] (.n .i64 r) []):=by
 unfold B2
 exact .aC fun ax R =>
  (let t1:List c5:=[(ag 1),(ag 3),.br [] [] (b2 [0,1,7,8])];
  (by
  rcases ax with bG|bG
  ·exact (.ret (bY (t1.append [.sub (.exit 0) [] [],(ag 1)]) (.ay (Lo R))))
  ·exact (.ret (bY (t1.append [.sub (.ret) [(4,.n .i64 bG)] []]) (.ay (Lo R))))))
def BW (aX:List Int):Option Bool :=
 B2 aX >>= fun ax =>
 some (decide ((0:Int)≤ax))
theorem Sp {aX:List Int}:b6 (BW aX) (fun r=>Con bC 54 [.isl 1 (aX.map J),.fn 58 []] [] (.b r) []):=by
 unfold BW
 exact .aC fun ax R =>
  .ret (bY [(ag 1),.aH (bU 2 (b3 2 (.n .i64 ax) true) 2)] (.aD (SG ax R) (cn.n .i64 ax)))
def xn (aX:ct)(dl:List Int):Option Bool :=
 if ((len_ J dl) == (U ((2:Int)*(len_ cu aX.dd))))=true then
  BW dl >>= fun cH =>
  some (!cH)
 else
  some false
theorem T6 {aX:ct}{dl:List Int}:b6 (xn aX dl) (fun r=>Con bC 35 [.eB 2 [(hY aX)] 0 0,.isl 1 (dl.map J)] [] (.b r) []):=by
 unfold xn
 exact .ite (fun o =>
  .aC fun cH ah =>
  .ret (bY [(ag 1),.aH (an 11 (aq (b3 2 (.b cH) true) (bU 1 (.ao true) 1)))] (.eK o o (Sp cH ah) (cn.b cH) o o)))
  (fun o =>
  .ret (bY [(ag 1),.aH (an 10 (c3 3 (aq (.ao false) (an 1 []))))] (.du o o o o)))
def CZ (aX:ct)(dl:List Int):Option Bool :=
 sk aX >>= fun ax =>
 if ax=true then
  xn aX dl >>= fun bP =>
  some bP
 else
  some false
theorem Ut {aX:ct}{dl:List Int}:b6 (CZ aX dl) (fun r=>Con bC 15 [.agg (hY aX),.isl 1 (dl.map J)] [] (.b r) []):=by
 unfold CZ
 exact .aC fun ax R =>
  (have b0:=((.aD (Ci ax R) (cn.b ax)):c9 _);
  .ite (fun ah =>
  .aC fun bP aK =>
  .ret (bY [(ag 2),.aH (an 1 (aq (b3 1 (.b ax) true) (an 2 (aq (.call {ac:=[.bp (.ptr [.id,.id]),ii],r:= .b bP,dt:=true,dA:=[0]}) (aq (.ao true) (an 1 []))))))] (b0.bb (.eK ah ah (lC (qs aX):hs [(hY aX)]) (T6 bP aK) (cn.b bP) ah))))
  (fun ah =>
  .ret (bY [(ag 2),.aH (an 1 (aq (b3 1 (.b ax) true) (an 1 (c3 2 (aq (.ao false) (an 1 []))))))] (b0.bb (.bV ah ah ah)))))
def wS (aX:ct)(cm:Int):Option Bool :=
 if (decide ((0:Int)≤cm))=true then
  if (decide (cm<(len_ cq aX.cx)))=true then
   if 0≤cm∧cm<aX.cx.length then
   aX.cx[cm.toNat]? >>= fun f6 =>
   some (f6.ju == (1:Int))
   else none
  else
   some false
 else
  some false
theorem Lz {aX:ct}{cm:Int}:b6 (wS aX cm) (fun r=>Con bC 46 [.eB 2 [(hY aX)] 0 0,.n .i64 cm] [] (.b r) []):=by
 unfold wS
 exact .ite (fun o =>
  .ite (fun R =>
  .bn fun ah =>
  .aC fun f6 aK =>
  .ret (bY [(ag 1),.aH (an 10 (aq (.ao true) (an 8 (aq (.cK (cq f6)) (bU 1 (.ao true) 1)))))] (.bh o o o o o o o o (.bh R R R R R R ah.1 (eR cq ah.2) (.dV R R (cP cq aK) R R)))))
  (fun R =>
  .ret (bY [(ag 1),.aH (an 10 (aq (.ao true) (an 1 (c3 9 (aq (.ao false) (an 1 []))))))] (.bh o o o o o o o o (.bh R R R R R R R R (.aD R R))))))
  (fun o =>
  .ret (bY [(ag 1),.aH (an 3 (c3 7 (aq (.ao false) (an 1 (c3 9 (an 2 []))))))] (.bh o o o o o o o o (.bh d3 d3 d3 d3 d3 d3 d3 d3 (.ay d3)))))
def Ct (kg:bk)(z5:Int):Option Int :=
 if (z5 == kg.cE)=true then
  some kg.cF
 else
  if (z5 == kg.cF)=true then
   some kg.cE
  else
   some (-1)
theorem LH {kg:bk}{z5:Int}:b6 (Ct kg z5) (fun r=>Con bC 47 [.agg (cq kg),.n .i64 z5] [] (.n .i64 r) []):=by
 unfold Ct
 exact (let t1:List c5:=[(ag 2),(ag 1),(ag 4)];
  .ite (fun o =>
  .ret (bY (t1.append [.ao true,(ag 3)]) (.ay o)))
  (fun o =>
  .ite (fun R =>
  .ret (bY (t1.append [.ao false,(ag 4),.ao true,(ag 3)]) (.aD o R)))
  (fun R =>
  .ret (bY (t1.append [.ao false,(ag 4),.ao false,(ag 1)]) (.aD o R)))))
def pL (aX:ct)(cm:Int):Option (Int×Int) :=
 if 0≤cm∧cm<aX.cx.length then
 aX.cx[cm.toNat]? >>= fun fm =>
 if 0≤fm.cF∧fm.cF<aX.dd.length then
 aX.dd[fm.cF.toNat]? >>= fun m0 =>
 if 0≤fm.cE∧fm.cE<aX.dd.length then
 aX.dd[fm.cE.toNat]? >>= fun oq =>
 some (U (m0.gM-oq.gM),U (m0.mz-oq.mz))
 else none
 else none
 else none
theorem LA {aX:ct}{cm:Int}:b6 (pL aX cm) (fun r=>Con bC 53 [.eB 2 [(hY aX)] 0 0,.n .i64 cm] [] (.dK [.n .i64 r.1,.n .i64 r.2]) []):=by
 unfold pL
 exact .bn fun o =>
  .aC fun fm ah =>
  .bn fun aB =>
  .aC fun m0 bF =>
  .bn fun bS =>
  .aC fun oq dy =>
  .ret (bY [(ag 2),.aH (bU 6 (.cK (cq fm)) 2),.aH (an 8 (aq (.cK (cu m0)) (an 8 (aq (.cK (cu oq)) (an 9 (aq (.cK (cu m0)) (bU 8 (.cK (cu oq)) 3)))))))] (.bh o.1 (eR cq o.2) (cP cq ah) aB.1 (eR cu aB.2) (cP cu bF) bS.1 (eR cu bS.2) (.fu (cP cu dy) aB.1 (eR cu aB.2) (cP cu bF) bS.1 (eR cu bS.2) (cP cu dy))))
def FP (cy eM:Int):Int→S:=fun ba=>e1 [(5,.n .i64 cy),(6,.n .i64 eM),(7,.n .i64 ba)] []
def FR (cy eM:Int):Int→e5
 | a=>⟨some 0,[(5,.n .i64 cy),(6,.n .i64 eM),(7,.n .i64 a)],[]⟩
def zb (cy eM ba:Int):Option ((Int)⊕(Int)) :=
 if (decide ((U (ba*ba))<(U ((U (cy*cy))+(U (eM*eM))))))=true then
  some (.inl (U (ba+(1:Int))))
 else
  some (.inr ba)
def Gg (cy eM ba:Int):Option (Int):=iter (fun w:Int=>zb cy eM w) ba
theorem Ss {cy eM ba:Int}:b6 (zb cy eM ba) (fG bC 39 0 26 [1,1,1,0,0,0] (FP cy eM ba) (FP cy eM) (FR cy eM)):=by
 unfold zb
 exact .ite (fun o =>
  .ret (b5 [(ag 11),.ao true,(ag 3),.br [] [] (b2 [5,6,7])] (.ay o)))
  (fun o =>
  .ret (b5 [(ag 11),.ao false,.br [] [] (b2 [5,6,7])] (.ay o)))
theorem SN {cy eM ba:Int}{r} (h:Gg cy eM ba=some r):fH bC 39 0 26 [1,1,1,0,0,0] (FP cy eM) (FR cy eM) ba r:=fI (fun _=>Ss) h
def mC (aX:ct)(cm:Int):Option Int :=
 pL aX cm >>= fun ax =>
 Gg ax.1 ax.2 0 >>= fun a6 =>
 if ((U (a6*a6)) != (U ((U (ax.1*ax.1))+(U (ax.2*ax.2)))))=true then
  some 0
 else
  some a6
theorem uv {aX:ct}{cm:Int}:b6 (mC aX cm) (fun r=>Con bC 26 [.eB 2 [(hY aX)] 0 0,.n .i64 cm] [] (.n .i64 r) []):=by
 unfold mC
 exact .aC fun ax R =>
  .aC fun a6 aB =>
  (let t1:List c5:=[(ag 1),.aH (bU 2 (b3 2 (.dK [.n .i64 ax.1,.n .i64 ax.2]) true) 5),(ag 1),.br [] [] (b2 [5,6,7]),(FR ax.1 ax.2 a6).gr,(ag 11)];
  have bg:=((.bV (LA ax R) (DP (k1 (cn.n .i64 ax.1) (k1 (cn.n .i64 ax.2) tB))) (SN aB)):c9 _);
  .ite (fun aK =>
  .ret (bY (t1.append [.ao true,(ag 1)]) (bg.bb (.ay aK))))
  (fun aK =>
  .ret (bY (t1.append [.ao false,(ag 2)]) (bg.bb (.ay aK)))))
def xr (aX:ct)(a1:bu):Option Bool :=
 sk aX >>= fun ax =>
 if ax=true then
  if (a1.cE == a1.cF)=true then
   some false
  else
   wS aX a1.cE >>= fun bD =>
   if bD=true then
    wS aX a1.cF >>= fun fQ =>
    if fQ=true then
     if (decide (a1.b9<(1:Int)))=true then
      some false
     else
      if (decide (a1.fA<a1.b9))=true then
       some false
      else
       if (decide ((100:Int)<a1.fA))=true then
        some false
       else
        if 0≤a1.cE∧a1.cE<aX.cx.length then
        aX.cx[a1.cE.toNat]? >>= fun EG =>
        if 0≤a1.cF∧a1.cF<aX.cx.length then
        aX.cx[a1.cF.toNat]? >>= fun EH =>
        Ct EH EG.cE >>= fun iF =>
        if (decide (iF<(0:Int)))=true then
         Ct EH EG.cF >>= fun ng =>
         if (decide (ng<(0:Int)))=true then
          some false
         else
          mC aX a1.cE >>= fun k9 =>
          mC aX a1.cF >>= fun jr =>
          if (decide ((0:Int)<k9))=true then
           if (decide ((0:Int)<jr))=true then
            if (decide ((U (k9*a1.fA))≤(100:Int)))=true then
             some (decide ((U (jr*a1.fA))≤(100:Int)))
            else
             some false
           else
            some false
          else
           some false
        else
         mC aX a1.cE >>= fun ng =>
         mC aX a1.cF >>= fun yN =>
         if (decide ((0:Int)<ng))=true then
          if (decide ((0:Int)<yN))=true then
           if (decide ((U (ng*a1.fA))≤(100:Int)))=true then
            some (decide ((U (yN*a1.fA))≤(100:Int)))
           else
            some false
          else
           some false
         else
          some false
        else none
        else none
    else
     some false
   else
    some false
 else
  some false
theorem Uh {aX:ct}{a1:bu}:b6 (xr aX a1) (fun r=>Con bC 20 [.agg (hY aX),.agg (cL a1)] [] (.b r) []):=by
 unfold xr
 exact .aC fun ax R =>
  (have b0:=((.aD (Ci ax R) (cn.b ax)):c9 _);
  .ite (fun ah =>
  (have bg:=b0.bb (.eK (e3 ah) (e3 ah) (e3 ah) (e3 ah) (e3 ah) (e3 ah));
  .ite (fun aB =>
  .ret (bY [(ag 3),.aH (an 1 (aq (b3 1 (.b ax) true) (an 7 (aq (.ao false) (an 1 (c3 4 (aq (.ao true) (an 1 (c3 4 (an 2 (c3 3 (an 2 (c3 5 (an 2 (c3 3 (an 1 [])))))))))))))))),.ao true,(ag 1)] (bg.bb (.bh aB aB aB aB aB ch ch ch (.bh ch ch ch ch ch ch ch ch (.dV ch ch ch ch ch))))))
  (fun aB =>
  .aC fun bD bF =>
  (have fK:=bg.bb (.hq aB aB aB (lC (qs aX):hs [(hY aX)]) (Lz bD bF) (cn.b bD) aB aB);
  .ite (fun bS =>
  .aC fun fQ dy =>
  (have f7:=fK.bb (.hq (e3 bS) (e3 bS) (e3 bS) (lC (qs aX):hs [(hY aX)]) (Lz fQ dy) (cn.b fQ) (e3 bS) (e3 bS));
  .ite (fun dQ =>
  (have lY:=f7.bb (.du (e3 dQ) (e3 dQ) (e3 dQ) (e3 dQ));
  .ite (fun dC =>
  .ret (bY [(ag 3),.aH (an 1 (aq (b3 1 (.b ax) true) (an 7 (aq (.ao false) (an 3 (aq (.call {ac:=[.bp (.ptr [.id,.id]),ii],r:= .b bD,dt:=true,dA:=[0]}) (an 1 (aq (.ao false) (an 3 (aq (.call {ac:=[.bp (.ptr [.id,.id]),ii],r:= .b fQ,dt:=true,dA:=[0]}) (an 1 (aq (.ao false) (an 4 (aq (.ao false) (an 1 (c3 5 (aq (.ao true) (an 1 (c3 3 (an 1 [])))))))))))))))))))),.ao true,(ag 1)] (lY.bb (.bh dC dC dC dC dC dC ch ch (.aD ch ch)))))
  (fun dC =>
  .ite (fun fr =>
  .ret (bY [(ag 3),.aH (an 1 (aq (b3 1 (.b ax) true) (an 7 (aq (.ao false) (an 3 (aq (.call {ac:=[.bp (.ptr [.id,.id]),ii],r:= .b bD,dt:=true,dA:=[0]}) (an 1 (aq (.ao false) (an 3 (aq (.call {ac:=[.bp (.ptr [.id,.id]),ii],r:= .b fQ,dt:=true,dA:=[0]}) (an 1 (aq (.ao false) (an 4 (aq (.ao false) (an 6 (aq (.ao false) (an 1 (c3 3 (aq (.ao true) []))))))))))))))))))),.ao true,(ag 1)] (lY.bb (.bh dC dC dC dC dC dC fr fr (.bV fr fr ch)))))
  (fun fr =>
  (let t6:List c5:=[(ag 3),.aH (an 1 (aq (b3 1 (.b ax) true) (an 7 (aq (.ao false) (an 3 (aq (.call {ac:=[.bp (.ptr [.id,.id]),ii],r:= .b bD,dt:=true,dA:=[0]}) (an 1 (aq (.ao false) (an 3 (aq (.call {ac:=[.bp (.ptr [.id,.id]),ii],r:= .b fQ,dt:=true,dA:=[0]}) (an 1 (aq (.ao false) (an 4 (aq (.ao false) (an 6 (aq (.ao false) (an 4 (aq (.ao false) []))))))))))))))))))];
  have RK:=lY.bb (.bh dC dC dC dC dC dC fr fr (.aD fr fr));
  .ite (fun eC =>
  .ret (bY (t6.append [.ao true,(ag 1)]) (RK.bb (.ay eC))))
  (fun eC =>
  .bn fun eQ =>
  .aC fun EG hJ =>
  .bn fun fS =>
  .aC fun EH kf =>
  .aC fun iF nO =>
  (let t8:List c5:=t6.append [.ao false,.aH (an 5 (aq (.cK (cq EG)) (bU 5 (.cK (cq EH)) 4)))];
  have RL:=RK.bb (.bh eC eQ.1 (eR cq eQ.2) (cP cq hJ) fS.1 (eR cq fS.2) (cP cq kf) (LH iF nO) (.ay (cn.n .i64 iF)));
  .ite (fun jc =>
  .aC fun ng qV =>
  (let t10:List c5:=t8.append [.aH (an 3 (aq (b3 2 (.n .i64 iF) true) (an 5 (aq (b3 2 (.n .i64 ng) true) (an 1 (aq (.ao true) []))))))];
  have yO:=RL.bb (.hq jc jc jc jc (LH ng qV) (cn.n .i64 ng) jc jc);
  .ite (fun nh =>
  .ret (bY (t10.append [.ao true,(ag 1)]) (yO.bb (.ay nh))))
  (fun nh =>
  .aC fun k9 mr =>
  .aC fun jr ly =>
  (let t12:List c5:=t10.append [.ao false,.aH (an 2 (aq (.call {ac:=[.bp (.ptr [.id,.id]),ii],r:= .n .i64 k9,dt:=true,dA:=[0]}) (bU 2 (.call {ac:=[.bp (.ptr [.id,.id]),ii],r:= .n .i64 jr,dt:=true,dA:=[0]}) 2)))];
  have Kk:=yO.bb (.fu nh (lC (qs aX):hs [(hY aX)]) (uv k9 mr) (cn.n .i64 k9) (lC (qs aX):hs [(hY aX)]) (uv jr ly) (cn.n .i64 jr));
  .ite (fun j5 =>
  .ite (fun gK =>
  (have Q3:=Kk.bb (.bh j5 j5 j5 gK gK gK gK gK (.ay gK));
  .ite (fun ni =>
  .ret (bY (t12.append [.aH (an 5 (aq (.ao true) (an 6 (aq (.ao true) (bU 6 (.ao true) 1)))))]) (Q3.bb (.eK ni ni ni ni ni ni))))
  (fun ni =>
  .ret (bY (t12.append [.aH (an 5 (aq (.ao true) (an 6 (aq (.ao true) (an 1 (c3 5 (aq (.ao false) (an 1 []))))))))]) (Q3.bb (.eK ni ni ni ni ni ni))))))
  (fun gK =>
  .ret (bY (t12.append [.aH (an 5 (aq (.ao true) (an 1 (c3 5 (aq (.ao false) (an 1 (c3 5 (an 2 []))))))))]) (Kk.bb (.bh j5 j5 j5 gK gK gK gK gK (.eK gK d3 d3 d3 d3 d3))))))
  (fun j5 =>
  .ret (bY (t12.append [.aH (an 3 (c3 2 (aq (.ao false) (an 1 (c3 5 (an 2 (c3 5 (an 2 []))))))))]) (Kk.bb (.bh j5 j5 j5 d3 d3 d3 d3 d3 (.dV d3 d3 d3 d3 d3)))))))))
  (fun jc =>
  .aC fun ng qV =>
  .aC fun yN vH =>
  (let t10:List c5:=t8.append [.aH (an 3 (aq (b3 2 (.n .i64 iF) true) (an 2 (c3 5 (aq (.ao false) []))))),.ao false,.aH (an 2 (aq (.call {ac:=[.bp (.ptr [.id,.id]),ii],r:= .n .i64 ng,dt:=true,dA:=[0]}) (bU 2 (.call {ac:=[.bp (.ptr [.id,.id]),ii],r:= .n .i64 yN,dt:=true,dA:=[0]}) 2)))];
  have yO:=RL.bb (.bh jc jc jc jc jc jc d3 (lC (qs aX):hs [(hY aX)]) (.dV (uv ng qV) (cn.n .i64 ng) (lC (qs aX):hs [(hY aX)]) (uv yN vH) (cn.n .i64 yN)));
  .ite (fun mr =>
  .ite (fun o3 =>
  (have Q4:=yO.bb (.bh mr mr mr o3 o3 o3 o3 o3 (.ay o3));
  .ite (fun ly =>
  .ret (bY (t10.append [.aH (an 5 (aq (.ao true) (an 6 (aq (.ao true) (bU 6 (.ao true) 1)))))]) (Q4.bb (.eK ly ly ly ly ly ly))))
  (fun ly =>
  .ret (bY (t10.append [.aH (an 5 (aq (.ao true) (an 6 (aq (.ao true) (an 1 (c3 5 (aq (.ao false) (an 1 []))))))))]) (Q4.bb (.eK ly ly ly ly ly ly))))))
  (fun o3 =>
  .ret (bY (t10.append [.aH (an 5 (aq (.ao true) (an 1 (c3 5 (aq (.ao false) (an 1 (c3 5 (an 2 []))))))))]) (yO.bb (.bh mr mr mr o3 o3 o3 o3 o3 (.eK o3 d3 d3 d3 d3 d3))))))
  (fun mr =>
  .ret (bY (t10.append [.aH (an 3 (c3 2 (aq (.ao false) (an 1 (c3 5 (an 2 (c3 5 (an 2 []))))))))]) (yO.bb (.bh mr mr mr d3 d3 d3 d3 d3 (.dV d3 d3 d3 d3 d3))))))))))))))
  (fun dQ =>
  .ret (bY [(ag 3),.aH (an 1 (aq (b3 1 (.b ax) true) (an 7 (aq (.ao false) (an 3 (aq (.call {ac:=[.bp (.ptr [.id,.id]),ii],r:= .b bD,dt:=true,dA:=[0]}) (an 1 (aq (.ao false) (an 3 (aq (.call {ac:=[.bp (.ptr [.id,.id]),ii],r:= .b fQ,dt:=true,dA:=[0]}) (an 1 (aq (.ao false) (an 1 (c3 3 (aq (.ao true) (an 1 (c3 5 (an 2 (c3 3 (an 1 [])))))))))))))))))))),.ao true,(ag 1)] (f7.bb (.bh (e6 dQ) (e6 dQ) (e6 dQ) (e6 dQ) ch ch ch ch (.dV ch ch ch ch ch)))))))
  (fun bS =>
  .ret (bY [(ag 3),.aH (an 1 (aq (b3 1 (.b ax) true) (an 7 (aq (.ao false) (an 3 (aq (.call {ac:=[.bp (.ptr [.id,.id]),ii],r:= .b bD,dt:=true,dA:=[0]}) (an 1 (aq (.ao false) (an 1 (c3 4 (aq (.ao true) (an 1 (c3 3 (an 2 (c3 5 (an 2 (c3 3 (an 1 [])))))))))))))))))),.ao true,(ag 1)] (fK.bb (.bh (e6 bS) (e6 bS) (e6 bS) (e6 bS) (e6 bS) ch ch ch (.bh ch ch ch ch ch ch ch ch (.ay ch))))))))))
  (fun ah =>
  .ret (bY [(ag 3),.aH (an 1 (aq (b3 1 (.b ax) true) (an 2 (c3 5 (aq (.ao true) (an 1 (c3 4 (an 2 (c3 4 (an 2 (c3 3 (an 2 (c3 5 (an 2 (c3 3 (an 1 [])))))))))))))))),.ao true,(ag 1)] (b0.bb (.bh (e6 ah) (e6 ah) (e6 ah) (e6 ah) (e6 ah) (e6 ah) ch ch (.bh ch ch ch ch ch ch ch ch (.bh ch ch ch ch ch ch ch ch (.aD ch ch))))))))
def Gr (gA:List bu)(gl:Int)(bd:List aT)(aI:List bk):Int→S:=fun gU=>e1 [(2,.ref 0 0 0 0),(15,.isl 4 (gA.map cL)),(16,.n .i64 gl),(17,.n .i64 gU)] [[ab.mk 2 [[.isl 4 (bd.map cu),.isl 3 (aI.map cq)]] .live]]
def LI (gA:List bu)(gl:Int)(bd:List aT)(aI:List bk):((Unit)⊕(Unit))→e5
 | .inl a=>⟨some 0,[],[]⟩
 | .inr a=>⟨none,[(4,.b false)],[]⟩
def ux (gA:List bu)(gl:Int)(bd:List aT)(aI:List bk)(gU:Int):Option ((Int)⊕((Unit)⊕(Unit))) :=
 if (decide (gU<gl))=true then
  if 0≤gU∧gU<gA.length then
  gA[gU.toNat]? >>= fun aV =>
  xr (⟨bd,aI⟩:ct) aV >>= fun bD =>
  if bD=true then
   some (.inl (U (gU+(1:Int))))
  else
   some (.inr (.inr ()))
  else none
 else
  some (.inr (.inl ()))
def L0 (gA:List bu)(gl:Int)(bd:List aT)(aI:List bk)(gU:Int):Option ((Unit)⊕(Unit)):=iter (fun w:Int=>ux gA gl bd aI w) gU
theorem S3 {gA:List bu}{gl:Int}{bd:List aT}{aI:List bk}{gU:Int}:b6 (ux gA gl bd aI gU) (fG bC 26 0 6 [1,1,0,1,0,0] (Gr gA gl bd aI gU) (Gr gA gl bd aI) (LI gA gl bd aI)):=by
 unfold ux
 exact .ite (fun o =>
  .bn fun R =>
  .aC fun aV aB =>
  .aC fun bD bF =>
  (let t1:List c5:=[(ag 1),.ao true,.aH (bU 1 (.cK (cL aV)) 2),.aH (bU 2 (b3 2 (.b bD) true) 1)];
  have bg:=((.eK o R.1 (eR cL R.2) (cP cL aB) (Uh bD bF) (cn.b bD)):c9 _);
  .ite (fun bS =>
  .ret (b5 (t1.append [.ao false,(ag 2),.br [0] [.box [.id,.id]] (b2 [2,15,16,17])]) (bg.bb (.ay (e3 bS)))))
  (fun bS =>
  .ret (b5 (t1.append [.ao true,(ag 1),.br [] [] (b2 [4])]) (bg.bb (.ay (e6 bS)))))))
  (fun o =>
  .ret (b5 [(ag 1),.ao false,.br [] [] []] (.ay o)))
theorem LM {gA:List bu}{gl:Int}{bd:List aT}{aI:List bk}{gU:Int}{r} (h:L0 gA gl bd aI gU=some r):fH bC 26 0 6 [1,1,0,1,0,0] (Gr gA gl bd aI) (LI gA gl bd aI) gU r:=fI (fun _=>S3) h
def tu (aX:ct)(iz:List bu):Option Bool :=
 if (decide ((3:Int)<(len_ cL iz)))=true then
  some false
 else
  sk aX >>= fun cH =>
  if cH=true then
   L0 iz (len_ cL iz) aX.dd aX.cx 0 >>= fun bD =>
   match bD with
   | .inl wb=>(some true)
   | .inr wb=>(some false)
  else
   some false
theorem Hs {aX:ct}{iz:List bu}:b6 (tu aX iz) (fun r=>Con bC 6 [.agg (hY aX),.isl 4 (iz.map cL)] [] (.b r) []):=by
 unfold tu
 exact .ite (fun o =>
  .ret (bY [(ag 2),.aH (an 4 (c3 3 (aq (.ao true) []))),.ao true,(ag 1)] (.dV o o o o ch)))
  (fun o =>
  .aC fun cH ah =>
  (let t1:List c5:=[(ag 2),.aH (an 5 (aq (b3 1 (.b cH) true) (an 1 (aq (.ao false) []))))];
  have bg:=((.eK o o (Ci cH ah) (cn.b cH) o o):c9 _);
  .ite (fun aB =>
  .aC fun bD bF =>
  (let t3:List c5:=t1.append [.ao false,(ag 3),.br [0] [.box [.id,.id]] (b2 [2,15,16,17])];
  (by
  rcases bD with wb|wb
  ·exact (.ret (bY (t3.append [.sub (.exit 0) [] [],(ag 1)]) (bg.bb (.aD (e3 aB) (LM bF)))))
  ·exact (.ret (bY (t3.append [.sub (.ret) [(4,.b false)] []]) (bg.bb (.aD (e3 aB) (LM bF))))))))
  (fun aB =>
  .ret (bY (t1.append [.ao true,(ag 1)]) (bg.bb (.ay (e6 aB)))))))
def FN (gH:List bk)(e8:Int):(Int×(List dY))→S:=fun (ez,ar)=>e1 [(3,.bm 0 0 0 ar.length),(9,.isl 3 (gH.map cq)),(10,.n .i64 e8),(11,.n .i64 ez)] [(av 2 ek ar)]
def Lu (gH:List bk)(e8:Int):(List dY)→e5
 | a=>⟨some 0,[(3,.bm 0 0 0 a.length)],[(av 2 ek a)]⟩
def wE (gH:List bk)(e8 ez:Int)(ar:List dY):Option ((Int×(List dY))⊕((List dY))) :=
 if (decide (ez<e8))=true then
  if 0≤ez∧ez<gH.length then
  gH[ez.toNat]? >>= fun aV =>
  if (aV.ju != (2:Int))=true then
   if (ar++([(⟨ez,1⟩:dY)]:List dY)).length*16≤140737488355328 then
   if (aV.ju != (1:Int))=true then
    if ((ar++([(⟨ez,1⟩:dY)]:List dY))++([(⟨ez,(-1)⟩:dY)]:List dY)).length*16≤140737488355328 then
    some (.inl (U (ez+(1:Int)),(ar++([(⟨ez,1⟩:dY)]:List dY))++([(⟨ez,(-1)⟩:dY)]:List dY)))
    else none
   else
    some (.inl (U (ez+(1:Int)),ar++([(⟨ez,1⟩:dY)]:List dY)))
   else none
  else
   if (aV.ju != (1:Int))=true then
    if (ar++([(⟨ez,(-1)⟩:dY)]:List dY)).length*16≤140737488355328 then
    some (.inl (U (ez+(1:Int)),ar++([(⟨ez,(-1)⟩:dY)]:List dY)))
    else none
   else
    some (.inl (U (ez+(1:Int)),ar))
  else none
 else
  some (.inr ar)
def Gd (gH:List bk)(e8 ez:Int)(ar:List dY):Option ((List dY)):=iter (fun w:Int×(List dY)=>wE gH e8 w.1 w.2) (ez,ar)
theorem Sq {gH:List bk}{e8 ez:Int}{ar:List dY}:b6 (wE gH e8 ez ar) (fG bC 34 0 37 [1,1,0,1,0,0] (FN gH e8 (ez,ar)) (FN gH e8) (Lu gH e8)):=by
 unfold wE
 exact .ite (fun o =>
  .bn fun R =>
  .aC fun aV aB =>
  (let t1:List c5:=[(ag 1),.ao true,.aH (bU 2 (.cK (cq aV)) 3),(ag 3)];
  have bg:=((.du o R.1 (eR cq R.2) (cP cq aB)):c9 _);
  .ite (fun aK =>
  .bn fun bF =>
  (let t3:List c5:=t1.append [.ao true,.aH (bU 4 (.bb ((ar++([(⟨ez,1⟩:dY)]:List dY)).length)) 1),(ag 3)];
  have f7:=bg.bb (.dV aK (m1 ek (⟨ez,1⟩:dY)) (se ek ar) (ou ek ar (⟨ez,1⟩:dY)) bF);
  .ite (fun bS =>
  .bn fun bx =>
  .ret (let aW:=(ar++([(⟨ez,1⟩:dY)]:List dY));let bi:=(aW++([(⟨ez,(-1)⟩:dY)]:List dY));let cd:=(sf ek ar (⟨ez,1⟩:dY));b5 (t3.append [.ao true,.aH (bU 4 (.bb (bi.length)) 1),(ag 2),.br [24] [.da (av 2 ek bi)] (b2 [3,9,10,11])]) (f7.bb (.fu bS (m1 ek (⟨ez,(-1)⟩:dY)) (u1 cd (fO aW)) (ou ek aW (⟨ez,(-1)⟩:dY)) bx (dF 2 .live (q9 cd (fO aW) (rG ek (⟨ez,(-1)⟩:dY)))) (aA 2 .live uF bi)))))
  (fun bS =>
  .ret (let cV:=(ar++([(⟨ez,1⟩:dY)]:List dY));b5 (t3.append [.ao false,(ag 2),.br [15] [.da (av 2 ek cV)] (b2 [3,9,10,11])]) (f7.bb (.bV bS (dF 2 .live (sf ek ar (⟨ez,1⟩:dY))) (aA 2 .live uF cV)))))))
  (fun aK =>
  .ite (fun bF =>
  .bn fun bS =>
  .ret (let dX:=(ar++([(⟨ez,(-1)⟩:dY)]:List dY));b5 (t1.append [.ao false,(ag 3),.ao true,.aH (bU 4 (.bb (dX.length)) 1),(ag 2),.br [18] [.da (av 2 ek dX)] (b2 [3,9,10,11])]) (bg.bb (.hq aK bF (m1 ek (⟨ez,(-1)⟩:dY)) (se ek ar) (ou ek ar (⟨ez,(-1)⟩:dY)) bS (dF 2 .live (sf ek ar (⟨ez,(-1)⟩:dY))) (aA 2 .live uF dX)))))
  (fun bF =>
  .ret (b5 (t1.append [.ao false,(ag 3),.ao false,(ag 2),.br [0] [.pure] (b2 [3,9,10,11])]) (bg.bb (.bV aK bF (aA 2 .live uF ar))))))))
  (fun o =>
  .ret (b5 [(ag 1),.ao false,.br [0] [.pure] (b2 [3])] (.aD o (aA 2 .live uF ar))))
theorem SK {gH:List bk}{e8 ez:Int}{ar:List dY}{r} (h:Gd gH e8 ez ar=some r):fH bC 34 0 37 [1,1,0,1,0,0] (FN gH e8) (Lu gH e8) (ez,ar) r:=fI (fun _=>Sq) h
def tp (aX:ct):Option (List dY) :=
 Gd aX.cx (len_ cq aX.cx) 0 ([]:List dY) >>= fun ax =>
 some ax
theorem B6 {aX:ct}:b6 (tp aX) (fun r=>Con bC 37 [.eB 2 [(hY aX)] 0 0] [] (.isl 2 (r.map ek)) []):=by
 unfold tp
 exact .aC fun ax R =>
  .ret (bY [(ag 1),(ag 1),(ag 6),.tQ 3 2,.br [8] [.da (av 2 ek ([]:List dY))] [(3,gX (([]:List dY).length)),(9,ii),(10,ii),(11,ii)],.sub (.exit 0) [(3,.bm 0 0 0 ax.length)] [(av 2 ek ax)],(ag 2)] (.fu (dF 2 .live (tl ek)) (aA 2 .live uF ([]:List dY)) (ot dY) (SK R) (jT ek ax) (jg ek ax) (dP uF ax)) (.bp (.b4 (.ej (ax.map ek)))))
def FB (gH:List aT)(e8:Int):(Int×(List Int))→S:=fun (ez,ar)=>e1 [(3,.bm 0 0 0 ar.length),(9,.isl 4 (gH.map cu)),(10,.n .i64 e8),(11,.n .i64 ez)] [(av 1 J ar)]
def Lq (gH:List aT)(e8:Int):(List Int)→e5
 | a=>⟨some 0,[(3,.bm 0 0 0 a.length)],[(av 1 J a)]⟩
def y9 (gH:List aT)(e8 ez:Int)(ar:List Int):Option ((Int×(List Int))⊕((List Int))) :=
 if (decide (ez<e8))=true then
  if 0≤ez∧ez<gH.length then
  gH[ez.toNat]? >>= fun aV =>
  if aV.hF=true then
   some (.inl (U (ez+(1:Int)),ar))
  else
   if (ar++([ez]:List Int)).length*8≤140737488355328 then
   some (.inl (U (ez+(1:Int)),ar++([ez]:List Int)))
   else none
  else none
 else
  some (.inr ar)
def FT (gH:List aT)(e8 ez:Int)(ar:List Int):Option ((List Int)):=iter (fun w:Int×(List Int)=>y9 gH e8 w.1 w.2) (ez,ar)
theorem Sd {gH:List aT}{e8 ez:Int}{ar:List Int}:b6 (y9 gH e8 ez ar) (fG bC 25 0 67 [1,1,0,1,0,0] (FB gH e8 (ez,ar)) (FB gH e8) (Lq gH e8)):=by
 unfold y9
 exact .ite (fun o =>
  .bn fun R =>
  .aC fun aV aB =>
  (let t1:List c5:=[(ag 1),.ao true,.aH (bU 2 (.cK (cu aV)) 3),(ag 3)];
  have bg:=((.du o R.1 (eR cu R.2) (cP cu aB)):c9 _);
  .ite (fun aK =>
  .ret (b5 (t1.append [.ao false,(ag 2),.br [0] [.pure] (b2 [3,9,10,11])]) (bg.bb (.aD (e3 aK) (aA 1 .live aE ar)))))
  (fun aK =>
  .bn fun bF =>
  .ret (let aW:=(ar++([ez]:List Int));b5 (t1.append [.ao true,.aH (bU 3 (.bb (aW.length)) 1),(ag 2),.br [14] [.da (av 1 J aW)] (b2 [3,9,10,11])]) (bg.bb (.fu (e6 aK) (m1 J ez) (se J ar) (ou J ar ez) bF (dF 1 .live (sf J ar ez)) (aA 1 .live aE aW)))))))
  (fun o =>
  .ret (b5 [(ag 1),.ao false,.br [0] [.pure] (b2 [3])] (.aD o (aA 1 .live aE ar))))
theorem Sx {gH:List aT}{e8 ez:Int}{ar:List Int}{r} (h:FT gH e8 ez ar=some r):fH bC 25 0 67 [1,1,0,1,0,0] (FB gH e8) (Lq gH e8) (ez,ar) r:=fI (fun _=>Sd) h
def wO (aX:ct):Option (List Int) :=
 FT aX.dd (len_ cu aX.dd) 0 ([]:List Int) >>= fun ax =>
 some ax
theorem Lx {aX:ct}:b6 (wO aX) (fun r=>Con bC 67 [.eB 2 [(hY aX)] 0 0] [] (.isl 1 (r.map J)) []):=by
 unfold wO
 exact .aC fun ax R =>
  .ret (bY [(ag 1),(ag 1),(ag 6),.tQ 3 1,.br [8] [.da (av 1 J ([]:List Int))] [(3,gX (([]:List Int).length)),(9,ii),(10,ii),(11,ii)],.sub (.exit 0) [(3,.bm 0 0 0 ax.length)] [(av 1 J ax)],(ag 2)] (.fu (dF 1 .live (tl J)) (aA 1 .live aE ([]:List Int)) (ot Int) (Sx R) (jT J ax) (jg J ax) (dP aE ax)) (.bp (.b4 (.ej (ax.map J)))))
def Fy (db:List aT)(c1:List bk)(d6:Int)(cN:List Int)(cQ gA dp:Int)(ar:List (List Int)):(Int×(List Int)×(List Int))→S:=fun (gg,aj,aQ)=>e1 [(0,.eB 2 [[.isl 4 (db.map cu),.isl 3 (c1.map cq)]] 0 0),(3,.bm 0 0 0 ar.length),(5,.n .i64 d6),(6,.bm 1 0 0 aj.length),(7,.bm 2 0 0 aQ.length),(13,.isl 1 (cN.map J)),(14,.n .i64 cQ),(15,.n .i64 gA),(34,.isl 3 (c1.map cq)),(35,.n .i64 dp),(36,.n .i64 gg)] [(av 1 (fg 1 J) ar),(av 1 J aj),(av 1 J aQ)]
def FC (db:List aT)(c1:List bk)(d6:Int)(cN:List Int)(cQ gA dp:Int)(ar:List (List Int)):((List Int)×(List Int))→e5
 | a=>⟨some 2,[(0,.eB 2 [[.isl 4 (db.map cu),.isl 3 (c1.map cq)]] 0 0),(3,.bm 0 0 0 ar.length),(6,.bm 1 0 0 a.1.length),(7,.bm 2 0 0 a.2.length),(13,.isl 1 (cN.map J)),(14,.n .i64 cQ),(15,.n .i64 gA)],[(av 1 (fg 1 J) ar),(av 1 J a.1),(av 1 J a.2)]⟩
def wz (db:List aT)(c1:List bk)(d6:Int)(cN:List Int)(cQ gA dp:Int)(ar:List (List Int))(gg:Int)(aj aQ:List Int):Option ((Int×(List Int)×(List Int))⊕((List Int)×(List Int))) :=
 if (decide (gg<dp))=true then
  if 0≤gg∧gg<c1.length then
  c1[gg.toNat]? >>= fun aV =>
  pL (⟨db,c1⟩:ct) gg >>= fun bD =>
  if (d6 == aV.cE)=true then
   if 0≤gg∧gg<(aj.length:Nat) then
   if (0+gg.toNat)<aj.length then
   if 0≤gg∧gg<(aQ.length:Nat) then
   if (0+gg.toNat)<aQ.length then
   some (.inl (U (gg+(1:Int)),aj.set (0+gg.toNat) bD.1,aQ.set (0+gg.toNat) bD.2))
   else none
   else none
   else none
   else none
  else
   if (d6 == aV.cF)=true then
    if 0≤gg∧gg<(aj.length:Nat) then
    if (0+gg.toNat)<aj.length then
    if 0≤gg∧gg<(aQ.length:Nat) then
    if (0+gg.toNat)<aQ.length then
    some (.inl (U (gg+(1:Int)),aj.set (0+gg.toNat) (U (0-bD.1)),aQ.set (0+gg.toNat) (U (0-bD.2))))
    else none
    else none
    else none
    else none
   else
    some (.inl (U (gg+(1:Int)),aj,aQ))
  else none
 else
  some (.inr (aj,aQ))
def B1 (db:List aT)(c1:List bk)(d6:Int)(cN:List Int)(cQ gA dp:Int)(ar:List (List Int))(gg:Int)(aj aQ:List Int):Option ((List Int)×(List Int)):=iter (fun w:Int×(List Int)×(List Int)=>wz db c1 d6 cN cQ gA dp ar w.1 w.2.1 w.2.2) (gg,aj,aQ)
theorem Sa {db:List aT}{c1:List bk}{d6:Int}{cN:List Int}{cQ gA dp:Int}{ar:List (List Int)}{gg:Int}{aj aQ:List Int}:b6 (wz db c1 d6 cN cQ gA dp ar gg aj aQ) (fG bC 82 0 66 [1,1,0,1,0,0,1,1,0,0,1,1,0,1,0,0] (Fy db c1 d6 cN cQ gA dp ar (gg,aj,aQ)) (Fy db c1 d6 cN cQ gA dp ar) (FC db c1 d6 cN cQ gA dp ar)):=by
 unfold wz
 exact .ite (fun o =>
  .bn fun R =>
  .aC fun aV aB =>
  .aC fun bD bF =>
  (let t1:List c5:=[(ag 1),.ao true,.aH (bU 2 (.cK (cq aV)) 3),.aH (bU 2 (b3 2 (.dK [.n .i64 bD.1,.n .i64 bD.2]) true) 5),(ag 1),(ag 4)];
  have bg:=((.eK o R.1 (eR cq R.2) (cP cq aB) (LA bD bF) (DP (k1 (cn.n .i64 bD.1) (k1 (cn.n .i64 bD.2) tB)))):c9 _);
  .ite (fun bS =>
  .bn fun bx =>
  .bn fun dy =>
  .bn fun dQ =>
  .bn fun dC =>
  .ret (b5 (t1.append [.ao true,.aH (an 7 (aq .dO (an 1 (aq .dO [])))),(ag 2),.br [0,1,2] [.pure,.da (av 1 J (aj.set (0+gg.toNat) bD.1)),.da (av 1 J (aQ.set (0+gg.toNat) bD.2))] [(0,ii),(3,ii),(5,ii),(6,gX ((aj.set (0+gg.toNat) bD.1).length)),(7,gX ((aQ.set (0+gg.toNat) bD.2).length)),(13,ii),(14,ii),(15,ii),(34,ii),(35,ii),(36,ii)]]) (bg.bb (.bh bS bx.1 bx.2 (hM J dy) (hr 1) dQ.1 dQ.2 (hM J dC) (.hq (hr 1) (aA 1 .live (pT (sz:=1) aE) ar) (dF 1 .live (gy (cW J aj) (0+gg.toNat) bD.1)) (aA 1 .live aE (aj.set (0+gg.toNat) bD.1)) (dF 1 .live (gy (cW J aQ) (0+gg.toNat) bD.2)) (aA 1 .live aE (aQ.set (0+gg.toNat) bD.2)) (hQ (fO aj) (0+gg.toNat) bD.1) (hQ (fO aQ) (0+gg.toNat) bD.2))))))
  (fun bS =>
  .ite (fun bx =>
  .bn fun dy =>
  .bn fun dQ =>
  .bn fun dC =>
  .bn fun fr =>
  .ret (let aW:=U (0-bD.1);let bi:=U (0-bD.2);b5 (t1.append [.ao false,(ag 4),.ao true,.aH (an 9 (aq .dO (an 1 (aq .dO [])))),(ag 2),.br [0,1,2] [.pure,.da (av 1 J (aj.set (0+gg.toNat) aW)),.da (av 1 J (aQ.set (0+gg.toNat) bi))] [(0,ii),(3,ii),(5,ii),(6,gX ((aj.set (0+gg.toNat) aW).length)),(7,gX ((aQ.set (0+gg.toNat) bi).length)),(13,ii),(14,ii),(15,ii),(34,ii),(35,ii),(36,ii)]]) (bg.bb (.bh bS bx dy.1 dy.2 (hM J dQ) (hr 1) dC.1 dC.2 (.bh (hM J fr) (hr 1) (aA 1 .live (pT (sz:=1) aE) ar) (dF 1 .live (gy (cW J aj) (0+gg.toNat) aW)) (aA 1 .live aE (aj.set (0+gg.toNat) aW)) (dF 1 .live (gy (cW J aQ) (0+gg.toNat) bi)) (aA 1 .live aE (aQ.set (0+gg.toNat) bi)) (hQ (fO aj) (0+gg.toNat) aW) (.ay (hQ (fO aQ) (0+gg.toNat) bi)))))))
  (fun bx =>
  .ret (b5 (t1.append [.ao false,(ag 4),.ao false,(ag 2),.br [0,1,2] [.pure,.pure,.pure] (b2 [0,3,5,6,7,13,14,15,34,35,36])]) (bg.bb (.dV bS bx (aA 1 .live (pT (sz:=1) aE) ar) (aA 1 .live aE aj) (aA 1 .live aE aQ))))))))
  (fun o =>
  .ret (b5 [(ag 1),.ao false,.br [0,1,2] [.pure,.pure,.pure] (b2 [0,3,6,7,13,14,15])] (.du o (aA 1 .live (pT (sz:=1) aE) ar) (aA 1 .live aE aj) (aA 1 .live aE aQ))))
theorem St {db:List aT}{c1:List bk}{d6:Int}{cN:List Int}{cQ gA dp:Int}{ar:List (List Int)}{gg:Int}{aj aQ:List Int}{r} (h:B1 db c1 d6 cN cQ gA dp ar gg aj aQ=some r):fH bC 82 0 66 [1,1,0,1,0,0,1,1,0,0,1,1,0,1,0,0] (Fy db c1 d6 cN cQ gA dp ar) (FC db c1 d6 cN cQ gA dp ar) (gg,aj,aQ) r:=fI (fun _=>Sa) h
def Fz (db:List aT)(c1:List bk)(cN:List Int)(cQ:Int):(Int×(List (List Int)))→S:=fun (gA,ar)=>e1 [(0,.eB 2 [[.isl 4 (db.map cu),.isl 3 (c1.map cq)]] 0 0),(3,.bm 0 0 0 ar.length),(13,.isl 1 (cN.map J)),(14,.n .i64 cQ),(15,.n .i64 gA)] [(av 1 (fg 1 J) ar)]
def Lp (db:List aT)(c1:List bk)(cN:List Int)(cQ:Int):(List (List Int))→e5
 | a=>⟨some 0,[(3,.bm 0 0 0 a.length)],[(av 1 (fg 1 J) a)]⟩
def wA (db:List aT)(c1:List bk)(cN:List Int)(cQ gA:Int)(ar:List (List Int)):Option ((Int×(List (List Int)))⊕((List (List Int)))) :=
 if (decide (gA<cQ))=true then
  if 0≤gA∧gA<cN.length then
  cN[gA.toNat]? >>= fun aV =>
  if 0≤(len_ cq c1)∧(8:Int)*(len_ cq c1)≤281474976710656∧(len_ cq c1)<9223372036854775808 then
  B1 db c1 aV cN cQ gA (len_ cq c1) ar 0 (List.replicate (len_ cq c1).toNat 0:List Int) (List.replicate (len_ cq c1).toNat 0:List Int) >>= fun c0 =>
  if (ar++([c0.1,c0.2]:List (List Int))).length*24≤140737488355328 then
  some (.inl (U (gA+(1:Int)),ar++([c0.1,c0.2]:List (List Int))))
  else none
  else none
  else none
 else
  some (.inr ar)
def FQ (db:List aT)(c1:List bk)(cN:List Int)(cQ gA:Int)(ar:List (List Int)):Option ((List (List Int))):=iter (fun w:Int×(List (List Int))=>wA db c1 cN cQ w.1 w.2) (gA,ar)
theorem Sb {db:List aT}{c1:List bk}{cN:List Int}{cQ gA:Int}{ar:List (List Int)}:b6 (wA db c1 cN cQ gA ar) (fG bC 82 0 66 [1,1,0,1,0,0] (Fz db c1 cN cQ (gA,ar)) (Fz db c1 cN cQ) (Lp db c1 cN cQ)):=by
 unfold wA
 exact .ite (fun o =>
  .bn fun R =>
  .aC fun aV aB =>
  .bn fun aK =>
  .aC fun c0 bS =>
  .bn fun bx =>
  .ret (let bi:=(ar++([c0.1,c0.2]:List (List Int)));let cd:=len_ cq c1;let aW:=(List.replicate cd.toNat 0:List Int);let cV:=pT (sz:=1) aE;let dX:=dF 1 .live (lE J cd.toNat 0);b5 [(ag 1),.ao true,.aH (bU 1 (.cK (J aV)) 1),(ag 14),(ag 6),.br [0,10,16] [.pure,.da (av 1 J aW),.da (av 1 J aW)] [(0,ii),(3,ii),(5,ii),(6,gX (aW.length)),(7,gX (aW.length)),(13,ii),(14,ii),(15,ii),(34,ii),(35,ii),(36,ii)],(FC db c1 aV cN cQ gA cd ar c0).gr,.br [0] [.pure] [(0,ii),(3,ii),(6,.bp (.b4 (.ej (c0.1.map J)))),(7,.bp (.b4 (.ej (c0.2.map J)))),(13,ii),(14,ii),(15,ii)],.aH (bU 4 (.bb (bi.length)) 1),(ag 2),.br [5] [.da (av 1 (fg 1 J) bi)] (b2 [0,3,13,14,15])] (.bh o R.1 (eR J R.2) (cP J aB) aK.1 (Int.le_refl cd) aK.2.1 aK.2.2 (.bh aK.1 (Int.le_refl cd) aK.2.1 aK.2.2 (aA 1 .live cV ar) dX (aA 1 .live aE aW) dX (.bh (aA 1 .live aE aW) (l3 cd.toNat (0:Int)) (l3 cd.toNat (0:Int)) (St bS) (aA 1 .live cV ar) (jT J c0.1) (jg J c0.1) (dP aE c0.1) (.bh (jT J c0.2) (jg J c0.2) (dP aE c0.2) (sx (show [[.isl 1 (c0.1.map J)],[.isl 1 (c0.2.map J)]]=(([c0.1,c0.2]:List (List Int))).map (fg 1 J) from rfl) (show 2=([c0.1,c0.2]:List (List Int)).length from rfl)) (se (fg 1 J) ar) (xS (fO ar) (Ag (show [[.isl 1 (c0.1.map J)],[.isl 1 (c0.2.map J)]]=(([c0.1,c0.2]:List (List Int))).map (fg 1 J) from rfl) (show 2=([c0.1,c0.2]:List (List Int)).length from rfl)):bi.length=ar.length+(([[.isl 1 (c0.1.map J)],[.isl 1 (c0.2.map J)]].drop 0).take 2).length) bx (dF 1 .live (q9 (cW (fg 1 J) ar) (fO ar) (Ag (show [[.isl 1 (c0.1.map J)],[.isl 1 (c0.2.map J)]]=(([c0.1,c0.2]:List (List Int))).map (fg 1 J) from rfl) (show 2=([c0.1,c0.2]:List (List Int)).length from rfl)))) (.ay (aA 1 .live cV bi))))))))
  (fun o =>
  .ret (b5 [(ag 1),.ao false,.br [0] [.pure] (b2 [3])] (.aD o (aA 1 .live (pT (sz:=1) aE) ar))))
theorem Su {db:List aT}{c1:List bk}{cN:List Int}{cQ gA:Int}{ar:List (List Int)}{r} (h:FQ db c1 cN cQ gA ar=some r):fH bC 82 0 66 [1,1,0,1,0,0] (Fz db c1 cN cQ) (Lp db c1 cN cQ) (gA,ar) r:=fI (fun _=>Sb) h
def zf (aX:ct):Option (List (List Int)) :=
 wO aX >>= fun ax =>
 FQ aX.dd aX.cx ax (len_ J ax) 0 ([]:List (List Int)) >>= fun a6 =>
 some a6
theorem SI {aX:ct}:b6 (zf aX) (fun r=>Con bC 66 [.eB 2 [(hY aX)] 0 0] [] (.isl 1 (r.map (fg 1 J))) []):=by
 unfold zf
 exact .aC fun ax R =>
  .aC fun a6 aB =>
  .ret (bY [(ag 1),(ag 1),.aH (bU 1 (b3 1 (.isl 1 (ax.map J)) false) 2),.tQ 3 1,.br [6] [.da (av 1 (fg 1 J) ([]:List (List Int)))] [(0,ii),(3,gX (([]:List (List Int)).length)),(13,ii),(14,ii),(15,ii)],.sub (.exit 0) [(3,.bm 0 0 0 a6.length)] [(av 1 (fg 1 J) a6)],(ag 2)] (.hq (Lx ax R) (dF 1 .live (tl (fg 1 J))) (aA 1 .live (pT (sz:=1) aE) ([]:List (List Int))) (ot (List Int)) (Su aB) (jT (fg 1 J) a6) (jg (fg 1 J) a6) (dP (pT (sz:=1) aE) a6)) (.bp (.b4 (.ej (a6.map (fg 1 J))))))
def Fj (db:List aT)(c1:List bk)(dl:List Int)(d4:List dY)(a2:Int)(gB:List Int)(fy:List (List Int))(jk hx dI dz:Int)(al a8:List Int):(Int×(List Int))→S:=fun (gV,aQ)=>e1 [(0,.eB 2 [[.isl 4 (db.map cu),.isl 3 (c1.map cq)]] 0 0),(1,.isl 1 (dl.map J)),(8,.ref 0 0 0 0),(10,.isl 2 (d4.map ek)),(11,.ref 1 0 0 0),(12,.n .i64 a2),(13,.isl 1 (gB.map J)),(46,.isl 1 (fy.map (fg 1 J))),(47,.n .i64 jk),(48,.n .i64 a2),(53,.isl 2 (d4.map ek)),(54,.n .i64 hx),(55,.n .i64 gV)] [[ab.mk 5 [[.n .i64 (0:Int),.n .i64 (0:Int),.ex,.ex,.ex]] .live],[ab.mk 5 [(fE dI dz 2 0 0 aQ.length 3 0 0 al.length 4 0 0 a8.length)] .live],(av 1 J aQ),(av 1 J al),(av 1 J a8)]
def Fq (db:List aT)(c1:List bk)(dl:List Int)(d4:List dY)(a2:Int)(gB:List Int)(fy:List (List Int))(jk hx dI dz:Int)(al a8:List Int):(List Int)→e5
 | a=>⟨some 2,[(0,.eB 2 [[.isl 4 (db.map cu),.isl 3 (c1.map cq)]] 0 0),(1,.isl 1 (dl.map J)),(8,.ref 0 0 0 0),(10,.isl 2 (d4.map ek)),(11,.ref 1 0 0 0),(46,.isl 1 (fy.map (fg 1 J))),(47,.n .i64 jk),(48,.n .i64 a2)],[[ab.mk 5 [[.n .i64 (0:Int),.n .i64 (0:Int),.ex,.ex,.ex]] .live],[ab.mk 5 [(fE dI dz 2 0 0 a.length 3 0 0 al.length 4 0 0 a8.length)] .live],(av 1 J a),(av 1 J al),(av 1 J a8)]⟩
def wo (db:List aT)(c1:List bk)(dl:List Int)(d4:List dY)(a2:Int)(gB:List Int)(fy:List (List Int))(jk hx dI dz:Int)(al a8:List Int)(gV:Int)(aQ:List Int):Option ((Int×(List Int))⊕((List Int))) :=
 if (decide (gV<hx))=true then
  if 0≤gV∧gV<d4.length then
  d4[gV.toNat]? >>= fun aV =>
  if 0≤aV.hj∧aV.hj<gB.length then
  gB[aV.hj.toNat]? >>= fun aF =>
  if 0≤(U ((U (a2*dz))+gV))∧(U ((U (a2*dz))+gV))<(aQ.length:Nat) then
  if (0+(U ((U (a2*dz))+gV)).toNat)<aQ.length then
  some (.inl (U (gV+(1:Int)),aQ.set (0+(U ((U (a2*dz))+gV)).toNat) (U (aV.sN*aF))))
  else none
  else none
  else none
  else none
 else
  some (.inr aQ)
def FE (db:List aT)(c1:List bk)(dl:List Int)(d4:List dY)(a2:Int)(gB:List Int)(fy:List (List Int))(jk hx dI dz:Int)(al a8:List Int)(gV:Int)(aQ:List Int):Option ((List Int)):=iter (fun w:Int×(List Int)=>wo db c1 dl d4 a2 gB fy jk hx dI dz al a8 w.1 w.2) (gV,aQ)
theorem R3 {db:List aT}{c1:List bk}{dl:List Int}{d4:List dY}{a2:Int}{gB:List Int}{fy:List (List Int)}{jk hx dI dz:Int}{al a8:List Int}{gV:Int}{aQ:List Int}:b6 (wo db c1 dl d4 a2 gB fy jk hx dI dz al a8 gV aQ) (fG bC 113 0 39 [1,1,1,1,0,1,0,0,1,1,0,0,1,1,0,0] (Fj db c1 dl d4 a2 gB fy jk hx dI dz al a8 (gV,aQ)) (Fj db c1 dl d4 a2 gB fy jk hx dI dz al a8) (Fq db c1 dl d4 a2 gB fy jk hx dI dz al a8)):=by
 unfold wo
 exact .ite (fun o =>
  .bn fun R =>
  .aC fun aV aB =>
  .bn fun aK =>
  .aC fun aF bS =>
  .bn fun bx =>
  .bn fun dy =>
  .ret (let aW:=U ((U (a2*dz))+gV);let bi:=U (aV.sN*aF);b5 [(ag 1),.ao true,.aH (bU 2 (.cK (ek aV)) 3),.aH (an 14 (aq (.cK (J aF)) (an 2 (aq .dO [])))),(ag 2),.br [0,1,2,3,4] [.box [.id,.id,.id,.id,.id],.box [.id,.id,.len ((aQ.set (0+aW.toNat) bi).length),.id,.id],.da (av 1 J (aQ.set (0+aW.toNat) bi)),.pure,.pure] (b2 [0,1,8,10,11,12,13,46,47,48,53,54,55])] (.bh o R.1 (eR ek R.2) (cP ek aB) aK.1 (eR J aK.2) (cP J bS) bx.1 (.hq bx.2 (hM J dy) (hr 1) (hQ (fO aQ) (0+aW.toNat) bi) (dF 1 .live (gy (cW J aQ) (0+aW.toNat) bi)) (aA 1 .live aE (aQ.set (0+aW.toNat) bi)) (aA 1 .live aE al) (aA 1 .live aE a8)))))
  (fun o =>
  .ret (b5 [(ag 1),.ao false,.br [0,1,2,3,4] [.box [.id,.id,.id,.id,.id],.box [.id,.id,.id,.id,.id],.pure,.pure,.pure] (b2 [0,1,8,10,11,46,47,48])] (.du o (aA 1 .live aE aQ) (aA 1 .live aE al) (aA 1 .live aE a8))))
theorem Se {db:List aT}{c1:List bk}{dl:List Int}{d4:List dY}{a2:Int}{gB:List Int}{fy:List (List Int)}{jk hx dI dz:Int}{al a8:List Int}{gV:Int}{aQ:List Int}{r} (h:FE db c1 dl d4 a2 gB fy jk hx dI dz al a8 gV aQ=some r):fH bC 113 0 39 [1,1,1,1,0,1,0,0,1,1,0,0,1,1,0,0] (Fj db c1 dl d4 a2 gB fy jk hx dI dz al a8) (Fq db c1 dl d4 a2 gB fy jk hx dI dz al a8) (gV,aQ) r:=fI (fun _=>R3) h
def Fk (db:List aT)(c1:List bk)(dl:List Int)(d4:List dY)(fy:List (List Int))(jk dI dz:Int)(al a8:List Int):(Int×(List Int))→S:=fun (ny,aQ)=>e1 [(0,.eB 2 [[.isl 4 (db.map cu),.isl 3 (c1.map cq)]] 0 0),(1,.isl 1 (dl.map J)),(8,.ref 0 0 0 0),(10,.isl 2 (d4.map ek)),(11,.ref 1 0 0 0),(46,.isl 1 (fy.map (fg 1 J))),(47,.n .i64 jk),(48,.n .i64 ny)] [[ab.mk 5 [[.n .i64 (0:Int),.n .i64 (0:Int),.ex,.ex,.ex]] .live],[ab.mk 5 [(fE dI dz 2 0 0 aQ.length 3 0 0 al.length 4 0 0 a8.length)] .live],(av 1 J aQ),(av 1 J al),(av 1 J a8)]
def Fs (db:List aT)(c1:List bk)(dl:List Int)(d4:List dY)(fy:List (List Int))(jk dI dz:Int)(al a8:List Int):(List Int)→e5
 | a=>⟨some 0,[(0,.eB 2 [[.isl 4 (db.map cu),.isl 3 (c1.map cq)]] 0 0),(1,.isl 1 (dl.map J)),(8,.ref 0 0 0 0),(11,.ref 1 0 0 0)],[[ab.mk 5 [[.n .i64 (0:Int),.n .i64 (0:Int),.ex,.ex,.ex]] .live],[ab.mk 5 [(fE dI dz 2 0 0 a.length 3 0 0 al.length 4 0 0 a8.length)] .live],(av 1 J a),(av 1 J al),(av 1 J a8)]⟩
def wq (db:List aT)(c1:List bk)(dl:List Int)(d4:List dY)(fy:List (List Int))(jk dI dz:Int)(al a8:List Int)(ny:Int)(aQ:List Int):Option ((Int×(List Int))⊕((List Int))) :=
 if (decide (ny<jk))=true then
  if 0≤ny∧ny<fy.length then
  fy[ny.toNat]? >>= fun aV =>
  FE db c1 dl d4 ny aV fy jk (len_ ek d4) dI dz al a8 0 aQ >>= fun bD =>
  some (.inl (U (ny+(1:Int)),bD))
  else none
 else
  some (.inr aQ)
def FF (db:List aT)(c1:List bk)(dl:List Int)(d4:List dY)(fy:List (List Int))(jk dI dz:Int)(al a8:List Int)(ny:Int)(aQ:List Int):Option ((List Int)):=iter (fun w:Int×(List Int)=>wq db c1 dl d4 fy jk dI dz al a8 w.1 w.2) (ny,aQ)
theorem R4 {db:List aT}{c1:List bk}{dl:List Int}{d4:List dY}{fy:List (List Int)}{jk dI dz:Int}{al a8:List Int}{ny:Int}{aQ:List Int}:b6 (wq db c1 dl d4 fy jk dI dz al a8 ny aQ) (fG bC 113 0 39 [1,1,1,1,0,1,0,0] (Fk db c1 dl d4 fy jk dI dz al a8 (ny,aQ)) (Fk db c1 dl d4 fy jk dI dz al a8) (Fs db c1 dl d4 fy jk dI dz al a8)):=by
 unfold wq
 exact .ite (fun o =>
  .bn fun R =>
  .aC fun aV aB =>
  .aC fun bD bF =>
  .ret (b5 [(ag 1),.ao true,.aH (bU 2 (.cK ((fg 1 J) aV)) 2),(ag 3),.br [0,1,2,3,4] [.box [.id,.id,.id,.id,.id],.box [.id,.id,.id,.id,.id],.pure,.pure,.pure] (b2 [0,1,8,10,11,12,13,46,47,48,53,54,55]),(Fq db c1 dl d4 ny aV fy jk (len_ ek d4) dI dz al a8 bD).gr,(ag 2),.br [0,1,2,3,4] [.box [.id,.id,.id,.id,.id],.box [.id,.id,.id,.id,.id],.pure,.pure,.pure] (b2 [0,1,8,10,11,46,47,48])] (.bh o R.1 (eR (fg 1 J) R.2) (cP (fg 1 J) aB) (aA 1 .live aE aQ) (aA 1 .live aE al) (aA 1 .live aE a8) (Se bF) (.bV (aA 1 .live aE bD) (aA 1 .live aE al) (aA 1 .live aE a8)))))
  (fun o =>
  .ret (b5 [(ag 1),.ao false,.br [0,1,2,3,4] [.box [.id,.id,.id,.id,.id],.box [.id,.id,.id,.id,.id],.pure,.pure,.pure] (b2 [0,1,8,11])] (.du o (aA 1 .live aE aQ) (aA 1 .live aE al) (aA 1 .live aE a8))))
theorem Sf {db:List aT}{c1:List bk}{dl:List Int}{d4:List dY}{fy:List (List Int)}{jk dI dz:Int}{al a8:List Int}{ny:Int}{aQ:List Int}{r} (h:FF db c1 dl d4 fy jk dI dz al a8 ny aQ=some r):fH bC 113 0 39 [1,1,1,1,0,1,0,0] (Fk db c1 dl d4 fy jk dI dz al a8) (Fs db c1 dl d4 fy jk dI dz al a8) (ny,aQ) r:=fI (fun _=>R4) h
def Fl (dl n6:List Int)(oM dI dz:Int)(aQ a8:List Int):(Int×(List Int))→S:=fun (kS,al)=>e1 [(1,.isl 1 (dl.map J)),(8,.ref 0 0 0 0),(11,.ref 1 0 0 0),(80,.isl 1 (n6.map J)),(81,.n .i64 oM),(82,.n .i64 kS)] [[ab.mk 5 [[.n .i64 (0:Int),.n .i64 (0:Int),.ex,.ex,.ex]] .live],[ab.mk 5 [(fE dI dz 2 0 0 aQ.length 3 0 0 al.length 4 0 0 a8.length)] .live],(av 1 J aQ),(av 1 J al),(av 1 J a8)]
def Ft (dl n6:List Int)(oM dI dz:Int)(aQ a8:List Int):(List Int)→e5
 | a=>⟨some 4,[(8,.ref 0 0 0 0),(11,.ref 1 0 0 0)],[[ab.mk 5 [[.n .i64 (0:Int),.n .i64 (0:Int),.ex,.ex,.ex]] .live],[ab.mk 5 [(fE dI dz 2 0 0 aQ.length 3 0 0 a.length 4 0 0 a8.length)] .live],(av 1 J aQ),(av 1 J a),(av 1 J a8)]⟩
def wt (dl n6:List Int)(oM dI dz:Int)(aQ a8:List Int)(kS:Int)(al:List Int):Option ((Int×(List Int))⊕((List Int))) :=
 if (decide (kS<oM))=true then
  if 0≤kS∧kS<n6.length then
  n6[kS.toNat]? >>= fun aV =>
  if 0≤(U ((2:Int)*aV))∧(U ((2:Int)*aV))<dl.length then
  dl[(U ((2:Int)*aV)).toNat]? >>= fun aF =>
  if 0≤(U ((U ((2:Int)*aV))+(1:Int)))∧(U ((U ((2:Int)*aV))+(1:Int)))<dl.length then
  dl[(U ((U ((2:Int)*aV))+(1:Int))).toNat]? >>= fun hz =>
  if 0≤(U ((2:Int)*kS))∧(U ((2:Int)*kS))<(al.length:Nat) then
  if (0+(U ((2:Int)*kS)).toNat)<al.length then
  if 0≤(U ((U ((2:Int)*kS))+(1:Int)))∧(U ((U ((2:Int)*kS))+(1:Int)))<(al.length:Nat) then
  if (0+(U ((U ((2:Int)*kS))+(1:Int))).toNat)<(al.set (0+(U ((2:Int)*kS)).toNat) (U (0-aF))).length then
  some (.inl (U (kS+(1:Int)),(al.set (0+(U ((2:Int)*kS)).toNat) (U (0-aF))).set (0+(U ((U ((2:Int)*kS))+(1:Int))).toNat) (U (0-hz))))
  else none
  else none
  else none
  else none
  else none
  else none
  else none
 else
  some (.inr al)
def FG (dl n6:List Int)(oM dI dz:Int)(aQ a8:List Int)(kS:Int)(al:List Int):Option ((List Int)):=iter (fun w:Int×(List Int)=>wt dl n6 oM dI dz aQ a8 w.1 w.2) (kS,al)
theorem R5 {dl n6:List Int}{oM dI dz:Int}{aQ a8:List Int}{kS:Int}{al:List Int}:b6 (wt dl n6 oM dI dz aQ a8 kS al) (fG bC 113 0 39 [1,1,1,1,1,0,1,0,0] (Fl dl n6 oM dI dz aQ a8 (kS,al)) (Fl dl n6 oM dI dz aQ a8) (Ft dl n6 oM dI dz aQ a8)):=by
 unfold wt
 exact .ite (fun o =>
  .bn fun R =>
  .aC fun aV aB =>
  .bn fun aK =>
  .aC fun aF bS =>
  .bn fun bx =>
  .aC fun hz dQ =>
  .bn fun dC =>
  .bn fun fr =>
  .bn fun eC =>
  .bn fun eQ =>
  .ret (let aW:=(U ((2:Int)*kS));let bi:=(U (aW+(1:Int)));let cd:=U (0-aF);let cV:=U (0-hz);b5 [(ag 1),.ao true,.aH (bU 2 (.cK (J aV)) 2),.aH (an 13 (aq (.cK (J aF)) (an 6 (aq (.cK (J hz)) (an 2 (aq .dO (an 1 (aq .dO [])))))))),(ag 2),.br [0,1,2,3,4] [.box [.id,.id,.id,.id,.id],.box [.id,.id,.id,.len (((al.set (0+aW.toNat) cd).set (0+bi.toNat) cV).length),.id],.pure,.da (av 1 J ((al.set (0+aW.toNat) cd).set (0+bi.toNat) cV)),.pure] (b2 [1,8,11,80,81,82])] (.bh o R.1 (eR J R.2) (cP J aB) aK.1 (eR J aK.2) (cP J bS) bx.1 (.bh (eR J bx.2) (cP J dQ) dC.1 dC.2 (hM J fr) (hr 1) eC.1 eC.2 (.fu (Pq (gy (cW J al) (0+aW.toNat) cd) eQ) (hr 1) (hQ (hQ (fO al) (0+aW.toNat) cd) (0+bi.toNat) cV) (aA 1 .live aE aQ) (dF 1 .live (gy (gy (cW J al) (0+aW.toNat) cd) (0+bi.toNat) cV)) (aA 1 .live aE ((al.set (0+aW.toNat) cd).set (0+bi.toNat) cV)) (aA 1 .live aE a8))))))
  (fun o =>
  .ret (b5 [(ag 1),.ao false,.br [0,1,2,3,4] [.box [.id,.id,.id,.id,.id],.box [.id,.id,.id,.id,.id],.pure,.pure,.pure] (b2 [8,11])] (.du o (aA 1 .live aE aQ) (aA 1 .live aE al) (aA 1 .live aE a8))))
theorem Sg {dl n6:List Int}{oM dI dz:Int}{aQ a8:List Int}{kS:Int}{al:List Int}{r} (h:FG dl n6 oM dI dz aQ a8 kS al=some r):fH bC 113 0 39 [1,1,1,1,1,0,1,0,0] (Fl dl n6 oM dI dz aQ a8) (Ft dl n6 oM dI dz aQ a8) (kS,al) r:=fI (fun _=>R5) h
def zc (aX:ct)(dl:List Int)(nq nX:Int):Option (Int×Int×(List Int)×(List Int)×(List Int)) :=
 zf aX >>= fun ax =>
 tp aX >>= fun a6 =>
 if 0≤(U ((U ((len_ (fg 1 J) ax)+nX))*(U ((len_ ek a6)+nq))))∧(8:Int)*(U ((U ((len_ (fg 1 J) ax)+nX))*(U ((len_ ek a6)+nq))))≤281474976710656∧(U ((U ((len_ (fg 1 J) ax)+nX))*(U ((len_ ek a6)+nq))))<9223372036854775808 then
 if 0≤(U ((len_ (fg 1 J) ax)+nX))∧(8:Int)*(U ((len_ (fg 1 J) ax)+nX))≤281474976710656∧(U ((len_ (fg 1 J) ax)+nX))<9223372036854775808 then
 if 0≤(U ((len_ ek a6)+nq))∧(8:Int)*(U ((len_ ek a6)+nq))≤281474976710656∧(U ((len_ ek a6)+nq))<9223372036854775808 then
 FF aX.dd aX.cx dl a6 ax (len_ (fg 1 J) ax) (U ((len_ (fg 1 J) ax)+nX)) (U ((len_ ek a6)+nq)) (List.replicate (U ((len_ (fg 1 J) ax)+nX)).toNat 0:List Int) (List.replicate (U ((len_ ek a6)+nq)).toNat 0:List Int) 0 (List.replicate (U ((U ((len_ (fg 1 J) ax)+nX))*(U ((len_ ek a6)+nq)))).toNat 0:List Int) >>= fun fQ =>
 wO aX >>= fun hn =>
 FG dl hn (len_ J hn) (U ((len_ (fg 1 J) ax)+nX)) (U ((len_ ek a6)+nq)) fQ (List.replicate (U ((len_ ek a6)+nq)).toNat 0:List Int) 0 (List.replicate (U ((len_ (fg 1 J) ax)+nX)).toNat 0:List Int) >>= fun cO =>
 some (U ((len_ (fg 1 J) ax)+nX),U ((len_ ek a6)+nq),fQ,cO,(List.replicate (U ((len_ ek a6)+nq)).toNat 0:List Int))
 else none
 else none
 else none
theorem Sv {aX:ct}{dl:List Int}{nq nX:Int}:b6 (zc aX dl nq nX) (fun a=>Con bC 39 [.eB 2 [(hY aX)] 0 0,.isl 1 (dl.map J),.n .i64 nq,.n .i64 nX] [] (.agg (fE a.1 a.2.1 0 0 0 a.2.2.1.length 0 1 0 a.2.2.2.1.length 0 2 0 a.2.2.2.2.length)) [[ab.mk 1 (a.2.2.1.map J) .live,ab.mk 1 (a.2.2.2.1.map J) .live,ab.mk 1 (a.2.2.2.2.map J) .live]]):=by
 unfold zc
 exact .aC fun ax R =>
  .aC fun a6 aB =>
  .bn fun aK =>
  .bn fun bF =>
  .bn fun bS =>
  .aC fun fQ dy =>
  .aC fun hn dC =>
  .aC fun cO eC =>
  .ret (let bi:=U ((len_ (fg 1 J) ax)+nX);let cd:=U ((len_ ek a6)+nq);let aW:=(List.replicate cd.toNat 0:List Int);let cV:=(List.replicate bi.toNat 0:List Int);let fD:=aA 1 .live aE aW;let gR:=U (bi*cd);let dX:=(List.replicate gR.toNat 0:List Int);iu [(ag 1),.aH (an 1 (aq (b3 1 (.isl 1 (ax.map (fg 1 J))) false) (bU 1 (b3 1 (.isl 2 (a6.map ek)) false) 2))),(ag 11),(ag 18),(ag 3),.br [0,16,23,26,29] [.box [.id,.id,.id,.id,.id],.box [.id,.id,.len (dX.length),.len (cV.length),.len (aW.length)],.da (av 1 J dX),.da (av 1 J cV),.da (av 1 J aW)] (b2 [0,1,8,10,11,46,47,48]),(Fs aX.dd aX.cx dl a6 ax (len_ (fg 1 J) ax) bi cd cV aW fQ).gr,.aH (bU 1 (b3 1 (.isl 1 (hn.map J)) false) 2),.br [0,1,2,3,4] [.box [.id,.id,.id,.id,.id],.box [.id,.id,.id,.id,.id],.pure,.pure,.pure] (b2 [1,8,11,80,81,82]),(Ft dl hn (len_ J hn) bi cd fQ aW cO).gr,(ag 2),.qa [{aU:=[(2,0),(3,0),(4,0)],bN:=none},{aU:=[(0,0)]}] [([.pure,.pure,.pure],none),([.box [.id,.id,.at_ 0 0 fQ.length,.at_ 0 1 cO.length,.at_ 0 2 (aW.length)]],none)] [(8,.bp (.b4 (.at_ 1 0 0)))]] [0] [.bt [ab.mk 1 (fQ.map J) .live,ab.mk 1 (cO.map J) .live,ab.mk 1 (aW.map J) .live]] (.bh (SI ax R) (B6 a6 aB) aK.1 (Int.le_refl gR) aK.2.1 aK.2.2 bF.1 (Int.le_refl bi) (.bh bF.2.1 bF.2.2 bS.1 (Int.le_refl cd) bS.2.1 bS.2.2 (l3 gR.toNat (0:Int)) (l3 bi.toNat (0:Int)) (.bh (l3 cd.toNat (0:Int)) (dF 1 .live (lE J gR.toNat 0)) (aA 1 .live aE dX) (dF 1 .live (lE J bi.toNat 0)) (aA 1 .live aE cV) (dF 1 .live (lE J cd.toNat 0)) fD (Sf dy) (.bh (Lx hn dC) (aA 1 .live aE fQ) (aA 1 .live aE cV) fD (Sg eC) (aA 1 .live aE fQ) (aA 1 .live aE cO) fD (.hq (rfl:(fb [{aU:=[(2,0),(3,0),(4,0)],bN:=none},{aU:=[(0,0)]}]) 0 0=some (2,0)) (rfl:fQ.length=fQ.length) (rfl:(fb [{aU:=[(2,0),(3,0),(4,0)],bN:=none},{aU:=[(0,0)]}]) 0 1=some (3,0)) (rfl:cO.length=cO.length) (rfl:(fb [{aU:=[(2,0),(3,0),(4,0)],bN:=none},{aU:=[(0,0)]}]) 0 2=some (4,0)) (rfl:aW.length=aW.length) (rfl:(fb [{aU:=[(2,0),(3,0),(4,0)],bN:=none},{aU:=[(0,0)]}]) 1 0=some (0,0)) (c4 (dm (cX [0]) 1 fa fQ) (c4 (dm (cX [0]) 1 fa cO) (c4 (dm (cX [0]) 1 fa aW) (ib (bQ:=(cX [0]))))))))))) (.bp (.agg [.id,.id,.id,.id,.id])))
def uB (a2 cb cB:Int)(r2 sO sP:List Int):Option (Nat×Nat) :=
 if 0≤(U (a2*cB)) then
 if 0≤(U ((U (a2+(1:Int)))*cB)) then
 if (U (a2*cB)).toNat≤(U ((U (a2+(1:Int)))*cB)).toNat∧(U ((U (a2+(1:Int)))*cB)).toNat≤r2.length then
 some ((0+(U (a2*cB)).toNat),((U ((U (a2+(1:Int)))*cB)).toNat-(U (a2*cB)).toNat))
 else none
 else none
 else none
theorem Tu {a2 cb cB:Int}{r2 sO sP:List Int}:b6 (uB a2 cb cB r2 sO sP) (fun a=>Con bC 40 [.ref 0 0 0 0,.n .i64 a2] [[ab.mk 5 [(fE cb cB 1 0 0 r2.length 1 1 0 sO.length 1 2 0 sP.length)] .live],[ab.mk 1 (r2.map J) .live,ab.mk 1 (sO.map J) .live,ab.mk 1 (sP.map J) .live]] (.bm 1 0 a.1 a.2) [[ab.mk 5 [(fE cb cB 1 0 0 r2.length 1 1 0 sO.length 1 2 0 sP.length)] .live],[ab.mk 1 (r2.map J) .live,ab.mk 1 (sO.map J) .live,ab.mk 1 (sP.map J) .live]]):=by
 unfold uB
 exact .bn fun o =>
  .bn fun R =>
  .bn fun ah =>
  .ret (let aW:=fE cb cB 1 0 0 r2.length 1 1 0 sO.length 1 2 0 sP.length;let bi:=cX [0,1];iu [(ag 1),(ag 19)] [0,1] [.bt [ab.mk 5 [aW] .live],.bt [ab.mk 1 (r2.map J) .live,ab.mk 1 (sO.map J) .live,ab.mk 1 (sP.map J) .live]] (.eK o R ah.1 ah.2 (i1 bi 5 [aW] [aW] rfl) (c4 (dm bi 1 fa r2) (c4 (dm bi 1 fa sO) (c4 (dm bi 1 fa sP) (ib (bQ:=bi)))))))
def Fm (db:List aT)(c1:List bk)(d4:List dY)(gu gb a2 nv:Int)(km gv:Nat)(gm:List bu)(gw hG hE oN dI dz i3 i2 n7 n1:Int)(kN kO:List Int):(Int×(List Int))→S:=fun (jl,jX)=>e1 [(0,.eB 2 [[.isl 4 (db.map cu),.isl 3 (c1.map cq)]] 0 0),(6,.ref 0 0 0 0),(7,.isl 2 (d4.map ek)),(8,.ref 1 0 0 0),(9,.n .i64 gu),(10,.n .i64 gb),(11,.n .i64 a2),(12,.ref 2 0 0 0),(13,.n .i64 nv),(14,.ref 3 0 0 0),(15,.bm 4 0 km gv),(37,.isl 4 (gm.map cL)),(38,.n .i64 gw),(39,.n .i64 a2),(54,.agg [.n .i64 hG,.n .i64 hE,.n .i64 hE,.n .i64 hG]),(55,.n .i64 nv),(66,.isl 2 (d4.map ek)),(67,.n .i64 oN),(68,.n .i64 jl)] [[ab.mk 5 [[.n .i64 (0:Int),.n .i64 (0:Int),.ex,.ex,.ex]] .live],[ab.mk 5 [(fE dI dz 4 0 0 jX.length 4 1 0 kN.length 4 2 0 kO.length)] .live],[ab.mk 4 [[.n .i64 hG,.n .i64 hE,.n .i64 i3,.n .i64 i2]] .live],[ab.mk 2 [[.n .i64 n7,.n .i64 n1]] .live],[ab.mk 1 (jX.map J) .live,ab.mk 1 (kN.map J) .live,ab.mk 1 (kO.map J) .live]]
def Fu (db:List aT)(c1:List bk)(d4:List dY)(gu gb a2 nv:Int)(km gv:Nat)(gm:List bu)(gw hG hE oN dI dz i3 i2 n7 n1:Int)(kN kO:List Int):(List Int)→e5
 | a=>⟨some 4,[(0,.eB 2 [[.isl 4 (db.map cu),.isl 3 (c1.map cq)]] 0 0),(6,.ref 0 0 0 0),(7,.isl 2 (d4.map ek)),(8,.ref 1 0 0 0),(9,.n .i64 gu),(10,.n .i64 gb),(11,.n .i64 a2),(12,.ref 2 0 0 0),(13,.n .i64 nv),(15,.bm 3 0 km gv),(37,.isl 4 (gm.map cL)),(38,.n .i64 gw),(39,.n .i64 a2),(54,.agg [.n .i64 hG,.n .i64 hE,.n .i64 hE,.n .i64 hG]),(55,.n .i64 nv)],[[ab.mk 5 [[.n .i64 (0:Int),.n .i64 (0:Int),.ex,.ex,.ex]] .live],[ab.mk 5 [(fE dI dz 3 0 0 a.length 3 1 0 kN.length 3 2 0 kO.length)] .live],[ab.mk 4 [[.n .i64 hG,.n .i64 hE,.n .i64 i3,.n .i64 i2]] .live],[ab.mk 1 (a.map J) .live,ab.mk 1 (kN.map J) .live,ab.mk 1 (kO.map J) .live]]⟩
def wu (db:List aT)(c1:List bk)(d4:List dY)(gu gb a2 nv:Int)(km gv:Nat)(gm:List bu)(gw hG hE oN dI dz i3 i2 n7 n1:Int)(kN kO:List Int)(jl:Int)(jX:List Int):Option ((Int×(List Int))⊕((List Int))) :=
 if (decide (jl<oN))=true then
  if 0≤jl∧jl<d4.length then
  d4[jl.toNat]? >>= fun aV =>
  if (aV.hj == n7)=true then
   mC (⟨db,c1⟩:ct) n7 >>= fun c0 =>
   if 0≤jl∧jl<(gv:Nat) then
   if (km+jl.toNat)<jX.length then
   some (.inl (U (jl+(1:Int)),jX.set (km+jl.toNat) (U (i2*c0))))
   else none
   else none
  else
   if (aV.hj == n1)=true then
    mC (⟨db,c1⟩:ct) n1 >>= fun bL =>
    if 0≤jl∧jl<(gv:Nat) then
    if (km+jl.toNat)<jX.length then
    some (.inl (U (jl+(1:Int)),jX.set (km+jl.toNat) (U ((U (0-i3))*bL))))
    else none
    else none
   else
    some (.inl (U (jl+(1:Int)),jX))
  else none
 else
  some (.inr jX)
def za (db:List aT)(c1:List bk)(d4:List dY)(gu gb a2 nv:Int)(km gv:Nat)(gm:List bu)(gw hG hE oN dI dz i3 i2 n7 n1:Int)(kN kO:List Int)(jl:Int)(jX:List Int):Option ((List Int)):=iter (fun w:Int×(List Int)=>wu db c1 d4 gu gb a2 nv km gv gm gw hG hE oN dI dz i3 i2 n7 n1 kN kO w.1 w.2) (jl,jX)
theorem R6 {db:List aT}{c1:List bk}{d4:List dY}{gu gb a2 nv:Int}{km gv:Nat}{gm:List bu}{gw hG hE oN dI dz i3 i2 n7 n1:Int}{kN kO:List Int}{jl:Int}{jX:List Int}:b6 (wu db c1 d4 gu gb a2 nv km gv gm gw hG hE oN dI dz i3 i2 n7 n1 kN kO jl jX) (fG bC 116 0 17 [1,1,1,1,0,1,0,0,1,1,0,0,1,1,0,0,1,1,0,0,1,1,0,1,0,0] (Fm db c1 d4 gu gb a2 nv km gv gm gw hG hE oN dI dz i3 i2 n7 n1 kN kO (jl,jX)) (Fm db c1 d4 gu gb a2 nv km gv gm gw hG hE oN dI dz i3 i2 n7 n1 kN kO) (Fu db c1 d4 gu gb a2 nv km gv gm gw hG hE oN dI dz i3 i2 n7 n1 kN kO)):=by
 unfold wu
 exact .ite (fun o =>
  .bn fun R =>
  .aC fun aV aB =>
  (let t1:List c5:=[(ag 1),.ao true,.aH (bU 2 (.cK (ek aV)) 3),(ag 2),(ag 4)];
  have bg:=((.eK o R.1 (eR ek R.2) (cP ek aB) (by decide:(0:Int)≤0) (by decide:(0:Int)<2)):c9 _);
  .ite (fun aK =>
  .aC fun c0 bS =>
  .bn fun bx =>
  .bn fun dy =>
  .ret (let aW:=cX [0,1,2,3,4];let bi:=U (i2*c0);b5 (t1.append [.ao true,.aH (an 7 (aq (b3 2 (.n .i64 c0) true) (an 2 (aq .dO [])))),(ag 2),.br [0,1,2,3,4] [.box [.id,.id,.id,.id,.id],.box [.id,.id,.len ((jX.set (km+jl.toNat) bi).length),.id,.id],.box [.id,.id,.id,.id],.box [.id,.id],.bt [ab.mk 1 ((jX.set (km+jl.toNat) bi).map J) .live,ab.mk 1 (kN.map J) .live,ab.mk 1 (kO.map J) .live]] (b2 [0,6,7,8,9,10,11,12,13,14,15,37,38,39,54,55,66,67,68])]) (bg.bb (.bh aK (by decide:(0:Int)≤0) (by decide:(0:Int)<2) (uv c0 bS) (cn.n .i64 c0) bx.1 bx.2 (hM J dy) (.bV (hr 1) (hQ (fO jX) (km+jl.toNat) bi) (c4 (tk (bQ:=aW) 1 .live J (gy (cW J jX) (km+jl.toNat) bi) (n5 fa)) (c4 (dm aW 1 fa kN) (c4 (dm aW 1 fa kO) (ib (bQ:=aW))))))))))
  (fun aK =>
  (have fK:=bg.bb (.bV aK (by decide:(0:Int)≤1) (by decide:(1:Int)<2));
  .ite (fun bF =>
  .aC fun bL bx =>
  .bn fun dy =>
  .bn fun dQ =>
  .ret (let cd:=U ((U (0-i3))*bL);let cV:=cX [0,1,2,3,4];b5 (t1.append [.ao false,(ag 4),.ao true,.aH (an 8 (aq (b3 2 (.n .i64 bL) true) (an 2 (aq .dO [])))),(ag 2),.br [0,1,2,3,4] [.box [.id,.id,.id,.id,.id],.box [.id,.id,.len ((jX.set (km+jl.toNat) cd).length),.id,.id],.box [.id,.id,.id,.id],.box [.id,.id],.bt [ab.mk 1 ((jX.set (km+jl.toNat) cd).map J) .live,ab.mk 1 (kN.map J) .live,ab.mk 1 (kO.map J) .live]] (b2 [0,6,7,8,9,10,11,12,13,14,15,37,38,39,54,55,66,67,68])]) (fK.bb (.bh bF (by decide:(0:Int)≤1) (by decide:(1:Int)<2) (uv bL bx) (cn.n .i64 bL) dy.1 dy.2 (hM J dQ) (.bV (hr 1) (hQ (fO jX) (km+jl.toNat) cd) (c4 (tk (bQ:=cV) 1 .live J (gy (cW J jX) (km+jl.toNat) cd) (n5 fa)) (c4 (dm cV 1 fa kN) (c4 (dm cV 1 fa kO) (ib (bQ:=cV))))))))))
  (fun bF =>
  .ret (let dX:=cX [0,1,2,3,4];b5 (t1.append [.ao false,(ag 4),.ao false,(ag 2),.br [0,1,2,3,4] [.box [.id,.id,.id,.id,.id],.box [.id,.id,.id,.id,.id],.box [.id,.id,.id,.id],.box [.id,.id],.bt [ab.mk 1 (jX.map J) .live,ab.mk 1 (kN.map J) .live,ab.mk 1 (kO.map J) .live]] (b2 [0,6,7,8,9,10,11,12,13,14,15,37,38,39,54,55,66,67,68])]) (fK.bb (.aD bF (c4 (dm dX 1 fa jX) (c4 (dm dX 1 fa kN) (c4 (dm dX 1 fa kO) (ib (bQ:=dX)))))))))))))
  (fun o =>
  .ret (let fD:=cX [0,1,2,4];b5 [(ag 1),.ao false,.br [0,1,2,4] [.box [.id,.id,.id,.id,.id],.box [.id,.id,.id,.id,.id],.box [.id,.id,.id,.id],.bt [ab.mk 1 (jX.map J) .live,ab.mk 1 (kN.map J) .live,ab.mk 1 (kO.map J) .live]] (b2 [0,6,7,8,9,10,11,12,13,15,37,38,39,54,55])] (.aD o (c4 (dm fD 1 fa jX) (c4 (dm fD 1 fa kN) (c4 (dm fD 1 fa kO) (ib (bQ:=fD))))))))
theorem Sh {db:List aT}{c1:List bk}{d4:List dY}{gu gb a2 nv:Int}{km gv:Nat}{gm:List bu}{gw hG hE oN dI dz i3 i2 n7 n1:Int}{kN kO:List Int}{jl:Int}{jX:List Int}{r} (h:za db c1 d4 gu gb a2 nv km gv gm gw hG hE oN dI dz i3 i2 n7 n1 kN kO jl jX=some r):fH bC 116 0 17 [1,1,1,1,0,1,0,0,1,1,0,0,1,1,0,0,1,1,0,0,1,1,0,1,0,0] (Fm db c1 d4 gu gb a2 nv km gv gm gw hG hE oN dI dz i3 i2 n7 n1 kN kO) (Fu db c1 d4 gu gb a2 nv km gv gm gw hG hE oN dI dz i3 i2 n7 n1 kN kO) (jl,jX) r:=fI (fun _=>R6) h
def Fo (db:List aT)(c1:List bk)(d4:List dY)(gu gb a2:Int)(gm:List bu)(gw hG hE dI dz i3 i2:Int)(iR iS:List Int):(Int×(List Int))→S:=fun (gV,kn)=>e1 [(0,.eB 2 [[.isl 4 (db.map cu),.isl 3 (c1.map cq)]] 0 0),(6,.ref 0 0 0 0),(7,.isl 2 (d4.map ek)),(8,.ref 1 0 0 0),(9,.n .i64 gu),(10,.n .i64 gb),(11,.n .i64 a2),(12,.ref 2 0 0 0),(37,.isl 4 (gm.map cL)),(38,.n .i64 gw),(39,.n .i64 a2),(54,.agg [.n .i64 hG,.n .i64 hE,.n .i64 hE,.n .i64 hG]),(55,.n .i64 gV)] [[ab.mk 5 [[.n .i64 (0:Int),.n .i64 (0:Int),.ex,.ex,.ex]] .live],[ab.mk 5 [(fE dI dz 3 0 0 kn.length 3 1 0 iR.length 3 2 0 iS.length)] .live],[ab.mk 4 [[.n .i64 hG,.n .i64 hE,.n .i64 i3,.n .i64 i2]] .live],[ab.mk 1 (kn.map J) .live,ab.mk 1 (iR.map J) .live,ab.mk 1 (iS.map J) .live]]
def Fv (db:List aT)(c1:List bk)(d4:List dY)(gu gb a2:Int)(gm:List bu)(gw hG hE dI dz i3 i2:Int)(iR iS:List Int):(List Int)→e5
 | a=>⟨some 2,[(0,.eB 2 [[.isl 4 (db.map cu),.isl 3 (c1.map cq)]] 0 0),(6,.ref 0 0 0 0),(7,.isl 2 (d4.map ek)),(8,.ref 1 0 0 0),(9,.n .i64 gu),(10,.n .i64 gb),(37,.isl 4 (gm.map cL)),(38,.n .i64 gw),(39,.n .i64 a2)],[[ab.mk 5 [[.n .i64 (0:Int),.n .i64 (0:Int),.ex,.ex,.ex]] .live],[ab.mk 5 [(fE dI dz 2 0 0 a.length 2 1 0 iR.length 2 2 0 iS.length)] .live],[ab.mk 1 (a.map J) .live,ab.mk 1 (iR.map J) .live,ab.mk 1 (iS.map J) .live]]⟩
def wv (db:List aT)(c1:List bk)(d4:List dY)(gu gb a2:Int)(gm:List bu)(gw hG hE dI dz i3 i2:Int)(iR iS:List Int)(gV:Int)(kn:List Int):Option ((Int×(List Int))⊕((List Int))) :=
 if (decide (gV<(2:Int)))=true then
  if 0≤gV∧gV<2 then
  uB (U ((U (gu+(U ((2:Int)*a2))))+gV)) dI dz kn iR iS >>= fun a6 =>
  za db c1 d4 gu gb a2 gV a6.1 a6.2 gm gw hG hE (len_ ek d4) dI dz i3 i2 (if gV=0 then hG else hE) (if gV=0 then hE else hG) iR iS 0 kn >>= fun bD =>
  if 0≤(U ((U (gb+(U ((2:Int)*a2))))+gV))∧(U ((U (gb+(U ((2:Int)*a2))))+gV))<(a6.2:Nat) then
  if (a6.1+(U ((U (gb+(U ((2:Int)*a2))))+gV)).toNat)<bD.length then
  some (.inl (U (gV+(1:Int)),bD.set (a6.1+(U ((U (gb+(U ((2:Int)*a2))))+gV)).toNat) 1))
  else none
  else none
  else none
 else
  some (.inr kn)
def BU (db:List aT)(c1:List bk)(d4:List dY)(gu gb a2:Int)(gm:List bu)(gw hG hE dI dz i3 i2:Int)(iR iS:List Int)(gV:Int)(kn:List Int):Option ((List Int)):=iter (fun w:Int×(List Int)=>wv db c1 d4 gu gb a2 gm gw hG hE dI dz i3 i2 iR iS w.1 w.2) (gV,kn)
theorem R7 {db:List aT}{c1:List bk}{d4:List dY}{gu gb a2:Int}{gm:List bu}{gw hG hE dI dz i3 i2:Int}{iR iS:List Int}{gV:Int}{kn:List Int}:b6 (wv db c1 d4 gu gb a2 gm gw hG hE dI dz i3 i2 iR iS gV kn) (fG bC 116 0 17 [1,1,1,1,0,1,0,0,1,1,0,0,1,1,0,0] (Fo db c1 d4 gu gb a2 gm gw hG hE dI dz i3 i2 iR iS (gV,kn)) (Fo db c1 d4 gu gb a2 gm gw hG hE dI dz i3 i2 iR iS) (Fv db c1 d4 gu gb a2 gm gw hG hE dI dz i3 i2 iR iS)):=by
 unfold wv
 exact .ite (fun o =>
  .bn fun R =>
  .aC fun a6 aB =>
  .aC fun bD bF =>
  .bn fun bS =>
  .bn fun bx =>
  .ret (let aW:=fE dI dz 1 0 0 kn.length 1 1 0 iR.length 1 2 0 iS.length;let bi:=fE dI dz 3 0 0 kn.length 3 1 0 iR.length 3 2 0 iS.length;let cd:=(U ((U (gb+(U ((2:Int)*a2))))+gV));let cV:=cX [0,1,2,7,3];let dX:=cX [0,1,2,3];b5 [(ag 1),.ao true,(ag 5),.aH (bU 6 (.call {aM:=(o1 [1,3]),cM:=[.bt [ab.mk 5 [aW] .live],.bt [ab.mk 1 (kn.map J) .live,ab.mk 1 (iR.map J) .live,ab.mk 1 (iS.map J) .live]],ac:=[ii,ii],r:= .bm 1 0 a6.1 a6.2,dT:=[[ab.mk 5 [aW] .live],[ab.mk 1 (kn.map J) .live,ab.mk 1 (iR.map J) .live,ab.mk 1 (iS.map J) .live]],ff:=ii,fR:=[.bt [ab.mk 5 [bi] .live],.bt [ab.mk 1 (kn.map J) .live,ab.mk 1 (iR.map J) .live,ab.mk 1 (iS.map J) .live]],dA:=[1,3],dt:=false}) 1),(ag 3),.br [0,1,2,7,3] [.box [.id,.id,.id,.id,.id],.box [.id,.id,.id,.id,.id],.box [.id,.id,.id,.id],.box [.id,.id],.bt [ab.mk 1 (kn.map J) .live,ab.mk 1 (iR.map J) .live,ab.mk 1 (iS.map J) .live]] (b2 [0,6,7,8,9,10,11,12,13,14,15,37,38,39,54,55,66,67,68]),(Fu db c1 d4 gu gb a2 gV a6.1 a6.2 gm gw hG hE (len_ ek d4) dI dz i3 i2 (if gV=0 then hG else hE) (if gV=0 then hE else hG) iR iS bD).gr,.aH (an 8 (aq .dO [])),(ag 2),.br [0,1,2,3] [.box [.id,.id,.id,.id,.id],.box [.id,.id,.len ((bD.set (a6.1+cd.toNat) 1).length),.id,.id],.box [.id,.id,.id,.id],.bt [ab.mk 1 ((bD.set (a6.1+cd.toNat) 1).map J) .live,ab.mk 1 (iR.map J) .live,ab.mk 1 (iS.map J) .live]] (b2 [0,6,7,8,9,10,11,12,37,38,39,54,55])] (.bh o R.1 R.2 (i1 (o9 [1,3]) 5 [aW] [bi] rfl) (jt 5 [bi]) (c4 (dm (o9 [1,3]) 1 fa kn) (c4 (dm (o9 [1,3]) 1 fa iR) (c4 (dm (o9 [1,3]) 1 fa iS) (ib (bQ:=(o9 [1,3])))))) ((jh rfl (jh rfl (jh rfl sy))):mj [ab.mk 1 (kn.map J) .live,ab.mk 1 (iR.map J) .live,ab.mk 1 (iS.map J) .live]) (i1 (f8 [1,3]) 5 [bi] [aW] rfl) (.bh (jt 5 [aW]) (c4 (dm (f8 [1,3]) 1 fa kn) (c4 (dm (f8 [1,3]) 1 fa iR) (c4 (dm (f8 [1,3]) 1 fa iS) (ib (bQ:=(f8 [1,3])))))) ((jh rfl (jh rfl (jh rfl sy))):mj [ab.mk 1 (kn.map J) .live,ab.mk 1 (iR.map J) .live,ab.mk 1 (iS.map J) .live]) (Tu a6 aB) (c4 (dm cV 1 fa kn) (c4 (dm cV 1 fa iR) (c4 (dm cV 1 fa iS) (ib (bQ:=cV))))) (Sh bF) bS.1 bS.2 (.du (hM J bx) (hr 1) (hQ (fO bD) (a6.1+cd.toNat) 1) (c4 (tk (bQ:=dX) 1 .live J (gy (cW J bD) (a6.1+cd.toNat) 1) (n5 fa)) (c4 (dm dX 1 fa iR) (c4 (dm dX 1 fa iS) (ib (bQ:=dX))))))))))
  (fun o =>
  .ret (let fD:=cX [0,1,3];b5 [(ag 1),.ao false,.br [0,1,3] [.box [.id,.id,.id,.id,.id],.box [.id,.id,.id,.id,.id],.bt [ab.mk 1 (kn.map J) .live,ab.mk 1 (iR.map J) .live,ab.mk 1 (iS.map J) .live]] (b2 [0,6,7,8,9,10,37,38,39])] (.aD o (c4 (dm fD 1 fa kn) (c4 (dm fD 1 fa iR) (c4 (dm fD 1 fa iS) (ib (bQ:=fD))))))))
theorem Si {db:List aT}{c1:List bk}{d4:List dY}{gu gb a2:Int}{gm:List bu}{gw hG hE dI dz i3 i2:Int}{iR iS:List Int}{gV:Int}{kn:List Int}{r} (h:BU db c1 d4 gu gb a2 gm gw hG hE dI dz i3 i2 iR iS gV kn=some r):fH bC 116 0 17 [1,1,1,1,0,1,0,0,1,1,0,0,1,1,0,0] (Fo db c1 d4 gu gb a2 gm gw hG hE dI dz i3 i2 iR iS) (Fv db c1 d4 gu gb a2 gm gw hG hE dI dz i3 i2 iR iS) (gV,kn) r:=fI (fun _=>R7) h
def Fp (db:List aT)(c1:List bk)(d4:List dY)(gu gb:Int)(gm:List bu)(gw dI dz:Int)(kP kQ:List Int):(Int×(List Int))→S:=fun (nz,nw)=>e1 [(0,.eB 2 [[.isl 4 (db.map cu),.isl 3 (c1.map cq)]] 0 0),(6,.ref 0 0 0 0),(7,.isl 2 (d4.map ek)),(8,.ref 1 0 0 0),(9,.n .i64 gu),(10,.n .i64 gb),(37,.isl 4 (gm.map cL)),(38,.n .i64 gw),(39,.n .i64 nz)] [[ab.mk 5 [[.n .i64 (0:Int),.n .i64 (0:Int),.ex,.ex,.ex]] .live],[ab.mk 5 [(fE dI dz 2 0 0 nw.length 2 1 0 kP.length 2 2 0 kQ.length)] .live],[ab.mk 1 (nw.map J) .live,ab.mk 1 (kP.map J) .live,ab.mk 1 (kQ.map J) .live]]
def Fw (db:List aT)(c1:List bk)(d4:List dY)(gu gb:Int)(gm:List bu)(gw dI dz:Int)(kP kQ:List Int):(List Int)→e5
 | a=>⟨some 0,[(6,.ref 0 0 0 0),(8,.ref 1 0 0 0)],[[ab.mk 5 [[.n .i64 (0:Int),.n .i64 (0:Int),.ex,.ex,.ex]] .live],[ab.mk 5 [(fE dI dz 2 0 0 a.length 2 1 0 kP.length 2 2 0 kQ.length)] .live],[ab.mk 1 (a.map J) .live,ab.mk 1 (kP.map J) .live,ab.mk 1 (kQ.map J) .live]]⟩
def wx (db:List aT)(c1:List bk)(d4:List dY)(gu gb:Int)(gm:List bu)(gw dI dz:Int)(kP kQ:List Int)(nz:Int)(nw:List Int):Option ((Int×(List Int))⊕((List Int))) :=
 if (decide (nz<gw))=true then
  if 0≤nz∧nz<gm.length then
  gm[nz.toNat]? >>= fun aV =>
  BU db c1 d4 gu gb nz gm gw aV.cE aV.cF dI dz aV.fA aV.b9 kP kQ 0 nw >>= fun bD =>
  some (.inl (U (nz+(1:Int)),bD))
  else none
 else
  some (.inr nw)
def FH (db:List aT)(c1:List bk)(d4:List dY)(gu gb:Int)(gm:List bu)(gw dI dz:Int)(kP kQ:List Int)(nz:Int)(nw:List Int):Option ((List Int)):=iter (fun w:Int×(List Int)=>wx db c1 d4 gu gb gm gw dI dz kP kQ w.1 w.2) (nz,nw)
theorem R8 {db:List aT}{c1:List bk}{d4:List dY}{gu gb:Int}{gm:List bu}{gw dI dz:Int}{kP kQ:List Int}{nz:Int}{nw:List Int}:b6 (wx db c1 d4 gu gb gm gw dI dz kP kQ nz nw) (fG bC 116 0 17 [1,1,1,1,0,1,0,0] (Fp db c1 d4 gu gb gm gw dI dz kP kQ (nz,nw)) (Fp db c1 d4 gu gb gm gw dI dz kP kQ) (Fw db c1 d4 gu gb gm gw dI dz kP kQ)):=by
 unfold wx
 exact .ite (fun o =>
  .bn fun R =>
  .aC fun aV aB =>
  .aC fun bD bF =>
  .ret (let aW:=cX [0,1,7,2];let bi:=cX [0,1,2];b5 [(ag 1),.ao true,.aH (bU 2 (.cK (cL aV)) 3),(ag 12),.br [0,1,7,2] [.box [.id,.id,.id,.id,.id],.box [.id,.id,.id,.id,.id],.box [.id,.id,.id,.id],.bt [ab.mk 1 (nw.map J) .live,ab.mk 1 (kP.map J) .live,ab.mk 1 (kQ.map J) .live]] (b2 [0,6,7,8,9,10,11,12,37,38,39,54,55]),(Fv db c1 d4 gu gb nz gm gw aV.cE aV.cF dI dz aV.fA aV.b9 kP kQ bD).gr,(ag 2),.br [0,1,2] [.box [.id,.id,.id,.id,.id],.box [.id,.id,.id,.id,.id],.bt [ab.mk 1 (bD.map J) .live,ab.mk 1 (kP.map J) .live,ab.mk 1 (kQ.map J) .live]] (b2 [0,6,7,8,9,10,37,38,39])] (.fu o R.1 (eR cL R.2) (cP cL aB) (c4 (dm aW 1 fa nw) (c4 (dm aW 1 fa kP) (c4 (dm aW 1 fa kQ) (ib (bQ:=aW))))) (Si bF) (c4 (dm bi 1 fa bD) (c4 (dm bi 1 fa kP) (c4 (dm bi 1 fa kQ) (ib (bQ:=bi))))))))
  (fun o =>
  .ret (let cd:=cX [0,1,2];b5 [(ag 1),.ao false,.br [0,1,2] [.box [.id,.id,.id,.id,.id],.box [.id,.id,.id,.id,.id],.bt [ab.mk 1 (nw.map J) .live,ab.mk 1 (kP.map J) .live,ab.mk 1 (kQ.map J) .live]] (b2 [6,8])] (.aD o (c4 (dm cd 1 fa nw) (c4 (dm cd 1 fa kP) (c4 (dm cd 1 fa kQ) (ib (bQ:=cd))))))))
theorem Sj {db:List aT}{c1:List bk}{d4:List dY}{gu gb:Int}{gm:List bu}{gw dI dz:Int}{kP kQ:List Int}{nz:Int}{nw:List Int}{r} (h:FH db c1 d4 gu gb gm gw dI dz kP kQ nz nw=some r):fH bC 116 0 17 [1,1,1,1,0,1,0,0] (Fp db c1 d4 gu gb gm gw dI dz kP kQ) (Fw db c1 d4 gu gb gm gw dI dz kP kQ) (nz,nw) r:=fI (fun _=>R8) h
def zd (aX:ct)(dl:List Int)(iz:List bu):Option (Int×Int×(List Int)×(List Int)×(List Int)) :=
 tp aX >>= fun ax =>
 zc aX dl (U ((2:Int)*(len_ cL iz))) (U ((2:Int)*(len_ cL iz))) >>= fun a6 =>
 FH aX.dd aX.cx ax (U (a6.1-(U ((2:Int)*(len_ cL iz))))) (len_ ek ax) iz (len_ cL iz) a6.1 a6.2.1 a6.2.2.2.1 a6.2.2.2.2 0 a6.2.2.1 >>= fun bD =>
 some (a6.1,a6.2.1,bD,a6.2.2.2.1,a6.2.2.2.2)
theorem Sw {aX:ct}{dl:List Int}{iz:List bu}:b6 (zd aX dl iz) (fun a=>Con bC 17 [.eB 2 [(hY aX)] 0 0,.isl 1 (dl.map J),.isl 4 (iz.map cL)] [] (.agg (fE a.1 a.2.1 0 0 0 a.2.2.1.length 0 1 0 a.2.2.2.1.length 0 2 0 a.2.2.2.2.length)) [[ab.mk 1 (a.2.2.1.map J) .live,ab.mk 1 (a.2.2.2.1.map J) .live,ab.mk 1 (a.2.2.2.2.map J) .live]]):=by
 unfold zd
 exact .aC fun ax R =>
  .aC fun a6 aB =>
  .aC fun bD bF =>
  .ret (let aW:=cX [0,13,12];iu [(ag 1),.aH (bU 1 (b3 1 (.isl 2 (ax.map ek)) false) 1),.aH (bU 8 (.call {aM:=[],cM:=[],ac:=[ii,ii,ii,ii],r:= .agg (fE a6.1 a6.2.1 0 0 0 a6.2.2.1.length 0 1 0 a6.2.2.2.1.length 0 2 0 a6.2.2.2.2.length),dT:=[[ab.mk 1 (a6.2.2.1.map J) .live,ab.mk 1 (a6.2.2.2.1.map J) .live,ab.mk 1 (a6.2.2.2.2.map J) .live]],ff:= .bp (.agg [.id,.id,.id,.id,.id]),fR:=[.bt [ab.mk 1 (a6.2.2.1.map J) .live,ab.mk 1 (a6.2.2.2.1.map J) .live,ab.mk 1 (a6.2.2.2.2.map J) .live]],dA:=[],dt:=true}) 2),(ag 10),(ag 3),.br [0,13,12] [.box [.id,.id,.id,.id,.id],.box [.id,.id,.id,.id,.id],.bt [ab.mk 1 (a6.2.2.1.map J) .live,ab.mk 1 (a6.2.2.2.1.map J) .live,ab.mk 1 (a6.2.2.2.2.map J) .live]] (b2 [0,6,7,8,9,10,37,38,39]),(Fw aX.dd aX.cx ax (U (a6.1-(U ((2:Int)*(len_ cL iz))))) (len_ ek ax) iz (len_ cL iz) a6.1 a6.2.1 a6.2.2.2.1 a6.2.2.2.2 bD).gr,(ag 2)] [2] [.bt [ab.mk 1 (bD.map J) .live,ab.mk 1 (a6.2.2.2.1.map J) .live,ab.mk 1 (a6.2.2.2.2.map J) .live]] (.bh (B6 ax R) (c4 (dm (f8 [12]) 1 fa a6.2.2.1) (c4 (dm (f8 [12]) 1 fa a6.2.2.2.1) (c4 (dm (f8 [12]) 1 fa a6.2.2.2.2) (ib (bQ:=(f8 [12])))))) ((jh rfl (jh rfl (jh rfl sy))):mj [ab.mk 1 (a6.2.2.1.map J) .live,ab.mk 1 (a6.2.2.2.1.map J) .live,ab.mk 1 (a6.2.2.2.2.map J) .live]) (Sv a6 aB) (cn.agg (k1 (cn.n .i64 a6.1) (k1 (cn.n .i64 a6.2.1) (k1 (cn.bm 0 0 0 a6.2.2.1.length) (k1 (cn.bm 0 1 0 a6.2.2.2.1.length) (k1 (cn.bm 0 2 0 a6.2.2.2.2.length) tB)))))) ((xL (nZ (nu rZ) (nZ (nu rZ) (nZ (nu rZ) xV))) xU):rs [[ab.mk 1 (a6.2.2.1.map J) .live,ab.mk 1 (a6.2.2.2.1.map J) .live,ab.mk 1 (a6.2.2.2.2.map J) .live]]) (c4 (dm aW 1 fa a6.2.2.1) (c4 (dm aW 1 fa a6.2.2.2.1) (c4 (dm aW 1 fa a6.2.2.2.2) (ib (bQ:=aW))))) (Sj bF) (.ay (c4 (dm (cX [2]) 1 fa bD) (c4 (dm (cX [2]) 1 fa a6.2.2.2.1) (c4 (dm (cX [2]) 1 fa a6.2.2.2.2) (ib (bQ:=(cX [2])))))))) (.bp (.agg [.id,.id,.id,.id,.id])))
def Gu:(Int×(List Int))→S:=fun (ba,ar)=>e1 [(0,.n .u64 ba),(3,.bm 0 0 0 ar.length)] [(av 1 J ar)]
def GP:(List Int)→e5
 | a=>⟨some 0,[(3,.bm 0 0 0 a.length)],[(av 1 J a)]⟩
def wT (ba:Int)(ar:List Int):Option ((Int×(List Int))⊕((List Int))) :=
 if (decide ((0:Int)<ba))=true then
  if (ar++([IntKind.wrap .i64 (ba.tmod (1000000000:Int))]:List Int)).length*8≤140737488355328 then
  some (.inl (IntKind.wrap .u64 (ba.tdiv (1000000000:Int)),ar++([IntKind.wrap .i64 (ba.tmod (1000000000:Int))]:List Int)))
  else none
 else
  some (.inr ar)
def HA (ba:Int)(ar:List Int):Option ((List Int)):=iter (fun w:Int×(List Int)=>wT w.1 w.2) (ba,ar)
theorem S4 {ba:Int}{ar:List Int}:b6 (wT ba ar) (fG bC 15 0 76 [1,1,0,0,0] (Gu (ba,ar)) (Gu) (GP)):=by
 unfold wT
 exact .ite (fun o =>
  .bn fun R =>
  .ret (let aW:=(ar++([(IntKind.wrap .i64 (ba.tmod (1000000000:Int)))]:List Int));b5 [(ag 2),.ao true,.aH (bU 5 (.bb (aW.length)) 1),(ag 3),.br [8] [.da (av 1 J aW)] (b2 [0,3])] (.bh o (by decide:(1000000000:Int)≠0) (m1 J (IntKind.wrap .i64 (ba.tmod (1000000000:Int)))) (se J ar) (ou J ar (IntKind.wrap .i64 (ba.tmod (1000000000:Int)))) R (by decide:(1000000000:Int)≠0) (dF 1 .live (sf J ar (IntKind.wrap .i64 (ba.tmod (1000000000:Int))))) (.ay (aA 1 .live aE aW)))))
  (fun o =>
  .ret (b5 [(ag 2),.ao false,.br [0] [.pure] (b2 [3])] (.aD o (aA 1 .live aE ar))))
theorem TJ {ba:Int}{ar:List Int}{r} (h:HA ba ar=some r):fH bC 15 0 76 [1,1,0,0,0] (Gu) (GP) (ba,ar) r:=fI (fun _=>S4) h
def uI (ba:Int):Option (List Int) :=
 HA ba ([]:List Int) >>= fun ax =>
 some ax
theorem HB {ba:Int}:b6 (uI ba) (fun r=>Con bC 76 [.n .u64 ba] [] (.isl 1 (r.map J)) []):=by
 unfold uI
 exact .aC fun ax R =>
  .ret (bY [(ag 1),(ag 1),.tQ 3 1,.br [2] [.da (av 1 J ([]:List Int))] [(0,ii),(3,gX (([]:List Int).length))],(GP ax).gr,(ag 2)] (.fu (dF 1 .live (tl J)) (aA 1 .live aE ([]:List Int)) (ot Int) (TJ R) (jT J ax) (jg J ax) (dP aE ax)) (.bp (.b4 (.ej (ax.map J)))))
def lj (D5:Bool)(yh:List Int):Option bc :=
 if D5=true then
  some (⟨(decide ((0:Int)<(len_ J yh))),yh⟩:bc)
 else
  some (⟨false,yh⟩:bc)
theorem rR {D5:Bool}{yh:List Int}:b6 (lj D5 yh) (fun r=>Con bC 75 [.b D5,.isl 1 (yh.map J)] [] (.agg (aN r)) []):=by
 unfold lj
 exact .ite (fun o =>
  .ret (bY [(ag 1),.aH (bU 5 (.ao true) 3)] (.du o o o o)))
  (fun o =>
  .ret (bY [(ag 1),.aH (an 2 (c3 3 (aq (.ao false) (an 3 []))))] (.du o o o o)))
def nW (ba:Int):Option bc :=
 if (decide (ba<(0:Int)))=true then
  uI (IntKind.wrap .u64 ((IntKind.wrap .u64 (U (0-(U (ba+(1:Int))))))+(1:Int))) >>= fun cH =>
  lj true cH >>= fun bP =>
  some bP
 else
  uI (IntKind.wrap .u64 ba) >>= fun cH =>
  lj false cH >>= fun bP =>
  some bP
theorem rO {ba:Int}:b6 (nW ba) (fun r=>Con bC 52 [.n .i64 ba] [] (.agg (aN r)) []):=by
 unfold nW
 exact .ite (fun o =>
  .aC fun cH ah =>
  .aC fun bP aK =>
  .ret (bY [(ag 1),(ag 2),.ao true,.aH (an 5 (aq (b3 1 (.isl 1 (cH.map J)) false) (aq (b3 2 (.agg (aN bP)) false) (an 1 []))))] (.bV o (HB cH ah) (rR bP aK))))
  (fun o =>
  .aC fun cH ah =>
  .aC fun bP aK =>
  .ret (bY [(ag 1),(ag 2),.ao false,.aH (an 2 (aq (b3 1 (.isl 1 (cH.map J)) false) (aq (b3 2 (.agg (aN bP)) false) (an 1 []))))] (.bV o (HB cH ah) (rR bP aK))))
def Cj (a2 cb cB:Int)(cT eT dc:List Int):Option (Nat×Nat) :=
 if 0≤(U (a2*cB)) then
 if 0≤(U ((U (a2+(1:Int)))*cB)) then
 if (U (a2*cB)).toNat≤(U ((U (a2+(1:Int)))*cB)).toNat∧(U ((U (a2+(1:Int)))*cB)).toNat≤cT.length then
 some ((0+(U (a2*cB)).toNat),((U ((U (a2+(1:Int)))*cB)).toNat-(U (a2*cB)).toNat))
 else none
 else none
 else none
theorem LF {a2 cb cB:Int}{cT eT dc:List Int}:b6 (Cj a2 cb cB cT eT dc) (fun a=>Con bC 40 [.ref 0 0 0 0,.n .i64 a2] [[ab.mk 5 [(fE cb cB 1 0 0 cT.length 2 0 0 eT.length 3 0 0 dc.length)] .live],(av 1 J cT),(av 1 J eT),(av 1 J dc)] (.bm 1 0 a.1 a.2) [[ab.mk 5 [(fE cb cB 1 0 0 cT.length 2 0 0 eT.length 3 0 0 dc.length)] .live],(av 1 J cT),(av 1 J eT),(av 1 J dc)]):=by
 unfold Cj
 exact .bn fun o =>
  .bn fun R =>
  .bn fun ah =>
  .ret (let aW:=fE cb cB 1 0 0 cT.length 2 0 0 eT.length 3 0 0 dc.length;iu [(ag 1),(ag 19)] [0,1,2,3] [.bt [ab.mk 5 [aW] .live],.pure,.pure,.pure] (.hq o R ah.1 ah.2 (i1 (cX [0,1,2,3]) 5 [aW] [aW] rfl) (aA 1 .live aE cT) (aA 1 .live aE eT) (aA 1 .live aE dc)))
def HC (aX:List Int)(dJ ep:Int):Int→S:=fun eA=>e1 [(0,.isl 1 (aX.map J)),(1,.n .i64 dJ),(7,.n .i64 ep),(8,.n .i64 eA)] []
def Md (aX:List Int)(dJ ep:Int):((Unit)⊕(Int))→e5
 | .inl a=>⟨some 0,[],[]⟩
 | .inr a=>⟨none,[(4,.n .i64 a)],[]⟩
def xf (aX:List Int)(dJ ep eA:Int):Option ((Int)⊕((Unit)⊕(Int))) :=
 if (decide (eA<ep))=true then
  if 0≤eA∧eA<aX.length then
  aX[eA.toNat]? >>= fun aV =>
  if (dJ == aV)=true then
   some (.inr (.inr eA))
  else
   some (.inl (U (eA+(1:Int))))
  else none
 else
  some (.inr (.inl ()))
def Ik (aX:List Int)(dJ ep eA:Int):Option ((Unit)⊕(Int)):=iter (fun w:Int=>xf aX dJ ep w) eA
theorem TK {aX:List Int}{dJ ep eA:Int}:b6 (xf aX dJ ep eA) (fG bC 19 0 93 [1,0,1,0,0] (HC aX dJ ep eA) (HC aX dJ ep) (Md aX dJ ep)):=by
 unfold xf
 exact .ite (fun o =>
  .bn fun R =>
  .aC fun aV aB =>
  (let t1:List c5:=[(ag 1),.ao true,(ag 2),.aH (bU 4 (.cK (J aV)) 1)];
  have bg:=((.du o R.1 (eR J R.2) (cP J aB)):c9 _);
  .ite (fun aK =>
  .ret (b5 (t1.append [.ao true,(ag 2),.br [] [] (b2 [4])]) (bg.bb (.ay aK))))
  (fun aK =>
  .ret (b5 (t1.append [.ao false,(ag 2),.br [] [] (b2 [0,1,7,8])]) (bg.bb (.ay aK))))))
  (fun o =>
  .ret (b5 [(ag 1),.ao false,.br [] [] []] (.ay o)))
theorem Ml {aX:List Int}{dJ ep eA:Int}{r} (h:Ik aX dJ ep eA=some r):fH bC 19 0 93 [1,0,1,0,0] (HC aX dJ ep) (Md aX dJ ep) eA r:=fI (fun _=>TK) h
def DE (aX:List Int)(dJ:Int):Option Int :=
 Ik aX dJ (len_ J aX) 0 >>= fun ax =>
 match ax with
 | .inl bG=>(some (-1))
 | .inr bG=>(some bG)
theorem VA {aX:List Int}{dJ:Int}:b6 (DE aX dJ) (fun r=>Con bC 93 [.isl 1 (aX.map J),.n .i64 dJ] [] (.n .i64 r) []):=by
 unfold DE
 exact .aC fun ax R =>
  (let t1:List c5:=[(ag 1),(ag 3),.br [] [] (b2 [0,1,7,8])];
  (by
  rcases ax with bG|bG
  ·exact (.ret (bY (t1.append [.sub (.exit 0) [] [],(ag 1)]) (.ay (Ml R))))
  ·exact (.ret (bY (t1.append [.sub (.ret) [(4,.n .i64 bG)] []]) (.ay (Ml R))))))
def xB (aX:List Int)(dJ:Int):Option Bool :=
 DE aX dJ >>= fun ax =>
 some (decide ((0:Int)≤ax))
theorem Mm {aX:List Int}{dJ:Int}:b6 (xB aX dJ) (fun r=>Con bC 84 [.isl 1 (aX.map J),.n .i64 dJ] [] (.b r) []):=by
 unfold xB
 exact .aC fun ax R =>
  .ret (bY [(ag 1),.aH (bU 2 (b3 2 (.n .i64 ax) true) 2)] (.aD (VA ax R) (cn.n .i64 ax)))
def Hj:(List Int)→S:=fun a9=>e1 [(0,.isl 1 (a9.map J))] []
def Ht:(List Int)→e5
 | a=>⟨some 0,[(0,.isl 1 (a.map J))],[]⟩
def xb (a9:List Int):Option (((List Int))⊕((List Int))) :=
 if (decide ((0:Int)<(len_ J a9)))=true then
  if 0≤(U ((len_ J a9)-(1:Int)))∧(U ((len_ J a9)-(1:Int)))<a9.length then
  a9[(U ((len_ J a9)-(1:Int))).toNat]? >>= fun aV =>
  if (aV == (0:Int))=true then
   if 0≤(U ((len_ J a9)-(1:Int))) then
   if 0≤(U ((len_ J a9)-(1:Int))).toNat∧(U ((len_ J a9)-(1:Int))).toNat≤a9.length then
   some (.inl ((a9.drop 0).take ((U ((len_ J a9)-(1:Int))).toNat-0)))
   else none
   else none
  else
   some (.inr a9)
  else none
 else
  some (.inr a9)
def HZ (a9:List Int):Option ((List Int)):=iter (fun w:(List Int)=>xb w) a9
theorem Tz {a9:List Int}:b6 (xb a9) (fG bC 21 0 81 [1,0,0,0] (Hj a9) (Hj) (Ht)):=by
 unfold xb
 exact .ite (fun o =>
  .bn fun R =>
  .aC fun aV aB =>
  (let t1:List c5:=[.aH (an 9 (aq (.cK (J aV)) (an 1 (aq (.ao true) []))))];
  have bg:=((.bh o o o o o R.1 (eR J R.2) o (.bV (cP J aB) o o)):c9 _);
  .ite (fun aK =>
  .bn fun bF =>
  .bn fun bS =>
  .ret (let aW:=(U ((len_ J a9)-(1:Int)));b5 (t1.append [.ao true,(ag 6),.br [] [] [(0,.bp (.b4 (.da (.isl 1 (((a9.drop 0).take (aW.toNat-0)).map J)))))]]) (bg.bb (.dV aK bF bS.1 (hZ (cW J a9) bS.2) (congrArg (aw.isl 1) (ph (cW J a9) 0 (aW.toNat-0)):(.isl 1 (((a9.map J).drop 0).take (aW.toNat-0)):aw) = .isl 1 (((a9.drop 0).take (aW.toNat-0)).map J))))))
  (fun aK =>
  .ret (b5 (t1.append [.ao false,.br [] [] (b2 [0])]) (bg.bb (.ay aK))))))
  (fun o =>
  .ret (b5 [.aH (an 4 (c3 7 (aq (.ao false) []))),.ao false,.br [] [] (b2 [0])] (.bh o o o o o o o o (.ay d3))))
theorem Ui {a9:List Int}{r} (h:HZ a9=some r):fH bC 21 0 81 [1,0,0,0] (Hj) (Ht) a9 r:=fI (fun _=>Tz) h
def qw (a9:List Int):Option (List Int) :=
 HZ a9 >>= fun ax =>
 some ax
theorem uJ {a9:List Int}:b6 (qw a9) (fun r=>Con bC 81 [.isl 1 (a9.map J)] [] (.isl 1 (r.map J)) []):=by
 unfold qw
 exact .aC fun ax R =>
  .ret (bY [(ag 1),.br [] [] (b2 [0]),(Ht ax).gr,(ag 2)] (.ay (Ui R)))
def G8 (a1:List Int)(a2 ba:Int)(dZ:List Int)(ec dW:Int):(Int×Int×(List Int))→S:=fun (el,dp,ar)=>e1 [(1,.isl 1 (a1.map J)),(5,.bm 0 0 0 ar.length),(6,.n .i64 a2),(7,.n .i64 ba),(8,.n .i64 el),(26,.isl 1 (dZ.map J)),(27,.n .i64 ec),(28,.n .i64 a2),(33,.isl 1 (a1.map J)),(34,.n .i64 dW),(35,.n .i64 dp)] [(av 1 J ar)]
def Hk (a1:List Int)(a2 ba:Int)(dZ:List Int)(ec dW:Int):(Int×(List Int))→e5
 | a=>⟨some 2,[(1,.isl 1 (a1.map J)),(5,.bm 0 0 0 a.2.length),(6,.n .i64 a2),(8,.n .i64 a.1),(26,.isl 1 (dZ.map J)),(27,.n .i64 ec),(28,.n .i64 a2)],[(av 1 J a.2)]⟩
def G9 (a1:List Int)(a2 ba:Int)(dZ:List Int)(ec dW el dp:Int)(ar:List Int):Option ((Int×Int×(List Int))⊕(Int×(List Int))) :=
 if (decide (dp<dW))=true then
  if 0≤dp∧dp<a1.length then
  a1[dp.toNat]? >>= fun aV =>
  if 0≤(U (a2+dp))∧(U (a2+dp))<(ar.length:Nat) then
  ar[(0+(U (a2+dp)).toNat)]? >>= fun aF =>
  if (0+(U (a2+dp)).toNat)<ar.length then
  some (.inl (U ((U ((U (aF+(U (ba*aV))))+el)).tdiv (1000000000:Int)),U (dp+(1:Int)),ar.set (0+(U (a2+dp)).toNat) ((U ((U (aF+(U (ba*aV))))+el)).tmod (1000000000:Int))))
  else none
  else none
  else none
 else
  some (.inr (el,ar))
def Mn (a1:List Int)(a2 ba:Int)(dZ:List Int)(ec dW el dp:Int)(ar:List Int):Option (Int×(List Int)):=iter (fun w:Int×Int×(List Int)=>G9 a1 a2 ba dZ ec dW w.1 w.2.1 w.2.2) (el,dp,ar)
theorem Tv {a1:List Int}{a2 ba:Int}{dZ:List Int}{ec dW el dp:Int}{ar:List Int}:b6 (G9 a1 a2 ba dZ ec dW el dp ar) (fG bC 72 0 74 [1,1,1,0,1,0,0,1,1,0,0,1,1,0,1,0,0] (G8 a1 a2 ba dZ ec dW (el,dp,ar)) (G8 a1 a2 ba dZ ec dW) (Hk a1 a2 ba dZ ec dW)):=by
 unfold G9
 exact .ite (fun o =>
  .bn fun R =>
  .aC fun aV aB =>
  .bn fun aK =>
  .aC fun aF bS =>
  .bn fun bx =>
  .ret (let aW:=U ((U (aF+(U (ba*aV))))+el);let bi:=U (a2+dp);b5 [(ag 1),.ao true,.aH (bU 2 (.cK (J aV)) 2),.aH (bU 5 (.cK (J aF)) 7),.aH (bU 9 .dO 1),(ag 2),.br [0] [.da (av 1 J (ar.set (0+bi.toNat) (aW.tmod (1000000000:Int))))] [(1,ii),(5,gX ((ar.set (0+bi.toNat) (aW.tmod (1000000000:Int))).length)),(6,ii),(7,ii),(8,ii),(26,ii),(27,ii),(28,ii),(33,ii),(34,ii),(35,ii)]] (.bh o R.1 (eR J R.2) (cP J aB) aK.1 aK.2 (cP J bS) (by decide:(1000000000:Int)≠0) (.hq (by decide:(1000000000:Int)≠0) aK.1 aK.2 (hM J bx) (hr 1) (dF 1 .live (gy (cW J ar) (0+bi.toNat) (aW.tmod (1000000000:Int)))) (aA 1 .live aE (ar.set (0+bi.toNat) (aW.tmod (1000000000:Int)))) (hQ (fO ar) (0+bi.toNat) (aW.tmod (1000000000:Int)))))))
  (fun o =>
  .ret (b5 [(ag 1),.ao false,.br [0] [.pure] (b2 [1,5,6,8,26,27,28])] (.aD o (aA 1 .live aE ar))))
theorem T7 {a1:List Int}{a2 ba:Int}{dZ:List Int}{ec dW el dp:Int}{ar:List Int}{r} (h:Mn a1 a2 ba dZ ec dW el dp ar=some r):fH bC 72 0 74 [1,1,1,0,1,0,0,1,1,0,0,1,1,0,1,0,0] (G8 a1 a2 ba dZ ec dW) (Hk a1 a2 ba dZ ec dW) (el,dp,ar) r:=fI (fun _=>Tv) h
def Ha (a1 dZ:List Int)(ec:Int):(Int×(List Int))→S:=fun (eE,ar)=>e1 [(1,.isl 1 (a1.map J)),(5,.bm 0 0 0 ar.length),(26,.isl 1 (dZ.map J)),(27,.n .i64 ec),(28,.n .i64 eE)] [(av 1 J ar)]
def Hl (a1 dZ:List Int)(ec:Int):(List Int)→e5
 | a=>⟨some 0,[(5,.bm 0 0 0 a.length)],[(av 1 J a)]⟩
def Hb (a1 dZ:List Int)(ec eE:Int)(ar:List Int):Option ((Int×(List Int))⊕((List Int))) :=
 if (decide (eE<ec))=true then
  if 0≤eE∧eE<dZ.length then
  dZ[eE.toNat]? >>= fun aV =>
  Mn a1 eE aV dZ ec (len_ J a1) 0 0 ar >>= fun bD =>
  if 0≤(U (eE+(len_ J a1)))∧(U (eE+(len_ J a1)))<(bD.2.length:Nat) then
  if (0+(U (eE+(len_ J a1))).toNat)<bD.2.length then
  some (.inl (U (eE+(1:Int)),bD.2.set (0+(U (eE+(len_ J a1))).toNat) bD.1))
  else none
  else none
  else none
 else
  some (.inr ar)
def HP (a1 dZ:List Int)(ec eE:Int)(ar:List Int):Option ((List Int)):=iter (fun w:Int×(List Int)=>Hb a1 dZ ec w.1 w.2) (eE,ar)
theorem Tw {a1 dZ:List Int}{ec eE:Int}{ar:List Int}:b6 (Hb a1 dZ ec eE ar) (fG bC 72 0 74 [1,1,1,0,1,0,0] (Ha a1 dZ ec (eE,ar)) (Ha a1 dZ ec) (Hl a1 dZ ec)):=by
 unfold Hb
 exact .ite (fun o =>
  .bn fun R =>
  .aC fun aV aB =>
  .aC fun bD bF =>
  .bn fun bS =>
  .bn fun bx =>
  .ret (let aW:=U (eE+(len_ J a1));b5 [(ag 1),.ao true,.aH (bU 2 (.cK (J aV)) 2),(ag 1),(ag 3),.br [0] [.pure] (b2 [1,5,6,7,8,26,27,28,33,34,35]),(Hk a1 eE aV dZ ec (len_ J a1) bD).gr,.aH (an 7 (aq .dO [])),(ag 2),.br [0] [.da (av 1 J (bD.2.set (0+aW.toNat) bD.1))] [(1,ii),(5,gX ((bD.2.set (0+aW.toNat) bD.1).length)),(26,ii),(27,ii),(28,ii)]] (.bh o R.1 (eR J R.2) (cP J aB) (aA 1 .live aE ar) (T7 bF) bS.1 bS.2 (.dV (hM J bx) (hr 1) (dF 1 .live (gy (cW J bD.2) (0+aW.toNat) bD.1)) (aA 1 .live aE (bD.2.set (0+aW.toNat) bD.1)) (hQ (fO bD.2) (0+aW.toNat) bD.1)))))
  (fun o =>
  .ret (b5 [(ag 1),.ao false,.br [0] [.pure] (b2 [5])] (.aD o (aA 1 .live aE ar))))
theorem T8 {a1 dZ:List Int}{ec eE:Int}{ar:List Int}{r} (h:HP a1 dZ ec eE ar=some r):fH bC 72 0 74 [1,1,1,0,1,0,0] (Ha a1 dZ ec) (Hl a1 dZ ec) (eE,ar) r:=fI (fun _=>Tw) h
def qu (a9 a1:List Int):Option (List Int) :=
 if ((len_ J a9) == (0:Int))=true then
  some ([]:List Int)
 else
  if ((len_ J a1) == (0:Int))=true then
   some ([]:List Int)
  else
   if 0≤(U ((len_ J a9)+(len_ J a1)))∧(8:Int)*(U ((len_ J a9)+(len_ J a1)))≤281474976710656∧(U ((len_ J a9)+(len_ J a1)))<9223372036854775808 then
   HP a1 a9 (len_ J a9) 0 (List.replicate (U ((len_ J a9)+(len_ J a1))).toNat 0:List Int) >>= fun bP =>
   qw bP >>= fun c0 =>
   some c0
   else none
theorem CO {a9 a1:List Int}:b6 (qu a9 a1) (fun r=>Con bC 74 [.isl 1 (a9.map J),.isl 1 (a1.map J)] [] (.isl 1 (r.map J)) []):=by
 unfold qu
 exact .ite (fun o =>
  .ret (bY [(ag 1),.aH (an 4 (c3 3 (aq (.ao true) []))),.ao true,(ag 1)] (.dV o o o o ch) (.bp (.b4 (.mv 1)))))
  (fun o =>
  (let t1:List c5:=[(ag 1),.aH (an 7 (aq (.ao false) []))];
  .ite (fun R =>
  .ret (bY (t1.append [.ao true,(ag 1)]) (.dV o o o o R) (.bp (.b4 (.mv 1)))))
  (fun R =>
  .bn fun ah =>
  .aC fun bP aK =>
  .aC fun c0 bS =>
  .ret (let aW:=U ((len_ J a9)+(len_ J a1));let bi:=(List.replicate aW.toNat 0:List Int);bY (t1.append [.ao false,(ag 7),(ag 3),.br [14] [.da (av 1 J bi)] [(1,ii),(5,gX (bi.length)),(26,ii),(27,ii),(28,ii)],(Hl a1 a9 (len_ J a9) bP).gr,.iW 0,.aH (bU 1 (.call {ac:=[.bp (.b4 (.ej (bP.map J)))],r:= .isl 1 (c0.map J),dt:=false,dA:=[0]}) 1)]) (.bh o o o o R ah.1 (Int.le_refl aW) ah.2.1 (.bh ah.2.2 (dF 1 .live (lE J aW.toNat 0)) (aA 1 .live aE bi) (l3 aW.toNat (0:Int)) (T8 aK) (jT J bP) (jg J bP) (dP aE bP) (.ay (uJ c0 bS))))))))
def oy (cy eM:bc):Option bc :=
 qu cy.cS eM.cS >>= fun ax =>
 lj (!(cy.dg == eM.dg)) ax >>= fun a6 =>
 some a6
theorem uy {cy eM:bc}:b6 (oy cy eM) (fun r=>Con bC 73 [.agg (aN cy),.agg (aN eM)] [] (.agg (aN r)) []):=by
 unfold oy
 exact .aC fun ax R =>
  .aC fun a6 aB =>
  .ret (bY [(ag 3),.aH (an 9 (aq (b3 2 (.isl 1 (ax.map J)) false) (aq (b3 2 (.agg (aN a6)) false) (an 1 []))))] (.aD (CO ax R) (rR a6 aB)))
def pb (cy:bc):Option Int :=
 if ((len_ J cy.cS) == (0:Int))=true then
  some 0
 else
  if cy.dg=true then
   some (-1)
  else
   some 1
theorem tq {cy:bc}:b6 (pb cy) (fun r=>Con bC 82 [.agg (aN cy)] [] (.n .i64 r) []):=by
 unfold pb
 exact .ite (fun o =>
  .ret (bY [(ag 2),(ag 5),.ao true,(ag 1)] (.ay o)))
  (fun o =>
  (let t1:List c5:=[(ag 2),(ag 5),.ao false,(ag 3)];
  .ite (fun R =>
  .ret (bY (t1.append [.ao true,(ag 1)]) (.aD o R)))
  (fun R =>
  .ret (bY (t1.append [.ao false,(ag 1)]) (.aD o R)))))
def pM (cy:bc):Option bc :=
 lj (!cy.dg) cy.cS >>= fun ax =>
 some ax
theorem B8 {cy:bc}:b6 (pM cy) (fun r=>Con bC 90 [.agg (aN cy)] [] (.agg (aN r)) []):=by
 unfold pM
 exact .aC fun ax R =>
  .ret (bY [(ag 2),.aH (bU 5 (b3 2 (.agg (aN ax)) false) 1)] (.ay (rR ax R)))
def Gv (a9 a1:List Int):Int→S:=fun a2=>e1 [(0,.isl 1 (a9.map J)),(1,.isl 1 (a1.map J)),(5,.n .i64 a2)] []
def LN (a9 a1:List Int):((Unit)⊕(Int))→e5
 | .inl a=>⟨some 0,[],[]⟩
 | .inr a=>⟨none,[(4,.n .i64 a)],[]⟩
def Gw (a9 a1:List Int)(a2:Int):Option ((Int)⊕((Unit)⊕(Int))) :=
 if (decide ((0:Int)≤a2))=true then
  if 0≤a2∧a2<a9.length then
  a9[a2.toNat]? >>= fun aV =>
  if 0≤a2∧a2<a1.length then
  a1[a2.toNat]? >>= fun aF =>
  if (decide (aV<aF))=true then
   some (.inr (.inr (-1)))
  else
   if (decide (aF<aV))=true then
    some (.inr (.inr 1))
   else
    some (.inl (U (a2-(1:Int))))
  else none
  else none
 else
  some (.inr (.inl ()))
def L6 (a9 a1:List Int)(a2:Int):Option ((Unit)⊕(Int)):=iter (fun w:Int=>Gw a9 a1 w) a2
theorem S5 {a9 a1:List Int}{a2:Int}:b6 (Gw a9 a1 a2) (fG bC 43 0 29 [1,1,0,1,0,0] (Gv a9 a1 a2) (Gv a9 a1) (LN a9 a1)):=by
 unfold Gw
 exact .ite (fun o =>
  .bn fun R =>
  .aC fun aV aB =>
  .bn fun aK =>
  .aC fun aF bS =>
  (let t1:List c5:=[(ag 2),.ao true,.aH (an 3 (aq (.cK (J aV)) (bU 3 (.cK (J aF)) 2)))];
  have bg:=((.fu o R.1 (eR J R.2) (cP J aB) aK.1 (eR J aK.2) (cP J bS)):c9 _);
  .ite (fun bx =>
  .ret (b5 (t1.append [.ao true,(ag 1),.br [] [] (b2 [4])]) (bg.bb (.ay bx))))
  (fun bx =>
  (let t3:List c5:=t1.append [.ao false,.aH (an 3 (aq (.cK (J aV)) (bU 3 (.cK (J aF)) 2)))];
  have f7:=bg.bb (.fu bx R.1 (eR J R.2) (cP J aB) aK.1 (eR J aK.2) (cP J bS));
  .ite (fun dy =>
  .ret (b5 (t3.append [.ao true,(ag 1),.br [] [] (b2 [4])]) (f7.bb (.ay dy))))
  (fun dy =>
  .ret (b5 (t3.append [.ao false,(ag 3),.br [] [] (b2 [0,1,5])]) (f7.bb (.ay dy))))))))
  (fun o =>
  .ret (b5 [(ag 2),.ao false,.br [] [] []] (.ay o)))
theorem LR {a9 a1:List Int}{a2:Int}{r} (h:L6 a9 a1 a2=some r):fH bC 43 0 29 [1,1,0,1,0,0] (Gv a9 a1) (LN a9 a1) a2 r:=fI (fun _=>S5) h
def pN (a9 a1:List Int):Option Int :=
 if ((len_ J a9) != (len_ J a1))=true then
  if (decide ((len_ J a9)<(len_ J a1)))=true then
   some (-1)
  else
   some 1
 else
  L6 a9 a1 (U ((len_ J a9)-(1:Int))) >>= fun cH =>
  match cH with
  | .inl bl=>(some 0)
  | .inr bl=>(some bl)
theorem xg {a9 a1:List Int}:b6 (pN a9 a1) (fun r=>Con bC 29 [.isl 1 (a9.map J),.isl 1 (a1.map J)] [] (.n .i64 r) []):=by
 unfold pN
 exact .ite (fun o =>
  (let t1:List c5:=[(ag 1),(ag 5),.ao true,(ag 5)];
  .ite (fun R =>
  .ret (bY (t1.append [.ao true,(ag 1)]) (.aD o R)))
  (fun R =>
  .ret (bY (t1.append [.ao false,(ag 1)]) (.aD o R)))))
  (fun o =>
  .aC fun cH ah =>
  (let t1:List c5:=[(ag 1),(ag 5),.ao false,(ag 4),.br [] [] (b2 [0,1,5])];
  (by
  rcases cH with bl|bl
  ·exact (.ret (bY (t1.append [.sub (.exit 0) [] [],(ag 1)]) (.aD o (LR ah))))
  ·exact (.ret (bY (t1.append [.sub (.ret) [(4,.n .i64 bl)] []]) (.aD o (LR ah)))))))
def Hm (a9 a1:List Int)(oO:Int):(Int×Int×(List Int))→S:=fun (el,ir,ar)=>e1 [(0,.isl 1 (a9.map J)),(1,.isl 1 (a1.map J)),(5,.bm 0 0 0 ar.length),(6,.n .i64 el),(20,.isl 1 (a9.map J)),(21,.n .i64 oO),(22,.n .i64 ir)] [(av 1 J ar)]
def Cv (a9 a1:List Int)(oO:Int):(Int×(List Int))→e5
 | a=>⟨some 0,[(0,.isl 1 (a9.map J)),(5,.bm 0 0 0 a.2.length),(6,.n .i64 a.1)],[(av 1 J a.2)]⟩
def xc (a9 a1:List Int)(oO el ir:Int)(ar:List Int):Option ((Int×Int×(List Int))⊕(Int×(List Int))) :=
 if (decide (ir<oO))=true then
  if 0≤ir∧ir<a9.length then
  a9[ir.toNat]? >>= fun aV =>
  if (decide (ir<(len_ J a1)))=true then
   if 0≤ir∧ir<a1.length then
   a1[ir.toNat]? >>= fun gx =>
   if 0≤ir∧ir<(ar.length:Nat) then
   if (0+ir.toNat)<ar.length then
   some (.inl (U ((U ((U (aV+el))+gx)).tdiv (1000000000:Int)),U (ir+(1:Int)),ar.set (0+ir.toNat) ((U ((U (aV+el))+gx)).tmod (1000000000:Int))))
   else none
   else none
   else none
  else
   if 0≤ir∧ir<(ar.length:Nat) then
   if (0+ir.toNat)<ar.length then
   some (.inl (U ((U (aV+el)).tdiv (1000000000:Int)),U (ir+(1:Int)),ar.set (0+ir.toNat) ((U (aV+el)).tmod (1000000000:Int))))
   else none
   else none
  else none
 else
  some (.inr (el,ar))
def zx (a9 a1:List Int)(oO el ir:Int)(ar:List Int):Option (Int×(List Int)):=iter (fun w:Int×Int×(List Int)=>xc a9 a1 oO w.1 w.2.1 w.2.2) (el,ir,ar)
theorem TA {a9 a1:List Int}{oO el ir:Int}{ar:List Int}:b6 (xc a9 a1 oO el ir ar) (fG bC 55 0 97 [1,1,1,1,0,1,0,0] (Hm a9 a1 oO (el,ir,ar)) (Hm a9 a1 oO) (Cv a9 a1 oO)):=by
 unfold xc
 exact .ite (fun o =>
  .bn fun R =>
  .aC fun aV aB =>
  (let t1:List c5:=[(ag 1),.ao true,.aH (bU 2 (.cK (J aV)) 2),(ag 4),(ag 4)];
  have bg:=((.du o R.1 (eR J R.2) (cP J aB)):c9 _);
  .ite (fun aK =>
  .bn fun bF =>
  .aC fun gx bx =>
  .bn fun dy =>
  .bn fun dQ =>
  .ret (let aW:=U ((U (aV+el))+gx);b5 (t1.append [.ao true,.aH (bU 4 (.cK (J gx)) 2),.aH (bU 7 .dO 1),(ag 2),.br [0] [.da (av 1 J (ar.set (0+ir.toNat) (aW.tmod (1000000000:Int))))] [(0,ii),(1,ii),(5,gX ((ar.set (0+ir.toNat) (aW.tmod (1000000000:Int))).length)),(6,ii),(20,ii),(21,ii),(22,ii)]]) (bg.bb (.bh aK bF.1 (eR J bF.2) (cP J bx) (by decide:(1000000000:Int)≠0) (by decide:(1000000000:Int)≠0) dy.1 dy.2 (.dV (hM J dQ) (hr 1) (dF 1 .live (gy (cW J ar) (0+ir.toNat) (aW.tmod (1000000000:Int)))) (aA 1 .live aE (ar.set (0+ir.toNat) (aW.tmod (1000000000:Int)))) (hQ (fO ar) (0+ir.toNat) (aW.tmod (1000000000:Int))))))))
  (fun aK =>
  .bn fun bF =>
  .bn fun bS =>
  .ret (let bi:=U (aV+el);b5 (t1.append [.ao false,.aH (bU 7 .dO 1),(ag 2),.br [0] [.da (av 1 J (ar.set (0+ir.toNat) (bi.tmod (1000000000:Int))))] [(0,ii),(1,ii),(5,gX ((ar.set (0+ir.toNat) (bi.tmod (1000000000:Int))).length)),(6,ii),(20,ii),(21,ii),(22,ii)]]) (bg.bb (.bh aK (by decide:(1000000000:Int)≠0) (by decide:(1000000000:Int)≠0) bF.1 bF.2 (hM J bS) (hr 1) (dF 1 .live (gy (cW J ar) (0+ir.toNat) (bi.tmod (1000000000:Int)))) (.aD (aA 1 .live aE (ar.set (0+ir.toNat) (bi.tmod (1000000000:Int)))) (hQ (fO ar) (0+ir.toNat) (bi.tmod (1000000000:Int))))))))))
  (fun o =>
  .ret (b5 [(ag 1),.ao false,.br [0] [.pure] (b2 [0,5,6])] (.aD o (aA 1 .live aE ar))))
theorem L7 {a9 a1:List Int}{oO el ir:Int}{ar:List Int}{r} (h:zx a9 a1 oO el ir ar=some r):fH bC 55 0 97 [1,1,1,1,0,1,0,0] (Hm a9 a1 oO) (Cv a9 a1 oO) (el,ir,ar) r:=fI (fun _=>TA) h
def xG (a9 a1:List Int):Option (List Int) :=
 if (decide ((len_ J a9)<(len_ J a1)))=true then
  if 0≤(U ((len_ J a1)+(1:Int)))∧(8:Int)*(U ((len_ J a1)+(1:Int)))≤281474976710656∧(U ((len_ J a1)+(1:Int)))<9223372036854775808 then
  zx a1 a9 (len_ J a1) 0 0 (List.replicate (U ((len_ J a1)+(1:Int))).toNat 0:List Int) >>= fun a6 =>
  if 0≤(len_ J a1)∧(len_ J a1)<(a6.2.length:Nat) then
  if (0+(len_ J a1).toNat)<a6.2.length then
  qw (a6.2.set (0+(len_ J a1).toNat) a6.1) >>= fun bL =>
  some bL
  else none
  else none
  else none
 else
  if 0≤(U ((len_ J a9)+(1:Int)))∧(8:Int)*(U ((len_ J a9)+(1:Int)))≤281474976710656∧(U ((len_ J a9)+(1:Int)))<9223372036854775808 then
  zx a9 a1 (len_ J a9) 0 0 (List.replicate (U ((len_ J a9)+(1:Int))).toNat 0:List Int) >>= fun a6 =>
  if 0≤(len_ J a9)∧(len_ J a9)<(a6.2.length:Nat) then
  if (0+(len_ J a9).toNat)<a6.2.length then
  qw (a6.2.set (0+(len_ J a9).toNat) a6.1) >>= fun bL =>
  some bL
  else none
  else none
  else none
theorem UP {a9 a1:List Int}:b6 (xG a9 a1) (fun r=>Con bC 97 [.isl 1 (a9.map J),.isl 1 (a1.map J)] [] (.isl 1 (r.map J)) []):=by
 unfold xG
 exact .ite (fun o =>
  .bn fun R =>
  .aC fun a6 aB =>
  .bn fun aK =>
  .bn fun bF =>
  .aC fun bL bx =>
  .ret (let bi:=len_ J a1;let aW:=(U (bi+(1:Int)));let cd:=(List.replicate aW.toNat 0:List Int);let cV:=hQ (fO a6.2) (0+bi.toNat) a6.1;bY [(ag 1),(ag 5),.ao true,(ag 4),(ag 5),(ag 1),(ag 3),.br [13] [.da (av 1 J cd)] [(0,ii),(1,ii),(5,gX (cd.length)),(6,ii),(20,ii),(21,ii),(22,ii)],(Cv a1 a9 bi a6).gr,.aH (an 5 (aq .dO [])),.iW 0,.aH (bU 1 (.call {ac:=[.bp (.b4 (.ej ((a6.2.set (0+bi.toNat) a6.1).map J)))],r:= .isl 1 (bL.map J),dt:=false,dA:=[0]}) 1)] (.bh o R.1 (Int.le_refl aW) R.2.1 R.2.2 (dF 1 .live (lE J aW.toNat 0)) (aA 1 .live aE cd) (l3 aW.toNat (0:Int)) (.bh (L7 aB) aK.1 aK.2 (hM J bF) (hr 1) (pg (gy (cW J a6.2) (0+bi.toNat) a6.1) cV) (sx (gy (cW J a6.2) (0+bi.toNat) a6.1) cV) (dP aE (a6.2.set (0+bi.toNat) a6.1)) (.ay (uJ bL bx))))))
  (fun o =>
  .bn fun R =>
  .aC fun a6 aB =>
  .bn fun aK =>
  .bn fun bF =>
  .aC fun bL bx =>
  .ret (let fD:=len_ J a9;let dX:=(U (fD+(1:Int)));let gR:=(List.replicate dX.toNat 0:List Int);let e2:=hQ (fO a6.2) (0+fD.toNat) a6.1;bY [(ag 1),(ag 5),.ao false,(ag 5),(ag 1),(ag 3),.br [9] [.da (av 1 J gR)] [(0,ii),(1,ii),(5,gX (gR.length)),(6,ii),(20,ii),(21,ii),(22,ii)],(Cv a9 a1 fD a6).gr,.aH (an 5 (aq .dO [])),.iW 0,.aH (bU 1 (.call {ac:=[.bp (.b4 (.ej ((a6.2.set (0+fD.toNat) a6.1).map J)))],r:= .isl 1 (bL.map J),dt:=false,dA:=[0]}) 1)] (.bh o R.1 (Int.le_refl dX) R.2.1 R.2.2 (dF 1 .live (lE J dX.toNat 0)) (aA 1 .live aE gR) (l3 dX.toNat (0:Int)) (.bh (L7 aB) aK.1 aK.2 (hM J bF) (hr 1) (pg (gy (cW J a6.2) (0+fD.toNat) a6.1) e2) (sx (gy (cW J a6.2) (0+fD.toNat) a6.1) e2) (dP aE (a6.2.set (0+fD.toNat) a6.1)) (.ay (uJ bL bx))))))
end Go.Proofs.Ytgfpnhmcmgnepab
