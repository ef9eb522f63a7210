/- Lemmas, plain functions of the program, and what they answer. No condition. -/
import Derived.Test.YtopadgleejacdadGreatME
namespace Go.Proofs.YtopadgleejacdadGreat
set_option linter.unusedVariables false
set_option linter.unusedSimpArgs false
open Go Go.VL
theorem NS {m N:Nat}{A:Nat->Nat->Rat}{t:bV}(h:g9 m m N A t)(bC:t.D m A≠0){r k:Nat}(ai:r<m)(aX:k<N)(af:t.T r k≠0):qL (iO m A t) t r k=iO m A (t.cn r k):=by
 have e:=h.zt ai aX;unfold qL iO;rw[e];by_cases bh:0<t.T r k<;>by_cases cp:0<t.D m A
 ·rw[dw bh,dw cp,dw (Rat.mul_pos bh cp)]
 ·have:=Rat.mul_pos bh (show 0 < -(t.D m A) by grind);rw[dw bh,dA cp,dA (by grind)];grind
 ·have:=Rat.mul_pos (show 0 < -(t.T r k) by grind) cp;rw[dA bh,dw cp,dA (by grind)]
 have:=Rat.mul_pos (show 0 < -(t.T r k) by grind) (show 0 < -(t.D m A) by grind);rw[dA bh,dA cp,dw (by grind)];grind
def ix (h:Nat->Nat)(t:bV):bV:=⟨fun i j=>t.T (h i) j,fun i=>t.B (h i)⟩
theorem FH {h:Nat->Nat}{t:bV}{r k i:Nat}(gX:h i=h r->i=r):(∀j,((ix h t).cn r k).T i j=(ix h (t.cn (h r) k)).T i j)/\((ix h t).cn r k).B i=(ix h (t.cn (h r) k)).B i:=by
 simp only[bV.cn,ix];by_cases c:i=r
 ·subst c;simp
 have:h i≠h r:=fun e=>c (gX e);simp[c,this]
theorem UF {α:Type}{m i:Nat}(aa:i<m)(f:Nat->α):(aQ m f).take (i-0)++((aQ m f).drop (0+(i+1))).take (m-(i+1))=aQ (m-1) (skip i f):=by
 apply aol;intro j;rw[Nat.sub_zero,dG];have aT:((aQ m f).take i).length=i:=by rw[List.length_take,cZ];omega
 by_cases c:j<i
 ·rw[aoj (by omega),an9,dw c,fX (by omega),fX (by omega)];simp only[skip];rw[dw c]
 rw[aon (by omega),aT,an9,aoo];by_cases cp:j<m-1
 ·rw[dw (by omega),fX (by omega),fX cp];simp only[skip];rw[dA c];congr 2;omega
 rw[dA (by omega)]
 symm
 rw[List.getElem?_eq_none_iff,cZ];omega
theorem aeL {m N M n:Nat}(gJ:N<1000)(aS:n<=N){h:Nat->Nat}{w:Rat}{t:bV}(f:p8 m N w t){e4:aoy}(gq:mv m N M h w t e4){i:Nat}(aa:i<m)(i9:Bool)(j1:ar)(aw:Int)(q2:ar)(bN:aoB):
 ∃k:Nat,K7 (n:Int) (i:Int) i9 j1 aw (h7 m N h) e4 q2 bN 0=some (k:Int)/\k<=n/\(k<n->t.T i k≠0)/\ ∀j,j<k->t.T i j=0:=by
 unfold K7
 obtain⟨r,e,k,rfl,h1,h2,J⟩:=qv (f:=fun q:Int=>AR (n:Int) (i:Int) i9 j1 aw (h7 m N h) e4 q2 bN q) (fun (c:Nat) (_:Unit)=>(c:Int)) n (fun c _=> ∀j,j<c->t.T i j=0)
  (fun r=> ∃k:Nat,r=(k:Int)/\k<=n/\(k<n->t.T i k≠0)/\ ∀j,j<k->t.T i j=0)
  (fun c aZ _ cQ=>by
    have hw:=f.pos;have bG:=xe ((f.iq i aa c (by omega)).mono (wo (by have:=sZ;generalize eL=q at *;omega)));unfold AR;by_cases KO:t.T i c=0
    ·left
     refine⟨(),eG (cB (by unfold h7;rw[cZ];omega) (aH (x:=some (h i,N+1)) (by rw[dy];exact hl aa) (aH (x:=(h i,N+1)) rfl (aH (gq.row i aa) (c4 (aH (x:=b7 (t.T i c*w)) (by rw[dy];exact hl (by omega)) (aH bG (gb (by rw[CV hw,pj.2 KO];rfl) (by rw[fg (by omega)]))))))))),fun j aq=> ?_⟩;by_cases e:j=c
     ·rw[e];exact KO
     exact cQ j (by omega)
    right;exact⟨_,eG (cB (by unfold h7;rw[cZ];omega) (aH (x:=some (h i,N+1)) (by rw[dy];exact hl aa) (aH (x:=(h i,N+1)) rfl (aH (gq.row i aa) (c4 (aH (x:=b7 (t.T i c*w)) (by rw[dy];exact hl (by omega)) (aH bG (ie (by rw[CV hw];exact va (fun c=>KO (pj.1 c))) rfl)))))))),c,rfl,by omega,fun _=>KO,cQ⟩)
  (fun _ cQ=>⟨_,by unfold AR;exact fj rfl,n,rfl,dE _,fun c=>by omega,cQ⟩) () (fun j aq=>by omega)
 exact⟨k,e,h1,h2,J⟩
structure nC (m n N:Nat) (A:Nat->Nat->Rat) (t:bV) (aI:Nat) (h:Nat->Nat):Prop where
 inv:mf m N A t
 z : ∀i,i<m->n<=t.B i->t.T i N=0
 le:aI<=m
 lt : ∀i,i<aI->h i<m
 inj : ∀i,i<aI-> ∀k,k<aI->h i=h k->i=k
 dead : ∀d,d<m->(∀i,i<aI->h i≠d)->n<=t.B d/\ ∀j,j<n->t.T d j=0
theorem nC.ta {m n N aI:Nat}{A:Nat->Nat->Rat}{t:bV}{h:Nat->Nat}(s:Small m N A)(a:nC m n N A t aI h):p8 aI N (iO m A t) (ix h t) :=
 have f:=a.inv.ta s
 ⟨f.pos,f.hw,fun i aa j aq=>f.iq (h i) (a.lt i aa) j aq,fun i aa=>f.gl (h i) (a.lt i aa)⟩
theorem nC.zM {m n N aI:Nat}{A:Nat->Nat->Rat}{t:bV}{h:Nat->Nat}(s:Small m N A)(a:nC m n N A t aI h){r k:Nat}(ai:r<aI)(aX:k<N)(af:t.T (h r) k≠0):wq aI N (iO m A t) (ix h t) r k :=
 have f:=a.inv.zM s (a.lt r ai) aX af
 ⟨ai,aX,af,fun i aa j aq=>by rw[(FH (t:=t) (k:=k) (a.inj i aa r ai)).1 j];exact f.DQ (h i) (a.lt i aa) j aq⟩
theorem nC.cn {m n N aI:Nat}{A:Nat->Nat->Rat}{t:bV}{h:Nat->Nat}(Pv:n<=N)(a:nC m n N A t aI h){r k:Nat}(ai:r<aI)(aX:k<n)(aW:n<=t.B (h r))(af:t.T (h r) k≠0):nC m n N A (t.cn (h r) k) aI h:=by
 have cA:=a.z (h r) (a.lt r ai) aW
 have eR : ∀i,(t.cn (h r) k).T i N=t.T i N:=fun i=>by
  simp only[bV.cn];split
  ·rename_i e;rw[e,cA];grind
  rw[cA];grind
 refine⟨⟨a.inv.ok.cn (a.lt r ai) (by omega) af,fun i aa=>by rw[eR];exact a.inv.lD i aa,?_⟩,fun i aa gl=> ?_,a.le,a.lt,a.inj,fun d bC hx=> ?_⟩
 ·rw[a.inv.ok.zt (a.lt r ai) (by omega)];have:=a.inv.sC;grind
 ·rw[eR]
  simp only[bV.cn] at gl;by_cases c:i=h r
  ·rw[dw c] at gl;omega
  rw[dA c] at gl;exact a.z i aa gl
 obtain⟨h1,h2⟩:=a.dead d bC hx;have dd:d≠h r:=fun e=>hx r ai e.symm;simp only[bV.cn,dA dd];refine⟨h1,fun j aq=> ?_⟩;rw[h2 j aq,h2 k aX];grind
theorem agi {m n N:Nat}{A:Nat->Nat->Rat}(s:Small m N A)(gJ:N<1000)(Pv:n<=N)(free:aoB){t:bV}(cj:mf m N A t)(cA:∀i,i<m->n<=t.B i->t.T i N=0){e4:aoy}(gq:mv m N m (fun i=>i) (iO m A t) t e4):
 ∃cw aI h kQ,Ee (n:Int) (b7 (iO m A t)).cK (b7 (iO m A t)).cd (N:Int) (h7 m N fun i=>i) e4 (cW m t) free=some ((b7 (iO m A cw)).cK,(b7 (iO m A cw)).cd,h7 aI N h,kQ,cW aI (ix h cw)) /\
  nC m n N A cw aI h/\(∀i,i<aI->cw.B (h i)<n)/\mv aI N m h (iO m A cw) (ix h cw) kQ:=by
 have hm:=s.hm;unfold Ee QL
 obtain⟨x,e,cw,aI,h,kQ,rfl,h1,h2,J⟩:=kd (f:=fun w:Int×Bool×ar×aoz×aoy×ar=>D1 (n:Int) (N:Int) free w.1 w.2.1 w.2.2.1 w.2.2.2.1 w.2.2.2.2.1 w.2.2.2.2.2)
  (fun w=> ∃(i aI:Nat) (h:Nat->Nat) (t:bV) (p:aoy),w=((i:Int),(b7 (iO m A t)).cK,(b7 (iO m A t)).cd,h7 aI N h,p,cW aI (ix h t))/\i<=aI/\nC m n N A t aI h/\(∀q,q<i->t.B (h q)<n)/\mv aI N m h (iO m A t) (ix h t) p)
  (fun w=>w.2.2.2.1.length-w.1.toNat)
  (fun x=> ∃cw aI h kQ,x=((b7 (iO m A cw)).cK,(b7 (iO m A cw)).cd,h7 aI N h,kQ,cW aI (ix h cw))/\nC m n N A cw aI h/\(∀i,i<aI->cw.B (h i)<n)/\mv aI N m h (iO m A cw) (ix h cw) kQ)
  (fun w hw=>by
    obtain⟨i,aI,h,t,p,rfl,aa,bF,a0,af⟩:=hw;have lz:=bF.le;have wJ:(h7 aI N h).length=aI:=cZ ..;have Pw:(cW aI (ix h t)).length=aI:=cZ ..;simp only;unfold D1;by_cases c:i<aI
    ·left
     have g1:0<=(i:Int)/\(i:Int)<((cW aI (ix h t)).length:Nat):=(by rw[Pw];omega);have g2:(cW aI (ix h t))[(0+((i:Int)).toNat)]? = some ((t.B (h i):Nat):Int):=(by rw[dy];exact hl c);by_cases HO:t.B (h i)<n
     ·refine⟨(((i+1:Nat):Int),(b7 (iO m A t)).cK,(b7 (iO m A t)).cd,h7 aI N h,p,cW aI (ix h t)),l5 (by rw[wJ];omega) (cB g1 (aH g2 (eG (by rw[fg (by omega)])))),⟨i+1,aI,h,t,p,rfl,by omega,bF,fun q o7=> ?_,af⟩,by simp only[wJ];omega⟩
      by_cases e:q=i
      ·rw[e];exact HO
      exact a0 q (by omega)
     obtain⟨k,l2,jt,my,PK⟩:=aeL gJ Pv (bF.ta s) af c (b7 (iO m A t)).cK (b7 (iO m A t)).cd (N:Int) (cW aI (ix h t)) free;by_cases PM:k<n
     ·have Px:t.T (h i) k≠0:=my PM
      obtain⟨lR,e1,e2⟩:=Wl (by omega) gJ bF.inj (bF.ta s) (bF.zM s c (by omega) Px) af (N:Int) free;have x4:qL (iO m A t) (ix h t) i k=iO m A (t.cn (h i) k):=NS bF.inv.ok bF.inv.sC (bF.lt i c) (by omega) Px;have alY:cW aI ((ix h t).cn i k)=cW aI (ix h (t.cn (h i) k)):=eM fun q o7=>(by have:=(FH (t:=t) (k:=k) (bF.inj q o7 i c)).2;rw[this]);rw[x4,alY] at e1;rw[x4] at e2;refine⟨(((i+1:Nat):Int),(b7 (iO m A (t.cn (h i) k))).cK,(b7 (iO m A (t.cn (h i) k))).cd,h7 aI N h,lR,cW aI (ix h (t.cn (h i) k))),l5 (by rw[wJ];omega) (cB g1 (aH g2 (fj (aH l2 (eG (aH e1 (by rw[fg (by omega)]))))))),⟨i+1,aI,h,t.cn (h i) k,lR,rfl,by omega,bF.cn Pv c PM (by omega) Px,fun q o7=> ?_,e2.len,fun q o7=> ?_⟩,by simp only[wJ];omega⟩
      ·simp only[bV.cn]
       split
       ·exact PM
       rename_i dd;have:q≠i:=fun e=>dd (by rw[e]);exact a0 q (by omega)
      rw[e2.row q o7];congr 1;exact eM fun j _=>by rw[(FH (t:=t) (k:=k) (bF.inj q o7 i c)).1 j]
     have Pu:k=n:=(by omega);have wH:R ((i:Int)+1)=((i+1:Nat):Int):=fg (by omega);have KB:(((h7 aI N h).drop (0+(i+1))).take (aI-(i+1))).length=aI-(i+1):=(by rw[List.length_take,List.length_drop,wJ];omega);have Hc:(((cW aI (ix h t)).drop (0+(i+1))).take (aI-(i+1))).length=aI-(i+1):=(by rw[List.length_take,List.length_drop,Pw];omega);have bK:(h7 aI N h).take (i-0)++((h7 aI N h).drop (0+(i+1))).take (aI-(i+1))=h7 (aI-1) N (skip i h):=UF c _;have gp:(cW aI (ix h t)).take (i-0)++((cW aI (ix h t)).drop (0+(i+1))).take (aI-(i+1))=cW (aI-1) (ix (skip i h) t):=UF c _;refine⟨((i:Int),(b7 (iO m A t)).cK,(b7 (iO m A t)).cd,h7 (aI-1) N (skip i h),p,cW (aI-1) (ix (skip i h) t)),l5 (by rw[wJ];omega) (cB g1 (aH g2 (fj (aH l2 (fj ?_))))),⟨i,aI-1,skip i h,t,p,rfl,by omega,⟨bF.inv,bF.z,by omega,fun q o7=> ?_,fun q o7 q2 Dn e=> ?_,fun d bC hx=> ?_⟩,fun q o7=> ?_,af.len,fun q o7=> ?_⟩,?_⟩
     ·rw[wH,dy,dy,wJ,Pw,KB,Hc,bK,gp];exact c4 (c4 (c4 (c4 (c4 (c4 (c4 (c4 (c4 (c4 (c4 (c4 rfl)))))))))))
     ·simp only[skip];split<;>exact bF.lt _ (by omega)
     ·simp only[skip] at e;have:=bF.inj _ (by split<;>omega) _ (by split<;>omega) e;split at this<;>split at this<;>omega
     ·by_cases Zl:d=h i
      ·rw[Zl];exact⟨by omega,fun j aq=>PK j (by omega)⟩
      refine bF.dead d bC fun q o7=> ?_;by_cases bh:q<i
      ·have:=hx q (by omega);simp only[skip] at this;rw[dw bh] at this;exact this
      by_cases cp:q=i
      ·rw[cp];exact fun e=>Zl e.symm
      have:=hx (q-1) (by omega);simp only[skip] at this;rw[dA (by omega),show q-1+1=q by omega] at this;exact this
     ·simp only[skip];rw[dw o7];exact a0 q o7
     ·simp only[skip]
      by_cases bh:q<i
      ·rw[dw bh,af.row q (by omega)];congr 1;exact eM fun j _=>by simp only[ix,skip];rw[dw bh]
      rw[dA bh,af.row (q+1) (by omega)];congr 1;exact eM fun j _=>by simp only[ix,skip];rw[dA bh]
     simp only[wJ,show (h7 (aI-1) N (skip i h)).length=aI-1 from cZ ..];omega
    right;have ali:i=aI:=(by omega);subst ali;exact⟨_,lC (by rw[wJ];omega) rfl,t,i,h,p,rfl,bF,a0,af⟩)
  ((0:Int),(b7 (iO m A t)).cK,(b7 (iO m A t)).cd,h7 m N (fun i=>i),e4,cW m t)
  ⟨0,m,fun i=>i,t,e4,rfl,by omega,⟨cj,cA,dE _,fun i aa=>aa,fun i _ k _ e=>e,fun d bC hx=>(hx d bC rfl).elim⟩,fun q a0=>by omega,gq.len,gq.row⟩
 exact⟨cw,aI,h,kQ,aH e rfl,h1,h2,J⟩
theorem Wm:(⟨false,([]:ar)⟩:bz)=b7 0:=by show _=gL (0:Rat).num;rw[show (0:Rat).num=0 from rfl];unfold gL;rw[show L ((0:Int).natAbs:Int)=[] from s6.2 (by simp)];rfl
theorem Nt {α:Type}(l:List α)(x:α):(l++[x])[l.length]? = some x:=by simp
theorem CW {α:Type}(l:List α)(x y:α):(l++[x]).set l.length y=l++[y]:=by simp
theorem Wn {p:kz}{m n:Nat}{a:Nat->Nat->Int}{b:Nat->Int}(h:nv p m n a b){i:Nat}(aa:i<m):BW i p.hF p.gd p.ei p.eE p.hL=some (i*n,n):=by
 have hm:=h.hm;have aS:=h.aS;have h1:i*n<=20*40:=Nat.mul_le_mul (by omega) aS;have h2:(i+1)*n<=20*40:=Nat.mul_le_mul (by omega) aS;have J:(i+1)*n<=m*n:=aob _ aa;have e1:R ((i:Int)*p.gd)=((i*n:Nat):Int):=by rw[h.gV,<- Int.natCast_mul,cT (by omega) (by omega)]
 have e2:R (R ((i:Int)+1)*p.gd)=(((i+1)*n:Nat):Int):=by rw[h.gV,fg (by omega),<- Int.natCast_mul,cT (by omega) (by omega)]
 have ak:(i+1)*n=i*n+n:=Nat.succ_mul i n;unfold BW;rw[e1,e2,dy,dy,h.hr];refine c4 (c4 (cB ⟨by omega,J⟩ ?_));rw[show 0+i*n=i*n by omega,show (i+1)*n-i*n=n by omega]
theorem ael {p:kz}{m n:Nat}{a:Nat->Nat->Int}{b:Nat->Int}(h:nv p m n a b){i:Nat}(aa:i<m)(aW:b i<0)(x0:Int)(fW:Bool)(eY:ar)(q2:aoz)(cx:ar)(d7:aoB)(P:aoy):
 LQ x0 (i:Int) P.length (n+m+1) p.hF (i*n) n ((n:Nat):Int) p.gd p.ei p.eE p.hL fW eY q2 cx d7 0 (P++[aQ (n+m+1) fun _=>b7 0])=some (P++[aQ (n+m+1) fun j=>if j<n then b7 (dh m n a b i j) else b7 0]):=by
 have hm:=h.hm;have aS:=h.aS;have bG:lk (b i) = -1:=by unfold lk;rw[dw aW]
 unfold LQ
 obtain⟨s1,e1,-⟩:=h4 (f:=fun w:Int×aoy=>BB x0 (i:Int) P.length (n+m+1) p.hF (i*n) n ((n:Nat):Int) p.gd p.ei p.eE p.hL fW eY q2 cx d7 w.1 w.2)
  (fun (k:Nat) (_:Unit)=>((k:Int),P++[aQ (n+m+1) fun j=>if j<k then b7 (dh m n a b i j) else b7 0])) n (fun _ _=>True) (fun _=>P++[aQ (n+m+1) fun j=>if j<n then b7 (dh m n a b i j) else b7 0])
  (fun k aX _ _=>by
    refine⟨(),?_,trivial⟩;have bF:=h.xZ i aa k aX;have e:R ((-1:Int)*a i k)=lU m n a b i k:=(by rw[cT (by omega) (by omega)];unfold lU;rw[dw aX,bG]);unfold BB;refine eG (c4 (aH (x:=a i k) (by simp only;rw[dy];exact h.J4 i aa k aX) (aH (x:=b7 (dh m n a b i k)) (by rw[e];exact vH (by have:=wb h aa k;rw[la];omega)) (aH (Nt _ _) (c4 (aH (by simp only;rw[dy];exact hl (by omega)) ?_))))));simp only;rw[fg (by omega),dy,dG,kZ,CW];congr 5;refine eM fun j _=> ?_;by_cases bh:j=k
    ·subst bh;rw[dw rfl,dw (by omega)]
    rw[dA bh];by_cases cp:j<k
    ·rw[dw cp,dw (by omega)]
    rw[dA cp,dA (by omega)])
  (fun _ _=>by unfold BB;exact fj rfl) () trivial
 have e0:(aQ (n+m+1) fun j=>if j<0 then b7 (dh m n a b i j) else b7 0)=aQ (n+m+1) fun _=>b7 0:=eM fun j _=>by rw[dA (by omega)]
 rw[e0] at e1;exact e1
theorem aem {p:kz}{m n:Nat}{a:Nat->Nat->Int}{b:Nat->Int}(h:nv p m n a b){i:Nat}(aa:i<m)(aW:¬b i<0)(x0:Int)(fW:Bool)(eY:ar)(q2:aoz)(cx:ar)(d7:aoB)(P:aoy):
 LR x0 (i:Int) P.length (n+m+1) p.hF (i*n) n ((n:Nat):Int) p.gd p.ei p.eE p.hL fW eY q2 cx d7 0 (P++[aQ (n+m+1) fun _=>b7 0])=some (P++[aQ (n+m+1) fun j=>if j<n then b7 (dh m n a b i j) else b7 0]):=by
 have hm:=h.hm;have aS:=h.aS;have bG:lk (b i)=1:=by unfold lk;rw[dA aW]
 unfold LR
 obtain⟨s1,e1,-⟩:=h4 (f:=fun w:Int×aoy=>BC x0 (i:Int) P.length (n+m+1) p.hF (i*n) n ((n:Nat):Int) p.gd p.ei p.eE p.hL fW eY q2 cx d7 w.1 w.2)
  (fun (k:Nat) (_:Unit)=>((k:Int),P++[aQ (n+m+1) fun j=>if j<k then b7 (dh m n a b i j) else b7 0])) n (fun _ _=>True) (fun _=>P++[aQ (n+m+1) fun j=>if j<n then b7 (dh m n a b i j) else b7 0])
  (fun k aX _ _=>by
    refine⟨(),?_,trivial⟩;have bF:=h.xZ i aa k aX;have e:R ((1:Int)*a i k)=lU m n a b i k:=(by rw[cT (by omega) (by omega)];unfold lU;rw[dw aX,bG]);unfold BC;refine eG (c4 (aH (x:=a i k) (by simp only;rw[dy];exact h.J4 i aa k aX) (aH (x:=b7 (dh m n a b i k)) (by rw[e];exact vH (by have:=wb h aa k;rw[la];omega)) (aH (Nt _ _) (c4 (aH (by simp only;rw[dy];exact hl (by omega)) ?_))))));simp only;rw[fg (by omega),dy,dG,kZ,CW];congr 5;refine eM fun j _=> ?_;by_cases bh:j=k
    ·subst bh;rw[dw rfl,dw (by omega)]
    rw[dA bh];by_cases cp:j<k
    ·rw[dw cp,dw (by omega)]
    rw[dA cp,dA (by omega)])
  (fun _ _=>by unfold BC;exact fj rfl) () trivial
 have e0:(aQ (n+m+1) fun j=>if j<0 then b7 (dh m n a b i j) else b7 0)=aQ (n+m+1) fun _=>b7 0:=eM fun j _=>by rw[dA (by omega)]
 rw[e0] at e1;exact e1
theorem qz {α:Type}(n:Nat)(x:α):List.replicate n x=aQ n fun _=>x:=by
 apply aol;intro i;by_cases c:i<n
 ·rw[fX c];simp[c]
 rw[List.getElem?_eq_none_iff.2 (by simp;omega),List.getElem?_eq_none_iff.2 (by rw[cZ];omega)]
theorem TN {p:kz}{m n:Nat}{a:Nat->Nat->Int}{b:Nat->Int}(h:nv p m n a b)(fW:Bool)(eY:ar)(d7:aoB):
 LS ((n+m:Nat):Int) p.hF p.gd p.ei p.eE p.hL fW eY d7 0 ([]:aoz) ([]:aoy) ([]:ar)=some (h7 m (n+m) (fun i=>i),aQ m (fun i=>aQ (n+m+1) fun j=>b7 (dh m n a b i j)),cW m (jP m n a b)):=by
 have hm:=h.hm;have aS:=h.aS;unfold LS
 obtain⟨s,e,-⟩:=h4 (f:=fun w:Int×aoz×aoy×ar=>BD ((n+m:Nat):Int) p.hF p.gd p.ei p.eE p.hL fW eY d7 w.1 w.2.1 w.2.2.1 w.2.2.2)
  (fun (i:Nat) (_:Unit)=>((i:Int),aQ i (fun k=>(some (k,n+m+1):bT)),aQ i (fun i=>aQ (n+m+1) fun j=>b7 (dh m n a b i j)),aQ i (fun k=>((n+k:Nat):Int)))) m (fun _ _=>True)
  (fun _=>(h7 m (n+m) (fun i=>i),aQ m (fun i=>aQ (n+m+1) fun j=>b7 (dh m n a b i j)),cW m (jP m n a b)))
  (fun i aa _ _=>by
    refine⟨(),?_,trivial⟩;have aW:=h.vm i aa;have jf:R (((n+m:Nat):Int)+1)=((n+m+1:Nat):Int):=fg (by omega);have hw:R (p.gd+(i:Int))=((n+i:Nat):Int):=(by rw[h.gV,<- Int.natCast_add,cT (by omega) (by omega)]);have YX:(aQ i (fun i=>aQ (n+m+1) fun j=>b7 (dh m n a b i j))).length=i:=cZ ..;have q3:lU m n a b i (n+m)=lk (b i)*b i:=by unfold lU;rw[dA (by omega),dw rfl]
    have d4:((aQ (n+m+1) fun j=>if j<n then b7 (dh m n a b i j) else b7 0).set (n+i) (b7 ((1:Int):Rat))).set (n+m) (b7 (dh m n a b i (n+m)))=aQ (n+m+1) fun j=>b7 (dh m n a b i j):=by
     rw[kZ,kZ];refine eM fun j aq=> ?_;by_cases bh:j=n+m
     ·rw[dw bh,bh]
     rw[dA bh];by_cases cp:j=n+i
     ·rw[dw cp,cp,vS aa,dw rfl];rfl
     rw[dA cp];by_cases kc:j<n
     ·rw[dw kc]
     rw[dA kc];obtain⟨k,rfl⟩ : ∃k,j=n+k:=⟨j-n,by omega⟩;rw[vS (by omega),dA (by omega)]
    unfold BD;rw[jf,hw,dy];refine l5 (by simp only;rw[h.rows];omega) (c4 (cB (by simp only;rw[h.PL];omega) (aH (x:=b i) (by simp only[dy,dG];exact h.Oo i aa) ?_)))
    have fin:(some (Sum.inl (R ((i:Int)+1),(aQ i (fun k=>(some (k,n+m+1):bT)))++[some (i,n+m+1)],(aQ i (fun i=>aQ (n+m+1) fun j=>b7 (dh m n a b i j)))++[aQ (n+m+1) fun j=>b7 (dh m n a b i j)],(aQ i fun k=>((n+k:Nat):Int))++[((n+i:Nat):Int)])):Option ((Int×aoz×aoy×ar)⊕(aoz×aoy×ar))) =
     some (Sum.inl (((i+1:Nat):Int),aQ (i+1) (fun k=>(some (k,n+m+1):bT)),aQ (i+1) (fun i=>aQ (n+m+1) fun j=>b7 (dh m n a b i j)),aQ (i+1) (fun k=>((n+k:Nat):Int)))):=by
     rw[fg (by omega),kX i (fun k=>(some (k,n+m+1):bT)),kX i (fun i=>aQ (n+m+1) fun j=>b7 (dh m n a b i j)),kX i (fun k=>((n+k:Nat):Int))]
    have U : ∀(P:aoy) (F:aox->Option ((Int×aoz×aoy×ar)⊕(aoz×aoy×ar))) (x:aox) r,F x=r->(P++[x])[P.length]? >>= F=r:=fun P F x r wS=>aH (Nt P x) wS;refine qo (fun c=> ?_) (fun c=> ?_)
    ·have o3:b i<0:=of_decide_eq_true c;have bG:lk (b i) = -1:=(by unfold lk;rw[dw o3]);refine aH (Wn h aa) (aH (by rw[Wm,qz];exact ael h aa o3 _ _ _ _ _ _ _) (aH (vH (n:=1) (by rw[la];omega)) (U _ _ _ _ ?_)));refine c4 (aH (x:=b7 0) (by rw[dy,hl (by omega),dA (by omega)]) (aH (x:=b7 (dh m n a b i (n+m))) (by have e:R ((-1:Int)*b i)=lU m n a b i (n+m):=(by rw[q3,bG,cT (by omega) (by omega)]);rw[e];exact vH (by have:=wb h aa (n+m);rw[la];omega)) ?_));rw[CW,dy,dG,dy,dG];refine U _ _ _ _ (c4 ?_);obtain⟨v,bf⟩ : ∃v,((aQ (n+m+1) fun j=>if j<n then b7 (dh m n a b i j) else b7 0).set (n+i) (b7 ((1:Int):Rat)))[n+m]? = some v:=(by rw[kZ,fX (by omega)];exact⟨_,rfl⟩);refine aH bf (cB (by simp only[dD,cZ,dI,dN];omega) (cB (by simp only[dD,cZ,dI,dN];omega) ?_));rw[CW];simp only[dy,dG];rw[d4,YX];exact fin
    have o3 : ¬b i<0:=of_decide_eq_false c;have bG:lk (b i)=1:=(by unfold lk;rw[dA o3]);refine aH (Wn h aa) (aH (by rw[Wm,qz];exact aem h aa o3 _ _ _ _ _ _ _) (aH (vH (n:=1) (by rw[la];omega)) (U _ _ _ _ ?_)));refine c4 (aH (x:=b7 0) (by rw[dy,hl (by omega),dA (by omega)]) (aH (x:=b7 (dh m n a b i (n+m))) (by have e:R ((1:Int)*b i)=lU m n a b i (n+m):=(by rw[q3,bG,cT (by omega) (by omega)]);rw[e];exact vH (by have:=wb h aa (n+m);rw[la];omega)) ?_));rw[CW,dy,dG,dy,dG];refine U _ _ _ _ (c4 ?_);obtain⟨v,bf⟩ : ∃v,((aQ (n+m+1) fun j=>if j<n then b7 (dh m n a b i j) else b7 0).set (n+i) (b7 ((1:Int):Rat)))[n+m]? = some v:=(by rw[kZ,fX (by omega)];exact⟨_,rfl⟩);refine aH bf (cB (by simp only[dD,cZ,dI,dN];omega) (cB (by simp only[dD,cZ,dI,dN];omega) ?_));rw[CW];simp only[dy,dG];rw[d4,YX];exact fin)
  (fun _ _=>by unfold BD;exact lC (by simp only;rw[h.rows];omega) rfl) () trivial
 exact e
def sE (n j:Nat):Int:=if n<=j then -1 else 0
theorem W1 {m n j:Nat}(aq:j<n+m):((sE n j:Int):Rat)=gC m n j:=by
 unfold sE gC;by_cases c:n<=j
 ·rw[dw c,dw ⟨c,aq⟩];rfl
 rw[dA c,dA (by omega)];rfl
theorem Wo {m n:Nat}{t:bV}(gl:∀i,i<m->t.B i<n+m){j:Nat}(aq:j<n+m):t.cr m (fun j=>((sE n j:Int):Rat)) j=t.cr m (gC m n) j:=by unfold bV.cr;simp only;rw[W1 aq,gr (g:=fun i=>gC m n (t.B i)*t.T i j) fun i aa=>by rw[W1 (gl i aa)]]
theorem Ua {p:kz}{m n:Nat}{a:Nat->Nat->Int}{b:Nat->Int}(h:nv p m n a b)(x0:Int)(fW:Bool)(eY:ar)(q2:aoz)(bN:aoy)(cx:ar):
 LU x0 ((n+m:Nat):Int) p.hF p.gd p.ei p.eE p.hL fW eY q2 bN cx 0 (aQ (n+m) fun _=>(0:Int)) (aQ (n+m) fun _=>false)=some (aQ (n+m) (sE n),aQ (n+m) fun j=>decide (j<n)):=by
 have hm:=h.hm;have aS:=h.aS;unfold LU
 obtain⟨s,e,-⟩:=h4 (f:=fun w:Int×ar×aoB=>BE x0 ((n+m:Nat):Int) p.hF p.gd p.ei p.eE p.hL fW eY q2 bN cx w.1 w.2.1 w.2.2)
  (fun (k:Nat) (_:Unit)=>((k:Int),(aQ (n+m) fun j=>if j<k then sE n j else 0),aQ (n+m) fun j=>if j<k then decide (j<n) else false)) (n+m) (fun _ _=>True) (fun _=>(aQ (n+m) (sE n),aQ (n+m) fun j=>decide (j<n)))
  (fun k aX _ _=>by
    refine⟨(),?_,trivial⟩
    have e2:(aQ (n+m) fun j=>if j<k then decide (j<n) else false).set (0+((k:Int)).toNat) (decide (k<n))=aQ (n+m) fun j=>if j<k+1 then decide (j<n) else false:=by
     rw[dy,dG,kZ];refine eM fun j _=> ?_;by_cases c:j=k
     ·subst c;rw[dw rfl,dw (by omega)]
     rw[dA c];by_cases cp:j<k
     ·rw[dw cp,dw (by omega)]
     rw[dA cp,dA (by omega)]
    have PN:decide ((k:Int)<p.gd)=decide (k<n):=(by rw[h.gV];simp);unfold BE;simp only;rw[PN,e2,fg (by omega)];refine eG (c4 (c4 ?_));by_cases c:n<=k
    ·refine l5 (by rw[h.gV];omega) (c4 (c4 ?_))
     rw[dy,dG,kZ];congr 4;refine eM fun j _=> ?_;by_cases bh:j=k
     ·subst bh;rw[dw rfl,dw (by omega)];unfold sE;rw[dw c]
     rw[dA bh];by_cases cp:j<k
     ·rw[dw cp,dw (by omega)]
     rw[dA cp,dA (by omega)]
    refine lC (by rw[h.gV];omega) ?_;congr 4;refine eM fun j _=> ?_;by_cases bh:j=k
    ·subst bh;rw[dA (by omega),dw (by omega)];unfold sE;rw[dA c]
    by_cases cp:j<k
    ·rw[dw cp,dw (by omega)]
    rw[dA cp,dA (by omega)])
  (fun _ _=>by
    unfold BE;refine fj ?_;simp only;congr 3
    ·exact eM fun j aq=>by rw[dw aq]
    exact eM fun j aq=>by rw[dw aq]) () trivial
 have pM:(aQ (n+m) fun j=>if j<0 then sE n j else 0)=aQ (n+m) fun _=>(0:Int):=eM fun j _=>by rw[dA (by omega)]
 have KP:(aQ (n+m) fun j=>if j<0 then decide (j<n) else false)=aQ (n+m) fun _=>false:=eM fun j _=>by rw[dA (by omega)]
 rw[pM,KP] at e;exact e
theorem aen {p:kz}{m n:Nat}{a:Nat->Nat->Int}{b:Nat->Int}(h:nv p m n a b){w:Rat}{t:bV}(f:p8 m (n+m) w t){e4:aoy}(gq:mv m (n+m) m (fun i=>i) w t e4)(fW:Bool)(eY:ar)(x0:Int)(q:aoB):
 ∃r,LV ((n+m:Nat):Int) ((m:Nat):Int) p.hF p.gd p.ei p.eE p.hL fW eY x0 (cW m t) (h7 m (n+m) fun i=>i) e4 q 0=some r/\((r = .inr ()/\ ∃i,i<m/\n<=t.B i/\0<t.T i (n+m))\/(r = .inl ()/\ ∀i,i<m->n<=t.B i-> ¬0<t.T i (n+m))):=by
 have hm:=h.hm;have aS:=h.aS;have hw:=f.pos;unfold LV
 exact qv (f:=fun w:Int=>BF ((n+m:Nat):Int) ((m:Nat):Int) p.hF p.gd p.ei p.eE p.hL fW eY x0 (cW m t) (h7 m (n+m) fun i=>i) e4 q w) (fun (i:Nat) (_:Unit)=>(i:Int)) m (fun k _=> ∀i,i<k->n<=t.B i-> ¬0<t.T i (n+m)) _
  (fun i aa _ cQ=>by
    have bG:=xe ((f.iq i aa (n+m) (dE _)).mono (wo (by have:=sZ;generalize eL=q at *;omega)));have g1:0<=(i:Int)/\(i:Int)<((cW m t).length:Nat):=(by unfold cW;rw[cZ];omega);have g2:(cW m t)[(0+((i:Int)).toNat)]? = some ((t.B i:Nat):Int):=(by rw[dy];exact hl aa);have g3:0<=(i:Int)/\(i:Int)<((h7 m (n+m) fun i=>i).length:Nat):=(by unfold h7;rw[cZ];omega);have g4:(h7 m (n+m) fun i=>i)[(0+((i:Int)).toNat)]? = some (some (i,n+m+1)):=(by rw[dy];exact hl aa);unfold BF;by_cases HO:n<=t.B i
    ·by_cases lB:0<t.T i (n+m)
     ·right;exact⟨_,eG (cB g1 (aH g2 (l5 (by rw[h.gV];omega) (cB g3 (aH g4 (aH (x:=(i,n+m+1)) rfl (aH (gq.row i aa) (c4 (aH (x:=b7 (t.T i (n+m)*w)) (by rw[dy];exact hl (by omega)) (aH bG (l5 (by rw[CV hw];exact sT.2 lB) rfl))))))))))),.inl ⟨rfl,i,aa,HO,lB⟩⟩
     left;refine⟨(),eG (cB g1 (aH g2 (l5 (by rw[h.gV];omega) (cB g3 (aH g4 (aH (x:=(i,n+m+1)) rfl (aH (gq.row i aa) (c4 (aH (x:=b7 (t.T i (n+m)*w)) (by rw[dy];exact hl (by omega)) (aH bG (lC (by rw[CV hw];exact fun c=>lB (sT.1 c)) (by rw[fg (by omega)])))))))))))),fun k aX=> ?_⟩;by_cases e:k=i
     ·rw[e];exact fun _=>lB
     exact cQ k (by omega)
    left;refine⟨(),eG (cB g1 (aH g2 (lC (by rw[h.gV];omega) (by rw[fg (by omega)])))),fun k aX=> ?_⟩;by_cases e:k=i
    ·rw[e];exact fun c=>(HO c).elim
    exact cQ k (by omega))
  (fun _ cQ=>⟨_,by unfold BF;exact fj rfl,.inr ⟨rfl,cQ⟩⟩) () (fun k aX=>by omega)
theorem aeo {p:kz}{m n:Nat}{a:Nat->Nat->Int}{b:Nat->Int}(h:nv p m n a b)(F:Nat->Bool)(fW:Bool)(eY:ar)(x0:Int)(q2:aoz)(bN:aoy)(cx:ar):
 LW ((n+m:Nat):Int) p.hF p.gd p.ei p.eE p.hL fW eY x0 q2 bN cx 0 (aQ (n+m) F)=some (aQ (n+m) fun j=>decide (j<n)):=by
 have hm:=h.hm;have aS:=h.aS;unfold LW
 obtain⟨s,e,-⟩:=h4 (f:=fun w:Int×aoB=>BG ((n+m:Nat):Int) p.hF p.gd p.ei p.eE p.hL fW eY x0 q2 bN cx w.1 w.2)
  (fun (k:Nat) (_:Unit)=>((k:Int),aQ (n+m) fun j=>if j<k then decide (j<n) else F j)) (n+m) (fun _ _=>True) (fun _=>aQ (n+m) fun j=>decide (j<n))
  (fun k aX _ _=>by
    refine⟨(),?_,trivial⟩;have PN:decide ((k:Int)<p.gd)=decide (k<n):=(by rw[h.gV];simp);unfold BG;simp only;rw[PN,fg (by omega)];refine eG (c4 (c4 ?_));rw[dy,dG,kZ];congr 3;refine eM fun j _=> ?_;by_cases c:j=k
    ·subst c;rw[dw rfl,dw (by omega)]
    rw[dA c];by_cases cp:j<k
    ·rw[dw cp,dw (by omega)]
    rw[dA cp,dA (by omega)])
  (fun _ _=>by unfold BG;refine fj ?_;simp only;congr 2;exact eM fun j aq=>by rw[dw aq]) () trivial
 have pM:(aQ (n+m) fun j=>if j<0 then decide (j<n) else F j)=aQ (n+m) F:=eM fun j _=>by rw[dA (by omega)]
 rw[pM] at e;exact e
theorem YY {m n:Nat}{a:Nat->Nat->Int}{b:Nat->Int}:iO m (dh m n a b) (jP m n a b)=1:=by unfold iO;rw[WR,dw (by grind)]
theorem ahn {p:kz}{m n:Nat}{a:Nat->Nat->Int}{b:Nat->Int}(h:nv p m n a b):
 ∃r,E8 p.hF p.gd p.ei p.eE p.hL=some r/\((rv m n a b/\ ∃t aI g e4,r = .inl ((b7 (iO m (dh m n a b) t)).cK,(b7 (iO m (dh m n a b) t)).cd,((n+m:Nat):Int),h7 aI (n+m) g,cW aI (ix g t),aQ (n+m) (fun j=>decide (j<n)),e4) /\
  nC m n (n+m) (dh m n a b) t aI g/\(∀i,i<aI->t.B (g i)<n)/\mv aI (n+m) m g (iO m (dh m n a b) t) (ix g t) e4)\/(¬rv m n a b/\r = .inr ())):=by
 have hm:=h.hm;have aS:=h.aS;have gO:=Fz h;have gJ:R (p.gd+p.hF)=((n+m:Nat):Int):=by rw[h.gV,h.rows,<- Int.natCast_add,cT (by omega) (by omega)]
 have alj:mv m (n+m) m (fun i=>i) (iO m (dh m n a b) (jP m n a b)) (jP m n a b) (aQ m (fun i=>aQ (n+m+1) fun j=>b7 (dh m n a b i j))):=⟨cZ ..,fun i aa=>by rw[fX aa,YY];congr 1;exact eM fun j _=>by show b7 (dh m n a b i j)=b7 (dh m n a b i j*1);congr 1;grind⟩
 obtain⟨q,bQ,t,e4,mx,e,⟨cQ,rfl⟩,gq,eB⟩:=T9 (e6:=m) (m:=m) (N:=n+m) (M:=m) (A:=dh m n a b) hm (by omega) (h:=fun i=>i) (fun i _ k _ e=>e) (sE n) (fun j _=>by unfold sE;split<;>omega) (fun j=>decide (j<n))
  (fun w t=>mf m (n+m) (dh m n a b) t/\w=iO m (dh m n a b) t) (fun w t cQ=>⟨cQ.1.ok,cQ.1.lD,cQ.2▸cQ.1.ta gO⟩)
  (fun w t r s cQ b=>by obtain⟨h1,rfl⟩:=cQ;have af:t.T r s≠0:=(by have:=b.pos;grind);exact⟨h1.zM gO b.ai b.bG af,h1.ik b,NS h1.ok h1.sC b.ai b.bG af⟩)
  (w:=iO m (dh m n a b) (jP m n a b)) (t:=jP m n a b) ⟨⟨Wb,U3,VA⟩,rfl⟩ alj
 rw[YY] at e
 have Oq : ∀j,j<n->t.cr m (gC m n) j<=0:=by
  rcases eB with ⟨-,eB,-⟩|⟨-,s,bG,-,dm,hx⟩
  ·intro j aq;have:=eB j (by omega) (by simpa using aq);rw[Wo cQ.ok.jG (by omega)] at this;grind
  rw[Wo cQ.ok.jG bG] at dm;obtain⟨i,aa,af⟩:=TF cQ.ok bG dm;exact(hx i aa af).elim
 have e1:pT 1=some (b7 1):=by have:=vH (n:=1) (by rw[la];omega);rw[show ((1:Int):Rat)=1 from rfl] at this;exact this
 obtain⟨r,r1,r2⟩:=aen h (cQ.ta gO) gq (b7 (iO m (dh m n a b) t)).cK (b7 (iO m (dh m n a b) t)).cd ((n+m:Nat):Int) (aQ (n+m) mx);unfold E8;rw[gJ];rcases r2 with ⟨rfl,i,aa,gl,iq⟩|⟨rfl,hx⟩
 ·have GR : ¬rv m n a b:=fun bG=>by
   have:=Mr cQ.lD (Uw cQ.ok cQ.lD Oq bG) cQ.ok.jG i aa gl;grind
  refine⟨_,aH e1 (c4 (aH (TN h _ _ _) (c4 (aH (x:=(aQ (n+m) (sE n),aQ (n+m) fun j=>decide (j<n))) (by rw[dy,qz,qz];exact Ua h _ _ _ _ _ _) (aH e ?_))))),.inr ⟨GR,rfl⟩⟩;refine aH (x:= .inr ()) ?_ rfl;simp only;rw[show ((cW m t).length:Nat)=m from cZ ..];exact r1
 have cA : ∀i,i<m->n<=t.B i->t.T i (n+m)=0:=fun i aa gl=>by have h1:=hx i aa gl;have h2:=cQ.lD i aa;grind
 have bG:rv m n a b:=TZ cQ.ok cQ.lD cA;obtain⟨cw,aI,g,kQ,k4,ln,xY,kW⟩:=agi (n:=n) gO (by omega) (by omega) (aQ (n+m) fun j=>decide (j<n)) cQ cA gq;refine⟨_,aH e1 (c4 (aH (TN h _ _ _) (c4 (aH (x:=(aQ (n+m) (sE n),aQ (n+m) fun j=>decide (j<n))) (by rw[dy,qz,qz];exact Ua h _ _ _ _ _ _) (aH e ?_))))),.inl ⟨bG,cw,aI,g,kQ,rfl,ln,xY,kW⟩⟩;refine aH (x:= .inl ()) ?_ ?_
 ·simp only;rw[show ((cW m t).length:Nat)=m from cZ ..];exact r1
 simp only;rw[show ((aQ (n+m) mx).length:Nat)=n+m from cZ ..];refine aH (aeo h mx _ _ _ _ _ _) ?_;rw[h.gV];exact aH k4 rfl
structure qY (m:Nat) (u v:bV):Prop where
 T : ∀i,i<m-> ∀j,u.T i j=v.T i j
 B : ∀i,i<m->u.B i=v.B i
theorem qY.ta {m N:Nat}{w:Rat}{u v:bV}(s:qY m u v)(h:p8 m N w v):p8 m N w u :=
 ⟨h.pos,h.hw,fun i aa j aq=>by rw[s.T i aa];exact h.iq i aa j aq,fun i aa=>by rw[s.B i aa];exact h.gl i aa⟩
theorem qY.cn {m:Nat}{u v:bV}(s:qY m u v){r:Nat}(ai:r<m)(k:Nat):qY m (u.cn r k) (v.cn r k) where
 T:=fun i aa j=>by simp only[bV.cn,s.T i aa,s.T r ai]
 B:=fun i aa=>by simp only[bV.cn,s.B i aa]
theorem qY.zM {m N:Nat}{w:Rat}{u v:bV}(s:qY m u v){r k:Nat}(h:wq m N w v r k):wq m N w u r k :=
 ⟨h.ai,h.aX,by rw[s.T r h.ai];exact h.af,fun i aa j aq=>by rw[(s.cn h.ai k).T i aa,s.T r h.ai];exact h.DQ i aa j aq⟩
theorem qY.trans {m:Nat}{u v t:bV}(a:qY m u v)(b:qY m v t):qY m u t:=⟨fun i aa j=>(a.T i aa j).trans (b.T i aa j),fun i aa=>(a.B i aa).trans (b.B i aa)⟩
theorem ahW {aI:Nat}{g:Nat->Nat}(inj:∀i,i<aI-> ∀k,k<aI->g i=g k->i=k)(t:bV){r:Nat}(ai:r<aI)(k:Nat):qY aI ((ix g t).cn r k) (ix g (t.cn (g r) k)) :=
 ⟨fun i aa j=>(FH (t:=t) (k:=k) (inj i aa r ai)).1 j,fun i aa=>(FH (t:=t) (k:=k) (inj i aa r ai)).2⟩
theorem W2 {m n:Nat}{a:Nat->Nat->Int}{b:Nat->Int}{x:Nat->Rat}{c:Nat}:ct n (fun j=>dh m n a b c j*x j)=((lk (b c):Int):Rat)*ct n (fun j=>(a c j:Rat)*x j):=by rw[<- jU];exact gr fun j aq=>by rw[NI aq];grind
theorem nC.W3 {m n:Nat}{a:Nat->Nat->Int}{b:Nat->Int}{t:bV}{aI:Nat}{g:Nat->Nat}(h:nC m n (n+m) (dh m n a b) t aI g)(gl:∀i,i<aI->t.B (g i)<n):LT m n a b aI (n+m) (ix g t) where
 eqv:=fun x=>by
  have key:(∀i,i<m->ct n (fun j=>(a i j:Rat)*x j)=(b i:Rat))↔ ∀i,i<m->ct n (fun j=>dh m n a b i j*x j)=dh m n a b i (n+m):=by
   constructor
   ·intro U i aa;rw[W2,JB,U i aa]
   intro U i aa;have:=U i aa;rw[W2,JB] at this;have h0:=WQ (b i);have e:((lk (b i):Int):Rat)*(ct n (fun j=>(a i j:Rat)*x j)-(b i:Rat))=0:=(by grind);rcases Rat.mul_eq_zero.1 e with e|e
   ·exact(h0 e).elim
   grind
  rw[key];constructor
  ·intro U i aa;obtain⟨W,hW⟩:=h.inv.ok.row;show ct n (fun j=>t.T (g i) j*x j)=t.T (g i) (n+m);rw[hW (g i) (h.lt i aa) (n+m) (dE _),gr (g:=fun j=>ct m (fun c=>W (g i) c*(dh m n a b c j*x j))) (fun j aq=>by rw[hW (g i) (h.lt i aa) j (by omega),<- vF];exact gr fun c _=>by grind),ra];exact gr fun c aZ=>by rw[jU,U c aZ]
  intro U c aZ
  have row : ∀i,i<m->ct n (fun j=>t.T i j*x j)=t.T i (n+m):=fun i aa=>by
   by_cases bO : ∃q,q<aI/\g q=i
   ·obtain⟨q,a0,rfl⟩:=bO;exact U q a0
   obtain⟨d1,d2⟩:=h.dead i aa fun q a0 e=>bO ⟨q,a0,e⟩;rw[h.z i aa d1];exact nP fun j aq=>by rw[d2 j aq];grind
  rw[h.inv.ok.tl c aZ (n+m) (dE _),gr (g:=fun j=>ct m (fun i=>dh m n a b c (t.B i)*(t.T i j*x j))) (fun j aq=>by rw[h.inv.ok.tl c aZ j (by omega),<- vF];exact gr fun i _=>by grind),ra];exact gr fun i aa=>by rw[jU,row i aa]
 unit:=fun i aa k aX=>by
  show t.T (g i) (t.B (g k))=_;rw[h.inv.ok.unit _ (h.lt i aa) _ (h.lt k aX)];by_cases c:i=k
  ·rw[dw c,dw (by rw[c])]
  rw[dA c,dA fun e=>c (h.inj i aa k aX e)]
 jG:=gl
 lD:=fun i aa=>h.inv.lD _ (h.lt i aa)
 PH:=by omega
theorem nC.step {m n:Nat}{a:Nat->Nat->Int}{b:Nat->Int}{t:bV}{aI:Nat}{g:Nat->Nat}{K:Nat}{obj:Nat->Nat->Rat}{bO:Nat->Prop}(h:nC m n (n+m) (dh m n a b) t aI g)(gl:∀i,i<aI->t.B (g i)<n){u:bV}(bG:qY aI u (ix g t)){r s:Nat}(c8:o0 aI (n+m) K obj bO u r s)(zY:s<n):
 nC m n (n+m) (dh m n a b) (t.cn (g r) s) aI g/\(∀i,i<aI->(t.cn (g r) s).B (g i)<n)/\qY aI (u.cn r s) (ix g (t.cn (g r) s)):=by
 have ai:=c8.ai;have af:0<t.T (g r) s:=by have:=c8.pos;rw[bG.T r ai] at this;exact this
 have Hp:t.T (g r) s≠0:=by grind
 have XP:=(bG.cn ai s).trans (ahW h.inj t ai s);have Au : ∀d,d<m->(∀i,i<aI->g i≠d)-> ∀j,(t.cn (g r) s).T d j=t.T d j/\(t.cn (g r) s).B d=t.B d:=fun d bC hx j=>by obtain⟨d1,d2⟩:=h.dead d bC hx;simp only[bV.cn];rw[dA fun e=>hx r ai e.symm,dA fun e=>hx r ai e.symm,d2 s zY];exact⟨by grind,rfl⟩
 have o6 : ∀i,i<aI->(t.cn (g r) s).B (g i)<n:=fun i aa=>by
  simp only[bV.cn];split
  ·exact zY
  exact gl i aa
 have alk:(u.cn r s).mH aI (n+m):=c8.GK fun i aa=>by rw[bG.T i aa];exact h.inv.lD _ (h.lt i aa)
 refine⟨⟨⟨h.inv.ok.cn (h.lt r ai) (by omega) Hp,fun i aa=> ?_,?_⟩,fun i aa aS=> ?_,h.le,h.lt,h.inj,fun d bC hx=> ?_⟩,o6,XP⟩
 ·by_cases bO : ∃q,q<aI/\g q=i
  ·obtain⟨q,a0,rfl⟩:=bO;have:=alk q a0;rw[XP.T q a0] at this;exact this
  rw[(Au i aa (fun q a0 e=>bO ⟨q,a0,e⟩) _).1];exact h.inv.lD i aa
 ·rw[h.inv.ok.zt (h.lt r ai) (by omega)];have:=h.inv.sC;grind
 ·by_cases bO : ∃q,q<aI/\g q=i
  ·obtain⟨q,a0,rfl⟩:=bO;have:=o6 q a0;omega
  have hx : ∀q,q<aI->g q≠i:=fun q a0 e=>bO ⟨q,a0,e⟩;obtain⟨e1,e2⟩:=Au i aa hx (n+m);rw[e1];rw[e2] at aS;exact h.z i aa aS
 obtain⟨d1,d2⟩:=h.dead d bC hx;refine⟨by rw[(Au d bC hx 0).2];exact d1,fun j aq=>by rw[(Au d bC hx j).1];exact d2 j aq⟩
structure qZ (m n:Nat) (a:Nat->Nat->Int) (b:Nat->Int) (aI:Nat) (g:Nat->Nat) (hf:Nat->Nat->Rat) (di:Nat->Bool) (w:Rat) (u:bV):Prop where
 bO : ∃t,nC m n (n+m) (dh m n a b) t aI g/\(∀i,i<aI->t.B (g i)<n)/\qY aI u (ix g t)/\w=iO m (dh m n a b) t
 lt:LT m n a b aI (n+m) u
 ok:g9 aI aI (n+m) hf u
 PO : ∀i,i<aI->di (u.B i)=true
theorem qZ.ta {m n:Nat}{a:Nat->Nat->Int}{b:Nat->Int}{aI:Nat}{g:Nat->Nat}{hf:Nat->Nat->Rat}{di:Nat->Bool}{w:Rat}{u:bV}(gO:Small m (n+m) (dh m n a b))(h:qZ m n a b aI g hf di w u):p8 aI (n+m) w u:=by obtain⟨t,h1,h2,J,rfl⟩:=h.bO;exact J.ta (h1.ta gO)
theorem qZ.ik {m n:Nat}{a:Nat->Nat->Int}{b:Nat->Int}{aI:Nat}{g:Nat->Nat}{hf:Nat->Nat->Rat}{di mx:Nat->Bool}{w:Rat}{u:bV}{obj:Nat->Nat->Rat}{K:Nat}(gO:Small m (n+m) (dh m n a b))(h:qZ m n a b aI g hf mx w u)(mj:∀j,j<n+m->di j=true->j<n)(alm:∀j,di j=true->mx j=true){r s:Nat}(c8:o0 aI (n+m) K obj (fun j=>di j=true) u r s):
 wq aI (n+m) w u r s/\qZ m n a b aI g hf mx (qL w u r s) (u.cn r s):=by
 obtain⟨t,h1,h2,J,ak⟩:=h.bO;have zY:=mj s c8.bG c8.Hb;obtain⟨g1,g2,g3⟩:=h1.step h2 J c8 zY;have af:=c8.pos;have YZ:t.T (g r) s≠0:=by rw[J.T r c8.ai] at af;show t.T (g r) s≠0;have:0<t.T (g r) s:=af;grind
 refine⟨ak▸J.zM (h1.zM gO c8.ai (by omega) YZ),⟨t.cn (g r) s,g1,g2,g3,?_⟩,h.lt.cn c8.ai zY (by grind) (c8.GK h.lt.lD),c8.ok h.ok,fun i aa=> ?_⟩
 ·rw[<- NS h1.inv.ok h1.inv.sC (h1.lt r c8.ai) (show s<n+m by omega) YZ,ak];unfold qL;rw[J.T r c8.ai];rfl
 simp only[bV.cn];split
 ·exact alm s c8.Hb
 exact h.PO i aa
theorem VN {m n:Nat}{a:Nat->Nat->Int}{b:Nat->Int}{aI:Nat}{g:Nat->Nat}(hm:m<=20)(aS:n<=40)(gO:Small m (n+m) (dh m n a b)){hf:Nat->Nat->Rat}{di:Nat->Bool}{w:Rat}{u:bV}(h:qZ m n a b aI g hf di w u)(mj:∀j,j<n+m->di j=true->j<n)(inj:∀i,i<aI-> ∀k,k<aI->g i=g k->i=k)(lz:aI<=m)
 (o:Nat->Int) (an : ∀j,-100<=o j/\o j<=100) {c:Nat->Rat} {l:Nat} {V:Nat->Rat} (aln : ∀j,((o j:Int):Rat)=hZ c l j) (s:qO m n a b c l di V) {e4:aoy} (gq:mv aI (n+m) m g w u e4) :
 ∃ok bQ mT kQ mx,vo (b7 w).cK (b7 w).cd ((n+m:Nat):Int) (h7 aI (n+m) g) e4 (cW aI u) (aQ (n+m) di) (aQ (n+m) o)=some (ok,(b7 bQ).cK,(b7 bQ).cd,kQ,cW aI mT,aQ (n+m) mx)/\mv aI (n+m) m g bQ mT kQ /\
  ((ok=true/\qZ m n a b aI g hf mx bQ mT/\(∀j,j<n+m->mx j=true->j<n)/\ ∃HI,qO m n a b c (l+1) mx HI)\/(ok=false/\LT m n a b aI (n+m) mT/\ ∃q,q<n/\0<mT.cr aI (hZ c l) q/\ ∀i,i<aI-> ¬0<mT.T i q)):=by
 have alo:(fun j=>((o j:Int):Rat))=hZ c l:=funext aln
 obtain⟨ok,bQ,mT,kQ,mx,e,cQ,HA,eB⟩:=T9 (e6:=aI) (m:=aI) (N:=n+m) (M:=m) (A:=hf) (h:=g) (by omega) (by omega) inj o (fun j _=>an j) di
  (fun w u=>qZ m n a b aI g hf di w u) (fun w u er=>⟨er.ok,er.lt.lD,er.ta gO⟩)
  (fun w u r q er c8=>er.ik gO mj (fun j aq=>aq) c8) h gq
 rw[alo] at eB;refine⟨ok,bQ,mT,kQ,mx,e,HA,?_⟩;rcases eB with ⟨h1,h2,J⟩|⟨h1,q,h2,cq,J,ak⟩
 ·left;have Ot : ∀j,mx j=true->di j=true:=fun j aq=>(by rw[J,dQ] at aq;exact aq.1);refine⟨h1,⟨cQ.bO,cQ.lt,cQ.ok,fun i aa=> ?_⟩,fun j aq u4=>mj j aq (Ot j u4),qO.next cQ.lt s (fun j aq cq=>h2 j (by omega) cq) (fun j aq=>by rw[J])⟩;rw[J];simp only;rw[cQ.PO i aa,cQ.lt.yM _ aa,decide_eq_false (by grind)];rfl
 right;exact⟨h1,cQ.lt,q,mj q h2 cq,J,ak⟩
def gT (x:Rat):aov:=some (lQ (eZ x))
theorem aiD {n d:Int}{x:Rat}(bC:0<d)(e:(d:Rat)*x=n):(n / (Int.gcd n d:Int),d / (Int.gcd n d:Int))=eZ x:=by
 have se:(d:Rat)≠0:=fun c=>by have:d=0:=Rat.intCast_inj.1 (by rw[c];rfl);omega
 have U:x=Rat.divInt n d:=by rw[Rat.divInt_eq_div,<- e];grind
 have e1:(Rat.divInt n d).num=n / (Int.gcd n d:Int):=by rw[Rat.num_divInt,Int.sign_eq_one_of_pos bC,Int.one_mul,Int.gcd_comm]
 have e2:((Rat.divInt n d).den:Int)=d / (Int.gcd n d:Int):=by rw[Rat.den_divInt,dA (by omega),Int.gcd_comm];rw[Int.natCast_ediv,Int.natAbs_of_nonneg (by omega)]
 rw[U];unfold eZ;rw[e1,e2]
theorem Nc {n d:Int}{x:Rat}(bC:0<d)(e:(d:Rat)*x=n)(aS:(n.natAbs:Int)<B 50)(zV:d<B 50):sL (gL n) (L d)=some (gT x):=by have k4:=(hX (k:=50) (by omega)).2 aS;have ln:=(hX (k:=50) (by omega)).2 zV;rw[MQ bC (by omega) (by omega),aiD bC e];rfl
theorem Nu {n:Int}(h:nq n):uG n=some (gT (n:Rat)):=by rw[M9 h];unfold gT eZ;rw[Rat.num_intCast,Rat.den_intCast];rfl
theorem Nd {a b:Int}(bF:0<=a)(aW:0<=b)(h1:a<B 24)(h2:b<B 24):a*b<B 48:=by
 have e:B 48=B 24*B 24:=by decide +kernel
 rw[e];exact Int.lt_of_le_of_lt (dL (Int.le_of_lt h2) bF) (Int.mul_lt_mul_of_pos_right h1 (by omega))
theorem ahX {x y:Rat}(U:eO x)(aV:eO y):yx (gT x) (gT y)=some (gT (x*y)):=by
 have p:=U.di;have q:=aV.di;have h1:=p.o4;have h2:=p.oy;have J:=q.o4;have ak:=q.oy;have au:=p.pos;have aP:=q.pos;have gl:=NQ;have XL:=ps 48;have jz:=Nd (by omega) (by omega) p.num q.num;have iz:=Nd (by omega) (by omega) p.den q.den;have sx:(((eZ x).1*(eZ y).1).natAbs:Int)<B 48:=by rw[Int.natAbs_mul];exact jz
 have bG:yx (some (lQ (eZ x))) (some (lQ (eZ y)))=((qs (gL (eZ x).1) (gL (eZ y).1)).bind fun aR=>(sM (L (eZ x).2) (L (eZ y).2)).bind fun bE=>(sL aR bE).bind fun bs=>some bs):=rfl;unfold gT;rw[bG,MR (by omega) (by omega),dx,FE (hO _) (hO _) (by omega) (by omega),eg (by omega),eg (by omega),dx,Nc (x:=x*y) (Int.mul_pos au aP) ?_ (by omega) (by omega)]
 ·rfl
 have:=uP x;have:=uP y;simp only[eZ,aos];grind
theorem W4 {x y:Rat}(U:eO x)(aV:eO y):B9 (gT x) (gT y)=some (gT (x+y)):=by
 have p:=U.di;have q:=aV.di;have h1:=p.o4;have h2:=p.oy;have J:=q.o4;have ak:=q.oy;have au:=p.pos;have aP:=q.pos;have gl:=NQ;have XL:=ps 48;obtain⟨bh,-,-⟩:=I8 p q;obtain⟨d1,-,-⟩:=I8 q p;have iz:=Nd (by omega) (by omega) p.den q.den;have bG:B9 (some (lQ (eZ x))) (some (lQ (eZ y)))=((sG (some (lQ (eZ x))) (L (eZ y).2)).bind fun a7=>(sG (some (lQ (eZ y))) (L (eZ x).2)).bind fun bE=>(wZ a7 bE).bind fun bs=>(sM (L (eZ x).2) (L (eZ y).2)).bind fun b3=>(sL bs b3).bind fun cX=>some cX):=rfl;unfold gT;rw[bG,IV (by omega) (by omega) (by omega),dx,IV (by omega) (by omega) (by omega),dx,VG (by omega) (by omega),dx,FE (hO _) (hO _) (by omega) (by omega),eg (by omega),eg (by omega),dx,Nc (x:=x+y) (Int.mul_pos au aP) ?_ (by omega) (by omega)]
 ·rfl
 have:=uP x;have:=uP y;simp only[eZ,aos,Rat.intCast_add];grind
theorem ajk {x:Rat}(h:eO x):xa (gT x)=some (gT x):=by have:=h.di;unfold gT;rw[show lQ (eZ x)=lQ ((eZ x).1,(eZ x).2) from rfl,WV (Int.le_of_lt this.pos),dw ⟨this.num,this.den⟩];rfl
def oz (n:Nat)(c:Nat->Int)(l j:Nat):Int:=match l with
 | 0=>if j<n then c j else 0
 | l+1=>if j=l then -1 else 0
def iB (n:Nat)(c:Nat->Int)(j:Nat):Rat:=((oz n c 0 j:Int):Rat)
theorem VO (n:Nat)(c:Nat->Int)(l j:Nat):((oz n c l j:Int):Rat)=hZ (iB n c) l j:=by
 cases l with
 | zero=>rfl
 | succ l=>simp only[oz,hZ];split<;>rfl
theorem Wp {n:Nat}{c:Nat->Int}(h:∀j,j<n-> -100<=c j/\c j<=100)(l j:Nat): -100<=oz n c l j/\oz n c l j<=100:=by
 cases l with
 | zero =>
  simp only[oz];split
  ·exact h j ‹_›
  omega
 | succ l=>simp only[oz];split<;>omega
def Ou (m n:Nat)(a:Nat->Nat->Int)(b c:Nat->Int)(aI:Nat)(g:Nat->Nat)(hf:Nat->Nat->Rat)(l:Nat)(s:Bool×ar×ar×aoy×ar×aoB):Prop :=
 ∃w u e4 di V o,s=((b7 w).cK,(b7 w).cd,aQ (n+m) o,e4,cW aI u,aQ (n+m) di)/\qZ m n a b aI g hf di w u/\(∀j,j<n+m->di j=true->j<n)/\mv aI (n+m) m g w u e4/\qO m n a b (iB n c) l di V
theorem aft {m n:Nat}{a:Nat->Nat->Int}{b c:Nat->Int}{aI:Nat}{g:Nat->Nat}{hf:Nat->Nat->Rat}(hm:m<=20)(aS:n<=40)(gO:Small m (n+m) (dh m n a b))(aZ:∀j,j<n-> -100<=c j/\c j<=100)(x0:Int)(fW eY k8:ar)(k:Nat)(aX:k<n)(s:Bool×ar×ar×aoy×ar×aoB)(bG:Ou m n a b c aI g hf (k+1) s):
 ∃b2,yk (n:Int) x0 fW eY k8 ((n+m:Nat):Int) (h7 aI (n+m) g) (k:Int) s.1 s.2.1 s.2.2.1 s.2.2.2.1 s.2.2.2.2.1 s.2.2.2.2.2=some (.inl (((k+1:Nat):Int),b2))/\Ou m n a b c aI g hf (k+2) b2:=by
 obtain⟨w,u,e4,di,V,o,rfl,er,mj,gq,x3⟩:=bG;obtain⟨t,bO,-⟩:=er.bO;obtain⟨ok,bQ,mT,kQ,mx,e,HA,eB⟩:=VN hm aS gO er mj bO.inj bO.le (oz n c (k+1)) (Wp aZ (k+1)) (VO n c (k+1)) x3 gq;rcases eB with ⟨rfl,Dz,Ot,HI,alp⟩|⟨-,rJ,q,a0,dm,hx⟩
 ·refine⟨((b7 bQ).cK,(b7 bQ).cd,aQ (n+m) (oz n c (k+1)),kQ,cW aI mT,aQ (n+m) mx),?_,bQ,mT,kQ,mx,HI,_,rfl,Dz,Ot,HA,alp⟩;have At:(List.replicate (aQ (n+m) o).length 0:ar).set (0+((k:Int)).toNat) (-1)=aQ (n+m) (oz n c (k+1)):=(by rw[cZ,qz,dy,dG,kZ];exact eM fun j _=>rfl);unfold yk;simp only;rw[At];refine eG (c4 (cB (by rw[List.length_replicate,cZ,dy];omega) (aH e ?_)));rw[fg (by omega)]
 obtain⟨i,aa,af⟩:=rJ.U4 dm;exact(hx i aa af).elim
theorem aho {m n:Nat}{a:Nat->Nat->Int}{b c:Nat->Int}{aI:Nat}{g:Nat->Nat}{hf:Nat->Nat->Rat}(hm:m<=20)(aS:n<=40)(gO:Small m (n+m) (dh m n a b))(aZ:∀j,j<n-> -100<=c j/\c j<=100)(x0:Int)(fW eY k8:ar){w:Rat}{u:bV}{e4:aoy}{di:Nat->Bool}{V:Nat->Rat}{o:Nat->Int}(er:qZ m n a b aI g hf di w u)(mj:∀j,j<n+m->di j=true->j<n)(gq:mv aI (n+m) m g w u e4)(x3:qO m n a b (iB n c) 1 di V):
 ∃jf ku kh vh,LX (n:Int) x0 fW eY k8 ((n+m:Nat):Int) (h7 aI (n+m) g) 0 (b7 w).cK (b7 w).cd (aQ (n+m) o) e4 (cW aI u) (aQ (n+m) di)=some ((b7 jf).cK,(b7 jf).cd,kh,cW aI ku,aQ (n+m) vh)/\qZ m n a b aI g hf vh jf ku/\mv aI (n+m) m g jf ku kh/\ ∃V,qO m n a b (iB n c) (n+1) vh V:=by
 unfold LX
 obtain⟨r,e,ai⟩:=qv (f:=fun w:Int×Bool×ar×ar×aoy×ar×aoB=>yk (n:Int) x0 fW eY k8 ((n+m:Nat):Int) (h7 aI (n+m) g) w.1 w.2.1 w.2.2.1 w.2.2.2.1 w.2.2.2.2.1 w.2.2.2.2.2.1 w.2.2.2.2.2.2)
  (fun (k:Nat) (s:Bool×ar×ar×aoy×ar×aoB)=>((k:Int),s)) n (fun k s=>Ou m n a b c aI g hf (k+1) s)
  (fun r=> ∃jf ku kh vh,r=((b7 jf).cK,(b7 jf).cd,kh,cW aI ku,aQ (n+m) vh)/\qZ m n a b aI g hf vh jf ku/\mv aI (n+m) m g jf ku kh/\ ∃V,qO m n a b (iB n c) (n+1) vh V)
  (fun k aX s bG=> .inl (aft hm aS gO aZ x0 fW eY k8 k aX s bG))
  (fun s bG=>by obtain⟨w,u,e4,di,V,o,rfl,er,mj,gq,x3⟩:=bG;exact⟨_,by unfold yk;exact fj rfl,w,u,e4,di,rfl,er,gq,V,x3⟩)
  ((b7 w).cK,(b7 w).cd,aQ (n+m) o,e4,cW aI u,aQ (n+m) di) ⟨w,u,e4,di,V,o,rfl,er,mj,gq,x3⟩
 obtain⟨jf,ku,kh,vh,rfl,h1,h2,J⟩:=ai;exact⟨jf,ku,kh,vh,e,h1,h2,J⟩
theorem aiE:B 24<=B 50:=by decide +kernel
theorem aiF:2<=eL:=by decide +kernel
theorem Ov:40*(eL*100)<=21*100*(eL*eL):=by have:=Nat.mul_le_mul_left eL aiF;omega
theorem ahp {n:Nat}(x0 x1:Int)(fW eY k8:ar)(pM:Bool)(KP:ar)(Zm:Int)(q1:aoz)(q2:aoy)(bN:ar)(cx:aoB)(aS:n<=40):
 LY (n:Int) x0 x1 fW eY k8 pM KP Zm q1 q2 bN cx 0 (List.replicate n (none:aov))=some (aQ n fun _=>gT 0):=by
 unfold LY
 obtain⟨s,e,-⟩:=h4 (f:=fun w:Int×aoE=>BI (n:Int) x0 x1 fW eY k8 pM KP Zm q1 q2 bN cx w.1 w.2)
  (fun (k:Nat) (_:Unit)=>((k:Int),aQ n fun j=>if j<k then gT 0 else none)) n (fun _ _=>True) (fun _=>aQ n fun _=>gT 0)
  (fun k aX _ _=>by
    refine⟨(),?_,trivial⟩;unfold BI;refine eG (aH (x:=gT 0) (Nu (n:=0) (by rw[la];omega)) (c4 (cB (by simp only;rw[cZ,dy];omega) ?_)));simp only;rw[fg (by omega),dy,dG,kZ];congr 3;refine eM fun j _=> ?_;by_cases bh:j=k
    ·subst bh;rw[dw rfl,dw (by omega)]
    rw[dA bh];by_cases cp:j<k
    ·rw[dw cp,dw (by omega)]
    rw[dA cp,dA (by omega)])
  (fun _ _=>by unfold BI;refine fj ?_;simp only;congr 2;exact eM fun j aq=>by rw[dw aq]) () trivial
 have e0:(aQ n fun j=>if j<0 then gT 0 else none)=List.replicate n none:=by rw[qz];exact eM fun j _=>by rw[dA (by omega)]
 rw[<- e0];exact e
theorem Nf {t:bV}{N i j:Nat}:t.hj (i+1) N j=t.hj i N j+if t.B i=j then t.T i N else 0:=rfl
theorem NT {m n:Nat}{a:Nat->Nat->Int}{b:Nat->Int}{aI N:Nat}{u:bV}(h:LT m n a b aI N u){i k:Nat}(aa:i<aI)(aX:k<aI)(e:u.B i=u.B k):i=k:=by
 by_cases c:i=k
 ·exact c
 have h1:=h.unit i aa k aX;rw[<- e,h.unit i aa i aa,dw rfl,dA c] at h1;grind
theorem agj {m n aI N:Nat}{a:Nat->Nat->Int}{b:Nat->Int}{g:Nat->Nat}{w:Rat}{u:bV}(x0 x1:Int)(fW eY k8:ar)(pM:Bool)(cx:aoB)(hm:aI<=20)(gJ:N<=1000)(aT:LT m n a b aI N u)(f:p8 aI N w u){M:Nat}{e4:aoy}(gq:mv aI N M g w u e4)(aS:n<=40):
 LZ (aI:Int) x0 x1 fW eY k8 pM (b7 w).cd (N:Int) (cW aI u) (h7 aI N g) e4 cx 0 (aQ n fun _=>gT 0)=some (aQ n fun j=>gT (u.hj aI N j)):=by
 have hw:=NR f.hw;have alq:0<w.num:=by have:(0:Rat)<((w.num:Int):Rat):=(by rw[hw.1];exact f.pos);exact Rat.intCast_lt_intCast.1 (by rw[show ((0:Int):Rat)=0 from rfl];exact this)
 have aj2:(b7 w).cd=L w.num:=by show L (w.num.natAbs:Int)=_;rw[Int.natAbs_of_nonneg (by omega)]
 have jt:=p4 xw;have l2:=p4 Dm;have anS:=aiE;rw[aj2];unfold LZ
 obtain⟨s,e,-⟩:=h4 (f:=fun v:Int×aoE=>BJ (aI:Int) x0 x1 fW eY k8 pM (L w.num) (N:Int) (cW aI u) (h7 aI N g) e4 cx v.1 v.2)
  (fun (k:Nat) (_:Unit)=>((k:Int),aQ n fun j=>gT (u.hj k N j))) aI (fun _ _=>True) (fun _=>aQ n fun j=>gT (u.hj aI N j))
  (fun k aX _ _=>by
    refine⟨(),?_,trivial⟩;have gl:=aT.jG k aX;have iq:=NR (f.iq k aX N (dE _));have cA:u.hj k N (u.B k)=0:=bV.Mh fun i aa e=>(by have:=NT aT (by omega) aX e;omega);have zI:sL (b7 (u.T k N*w)) (L w.num)=some (gT (u.T k N)):=(by refine Nc alq ?_ (by omega) (by omega);rw[hw.1,iq.1];grind);unfold BJ;simp only;refine eG (cB (by unfold cW;rw[cZ];omega) (aH (x:=((u.B k:Nat):Int)) (by rw[dy];exact hl aX) (cB (by unfold h7;rw[cZ];omega) (aH (x:=some (g k,N+1)) (by rw[dy];exact hl aX) (aH (x:=(g k,N+1)) rfl (aH (gq.row k aX) (c4 (aH (x:=b7 (u.T k N*w)) (by rw[dy];exact hl (by omega)) (aH zI (c4 (c4 ?_)))))))))));rw[fg (by omega),dy,dG,kZ];congr 3;refine eM fun j _=> ?_;rw[Nf];by_cases bh:j=u.B k
    ·subst bh;rw[dw rfl,dw rfl,cA];congr 1;grind
    rw[dA bh,dA (fun e=>bh e.symm)];congr 1;grind)
  (fun _ _=>by unfold BJ;exact fj rfl) () trivial
 exact e
theorem Wq {m n:Nat}{a:Nat->Nat->Int}{b:Nat->Int}{aI N:Nat}{w:Rat}{u:bV}{K:Nat}(aT:LT m n a b aI N u)(f:∀i,i<aI->du K (u.T i N*w))(j:Nat):du K (u.hj aI N j*w):=by
 by_cases c : ∃i,i<aI/\u.B i=j
 ·obtain⟨i,aa,rfl⟩:=c;have:u.hj aI N (u.B i)=u.T i N:=(by unfold bV.hj;rw[lq aa (f:=fun k=>if u.B k=u.B i then u.T k N else 0) (fun k aX dd=>dA fun e=>dd (NT aT aX aa e)),dw rfl]);rw[this];exact f i aa
 rw[bV.Mh fun i aa e=>c ⟨i,aa,e⟩];exact⟨0,by rw[Rat.zero_mul];rfl,by simp⟩
theorem aiG {m n:Nat}{a:Nat->Nat->Int}{b:Nat->Int}{aI N:Nat}{w:Rat}{u:bV}(aT:LT m n a b aI N u)(f:p8 aI N w u)(j:Nat):du eL (u.hj aI N j*w):=Wq aT (fun i aa=>f.iq i aa N (dE _)) j
theorem qZ.XQ {m n:Nat}{a:Nat->Nat->Int}{b:Nat->Int}{aI:Nat}{g:Nat->Nat}{w:Rat}{u:bV}{hf:Nat->Nat->Rat}{di:Nat->Bool}(gO:Small m (n+m) (dh m n a b))(h:qZ m n a b aI g hf di w u):du (m9 100 m) w/\ ∀i,i<aI->du (m9 100 m) (u.T i (n+m)*w):=by
 obtain⟨t,bO,-,bG,rfl⟩:=h.bO;have tt:du (m9 100 m) (1*t.D m (dh m n a b)):=by rw[Rat.one_mul];exact xf fun i aa c aZ=>gO.pN c aZ _ (Nat.le_of_lt (bO.inv.ok.jG i aa))
 refine⟨by have:=JO tt;rw[Rat.one_mul] at this;exact this,fun i aa=> ?_⟩;rw[bG.T i aa];refine JO ?_;show du (m9 100 m) (t.T (g i) (n+m)*_);rw[<- bO.inv.ok.xX (bO.lt i aa) (dE _)];refine xf fun k aX c aZ=> ?_;simp only[hv];split
 ·exact gO.pN c aZ _ (dE _)
 exact gO.pN c aZ _ (Nat.le_of_lt (bO.inv.ok.jG k aX))
theorem Wr {n:Nat}{w:Rat}{x:Nat->Rat}{c:Nat->Int}(hw:du (21*100*eL) w)(af:0<w)(U:∀j,du eL (x j*w))(aZ:∀j,j<n-> -100<=c j/\c j<=100){k:Nat}(aX:k<=n)(aS:n<=40):eO (ct k fun j=>x j*(c j:Rat)):=by have h1:du (k*(eL*100)) (ct k fun j=>x j*w*(c j:Rat)):=du.sum fun j aq=>(U j).mul ⟨c j,rfl,by have:=aZ j (by omega);omega⟩;have h2:k*(eL*100)<=40*(eL*100):=aob _ (by omega);refine rq (K:=21*100*(eL*eL)) (hw.mono xw) (h1.mono (Nat.le_trans h2 Ov)) (by grind) ?_ (p4 (dE _));rw[<- jU];exact gr fun j _=>by grind
theorem Xq {w x:Rat}(hw:du (21*100*eL) w)(af:0<w)(U:du eL (x*w)):eO x :=
 rq (K:=21*100*(eL*eL)) (hw.mono xw) (U.mono Dm) (by grind) (by grind) (p4 (dE _))
theorem aiH {w x:Rat}{c:Int}(hw:du (21*100*eL) w)(af:0<w)(U:du eL (x*w))(aZ:-100<=c/\c<=100):eO (x*(c:Rat)):=by have:=U.mul (show du 100 (c:Rat) from ⟨c,rfl,by omega⟩);exact rq (K:=21*100*(eL*eL)) (hw.mono xw) (this.mono (by have:=Ov;omega)) (by grind) (by grind) (p4 (dE _))
theorem ahY {n:Nat}{w:Rat}(x0 x1:Int)(fW eY k8:ar){x:Nat->Rat}{c:Nat->Int}(aV:k8=aQ n c)(hw:du (21*100*eL) w)(af:0<w)(U:∀j,du eL (x j*w))(aZ:∀j,j<n-> -100<=c j/\c j<=100)(aS:n<=40):
 L0 (n:Int) x0 x1 fW eY k8 (aQ n fun j=>gT (x j)) (gT 0) 0=some (gT (ct n fun j=>x j*(c j:Rat))):=by
 subst aV;unfold L0
 obtain⟨s,e,-⟩:=h4 (f:=fun v:aov×Int=>BK (n:Int) x0 x1 fW eY (aQ n c) (aQ n fun j=>gT (x j)) v.1 v.2)
  (fun (k:Nat) (_:Unit)=>(gT (ct k fun j=>x j*(c j:Rat)),(k:Int))) n (fun _ _=>True) (fun _=>gT (ct n fun j=>x j*(c j:Rat)))
  (fun k aX _ _=>by refine⟨(),?_,trivial⟩;have alr:=aZ k aX;have aa:nq (c k):=(by rw[la];omega);unfold BK;simp only;refine eG (c4 (aH (x:=gT (x k)) (by rw[dy];exact hl aX) (c4 (aH (x:=c k) (by rw[dy];exact hl aX) (aH (Nu aa) (aH (ahX (Xq hw af (U k)) (Wj aa)) (aH (W4 (Wr hw af U aZ (Nat.le_of_lt aX) aS) (aiH hw af (U k) alr)) ?_)))))));rw[fg (by omega)];rfl)
  (fun _ _=>by unfold BK;exact fj rfl) () trivial
 exact e
theorem aiI {m n:Nat}{a:Nat->Nat->Int}{b:Nat->Int}{aI N:Nat}{u:bV}(h:LT m n a b aI N u)(aS:n<=N):g9 aI aI N u.T u where
 tl:=fun c aZ j _=>by rw[lq aZ (f:=fun i=>u.T c (u.B i)*u.T i j) (fun i aa dd=>by rw[h.unit c aZ i aa,dA (fun e=>dd e.symm)];grind),h.unit c aZ c aZ,dw rfl];grind
 row:=⟨fun i c=>if i=c then 1 else 0,fun i aa j _=>by rw[lq aa (f:=fun c=>(if i=c then (1:Rat) else 0)*u.T c j) (fun c _ dd=>by rw[dA (Ne.symm dd)];grind),dw rfl];grind⟩
 unit:=h.unit
 jG:=fun i aa=>Nat.lt_of_lt_of_le (h.jG i aa) aS
theorem ahq {p:kz}{m n:Nat}{a:Nat->Nat->Int}{b:Nat->Int}(h:nv p m n a b){c:Nat->Int}(ph:p.hL=aQ n c)(aZ:∀j,j<n-> -100<=c j/\c j<=100):
 ∃r,E9 p.hF p.gd p.ei p.eE p.hL=some r/\((¬rv m n a b/\r=(2,[],none))\/(rv m n a b/\ ¬Bounded m n a b (iB n c)/\r=(3,[],none)) \/
  (∃x w,uQ m n a b (iB n c) x/\(0<w/\du (m9 100 m) w/\ ∀j,du (m9 100 m) (x j*w))/\(∀j,eO (x j))/\eO (val n (iB n c) x)/\r=(0,aQ n (fun j=>gT (x j)),gT (val n (iB n c) x)))):=by
 have hm:=h.hm;have aS:=h.aS;have gO:=Fz h;obtain⟨r,e,ai⟩:=ahn h;unfold E9;rcases ai with ⟨bG,t,aI,g,e4,rfl,bO,gl,gq⟩|⟨bG,rfl⟩;rotate_left
 ·exact⟨_,aH e rfl,.inl ⟨bG,rfl⟩⟩
 have aT:=bO.W3 gl
 have er:qZ m n a b aI g (ix g t).T (fun j=>decide (j<n)) (iO m (dh m n a b) t) (ix g t) :=
  ⟨⟨t,bO,gl,⟨fun _ _ _=>rfl,fun _ _=>rfl⟩,rfl⟩,aT,aiI aT (by omega),fun i aa=>decide_eq_true (gl i aa)⟩
 obtain⟨ok,jf,ku,kh,vh,e1,als,eB⟩:=VN hm aS gO er (fun j _ aq=>of_decide_eq_true aq) bO.inj bO.le (oz n c 0) (Wp aZ 0) (VO n c 0) (qO.zero (c:=iB n c) (fun j aq=>decide_eq_true aq) (fun _=>0)) gq
 have At:p.hL++(List.replicate (n+m) 0:ar).drop p.hL.length=aQ (n+m) (oz n c 0):=by
  rw[ph,cZ];apply aol;intro i;by_cases ci:i<n
  ·rw[aoj (by rw[cZ];exact ci),fX ci,fX (by omega)];simp only[oz];rw[dw ci]
  rw[aon (by rw[cZ];omega),cZ,aoo,show n+(i-n)=i by omega];by_cases Py:i<n+m
  ·rw[List.getElem?_replicate,dw Py,fX Py];simp only[oz];rw[dA ci]
  rw[List.getElem?_replicate,dA Py,List.getElem?_eq_none_iff.2 (by rw[cZ];omega)]
 have Y0:p.hL.length=n:=by rw[ph,cZ]
 rcases eB with ⟨rfl,rD,aj3,an5,Hz⟩|⟨rfl,rJ,q,a0,dm,hx⟩;rotate_left
 ·refine⟨_,aH e ?_,.inr (.inl ⟨bG,rJ.Ks _ a0 dm hx,rfl⟩)⟩;simp only;exact c4 (cB (by rw[Y0,dy];omega) (aH (by rw[dy,At];exact e1) (ie rfl rfl)))
 obtain⟨rL,nf,bZ,anT,e2,u7,alt,an6,alu⟩:=aho (o:=oz n c 0) hm aS gO aZ p.hF p.ei p.eE p.hL rD aj3 als Hz;have f2:=u7.ta gO;have Oq:=alu.m7 u7.lt u7.PO;have U:=aiG u7.lt f2;have bf:ct n (fun j=>nf.hj aI (n+m) j*(c j:Rat))=val n (iB n c) (nf.hj aI (n+m)):=gr fun j aq=>by have:iB n c j=(c j:Rat):=(by unfold iB oz;simp only;rw[dw aq]);rw[this];exact Rat.mul_comm _ _
 refine⟨_,aH e ?_,.inr (.inr ⟨nf.hj aI (n+m),rL,Oq,⟨f2.pos,(u7.XQ gO).1,fun j=>Wq u7.lt (u7.XQ gO).2 j⟩,fun j=>Xq f2.hw f2.pos (U j),?_,rfl⟩)⟩
 ·simp only
  refine c4 (cB (by rw[Y0,dy];omega) (aH (by rw[dy,At];exact e1) (gb rfl ?_)));rw[h.gV,dy,dy,At];refine aH e2 (c4 (aH (ahp _ _ _ _ _ _ _ _ _ _ _ _ aS) (aH (x:=aQ n fun j=>gT (nf.hj aI (n+m) j)) ?_ (aH (x:=gT 0) (Nu (n:=0) (by rw[la];omega)) (aH (x:=gT (val n (iB n c) (nf.hj aI (n+m)))) ?_ rfl)))))
  ·simp only;rw[show ((cW aI nf).length:Nat)=aI from cZ ..];exact agj _ _ _ _ _ _ _ (by have:=bO.le;omega) (by omega) u7.lt f2 alt aS
  rw[cZ,<- bf];exact ahY _ _ _ _ _ ph f2.hw f2.pos U aZ aS
 rw[<- bf];exact Wr f2.hw f2.pos U aZ (dE _) aS
def nw (n N j:Nat):Nat:=if j=n then N else j
theorem zo {n N j:Nat}(h:j<n):nw n N j=j:=by unfold nw;rw[dA (by omega)]
theorem De {n N:Nat}:nw n N n=N:=by unfold nw;rw[dw rfl]
theorem C5 {n N j:Nat}(aS:n<=N)(h:j<=n):nw n N j<=N:=by unfold nw;split<;>omega
def pC (n N:Nat)(g:Nat->Nat)(t:bV):bV:=⟨fun i j=>t.T (g i) (nw n N j),fun i=>t.B (g i)⟩
structure p9 (m n:Nat) (a:Nat->Nat->Int) (b:Nat->Int) (aI:Nat) (g:Nat->Nat) (hf:Nat->Nat->Rat) (u:bV):Prop where
 ok:g9 aI aI n hf u
 bO : ∃t,nC m n (n+m) (dh m n a b) t aI g/\(∀i,i<aI->t.B (g i)<n)/\ ∀i,i<aI->(∀j,j<=n->u.T i j=t.T (g i) (nw n (n+m) j))/\u.B i=t.B (g i)
theorem Ws {m n:Nat}{a:Nat->Nat->Int}{b:Nat->Int}{aI:Nat}{g:Nat->Nat}{u t:bV}(h1:nC m n (n+m) (dh m n a b) t aI g)(h2:∀i,i<aI->t.B (g i)<n)(J:∀i,i<aI->(∀j,j<=n->u.T i j=t.T (g i) (nw n (n+m) j))/\u.B i=t.B (g i)):LT m n a b aI n u:=by
 have L:=h1.W3 h2;refine⟨fun x=> ?_,fun i aa k aX=> ?_,fun i aa=>by rw[(J i aa).2];exact h2 i aa,fun i aa=> ?_,dE _⟩
 ·rw[L.eqv x]
  constructor<;>intro U i aa
  ·have:=U i aa;rw[(J i aa).1 n (dE _),De,gr (g:=fun j=>(ix g t).T i j*x j) fun j aq=>by rw[(J i aa).1 j (by omega),zo aq];rfl];exact this
  have:=U i aa;rw[(J i aa).1 n (dE _),De,gr (g:=fun j=>(ix g t).T i j*x j) fun j aq=>by rw[(J i aa).1 j (by omega),zo aq];rfl] at this;exact this
 ·have aW:t.B (g k)<n:=h2 k aX;rw[(J k aX).2,(J i aa).1 _ (by omega),zo aW];exact L.unit i aa k aX
 show 0<=u.T i n;rw[(J i aa).1 n (dE _),De];exact L.lD i aa
theorem p9.lt {m n:Nat}{a:Nat->Nat->Int}{b:Nat->Int}{aI:Nat}{g:Nat->Nat}{hf:Nat->Nat->Rat}{u:bV}(h:p9 m n a b aI g hf u):LT m n a b aI n u:=by obtain⟨t,h1,h2,J⟩:=h.bO;exact Ws h1 h2 J
theorem ahr {m aI:Nat}{g:Nat->Nat}(lt:∀i,i<aI->g i<m)(inj:∀i,i<aI-> ∀k,k<aI->g i=g k->i=k){F:Nat->Rat}(cA:∀d,d<m->(∀i,i<aI->g i≠d)->F d=0):ct m F=ct aI (fun i=>F (g i)):=by
 have e : ∀i,i<m->F i=ct aI (fun q=>if g q=i then F (g q) else 0):=fun i aa=>by
  by_cases bO : ∃q,q<aI/\g q=i
  ·obtain⟨q,a0,rfl⟩:=bO;rw[lq a0 (f:=fun p=>if g p=g q then F (g p) else 0) fun p af dd=>dA fun e=>dd (inj p af q a0 e),dw rfl]
  rw[cA i aa fun q a0 e=>bO ⟨q,a0,e⟩];exact(nP fun q a0=>dA fun e=>bO ⟨q,a0,e⟩).symm
 rw[gr e,ra];exact gr fun q a0=>by rw[lq (lt q a0) (f:=fun i=>if g q=i then F (g q) else 0) fun i _ dd=>dA fun e=>dd e.symm,dw rfl]
theorem Vg {m n:Nat}{a:Nat->Nat->Int}{b:Nat->Int}{aI:Nat}{g:Nat->Nat}{t u:bV}(h1:nC m n (n+m) (dh m n a b) t aI g)(J:∀i,i<aI->(∀j,j<=n->u.T i j=t.T (g i) (nw n (n+m) j))/\u.B i=t.B (g i)){o:Nat->Rat}(an:∀j,n<=j->o j=0){j:Nat}(aq:j<=n):u.cr aI o j=t.cr m o (nw n (n+m) j):=by
 unfold bV.cr
 have e0:o (nw n (n+m) j)=o j:=by
  unfold nw;by_cases c:j=n
  ·rw[dw c,an _ (by omega),an _ (by omega)]
  rw[dA c]
 rw[e0,ahr h1.lt h1.inj (F:=fun i=>o (t.B i)*t.T i (nw n (n+m) j)) fun d bC hx=>by rw[an _ (h1.dead d bC hx).1];grind];congr 1;exact gr fun i aa=>by rw[(J i aa).1 j aq,(J i aa).2]
theorem agk {m n:Nat}{a:Nat->Nat->Int}{b:Nat->Int}{aI:Nat}{g:Nat->Nat}{hf:Nat->Nat->Rat}{u:bV}{K:Nat}{obj:Nat->Nat->Rat}{bO:Nat->Prop}(h:p9 m n a b aI g hf u){r s:Nat}(c8:o0 aI n K obj bO u r s):p9 m n a b aI g hf (u.cn r s):=by
 obtain⟨t,h1,h2,J⟩:=h.bO;have bG:=c8.bG;have ir : ∀i,i<aI-> ∀j,j<n->u.T i j=(ix g t).T i j:=fun i aa j aq=>by rw[(J i aa).1 j (by omega),zo aq];rfl
 have KQ : ∀i,i<aI->u.T i n=(ix g t).T i (n+m):=fun i aa=>by rw[(J i aa).1 n (dE _),De];rfl
 have tv : ∀i,i<aI->u.B i=(ix g t).B i:=fun i aa=>(J i aa).2;have Zn : ∀j,j<n->(u.q5 aI K obj j↔(ix g t).q5 aI K obj j):=fun j aq=>by have e : ∀l,u.cr aI (obj l) j=(ix g t).cr aI (obj l) j:=fun l=>(by unfold bV.cr;congr 1;exact gr fun i aa=>by rw[ir i aa j aq,tv i aa]);exact⟨fun x=>iS.congr x fun l _=>e l,fun x=>iS.congr x fun l _=>(e l).symm⟩
 have alv:o0 aI (n+m) K obj (fun j=>j<n/\bO j) (ix g t) r s:=by
  refine⟨by omega,⟨bG,c8.Hb⟩,(Zn s bG).1 c8.gs,fun j aq bF dm=>c8.least j aq bF.2 ((Zn j bF.1).2 dm),c8.ai,?_,fun i aa af=> ?_,fun i aa af e=> ?_⟩
  ·rw[<- ir r c8.ai s bG];exact c8.pos
  ·rw[<- KQ r c8.ai,<- KQ i aa,<- ir i aa s bG,<- ir r c8.ai s bG];exact c8.ratio i aa (by rw[ir i aa s bG];exact af)
  rw[<- KQ r c8.ai,<- KQ i aa,<- ir i aa s bG,<- ir r c8.ai s bG] at e;rw[<- tv r c8.ai,<- tv i aa];exact c8.tie i aa (by rw[ir i aa s bG];exact af) e
 obtain⟨g1,g2,g3⟩:=h1.step h2 ⟨fun _ _ _=>rfl,fun _ _=>rfl⟩ alv bG;refine⟨c8.ok h.ok,t.cn (g r) s,g1,g2,fun i aa=>⟨fun j aq=> ?_,?_⟩⟩
 ·rw[show (t.cn (g r) s).T (g i) (nw n (n+m) j)=(ix g (t.cn (g r) s)).T i (nw n (n+m) j) from rfl,<- g3.T i aa];have xW : ∀q,q<aI->u.T q j=(ix g t).T q (nw n (n+m) j):=fun q a0=>(J q a0).1 j aq;simp only[bV.cn];rw[xW i aa,xW r c8.ai,ir r c8.ai s bG,ir i aa s bG]
 rw[show (t.cn (g r) s).B (g i)=(ix g (t.cn (g r) s)).B i from rfl,<- g3.B i aa];simp only[bV.cn];rw[tv i aa]
theorem p9.fits {m n:Nat}{a:Nat->Nat->Int}{b:Nat->Int}{aI:Nat}{g:Nat->Nat}{hf:Nat->Nat->Rat}{u:bV}(gO:Small m (n+m) (dh m n a b))(h:p9 m n a b aI g hf u):
 (∀i,i<aI-> ∀j,j<=n->eO (u.T i j))/\(∀i,i<aI-> ∀j,j<=n->0<u.T i j->eO (u.T i n / u.T i j)):=by
 obtain⟨t,h1,h2,J⟩:=h.bO;refine⟨fun i aa j aq=> ?_,fun i aa j aq af=> ?_⟩
 ·rw[(J i aa).1 j aq];exact h1.inv.J5 gO (h1.lt i aa) (C5 (by omega) aq)
 rw[(J i aa).1 j aq] at af ⊢;rw[(J i aa).1 n (dE _),De];exact h1.inv.XN gO (h1.lt i aa) (C5 (by omega) aq) af
theorem p9.zL {m n:Nat}{a:Nat->Nat->Int}{b:Nat->Int}{aI:Nat}{g:Nat->Nat}{hf:Nat->Nat->Rat}{u:bV}(gO:Small m (n+m) (dh m n a b))(h:p9 m n a b aI g hf u){o:Nat->Rat}(an:∀j,n<=j->o j=0)(hw:∀j,du 100 (o j)){j:Nat}(aq:j<=n):eO (u.cr aI o j):=by obtain⟨t,h1,h2,J⟩:=h.bO;rw[Vg h1 J an aq];exact h1.inv.zL gO (fun j _=>hw j) (C5 (by omega) aq)
theorem p9.GN {m n:Nat}{a:Nat->Nat->Int}{b:Nat->Int}{aI:Nat}{g:Nat->Nat}{hf:Nat->Nat->Rat}{u:bV}(gO:Small m (n+m) (dh m n a b))(h:p9 m n a b aI g hf u){o:Nat->Rat}(an:∀j,n<=j->o j=0)(hw:∀j,du 100 (o j)){r k:Nat}(ai:r<aI)(aX:k<n)(af:u.T r k≠0):J3 aI n u (u.cr aI o) r k:=by
 obtain⟨t,h1,h2,J⟩:=h.bO;have vk : ∀i,i<aI->u.T i k=t.T (g i) k:=fun i aa=>by rw[(J i aa).1 k (by omega),zo aX]
 have mK:t.T (g r) k≠0:=by rw[<- vk r ai];exact af
 have P:=h1.inv.GN gO (o:=o) (fun j _=>hw j) (h1.lt r ai) (show k<n+m by omega) mK (h1.inv.ok.cn (h1.lt r ai) (by omega) mK);have PP : ∀j,j<=n->u.cr aI o j=t.cr m o (nw n (n+m) j):=fun j aq=>Vg h1 J an aq;have Zo:u.cr aI o k=t.cr m o k:=by rw[PP k (by omega),zo aX]
 have pl : ∀j,j<=n->nw n (n+m) j<=n+m:=fun j aq=>C5 (by omega) aq;refine⟨fun i aa j aq=> ?_,fun i aa j aq=> ?_,fun i aa dd j aq=> ?_,fun j aq=> ?_,fun j aq=> ?_,fun j aq=> ?_⟩
 ·rw[(J i aa).1 j aq];exact P.T _ (h1.lt i aa) _ (pl j aq)
 ·have e:(u.cn r k).T i j=(t.cn (g r) k).T (g i) (nw n (n+m) j):=by
   simp only[bV.cn];by_cases c:i=r
   ·subst c;rw[dw rfl,dw rfl,(J i aa).1 j aq,vk i aa]
   ·rw[dA c,dA fun e=>c (h1.inj i aa r ai e),(J i aa).1 j aq,(J r ai).1 j aq,vk i aa,vk r ai]
  rw[e];exact P.ir _ (h1.lt i aa) _ (pl j aq)
 ·rw[vk i aa,vk r ai,(J r ai).1 j aq];exact P.M _ (h1.lt i aa) (fun e=>dd (h1.inj i aa r ai e)) _ (pl j aq)
 ·rw[PP j aq];exact P.aZ _ (pl j aq)
 ·rw[PP j aq,Zo,vk r ai,(J r ai).1 j aq];exact P.u1 _ (pl j aq)
 rw[Zo,vk r ai,(J r ai).1 j aq];exact P.hm _ (pl j aq)
def iw (m n:Nat)(t:bV):List Nat:=(List.range m).filter fun i=>decide (t.B i<n)
def kB (m n:Nat)(t:bV)(i:Nat):Nat:=(iw m n t).getD i 0
theorem FI {m n:Nat}{t:bV}{i:Nat}(h:i<(iw m n t).length):(iw m n t)[i]? = some (kB m n t i):=by unfold kB;rw[aoc,dz h];rfl
theorem VP {m n:Nat}{t:bV}{i:Nat}(h:i<(iw m n t).length):kB m n t i<m/\t.B (kB m n t i)<n:=by have:=dH (FI h);unfold iw at this;rw[List.mem_filter,List.mem_range] at this;exact⟨this.1,of_decide_eq_true this.2⟩
theorem ahs {m n:Nat}{t:bV}{i k:Nat}(aa:i<(iw m n t).length)(aX:k<(iw m n t).length)(e:kB m n t i=kB m n t k):i=k:=by have alZ:(iw m n t).Nodup:=List.nodup_range.filter _;have h1:=FI aa;have h2:=FI aX;rw[e,<- h2] at h1;exact(List.getElem?_inj aa alZ).1 h1
theorem aht {m n:Nat}{t:bV}{d:Nat}(bC:d<m)(gl:t.B d<n): ∃i,i<(iw m n t).length/\kB m n t i=d:=by
 have:d∈iw m n t:=by unfold iw;rw[List.mem_filter,List.mem_range];exact⟨bC,decide_eq_true gl⟩
 obtain⟨i,aa⟩:=aor this;have aT:=gm aa;refine⟨i,aT,?_⟩;rw[FI aT] at aa;exact dJ aa
theorem afu {m n N:Nat}{A:Nat->Nat->Rat}{t:bV}(aa:mf m N A t)(cA:∀i,i<m->n<=t.B i->t.T i N=0)(bC:∀i,i<m->t.B i<n\/ ∀j,j<n->t.T i j=0):nC m n N A t (iw m n t).length (kB m n t) where
 inv:=aa
 z:=cA
 le:=by unfold iw;exact Nat.le_trans (List.length_filter_le ..) (by rw[List.length_range];exact dE _)
 lt:=fun i h=>(VP h).1
 inj:=fun i h k aX e=>ahs h aX e
 dead:=fun d h hx=>by have : ¬t.B d<n:=fun c=>(by obtain⟨i,h1,h2⟩:=aht h c;exact hx i h1 h2);exact⟨by omega,(bC d h).resolve_left this⟩
theorem aiJ {α:Type}{T n:Nat}(f:Nat->α)(h:n<=T):(aQ T f).take n=aQ n f:=by
 apply aol;intro i;by_cases c:i<n
 ·rw[an9,dw c,fX (by omega),fX c]
 rw[an9,dA c,List.getElem?_eq_none_iff.2 (by rw[cZ];omega)]
structure tb (m n:Nat) (a:Nat->Nat->Int) (b:Nat->Int) (i:Nat) (t:bV):Prop where
 bO:nC m n (n+m) (dh m n a b) t m fun q=>q
 HP : ∀q,q<i->t.B q<n\/ ∀j,j<n->t.T q j=0
theorem tb.cn {m n:Nat}{a:Nat->Nat->Int}{b:Nat->Int}{i:Nat}{t:bV}(h:tb m n a b i t){k:Nat}(aa:i<m)(aX:k<n)(aW:n<=t.B i)(af:t.T i k≠0):tb m n a b i (t.cn i k) where
 bO:=h.bO.cn (by omega) aa aX aW af
 HP:=fun q a0=>by
  simp only[bV.cn];rw[dA (by omega)];rcases h.HP q a0 with d|d
  ·exact .inl d
  exact .inr fun j aq=>by rw[dA (by omega),d j aq,d k aX];grind
theorem agl {m n:Nat}{a:Nat->Nat->Int}{b:Nat->Int}(gO:Small m (n+m) (dh m n a b))(hm:m<=20)(aS:n<=40){i:Nat}(aa:i<m)(x0 x1:Int)(fW eY k8:ar)(e5:Int){t:bV}(h:tb m n a b i t):
 ∃cw,Ln (i:Int) e5 ((n+m:Nat):Int) (iK m (n+m)) x0 (n:Int) fW eY k8 0 (cW m t) (ho (n+m) (t.cr m (gC m n))) (gB m (n+m) t)=some (cW m cw,ho (n+m) (cw.cr m (gC m n)),gB m (n+m) cw)/\tb m n a b (i+1) cw:=by
 unfold Ln
 obtain⟨r,e,cw,rfl,c5⟩:=qv (f:=fun w:Int×ar×aou×aoA=>wV (i:Int) e5 ((n+m:Nat):Int) (iK m (n+m)) x0 (n:Int) fW eY k8 w.1 w.2.1 w.2.2.1 w.2.2.2)
  (fun (j:Nat) (t:bV)=>((j:Int),cW m t,ho (n+m) (t.cr m (gC m n)),gB m (n+m) t)) n (fun j t=>tb m n a b i t/\(t.B i<n\/ ∀q,q<j->t.T i q=0))
  (fun r=> ∃cw,r=(cW m cw,ho (n+m) (cw.cr m (gC m n)),gB m (n+m) cw)/\tb m n a b (i+1) cw)
  (fun j aq t cQ=>by
    obtain⟨gq,bC⟩:=cQ;have hlen:(cW m t).length=m:=cZ ..;simp only;by_cases c:t.B i<n
    ·refine .inr ⟨_,?_,t,rfl,gq.bO,fun q a0=> ?_⟩
     ·unfold wV;exact eG (cB (by rw[hlen];omega) (aH (x:=((t.B i:Nat):Int)) (by rw[dy];exact hl aa) (fj rfl)))
     by_cases e:q=i
     ·rw[e];exact .inl c
     exact gq.HP q (by omega)
    have cA : ∀q,q<j->t.T i q=0:=bC.resolve_left c;have pre : ∀o,(pS (cb (t.T i j)) >>= fun dk=>if (dk != (0:Int))=true then yA (i:Int) (j:Int) ((n+m:Nat):Int) (iK m (n+m)) (cW m t) (ho (n+m) (t.cr m (gC m n))) (gB m (n+m) t) >>= fun hb=>some (.inl (R ((j:Int)+1),hb.1,hb.2.1,hb.2.2)) else some (.inl (R ((j:Int)+1),cW m t,ho (n+m) (t.cr m (gC m n)),gB m (n+m) t)))=some o->wV (i:Int) e5 ((n+m:Nat):Int) (iK m (n+m)) x0 (n:Int) fW eY k8 (j:Int) (cW m t) (ho (n+m) (t.cr m (gC m n))) (gB m (n+m) t)=some o:=fun o an=>(by unfold wV;exact eG (cB (by rw[hlen];omega) (aH (x:=((t.B i:Nat):Int)) (by rw[dy];exact hl aa) (eG (cB (by unfold iK;rw[cZ];omega) (aH (x:=some (i,n+m+1)) (by rw[dy];exact hl aa) (aH (x:=(i,n+m+1)) rfl (aH (x:=hh (n+m) t i) (fX aa) (c4 (aH (x:=cb (t.T i j)) (by rw[dy];exact hl (by omega)) an))))))))));have iE:eO (t.T i j):=gq.bO.inv.J5 gO aa (by omega);by_cases d:t.T i j=0
    ·refine .inl ⟨t,pre _ (aH (pY iE) (ie ?_ (by rw[fg (by omega)]))),gq,.inr fun q a0=> ?_⟩
     ·rw[pj.2 d];rfl
     by_cases e:q=j
     ·rw[e];exact d
     exact cA q (by omega)
    have P:=gq.bO.inv.GN gO (o:=gC m n) (fun j _=>Js m n j) aa (show j<n+m by omega) d (gq.bO.inv.ok.cn aa (by omega) d);have al0:=VJ (N:=n+m) (by omega) (by omega) aa (show j<=n+m by omega) d P ((n+m:Nat):Int);refine .inl ⟨t.cn i j,pre _ (aH (pY iE) (gb (wA fun e=>d (pj.1 e)) (aH al0 ?_))),gq.cn aa aq (by omega) d,.inl ?_⟩
    ·rw[fg (by omega)];congr 3;refine Prod.ext rfl (Prod.ext ?_ rfl);exact eM fun q a0=>by rw[gq.bO.inv.ok.I5 (gC m n) aa (by omega) d]
    simp only[bV.cn,if_true];exact aq)
  (fun t cQ=>by
    obtain⟨gq,bC⟩:=cQ;refine⟨_,?_,t,rfl,gq.bO,fun q a0=> ?_⟩
    ·simp only;unfold wV;exact fj rfl
    by_cases e:q=i
    ·rw[e];exact bC
    exact gq.HP q (by omega)) t ⟨h,.inr fun q a0=>by omega⟩
 exact⟨cw,e,c5⟩
theorem afv {m n:Nat}{a:Nat->Nat->Int}{b:Nat->Int}(gO:Small m (n+m) (dh m n a b))(hm:m<=20)(aS:n<=40)(x0:Int)(fW eY k8:ar){t:bV}(h:tb m n a b 0 t):
 ∃cw,Lo (m:Int) ((n+m:Nat):Int) (iK m (n+m)) x0 (n:Int) fW eY k8 0 (cW m t) (ho (n+m) (t.cr m (gC m n))) (gB m (n+m) t)=some (cW m cw,ho (n+m) (cw.cr m (gC m n)),gB m (n+m) cw)/\tb m n a b m cw:=by
 unfold Lo
 obtain⟨cw,e,c5⟩:=h4 (f:=fun w:Int×ar×aou×aoA=>A5 (m:Int) ((n+m:Nat):Int) (iK m (n+m)) x0 (n:Int) fW eY k8 w.1 w.2.1 w.2.2.1 w.2.2.2)
  (fun (i:Nat) (t:bV)=>((i:Int),cW m t,ho (n+m) (t.cr m (gC m n)),gB m (n+m) t)) m (fun i t=>tb m n a b i t) (fun t=>(cW m t,ho (n+m) (t.cr m (gC m n)),gB m (n+m) t))
  (fun i aa t gq=>by obtain⟨cw,e,c5⟩:=agl gO hm aS aa x0 x0 fW eY k8 (m:Int) gq;refine⟨cw,?_,c5⟩;simp only;unfold A5;exact eG (aH e (by rw[fg (by omega)])))
  (fun t _=>by simp only;unfold A5;exact fj rfl) t h
 exact⟨cw,e,c5⟩
theorem afw {n:Nat}(aS:n<=40){c:Nat->Int}(aZ:∀j,j<n-> -100<=c j/\c j<=100)(e5 pM:Int)(q1:aoz)(q2:ar)(bN:aou)(cx:aoA)(fW eY:ar):
 Lp e5 q1 q2 bN cx pM (n:Int) fW eY (aQ n c) 0 []=some (aQ n fun j=>cb (c j:Rat)):=by
 unfold Lp
 obtain⟨_,e,-⟩:=h4 (f:=fun w:Int×aou=>A6 e5 q1 q2 bN cx pM (n:Int) fW eY (aQ n c) w.1 w.2) (fun (j:Nat) (_:Unit)=>((j:Int),aQ j fun j=>cb (c j:Rat))) n (fun _ _=>True) (fun _=>aQ n fun j=>cb (c j:Rat))
  (fun j aq _ _=>by refine⟨(),?_,trivial⟩;have:=aZ j aq;simp only;unfold A6;refine eG (c4 (aH (gt rfl (fX aq)) (aH (r4 (la.2 (by omega))) (cB (by simp only[dD,cZ,List.length_singleton];omega) ?_))));rw[fg (by omega),kX])
  (fun _ _=>by simp only;unfold A6;exact fj rfl) () trivial
 exact e
theorem Vh (n:Nat)(t:bV)(i:Nat):iw (i+1) n t=iw i n t++(if t.B i<n then [i] else []):=by
 unfold iw;rw[List.range_succ,List.filter_append];congr 1;by_cases c:t.B i<n
 ·rw[dw c];simp[c]
 rw[dA c];simp[c]
theorem Wt (n:Nat)(t:bV){i:Nat}(gl:t.B i<n): ∀m,i<m->(iw m n t)[(iw i n t).length]? = some i
 | 0,h=>by omega
 | m+1,h=>by
  rw[Vh];by_cases c:i<m
  ·have:=Wt n t gl m c;rw[aoj (gm this)];exact this
  obtain rfl:i=m:=(by omega);rw[dw gl,aon (dE _),Nat.sub_self];rfl
theorem aiK (n:Nat)(t:bV){i m:Nat}(gl:t.B i<n)(h:i<m):kB m n t (iw i n t).length=i:=by have:=Wt n t gl m h;have aT:=gm this;rw[FI aT] at this;exact dJ this
theorem Wu (n:Nat)(t:bV)(i:Nat):(iw i n t).length<=i:=by unfold iw;exact Nat.le_trans (List.length_filter_le ..) (by rw[List.length_range];exact dE _)
theorem agm {m n:Nat}(hm:m<=20)(aS:n<=40)(t:bV)(x0:Int)(fW eY k8:ar)(bN eJ:aou):
 Lq (m:Int) ((n+m:Nat):Int) (iK m (n+m)) (cW m t) bN (gB m (n+m) t) x0 (n:Int) fW eY k8 eJ 0 [] [] [] =
  some (iK (iw m n t).length n,gB (iw m n t).length n (pC n (n+m) (kB m n t) t),cW (iw m n t).length (pC n (n+m) (kB m n t) t)):=by
 unfold Lq
 obtain⟨_,e,-⟩:=h4 (f:=fun w:Int×aoz×aoA×ar=>A7 (m:Int) ((n+m:Nat):Int) (iK m (n+m)) (cW m t) bN (gB m (n+m) t) x0 (n:Int) fW eY k8 eJ w.1 w.2.1 w.2.2.1 w.2.2.2)
  (fun (i:Nat) (_:Unit)=>((i:Int),iK (iw i n t).length n,gB (iw i n t).length n (pC n (n+m) (kB m n t) t),cW (iw i n t).length (pC n (n+m) (kB m n t) t))) m (fun _ _=>True)
  (fun _=>(iK (iw m n t).length n,gB (iw m n t).length n (pC n (n+m) (kB m n t) t),cW (iw m n t).length (pC n (n+m) (kB m n t) t)))
  (fun i aa _ _=>by
    refine⟨(),?_,trivial⟩;have hle:=Wu n t i;have h1:(iK m (n+m)).length=m:=cZ ..;have h2:(cW m t).length=m:=cZ ..;have bG:=Vh n t i;simp only;unfold A7;refine eG (cB (by rw[h1];omega) (aH (x:=some (i,n+m+1)) (by rw[dy];exact hl aa) (cB (by rw[h2];omega) (aH (x:=((t.B i:Nat):Int)) (by rw[dy];exact hl aa) ?_))));by_cases c:t.B i<n;rotate_left
    ·refine fj ?_;rw[dA c,List.append_nil] at bG;rw[bG,fg (by omega)]
    rw[dw c] at bG;have dm:=aiK n t c aa
    have d4:([]++((hh (n+m) t i).drop 0).take (((n:Nat):Int).toNat-0))++[cb (t.T i (n+m))]=hh n (pC n (n+m) (kB m n t) t) (iw i n t).length:=by
     rw[dy,List.drop_zero,Nat.sub_zero,List.nil_append];unfold hh;rw[aiJ _ (by omega),kX n];congr 1
     ·exact eM fun j aq=>by show _=cb (t.T (kB m n t (iw i n t).length) (nw n (n+m) j));rw[dm,zo aq]
     show _=[cb (t.T (kB m n t (iw i n t).length) (nw n (n+m) n))];rw[dm,De]
    have sw:(hh n (pC n (n+m) (kB m n t) t) (iw i n t).length).length=n+1:=cZ ..;have OC:(gB (iw i n t).length n (pC n (n+m) (kB m n t) t)).length=(iw i n t).length:=cZ ..;refine eG (aH (x:=(i,n+m+1)) rfl (aH (x:=hh (n+m) t i) (fX aa) (c4 (cB (by simp only[dy];omega) (cB (by unfold hh;rw[cZ,dy];omega) (cB (by rw[dy,List.nil_append,List.length_take,List.length_drop];omega) (c4 (aH (x:=cb (t.T i (n+m))) (by rw[dy];exact hl (by omega)) ?_))))))));rw[d4,sw,OC];refine c4 (cB (by simp only[dD,List.length_singleton];unfold iK;rw[cZ];omega) (cB (by simp only[dD,List.length_singleton];unfold cW;rw[cZ];omega) ?_));have rJ:(iw (i+1) n t).length=(iw i n t).length+1:=(by rw[bG,dD];rfl);rw[rJ,fg (by omega)];unfold iK gB cW;rw[kX (iw i n t).length fun q=>(some (q,n+1):bT),kX (iw i n t).length (hh n (pC n (n+m) (kB m n t) t)),kX (iw i n t).length fun q=>(((pC n (n+m) (kB m n t) t).B q:Nat):Int)];have aW:(pC n (n+m) (kB m n t) t).B (iw i n t).length=t.B i:=(by show t.B (kB m n t (iw i n t).length)=_;rw[dm]);rw[aW])
  (fun _ _=>by simp only;unfold A7;exact fj rfl) () trivial
 exact e
theorem afx {PQ:Nat}{e4:aoA}{row:aou}(h:e4[PQ]? = some row)(k:Int)(bL len:Nat)(PR:aou):Ep k PQ bL len PR e4=yv k bL len PR row:=by
 have e : ∀t i9 j1 rH,(fun w:Int×aou=>D4 PQ bL len t e4 i9 j1 rH w.1 w.2)=fun w:Int×aou=>wU bL len t row i9 j1 rH w.1 w.2:=fun t i9 j1 rH=>by funext w;unfold D4 wU;rw[h];rfl
 unfold Ep yv Rl Lm;simp only[e]
theorem Jt {n:Nat}{c:Nat->Int}{j:Nat}(h:n<=j):iB n c j=0:=by unfold iB oz;simp only;rw[dA (by omega)];rfl
theorem Xr {n:Nat}{c:Nat->Int}{j:Nat}(h:j<n):iB n c j=(c j:Rat):=by unfold iB oz;simp only;rw[dw h]
theorem JP {n:Nat}{c:Nat->Int}(aZ:∀j,j<n-> -100<=c j/\c j<=100)(j:Nat):du 100 (iB n c j):=by
 by_cases h:j<n
 ·rw[Xr h];have:=aZ j h;exact⟨c j,rfl,by omega⟩
 rw[Jt (by omega)];exact⟨0,rfl,by omega⟩
theorem Ng {m n:Nat}{a:Nat->Nat->Int}{b:Nat->Int}{aI:Nat}{g:Nat->Nat}{hf:Nat->Nat->Rat}{u:bV}(gO:Small m (n+m) (dh m n a b))(h:p9 m n a b aI g hf u){o:Nat->Rat}(hw:∀j,du 100 (o j)){i j:Nat}(aa:i<=aI)(aq:j<=n):eO (o j-ct i (fun q=>o (u.B q)*u.T q j)):=by
 obtain⟨t,h1,h2,J⟩:=h.bO;have hm:=gO.hm;have lz:=h1.le;have Zp:=h1.inv.Ag gO;have e:(o j-ct i (fun q=>o (u.B q)*u.T q j))*t.D m (dh m n a b)=o j*t.D m (dh m n a b)-ct i (fun q=>o (u.B q)*(u.T q j*t.D m (dh m n a b))):=by rw[gr (f:=fun q=>o (u.B q)*(u.T q j*t.D m (dh m n a b))) (g:=fun q=>(o (u.B q)*u.T q j)*t.D m (dh m n a b)) (fun q _=>by grind),vF];grind
 have w:du (21*100*eL) ((o j-ct i (fun q=>o (u.B q)*u.T q j))*t.D m (dh m n a b)):=by
  rw[e];refine du.mono (((hw j).mul Zp).sub (du.sum fun q a0=>(hw _).mul (tw:=eL) ?_)) ?_
  ·rw[(J q (by omega)).1 j aq];exact h1.inv.vg gO (h1.lt q (by omega)) (C5 (by omega) aq)
  have:i*(100*eL)<=20*(100*eL):=aob _ (by omega);omega
 exact rq (Zp.mono (Nat.le_trans (by omega:eL<=21*100*eL) (dE _))) w h1.inv.sC (by grind) (p4 xw)
theorem aeM {m n:Nat}{a:Nat->Nat->Int}{b:Nat->Int}{aI:Nat}{g:Nat->Nat}{hf:Nat->Nat->Rat}{u:bV}(gO:Small m (n+m) (dh m n a b))(aS:n<=40)(h:p9 m n a b aI g hf u){o:Nat->Rat}(hw:∀j,du 100 (o j))(e5 pM:Int)(q1:aoz)(q2:ar)(bN:aou)(cx:aoA):
 Lr (aI:Int) e5 q1 q2 bN cx pM (iK aI n) (gB aI n u) (cW aI u) 0 (ho n o)=some (ho n (u.cr aI o)):=by
 have lz:aI<=20:=by obtain⟨t,h1,-,-⟩:=h.bO;have:=h1.le;have:=gO.hm;omega
 obtain⟨HQ,-⟩:=h.fits gO;have L:=h.lt;unfold Lr
 obtain⟨_,e,-⟩:=h4 (f:=fun w:Int×aou=>A8 (aI:Int) e5 q1 q2 bN cx pM (iK aI n) (gB aI n u) (cW aI u) w.1 w.2) (fun (i:Nat) (_:Unit)=>((i:Int),ho n fun j=>o j-ct i (fun q=>o (u.B q)*u.T q j))) aI (fun _ _=>True) (fun _=>ho n (u.cr aI o))
  (fun i aa _ _=>by
    refine⟨(),?_,trivial⟩;have aW:=L.jG i aa;have k4:(iK aI n).length=aI:=cZ ..;have ln:(cW aI u).length=aI:=cZ ..;have Zq:o (u.B i)-ct i (fun q=>o (u.B q)*u.T q (u.B i))=o (u.B i):=(by rw[nP fun q a0=>by rw[L.unit q (by omega) i aa,dA (by omega)];grind];grind);have pL : ∀j,o j-ct i (fun q=>o (u.B q)*u.T q j)-(o (u.B i)-ct i (fun q=>o (u.B q)*u.T q (u.B i)))*u.T i j=o j-ct (i+1) (fun q=>o (u.B q)*u.T q j):=fun j=>by rw[Zq,ct];grind
    have al1:=Vf (n+1) (by omega) (u.B i) (by omega) (fun j=>o j-ct i (fun q=>o (u.B q)*u.T q j)) (fun j=>u.T i j) (fun j aq=>Ng gO h hw (by omega) (by omega)) (fun j aq=>HQ i aa j (by omega)) (fun j aq=>by
     have f1:=Ng gO h hw (i:=i+1) (j:=j) (by omega) (by omega);rw[Zq];obtain⟨t,h1,h2,J⟩:=h.bO;have w:=((hw (u.B i)).neg).mul (h1.inv.vg gO (h1.lt i aa) (C5 (n:=n) (N:=n+m) (j:=j) (by omega) (by omega)));rw[<- (J i aa).1 j (by omega)] at w;exact rq (K:=21*100*eL) ((h1.inv.Ag gO).mono (by omega)) (w.mono (by omega)) h1.inv.sC (by grind) (p4 xw)) (fun j aq=>by
     rw[pL];exact Ng gO h hw (by omega) (by omega))
    simp only;unfold A8;refine eG (cB (by rw[k4];omega) (aH (x:=some (i,n+1)) (by rw[dy];exact hl aa) (cB (by rw[ln];omega) (aH (x:=((u.B i:Nat):Int)) (by rw[dy];exact hl aa) (aH (x:=(i,n+1)) rfl (aH (x:=hh n u i) (fX aa) (aH (x:=ho n fun j=>o j-ct (i+1) (fun q=>o (u.B q)*u.T q j)) ?_ (cB (by unfold ho;rw[cZ,cZ]) (by rw[fg (by omega)])))))))));refine Eq.trans (afx (e4:=gB aI n u) (row:=hh n u i) (fX aa) _ _ _ _) (Eq.trans al1 ?_);congr 1;exact eM fun j _=>by rw[pL])
  (fun _ _=>by simp only;unfold A8;exact fj rfl) () trivial
 have e0:(ho n fun j=>o j-ct 0 (fun q=>o (u.B q)*u.T q j))=ho n o:=eM fun j _=>by show cb (o j-0)=_;congr 1;grind
 rw[e0] at e;exact e
theorem agn {aI n:Nat}(hm:aI<=20)(aS:n<=40){u:bV}(inj:∀i,i<aI-> ∀k,k<aI->u.B i=u.B k->i=k)(HQ:∀i,i<aI-> ∀j,j<=n->eO (u.T i j))(z:Int)(q:aou){j:Nat}(aq:j<n)(k:Nat):LO z (gB aI n u) (cW aI u) q (j:Int) true (k:Int) (aI:Int) 0 0=some (jI (ct aI fun i=>if u.B i=k then u.T i j else 0)):=by
 unfold LO
 obtain⟨_,e,-⟩:=h4 (f:=fun w:Int×Int=>Bx z (gB aI n u) (cW aI u) q (j:Int) true (k:Int) (aI:Int) w.1 w.2) (fun (i:Nat) (_:Unit)=>(jI (ct i fun i=>if u.B i=k then u.T i j else 0),(i:Int))) aI (fun _ _=>True) (fun _=>jI (ct aI fun i=>if u.B i=k then u.T i j else 0))
  (fun i aa _ _=>by
    refine⟨(),?_,trivial⟩;have k4:(cW aI u).length=aI:=cZ ..;have ln:(gB aI n u).length=aI:=cZ ..;have xY:(hh n u i).length=n+1:=cZ ..;simp only;unfold Bx;refine eG (cB (by rw[k4];omega) (aH (x:=((u.B i:Nat):Int)) (by rw[dy];exact fX aa) ?_));by_cases c:u.B i=k
    ·refine gb (xF (by omega)) (cB (by rw[ln];omega) (aH (x:=hh n u i) (by rw[dy];exact fX aa) (cB (by rw[xY];omega) (aH (x:=cb (u.T i j)) (by rw[dy];exact fX (by omega)) (aH (pY (HQ i aa j (by omega))) ?_)))));rw[fg (by omega),ct,dw c,nP fun q a0=>dA fun e=>by have:=inj q (by omega) i aa (by omega);omega];congr 4;grind
    refine ie (va (by omega)) ?_;rw[fg (by omega),ct,dA c,Rat.add_zero])
  (fun _ _=>by simp only;unfold Bx;exact fj rfl) () trivial
 have e0:jI (ct 0 fun i=>if u.B i=k then u.T i j else 0)=0:=pj.2 rfl;rw[e0] at e;exact e
theorem VQ {aI:Nat}{c:Nat->Rat}{u:bV}{j k:Nat}:u.cr aI (hZ c (k+1)) j=(if j=k then -1 else 0)+ct aI (fun i=>if u.B i=k then u.T i j else 0):=by
 unfold bV.cr;have:ct aI (fun i=>hZ c (k+1) (u.B i)*u.T i j)=ct aI (fun i=>(-1:Rat)*(if u.B i=k then u.T i j else 0)):=gr fun i _=>by simp only[hZ];split<;>grind
 rw[this,jU];simp only[hZ];grind
theorem aeN {aI n:Nat}(hm:aI<=20)(aS:n<=40){c:Nat->Rat}{u:bV}(inj:∀i,i<aI-> ∀k,k<aI->u.B i=u.B k->i=k)(HQ:∀i,i<aI-> ∀j,j<=n->eO (u.T i j))(al2:∀j,j<=n->eO (u.cr aI c j)){j:Nat}(aq:j<n):
 ∃g,vC ⟨(n:Int),gB aI n u,cW aI u,ho n (u.cr aI c)⟩ (j:Int) true=some g/\((∀i,i<aI->u.B i≠j)->(0<g↔u.q5 aI (n+1) (hZ c) j)):=by
 have k4:(ho n (u.cr aI c)).length=n+1:=cZ ..;have vm:len_ eI (cW aI u)=((aI:Nat):Int):=by rw[gy];show ((aQ aI _).length:Int)=_;rw[cZ]
 obtain⟨r,e,ai⟩:=qv (f:=fun w:Int×Int=>yi (n:Int) (gB aI n u) (cW aI u) (ho n (u.cr aI c)) (j:Int) true w.1 w.2)
  (fun (k:Nat) (_:Unit)=>(jI (u.cr aI (hZ c k) j),(k:Int))) n (fun k _=>k<=j/\ ∀l,l<k->u.cr aI (hZ c l) j=0)
  (fun r=> ∃g,(r = .inl g\/(r = .inr ()/\g = -1))/\((∀i,i<aI->u.B i≠j)->(0<g↔u.q5 aI (n+1) (hZ c) j)))
  (fun k aX _ cQ=>by
    obtain⟨an7,cA⟩:=cQ;simp only;unfold yi;by_cases z:u.cr aI (hZ c k) j=0
    ·have e5:jI (u.cr aI (hZ c k) j)=0:=pj.2 z
     have u5 : ∀l,l<k+1->u.cr aI (hZ c l) j=0:=fun l aT=>by
      by_cases e:l=k
      ·rw[e];exact z
      exact cA l (by omega)
     by_cases e:k=j
     ·refine .inr ⟨.inr (),?_,-1,.inr ⟨rfl,rfl⟩,fun HH=>⟨fun h=>absurd h (by omega),fun dm=> ?_⟩⟩
      ·rw[e5];exact gb rfl (gb rfl (eG (gb (xF (by omega)) rfl)))
      exfalso;have neg:u.cr aI (hZ c (k+1)) j = -1:=(by rw[VQ,dw e.symm,nP fun i aa=>dA fun x=>HH i aa (by omega)];grind);obtain⟨l,hk,hq,bx⟩:=dm;simp only at hq bx;by_cases bh:l<k+1
      ·rw[u5 l bh] at hq;grind
      by_cases cp:l=k+1
      ·rw[cp,neg] at hq;grind
      have:=bx (k+1) (by omega);rw[neg] at this;grind
     refine .inl ⟨(),?_,by omega,u5⟩;rw[e5,vm];refine gb rfl (gb rfl (eG (ie (va (by omega)) (aH (agn hm aS inj HQ (n:Int) (ho n (u.cr aI c)) aq k) ?_))));rw[fg (by omega),VQ,dA (fun x=>e x.symm),Rat.zero_add]
    refine .inr ⟨.inl (jI (u.cr aI (hZ c k) j)),?_,_,.inl rfl,fun HH=> ?_⟩
    ·exact ie (va fun x=>z (pj.1 x)) rfl
    rw[sT];constructor
    ·intro h;exact⟨k,by omega,h,cA⟩
    rintro⟨l,hk,hq,bx⟩;simp only at hq bx;by_cases bh:l<k
    ·rw[cA l bh] at hq;grind
    by_cases cp:l=k
    ·rw[cp] at hq;exact hq
    exact absurd (bx k (by omega)) z)
  (fun _ cQ=>absurd cQ.1 (by omega)) () ⟨by omega,fun l aT=>by omega⟩
 obtain⟨g,dm,a0⟩:=ai;refine⟨g,?_,a0⟩;unfold vC;refine cB (by simp only;rw[k4];omega) (aH (x:=cb (u.cr aI c j)) (by simp only;rw[dy];exact fX (by omega)) (aH (pY (al2 j (by omega))) (aH (x:=r) e ?_)));rcases dm with rfl|⟨rfl,rfl⟩<;>rfl
theorem ahZ {x:Rat}(U:eO x):E4 (cb x)=some (cb x):=by
 have p:=U.di;have h1:=p.o4;have h2:=p.oy;have e1:(cb x).ef.cd.length<=100:=by show (L (eZ x).1.natAbs).length<=100;omega
 have e2:(cb x).fi.length<=100:=by show (L (eZ x).2).length<=100;omega
 unfold E4;rw[List.nil_append,List.nil_append];exact c4 (c4 rfl)
theorem Ja {aI n:Nat}{u:bV}(inj:∀i,i<aI-> ∀k,k<aI->u.B i=u.B k->i=k)(j:Nat): ∀i,i<=aI->(∃q,q<i/\u.B q=j/\u.hj i n j=u.T q n)\/((∀q,q<i->u.B q≠j)/\u.hj i n j=0)
 | 0,_=> .inr ⟨fun q a0=>by omega,rfl⟩
 | i+1,aa=>by
  rw[Nf];by_cases c:u.B i=j
  ·rw[dw c]
   rcases Ja inj j i (by omega) with ⟨q,h1,h2,-⟩|⟨-,h2⟩
   ·have:=inj q (by omega) i (by omega) (by omega);omega
   exact .inl ⟨i,by omega,c,by rw[h2];grind⟩
  rw[dA c,Rat.add_zero];rcases Ja inj j i (by omega) with ⟨q,h1,h2,J⟩|⟨h1,h2⟩
  ·exact .inl ⟨q,by omega,h2,J⟩
  refine .inr ⟨fun q a0=> ?_,h2⟩;by_cases e:q=i
  ·rw[e];exact c
  exact h1 q (by omega)
theorem ago {p:kz}{m n:Nat}{a:Nat->Nat->Int}{b:Nat->Int}(h:nv p m n a b){c:Nat->Int}(ph:p.hL=aQ n c)(aZ:∀j,j<n-> -100<=c j/\c j<=100){t:bV}(cj:tb m n a b 0 t):
 ∃aI g u q1 q2 bN,aI<=20/\p9 m n a b aI g u.T u/\B6 p ((n+m:Nat):Int) (iK m (n+m)) (cW m t) (ho (n+m) (t.cr m (gC m n))) (gB m (n+m) t)=some (q1,q2,bN,(n:Int),iK aI n,cW aI u,ho n (u.cr aI (iB n c)),gB aI n u):=by
 have hm:=h.hm;have aS:=h.aS;have gO:=Fz h;obtain⟨cw,bJ,n4⟩:=afv gO hm aS p.hF p.ei p.eE p.hL cj;have bO:=afu n4.bO.inv n4.bO.z n4.HP;have gl : ∀i,i<(iw m n cw).length->cw.B (kB m n cw i)<n:=fun i aa=>(VP aa).2;have J : ∀i,i<(iw m n cw).length->(∀j,j<=n->(pC n (n+m) (kB m n cw) cw).T i j=cw.T (kB m n cw i) (nw n (n+m) j))/\(pC n (n+m) (kB m n cw) cw).B i=cw.B (kB m n cw i):=fun i aa=>⟨fun _ _=>rfl,rfl⟩;have L:=Ws bO gl J;have hle:=Wu n cw m
 have fp:p9 m n a b (iw m n cw).length (kB m n cw) (pC n (n+m) (kB m n cw) cw).T (pC n (n+m) (kB m n cw) cw):=by
  refine⟨?_,cw,bO,gl,J⟩;by_cases z:(iw m n cw).length=0
  ·rw[z];exact⟨fun c aZ=>by omega,⟨fun _ _=>0,fun i aa=>by omega⟩,fun i aa=>by omega,fun i aa=>by omega⟩
  have:=gl 0 (by omega);exact L.tok (dE _) (by omega)
 have k4:((iK m (n+m)).length:Int)=(m:Int):=by unfold iK;rw[cZ]
 have ln:((iK (iw m n cw).length n).length:Int)=(((iw m n cw).length:Nat):Int):=by unfold iK;rw[cZ]
 have alw:(aQ n fun j=>cb (c j:Rat))++[cb 0]=ho n (iB n c):=by
  unfold ho;rw[kX];congr 1
  ·exact eM fun j aq=>by rw[Xr aq]
  rw[Jt (dE _)]
 refine⟨(iw m n cw).length,kB m n cw,pC n (n+m) (kB m n cw) cw,cW m cw,ho (n+m) (cw.cr m (gC m n)),gB m (n+m) cw,by omega,fp,?_⟩;unfold B6;rw[k4,h.gV];refine aH bJ ?_;simp only;rw[ph];refine aH (afw aS aZ _ _ _ _ _ _ _ _) (aH (r4 (n:=0) (la.2 (by omega))) ?_);rw[show ((0:Int):Rat)=0 from rfl,alw];refine cB (by unfold ho;rw[cZ];omega) (aH (agm hm aS cw _ _ _ _ _ _) ?_);simp only;rw[ln];exact aH (aeM gO aS fp (JP aZ) _ _ _ _ _ _) rfl
theorem agp {p:kz}{m n:Nat}{a:Nat->Nat->Int}{b:Nat->Int}(h:nv p m n a b){c:Nat->Int}(ph:p.hL=aQ n c)(aZ:∀j,j<n-> -100<=c j/\c j<=100):
 ∃r,Ch p=some r/\((¬rv m n a b/\r=⟨2,[],⟨⟨false,[]⟩,[]⟩⟩)\/(rv m n a b/\ ¬Bounded m n a b (iB n c)/\r=⟨3,[],⟨⟨false,[]⟩,[]⟩⟩) \/
  ∃x,uQ m n a b (iB n c) x/\(∀j,eO (x j))/\eO (val n (iB n c) x)/\r=⟨0,aQ n (fun j=>cb (x j)),cb (val n (iB n c) x)⟩):=by
 have hm:=h.hm;have aS:=h.aS;have gO:=Fz h;obtain⟨t,e1,cQ,bG⟩:=agh h;have al3:=cQ.zL gO (fun j _=>Js m n j) (dE (n+m));have al4:(ho (n+m) (t.cr m (gC m n))).length=n+m+1:=cZ ..
 have pre : ∀r,(if (jI (t.cr m (gC m n) (n+m)) != (0:Int))=true then some (⟨2,[],⟨⟨false,[]⟩,[]⟩⟩:xc) else
  B6 p ((n+m:Nat):Int) (iK m (n+m)) (cW m t) (ho (n+m) (t.cr m (gC m n))) (gB m (n+m) t) >>= fun b3 =>
  vz true b3.2.2.2.1 b3.2.2.2.2.1 b3.2.2.2.2.2.1 b3.2.2.2.2.2.2.1 b3.2.2.2.2.2.2.2 >>= fun cX =>
  if cX.1=true then
   if 0<=b3.2.2.2.1/\b3.2.2.2.1<(cX.2.2.1.length:Nat) then
   cX.2.2.1[(0+b3.2.2.2.1.toNat)]? >>= fun Hg =>
   tC Hg >>= fun hb =>
   LH p.hF p.gd p.ei p.eE p.hL b3.2.2.2.1 b3.2.2.2.2.1 cX.2.1 cX.2.2.1 cX.2.2.2 hb.ef.cK hb.ef.cd hb.fi 0 ([]:aou) >>= fun nb =>
   LI ((cX.2.1.length:Nat):Int) b3.2.2.2.1 b3.2.2.2.2.1 cX.2.1 cX.2.2.1 cX.2.2.2 hb.ef.cK hb.ef.cd hb.fi 0 nb >>= fun qT =>
   some (⟨0,qT,hb⟩:xc)
   else none
  else some (⟨3,([]:aou),(⟨(⟨false,([]:ar)⟩:bz),([]:ar)⟩:ao)⟩:xc))=some r->Ch p=some r:=fun r ai=>by
  unfold Ch;exact aH (ahi h) (aH e1 (cB (by simp only;rw[al4];omega) (aH (x:=cb (t.cr m (gC m n) (n+m))) (by simp only;rw[dy];exact hl (by omega)) (aH (pY al3) ai))))
 by_cases z:t.cr m (gC m n) (n+m)=0;rotate_left
 ·exact⟨_,pre _ (gb (wA fun e=>z (pj.1 e)) rfl),.inl ⟨fun s=>z (bG.2 s),rfl⟩⟩
 have PS:=bG.1 z;have al5:tb m n a b 0 t:=⟨⟨cQ,Mr cQ.lD z cQ.ok.jG,dE _,fun i aa=>aa,fun i _ k _ e=>e,fun d bC hx=>(hx d bC rfl).elim⟩,fun q a0=>by omega⟩;obtain⟨aI,g,u,q1,q2,bN,lz,fp,e2⟩:=ago h ph aZ al5;have an : ∀j,n<=j->iB n c j=0:=fun j aq=>Jt aq;have inj : ∀ {v:bV},p9 m n a b aI g u.T v-> ∀i,i<aI-> ∀k,k<aI->v.B i=v.B k->i=k:=fun bf i aa k aX e=>NT bf.lt aa aX e
 obtain⟨q,v,bJ,Av,eB⟩:=WZ (e6:=aI) (m:=aI) (N:=n) (K:=n+1) (by omega) (by omega) (A:=u.T) (obj:=hZ (iB n c)) true (p9 m n a b aI g u.T)
  (fun t cj=>⟨cj.ok,cj.lt.lD⟩) (fun t r s cj c8=>agk cj c8)
  (fun t cj j aq=>aeN lz aS (inj cj) (fun i aa j aq=>(cj.fits gO).1 i aa j aq) (fun j aq=>cj.zL gO an (JP aZ) aq) aq)
  (fun t cj i aa j aq=>(cj.fits gO).1 i aa j aq) (fun t cj i aa j aq af=>(cj.fits gO).2 i aa j aq af)
  (fun t cj r k ai aX af=>cj.GN gO an (JP aZ) ai aX af) u fp
 have xz:vz true (n:Int) (iK aI n) (cW aI u) (ho n (u.cr aI (iB n c))) (gB aI n u)=some (q,cW aI v,ho n (v.cr aI (iB n c)),gB aI n v):=bJ;have HR:=Av.lt;rcases eB with ⟨rfl,eB⟩|⟨rfl,s,wG,dm,hx⟩;rotate_left
 ·refine⟨_,pre _ (ie (by rw[pj.2 z];rfl) (aH e2 (aH xz (ie rfl rfl)))),.inr (.inl ⟨PS,?_,rfl⟩)⟩
  obtain⟨l,aT,af,-⟩:=dm
  cases l with
  | zero=>exact HR.Ks (iB n c) wG af hx
  | succ k =>
   obtain⟨i,aa,jy⟩:=HR.U4 (c:=iB n c) af;exact(hx i aa jy).elim
 have m7:=HR.m7 eB
 have al6 : ∀i,i<=aI-> ∀j,eO (v.hj i n j):=fun i aa j=>by
  rcases Ja (inj Av) (n:=n) j i aa with ⟨q,h1,-,J⟩|⟨-,h2⟩
  ·rw[J];exact(Av.fits gO).1 q (by omega) n (dE _)
  rw[h2];exact Wj (n:=0) (la.2 (by omega))
 have bf:v.cr aI (iB n c) n = -val n (iB n c) (v.hj aI n):=by unfold val;rw[HR.FO (iB n c)];unfold bV.cr;rw[Jt (dE _)];grind
 have Y1:=Av.zL gO an (JP aZ) (dE n);have aj4:eO (val n (iB n c) (v.hj aI n)):=by have:=Y1.neg;rw[bf,Rat.neg_neg] at this;exact this
 refine⟨_,pre _ (ie (by rw[pj.2 z];rfl) (aH e2 (aH xz (gb rfl (cB ?_ (aH (x:=cb (v.cr aI (iB n c) n)) ?_ (aH (JF Y1) (aH (x:=aQ n fun _=>cb 0) ?_ (aH (x:=aQ n fun j=>cb (v.hj aI n j)) ?_ rfl))))))))),.inr (.inr ⟨_,m7,fun j=>al6 aI (dE _) j,aj4,?_⟩)⟩
 ·simp only;unfold ho;rw[cZ];omega
 ·simp only;rw[dy];exact hl (by omega)
 ·unfold LH
  rw[h.gV]
  obtain⟨_,e,-⟩:=h4 (f:=fun w:Int×aou=>Bs p.hF (n:Int) p.ei p.eE p.hL (n:Int) (iK aI n) (cW aI v) (ho n (v.cr aI (iB n c))) (gB aI n v) (cb (-v.cr aI (iB n c) n)).ef.cK (cb (-v.cr aI (iB n c) n)).ef.cd (cb (-v.cr aI (iB n c) n)).fi w.1 w.2) (fun (j:Nat) (_:Unit)=>((j:Int),aQ j fun _=>cb (0:Rat))) n (fun _ _=>True) (fun _=>aQ n fun _=>cb (0:Rat))
   (fun j aq _ _=>by refine⟨(),?_,trivial⟩;simp only;unfold Bs;refine eG (aH (r4 (n:=0) (la.2 (by omega))) (cB (by simp only[dD,cZ,List.length_singleton];omega) ?_));rw[fg (by omega),kX];rfl)
   (fun _ _=>by simp only;unfold Bs;exact fj rfl) () trivial
  exact e
 ·have vm:(((cW aI v).length:Nat):Int)=(aI:Int):=by unfold cW;rw[cZ]
  simp only;rw[vm];unfold LI
  obtain⟨_,e,-⟩:=h4 (f:=fun w:Int×aou=>Bt (aI:Int) (n:Int) (iK aI n) (cW aI v) (ho n (v.cr aI (iB n c))) (gB aI n v) (cb (-v.cr aI (iB n c) n)).ef.cK (cb (-v.cr aI (iB n c) n)).ef.cd (cb (-v.cr aI (iB n c) n)).fi w.1 w.2) (fun (i:Nat) (_:Unit)=>((i:Int),aQ n fun j=>cb (v.hj i n j))) aI (fun _ _=>True) (fun _=>aQ n fun j=>cb (v.hj aI n j))
   (fun i aa _ _=>by
     refine⟨(),?_,trivial⟩;have aW:=HR.jG i aa;have k4:(cW aI v).length=aI:=cZ ..;have ln:(iK aI n).length=aI:=cZ ..;simp only;unfold Bt;refine eG (cB (by rw[k4];omega) (aH (x:=((v.B i:Nat):Int)) (by rw[dy];exact hl aa) (cB (by rw[ln];omega) (aH (x:=some (i,n+1)) (by rw[dy];exact hl aa) (aH (x:=(i,n+1)) rfl (aH (x:=hh n v i) (fX aa) (c4 (aH (x:=cb (v.T i n)) (by rw[dy];exact hl (by omega)) (aH (ahZ ((Av.fits gO).1 i aa n (dE _))) (c4 (c4 ?_)))))))))));rw[fg (by omega),dy,dG,kZ];congr 3;refine eM fun j _=> ?_;rw[Nf];by_cases e:j=v.B i
     ·rw[dw e,dw e.symm]
      rcases Ja (inj Av) (n:=n) j i (by omega) with ⟨q,h1,h2,-⟩|⟨-,h2⟩
      ·have:=inj Av q (by omega) i aa (by omega);omega
      rw[h2,Rat.zero_add]
     rw[dA e,dA fun x=>e x.symm,Rat.add_zero])
   (fun _ _=>by simp only;unfold Bt;exact fj rfl) () trivial
  exact e
 rw[bf,Rat.neg_neg]
def wt (k:Nat)(x:c0):aoG:=(if x.jN=2 then [] else [⟨(k:Int),1⟩])++(if x.jN=1 then [] else [⟨(k:Int),-1⟩])
def mI (eP:aoC):Nat->aoG
 | 0=>[]
 | n+1=>mI eP n++(match eP[n]? with
  | some x=>wt n x
  | none=>[])
theorem Jb (eP:aoC): ∀n,(mI eP n).length<=2*n
 | 0=>by simp[mI]
 | n+1=>by
  have:=Jb eP n;rw[mI,dD]
  have h2:(match eP[n]? with
   | some x=>wt n x
   | none=>[]).length<=2:=by
   split
   ·rename_i x _;unfold wt;rw[dD];split<;>split<;>simp
   simp
  omega
theorem VR {eP:aoC}: ∀ {n:Nat} {c:fJ},n<=eP.length->c∈mI eP n-> ∃k:Nat,c.hU=k/\k<n/\(c.r6=1\/c.r6 = -1)
 | 0,c,_,h=>by simp[mI] at h
 | n+1,c,aS,h=>by
  rw[mI,List.mem_append] at h;rcases h with h|h
  ·obtain⟨k,h1,h2,J⟩:=VR (by omega) h;exact⟨k,h1,by omega,J⟩
  rw[dz (by omega)] at h;simp only[wt,List.mem_append] at h;rcases h with h|h
  ·split at h
   ·simp at h
   simp at h;subst h;exact⟨n,rfl,by omega,.inl rfl⟩
  split at h
  ·simp at h
  simp at h;subst h;exact⟨n,rfl,by omega,.inr rfl⟩
theorem MF (s:cL)(er:s.bn.length<=1000):yc s=some (mI s.bn s.bn.length):=by
 unfold yc Qo;rw[fc]
 obtain⟨x,e,-⟩:=h4 (f:=fun w:Int×aoG=>AK s.bn (s.bn.length:Nat) w.1 w.2) (fun (n:Nat) (_:Unit)=>((n:Int),mI s.bn n)) s.bn.length (fun _ _=>True) (fun _=>mI s.bn s.bn.length)
  (fun n aS _ _=>by
    refine⟨(),?_,trivial⟩;have U:=dz aS;have aT:=Jb s.bn n;have e1:mI s.bn (n+1)=mI s.bn n++wt n s.bn[n]:=(by rw[mI,U]);unfold AK;refine eG (c4 (aH (x:=s.bn[n]) (by simp only;rw[dy];exact U) ?_));simp only;rw[fg (by omega),e1];unfold wt;by_cases bh:s.bn[n].jN=2
    ·rw[dw bh];refine ie (Ha bh) (gb (wA (by omega)) (cB (by simp only[dD,dI,dN];omega) ?_));rw[dA (by omega)];simp
    rw[dA bh];refine gb (wA bh) (cB (by simp only[dD,dI,dN];omega) ?_);by_cases cp:s.bn[n].jN=1
    ·refine ie (Ha cp) ?_;rw[dw cp];simp
    refine gb (wA cp) (cB (by simp only[dD,dI,dN];omega) ?_);rw[dA cp];simp)
  (fun _ _=>by unfold AK;exact fj rfl) () trivial
 exact aH e rfl
theorem TD (s:cL)(er:s.bn.length<=1000):yz s=some ((mI s.bn s.bn.length).map fJ.hU,(mI s.bn s.bn.length).map fJ.r6):=by
 unfold yz RD;rw[fc]
 obtain⟨x,e,-⟩:=h4 (f:=fun w:Int×ar×ar=>Ba s.bn (s.bn.length:Nat) w.1 w.2.1 w.2.2) (fun (n:Nat) (_:Unit)=>((n:Int),(mI s.bn n).map fJ.hU,(mI s.bn n).map fJ.r6)) s.bn.length (fun _ _=>True) (fun _=>((mI s.bn s.bn.length).map fJ.hU,(mI s.bn s.bn.length).map fJ.r6))
  (fun n aS _ _=>by
    refine⟨(),?_,trivial⟩;have U:=dz aS;have aT:=Jb s.bn n;have e1:mI s.bn (n+1)=mI s.bn n++wt n s.bn[n]:=(by rw[mI,U]);unfold Ba;refine eG (c4 (aH (x:=s.bn[n]) (by simp only;rw[dy];exact U) ?_));simp only;rw[fg (by omega),e1];unfold wt;by_cases bh:s.bn[n].jN=2
    ·rw[dw bh];refine ie (Ha bh) (gb (wA (by omega)) (cB (by simp only[dD,aok,dI,dN];omega) (cB (by simp only[dD,aok,dI,dN];omega) ?_)));rw[dA (by omega)];simp
    rw[dA bh];refine gb (wA bh) (cB (by simp only[dD,aok,dI,dN];omega) (cB (by simp only[dD,aok,dI,dN];omega) ?_));by_cases cp:s.bn[n].jN=1
    ·refine ie (Ha cp) ?_;rw[dw cp];simp
    refine gb (wA cp) (cB (by simp only[dD,aok,dI,dN];omega) (cB (by simp only[dD,aok,dI,dN];omega) ?_));rw[dA cp];simp)
  (fun _ _=>by unfold Ba;exact fj rfl) () trivial
 exact aH e rfl
theorem ah0 {α:Type}(a b:Nat)(f:Nat->α):aQ (a+b) f=aQ a f++aQ b (fun j=>f (a+j)):=by
 induction b with
 | zero=>simp[aQ]
 | succ b ih=>rw[<- Nat.add_assoc,kX,ih,kX,List.append_assoc]
def nY (s:cL)(k:Nat):Int×Int:=(rN s k).getD (0,0)
theorem Nh (s:cL)(h:n7 s)(k:Nat)(aX:k<s.bn.length):rN s k=some (nY s k)/\(-100<=(nY s k).1/\(nY s k).1<=100)/\(-100<=(nY s k).2/\(nY s k).2<=100):=by
 obtain⟨x,y,h1,J,ak⟩:=ahQ s h k (by omega) (by omega);have e:nY s k=(x,y):=by unfold nY;rw[h1];rfl
 rw[e];exact⟨h1,J,ak⟩
def jZ (s:cL)(j:Int)(kx k:Nat):Int :=
 match s.bn[k]? with
 | none=>0
 | some x=>if j=x.ei then (if kx=0 then (nY s k).1 else (nY s k).2) else if j=x.eE then -(if kx=0 then (nY s k).1 else (nY s k).2) else 0
theorem aiL (s:cL)(h:n7 s)(j:Int)(kx k:Nat): -100<=jZ s j kx k/\jZ s j kx k<=100:=by
 unfold jZ;split
 ·omega
 rename_i x U;obtain⟨-,J,ak⟩:=Nh s h k (gm U);split
 ·split<;>omega
 split
 ·split<;>omega
 omega
theorem ah1 (s:cL)(h:n7 s)(j:Int)(q1:ar)(q2 bN:Int)(cx:ar):
 LN j q1 q2 bN s.bn (len_ cc s.bn) s.b4 cx 0 ([]:ar) ([]:ar)=some (aQ s.bn.length (jZ s j 0),aQ s.bn.length (jZ s j 1)):=by
 obtain⟨-,-,f3,f4⟩:=id h;unfold LN;rw[fc]
 obtain⟨x,e,-⟩:=h4 (f:=fun w:Int×ar×ar=>Bv j q1 q2 bN s.bn (s.bn.length:Nat) s.b4 cx w.1 w.2.1 w.2.2) (fun (n:Nat) (_:Unit)=>((n:Int),aQ n (jZ s j 0),aQ n (jZ s j 1))) s.bn.length (fun _ _=>True) (fun _=>(aQ s.bn.length (jZ s j 0),aQ s.bn.length (jZ s j 1)))
  (fun n aS _ _=>by
    refine⟨(),?_,trivial⟩;have U:=dz aS;obtain⟨v1,v3,v4⟩:=Nh s h n aS;have v2:=ahR s h n (by omega) (by omega) v1;unfold Bv;refine eG (c4 (aH (x:=s.bn[n]) (by simp only;rw[dy];exact U) (aH (x:=nY s n) v2 ?_)));simp only;rw[fg (by omega),kX,kX];have g : ∀(F:Nat->Int) (v:Int),(aQ n F++[v]).length*8<=140737488355328:=fun F v=>(by simp only[dD,cZ,dI,dN];omega);by_cases bh:j=s.bn[n].ei
    ·have e0 : ∀kx,jZ s j kx n=if kx=0 then (nY s n).1 else (nY s n).2:=fun kx=>(by unfold jZ;rw[U];simp only[dw bh]);refine gb (xF bh) (cB (g _ _) (cB (g _ _) ?_));rw[e0,e0];rfl
    refine ie (va bh) ?_;by_cases cp:j=s.bn[n].eE
    ·have e0 : ∀kx,jZ s j kx n = -(if kx=0 then (nY s n).1 else (nY s n).2):=fun kx=>(by unfold jZ;rw[U];simp only[dA bh,dw cp]);refine gb (xF cp) (cB (g _ _) (cB (g _ _) ?_));rw[e0,e0,cT (by omega) (by omega),cT (by omega) (by omega)];simp
    have e0 : ∀kx,jZ s j kx n=0:=fun kx=>(by unfold jZ;rw[U];simp only[dA bh,dA cp]);refine ie (va cp) (cB (g _ _) (cB (g _ _) ?_));rw[e0,e0])
  (fun _ _=>by unfold Bv;exact fj rfl) () trivial
 exact e
theorem ah2 (s:cL)(h:n7 s)(j:Int)(q1:ar)(q2 bN:Int)(cx:aoI):
 KV s.b4 s.bn j q1 q2 bN (len_ cc s.bn) cx 0 (aQ s.bn.length fun _=>(0:Int)) (aQ s.bn.length fun _=>(0:Int))=some (aQ s.bn.length (jZ s j 0),aQ s.bn.length (jZ s j 1)):=by
 obtain⟨-,-,f3,f4⟩:=id h;unfold KV;rw[fc]
 obtain⟨x,e,-⟩:=h4 (f:=fun w:Int×ar×ar=>AD s.b4 s.bn j q1 q2 bN (s.bn.length:Nat) cx w.1 w.2.1 w.2.2) (fun (n:Nat) (_:Unit)=>((n:Int),(aQ s.bn.length fun k=>if k<n then jZ s j 0 k else 0),aQ s.bn.length fun k=>if k<n then jZ s j 1 k else 0)) s.bn.length (fun _ _=>True) (fun _=>(aQ s.bn.length (jZ s j 0),aQ s.bn.length (jZ s j 1)))
  (fun n aS _ _=>by
    refine⟨(),?_,trivial⟩;have U:=dz aS;obtain⟨v1,v3,v4⟩:=Nh s h n aS
    have c8 : ∀kx v,v=jZ s j kx n->(aQ s.bn.length fun k=>if k<n then jZ s j kx k else 0).set n v=aQ s.bn.length fun k=>if k<n+1 then jZ s j kx k else 0:=fun kx v bf=>by
     rw[kZ];refine eM fun k _=> ?_;by_cases c:k=n
     ·subst c;rw[dw rfl,dw (by omega)];exact bf
     rw[dA c];by_cases cp:k<n
     ·rw[dw cp,dw (by omega)]
     rw[dA cp,dA (by omega)]
    have g1 : ∀F:Nat->Int,0<=((n:Nat):Int)/\((n:Nat):Int)<((aQ s.bn.length F).length:Nat):=fun F=>(by rw[cZ];omega);have g2 : ∀F:Nat->Int,0+((n:Nat):Int).toNat<(aQ s.bn.length F).length:=fun F=>(by rw[cZ,dy];omega);unfold AD;refine eG (c4 (aH (x:=s.bn[n]) (by simp only;rw[dy];exact U) (aH (x:=nY s n) v1 ?_)));simp only;by_cases bh:j=s.bn[n].ei
    ·have e0 : ∀kx,jZ s j kx n=if kx=0 then (nY s n).1 else (nY s n).2:=fun kx=>(by unfold jZ;rw[U];simp only[dw bh]);refine gb (xF bh) (cB (g1 _) (cB (g2 _) (cB (g1 _) (cB (g2 _) ?_))));rw[fg (by omega),dy,dG,c8 0 _ (by rw[e0];rfl),c8 1 _ (by rw[e0];rfl)]
    refine ie (va bh) ?_;by_cases cp:j=s.bn[n].eE
    ·have e0 : ∀kx,jZ s j kx n = -(if kx=0 then (nY s n).1 else (nY s n).2):=fun kx=>(by unfold jZ;rw[U];simp only[dA bh,dw cp]);refine gb (xF cp) (cB (g1 _) (cB (g2 _) (cB (g1 _) (cB (g2 _) ?_))));rw[fg (by omega),dy,dG,cT (by omega) (by omega),cT (by omega) (by omega),c8 0 _ (by rw[e0];simp),c8 1 _ (by rw[e0];simp)]
    have e0 : ∀kx,jZ s j kx n=0:=fun kx=>(by unfold jZ;rw[U];simp only[dA bh,dA cp]);refine ie (va cp) ?_;rw[fg (by omega)];congr 4
    ·refine eM fun k _=> ?_
     by_cases c:k=n
     ·subst c;rw[dA (by omega),dw (by omega),e0]
     by_cases cp:k<n
     ·rw[dw cp,dw (by omega)]
     rw[dA cp,dA (by omega)]
    refine eM fun k _=> ?_;by_cases c:k=n
    ·subst c;rw[dA (by omega),dw (by omega),e0]
    by_cases cp:k<n
    ·rw[dw cp,dw (by omega)]
    rw[dA cp,dA (by omega)])
  (fun _ _=>by
    unfold AD;refine fj ?_;simp only;congr 3
    ·exact eM fun k aX=>by rw[dw aX]
    exact eM fun k aX=>by rw[dw aX]) () trivial
 have z : ∀kx,(aQ s.bn.length fun k=>if k<0 then jZ s j kx k else 0)=aQ s.bn.length fun _=>(0:Int):=fun kx=>eM fun k _=>by rw[dA (by omega)]
 rw[z,z] at e;exact e
def i7 (s:cL)(q:Nat):Nat:=(ms s.b4 0).getD q 0
def fy (s:cL):Nat:=(ms s.b4 0).length
def l1 (s:cL)(r k:Nat):Int:=jZ s (i7 s (r / 2)) (r % 2) k
theorem FJ (s:cL):(ms s.b4 0).map (fun n:Nat=>(n:Int))=aQ (fy s) fun q=>((i7 s q:Nat):Int):=by
 apply aol;intro q;rw[dK];by_cases c:q<fy s
 ·rw[fX c];have h:(ms s.b4 0)[q]? = some (ms s.b4 0)[q]:=dz c;unfold i7;rw[aoc,h];rfl
 rw[List.getElem?_eq_none_iff.2 (by unfold fy at c;omega),List.getElem?_eq_none_iff.2 (by rw[cZ];omega)];rfl
theorem W5 (s:cL){q:Nat}(h:q<fy s):i7 s q<s.b4.length:=by
 have h1:(ms s.b4 0)[q]? = some (ms s.b4 0)[q]:=dz h;have h2:i7 s q=(ms s.b4 0)[q]:=by unfold i7;rw[aoc,h1];rfl
 have:=Na s.b4 0 _ (dH h1);omega
theorem zE (s:cL):fy s<=s.b4.length:=VH s.b4 0
theorem Nv {α:Type}(r n:Nat)(e:Nat->Nat->α):(aQ (r*n) fun x=>e (x / n) (x % n))++aQ n (e r)=aQ ((r+1)*n) fun x=>e (x / n) (x % n):=by
 rw[Nat.succ_mul,ah0];congr 1;refine eM fun j aq=> ?_;have h1:(r*n+j) / n=r:=by rw[Nat.mul_comm,Nat.mul_add_div (by omega),Nat.div_eq_of_lt aq];rfl
 have h2:(r*n+j) % n=j:=by rw[Nat.mul_comm,Nat.mul_add_mod,Nat.mod_eq_of_lt aq]
 rw[h1,h2]
theorem afy (s:cL)(h:n7 s):E3 s=some (aQ (2*fy s*s.bn.length) fun x=>l1 s (x / s.bn.length) (x % s.bn.length)):=by
 obtain⟨-,-,f3,f4⟩:=id h;have wS:=zE s;unfold E3;refine aH (MD s (by omega)) ?_;rw[FJ,gy,cZ];unfold SL
 obtain⟨x,e,-⟩:=h4 (f:=fun w:Int×ar=>Bw (aQ (fy s) fun q=>((i7 s q:Nat):Int)) ((fy s:Nat):Int) s.b4 s.bn w.1 w.2) (fun (n:Nat) (_:Unit)=>((n:Int),aQ (2*n*s.bn.length) fun x=>l1 s (x / s.bn.length) (x % s.bn.length))) (fy s) (fun _ _=>True) (fun _=>aQ (2*fy s*s.bn.length) fun x=>l1 s (x / s.bn.length) (x % s.bn.length))
  (fun n aS _ _=>by refine⟨(),?_,trivial⟩;have aW:2*n*s.bn.length<=12*8:=Nat.mul_le_mul (by omega) f4;unfold Bw;refine eG (c4 (aH (x:=((i7 s n:Nat):Int)) (by simp only;rw[dy];exact fX aS) (aH (ah1 s h _ _ _ _ _) ?_)));refine cB (by simp only[dD,cZ];omega) (cB (by simp only[dD,cZ];omega) ?_);simp only;rw[fg (by omega)];have r1:aQ s.bn.length (jZ s (i7 s n) 0)=aQ s.bn.length (l1 s (2*n)):=eM fun k _=>(by unfold l1;rw[show 2*n / 2=n by omega,show 2*n % 2=0 by omega]);have r2:aQ s.bn.length (jZ s (i7 s n) 1)=aQ s.bn.length (l1 s (2*n+1)):=eM fun k _=>(by unfold l1;rw[show (2*n+1) / 2=n by omega,show (2*n+1) % 2=1 by omega]);rw[r1,r2,Nv (2*n),Nv (2*n+1),show 2*n+1+1=2*(n+1) by omega])
  (fun _ _=>by unfold Bw;exact fj rfl) () trivial
 have z:(aQ (2*0*s.bn.length) fun x=>l1 s (x / s.bn.length) (x % s.bn.length))=[]:=by simp[aQ]
 rw[z] at e;exact aH e rfl
theorem adJ (s:cL)(h:n7 s):D2 s=some (aQ (2*fy s) fun r=>aQ s.bn.length (l1 s r)):=by
 obtain⟨-,-,f3,f4⟩:=id h;have wS:=zE s;unfold D2;refine aH (TC s (by omega)) ?_;rw[FJ,gy,cZ];unfold P9
 obtain⟨x,e,-⟩:=h4 (f:=fun w:Int×aoI=>AE s.b4 s.bn (aQ (fy s) fun q=>((i7 s q:Nat):Int)) ((fy s:Nat):Int) w.1 w.2) (fun (n:Nat) (_:Unit)=>((n:Int),aQ (2*n) fun r=>aQ s.bn.length (l1 s r))) (fy s) (fun _ _=>True) (fun _=>aQ (2*fy s) fun r=>aQ s.bn.length (l1 s r))
  (fun n aS _ _=>by refine⟨(),?_,trivial⟩;unfold AE;refine eG (c4 (aH (x:=((i7 s n:Nat):Int)) (by simp only;rw[dy];exact fX aS) (cB (by rw[fc];omega) ?_)));refine aH (x:=(aQ s.bn.length (jZ s (i7 s n) 0),aQ s.bn.length (jZ s (i7 s n) 1))) (by rw[show (len_ cc s.bn).toNat=s.bn.length by rw[fc,dy],qz];exact ah2 s h _ _ _ _ _) (cB (by simp only[dD,cZ,dI,dN];omega) ?_);simp only;rw[fg (by omega),show 2*(n+1)=2*n+1+1 by omega,kX (2*n+1),kX (2*n)];have r1:aQ s.bn.length (jZ s (i7 s n) 0)=aQ s.bn.length (l1 s (2*n)):=eM fun k _=>(by unfold l1;rw[show 2*n / 2=n by omega,show 2*n % 2=0 by omega]);have r2:aQ s.bn.length (jZ s (i7 s n) 1)=aQ s.bn.length (l1 s (2*n+1)):=eM fun k _=>(by unfold l1;rw[show (2*n+1) / 2=n by omega,show (2*n+1) % 2=1 by omega]);rw[r1,r2];simp)
  (fun _ _=>by unfold AE;exact fj rfl) () trivial
 exact aH e rfl
def gV (s:cL):aoG:=mI s.bn s.bn.length
def cU (s:cL):Nat:=(gV s).length
def gZ (s:cL)(c:Nat):Nat:=((gV s).getD c ⟨0,0⟩).hU.toNat
def om (s:cL)(c:Nat):Int:=((gV s).getD c ⟨0,0⟩).r6
def mB (s:cL)(i c:Nat):Int:=om s c*l1 s i (gZ s c)
def oo (s:cL)(l:ar)(i:Nat):Int:= -(l.getD (2*i7 s (i / 2)+i % 2) 0)
theorem vU (s:cL){c:Nat}(aZ:c<cU s):(gV s)[c]? = some ⟨(gZ s c:Int),om s c⟩/\gZ s c<s.bn.length/\(om s c=1\/om s c = -1):=by
 have h1:(gV s)[c]? = some (gV s)[c]:=dz aZ;have h2:(gV s).getD c ⟨0,0⟩=(gV s)[c]:=by rw[aoc,h1];rfl
 obtain⟨k,e1,e2,bJ⟩:=VR (dE _) (dH h1);have c1:gZ s c=k:=by unfold gZ;rw[h2,e1];rfl
 have dl:om s c=((gV s)[c]).r6:=by unfold om;rw[h2]
 refine⟨?_,by omega,by rw[dl];exact bJ⟩;rw[h1,c1,dl,<- e1]
theorem xq (s:cL):cU s<=2*s.bn.length:=Jb _ _
theorem Wv (s:cL):(gV s).map fJ.hU=aQ (cU s) fun c=>((gZ s c:Nat):Int):=by
 apply aol;intro c;rw[dK];by_cases h:c<cU s
 ·rw[(vU s h).1,fX h];rfl
 rw[List.getElem?_eq_none_iff.2 (by unfold cU at h;omega),List.getElem?_eq_none_iff.2 (by rw[cZ];omega)];rfl
theorem Ww (s:cL):(gV s).map fJ.r6=aQ (cU s) (om s):=by
 apply aol;intro c;rw[dK];by_cases h:c<cU s
 ·rw[(vU s h).1,fX h];rfl
 rw[List.getElem?_eq_none_iff.2 (by unfold cU at h;omega),List.getElem?_eq_none_iff.2 (by rw[cZ];omega)];rfl
theorem N5 (s:cL)(h:n7 s)(i:Nat){c:Nat}(aZ:c<cU s): -100<=mB s i c/\mB s i c<=100:=by have h1:=aiL s h (i7 s (i / 2)) (i % 2) (gZ s c);unfold mB l1;rcases(vU s aZ).2.2 with e|e<;>rw[e]<;>omega
theorem ahu (s:cL)(h:n7 s)(l:ar)(aT:l.length=2*s.b4.length)(aW:∀x∈l,-100<=x/\x<=100):EL s l=some (aQ (2*fy s) (oo s l)):=by
 obtain⟨-,-,f3,f4⟩:=id h;have wS:=zE s;unfold EL;refine aH (MD s (by omega)) ?_;rw[FJ,gy,cZ];unfold Sq
 obtain⟨x,e,-⟩:=h4 (f:=fun w:Int×ar=>Bn l (aQ (fy s) fun q=>((i7 s q:Nat):Int)) ((fy s:Nat):Int) w.1 w.2) (fun (n:Nat) (_:Unit)=>((n:Int),aQ (2*n) (oo s l))) (fy s) (fun _ _=>True) (fun _=>aQ (2*fy s) (oo s l))
  (fun n aS _ _=>by refine⟨(),?_,trivial⟩;have cq:=W5 s aS;have rL:R ((2:Int)*((i7 s n:Nat):Int))=((2*i7 s n:Nat):Int):=(by rw[cT (by omega) (by omega)];omega);have wT:R (((2*i7 s n:Nat):Int)+1)=((2*i7 s n+1:Nat):Int):=fg (by omega);have x1:=aW l[2*i7 s n] (List.getElem_mem (by omega));have x2:=aW l[2*i7 s n+1] (List.getElem_mem (by omega));have p1:oo s l (2*n) = -l[2*i7 s n]:=(by unfold oo;rw[show 2*n / 2=n by omega,show 2*n % 2=0 by omega,Nat.add_zero,aoc,dz (by omega)];rfl);have p2:oo s l (2*n+1) = -l[2*i7 s n+1]:=(by unfold oo;rw[show (2*n+1) / 2=n by omega,show (2*n+1) % 2=1 by omega,aoc,dz (by omega)];rfl);unfold Bn;refine eG (c4 (aH (x:=((i7 s n:Nat):Int)) (by simp only;rw[dy];exact fX aS) ?_));rw[rL,wT];refine c4 (aH (x:=l[2*i7 s n]) (by rw[dy];exact dz (by omega)) (c4 (aH (x:=l[2*i7 s n+1]) (by rw[dy];exact dz (by omega)) (cB (by simp only[dD,cZ,dI,dN];omega) ?_))));simp only;rw[fg (by omega),cT (by omega) (by omega),cT (by omega) (by omega),show 2*(n+1)=2*n+1+1 by omega,kX (2*n+1),kX (2*n),p1,p2];simp)
  (fun _ _=>by unfold Bn;exact fj rfl) () trivial
 exact aH e rfl
def x5 (s:cL)(l:ar):kz:=⟨((2*fy s:Nat):Int),(cU s:Int),aQ (2*fy s*cU s) (fun x=>mB s (x / cU s) (x % cU s)),aQ (2*fy s) (oo s l),aQ (cU s) fun _=>0⟩
theorem W6 (s:cL)(h:n7 s)(l:ar)(aW:∀x∈l,-100<=x/\x<=100):nv (x5 s l) (2*fy s) (cU s) (mB s) (oo s l) where
 rows:=rfl
 gV:=rfl
 hr:=cZ ..
 J4:=fun i aa j aq=>by have h1:i*cU s+j<2*fy s*cU s:=(by have:(i+1)*cU s<=2*fy s*cU s:=aob _ aa;rw[Nat.succ_mul] at this;omega);show (aQ _ _)[_]? = _;rw[fX h1];have h2:(i*cU s+j) / cU s=i:=(by rw[Nat.mul_comm,Nat.mul_add_div (by omega),Nat.div_eq_of_lt aq];rfl);have J:(i*cU s+j) % cU s=j:=(by rw[Nat.mul_comm,Nat.mul_add_mod,Nat.mod_eq_of_lt aq]);rw[h2,J]
 PL:=cZ ..
 Oo:=fun i aa=>fX aa
 hm:=by obtain⟨-,-,f3,f4⟩:=id h;have:=zE s;omega
 aS:=by obtain⟨-,-,f3,f4⟩:=id h;have:=xq s;omega
 xZ:=fun i _ j aq=>N5 s h i aq
 vm:=fun i _=>by
  unfold oo;rw[aoc]
  cases c:l[2*i7 s (i / 2)+i % 2]? with
  | none=>simp
  | some x =>
   have:=aW x (dH c);simp only[Option.getD_some];omega
theorem ad3 (s:cL)(h:n7 s)(l:ar)(aT:l.length=2*s.b4.length)(aW:∀x∈l,-100<=x/\x<=100):Ez s l=some (x5 s l):=by
 obtain⟨-,-,f3,f4⟩:=id h;have wS:=zE s;have ph:=xq s;unfold Ez;refine aH (TD s (by omega)) (aH (afy s h) (aH (MD s (by omega)) (aH (ahu s h l aT aW) ?_)));show (if 0<=len_ eI ((gV s).map fJ.hU)/\_ then _ else none)=_;rw[FJ]
 show (if 0<=len_ eI ((gV s).map fJ.hU)/\(8:Int)*len_ eI ((gV s).map fJ.hU)<=281474976710656/\len_ eI ((gV s).map fJ.hU)<9223372036854775808 then
  Lt ((gV s).map fJ.hU) ((gV s).map fJ.r6) (len_ cc s.bn) _ (R ((2:Int)*len_ eI (aQ (fy s) fun q=>((i7 s q:Nat):Int)))) (len_ eI ((gV s).map fJ.hU)) (aQ (2*fy s) (oo s l)) (List.replicate (len_ eI ((gV s).map fJ.hU)).toNat 0) 0 [] >>= fun cC=>some (⟨R ((2:Int)*len_ eI (aQ (fy s) fun q=>((i7 s q:Nat):Int))),len_ eI ((gV s).map fJ.hU),cC,aQ (2*fy s) (oo s l),List.replicate (len_ eI ((gV s).map fJ.hU)).toNat 0⟩:kz) else none)=_
 rw[Wv,Ww,gy,cZ,gy,cZ,dy,fc,show R ((2:Int)*(fy s:Nat))=((2*fy s:Nat):Int) by rw[cT (by omega) (by omega)];omega,qz];refine c4 (aH (x:=aQ (2*fy s*cU s) (fun x=>mB s (x / cU s) (x % cU s))) ?_ rfl);unfold Lt
 obtain⟨x,e,-⟩:=h4 (f:=fun w:Int×ar=>Bc (aQ (cU s) fun c=>((gZ s c:Nat):Int)) (aQ (cU s) (om s)) (s.bn.length:Nat) (aQ (2*fy s*s.bn.length) fun x=>l1 s (x / s.bn.length) (x % s.bn.length)) ((2*fy s:Nat):Int) ((cU s:Nat):Int) (aQ (2*fy s) (oo s l)) (aQ (cU s) fun _=>0) w.1 w.2) (fun (i:Nat) (_:Unit)=>((i:Int),aQ (i*cU s) (fun x=>mB s (x / cU s) (x % cU s)))) (2*fy s) (fun _ _=>True) (fun _=>aQ (2*fy s*cU s) (fun x=>mB s (x / cU s) (x % cU s)))
  (fun i aa _ _=>by
    refine⟨(),?_,trivial⟩;have Yw:i*cU s<=12*16:=Nat.mul_le_mul (by omega) (by omega);have lA:i*s.bn.length<=12*8:=Nat.mul_le_mul (by omega) f4
    obtain⟨y,e2,-⟩:=h4 (f:=fun w:Int×ar=>Bb (aQ (cU s) fun c=>((gZ s c:Nat):Int)) (aQ (cU s) (om s)) (s.bn.length:Nat) (aQ (2*fy s*s.bn.length) fun x=>l1 s (x / s.bn.length) (x % s.bn.length)) (i:Int) ((cU s:Nat):Int) ((2*fy s:Nat):Int) ((cU s:Nat):Int) (aQ (2*fy s) (oo s l)) (aQ (cU s) fun _=>0) w.1 w.2)
     (fun (c:Nat) (_:Unit)=>((c:Int),(aQ (i*cU s) fun x=>mB s (x / cU s) (x % cU s))++aQ c (mB s i))) (cU s) (fun _ _=>True) (fun _=>(aQ (i*cU s) fun x=>mB s (x / cU s) (x % cU s))++aQ (cU s) (mB s i))
     (fun c aZ _ _=>by refine⟨(),?_,trivial⟩;obtain⟨-,jt,my⟩:=vU s aZ;have rE:(i+1)*s.bn.length<=2*fy s*s.bn.length:=aob _ aa;rw[Nat.succ_mul] at rE;have jf:R (R ((i:Int)*((s.bn.length:Nat):Int))+((gZ s c:Nat):Int))=((i*s.bn.length+gZ s c:Nat):Int):=(by rw[<- Int.natCast_mul,cT (x:=((i*s.bn.length:Nat):Int)) (by omega) (by omega),cT (by omega) (by omega)];omega);have h2:(i*s.bn.length+gZ s c) / s.bn.length=i:=(by rw[Nat.mul_comm,Nat.mul_add_div (by omega),Nat.div_eq_of_lt jt];rfl);have J:(i*s.bn.length+gZ s c) % s.bn.length=gZ s c:=(by rw[Nat.mul_comm,Nat.mul_add_mod,Nat.mod_eq_of_lt jt]);have alx:=N5 s h i aZ;unfold Bb;refine eG (c4 (aH (x:=((gZ s c:Nat):Int)) (by simp only;rw[dy];exact fX aZ) (c4 (aH (x:=om s c) (by simp only;rw[dy];exact fX aZ) ?_))));rw[jf];refine c4 (aH (x:=l1 s i (gZ s c)) (by rw[dy,fX (by omega),h2,J]) (cB (by simp only[dD,cZ,dI,dN];omega) ?_));simp only;rw[fg (by omega),kX,show om s c*l1 s i (gZ s c)=mB s i c from rfl,cT (by omega) (by omega),List.append_assoc])
     (fun _ _=>by unfold Bb;exact fj rfl) () trivial
    have z:(aQ (i*cU s) fun x=>mB s (x / cU s) (x % cU s))++aQ 0 (mB s i)=aQ (i*cU s) fun x=>mB s (x / cU s) (x % cU s):=(by simp[aQ]);rw[z] at e2;unfold Bc;refine eG (aH (x:=(aQ (i*cU s) fun x=>mB s (x / cU s) (x % cU s))++aQ (cU s) (mB s i)) (by unfold RG;rw[gy,cZ];exact e2) ?_);simp only;rw[fg (by omega),Nv])
  (fun _ _=>by unfold Bc;exact fj rfl) () trivial
 have z:(aQ (0*cU s) fun x=>mB s (x / cU s) (x % cU s))=[]:=by simp[aQ]
 rw[z] at e;exact e
def x6 (s:cL)(r c:Nat):Int:=if r<2*fy s/\c<cU s then mB s r c else 0
def pP (s:cL)(l:ar)(r:Nat):Int:=if r<2*fy s then oo s l r else 0
def rM (s:cL)(N i c x:Nat):Int:=if (x / N<i\/(x / N=i/\x % N<c))/\x % N<cU s then mB s (x / N) (x % N) else 0
theorem aiM (s:cL){T N i c:Nat}(aZ:c<cU s)(gJ:cU s<=N)(iq:i*N+c<T){v:Int}(bf:v=mB s i c):(aQ T (rM s N i c)).set (i*N+c) v=aQ T (rM s N i (c+1)):=by
 have h2:(i*N+c) / N=i:=by rw[Nat.mul_comm,Nat.mul_add_div (by omega),Nat.div_eq_of_lt (by omega)];rfl
 have J:(i*N+c) % N=c:=by rw[Nat.mul_comm,Nat.mul_add_mod,Nat.mod_eq_of_lt (by omega)]
 rw[kZ];refine eM fun x _=> ?_;unfold rM;by_cases e:x=i*N+c
 ·rw[dw e,e,h2,J,dw ⟨.inr ⟨rfl,by omega⟩,aZ⟩,bf]
 rw[dA e];have dd : ¬(x / N=i/\x % N=c):=fun ⟨a,b⟩=>e (by rw[<- Nat.div_add_mod x N,a,b,Nat.mul_comm]);by_cases d:(x / N<i\/(x / N=i/\x % N<c))/\x % N<cU s
 ·rw[dw d,dw ⟨by omega,d.2⟩]
 rw[dA d,dA (fun Ar=>d ⟨by omega,Ar.2⟩)]
theorem aiN (s:cL)(T N i:Nat):aQ T (rM s N i (cU s))=aQ T (rM s N (i+1) 0):=by
 refine eM fun x _=> ?_;unfold rM;by_cases d:(x / N<i\/(x / N=i/\x % N<cU s))/\x % N<cU s
 ·rw[dw d,dw ⟨by omega,d.2⟩]
 rw[dA d,dA (fun Ar=>d ⟨by omega,Ar.2⟩)]
theorem ah3 (s:cL)(T N:Nat):aQ T (rM s N 0 0)=aQ T fun _=>0:=eM fun x _=>by unfold rM;rw[dA (fun h=>by rcases h.1 with h|h;exact Nat.not_lt_zero _ h;exact Nat.not_lt_zero _ h.2)]
theorem aiO (s:cL)(T N:Nat):aQ T (rM s N (2*fy s) 0)=aQ T fun x=>x6 s (x / N) (x % N):=eM fun x _=>by
 unfold rM x6;by_cases d:x / N<2*fy s/\x % N<cU s
 ·rw[dw d,dw ⟨.inl d.1,d.2⟩]
 rw[dA d,dA (fun Ar=>d ⟨by omega,Ar.2⟩)]
theorem ah4 (s:cL)(l:ar)(M:Nat):(aQ M fun x=>if x<0 then pP s l x else 0)=aQ M fun _=>0:=eM fun j _=>by rw[dA (by omega)]
theorem aiP (s:cL)(l:ar)(M:Nat):(aQ M fun x=>if x<2*fy s then pP s l x else 0)=aQ M (pP s l):=eM fun j _=>by
 by_cases c:j<2*fy s
 ·rw[dw c]
 rw[dA c];unfold pP;rw[dA c]
theorem agq (s:cL)(h:n7 s)(l:ar)(aT:l.length=2*s.b4.length)(aW:∀x∈l,-100<=x/\x<=100)(e6 l7:Nat)(anU:e6<=100)(anV:l7<=100):
 AL s l (e6:Int) (l7:Int)=some (((2*fy s+l7:Nat):Int),((cU s+e6:Nat):Int),aQ ((2*fy s+l7)*(cU s+e6)) (fun x=>x6 s (x / (cU s+e6)) (x % (cU s+e6))),aQ (2*fy s+l7) (pP s l),aQ (cU s+e6) fun _=>0):=by
 obtain⟨-,-,f3,f4⟩:=id h;have wS:=zE s;have ph:=xq s;have anW:(2*fy s+l7)*(cU s+e6)<=112*116:=Nat.mul_le_mul (by omega) (by omega);unfold AL;refine aH (adJ s h) (aH (x:=gV s) (MF s (by omega)) ?_);have jf:R ((len_ (ft 1 eI) (aQ (2*fy s) fun r=>aQ s.bn.length (l1 s r)))+(l7:Int))=((2*fy s+l7:Nat):Int):=by rw[fc,cZ,cT (by omega) (by omega)];omega
 have rL:R ((len_ gu (gV s))+(e6:Int))=((cU s+e6:Nat):Int):=by rw[fc];show R (((cU s:Nat):Int)+(e6:Int))=_;rw[cT (by omega) (by omega)];omega
 have wT:R (((2*fy s+l7:Nat):Int)*((cU s+e6:Nat):Int))=(((2*fy s+l7)*(cU s+e6):Nat):Int):=by rw[<- Int.natCast_mul,cT (by omega) (by omega)]
 rw[jf,rL,wT,dy,dy,dy,qz,qz,qz,fc,cZ];refine c4 (c4 (c4 ?_));refine aH (x:=aQ ((2*fy s+l7)*(cU s+e6)) (fun x=>x6 s (x / (cU s+e6)) (x % (cU s+e6)))) ?_ ?_
 ·unfold P4
  obtain⟨x,e,-⟩:=h4 (f:=fun w:Int×ar=>Az s.b4 s.bn l (gV s) (aQ (2*fy s) fun r=>aQ s.bn.length (l1 s r)) ((2*fy s:Nat):Int) ((2*fy s+l7:Nat):Int) ((cU s+e6:Nat):Int) (aQ (2*fy s+l7) fun _=>0) (aQ (cU s+e6) fun _=>0) w.1 w.2) (fun (i:Nat) (_:Unit)=>((i:Int),aQ ((2*fy s+l7)*(cU s+e6)) (rM s (cU s+e6) i 0))) (2*fy s) (fun _ _=>True) (fun _=>aQ ((2*fy s+l7)*(cU s+e6)) (fun x=>x6 s (x / (cU s+e6)) (x % (cU s+e6))))
   (fun i aa _ _=>by
     refine⟨(),?_,trivial⟩;have G6:(i+1)*(cU s+e6)<=(2*fy s+l7)*(cU s+e6):=aob _ (by omega);rw[Nat.succ_mul] at G6
     obtain⟨y,e2,-⟩:=h4 (f:=fun w:Int×ar=>Ay s.b4 s.bn l (gV s) (i:Int) (aQ s.bn.length (l1 s i)) (aQ (2*fy s) fun r=>aQ s.bn.length (l1 s r)) ((2*fy s:Nat):Int) ((cU s:Nat):Int) ((2*fy s+l7:Nat):Int) ((cU s+e6:Nat):Int) (aQ (2*fy s+l7) fun _=>0) (aQ (cU s+e6) fun _=>0) w.1 w.2) (fun (c:Nat) (_:Unit)=>((c:Int),aQ ((2*fy s+l7)*(cU s+e6)) (rM s (cU s+e6) i c))) (cU s) (fun _ _=>True) (fun _=>aQ ((2*fy s+l7)*(cU s+e6)) (rM s (cU s+e6) i (cU s)))
      (fun c aZ _ _=>by refine⟨(),?_,trivial⟩;obtain⟨l2,jt,my⟩:=vU s aZ;have alx:=N5 s h i aZ;have al7:R (R ((i:Int)*((cU s+e6:Nat):Int))+((c:Nat):Int))=((i*(cU s+e6)+c:Nat):Int):=(by rw[<- Int.natCast_mul,cT (x:=((i*(cU s+e6):Nat):Int)) (by omega) (by omega),cT (by omega) (by omega)];omega);unfold Ay;refine eG (cB (by show _/\((c:Nat):Int)<((cU s:Nat):Int);simp only;omega) (aH (x:=⟨(gZ s c:Int),om s c⟩) (by simp only;rw[dy];exact l2) (c4 (aH (x:=l1 s i (gZ s c)) (by simp only;rw[dy];exact fX jt) ?_))));simp only;rw[al7];refine c4 (c4 ?_);rw[fg (by omega),dy,dG,show om s c*l1 s i (gZ s c)=mB s i c from rfl,cT (by omega) (by omega),aiM s aZ (by omega) (by omega) rfl])
      (fun _ _=>by unfold Ay;exact fj rfl) () trivial
     unfold Az;refine eG (c4 (aH (x:=aQ s.bn.length (l1 s i)) (by simp only;rw[dy];exact fX aa) (aH (x:=aQ ((2*fy s+l7)*(cU s+e6)) (rM s (cU s+e6) i (cU s))) (by unfold P3;rw[fc];exact e2) ?_)));simp only;rw[fg (by omega),aiN])
   (fun _ _=>by unfold Az;refine fj ?_;simp only;rw[aiO]) () trivial
  rw[ah3] at e;exact e
 refine aH (TC s (by omega)) ?_;rw[FJ,gy,cZ];refine aH (x:=aQ (2*fy s+l7) (pP s l)) ?_ rfl;unfold P5
 obtain⟨x,e,-⟩:=h4 (f:=fun w:Int×ar=>AA l (aQ (fy s) fun q=>((i7 s q:Nat):Int)) ((fy s:Nat):Int) ((2*fy s+l7:Nat):Int) ((cU s+e6:Nat):Int) (aQ ((2*fy s+l7)*(cU s+e6)) (fun x=>x6 s (x / (cU s+e6)) (x % (cU s+e6)))) (aQ (cU s+e6) fun _=>0) w.1 w.2) (fun (n:Nat) (_:Unit)=>((n:Int),aQ (2*fy s+l7) fun x=>if x<2*n then pP s l x else 0)) (fy s) (fun _ _=>True) (fun _=>aQ (2*fy s+l7) (pP s l))
  (fun n aS _ _=>by
    refine⟨(),?_,trivial⟩;have cq:=W5 s aS;have rL : ∀a:Nat,a<=1000->R ((2:Int)*((a:Nat):Int))=((2*a:Nat):Int):=fun a bF=>(by rw[cT (by omega) (by omega)];omega);have x1:=aW l[2*i7 s n] (List.getElem_mem (by omega));have x2:=aW l[2*i7 s n+1] (List.getElem_mem (by omega));have p1:pP s l (2*n) = -l[2*i7 s n]:=(by unfold pP oo;rw[dw (by omega),show 2*n / 2=n by omega,show 2*n % 2=0 by omega,Nat.add_zero,aoc,dz (by omega)];rfl);have p2:pP s l (2*n+1) = -l[2*i7 s n+1]:=by unfold pP oo;rw[dw (by omega),show (2*n+1) / 2=n by omega,show (2*n+1) % 2=1 by omega,aoc,dz (by omega)];rfl
    have c8 : ∀k v,v=pP s l k->(aQ (2*fy s+l7) fun x=>if x<k then pP s l x else 0).set k v=aQ (2*fy s+l7) fun x=>if x<k+1 then pP s l x else 0:=fun k v bf=>by
     rw[kZ];refine eM fun j _=> ?_;by_cases c:j=k
     ·subst c;rw[dw rfl,dw (by omega)];exact bf
     rw[dA c];by_cases cp:j<k
     ·rw[dw cp,dw (by omega)]
     rw[dA cp,dA (by omega)]
    unfold AA;refine eG (c4 (aH (x:=((i7 s n:Nat):Int)) (by simp only;rw[dy];exact fX aS) ?_));simp only;rw[rL (i7 s n) (by omega),rL n (by omega),fg (n:=2*i7 s n) (by omega),fg (n:=2*n) (by omega)];refine c4 (aH (x:=l[2*i7 s n]) (by rw[dy];exact dz (by omega)) (c4 (aH (x:=l[2*i7 s n+1]) (by rw[dy];exact dz (by omega)) ?_)));refine c4 (c4 (c4 (cB (by rw[List.length_set,cZ,dy];omega) ?_)));rw[fg (by omega),cT (x:=0-l[2*i7 s n]) (by omega) (by omega),cT (x:=0-l[2*i7 s n+1]) (by omega) (by omega),dy,dy,dG,dG,c8 _ _ (by rw[p1];omega),c8 _ _ (by rw[p2];omega),show 2*(n+1)=2*n+1+1 by omega])
  (fun _ _=>by unfold AA;refine fj ?_;simp only;rw[aiP]) () trivial
 rw[Nat.mul_zero,ah4] at e;exact e
theorem Vi (s:cL)(h:n7 s)(l:ar)(aT:l.length=2*s.b4.length)(aW:∀x∈l,-100<=x/\x<=100):
 AL s l 0 0=some ((x5 s l).hF,(x5 s l).gd,(x5 s l).ei,(x5 s l).eE,(x5 s l).hL):=by
 have e:=agq s h l aT aW 0 0 (by omega) (by omega);rw[show ((0:Nat):Int)=0 from rfl] at e
 have hA:aQ (2*fy s*cU s) (fun x=>x6 s (x / cU s) (x % cU s))=aQ (2*fy s*cU s) (fun x=>mB s (x / cU s) (x % cU s)):=eM fun x U=>by
  have ph:0<cU s:=by
   rcases Nat.eq_zero_or_pos (cU s) with c|c
   ·rw[c,Nat.mul_zero] at U;omega
   exact c
  unfold x6;rw[dw ⟨Nat.div_lt_of_lt_mul (by rw[Nat.mul_comm];exact U),Nat.mod_lt _ ph⟩]
 have gl:aQ (2*fy s) (pP s l)=aQ (2*fy s) (oo s l):=eM fun x U=>by unfold pP;rw[dw U]
 rw[e];simp only[Nat.add_zero,x5];rw[hA,gl]
theorem ah5 {x:Rat}(h:eO x):Ft (gT x)=some (cb x):=by have p:=h.di;have h1:=p.o4;have h2:=p.oy;refine aH (o:=Et (lQ (eZ x)).s9) (x:=gL (eZ x).1) ?_ (aH (x:=L (eZ x).2) (M8 (a:=L (eZ x).2) (by omega)) rfl);unfold Et;exact lC (by rw[gy];show ¬(60:Int)<((L ((eZ x).1.natAbs:Int)).length:Nat);omega) (aH (x:=L ((eZ x).1.natAbs:Int)) (M8 (a:=L ((eZ x).1.natAbs:Int)) (by omega)) rfl)
theorem ajl (x:Rat):I6 (gT x)=some (gT (-x)):=by
 have e:rO (gL x.num)=some (gL (-x.num)):=by
  have:rO (gL x.num)=(ni (!(decide (x.num<0))) (L (x.num.natAbs:Int))).bind fun r=>some r:=rfl;rw[this,sO (by omega)]
  have:eX (!(decide (x.num<0))) (x.num.natAbs:Int) = -x.num:=by
   unfold eX;by_cases c:x.num<0
   ·rw[decide_eq_true c];simp;omega
   rw[decide_eq_false c];simp;omega
  rw[this];rfl
 refine aH (o:=rO (gL x.num)) e ?_;unfold gT eZ;rw[Rat.neg_num,Rat.neg_den];rfl
theorem Vj {eP:aoC}{k:Nat}: ∀ {n:Nat},k<n->n<=eP.length-> ∃x∈mI eP n,x.hU=(k:Int)
 | 0,h,_=>by omega
 | n+1,h,aS=>by
  rw[mI,dz (show n<eP.length by omega)];by_cases e:k=n
  ·subst e
   simp only;unfold wt;by_cases c:eP[k].jN=2
   ·exact⟨⟨(k:Int),-1⟩,by rw[List.mem_append,List.mem_append,dA (show ¬eP[k].jN=1 by omega)];exact .inr (.inr (by simp)),rfl⟩
   exact⟨⟨(k:Int),1⟩,by rw[List.mem_append,List.mem_append,dA c];exact .inr (.inl (by simp)),rfl⟩
  obtain⟨x,h1,h2⟩:=Vj (eP:=eP) (k:=k) (n:=n) (by omega) (by omega);exact⟨x,List.mem_append_left _ h1,h2⟩
theorem ahv (s:cL){k:Nat}(aX:k<s.bn.length): ∃c,c<cU s/\gZ s c=k:=by obtain⟨x,h1,h2⟩:=Vj aX (dE _);obtain⟨c,aZ⟩:=aor h1;have aT:c<cU s:=gm aZ;obtain⟨e,-,-⟩:=vU s aT;have e2:(gV s)[c]? = some x:=aZ;rw[e2] at e;have:=dJ e;rw[this] at h2;exact⟨c,aT,by simp only at h2;omega⟩
def jg (s:cL)(x:Nat->Rat)(c k:Nat):Rat:=ct c fun j=>if gZ s j=k then (om s j:Rat)*x j else 0
def tx (s:cL)(c k:Nat):Bool:=(List.range c).any fun j=>gZ s j == k
theorem ah6 (s:cL)(c k:Nat):tx s (c+1) k=(tx s c k || (gZ s c == k)):=by unfold tx;rw[List.range_succ,List.any_append];simp
theorem ajm {s:cL}{x:Nat->Rat}{c k:Nat}(h:tx s c k=false):jg s x c k=0:=by unfold tx at h;rw[List.any_eq_false] at h;exact nP fun j aq=>dA fun e=>h j (List.mem_range.2 aq) (by rw[e];simp)
theorem aiQ (s:cL){k:Nat}(aX:k<s.bn.length):tx s (cU s) k=true:=by obtain⟨c,h1,h2⟩:=ahv s aX;unfold tx;exact List.any_eq_true.2 ⟨c,List.mem_range.2 h1,by rw[h2];simp⟩
theorem ajn {s:cL}{x:Nat->Rat}{w:Rat}{K:Nat}(U:∀j,du K (x j*w)): ∀ {c:Nat} (k:Nat),c<=cU s->du (c*K) (jg s x c k*w):=fun {c} k aZ=>by
 have:jg s x c k*w=ct c fun j=>(if gZ s j=k then (om s j:Rat)*x j else 0)*w:=by unfold jg;rw[Rat.mul_comm,<- jU];exact gr fun j _=>Rat.mul_comm _ _
 rw[this];refine du.sum fun j aq=> ?_;obtain⟨-,-,e⟩:=vU s (show j<cU s by omega);split
 ·rcases e with e|e<;>rw[e]
  ·rw[show ((1:Int):Rat)*x j*w=x j*w by grind];exact U j
  rw[show ((-1:Int):Rat)*x j*w = -(x j*w) by grind];exact(U j).neg
 exact⟨0,by rw[Rat.zero_mul];rfl,by simp⟩
theorem ajo {x y:Rat}(U:eO x)(aV:eO y)(h:eO (x+y)):y0 (gT x) (gT y)=some (gT (x+y)):=aH (W4 U aV) (aH (ajk h) rfl)
def tc (s:cL)(x:Nat->Rat)(c:Nat):aoE:=aQ s.bn.length fun k=>if tx s c k then gT (jg s x c k) else none
theorem ah7 (s:cL)(v:n7 s){x:Nat->Rat}(U:∀j,eO (x j))(bC:∀c k,c<=cU s->eO (jg s x c k)):Ej s (aQ (cU s) fun j=>gT (x j))=some (aQ s.bn.length fun k=>gT (jg s x (cU s) k)):=by
 have ba:=v.2.2.2;have ph:=xq s;have aT:len_ cc s.bn=((s.bn.length:Nat):Int):=fc ..;have jq:len_ gu (gV s)=((cU s:Nat):Int):=fc ..;unfold Ej;rw[aT];refine c4 (aH (x:=gV s) (MF s (by omega)) (aH ?_ rfl));unfold QU;rw[jq]
 obtain⟨z,e,-⟩:=h4 (f:=fun w:Int×aoE=>AU (aQ (cU s) fun j=>gT (x j)) (gV s) ((cU s:Nat):Int) w.1 w.2) (fun (c:Nat) (_:Unit)=>((c:Int),tc s x c)) (cU s) (fun _ _=>True) (fun _=>aQ s.bn.length fun k=>gT (jg s x (cU s) k))
  (fun c aZ _ _=>by
    refine⟨(),?_,trivial⟩;obtain⟨l2,jt,my⟩:=vU s aZ
    have fin : ∀y,y=gT (jg s x (c+1) (gZ s c))->(tc s x c).set (gZ s c) y=tc s x (c+1):=fun y aV=>by
     unfold tc;rw[kZ];refine eM fun k _=> ?_;rw[ah6];by_cases e:k=gZ s c
     ·subst e;rw[dw rfl,aV];simp
     have e2:jg s x (c+1) k=jg s x c k:=(by show jg s x c k+(if gZ s c=k then _ else _)=_;rw[dA (fun q=>e q.symm)];grind);rw[dA e,e2,show (gZ s c == k)=false from beq_false_of_ne (fun q=>e q.symm),Bool.or_false]
    have last:jg s x (c+1) (gZ s c)=jg s x c (gZ s c)+(om s c:Rat)*x c:=(by show jg s x c _+(if gZ s c=gZ s c then _ else _)=_;rw[dw rfl]);have hlen:(tc s x c).length=s.bn.length:=cZ ..;have XR:(tc s x c)[0+((gZ s c:Nat):Int).toNat]? = some (if tx s c (gZ s c) then gT (jg s x c (gZ s c)) else none):=by rw[dy];exact hl jt
    have put : ∀ {F:aoK->Prop} {y:Rat},y=(om s c:Rat)*x c->eO y ->
     ((if tx s c (gZ s c) then gT (jg s x c (gZ s c)) else none:aov).elim (if (0+((gZ s c:Nat):Int).toNat)<(tc s x c).length then some (Sum.inl (R ((c:Int)+(1:Int)),(tc s x c).set (0+((gZ s c:Nat):Int).toNat) (gT y))) else none)
       fun _=>y0 (if tx s c (gZ s c) then gT (jg s x c (gZ s c)) else none) (gT y) >>= fun dk=>if (0+((gZ s c:Nat):Int).toNat)<(tc s x c).length then some (Sum.inl (R ((c:Int)+(1:Int)),(tc s x c).set (0+((gZ s c:Nat):Int).toNat) dk)) else none)
     = some (Sum.inl (((c+1:Nat):Int),tc s x (c+1)):(Int×aoE)⊕(aoE)):=fun {F y} aV Zr=>by
     rw[fg (by omega),dy,dG]
     cases q:tx s c (gZ s c) with
     | false =>
      rw[dA (by simp)];show (if _ then _ else _)=_;rw[dw (by rw[hlen];exact jt),fin _ (by rw[last,ajm q,aV];congr 1;grind)]
     | true =>
      rw[dw rfl];show (y0 (gT (jg s x c (gZ s c))) (gT y) >>= _)=_;have bG:eO (jg s x c (gZ s c)+y):=(by rw[aV,<- last];exact bC _ _ aZ);refine aH (ajo (bC _ _ (Nat.le_of_lt aZ)) Zr bG) ?_;rw[dw (by rw[hlen];exact jt),fin _ (by rw[last,aV])]
    unfold AU;simp only;refine eG (cB (by show _/\((c:Nat):Int)<((cU s:Nat):Int);omega) (aH l2 (c4 (aH (x:=gT (x c)) (by rw[dy];exact fX aZ) ?_))));rcases my with e|e
    ·refine fj (cB (by rw[hlen];simp only;omega) (aH XR ?_));exact put (F:=fun _=>True) (by rw[e];grind) (U c)
    refine eG (aH (ajl (x c)) (cB (by rw[hlen];simp only;omega) (aH XR ?_)));exact put (F:=fun _=>True) (by rw[e];grind) (U c).neg)
  (fun _ _=>by unfold AU;refine fj ?_;simp only;congr 2;exact eM fun k aX=>by rw[aiQ s aX,dw rfl]) () trivial
 have e0:tc s x 0=List.replicate (((s.bn.length:Nat):Int).toNat) none:=by rw[dy,qz];exact eM fun k _=>rfl
 rw[<- e0];exact e
theorem agr {n:Nat}(aS:n<=40){y:Nat->Rat}(aV:∀k,k<n->eO (y k)):Fl (aQ n fun k=>gT (y k))=some (aQ n (fun k=>cb (y k)),true):=by
 have aT:len_ (df 3 bS) (aQ n fun k=>gT (y k))=((n:Nat):Int):=by rw[fc,cZ]
 unfold Fl;rw[aT];refine c4 (aH (x:= .inl (aQ n fun k=>cb (y k))) ?_ rfl);unfold Tp
 obtain⟨z,e,-⟩:=h4 (f:=fun w:Int×aou=>BS (aQ n fun k=>gT (y k)) ((n:Nat):Int) w.1 w.2) (fun (k:Nat) (_:Unit)=>((k:Int),aQ n fun j=>if j<k then cb (y j) else (⟨⟨false,[]⟩,[]⟩:ao))) n (fun _ _=>True) (fun _=>(.inl (aQ n fun k=>cb (y k)):aou⊕Unit))
  (fun k aX _ _=>by
    refine⟨(),?_,trivial⟩;unfold BS;simp only;refine eG (c4 (aH (x:=gT (y k)) (by rw[dy];exact fX aX) ?_));show (Ft (gT (y k)) >>= _)=_;refine aH (ah5 (aV k aX)) (c4 (c4 ?_));rw[fg (by omega),dy,dG,kZ];congr 3;refine eM fun j _=> ?_;by_cases bh:j=k
    ·subst bh;rw[dw rfl,dw (by omega)]
    rw[dA bh];by_cases cp:j<k
    ·rw[dw cp,dw (by omega)]
    rw[dA cp,dA (by omega)])
  (fun _ _=>by unfold BS;refine fj ?_;simp only;congr 3;exact eM fun j aq=>by rw[dw aq]) () trivial
 have e0:(aQ n fun j=>if j<0 then cb (y j) else (⟨⟨false,[]⟩,[]⟩:ao))=List.replicate (((n:Nat):Int).toNat) ⟨⟨false,[]⟩,[]⟩:=by rw[dy,qz];exact eM fun j _=>by rw[dA (by omega)]
 rw[<- e0];exact e
structure XS (m n:Nat) (a:Nat->Nat->Int) (b:Nat->Int) (c:Nat->Rat) (x:Nat->Rat) (w:Rat):Prop where
 m7:uQ m n a b c x
 pos:0<w
 pN:du (m9 100 m) w
 Zs : ∀j,du (m9 100 m) (x j*w)
 fit : ∀j,eO (x j)
theorem aiR {m:Nat}(hm:m<=20):m9 100 m<=eL:=Dd▸yX (by omega) hm
theorem NU {s:cL}{x:Nat->Rat}{w:Rat}{m:Nat}(hm:m<=20)(ph:cU s<=16)(af:0<w)(hw:du (m9 100 m) w)(U:∀j,du (m9 100 m) (x j*w)){c:Nat}(k:Nat)(aZ:c<=cU s):eO (jg s x c k):=by
 have h1:=ajn U k aZ;have iN:=aiR hm;have h2:c*m9 100 m<=16*eL:=Nat.mul_le_mul (by omega) iN;have J:16*eL<=40*(eL*100):=by omega
 exact rq (K:=21*100*(eL*eL)) (hw.mono (Nat.le_trans iN Dm)) (h1.mono (Nat.le_trans h2 (Nat.le_trans J Ov))) (by grind) (by grind) (p4 (dE _))
theorem ahw {α:Type}{T n:Nat}(f:Nat->α)(h:n<=T):(aQ T f).take n=aQ n f:=by
 apply aol;intro i;by_cases c:i<n
 ·rw[an9,dw c,fX (by omega),fX c]
 rw[an9,dA c,List.getElem?_eq_none_iff.2 (by rw[cZ];omega)]
theorem ah8 (s:cL)(v:n7 s){p:kz}{m n:Nat}{a:Nat->Nat->Int}{b:Nat->Int}(h:nv p m n a b){c:Nat->Int}(ph:p.hL=aQ n c)(aZ:∀j,j<n-> -100<=c j/\c j<=100)(aS:cU s<=n):
 (¬rv m n a b/\yb s p.hF p.gd p.ei p.eE p.hL=some ([],[],false))\/(rv m n a b/\ ¬Bounded m n a b (iB n c)/\yb s p.hF p.gd p.ei p.eE p.hL=some ([],[],false)) \/
   ∃x w r,XS m n a b (iB n c) x w/\yb s p.hF p.gd p.ei p.eE p.hL=some (aQ s.bn.length (fun k=>gT (jg s x (cU s) k)),r,true):=by
 have ba:=v.2.2.2;have anX:=xq s;obtain⟨r,e,ai⟩:=ahq h ph aZ;rcases ai with ⟨q,rfl⟩|⟨q,q2,rfl⟩|⟨x,w,q,⟨jf,rL,wT⟩,bN,cx,rfl⟩
 ·exact .inl ⟨q,aH e (gb rfl rfl)⟩
 ·exact .inr (.inl ⟨q,q2,aH e (gb rfl rfl)⟩)
 have jq:len_ gu (gV s)=((cU s:Nat):Int):=fc ..;have cq:=ah7 s v bN (fun c k aZ=>NU h.hm (by omega) jf rL wT k aZ);have key : ∃r,yb s p.hF p.gd p.ei p.eE p.hL=some (aQ s.bn.length (fun k=>gT (jg s x (cU s) k)),r,true):=by refine⟨((aQ n fun j=>gT (x j)).drop (cU s)).take (((aQ n fun j=>gT (x j)).map (df 3 bS)).length-cU s),aH e (ie rfl (aH (x:=gV s) (MF s (by omega)) ?_))⟩;rw[jq];simp only[dy];refine c4 (cB (by simp only[cZ];omega) (aH ?_ (cB (by simp only[cZ];omega) rfl)));simp only[List.drop_zero,Nat.sub_zero];rw[ahw _ aS];exact cq
 obtain⟨r,ai⟩:=key;exact .inr (.inr ⟨x,w,r,⟨q,jf,rL,wT,bN⟩,ai⟩)
theorem TO {m n:Nat}{a:Nat->Nat->Int}{b:Nat->Int}:Bounded m n a b (iB n fun _=>0):=⟨0,fun y _=>by
 unfold val;rw[nP fun j aq=> ?_]
 ·exact Rat.le_refl
 have:iB n (fun _=>0) j=0:=by unfold iB oz;simp only;split<;>rfl
 rw[this];grind⟩
theorem ah9 (s:cL)(v:n7 s){l:ar}(ok:yJ s l=some true)(aT:l.length=2*s.b4.length)(aW:∀x∈l,-100<=x/\x<=100):
 (¬rv (2*fy s) (cU s) (mB s) (oo s l)/\vt s l=some ([],false)) \/
   ∃x w,XS (2*fy s) (cU s) (mB s) (oo s l) (iB (cU s) fun _=>0) x w/\vt s l=some (aQ s.bn.length (fun k=>cb (jg s x (cU s) k)),true):=by
 have ba:=v.2.2.2;have ph:=xq s;have af:=W6 s v l aW;unfold vt;rcases ah8 s v af (c:=fun _=>0) rfl (fun j _=>by omega) (dE _) with ⟨q,e⟩|⟨q,q2,e⟩|⟨x,w,r,q,e⟩
 ·exact .inl ⟨q,aH ok (gb rfl (aH (Vi s v l aT aW) (aH e (ie rfl rfl))))⟩
 ·exact(q2 TO).elim
 refine .inr ⟨x,w,q,aH ok (gb rfl (aH (Vi s v l aT aW) (aH e (gb rfl (aH (agr (by omega) fun k _=>NU af.hm (by omega) q.pos q.pN q.Zs k (dE _)) rfl)))))⟩
theorem adK (iH:aoD)(n:Int)(eP aly:aoC):vq iH n aly 0=vq iH n eP 0:=by unfold vq;congr 1
theorem ado (s:cL)(i0:n9 s)(h:lV s=some true)(eP:aoC)(bG:∀m∈eP,m∈s.bn)(aT:eP.length<=s.bn.length):lV ⟨s.b4,eP⟩=some true:=by
 obtain⟨-,f2,f3,f4⟩:=yu s i0 h;obtain⟨r,ai⟩:=LA s i0;have d1:decide ((6:Int)<len_ ca s.b4)=false:=by rw[fc];exact decide_eq_false (by omega)
 have d2:decide ((8:Int)<len_ cc s.bn)=false:=by rw[fc];exact decide_eq_false (by omega)
 have d3:decide ((8:Int)<len_ cc eP)=false:=by rw[fc];exact decide_eq_false (by omega)
 have sw:r = .inl ():=by
  cases r with
  | inl a=>rfl
  | inr a =>
   unfold lV at h;rw[d1,d2,ai] at h;simp at h
 subst sw;have s8 : ∀m∈eP,rb s.b4 m=true:=fun m hm=>by obtain⟨n,aS⟩:=aor (bG m hm);exact f2 n m aS
 have a0:AF eP s.b4 eP (len_ cc eP) 0=some (.inl ()):=by
  unfold AF;rw[fc]
  obtain⟨x,e,-⟩:=h4 (f:=fun w:Int=>pQ eP s.b4 eP (eP.length:Nat) w) (fun (i:Nat) (_:Unit)=>(i:Int)) eP.length (fun _ _=>True) (fun _=>(Sum.inl ():Unit⊕Int))
   (fun i aa _ _=>by
     refine⟨(),?_,trivial⟩;have U:=dz aa;have aW:=s8 eP[i] (List.getElem_mem aa);unfold pQ yp;refine eG (c4 (aH (x:=eP[i]) (by rw[dy];exact U) (aH (x:=false) (aH (IC _ _) (by simp[aW])) (ie rfl (by rw[fg (by omega)])))))
     )
   (fun _ _=>by unfold pQ;exact fj rfl) () trivial
  exact e
 have Po:Lj (R (len_ ca s.b4-1)) eP (len_ cc eP) s.b4 0=some (Sum.map id (fun _=>()) (Sum.inl ():Unit⊕Int)) :=
  M4 (f:=fun w=>pQ eP s.b4 eP (len_ cc eP) w) (Sum.map id fun _=>()) (fun _=>True) (fun _ _ _ _=>trivial)
   (fun i _=>Ts s.b4 eP (by omega) (by omega) i) 0 _ a0 trivial
 unfold lV;simp only[d1,d3,dT,if_false];rw[adK s.b4 _ s.bn eP,ai];exact aH rfl (aH Po rfl)
def pc (eP:aoC)(list:ar):Nat->aoC
 | 0=>[]
 | n+1=>pc eP list n++(match eP[n]? with
  | some x=>if (n:Int)∈list then [] else [x]
  | none=>[])
theorem FR (eP:aoC)(list:ar): ∀n,(pc eP list n).length<=n
 | 0=>by simp[pc]
 | n+1=>by
  have:=FR eP list n;rw[pc,dD];split
  ·split
   ·simp only[dN];omega
   simp only[dI,dN];omega
  simp only[dN];omega
theorem Nw {eP:aoC}{list:ar}: ∀ {n:Nat} {m:c0},m∈pc eP list n->m∈eP
 | 0,m,h=>by simp[pc] at h
 | n+1,m,h=>by
  rw[pc,List.mem_append] at h;rcases h with h|h
  ·exact Nw h
  split at h
  ·rename_i x U
   split at h
   ·simp at h
   simp at h;subst h;exact dH U
  simp at h
def wK (s:cL)(list:ar):cL:=⟨s.b4,pc s.bn list s.bn.length⟩
theorem XT {n:Nat}(h:n<1000000000000):R ((n:Int)+1)=((n+1:Nat):Int):=by rw[cT (by omega) (by omega)];omega
theorem aiS (list:ar)(aT:list.length<=1048576)(k:Int):Fh list k=some (decide (k∈list)):=by
 unfold Fh Th;rw[gy]
 obtain⟨r,e,h⟩:=qv (f:=fun w:Int=>BP k list (list.length:Nat) w) (fun (i:Nat) (_:Unit)=>(i:Int)) list.length (fun i _=> ∀j,j<i->list[j]? ≠ some k) (fun r=>(r = .inr ()/\k∈list)\/(r = .inl ()/\k ∉ list))
  (fun i aa _ cQ=>by
    have U:=dz aa;unfold BP;by_cases c:list[i]=k
    ·right;exact⟨_,eG (c4 (aH (x:=list[i]) (by rw[dy];exact U) (gb (xF c) rfl))),.inl ⟨rfl,c▸List.getElem_mem aa⟩⟩
    left;refine⟨(),eG (c4 (aH (x:=list[i]) (by rw[dy];exact U) (ie (va c) (by rw[XT (by omega)])))),fun j aq=> ?_⟩;by_cases e:j=i
    ·rw[e,U];exact fun h=>c (dJ h)
    exact cQ j (by omega))
  (fun _ cQ=>⟨_,by unfold BP;exact fj rfl,.inr ⟨rfl,fun aX=>by obtain⟨j,aq,e⟩:=List.getElem_of_mem aX;exact cQ j aq (by rw[dz aq,e])⟩⟩) () (fun j aq=>by omega)
 rcases h with ⟨rfl,h⟩|⟨rfl,h⟩
 ·exact aH e (by rw[decide_eq_true h])
 exact aH e (by rw[decide_eq_false h])
theorem aeO (list:ar)(aT:list.length<=1048576)(k:Int):vG list k=some (decide (k∈list)):=by
 unfold vG FP Mx;rw[gy]
 obtain⟨r,e,h⟩:=qv (f:=fun w:Int=>vw list k (list.length:Nat) w) (fun (i:Nat) (_:Unit)=>(i:Int)) list.length (fun i _=> ∀j,j<i->list[j]? ≠ some k) (fun r=>(∃i:Nat,r = .inr (i:Int)/\k∈list)\/(r = .inl ()/\k ∉ list))
  (fun i aa _ cQ=>by
    have U:=dz aa;unfold vw;by_cases c:list[i]=k
    ·right;exact⟨_,eG (c4 (aH (x:=list[i]) (by rw[dy];exact U) (gb (xF c.symm) rfl))),.inl ⟨i,rfl,c▸List.getElem_mem aa⟩⟩
    left;refine⟨(),eG (c4 (aH (x:=list[i]) (by rw[dy];exact U) (ie (va (Ne.symm c)) (by rw[XT (by omega)])))),fun j aq=> ?_⟩;by_cases e:j=i
    ·rw[e,U];exact fun h=>c (dJ h)
    exact cQ j (by omega))
  (fun _ cQ=>⟨_,by unfold vw;exact fj rfl,.inr ⟨rfl,fun aX=>by obtain⟨j,aq,e⟩:=List.getElem_of_mem aX;exact cQ j aq (by rw[dz aq,e])⟩⟩) () (fun j aq=>by omega)
 rcases h with ⟨i,rfl,h⟩|⟨rfl,h⟩
 ·exact aH (x:=(i:Int)) (aH e rfl) (by rw[decide_eq_true h];simp)
 exact aH (x:=(-1:Int)) (aH e rfl) (by rw[decide_eq_false h];rfl)
theorem aeP (s:cL)(aq:s.b4.length<=1000)(hm:s.bn.length<=1000)(list:ar)(aT:list.length<=1048576):Eh s list=some (wK s list):=by
 unfold Eh QS;rw[fc,List.nil_append]
 obtain⟨x,e,-⟩:=h4 (f:=fun w:Int×aoC=>AS list s.bn (s.bn.length:Nat) s.b4 w.1 w.2) (fun (i:Nat) (_:Unit)=>((i:Int),pc s.bn list i)) s.bn.length (fun _ _=>True) (fun _=>pc s.bn list s.bn.length)
  (fun i aa _ _=>by
    refine⟨(),?_,trivial⟩;have U:=dz aa;have hw:=FR s.bn list i;have e1:pc s.bn list (i+1)=pc s.bn list i++(if (i:Int)∈list then [] else [s.bn[i]]):=(by rw[pc,U]);unfold AS;refine eG (c4 (aH (x:=s.bn[i]) (by simp only;rw[dy];exact U) (aH (aiS list aT _) ?_)));simp only;rw[fg (by omega),e1];by_cases c:(i:Int)∈list
    ·rw[dw c];exact gb (decide_eq_true c) (by rw[List.append_nil])
    rw[dA c];exact ie (decide_eq_false c) (cB (by simp only[dD,dI,dN];omega) rfl))
  (fun _ _=>by unfold AS;exact fj rfl) () trivial
 exact c4 (aH e rfl)
theorem aeQ (s:cL)(aq:s.b4.length<=1000)(hm:s.bn.length<=1000)(list:ar)(aT:list.length<=1048576):Ek s list=some (wK s list):=by
 unfold Ek QW Il;rw[fc];refine aH (x:=s.b4) (c4 rfl) ?_
 obtain⟨x,e,-⟩:=h4 (f:=fun w:Int×aoC=>AW list s.bn (s.bn.length:Nat) s.b4 w.1 w.2) (fun (i:Nat) (_:Unit)=>((i:Int),pc s.bn list i)) s.bn.length (fun _ _=>True) (fun _=>pc s.bn list s.bn.length)
  (fun i aa _ _=>by
    refine⟨(),?_,trivial⟩;have U:=dz aa;have hw:=FR s.bn list i;have e1:pc s.bn list (i+1)=pc s.bn list i++(if (i:Int)∈list then [] else [s.bn[i]]):=(by rw[pc,U]);unfold AW;refine eG (c4 (aH (x:=s.bn[i]) (by simp only;rw[dy];exact U) (aH (aeO list aT _) ?_)));simp only;rw[fg (by omega),e1];by_cases c:(i:Int)∈list
    ·rw[dw c];exact gb (decide_eq_true c) (by rw[List.append_nil])
    rw[dA c];exact ie (decide_eq_false c) (cB (by simp only[dD,dI,dN];omega) rfl))
  (fun _ _=>by unfold AW;exact fj rfl) () trivial
 exact aH e rfl
theorem aeR {Aw:Nat}{l:ar}(h:wa Aw l=true):l.length=2*Aw/\ ∀x∈l,-100<=x/\x<=100:=by unfold wa at h;rw[dQ,decide_eq_true_eq,List.all_eq_true] at h;exact⟨h.1,fun x U=>by have:=h.2 x U;unfold sY at this;simpa using this⟩
theorem ags (s:cL)(i0:n9 s)(l:ar)(aT:l.length<=maxLen):
 (yH s l=some true/\yJ s l=some true/\lV s=some true/\wa s.b4.length l=true)\/(yH s l=some false/\yJ s l=some false):=by
 obtain⟨p,p1,p2⟩:=LK s i0;have uu:p=true->s.b4.length<=6:=fun h=>(yu s i0 (h▸p1)).2.2.1;have e:=agf s p p1 uu l aT
 cases p with
 | false=>exact .inr ⟨e,aH p2 (ie rfl rfl)⟩
 | true =>
  rw[Bool.true_and] at e;have e2:yJ s l=some (wa s.b4.length l):=aH p2 (gb rfl (aH (aeJ s (uu rfl) l aT) rfl));by_cases c:wa s.b4.length l=true
  ·rw[c] at e e2;exact .inl ⟨e,e2,p1,c⟩
  rw[Bool.not_eq_true] at c;rw[c] at e e2;exact .inr ⟨e,e2⟩
theorem ahx (s:cL)(i0:n9 s)(h:lV s=some true)(list:ar):
 n9 (wK s list)/\lV (wK s list)=some true:=by
 refine⟨⟨i0.1,?_⟩,ado s i0 h _ (fun m hm=>Nw hm) (FR ..)⟩;refine⟨?_,fun m hm=>i0.2.2 m (Nw hm)⟩;exact Nat.le_trans (FR ..) i0.2.1
theorem aiT {x y:Rat}(U:eO x)(aV:eO y)(h:eO (x+y)):IA (cb x) (cb y)=some (cb (x+y)):=aH (xp U) (gb rfl (aH (xp aV) (gb rfl (aH (F6 U aV h) rfl))))
theorem aiU {x y:Rat}(U:eO x)(aV:eO y)(h:eO (x + -y)):IB (cb x) (cb y)=some (cb (x + -y)):=aH (xp U) (gb rfl (aH (xp aV) (gb rfl (aH (JF aV) (aH (F6 U aV.neg h) rfl)))))
theorem VS {n:Nat}(aS:n<=1000){y:Nat->Rat}(aV:∀k,k<n->eO (y k)):tA (aQ n fun k=>cb (y k))=some true:=by
 have aT:len_ aG (aQ n fun k=>cb (y k))=((n:Nat):Int):=by rw[fc,cZ]
 unfold tA;rw[aT];refine aH (x:= .inl ()) ?_ rfl;unfold LJ
 obtain⟨_,e,-⟩:=h4 (f:=fun w:Int=>vp (aQ n fun k=>cb (y k)) ((n:Nat):Int) w) (fun (k:Nat) (_:Unit)=>(k:Int)) n (fun _ _=>True) (fun _=>(.inl ():Unit⊕Unit))
  (fun k aX _ _=>by refine⟨(),?_,trivial⟩;unfold vp;exact eG (c4 (aH (gt rfl (fX aX)) (aH (xp (aV k aX)) (gb rfl (by rw[fg (by omega)]))))))
  (fun _ _=>by unfold vp;exact fj rfl) () trivial
 exact e
theorem agt {n:Nat}(aS:n<=24):Er (n:Int)=some (.inl (aQ n fun _=>cb 0)):=by
 have e5:Ir=some (cb 0):=aH (r4 (n:=0) (la.2 (by omega))) rfl;unfold Er;refine aH (uN _ _ _) (gb (decide_eq_true (by omega)) (aH (x:=aQ n fun _=>cb 0) ?_ rfl));unfold H9 RT
 obtain⟨_,e,-⟩:=h4 (f:=fun w:aou=>Bk (n:Int) w) (fun (k:Nat) (_:Unit)=>aQ k fun _=>cb (0:Rat)) n (fun _ _=>True) (fun _=>aQ n fun _=>cb (0:Rat))
  (fun k aX _ _=>by refine⟨(),?_,trivial⟩;unfold Bk;refine l5 (by rw[cZ];omega) (aH e5 (cB (by simp only[dD,cZ,List.length_singleton];omega) ?_));rw[kX k])
  (fun _ _=>by unfold Bk;exact lC (by rw[cZ];omega) rfl) () trivial
 exact aH e rfl
theorem ahy (s:cL)(v:n7 s)(ok:lV s=some true){x:Nat->Rat}(U:∀j,eO (x j))(bC:∀c k,c<=cU s->eO (jg s x c k)):En s (aQ (cU s) fun j=>cb (x j))=some (aQ s.bn.length (fun k=>cb (jg s x (cU s) k)),true):=by
 have ba:=v.2.2.2;have ph:=xq s;have hw:yz s=some (aQ (cU s) (fun c=>((gZ s c:Nat):Int)),aQ (cU s) (om s)):=by rw[<- Wv,<- Ww];exact TD s (by omega)
 unfold En;refine aH ok (gb rfl (aH hw ?_));simp only;rw[fc,gy,fc,cZ,cZ];refine ie (Ha rfl) (aH (VS (by omega) fun k _=>U k) (gb rfl (aH (agt (by omega)) ?_)));simp only;refine aH (x:=aQ s.bn.length fun k=>cb (jg s x (cU s) k)) ?_ (aH (VS (by omega) fun k _=>bC _ k (dE _)) (gb rfl rfl));unfold Q8
 obtain⟨_,e,-⟩:=h4 (f:=fun w:Int×aou=>AX (aQ (cU s) fun j=>cb (x j)) (aQ (cU s) (om s)) (aQ (cU s) fun c=>((gZ s c:Nat):Int)) ((cU s:Nat):Int) w.1 w.2) (fun (c:Nat) (_:Unit)=>((c:Int),aQ s.bn.length fun k=>cb (jg s x c k))) (cU s) (fun _ _=>True) (fun _=>aQ s.bn.length fun k=>cb (jg s x (cU s) k))
  (fun c aZ _ _=>by
    refine⟨(),?_,trivial⟩;obtain⟨-,cp,kc⟩:=vU s aZ
    have pL : ∀z,z=jg s x (c+1) (gZ s c)->(aQ s.bn.length fun k=>cb (jg s x c k)).set (0+((gZ s c:Nat):Int).toNat) (cb z)=aQ s.bn.length fun k=>cb (jg s x (c+1) k):=fun z cA=>by
     rw[dy,dG,kZ];refine eM fun k _=> ?_;by_cases e:k=gZ s c
     ·rw[dw e,cA,e]
     rw[dA e];congr 1;unfold jg;rw[ct,dA fun y=>e y.symm,Rat.add_zero]
    have fm:jg s x (c+1) (gZ s c)=jg s x c (gZ s c)+(om s c:Rat)*x c:=(by unfold jg;rw[ct,dw rfl]);have f1:=bC c (gZ s c) (by omega);have f2:=bC (c+1) (gZ s c) (by omega);simp only;unfold AX;refine eG (c4 (aH (gt rfl (fX aZ)) (c4 (aH (gt rfl (fX aZ)) ?_))));have rd:(aQ s.bn.length fun k=>cb (jg s x c k))[0+((gZ s c:Nat):Int).toNat]? = some (cb (jg s x c (gZ s c))):=(by rw[dy];exact hl cp);rcases kc with e|e
    ·have bG:jg s x c (gZ s c)+x c=jg s x (c+1) (gZ s c):=(by rw[fm,e,show ((1:Int):Rat)=1 from rfl,Rat.one_mul]);rw[e];refine eG (c4 (aH rd (c4 (aH (gt rfl (fX aZ)) (aH (aiT f1 (U c) (by rw[bG];exact f2)) (c4 ?_))))));rw[pL _ bG,fg (by omega)]
    have bG:jg s x c (gZ s c) + -x c=jg s x (c+1) (gZ s c):=(by rw[fm,e,show ((-1:Int):Rat) = -1 from rfl];grind);rw[e];refine fj (c4 (aH rd (c4 (aH (gt rfl (fX aZ)) (aH (aiU f1 (U c) (by rw[bG];exact f2)) (c4 ?_))))));rw[pL _ bG,fg (by omega)])
  (fun _ _=>by simp only;unfold AX;exact fj rfl) () trivial
 have e0:(aQ s.bn.length fun k=>cb (jg s x 0 k))=aQ s.bn.length fun _=>cb 0:=eM fun k _=>rfl;rw[e0] at e;exact e
theorem aeS (s:cL)(i0:n9 s)(l:ar)(aT:l.length<=maxLen):
 (yw s l=some ([],false)/\vt s l=some ([],false))\/ ∃z:Nat->Rat,(∀k,eO (z k))/\s.bn.length<=8/\yw s l=some (aQ s.bn.length (fun k=>cb (z k)),true)/\vt s l=some (aQ s.bn.length (fun k=>cb (z k)),true):=by
 unfold yw;rcases ags s i0 l aT with ⟨e1,e2,h,aW⟩|⟨e1,e2⟩;rotate_left
 ·exact .inl ⟨aH e1 (ie rfl rfl),by unfold vt;exact aH e2 (ie rfl rfl)⟩
 have v:=adm s i0 h;have ba:=v.2.2.2;have aP:=v.2.2.1;have ph:=xq s;have wS:=zE s;obtain⟨Zt,o6⟩:=aeR aW;have af:=W6 s v l o6;have Zu:=ad3 s v l Zt o6;obtain⟨r,e,ai⟩:=agp af (c:=fun _=>0) rfl (fun j _=>by omega);rcases ah9 s v e2 Zt o6 with ⟨no,sB⟩|⟨x,w,q,sB⟩
 ·rcases ai with ⟨-,rfl⟩|⟨PS,-,-⟩|⟨y,m7,-⟩
  ·exact .inl ⟨aH e1 (gb rfl (aH Zu (aH e (gb rfl rfl)))),sB⟩
  ·exact(no PS).elim
  exact(no ⟨y,m7.1⟩).elim
 have f:=fun c k (aZ:c<=cU s)=>NU (s:=s) af.hm (by omega) q.pos q.pN q.Zs k aZ;rcases ai with ⟨no,-⟩|⟨-,al8,-⟩|⟨y,m7,Zr,-,rfl⟩
 ·exact(no ⟨x,q.m7.1⟩).elim
 ·exact(al8 TO).elim
 refine .inr ⟨fun k=>jg s x (cU s) k,fun k=>f _ k (dE _),ba,?_,sB⟩;have un:=(m7.unique q.m7).1;have fb:(aQ (cU s) fun j=>cb (y j))=aQ (cU s) fun j=>cb (x j):=eM fun j aq=>by rw[un j aq]
 refine aH e1 (gb rfl (aH Zu (aH e (ie rfl ?_))));simp only;rw[fb];exact aH (ahy s v h q.fit f) rfl
theorem aiV {x:Rat}(h:eO x):F5 (cb x):=by have p:=h.di;have h1:=p.o4;have h2:=p.oy;exact⟨show (L (eZ x).1.natAbs).length<=_ by omega,show (L (eZ x).2).length<=_ by omega⟩
theorem Ub (s:cL)(i0:n9 s)(l:ar)(aT:l.length<=maxLen)(w:ar)(hw:w.length<=maxLen): ∃r,uD s l w=some r/\vE s l w=some r:=by
 unfold uD vE Eo H6;rcases aeS s i0 l aT with ⟨e1,e2⟩|⟨z,ts,ba,e1,e2⟩
 ·exact⟨false,aH (aH e1 (ie rfl rfl)) rfl,aH (aH e2 (ie rfl rfl)) rfl⟩
 obtain⟨r,r1,r2⟩:=adZ s i0 (aQ s.bn.length fun k=>cb (z k)) (by rw[cZ];omega) (fun q a0=>by obtain⟨i,-,rfl⟩:=Nq.1 a0;exact aiV (ts i)) w hw
 cases r with
 | false=>exact⟨false,aH (aH e1 (gb rfl (aH r1 (ie rfl rfl)))) rfl,aH (aH e2 (gb rfl (aH r2 (ie rfl rfl)))) rfl⟩
 | true=>exact⟨true,aH (aH e1 (gb rfl (aH r1 (gb rfl rfl)))) rfl,aH (aH e2 (gb rfl (aH r2 (gb rfl rfl)))) rfl⟩
def Y2:List ByteArray:=[⟨#[97]⟩,⟨#[98]⟩,⟨#[99]⟩,⟨#[100]⟩]
structure KJ (s:cL):Prop where
 v:n7 s
 ok:vr s=some true
 an8:3<=s.b4.length
 iz:2<=s.bn.length
 al9:s.b4.map (·.mG)=Y2.take s.b4.length
 HO : ∀j∈s.b4,-4<=j.iG/\j.iG<=8/\ -9<=j.iY/\j.iY<=3
structure J7 (K:Nat) (z:Nat->Rat) (w:Rat):Prop where
 pos:0<w
 pN:du K w
 ama : ∀k,du K (z k*w)
 alz:1000*K<=21*100*(eL*eL)
theorem J7.fit {K:Nat}{z:Nat->Rat}{w x:Rat}(h:J7 K z w){a:Nat}(bF:a<=1000)(U:du (a*K) (x*w)):eO x:=by have af:=h.pos;have h1:=h.alz;have h2:a*K<=1000*K:=aob _ bF;exact rq (K:=21*100*(eL*eL)) (h.pN.mono (by omega)) (U.mono (by omega)) (by grind) (by grind) (p4 (dE _))
theorem du.int {z:Int}{K:Nat}(h:z.natAbs<=K):du K (z:Rat):=⟨z,rfl,h⟩
theorem J7.fits {K:Nat}{z:Nat->Rat}{w:Rat}(h:J7 K z w){n:Nat}(aS:n<=8){e:Nat->Int}(he:∀k,-100<=e k/\e k<=100){f:Int}(cq:-100<=f/\f<=100):eO (ct n (fun k=>z k*(e k:Rat))+(f:Rat)):=h.fit (a:=n*100+100) (by omega) (by
 have e1:(ct n (fun k=>z k*(e k:Rat))+(f:Rat))*w=ct n (fun k=>(e k:Rat)*(z k*w))+(f:Rat)*w:=by rw[Rat.add_mul,<- vF];congr 1;exact gr fun k _=>by grind
 rw[e1,Nat.add_mul];refine du.add ?_ ((du.int (by omega)).mul h.pN);rw[Nat.mul_assoc];exact du.sum fun k _=>(du.int (by have:=he k;omega)).mul (h.ama k))
theorem KJ.DT {s:cL}(d:KJ s):s.b4.length<=4:=by have:=congrArg List.length d.al9;rw[aok,List.length_take] at this;have e:Y2.length=4:=rfl;omega
structure alA (s:cL):Prop where
 v:n7 s
 ok:vr s=some true
 DT:s.b4.length<=4
theorem KJ.V {s:cL}(d:KJ s):alA s:=⟨d.v,d.ok,d.DT⟩
def PR (m:c0):Int:=if m.jN=1 then 1 else if m.jN=2 then -1 else 0
theorem agu {w:ar}{k:Nat}(aX:k<w.length)(hw:w.length<=1048576): ∃n row,Fv (k:Int) ((k+1:Nat):Int) w=some (.inr (n,row))/\n<=row.length/\(row.drop 0).take n=w.take k++w.drop (k+1):=by
 have d1:(w.drop (0+(k+1))).take (w.length-(k+1))=w.drop (k+1):=by rw[dG,dP (by rw[List.length_drop];omega)]
 have d2:(((w.map eI).drop (0+(k+1))).take (w.length-(k+1))).length=w.length-(k+1):=by rw[List.length_take,List.length_drop,aok];omega
 have d3:(w.drop (k+1)).length=w.length-(k+1):=List.length_drop ..;have e1:k-0+(w.length-(k+1))=w.length-1:=by omega
 have e2:((w.take k++w.drop (k+1))++w.drop (w.length-1)).length=w.length:=by simp only[dD,List.length_take,List.length_drop];omega
 have bJ:(w.take k++w.drop (k+1)).length=w.length-1:=by simp only[dD,List.length_take,List.length_drop];omega
 refine⟨w.length-1,((w.take k++w.drop (k+1)++w.drop (w.length-1)).take (w.length-1)++(List.replicate (w.length-(w.length-1)) 0:ar))++(w.take k++w.drop (k+1)++w.drop (w.length-1)).drop (w.length-1+(w.length-(w.length-1))),?_,?_,?_⟩
 ·unfold Fv;simp only[dy,d1,d2,d3,Nat.sub_zero];rw[show k+(w.length-(k+1))=w.length-1 by omega];simp only[dG];refine c4 (c4 (c4 (c4 (ie (beq_false_of_ne (by omega)) (c4 (c4 (c4 (c4 (c4 (c4 (cB (by rw[e2];omega) (cB (by rw[e2];omega) ?_))))))))))));rfl
 ·simp only[dD,List.length_take,List.length_replicate,e2];omega
 have key : ∀(A aY D:ar) (n:Nat),n<=A.length->(A.take n++aY++D).take n=A.take n:=fun A aY D n h=>by rw[List.append_assoc,List.take_append_of_le_length (by rw[List.length_take];omega),List.take_take,Nat.min_self]
 rw[List.drop_zero,key _ _ _ _ (by rw[e2];omega),List.take_append_of_le_length (by rw[bJ];omega),dP (by rw[bJ];omega)]
theorem afz {s:cL}{w:ar}(h:vA s w=some true):lV s=some true/\w.length=s.bn.length:=by
 unfold vA at h
 cases e:lV s with
 | none=>rw[e] at h;simp at h
 | some b =>
  rw[e] at h;simp only[dC,dx] at h
  cases b with
  | false=>simp at h
  | true =>
   refine⟨rfl,?_⟩;rw[gy,fc] at h;apply Classical.byContradiction;intro c;have:(((w.length:Nat):Int) != ((s.bn.length:Nat):Int))=true:=wA (by omega);rw[dw rfl,dw this] at h;simp at h
theorem afA {s:cL}{l w:ar}(h:uD s l w=some true):lV s=some true/\w.length=s.bn.length:=by
 unfold uD Eo at h
 cases e:yw s l with
 | none=>rw[e] at h;simp at h
 | some r =>
  rw[e] at h;simp only[dC,dx] at h
  cases e2:r.2 with
  | false=>rw[e2] at h;simp at h
  | true =>
   rw[e2,dw rfl] at h;unfold Ci at h
   cases bJ:vv s r.1 with
   | none=>rw[bJ] at h;simp at h
   | some q =>
    rw[bJ] at h;simp only[dC,dx] at h
    cases c1:q.2 with
    | false=>rw[c1] at h;simp at h
    | true =>
     rw[c1,dw rfl] at h
     cases dl:vA s w with
     | none=>rw[dl] at h;simp at h
     | some b =>
      cases b with
      | false=>rw[dl] at h;simp at h
      | true=>exact afz dl
theorem W7 {f:Int->Option (Int⊕(Unit⊕Unit))}{N:Nat}{B:Nat->Bool}(h:∀n,n<N->f (n:Int)=some (if B n then .inl ((n+1:Nat):Int) else .inr (.inr ())))(he:f (N:Int)=some (.inr (.inl ()))):
 iter f 0=some (if ∀n,n<N->B n=true then .inl () else .inr ()):=by
 obtain⟨r,e,q⟩:=qv (f:=f) (fun (n:Nat) (_:Unit)=>(n:Int)) N (fun n _=> ∀j,j<n->B j=true) (fun r=>r=if ∀n,n<N->B n=true then .inl () else .inr ())
  (fun n aS _ cQ=>by
    cases b:B n with
    | true =>
     refine .inl ⟨(),by rw[h n aS,b];rfl,fun j aq=> ?_⟩;by_cases c:j=n
     ·rw[c];exact b
     exact cQ j (by omega)
    | false =>
     refine .inr ⟨.inr (),by rw[h n aS,b];rfl,?_⟩;rw[dA fun g=>by have:=g n aS;rw[b] at this;simp at this])
  (fun _ cQ=>⟨.inl (),he,by rw[dw cQ]⟩) () (fun j aq=>absurd aq (by omega))
 rw[<- q];exact e
theorem aco (s:cL)(i0:n9 s)(l:ar)(aT:l.length<=maxLen)(w:ar)(hw:w.length<=1048576): ∃r,Es s l w=some r/\Eu s l w=some r:=by
 have hm:=vL;unfold Es Eu;obtain⟨r,r1,r2⟩:=Ub s i0 l aT w (by omega)
 cases r with
 | false=>exact⟨false,aH r1 (ie rfl rfl),aH r2 (ie rfl rfl)⟩
 | true =>
 obtain⟨h,Aa⟩:=afA r1;obtain⟨-,-,aP,ba⟩:=yu s i0 h;have gJ:=fc cc s.bn;rw[gJ]
 obtain⟨B,gl⟩ : ∃B:Nat->Bool,∀n:Nat,uD (wK s [(n:Int)]) l (w.take n++w.drop (n+1))=some (B n)/\vE (wK s [(n:Int)]) l (w.take n++w.drop (n+1))=some (B n):=by
  have : ∀n:Nat,∃b,uD (wK s [(n:Int)]) l (w.take n++w.drop (n+1))=some b/\vE (wK s [(n:Int)]) l (w.take n++w.drop (n+1))=some b:=fun n =>
   Ub (wK s [(n:Int)]) (ahx s i0 h [(n:Int)]).1 l aT _ (by simp only[dD,List.length_take,List.length_drop];omega)
  exact⟨fun n=>(this n).choose,fun n=>(this n).choose_spec⟩
 have sp:Le l w ((s.bn.length:Nat):Int) s.b4 s.bn 0=some (if ∀n,n<s.bn.length->B n=true then .inl () else .inr ()):=by
  unfold Le;refine W7 (fun n aS=> ?_) (by unfold D5;exact fj rfl);have wn:R ((n:Int)+(1:Int))=((n+1:Nat):Int):=fg (by omega);have e1:((([]:ar)++((w.drop 0).take (n-0)))++((w.drop (n+1)).take ((w.map eI).length-(n+1))))=w.take n++w.drop (n+1):=(by rw[List.nil_append,List.drop_zero,Nat.sub_zero,dP (l:=w.drop (n+1)) (by rw[List.length_drop,aok];omega)]);have e2:(w.take n++w.drop (n+1)).length<=8:=(by simp only[dD,List.length_take,List.length_drop];omega);unfold D5;rw[wn];simp only[dy,e1];refine eG (c4 (c4 (cB (by simp only[List.nil_append,List.length_take,List.drop_zero];omega) (c4 (c4 (c4 (aH (aeP s (by omega) (by omega) _ (by simp)) (aH (gl n).1 ?_))))))))
  cases B n with
  | true=>exact gb rfl rfl
  | false=>exact ie rfl rfl
 have KR:Li l w ((s.bn.length:Nat):Int) s.b4 s.bn 0=some (if ∀n,n<s.bn.length->B n=true then .inl () else .inr ()):=by
  unfold Li;refine W7 (fun n aS=> ?_) (by unfold D6;exact fj rfl);have wn:R ((n:Int)+(1:Int))=((n+1:Nat):Int):=fg (by omega);obtain⟨m,row,d1,d2,d3⟩:=agu (w:=w) (k:=n) (by omega) hw;have bh:IU w=some w:=cB ⟨fun e=>by rw[e] at Aa;simp at Aa;omega,by omega⟩ rfl;unfold D6;rw[wn];refine eG (aH (aeQ s (by omega) (by omega) _ (by simp)) (aH bh (aH d1 ?_)));refine c4 (aH (x:=B n) (by simp only;rw[d3];exact(gl n).2) ?_)
  cases B n with
  | true=>exact gb rfl rfl
  | false=>exact ie rfl rfl
 by_cases c : ∀n,n<s.bn.length->B n=true
 ·rw[dw c] at sp KR;exact⟨true,aH r1 (gb rfl (aH sp rfl)),aH r2 (gb rfl (aH KR rfl))⟩
 rw[dA c] at sp KR;exact⟨false,aH r1 (gb rfl (aH sp rfl)),aH r2 (gb rfl (aH KR rfl))⟩
theorem Z8 (x0:cL)(x1 x2:ar)(i0:n9 x0)(i1:(fun l=>l.length<=maxLen/\ ∀x∈l,nq x) x1)(i2:(fun l=>l.length<=maxLen/\ ∀x∈l,nq x) x2):HZ x0 x1 x2=some true:=by
 unfold HZ;rw[gy,gy];by_cases h1:(1048576:Int)<(x1.length:Nat)
 ·exact l5 h1 rfl
 by_cases h2:(1048576:Int)<(x2.length:Nat)
 ·exact lC h1 (l5 h2 rfl)
 refine lC h1 (lC h2 ?_);obtain⟨r,r1,r2⟩:=acV x0 i0 1048576 (by omega) (by omega);refine aH r1 ?_;by_cases J:r<0
 ·exact l5 J rfl
 obtain⟨hk,hq⟩:=r2 (by omega);obtain⟨q,q1,q2⟩:=aco x0 i0 x1 i1.1 x2 (by omega);exact lC J (aH (acW x0 hk hq) (aH (T7 x1 (by omega)) (aH (T7 x2 (by omega)) (aH q1 (aH q2 (gb (by simp) (aH (acU x0 hk hq) (gb rfl (aH (T5 x1 (by omega)) (gb rfl (aH (T5 x2 (by omega)) (gb rfl rfl))))))))))))
end Go.Proofs.YtopadgleejacdadGreat
