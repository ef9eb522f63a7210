/- Lemmas, plain functions of the program, and what they answer. No condition. -/
import Derived.Test.YtpelegphlhbadaaGreatME
namespace Go.Proofs.YtpelegphlhbadaaGreat
set_option linter.unusedVariables false
set_option linter.unusedSimpArgs false
open Go Go.VL
def iu (m:Nat)(A:Nat->Nat->Rat)(t:bV):Rat:=if 0<t.D m A then t.D m A else -(t.D m A)
theorem agS {m N:Nat}{A:Nat->Nat->Rat}{t:bV}(h:t.D m A≠0):0<iu m A t:=by unfold iu;split<;>grind
theorem IR {m K:Nat}{A:Nat->Nat->Rat}{t:bV}{x:Rat}(h:dm K (x*t.D m A)):dm K (x*iu m A t):=by
 unfold iu;split
 ·exact h
 ·have:=h.neg;rw[show x * -(t.D m A) = -(x*t.D m A) by grind];exact this
theorem lI.sJ {m N:Nat}{A:Nat->Nat->Rat}(s:Small m N A){t:bV}(h:lI m N A t):pI m N (iu m A t) t where
 pos:=agS (N:=N) h.r7
 hw:=by have h1:dm ez (1*t.D m A):=(by rw[Rat.one_mul];exact h.zu s);have:=IR h1;rw[Rat.one_mul] at this;exact this.mono (by generalize ez=q;omega)
 hZ:=fun i ab j aq=>IR (h.uK s ab aq)
 gl:=h.ok.js
theorem lI.y1 {m N:Nat}{A:Nat->Nat->Rat}(s:Small m N A){t:bV}(h:lI m N A t){r k:Nat}(ai:r<m)(aX:k<N)(ah:t.T r k≠0):vB m N (iu m A t) t r k where
 ai:=ai
 aX:=aX
 ah:=ah
 C2:=fun i ab j aq=>by
  have lZ:=h.ok.ck ai aX ah
  have h1:dm ez ((t.ck r k).T i j*(t.ck r k).D m A):=by
   rw[<- lZ.xc ab aq];refine dm.mono (wv fun eu n5 c aY=> ?_) (Cq▸yd (by omega) s.hm);simp only[hf];split
   ·exact s.pp c aY j aq
   ·exact s.pp c aY _ (Nat.le_of_lt (lZ.js eu n5))
  rw[h.ok.yJ ai aX] at h1;unfold iu;split
  ·exact h1
  ·have:=h1.neg;rw[show (t.ck r k).T i j*(t.T r k * -(t.D m A)) = -((t.ck r k).T i j*(t.T r k*t.D m A)) by grind];exact this
theorem MH {m N:Nat}{A:Nat->Nat->Rat}{t:bV}(h:gQ m m N A t)(bC:t.D m A≠0){r k:Nat}(ai:r<m)(aX:k<N)(ah:t.T r k≠0):qn (iu m A t) t r k=iu m A (t.ck r k):=by
 have e:=h.yJ ai aX;unfold qn iu;rw[e];by_cases bl:0<t.T r k<;>by_cases cm:0<t.D m A
 ·rw[dw bl,dw cm,dw (Rat.mul_pos bl cm)]
 ·have:=Rat.mul_pos bl (show 0 < -(t.D m A) by grind);rw[dw bl,dA cm,dA (by grind)];grind
 ·have:=Rat.mul_pos (show 0 < -(t.T r k) by grind) cm;rw[dA bl,dw cm,dA (by grind)]
 ·have:=Rat.mul_pos (show 0 < -(t.T r k) by grind) (show 0 < -(t.D m A) by grind);rw[dA bl,dA cm,dw (by grind)];grind
def h8 (h:Nat->Nat)(t:bV):bV:=⟨fun i j=>t.T (h i) j,fun i=>t.B (h i)⟩
theorem EN {h:Nat->Nat}{t:bV}{r k i:Nat}(gN:h i=h r->i=r):(∀j,((h8 h t).ck r k).T i j=(h8 h (t.ck (h r) k)).T i j)/\((h8 h t).ck r k).B i=(h8 h (t.ck (h r) k)).B i:=by
 simp only[bV.ck,h8];by_cases c:i=r
 ·subst c;simp
 ·have:h i≠h r:=fun e=>c (gN e);simp[c,this]
theorem Tn {α:Type}{m i:Nat}(ab:i<m)(f:Nat->α):(aQ m f).take (i-0)++((aQ m f).drop (0+(i+1))).take (m-(i+1))=aQ (m-1) (skip i f):=by
 apply List.ext_getElem?;intro j;rw[Nat.sub_zero,dG];have aV:((aQ m f).take i).length=i:=by rw[List.length_take,cb];omega
 by_cases c:j<i
 ·rw[List.getElem?_append_left (by omega),List.getElem?_take,dw c,fN (by omega),fN (by omega)];simp only[skip];rw[dw c]
 ·rw[List.getElem?_append_right (by omega),aV,List.getElem?_take,List.getElem?_drop]
  by_cases cm:j<m-1
  ·rw[dw (by omega),fN (by omega),fN cm];simp only[skip];rw[dA c];congr 2;omega
  ·rw[dA (by omega)]
   symm
   rw[List.getElem?_eq_none_iff,cb];omega
theorem ac7 {m N M n:Nat}(gE:N<1000)(aT:n<=N){h:Nat->Nat}{w:Rat}{t:bV}(f:pI m N w t){eT:List (List bz)}(gb:lY m N M h w t eT){i:Nat}(ab:i<m)(i3:Bool)(j4:ar)(aw:Int)(q2:ar)(bP:List Bool):
 ∃k:Nat,Ka (n:Int) (i:Int) i3 j4 aw (hO m N h) eT q2 bP 0=some (k:Int)/\k<=n/\(k<n->t.T i k≠0)/\ ∀j,j<k->t.T i j=0:=by
 unfold Ka
 obtain⟨r,e,k,rfl,h1,h2,J⟩:=sq (f:=fun q:Int=>z1 (n:Int) (i:Int) i3 j4 aw (hO m N h) eT q2 bP q) (fun (c:Nat) (_:Unit)=>(c:Int)) n (fun c _=> ∀j,j<c->t.T i j=0)
  (fun r=> ∃k:Nat,r=(k:Int)/\k<=n/\(k<n->t.T i k≠0)/\ ∀j,j<k->t.T i j=0)
  (fun c aY _ cZ=>by
    have hw:=f.pos;have bJ:=wu ((f.hZ i ab c (by omega)).mono (vA (by have:=sB;generalize ez=q at *;omega)));unfold z1;by_cases JR:t.T i c=0
    ·left
     refine⟨(),dW (by omega) (bq (by unfold hO;rw[cb];omega) (aI (x:=some (h i,N+1)) (by rw[dy];exact g9 ab) (aI (x:=(h i,N+1)) rfl (aI (gb.row i ab) (bq (by simp only;omega) (aI (x:=b5 (t.T i c*w)) (by rw[dy];exact g9 (by omega)) (aI bJ (gy (by rw[B7 hw,oU.2 JR];rfl) (by rw[fl (by omega)]))))))))),fun j aq=> ?_⟩;by_cases e:j=c
     ·rw[e];exact JR
     ·exact cZ j (by omega)
    ·right;exact⟨_,dW (by omega) (bq (by unfold hO;rw[cb];omega) (aI (x:=some (h i,N+1)) (by rw[dy];exact g9 ab) (aI (x:=(h i,N+1)) rfl (aI (gb.row i ab) (bq (by simp only;omega) (aI (x:=b5 (t.T i c*w)) (by rw[dy];exact g9 (by omega)) (aI bJ (jc (by rw[B7 hw];exact wV (fun c=>JR (oU.1 c))) rfl)))))))),c,rfl,by omega,fun _=>JR,cZ⟩)
  (fun _ cZ=>⟨_,by unfold z1;exact eg (by omega) rfl,n,rfl,dD _,fun c=>by omega,cZ⟩) () (fun j aq=>by omega)
 exact⟨k,e,h1,h2,J⟩
structure m4 (m n N:Nat) (A:Nat->Nat->Rat) (t:bV) (aH:Nat) (h:Nat->Nat):Prop where
 inv:lI m N A t
 z : ∀i,i<m->n<=t.B i->t.T i N=0
 le:aH<=m
 lt : ∀i,i<aH->h i<m
 inj : ∀i,i<aH-> ∀k,k<aH->h i=h k->i=k
 dead : ∀d,d<m->(∀i,i<aH->h i≠d)->n<=t.B d/\ ∀j,j<n->t.T d j=0
theorem m4.sJ {m n N aH:Nat}{A:Nat->Nat->Rat}{t:bV}{h:Nat->Nat}(s:Small m N A)(a:m4 m n N A t aH h):pI aH N (iu m A t) (h8 h t) :=
 have f:=a.inv.sJ s
 ⟨f.pos,f.hw,fun i ab j aq=>f.hZ (h i) (a.lt i ab) j aq,fun i ab=>f.gl (h i) (a.lt i ab)⟩
theorem m4.y1 {m n N aH:Nat}{A:Nat->Nat->Rat}{t:bV}{h:Nat->Nat}(s:Small m N A)(a:m4 m n N A t aH h){r k:Nat}(ai:r<aH)(aX:k<N)(ah:t.T (h r) k≠0):vB aH N (iu m A t) (h8 h t) r k :=
 have f:=a.inv.y1 s (a.lt r ai) aX ah
 ⟨ai,aX,ah,fun i ab j aq=>by rw[(EN (t:=t) (k:=k) (a.inj i ab r ai)).1 j];exact f.C2 (h i) (a.lt i ab) j aq⟩
theorem m4.ck {m n N aH:Nat}{A:Nat->Nat->Rat}{t:bV}{h:Nat->Nat}(Oe:n<=N)(a:m4 m n N A t aH h){r k:Nat}(ai:r<aH)(aX:k<n)(aW:n<=t.B (h r))(ah:t.T (h r) k≠0):m4 m n N A (t.ck (h r) k) aH h:=by
 have cC:=a.z (h r) (a.lt r ai) aW
 have dV : ∀i,(t.ck (h r) k).T i N=t.T i N:=fun i=>by
  simp only[bV.ck];split
  ·rename_i e;rw[e,cC];grind
  ·rw[cC];grind
 refine⟨⟨a.inv.ok.ck (a.lt r ai) (by omega) ah,fun i ab=>by rw[dV];exact a.inv.lc i ab,?_⟩,fun i ab gl=> ?_,a.le,a.lt,a.inj,fun d bC hg=> ?_⟩
 ·rw[a.inv.ok.yJ (a.lt r ai) (by omega)];have:=a.inv.r7;grind
 ·rw[dV]
  simp only[bV.ck] at gl;by_cases c:i=h r
  ·rw[dw c] at gl;omega
  ·rw[dA c] at gl;exact a.z i ab gl
 ·obtain⟨h1,h2⟩:=a.dead d bC hg;have c8:d≠h r:=fun e=>hg r ai e.symm;simp only[bV.ck,dA c8];refine⟨h1,fun j aq=> ?_⟩;rw[h2 j aq,h2 k aX];grind
theorem aey {m n N:Nat}{A:Nat->Nat->Rat}(s:Small m N A)(gE:N<1000)(Oe:n<=N)(free:List Bool){t:bV}(cg:lI m N A t)(cC:∀i,i<m->n<=t.B i->t.T i N=0){eT:List (List bz)}(gb:lY m N m (fun i=>i) (iu m A t) t eT):
 ∃cD aH h kx,Dn (n:Int) (b5 (iu m A t)).cF (b5 (iu m A t)).cc (N:Int) (hO m N fun i=>i) eT (cS m t) free=some ((b5 (iu m A cD)).cF,(b5 (iu m A cD)).cc,hO aH N h,kx,cS aH (h8 h cD)) /\
  m4 m n N A cD aH h/\(∀i,i<aH->cD.B (h i)<n)/\lY aH N m h (iu m A cD) (h8 h cD) kx:=by
 have hm:=s.hm;unfold Dn Px
 obtain⟨x,e,cD,aH,h,kx,rfl,h1,h2,J⟩:=jT (f:=fun w:Int×Bool×ar×(List bR)×(List (List bz))×ar=>Dc (n:Int) (N:Int) free w.1 w.2.1 w.2.2.1 w.2.2.2.1 w.2.2.2.2.1 w.2.2.2.2.2)
  (fun w=> ∃(i aH:Nat) (h:Nat->Nat) (t:bV) (p:List (List bz)),w=((i:Int),(b5 (iu m A t)).cF,(b5 (iu m A t)).cc,hO aH N h,p,cS aH (h8 h t))/\i<=aH/\m4 m n N A t aH h/\(∀q,q<i->t.B (h q)<n)/\lY aH N m h (iu m A t) (h8 h t) p)
  (fun w=>w.2.2.2.1.length-w.1.toNat)
  (fun x=> ∃cD aH h kx,x=((b5 (iu m A cD)).cF,(b5 (iu m A cD)).cc,hO aH N h,kx,cS aH (h8 h cD))/\m4 m n N A cD aH h/\(∀i,i<aH->cD.B (h i)<n)/\lY aH N m h (iu m A cD) (h8 h cD) kx)
  (fun w hw=>by
    obtain⟨i,aH,h,t,p,rfl,ab,bG,aZ,ah⟩:=hw;have la:=bG.le;have vP:(hO aH N h).length=aH:=cb ..;have Of:(cS aH (h8 h t)).length=aH:=cb ..;simp only;unfold Dc;by_cases c:i<aH
    ·left
     have g1:0<=(i:Int)/\(i:Int)<((cS aH (h8 h t)).length:Nat):=(by rw[Of];omega);have g2:(cS aH (h8 h t))[(0+((i:Int)).toNat)]? = some ((t.B (h i):Nat):Int):=(by rw[dy];exact g9 c);by_cases JS:t.B (h i)<n
     ·refine⟨(((i+1:Nat):Int),(b5 (iu m A t)).cF,(b5 (iu m A t)).cc,hO aH N h,p,cS aH (h8 h t)),dW (by rw[vP];omega) (bq g1 (aI g2 (dW (by omega) (by rw[fl (by omega)])))),⟨i+1,aH,h,t,p,rfl,by omega,bG,fun q oI=> ?_,ah⟩,by simp only[vP];omega⟩
      by_cases e:q=i
      ·rw[e];exact JS
      ·exact aZ q (by omega)
     ·obtain⟨k,lR,kr,oQ,Oy⟩:=ac7 gE Oe (bG.sJ s) ah c (b5 (iu m A t)).cF (b5 (iu m A t)).cc (N:Int) (cS aH (h8 h t)) free
      by_cases OA:k<n
      ·have Og:t.T (h i) k≠0:=oQ OA
       obtain⟨lq,e1,e2⟩:=U1 (by omega) gE bG.inj (bG.sJ s) (bG.y1 s c (by omega) Og) ah (N:Int) free;have xg:qn (iu m A t) (h8 h t) i k=iu m A (t.ck (h i) k):=MH bG.inv.ok bG.inv.r7 (bG.lt i c) (by omega) Og;have aj8:cS aH ((h8 h t).ck i k)=cS aH (h8 h (t.ck (h i) k)):=eA fun q oI=>(by have:=(EN (t:=t) (k:=k) (bG.inj q oI i c)).2;rw[this]);rw[xg,aj8] at e1;rw[xg] at e2;refine⟨(((i+1:Nat):Int),(b5 (iu m A (t.ck (h i) k))).cF,(b5 (iu m A (t.ck (h i) k))).cc,hO aH N h,lq,cS aH (h8 h (t.ck (h i) k))),dW (by rw[vP];omega) (bq g1 (aI g2 (eg (by omega) (aI lR (dW (by omega) (aI e1 (by rw[fl (by omega)]))))))),⟨i+1,aH,h,t.ck (h i) k,lq,rfl,by omega,bG.ck Oe c OA (by omega) Og,fun q oI=> ?_,e2.len,fun q oI=> ?_⟩,by simp only[vP];omega⟩
       ·simp only[bV.ck]
        split
        ·exact OA
        ·rename_i c8;have:q≠i:=fun e=>c8 (by rw[e]);exact aZ q (by omega)
       ·rw[e2.row q oI];congr 1;exact eA fun j _=>by rw[(EN (t:=t) (k:=k) (bG.inj q oI i c)).1 j]
      ·have Od:k=n:=by omega
       have vN:U ((i:Int)+1)=((i+1:Nat):Int):=fl (by omega);have JF:(((hO aH N h).drop (0+(i+1))).take (aH-(i+1))).length=aH-(i+1):=(by rw[List.length_take,List.length_drop,vP];omega);have Gg:(((cS aH (h8 h t)).drop (0+(i+1))).take (aH-(i+1))).length=aH-(i+1):=(by rw[List.length_take,List.length_drop,Of];omega);have bH:(hO aH N h).take (i-0)++((hO aH N h).drop (0+(i+1))).take (aH-(i+1))=hO (aH-1) N (skip i h):=Tn c _;have f9:(cS aH (h8 h t)).take (i-0)++((cS aH (h8 h t)).drop (0+(i+1))).take (aH-(i+1))=cS (aH-1) (h8 (skip i h) t):=Tn c _;refine⟨((i:Int),(b5 (iu m A t)).cF,(b5 (iu m A t)).cc,hO (aH-1) N (skip i h),p,cS (aH-1) (h8 (skip i h) t)),dW (by rw[vP];omega) (bq g1 (aI g2 (eg (by omega) (aI lR (eg (by omega) ?_))))),⟨i,aH-1,skip i h,t,p,rfl,by omega,⟨bG.inv,bG.z,by omega,fun q oI=> ?_,fun q oI q2 CA e=> ?_,fun d bC hg=> ?_⟩,fun q oI=> ?_,ah.len,fun q oI=> ?_⟩,?_⟩
       ·rw[vN,dy,dy,vP,Of,JF,Gg,bH,f9];exact bq (by omega) (bq (by omega) (bq (by omega) (bq (by omega) (bq (by omega) (bq (by omega) (bq (by omega) (bq (by omega) (bq (by omega) (bq (by omega) (bq (by omega) (bq (by omega) rfl)))))))))))
       ·simp only[skip];split<;>exact bG.lt _ (by omega)
       ·simp only[skip] at e;have:=bG.inj _ (by split<;>omega) _ (by split<;>omega) e;split at this<;>split at this<;>omega
       ·by_cases X0:d=h i
        ·rw[X0];exact⟨by omega,fun j aq=>Oy j (by omega)⟩
        ·refine bG.dead d bC fun q oI=> ?_
         by_cases bl:q<i
         ·have:=hg q (by omega);simp only[skip] at this;rw[dw bl] at this;exact this
         ·by_cases cm:q=i
          ·rw[cm];exact fun e=>X0 e.symm
          ·have:=hg (q-1) (by omega);simp only[skip] at this;rw[dA (by omega),show q-1+1=q by omega] at this;exact this
       ·simp only[skip];rw[dw oI];exact aZ q oI
       ·simp only[skip]
        by_cases bl:q<i
        ·rw[dw bl,ah.row q (by omega)];congr 1;exact eA fun j _=>by simp only[h8,skip];rw[dw bl]
        ·rw[dA bl,ah.row (q+1) (by omega)];congr 1;exact eA fun j _=>by simp only[h8,skip];rw[dA bl]
       ·simp only[vP,show (hO (aH-1) N (skip i h)).length=aH-1 from cb ..];omega
    ·right;have ajv:i=aH:=(by omega);subst ajv;exact⟨_,eg (by rw[vP];omega) rfl,t,i,h,p,rfl,bG,aZ,ah⟩)
  ((0:Int),(b5 (iu m A t)).cF,(b5 (iu m A t)).cc,hO m N (fun i=>i),eT,cS m t)
  ⟨0,m,fun i=>i,t,eT,rfl,by omega,⟨cg,cC,dD _,fun i ab=>ab,fun i _ k _ e=>e,fun d bC hg=>(hg d bC rfl).elim⟩,fun q aZ=>by omega,gb.len,gb.row⟩
 exact⟨cD,aH,h,kx,aI e rfl,h1,h2,J⟩
theorem U2:(⟨false,([]:ar)⟩:bz)=b5 0:=by show _=gx (0:Rat).num;rw[show (0:Rat).num=0 from rfl];unfold gx;rw[show L ((0:Int).natAbs:Int)=[] from sG.2 (by simp)];rfl
theorem Ml {α:Type}(l:List α)(x:α):(l++[x])[l.length]? = some x:=by simp
theorem B8 {α:Type}(l:List α)(x y:α):(l++[x]).set l.length y=l++[y]:=by simp
theorem U3 {p:kj}{m n:Nat}{a:Nat->Nat->Int}{b:Nat->Int}(h:mW p m n a b){i:Nat}(ab:i<m):A6 i p.hq p.fT p.eb p.ew p.hy=some (i*n,n):=by
 have hm:=h.hm;have aT:=h.aT;have h1:i*n<=20*40:=Nat.mul_le_mul (by omega) aT;have h2:(i+1)*n<=20*40:=Nat.mul_le_mul (by omega) aT;have J:(i+1)*n<=m*n:=dM _ ab;have e1:U ((i:Int)*p.fT)=((i*n:Nat):Int):=by rw[h.gL,<- Int.natCast_mul,cQ (by omega) (by omega)]
 have e2:U (U ((i:Int)+1)*p.fT)=(((i+1)*n:Nat):Int):=by rw[h.gL,fl (by omega),<- Int.natCast_mul,cQ (by omega) (by omega)]
 have aj:(i+1)*n=i*n+n:=Nat.succ_mul i n;unfold A6;rw[e1,e2,dy,dy,h.hp];refine bq (by omega) (bq (by omega) (bq ⟨by omega,J⟩ ?_));rw[show 0+i*n=i*n by omega,show (i+1)*n-i*n=n by omega]
theorem acI {p:kj}{m n:Nat}{a:Nat->Nat->Int}{b:Nat->Int}(h:mW p m n a b){i:Nat}(ab:i<m)(aW:b i<0)(x0:Int)(fM:Bool)(eP:ar)(q2:List bR)(cw:ar)(dY:List Bool)(P:List (List bz)):
 KO x0 (i:Int) P.length (n+m+1) p.hq (i*n) n ((n:Nat):Int) p.fT p.eb p.ew p.hy fM eP q2 cw dY 0 (P++[aQ (n+m+1) fun _=>b5 0])=some (P++[aQ (n+m+1) fun j=>if j<n then b5 (db m n a b i j) else b5 0]):=by
 have hm:=h.hm;have aT:=h.aT;have bJ:k0 (b i) = -1:=by unfold k0;rw[dw aW]
 unfold KO
 obtain⟨s1,e1,-⟩:=h4 (f:=fun w:Int×List (List bz)=>AJ x0 (i:Int) P.length (n+m+1) p.hq (i*n) n ((n:Nat):Int) p.fT p.eb p.ew p.hy fM eP q2 cw dY w.1 w.2)
  (fun (k:Nat) (_:Unit)=>((k:Int),P++[aQ (n+m+1) fun j=>if j<k then b5 (db m n a b i j) else b5 0])) n (fun _ _=>True) (fun _=>P++[aQ (n+m+1) fun j=>if j<n then b5 (db m n a b i j) else b5 0])
  (fun k aX _ _=>by
    refine⟨(),?_,trivial⟩;have bG:=h.xe i ab k aX;have e:U ((-1:Int)*a i k)=ls m n a b i k:=(by rw[cQ (by omega) (by omega)];unfold ls;rw[dw aX,bJ]);unfold AJ;refine dW (by simp only;omega) (bq (by simp only;omega) (aI (x:=a i k) (by simp only;rw[dy];exact h.I9 i ab k aX) (aI (x:=b5 (db m n a b i k)) (by rw[e];exact u4 (by have:=vr h ab k;rw[kT];omega)) (aI (Ml _ _) (bq (by simp only;omega) (aI (by simp only;rw[dy];exact g9 (by omega)) ?_))))));simp only;rw[fl (by omega),dy,dG,kG,B8];congr 5;refine eA fun j _=> ?_;by_cases bl:j=k
    ·subst bl;rw[dw rfl,dw (by omega)]
    ·rw[dA bl]
     by_cases cm:j<k
     ·rw[dw cm,dw (by omega)]
     ·rw[dA cm,dA (by omega)])
  (fun _ _=>by unfold AJ;exact eg (by simp) rfl) () trivial
 have e0:(aQ (n+m+1) fun j=>if j<0 then b5 (db m n a b i j) else b5 0)=aQ (n+m+1) fun _=>b5 0:=eA fun j _=>by rw[dA (by omega)]
 rw[e0] at e1;exact e1
theorem acJ {p:kj}{m n:Nat}{a:Nat->Nat->Int}{b:Nat->Int}(h:mW p m n a b){i:Nat}(ab:i<m)(aW:¬b i<0)(x0:Int)(fM:Bool)(eP:ar)(q2:List bR)(cw:ar)(dY:List Bool)(P:List (List bz)):
 KP x0 (i:Int) P.length (n+m+1) p.hq (i*n) n ((n:Nat):Int) p.fT p.eb p.ew p.hy fM eP q2 cw dY 0 (P++[aQ (n+m+1) fun _=>b5 0])=some (P++[aQ (n+m+1) fun j=>if j<n then b5 (db m n a b i j) else b5 0]):=by
 have hm:=h.hm;have aT:=h.aT;have bJ:k0 (b i)=1:=by unfold k0;rw[dA aW]
 unfold KP
 obtain⟨s1,e1,-⟩:=h4 (f:=fun w:Int×List (List bz)=>AK x0 (i:Int) P.length (n+m+1) p.hq (i*n) n ((n:Nat):Int) p.fT p.eb p.ew p.hy fM eP q2 cw dY w.1 w.2)
  (fun (k:Nat) (_:Unit)=>((k:Int),P++[aQ (n+m+1) fun j=>if j<k then b5 (db m n a b i j) else b5 0])) n (fun _ _=>True) (fun _=>P++[aQ (n+m+1) fun j=>if j<n then b5 (db m n a b i j) else b5 0])
  (fun k aX _ _=>by
    refine⟨(),?_,trivial⟩;have bG:=h.xe i ab k aX;have e:U ((1:Int)*a i k)=ls m n a b i k:=(by rw[cQ (by omega) (by omega)];unfold ls;rw[dw aX,bJ]);unfold AK;refine dW (by simp only;omega) (bq (by simp only;omega) (aI (x:=a i k) (by simp only;rw[dy];exact h.I9 i ab k aX) (aI (x:=b5 (db m n a b i k)) (by rw[e];exact u4 (by have:=vr h ab k;rw[kT];omega)) (aI (Ml _ _) (bq (by simp only;omega) (aI (by simp only;rw[dy];exact g9 (by omega)) ?_))))));simp only;rw[fl (by omega),dy,dG,kG,B8];congr 5;refine eA fun j _=> ?_;by_cases bl:j=k
    ·subst bl;rw[dw rfl,dw (by omega)]
    ·rw[dA bl]
     by_cases cm:j<k
     ·rw[dw cm,dw (by omega)]
     ·rw[dA cm,dA (by omega)])
  (fun _ _=>by unfold AK;exact eg (by simp) rfl) () trivial
 have e0:(aQ (n+m+1) fun j=>if j<0 then b5 (db m n a b i j) else b5 0)=aQ (n+m+1) fun _=>b5 0:=eA fun j _=>by rw[dA (by omega)]
 rw[e0] at e1;exact e1
theorem qb {α:Type}(n:Nat)(x:α):List.replicate n x=aQ n fun _=>x:=by
 apply List.ext_getElem?;intro i;by_cases c:i<n
 ·rw[fN c];simp[c]
 ·rw[List.getElem?_eq_none_iff.2 (by simp;omega),List.getElem?_eq_none_iff.2 (by rw[cb];omega)]
theorem Su {p:kj}{m n:Nat}{a:Nat->Nat->Int}{b:Nat->Int}(h:mW p m n a b)(fM:Bool)(eP:ar)(dY:List Bool):
 KQ ((n+m:Nat):Int) p.hq p.fT p.eb p.ew p.hy fM eP dY 0 ([]:List bR) ([]:List (List bz)) ([]:ar)=some (hO m (n+m) (fun i=>i),aQ m (fun i=>aQ (n+m+1) fun j=>b5 (db m n a b i j)),cS m (jB m n a b)):=by
 have hm:=h.hm;have aT:=h.aT;unfold KQ
 obtain⟨s,e,-⟩:=h4 (f:=fun w:Int×(List bR)×(List (List bz))×ar=>AL ((n+m:Nat):Int) p.hq p.fT p.eb p.ew p.hy fM eP dY w.1 w.2.1 w.2.2.1 w.2.2.2)
  (fun (i:Nat) (_:Unit)=>((i:Int),aQ i (fun k=>(some (k,n+m+1):bR)),aQ i (fun i=>aQ (n+m+1) fun j=>b5 (db m n a b i j)),aQ i (fun k=>((n+k:Nat):Int)))) m (fun _ _=>True)
  (fun _=>(hO m (n+m) (fun i=>i),aQ m (fun i=>aQ (n+m+1) fun j=>b5 (db m n a b i j)),cS m (jB m n a b)))
  (fun i ab _ _=>by
    refine⟨(),?_,trivial⟩;have aW:=h.uQ i ab;have iW:U (((n+m:Nat):Int)+1)=((n+m+1:Nat):Int):=fl (by omega);have hw:U (p.fT+(i:Int))=((n+i:Nat):Int):=(by rw[h.gL,<- Int.natCast_add,cQ (by omega) (by omega)]);have XB:(aQ i (fun i=>aQ (n+m+1) fun j=>b5 (db m n a b i j))).length=i:=cb ..;have rY:ls m n a b i (n+m)=k0 (b i)*b i:=by unfold ls;rw[dA (by omega),dw rfl]
    have d6:((aQ (n+m+1) fun j=>if j<n then b5 (db m n a b i j) else b5 0).set (n+i) (b5 ((1:Int):Rat))).set (n+m) (b5 (db m n a b i (n+m)))=aQ (n+m+1) fun j=>b5 (db m n a b i j):=by
     rw[kG,kG];refine eA fun j aq=> ?_;by_cases bl:j=n+m
     ·rw[dw bl,bl]
     ·rw[dA bl]
      by_cases cm:j=n+i
      ·rw[dw cm,cm,vf ab,dw rfl];rfl
      ·rw[dA cm]
       by_cases j5:j<n
       ·rw[dw j5]
       ·rw[dA j5];obtain⟨k,rfl⟩ : ∃k,j=n+k:=⟨j-n,by omega⟩;rw[vf (by omega),dA (by omega)]
    unfold AL;rw[iW,hw,dy];refine dW (by simp only;rw[h.rows];omega) (bq (by omega) (bq (by simp only;rw[h.Oz];omega) (aI (x:=b i) (by simp only[dy,dG];exact h.Nd i ab) ?_)))
    have fin:(some (Sum.inl (U ((i:Int)+1),(aQ i (fun k=>(some (k,n+m+1):bR)))++[some (i,n+m+1)],(aQ i (fun i=>aQ (n+m+1) fun j=>b5 (db m n a b i j)))++[aQ (n+m+1) fun j=>b5 (db m n a b i j)],(aQ i fun k=>((n+k:Nat):Int))++[((n+i:Nat):Int)])):Option ((Int×(List bR)×(List (List bz))×ar)⊕((List bR)×(List (List bz))×ar))) =
     some (Sum.inl (((i+1:Nat):Int),aQ (i+1) (fun k=>(some (k,n+m+1):bR)),aQ (i+1) (fun i=>aQ (n+m+1) fun j=>b5 (db m n a b i j)),aQ (i+1) (fun k=>((n+k:Nat):Int)))):=by
     rw[fl (by omega),kE i (fun k=>(some (k,n+m+1):bR)),kE i (fun i=>aQ (n+m+1) fun j=>b5 (db m n a b i j)),kE i (fun k=>((n+k:Nat):Int))]
    have aa : ∀(P:List (List bz)) (F:List bz->Option ((Int×(List bR)×(List (List bz))×ar)⊕((List bR)×(List (List bz))×ar))) (x:List bz) r,F x=r->(P++[x])[P.length]? >>= F=r:=fun P F x r vV=>aI (Ml P x) vV;refine pZ (fun c=> ?_) (fun c=> ?_)
    ·have oE:b i<0:=of_decide_eq_true c;have bJ:k0 (b i) = -1:=(by unfold k0;rw[dw oE]);refine aI (U3 h ab) (aI (by rw[U2,qb];exact acI h ab oE _ _ _ _ _ _ _) (aI (u4 (n:=1) (by rw[kT];omega)) (aa _ _ _ _ ?_)));refine bq (by omega) (aI (x:=b5 0) (by rw[dy,g9 (by omega),dA (by omega)]) (aI (x:=b5 (db m n a b i (n+m))) (by have e:U ((-1:Int)*b i)=ls m n a b i (n+m):=(by rw[rY,bJ,cQ (by omega) (by omega)]);rw[e];exact u4 (by have:=vr h ab (n+m);rw[kT];omega)) ?_));rw[B8,dy,dG,dy,dG];refine aa _ _ _ _ (bq (by omega) ?_);obtain⟨v,bh⟩ : ∃v,((aQ (n+m+1) fun j=>if j<n then b5 (db m n a b i j) else b5 0).set (n+i) (b5 ((1:Int):Rat)))[n+m]? = some v:=(by rw[kG,fN (by omega)];exact⟨_,rfl⟩);refine aI bh (bq (by simp only[dF,cb,List.length_cons,List.length_nil];omega) (bq (by simp only[dF,cb,List.length_cons,List.length_nil];omega) ?_));rw[B8];simp only[dy,dG];rw[d6,XB];exact fin
    ·have oE : ¬b i<0:=of_decide_eq_false c;have bJ:k0 (b i)=1:=(by unfold k0;rw[dA oE]);refine aI (U3 h ab) (aI (by rw[U2,qb];exact acJ h ab oE _ _ _ _ _ _ _) (aI (u4 (n:=1) (by rw[kT];omega)) (aa _ _ _ _ ?_)));refine bq (by omega) (aI (x:=b5 0) (by rw[dy,g9 (by omega),dA (by omega)]) (aI (x:=b5 (db m n a b i (n+m))) (by have e:U ((1:Int)*b i)=ls m n a b i (n+m):=(by rw[rY,bJ,cQ (by omega) (by omega)]);rw[e];exact u4 (by have:=vr h ab (n+m);rw[kT];omega)) ?_));rw[B8,dy,dG,dy,dG];refine aa _ _ _ _ (bq (by omega) ?_);obtain⟨v,bh⟩ : ∃v,((aQ (n+m+1) fun j=>if j<n then b5 (db m n a b i j) else b5 0).set (n+i) (b5 ((1:Int):Rat)))[n+m]? = some v:=(by rw[kG,fN (by omega)];exact⟨_,rfl⟩);refine aI bh (bq (by simp only[dF,cb,List.length_cons,List.length_nil];omega) (bq (by simp only[dF,cb,List.length_cons,List.length_nil];omega) ?_));rw[B8];simp only[dy,dG];rw[d6,XB];exact fin)
  (fun _ _=>by unfold AL;exact eg (by simp only;rw[h.rows];omega) rfl) () trivial
 exact e
def r9 (n j:Nat):Int:=if n<=j then -1 else 0
theorem VF {m n j:Nat}(aq:j<n+m):((r9 n j:Int):Rat)=gn m n j:=by
 unfold r9 gn;by_cases c:n<=j
 ·rw[dw c,dw ⟨c,aq⟩];rfl
 ·rw[dA c,dA (by omega)];rfl
theorem U4 {m n:Nat}{t:bV}(gl:∀i,i<m->t.B i<n+m){j:Nat}(aq:j<n+m):t.cn m (fun j=>((r9 n j:Int):Rat)) j=t.cn m (gn m n) j:=by unfold bV.cn;simp only;rw[VF aq,gd (g:=fun i=>gn m n (t.B i)*t.T i j) fun i ab=>by rw[VF (gl i ab)]]
theorem SS {p:kj}{m n:Nat}{a:Nat->Nat->Int}{b:Nat->Int}(h:mW p m n a b)(x0:Int)(fM:Bool)(eP:ar)(q2:List bR)(bP:List (List bz))(cw:ar):
 KR x0 ((n+m:Nat):Int) p.hq p.fT p.eb p.ew p.hy fM eP q2 bP cw 0 (aQ (n+m) fun _=>(0:Int)) (aQ (n+m) fun _=>false)=some (aQ (n+m) (r9 n),aQ (n+m) fun j=>decide (j<n)):=by
 have hm:=h.hm;have aT:=h.aT;unfold KR
 obtain⟨s,e,-⟩:=h4 (f:=fun w:Int×ar×List Bool=>AM x0 ((n+m:Nat):Int) p.hq p.fT p.eb p.ew p.hy fM eP q2 bP cw w.1 w.2.1 w.2.2)
  (fun (k:Nat) (_:Unit)=>((k:Int),(aQ (n+m) fun j=>if j<k then r9 n j else 0),aQ (n+m) fun j=>if j<k then decide (j<n) else false)) (n+m) (fun _ _=>True) (fun _=>(aQ (n+m) (r9 n),aQ (n+m) fun j=>decide (j<n)))
  (fun k aX _ _=>by
    refine⟨(),?_,trivial⟩
    have e2:(aQ (n+m) fun j=>if j<k then decide (j<n) else false).set (0+((k:Int)).toNat) (decide (k<n))=aQ (n+m) fun j=>if j<k+1 then decide (j<n) else false:=by
     rw[dy,dG,kG];refine eA fun j _=> ?_;by_cases c:j=k
     ·subst c;rw[dw rfl,dw (by omega)]
     ·rw[dA c]
      by_cases cm:j<k
      ·rw[dw cm,dw (by omega)]
      ·rw[dA cm,dA (by omega)]
    have OB:decide ((k:Int)<p.fT)=decide (k<n):=(by rw[h.gL];simp);unfold AM;simp only;rw[OB,e2,fl (by omega)];refine dW (by omega) (bq (by rw[cb];omega) (bq (by rw[cb,dy];omega) ?_));by_cases c:n<=k
    ·refine dW (by rw[h.gL];omega) (bq (by rw[cb];omega) (bq (by rw[cb,dy];omega) ?_))
     rw[dy,dG,kG];congr 4;refine eA fun j _=> ?_;by_cases bl:j=k
     ·subst bl;rw[dw rfl,dw (by omega)];unfold r9;rw[dw c]
     ·rw[dA bl]
      by_cases cm:j<k
      ·rw[dw cm,dw (by omega)]
      ·rw[dA cm,dA (by omega)]
    ·refine eg (by rw[h.gL];omega) ?_
     congr 4;refine eA fun j _=> ?_;by_cases bl:j=k
     ·subst bl;rw[dA (by omega),dw (by omega)];unfold r9;rw[dA c]
     ·by_cases cm:j<k
      ·rw[dw cm,dw (by omega)]
      ·rw[dA cm,dA (by omega)])
  (fun _ _=>by
    unfold AM;refine eg (by simp) ?_;simp only;congr 3
    ·exact eA fun j aq=>by rw[dw aq]
    ·exact eA fun j aq=>by rw[dw aq]) () trivial
 have po:(aQ (n+m) fun j=>if j<0 then r9 n j else 0)=aQ (n+m) fun _=>(0:Int):=eA fun j _=>by rw[dA (by omega)]
 have JT:(aQ (n+m) fun j=>if j<0 then decide (j<n) else false)=aQ (n+m) fun _=>false:=eA fun j _=>by rw[dA (by omega)]
 rw[po,JT] at e;exact e
theorem acK {p:kj}{m n:Nat}{a:Nat->Nat->Int}{b:Nat->Int}(h:mW p m n a b){w:Rat}{t:bV}(f:pI m (n+m) w t){eT:List (List bz)}(gb:lY m (n+m) m (fun i=>i) w t eT)(fM:Bool)(eP:ar)(x0:Int)(q:List Bool):
 ∃r,KS ((n+m:Nat):Int) ((m:Nat):Int) p.hq p.fT p.eb p.ew p.hy fM eP x0 (cS m t) (hO m (n+m) fun i=>i) eT q 0=some r/\((r = .inr ()/\ ∃i,i<m/\n<=t.B i/\0<t.T i (n+m))\/(r = .inl ()/\ ∀i,i<m->n<=t.B i-> ¬0<t.T i (n+m))):=by
 have hm:=h.hm;have aT:=h.aT;have hw:=f.pos;unfold KS
 exact sq (f:=fun w:Int=>AN ((n+m:Nat):Int) ((m:Nat):Int) p.hq p.fT p.eb p.ew p.hy fM eP x0 (cS m t) (hO m (n+m) fun i=>i) eT q w) (fun (i:Nat) (_:Unit)=>(i:Int)) m (fun k _=> ∀i,i<k->n<=t.B i-> ¬0<t.T i (n+m)) _
  (fun i ab _ cZ=>by
    have bJ:=wu ((f.hZ i ab (n+m) (dD _)).mono (vA (by have:=sB;generalize ez=q at *;omega)));have g1:0<=(i:Int)/\(i:Int)<((cS m t).length:Nat):=(by unfold cS;rw[cb];omega);have g2:(cS m t)[(0+((i:Int)).toNat)]? = some ((t.B i:Nat):Int):=(by rw[dy];exact g9 ab);have g3:0<=(i:Int)/\(i:Int)<((hO m (n+m) fun i=>i).length:Nat):=(by unfold hO;rw[cb];omega);have g4:(hO m (n+m) fun i=>i)[(0+((i:Int)).toNat)]? = some (some (i,n+m+1)):=(by rw[dy];exact g9 ab);unfold AN;by_cases JS:n<=t.B i
    ·by_cases lz:0<t.T i (n+m)
     ·right;exact⟨_,dW (by omega) (bq g1 (aI g2 (dW (by rw[h.gL];omega) (bq g3 (aI g4 (aI (x:=(i,n+m+1)) rfl (aI (gb.row i ab) (bq (by simp only;omega) (aI (x:=b5 (t.T i (n+m)*w)) (by rw[dy];exact g9 (by omega)) (aI bJ (dW (by rw[B7 hw];exact su.2 lz) rfl))))))))))),.inl ⟨rfl,i,ab,JS,lz⟩⟩
     ·left
      refine⟨(),dW (by omega) (bq g1 (aI g2 (dW (by rw[h.gL];omega) (bq g3 (aI g4 (aI (x:=(i,n+m+1)) rfl (aI (gb.row i ab) (bq (by simp only;omega) (aI (x:=b5 (t.T i (n+m)*w)) (by rw[dy];exact g9 (by omega)) (aI bJ (eg (by rw[B7 hw];exact fun c=>lz (su.1 c)) (by rw[fl (by omega)])))))))))))),fun k aX=> ?_⟩;by_cases e:k=i
      ·rw[e];exact fun _=>lz
      ·exact cZ k (by omega)
    ·left
     refine⟨(),dW (by omega) (bq g1 (aI g2 (eg (by rw[h.gL];omega) (by rw[fl (by omega)])))),fun k aX=> ?_⟩;by_cases e:k=i
     ·rw[e];exact fun c=>(JS c).elim
     ·exact cZ k (by omega))
  (fun _ cZ=>⟨_,by unfold AN;exact eg (by omega) rfl,.inr ⟨rfl,cZ⟩⟩) () (fun k aX=>by omega)
theorem acL {p:kj}{m n:Nat}{a:Nat->Nat->Int}{b:Nat->Int}(h:mW p m n a b)(F:Nat->Bool)(fM:Bool)(eP:ar)(x0:Int)(q2:List bR)(bP:List (List bz))(cw:ar):
 KT ((n+m:Nat):Int) p.hq p.fT p.eb p.ew p.hy fM eP x0 q2 bP cw 0 (aQ (n+m) F)=some (aQ (n+m) fun j=>decide (j<n)):=by
 have hm:=h.hm;have aT:=h.aT;unfold KT
 obtain⟨s,e,-⟩:=h4 (f:=fun w:Int×List Bool=>AO ((n+m:Nat):Int) p.hq p.fT p.eb p.ew p.hy fM eP x0 q2 bP cw w.1 w.2)
  (fun (k:Nat) (_:Unit)=>((k:Int),aQ (n+m) fun j=>if j<k then decide (j<n) else F j)) (n+m) (fun _ _=>True) (fun _=>aQ (n+m) fun j=>decide (j<n))
  (fun k aX _ _=>by
    refine⟨(),?_,trivial⟩;have OB:decide ((k:Int)<p.fT)=decide (k<n):=(by rw[h.gL];simp);unfold AO;simp only;rw[OB,fl (by omega)];refine dW (by omega) (bq (by rw[cb];omega) (bq (by rw[cb,dy];omega) ?_));rw[dy,dG,kG];congr 3;refine eA fun j _=> ?_;by_cases c:j=k
    ·subst c;rw[dw rfl,dw (by omega)]
    ·rw[dA c]
     by_cases cm:j<k
     ·rw[dw cm,dw (by omega)]
     ·rw[dA cm,dA (by omega)])
  (fun _ _=>by unfold AO;refine eg (by simp) ?_;simp only;congr 2;exact eA fun j aq=>by rw[dw aq]) () trivial
 have po:(aQ (n+m) fun j=>if j<0 then decide (j<n) else F j)=aQ (n+m) F:=eA fun j _=>by rw[dA (by omega)]
 rw[po] at e;exact e
theorem XC {m n:Nat}{a:Nat->Nat->Int}{b:Nat->Int}:iu m (db m n a b) (jB m n a b)=1:=by unfold iu;rw[Vv,dw (by grind)]
theorem afC {p:kj}{m n:Nat}{a:Nat->Nat->Int}{b:Nat->Int}(h:mW p m n a b):
 ∃r,Ee p.hq p.fT p.eb p.ew p.hy=some r/\((qZ m n a b/\ ∃t aH g eT,r = .inl ((b5 (iu m (db m n a b) t)).cF,(b5 (iu m (db m n a b) t)).cc,((n+m:Nat):Int),hO aH (n+m) g,cS aH (h8 g t),aQ (n+m) (fun j=>decide (j<n)),eT) /\
  m4 m n (n+m) (db m n a b) t aH g/\(∀i,i<aH->t.B (g i)<n)/\lY aH (n+m) m g (iu m (db m n a b) t) (h8 g t) eT)\/(¬qZ m n a b/\r = .inr ())):=by
 have hm:=h.hm;have aT:=h.aT;have gz:=EE h;have gE:U (p.fT+p.hq)=((n+m:Nat):Int):=by rw[h.gL,h.rows,<- Int.natCast_add,cQ (by omega) (by omega)]
 have ajw:lY m (n+m) m (fun i=>i) (iu m (db m n a b) (jB m n a b)) (jB m n a b) (aQ m (fun i=>aQ (n+m+1) fun j=>b5 (db m n a b i j))):=⟨cb ..,fun i ab=>by rw[fN ab,XC];congr 1;exact eA fun j _=>by show b5 (db m n a b i j)=b5 (db m n a b i j*1);congr 1;grind⟩
 obtain⟨q,bT,t,eT,l0,e,⟨cZ,rfl⟩,gb,eM⟩:=SR (eU:=m) (m:=m) (N:=n+m) (M:=m) (A:=db m n a b) hm (by omega) (h:=fun i=>i) (fun i _ k _ e=>e) (r9 n) (fun j _=>by unfold r9;split<;>omega) (fun j=>decide (j<n))
  (fun w t=>lI m (n+m) (db m n a b) t/\w=iu m (db m n a b) t) (fun w t cZ=>⟨cZ.1.ok,cZ.1.lc,cZ.2▸cZ.1.sJ gz⟩)
  (fun w t r s cZ b=>by obtain⟨h1,rfl⟩:=cZ;have ah:t.T r s≠0:=(by have:=b.pos;grind);exact⟨h1.y1 gz b.ai b.bJ ah,h1.hX b,MH h1.ok h1.r7 b.ai b.bJ ah⟩)
  (w:=iu m (db m n a b) (jB m n a b)) (t:=jB m n a b) ⟨⟨UQ,TJ,Ui⟩,rfl⟩ ajw
 rw[XC] at e
 have Nf : ∀j,j<n->t.cn m (gn m n) j<=0:=by
  rcases eM with ⟨-,eM,-⟩|⟨-,s,bJ,-,di,hg⟩
  ·intro j aq;have:=eM j (by omega) (by simpa using aq);rw[U4 cZ.ok.js (by omega)] at this;grind
  ·rw[U4 cZ.ok.js bJ] at di;obtain⟨i,ab,ah⟩:=Sm cZ.ok bJ di;exact(hg i ab ah).elim
 have e1:pu 1=some (b5 1):=by have:=u4 (n:=1) (by rw[kT];omega);rw[show ((1:Int):Rat)=1 from rfl] at this;exact this
 obtain⟨r,r1,r2⟩:=acK h (cZ.sJ gz) gb (b5 (iu m (db m n a b) t)).cF (b5 (iu m (db m n a b) t)).cc ((n+m:Nat):Int) (aQ (n+m) l0);unfold Ee;rw[gE];rcases r2 with ⟨rfl,i,ab,gl,hZ⟩|⟨rfl,hg⟩
 ·have FV : ¬qZ m n a b:=fun bJ=>by
   have:=Ll cZ.lc (Td cZ.ok cZ.lc Nf bJ) cZ.ok.js i ab gl;grind
  refine⟨_,aI e1 (bq (by omega) (aI (Su h _ _ _) (bq (by omega) (aI (x:=(aQ (n+m) (r9 n),aQ (n+m) fun j=>decide (j<n))) (by rw[dy,qb,qb];exact SS h _ _ _ _ _ _) (aI e ?_))))),.inr ⟨FV,rfl⟩⟩;refine aI (x:= .inr ()) ?_ rfl;simp only;rw[show ((cS m t).length:Nat)=m from cb ..];exact r1
 ·have cC : ∀i,i<m->n<=t.B i->t.T i (n+m)=0:=fun i ab gl=>by
   have h1:=hg i ab gl;have h2:=cZ.lc i ab;grind
  have bJ:qZ m n a b:=SH cZ.ok cZ.lc cC;obtain⟨cD,aH,g,kx,kN,k3,xd,kD⟩:=aey (n:=n) gz (by omega) (by omega) (aQ (n+m) fun j=>decide (j<n)) cZ cC gb;refine⟨_,aI e1 (bq (by omega) (aI (Su h _ _ _) (bq (by omega) (aI (x:=(aQ (n+m) (r9 n),aQ (n+m) fun j=>decide (j<n))) (by rw[dy,qb,qb];exact SS h _ _ _ _ _ _) (aI e ?_))))),.inl ⟨bJ,cD,aH,g,kx,rfl,k3,xd,kD⟩⟩;refine aI (x:= .inl ()) ?_ ?_
  ·simp only;rw[show ((cS m t).length:Nat)=m from cb ..];exact r1
  ·simp only;rw[show ((aQ (n+m) l0).length:Nat)=n+m from cb ..];refine aI (acL h l0 _ _ _ _ _ _) ?_;rw[h.gL];exact aI kN rfl
structure qB (m:Nat) (u v:bV):Prop where
 T : ∀i,i<m-> ∀j,u.T i j=v.T i j
 B : ∀i,i<m->u.B i=v.B i
theorem qB.sJ {m N:Nat}{w:Rat}{u v:bV}(s:qB m u v)(h:pI m N w v):pI m N w u :=
 ⟨h.pos,h.hw,fun i ab j aq=>by rw[s.T i ab];exact h.hZ i ab j aq,fun i ab=>by rw[s.B i ab];exact h.gl i ab⟩
theorem qB.ck {m:Nat}{u v:bV}(s:qB m u v){r:Nat}(ai:r<m)(k:Nat):qB m (u.ck r k) (v.ck r k) where
 T:=fun i ab j=>by simp only[bV.ck,s.T i ab,s.T r ai]
 B:=fun i ab=>by simp only[bV.ck,s.B i ab]
theorem qB.y1 {m N:Nat}{w:Rat}{u v:bV}(s:qB m u v){r k:Nat}(h:vB m N w v r k):vB m N w u r k :=
 ⟨h.ai,h.aX,by rw[s.T r h.ai];exact h.ah,fun i ab j aq=>by rw[(s.ck h.ai k).T i ab,s.T r h.ai];exact h.C2 i ab j aq⟩
theorem qB.trans {m:Nat}{u v t:bV}(a:qB m u v)(b:qB m v t):qB m u t:=⟨fun i ab j=>(a.T i ab j).trans (b.T i ab j),fun i ab=>(a.B i ab).trans (b.B i ab)⟩
theorem agb {aH:Nat}{g:Nat->Nat}(inj:∀i,i<aH-> ∀k,k<aH->g i=g k->i=k)(t:bV){r:Nat}(ai:r<aH)(k:Nat):qB aH ((h8 g t).ck r k) (h8 g (t.ck (g r) k)) :=
 ⟨fun i ab j=>(EN (t:=t) (k:=k) (inj i ab r ai)).1 j,fun i ab=>(EN (t:=t) (k:=k) (inj i ab r ai)).2⟩
theorem VG {m n:Nat}{a:Nat->Nat->Int}{b:Nat->Int}{x:Nat->Rat}{c:Nat}:cr n (fun j=>db m n a b c j*x j)=((k0 (b c):Int):Rat)*cr n (fun j=>(a c j:Rat)*x j):=by rw[<- jF];exact gd fun j aq=>by rw[Mx aq];grind
theorem m4.VH {m n:Nat}{a:Nat->Nat->Int}{b:Nat->Int}{t:bV}{aH:Nat}{g:Nat->Nat}(h:m4 m n (n+m) (db m n a b) t aH g)(gl:∀i,i<aH->t.B (g i)<n):LT m n a b aH (n+m) (h8 g t) where
 eqv:=fun x=>by
  have key:(∀i,i<m->cr n (fun j=>(a i j:Rat)*x j)=(b i:Rat))↔ ∀i,i<m->cr n (fun j=>db m n a b i j*x j)=db m n a b i (n+m):=by
   constructor
   ·intro aa i ab;rw[VG,ID,aa i ab]
   ·intro aa i ab
    have:=aa i ab;rw[VG,ID] at this;have h0:=Vu (b i);have e:((k0 (b i):Int):Rat)*(cr n (fun j=>(a i j:Rat)*x j)-(b i:Rat))=0:=(by grind);rcases Rat.mul_eq_zero.1 e with e|e
    ·exact(h0 e).elim
    ·grind
  rw[key];constructor
  ·intro aa i ab;obtain⟨W,hW⟩:=h.inv.ok.row;show cr n (fun j=>t.T (g i) j*x j)=t.T (g i) (n+m);rw[hW (g i) (h.lt i ab) (n+m) (dD _),gd (g:=fun j=>cr m (fun c=>W (g i) c*(db m n a b c j*x j))) (fun j aq=>by rw[hW (g i) (h.lt i ab) j (by omega),<- u3];exact gd fun c _=>by grind),qI];exact gd fun c aY=>by rw[jF,aa c aY]
  ·intro aa c aY
   have row : ∀i,i<m->cr n (fun j=>t.T i j*x j)=t.T i (n+m):=fun i ab=>by
    by_cases bM : ∃q,q<aH/\g q=i
    ·obtain⟨q,aZ,rfl⟩:=bM;exact aa q aZ
    ·obtain⟨d1,d2⟩:=h.dead i ab fun q aZ e=>bM ⟨q,aZ,e⟩;rw[h.z i ab d1];exact nh fun j aq=>by rw[d2 j aq];grind
   rw[h.inv.ok.sT c aY (n+m) (dD _),gd (g:=fun j=>cr m (fun i=>db m n a b c (t.B i)*(t.T i j*x j))) (fun j aq=>by rw[h.inv.ok.sT c aY j (by omega),<- u3];exact gd fun i _=>by grind),qI];exact gd fun i ab=>by rw[jF,row i ab]
 unit:=fun i ab k aX=>by
  show t.T (g i) (t.B (g k))=_;rw[h.inv.ok.unit _ (h.lt i ab) _ (h.lt k aX)];by_cases c:i=k
  ·rw[dw c,dw (by rw[c])]
  ·rw[dA c,dA fun e=>c (h.inj i ab k aX e)]
 js:=gl
 lc:=fun i ab=>h.inv.lc _ (h.lt i ab)
 Ov:=by omega
theorem m4.step {m n:Nat}{a:Nat->Nat->Int}{b:Nat->Int}{t:bV}{aH:Nat}{g:Nat->Nat}{K:Nat}{obj:Nat->Nat->Rat}{bM:Nat->Prop}(h:m4 m n (n+m) (db m n a b) t aH g)(gl:∀i,i<aH->t.B (g i)<n){u:bV}(bJ:qB aH u (h8 g t)){r s:Nat}(c2:oB aH (n+m) K obj bM u r s)(zd:s<n):
 m4 m n (n+m) (db m n a b) (t.ck (g r) s) aH g/\(∀i,i<aH->(t.ck (g r) s).B (g i)<n)/\qB aH (u.ck r s) (h8 g (t.ck (g r) s)):=by
 have ai:=c2.ai;have ah:0<t.T (g r) s:=by have:=c2.pos;rw[bJ.T r ai] at this;exact this
 have Gu:t.T (g r) s≠0:=by grind
 have Wt:=(bJ.ck ai s).trans (agb h.inj t ai s);have zH : ∀d,d<m->(∀i,i<aH->g i≠d)-> ∀j,(t.ck (g r) s).T d j=t.T d j/\(t.ck (g r) s).B d=t.B d:=fun d bC hg j=>by obtain⟨d1,d2⟩:=h.dead d bC hg;simp only[bV.ck];rw[dA fun e=>hg r ai e.symm,dA fun e=>hg r ai e.symm,d2 s zd];exact⟨by grind,rfl⟩
 have oH : ∀i,i<aH->(t.ck (g r) s).B (g i)<n:=fun i ab=>by
  simp only[bV.ck];split
  ·exact zd
  ·exact gl i ab
 have ajx:(u.ck r s).l8 aH (n+m):=c2.FN fun i ab=>by rw[bJ.T i ab];exact h.inv.lc _ (h.lt i ab)
 refine⟨⟨⟨h.inv.ok.ck (h.lt r ai) (by omega) Gu,fun i ab=> ?_,?_⟩,fun i ab aT=> ?_,h.le,h.lt,h.inj,fun d bC hg=> ?_⟩,oH,Wt⟩
 ·by_cases bM : ∃q,q<aH/\g q=i
  ·obtain⟨q,aZ,rfl⟩:=bM;have:=ajx q aZ;rw[Wt.T q aZ] at this;exact this
  ·rw[(zH i ab (fun q aZ e=>bM ⟨q,aZ,e⟩) _).1];exact h.inv.lc i ab
 ·rw[h.inv.ok.yJ (h.lt r ai) (by omega)];have:=h.inv.r7;grind
 ·by_cases bM : ∃q,q<aH/\g q=i
  ·obtain⟨q,aZ,rfl⟩:=bM;have:=oH q aZ;omega
  ·have hg : ∀q,q<aH->g q≠i:=fun q aZ e=>bM ⟨q,aZ,e⟩;obtain⟨e1,e2⟩:=zH i ab hg (n+m);rw[e1];rw[e2] at aT;exact h.z i ab aT
 ·obtain⟨d1,d2⟩:=h.dead d bC hg;refine⟨by rw[(zH d bC hg 0).2];exact d1,fun j aq=>by rw[(zH d bC hg j).1];exact d2 j aq⟩
structure qC (m n:Nat) (a:Nat->Nat->Int) (b:Nat->Int) (aH:Nat) (g:Nat->Nat) (ho:Nat->Nat->Rat) (dd:Nat->Bool) (w:Rat) (u:bV):Prop where
 bM : ∃t,m4 m n (n+m) (db m n a b) t aH g/\(∀i,i<aH->t.B (g i)<n)/\qB aH u (h8 g t)/\w=iu m (db m n a b) t
 lt:LT m n a b aH (n+m) u
 ok:gQ aH aH (n+m) ho u
 OC : ∀i,i<aH->dd (u.B i)=true
theorem qC.sJ {m n:Nat}{a:Nat->Nat->Int}{b:Nat->Int}{aH:Nat}{g:Nat->Nat}{ho:Nat->Nat->Rat}{dd:Nat->Bool}{w:Rat}{u:bV}(gz:Small m (n+m) (db m n a b))(h:qC m n a b aH g ho dd w u):pI aH (n+m) w u:=by obtain⟨t,h1,h2,J,rfl⟩:=h.bM;exact J.sJ (h1.sJ gz)
theorem qC.hX {m n:Nat}{a:Nat->Nat->Int}{b:Nat->Int}{aH:Nat}{g:Nat->Nat}{ho:Nat->Nat->Rat}{dd l0:Nat->Bool}{w:Rat}{u:bV}{obj:Nat->Nat->Rat}{K:Nat}(gz:Small m (n+m) (db m n a b))(h:qC m n a b aH g ho l0 w u)(lN:∀j,j<n+m->dd j=true->j<n)(ajy:∀j,dd j=true->l0 j=true){r s:Nat}(c2:oB aH (n+m) K obj (fun j=>dd j=true) u r s):
 vB aH (n+m) w u r s/\qC m n a b aH g ho l0 (qn w u r s) (u.ck r s):=by
 obtain⟨t,h1,h2,J,aj⟩:=h.bM;have zd:=lN s c2.bJ c2.Gf;obtain⟨g1,g2,g3⟩:=h1.step h2 J c2 zd;have ah:=c2.pos;have XD:t.T (g r) s≠0:=by rw[J.T r c2.ai] at ah;show t.T (g r) s≠0;have:0<t.T (g r) s:=ah;grind
 refine⟨aj▸J.y1 (h1.y1 gz c2.ai (by omega) XD),⟨t.ck (g r) s,g1,g2,g3,?_⟩,h.lt.ck c2.ai zd (by grind) (c2.FN h.lt.lc),c2.ok h.ok,fun i ab=> ?_⟩
 ·rw[<- MH h1.inv.ok h1.inv.r7 (h1.lt r c2.ai) (show s<n+m by omega) XD,aj];unfold qn;rw[J.T r c2.ai];rfl
 ·simp only[bV.ck]
  split
  ·exact ajy s c2.Gf
  ·exact h.OC i ab
theorem Uu {m n:Nat}{a:Nat->Nat->Int}{b:Nat->Int}{aH:Nat}{g:Nat->Nat}(hm:m<=20)(aT:n<=40)(gz:Small m (n+m) (db m n a b)){ho:Nat->Nat->Rat}{dd:Nat->Bool}{w:Rat}{u:bV}(h:qC m n a b aH g ho dd w u)(lN:∀j,j<n+m->dd j=true->j<n)(inj:∀i,i<aH-> ∀k,k<aH->g i=g k->i=k)(la:aH<=m)
 (o:Nat->Int) (ak : ∀j,-100<=o j/\o j<=100) {c:Nat->Rat} {l:Nat} {V:Nat->Rat} (ajz : ∀j,((o j:Int):Rat)=hK c l j) (s:qq m n a b c l dd V) {eT:List (List bz)} (gb:lY aH (n+m) m g w u eT) :
 ∃ok bT mh kx l0,uS (b5 w).cF (b5 w).cc ((n+m:Nat):Int) (hO aH (n+m) g) eT (cS aH u) (aQ (n+m) dd) (aQ (n+m) o)=some (ok,(b5 bT).cF,(b5 bT).cc,kx,cS aH mh,aQ (n+m) l0)/\lY aH (n+m) m g bT mh kx /\
  ((ok=true/\qC m n a b aH g ho l0 bT mh/\(∀j,j<n+m->l0 j=true->j<n)/\ ∃GO,qq m n a b c (l+1) l0 GO)\/(ok=false/\LT m n a b aH (n+m) mh/\ ∃q,q<n/\0<mh.cn aH (hK c l) q/\ ∀i,i<aH-> ¬0<mh.T i q)):=by
 have ajA:(fun j=>((o j:Int):Rat))=hK c l:=funext ajz
 obtain⟨ok,bT,mh,kx,l0,e,cZ,GG,eM⟩:=SR (eU:=aH) (m:=aH) (N:=n+m) (M:=m) (A:=ho) (h:=g) (by omega) (by omega) inj o (fun j _=>ak j) dd
  (fun w u=>qC m n a b aH g ho dd w u) (fun w u ek=>⟨ek.ok,ek.lt.lc,ek.sJ gz⟩)
  (fun w u r q ek c2=>ek.hX gz lN (fun j aq=>aq) c2) h gb
 rw[ajA] at eM;refine⟨ok,bT,mh,kx,l0,e,GG,?_⟩;rcases eM with ⟨h1,h2,J⟩|⟨h1,q,h2,cl,J,aj⟩
 ·left;have Ng : ∀j,l0 j=true->dd j=true:=fun j aq=>(by rw[J,dL] at aq;exact aq.1);refine⟨h1,⟨cZ.bM,cZ.lt,cZ.ok,fun i ab=> ?_⟩,fun j aq uA=>lN j aq (Ng j uA),qq.next cZ.lt s (fun j aq cl=>h2 j (by omega) cl) (fun j aq=>by rw[J])⟩;rw[J];simp only;rw[cZ.OC i ab,cZ.lt.xZ _ ab,decide_eq_false (by grind)];rfl
 ·right;exact⟨h1,cZ.lt,q,lN q h2 cl,J,aj⟩
def gG (x:Rat):Option cy:=some (lp (eQ x))
theorem agT {n d:Int}{x:Rat}(bC:0<d)(e:(d:Rat)*x=n):(n / (Int.gcd n d:Int),d / (Int.gcd n d:Int))=eQ x:=by
 have rK:(d:Rat)≠0:=fun c=>by have:d=0:=Rat.intCast_inj.1 (by rw[c];rfl);omega
 have aa:x=Rat.divInt n d:=by rw[Rat.divInt_eq_div,<- e];grind
 have e1:(Rat.divInt n d).num=n / (Int.gcd n d:Int):=by rw[Rat.num_divInt,Int.sign_eq_one_of_pos bC,Int.one_mul,Int.gcd_comm]
 have e2:((Rat.divInt n d).den:Int)=d / (Int.gcd n d:Int):=by rw[Rat.den_divInt,dA (by omega),Int.gcd_comm];rw[Int.natCast_ediv,Int.natAbs_of_nonneg (by omega)]
 rw[aa];unfold eQ;rw[e1,e2]
theorem L7 {n d:Int}{x:Rat}(bC:0<d)(e:(d:Rat)*x=n)(aT:(n.natAbs:Int)<B 50)(za:d<B 50):sl (gx n) (L d)=some (gG x):=by have kN:=(hJ (k:=50) (by omega)).2 aT;have k3:=(hJ (k:=50) (by omega)).2 za;rw[LL bC (by omega) (by omega),agT bC e];rfl
theorem Mm {n:Int}(h:mS n):ub n=some (gG (n:Rat)):=by rw[L4 h];unfold gG eQ;rw[Rat.num_intCast,Rat.den_intCast];rfl
theorem L8 {a b:Int}(bG:0<=a)(aW:0<=b)(h1:a<B 24)(h2:b<B 24):a*b<B 48:=by
 have e:B 48=B 24*B 24:=by decide +kernel
 rw[e];exact Int.lt_of_le_of_lt (dK (Int.le_of_lt h2) bG) (Int.mul_lt_mul_of_pos_right h1 (by omega))
theorem agc {x y:Rat}(aa:eC x)(aU:eC y):xI (gG x) (gG y)=some (gG (x*y)):=by
 have p:=aa.dd;have q:=aU.dd;have h1:=p.oF;have h2:=p.nY;have J:=q.oF;have aj:=q.nY;have av:=p.pos;have aP:=q.pos;have gl:=MF;have Wp:=o1 48;have jl:=L8 (by omega) (by omega) p.num q.num;have ik:=L8 (by omega) (by omega) p.den q.den;have r3:(((eQ x).1*(eQ y).1).natAbs:Int)<B 48:=by rw[Int.natAbs_mul];exact jl
 have bJ:xI (some (lp (eQ x))) (some (lp (eQ y)))=((p5 (gx (eQ x).1) (gx (eQ y).1)).bind fun aS=>(sm (L (eQ x).2) (L (eQ y).2)).bind fun bE=>(sl aS bE).bind fun bt=>some bt):=rfl;unfold gG;rw[bJ,LM (by omega) (by omega),dx,EK (hB _) (hB _) (by omega) (by omega),d9 (by omega),d9 (by omega),dx,L7 (x:=x*y) (Int.mul_pos av aP) ?_ (by omega) (by omega)]
 ·rfl
 ·have:=uj x;have:=uj y;simp only[eQ,dN];grind
theorem VI {x y:Rat}(aa:eC x)(aU:eC y):Bk (gG x) (gG y)=some (gG (x+y)):=by
 have p:=aa.dd;have q:=aU.dd;have h1:=p.oF;have h2:=p.nY;have J:=q.oF;have aj:=q.nY;have av:=p.pos;have aP:=q.pos;have gl:=MF;have Wp:=o1 48;obtain⟨bl,-,-⟩:=H5 p q;obtain⟨d1,-,-⟩:=H5 q p;have ik:=L8 (by omega) (by omega) p.den q.den;have bJ:Bk (some (lp (eQ x))) (some (lp (eQ y)))=((sc (some (lp (eQ x))) (L (eQ y).2)).bind fun a6=>(sc (some (lp (eQ y))) (L (eQ x).2)).bind fun bE=>(v8 a6 bE).bind fun bt=>(sm (L (eQ x).2) (L (eQ y).2)).bind fun bZ=>(sl bt bZ).bind fun cT=>some cT):=rfl;unfold gG;rw[bJ,HS (by omega) (by omega) (by omega),dx,HS (by omega) (by omega) (by omega),dx,Uo (by omega) (by omega),dx,EK (hB _) (hB _) (by omega) (by omega),d9 (by omega),d9 (by omega),dx,L7 (x:=x+y) (Int.mul_pos av aP) ?_ (by omega) (by omega)]
 ·rfl
 ·have:=uj x;have:=uj y;simp only[eQ,dN,Rat.intCast_add];grind
theorem ahz {x:Rat}(h:eC x):wm (gG x)=some (gG x):=by have:=h.dd;unfold gG;rw[show lp (eQ x)=lp ((eQ x).1,(eQ x).2) from rfl,Vz (Int.le_of_lt this.pos),dw ⟨this.num,this.den⟩];rfl
def nZ (n:Nat)(c:Nat->Int)(l j:Nat):Int:=match l with
 | 0=>if j<n then c j else 0
 | l+1=>if j=l then -1 else 0
def ib (n:Nat)(c:Nat->Int)(j:Nat):Rat:=((nZ n c 0 j:Int):Rat)
theorem Uv (n:Nat)(c:Nat->Int)(l j:Nat):((nZ n c l j:Int):Rat)=hK (ib n c) l j:=by
 cases l with
 | zero=>rfl
 | succ l=>simp only[nZ,hK];split<;>rfl
theorem U5 {n:Nat}{c:Nat->Int}(h:∀j,j<n-> -100<=c j/\c j<=100)(l j:Nat): -100<=nZ n c l j/\nZ n c l j<=100:=by
 cases l with
 | zero =>
  simp only[nZ];split
  ·exact h j ‹_›
  ·omega
 | succ l=>simp only[nZ];split<;>omega
def Nh (m n:Nat)(a:Nat->Nat->Int)(b c:Nat->Int)(aH:Nat)(g:Nat->Nat)(ho:Nat->Nat->Rat)(l:Nat)(s:Bool×ar×ar×List (List bz)×ar×List Bool):Prop :=
 ∃w u eT dd V o,s=((b5 w).cF,(b5 w).cc,aQ (n+m) o,eT,cS aH u,aQ (n+m) dd)/\qC m n a b aH g ho dd w u/\(∀j,j<n+m->dd j=true->j<n)/\lY aH (n+m) m g w u eT/\qq m n a b (ib n c) l dd V
theorem adO {m n:Nat}{a:Nat->Nat->Int}{b c:Nat->Int}{aH:Nat}{g:Nat->Nat}{ho:Nat->Nat->Rat}(hm:m<=20)(aT:n<=40)(gz:Small m (n+m) (db m n a b))(aY:∀j,j<n-> -100<=c j/\c j<=100)(x0:Int)(fM eP kR:ar)(k:Nat)(aX:k<n)(s:Bool×ar×ar×List (List bz)×ar×List Bool)(bJ:Nh m n a b c aH g ho (k+1) s):
 ∃b0,xx (n:Int) x0 fM eP kR ((n+m:Nat):Int) (hO aH (n+m) g) (k:Int) s.1 s.2.1 s.2.2.1 s.2.2.2.1 s.2.2.2.2.1 s.2.2.2.2.2=some (.inl (((k+1:Nat):Int),b0))/\Nh m n a b c aH g ho (k+2) b0:=by
 obtain⟨w,u,eT,dd,V,o,rfl,ek,lN,gb,xf⟩:=bJ;obtain⟨t,bM,-⟩:=ek.bM;obtain⟨ok,bT,mh,kx,l0,e,GG,eM⟩:=Uu hm aT gz ek lN bM.inj bM.le (nZ n c (k+1)) (U5 aY (k+1)) (Uv n c (k+1)) xf gb;rcases eM with ⟨rfl,CL,Ng,GO,ajB⟩|⟨-,rb,q,aZ,di,hg⟩
 ·refine⟨((b5 bT).cF,(b5 bT).cc,aQ (n+m) (nZ n c (k+1)),kx,cS aH mh,aQ (n+m) l0),?_,bT,mh,kx,l0,GO,_,rfl,CL,Ng,GG,ajB⟩;have zG:(List.replicate (aQ (n+m) o).length 0:ar).set (0+((k:Int)).toNat) (-1)=aQ (n+m) (nZ n c (k+1)):=(by rw[cb,qb,dy,dG,kG];exact eA fun j _=>rfl);unfold xx;simp only;rw[zG];refine dW (by omega) (bq (by rw[cb];omega) (bq (by rw[List.length_replicate,cb,dy];omega) (aI e ?_)));rw[fl (by omega)]
 ·obtain⟨i,ab,ah⟩:=rb.TK di;exact(hg i ab ah).elim
theorem afD {m n:Nat}{a:Nat->Nat->Int}{b c:Nat->Int}{aH:Nat}{g:Nat->Nat}{ho:Nat->Nat->Rat}(hm:m<=20)(aT:n<=40)(gz:Small m (n+m) (db m n a b))(aY:∀j,j<n-> -100<=c j/\c j<=100)(x0:Int)(fM eP kR:ar){w:Rat}{u:bV}{eT:List (List bz)}{dd:Nat->Bool}{V:Nat->Rat}{o:Nat->Int}(ek:qC m n a b aH g ho dd w u)(lN:∀j,j<n+m->dd j=true->j<n)(gb:lY aH (n+m) m g w u eT)(xf:qq m n a b (ib n c) 1 dd V):
 ∃iW ke jW uL,KU (n:Int) x0 fM eP kR ((n+m:Nat):Int) (hO aH (n+m) g) 0 (b5 w).cF (b5 w).cc (aQ (n+m) o) eT (cS aH u) (aQ (n+m) dd)=some ((b5 iW).cF,(b5 iW).cc,jW,cS aH ke,aQ (n+m) uL)/\qC m n a b aH g ho uL iW ke/\lY aH (n+m) m g iW ke jW/\ ∃V,qq m n a b (ib n c) (n+1) uL V:=by
 unfold KU
 obtain⟨r,e,ai⟩:=sq (f:=fun w:Int×Bool×ar×ar×(List (List bz))×ar×(List Bool)=>xx (n:Int) x0 fM eP kR ((n+m:Nat):Int) (hO aH (n+m) g) w.1 w.2.1 w.2.2.1 w.2.2.2.1 w.2.2.2.2.1 w.2.2.2.2.2.1 w.2.2.2.2.2.2)
  (fun (k:Nat) (s:Bool×ar×ar×List (List bz)×ar×List Bool)=>((k:Int),s)) n (fun k s=>Nh m n a b c aH g ho (k+1) s)
  (fun r=> ∃iW ke jW uL,r=((b5 iW).cF,(b5 iW).cc,jW,cS aH ke,aQ (n+m) uL)/\qC m n a b aH g ho uL iW ke/\lY aH (n+m) m g iW ke jW/\ ∃V,qq m n a b (ib n c) (n+1) uL V)
  (fun k aX s bJ=> .inl (adO hm aT gz aY x0 fM eP kR k aX s bJ))
  (fun s bJ=>by obtain⟨w,u,eT,dd,V,o,rfl,ek,lN,gb,xf⟩:=bJ;exact⟨_,by unfold xx;exact eg (by simp) rfl,w,u,eT,dd,rfl,ek,gb,V,xf⟩)
  ((b5 w).cF,(b5 w).cc,aQ (n+m) o,eT,cS aH u,aQ (n+m) dd) ⟨w,u,eT,dd,V,o,rfl,ek,lN,gb,xf⟩
 obtain⟨iW,ke,jW,uL,rfl,h1,h2,J⟩:=ai;exact⟨iW,ke,jW,uL,e,h1,h2,J⟩
theorem agU:B 24<=B 50:=by decide +kernel
theorem agV:2<=ez:=by decide +kernel
theorem Ni:40*(ez*100)<=21*100*(ez*ez):=by have:=Nat.mul_le_mul_left ez agV;omega
theorem afE {n:Nat}(x0 x1:Int)(fM eP kR:ar)(po:Bool)(JT:ar)(X1:Int)(q1:List bR)(q2:List (List bz))(bP:ar)(cw:List Bool)(aT:n<=40):
 KV (n:Int) x0 x1 fM eP kR po JT X1 q1 q2 bP cw 0 (List.replicate n (none:Option cy))=some (aQ n fun _=>gG 0):=by
 unfold KV
 obtain⟨s,e,-⟩:=h4 (f:=fun w:Int×(List (Option cy))=>AQ (n:Int) x0 x1 fM eP kR po JT X1 q1 q2 bP cw w.1 w.2)
  (fun (k:Nat) (_:Unit)=>((k:Int),aQ n fun j=>if j<k then gG 0 else none)) n (fun _ _=>True) (fun _=>aQ n fun _=>gG 0)
  (fun k aX _ _=>by
    refine⟨(),?_,trivial⟩;unfold AQ;refine dW (by simp only;omega) (aI (x:=gG 0) (Mm (n:=0) (by rw[kT];omega)) (bq (by simp only;rw[cb];omega) (bq (by simp only;rw[cb,dy];omega) ?_)));simp only;rw[fl (by omega),dy,dG,kG];congr 3;refine eA fun j _=> ?_;by_cases bl:j=k
    ·subst bl;rw[dw rfl,dw (by omega)]
    ·rw[dA bl]
     by_cases cm:j<k
     ·rw[dw cm,dw (by omega)]
     ·rw[dA cm,dA (by omega)])
  (fun _ _=>by unfold AQ;refine eg (by simp) ?_;simp only;congr 2;exact eA fun j aq=>by rw[dw aq]) () trivial
 have e0:(aQ n fun j=>if j<0 then gG 0 else none)=List.replicate n none:=by rw[qb];exact eA fun j _=>by rw[dA (by omega)]
 rw[<- e0];exact e
theorem L9 {t:bV}{N i j:Nat}:t.gZ (i+1) N j=t.gZ i N j+if t.B i=j then t.T i N else 0:=rfl
theorem MI {m n:Nat}{a:Nat->Nat->Int}{b:Nat->Int}{aH N:Nat}{u:bV}(h:LT m n a b aH N u){i k:Nat}(ab:i<aH)(aX:k<aH)(e:u.B i=u.B k):i=k:=by
 by_cases c:i=k
 ·exact c
 ·have h1:=h.unit i ab k aX;rw[<- e,h.unit i ab i ab,dw rfl,dA c] at h1;grind
theorem aez {m n aH N:Nat}{a:Nat->Nat->Int}{b:Nat->Int}{g:Nat->Nat}{w:Rat}{u:bV}(x0 x1:Int)(fM eP kR:ar)(po:Bool)(cw:List Bool)(hm:aH<=20)(gE:N<=1000)(aV:LT m n a b aH N u)(f:pI aH N w u){M:Nat}{eT:List (List bz)}(gb:lY aH N M g w u eT)(aT:n<=40):
 KW (aH:Int) x0 x1 fM eP kR po (b5 w).cc (N:Int) (cS aH u) (hO aH N g) eT cw 0 (aQ n fun _=>gG 0)=some (aQ n fun j=>gG (u.gZ aH N j)):=by
 have hw:=MG f.hw;have ajC:0<w.num:=by have:(0:Rat)<((w.num:Int):Rat):=(by rw[hw.1];exact f.pos);exact Rat.intCast_lt_intCast.1 (by rw[show ((0:Int):Rat)=0 from rfl];exact this)
 have aii:(b5 w).cc=L w.num:=by show L (w.num.natAbs:Int)=_;rw[Int.natAbs_of_nonneg (by omega)]
 have kr:=pC wM;have lR:=pC Cz;have alW:=agU;rw[aii];unfold KW
 obtain⟨s,e,-⟩:=h4 (f:=fun v:Int×(List (Option cy))=>AR (aH:Int) x0 x1 fM eP kR po (L w.num) (N:Int) (cS aH u) (hO aH N g) eT cw v.1 v.2)
  (fun (k:Nat) (_:Unit)=>((k:Int),aQ n fun j=>gG (u.gZ k N j))) aH (fun _ _=>True) (fun _=>aQ n fun j=>gG (u.gZ aH N j))
  (fun k aX _ _=>by
    refine⟨(),?_,trivial⟩;have gl:=aV.js k aX;have hZ:=MG (f.hZ k aX N (dD _));have cC:u.gZ k N (u.B k)=0:=bV.Lc fun i ab e=>(by have:=MI aV (by omega) aX e;omega);have yX:sl (b5 (u.T k N*w)) (L w.num)=some (gG (u.T k N)):=(by refine L7 ajC ?_ (by omega) (by omega);rw[hw.1,hZ.1];grind);unfold AR;simp only;refine dW (by omega) (bq (by unfold cS;rw[cb];omega) (aI (x:=((u.B k:Nat):Int)) (by rw[dy];exact g9 aX) (bq (by unfold hO;rw[cb];omega) (aI (x:=some (g k,N+1)) (by rw[dy];exact g9 aX) (aI (x:=(g k,N+1)) rfl (aI (gb.row k aX) (bq (by simp only;omega) (aI (x:=b5 (u.T k N*w)) (by rw[dy];exact g9 (by omega)) (aI yX (bq (by rw[cb];omega) (bq (by rw[cb,dy];omega) ?_)))))))))));rw[fl (by omega),dy,dG,kG];congr 3;refine eA fun j _=> ?_;rw[L9];by_cases bl:j=u.B k
    ·subst bl;rw[dw rfl,dw rfl,cC];congr 1;grind
    ·rw[dA bl,dA (fun e=>bl e.symm)];congr 1;grind)
  (fun _ _=>by unfold AR;exact eg (by simp) rfl) () trivial
 exact e
theorem U6 {m n:Nat}{a:Nat->Nat->Int}{b:Nat->Int}{aH N:Nat}{w:Rat}{u:bV}{K:Nat}(aV:LT m n a b aH N u)(f:∀i,i<aH->dm K (u.T i N*w))(j:Nat):dm K (u.gZ aH N j*w):=by
 by_cases c : ∃i,i<aH/\u.B i=j
 ·obtain⟨i,ab,rfl⟩:=c;have:u.gZ aH N (u.B i)=u.T i N:=(by unfold bV.gZ;rw[k6 ab (f:=fun k=>if u.B k=u.B i then u.T k N else 0) (fun k aX c8=>dA fun e=>c8 (MI aV aX ab e)),dw rfl]);rw[this];exact f i ab
 ·rw[bV.Lc fun i ab e=>c ⟨i,ab,e⟩];exact⟨0,by rw[Rat.zero_mul];rfl,by simp⟩
theorem agW {m n:Nat}{a:Nat->Nat->Int}{b:Nat->Int}{aH N:Nat}{w:Rat}{u:bV}(aV:LT m n a b aH N u)(f:pI aH N w u)(j:Nat):dm ez (u.gZ aH N j*w):=U6 aV (fun i ab=>f.hZ i ab N (dD _)) j
theorem qC.Wu {m n:Nat}{a:Nat->Nat->Int}{b:Nat->Int}{aH:Nat}{g:Nat->Nat}{w:Rat}{u:bV}{ho:Nat->Nat->Rat}{dd:Nat->Bool}(gz:Small m (n+m) (db m n a b))(h:qC m n a b aH g ho dd w u):dm (mA 100 m) w/\ ∀i,i<aH->dm (mA 100 m) (u.T i (n+m)*w):=by
 obtain⟨t,bM,-,bJ,rfl⟩:=h.bM;have sZ:dm (mA 100 m) (1*t.D m (db m n a b)):=by rw[Rat.one_mul];exact wv fun i ab c aY=>gz.pp c aY _ (Nat.le_of_lt (bM.inv.ok.js i ab))
 refine⟨by have:=IR sZ;rw[Rat.one_mul] at this;exact this,fun i ab=> ?_⟩;rw[bJ.T i ab];refine IR ?_;show dm (mA 100 m) (t.T (g i) (n+m)*_);rw[<- bM.inv.ok.xc (bM.lt i ab) (dD _)];refine wv fun k aX c aY=> ?_;simp only[hf];split
 ·exact gz.pp c aY _ (dD _)
 ·exact gz.pp c aY _ (Nat.le_of_lt (bM.inv.ok.js k aX))
theorem U7 {n:Nat}{w:Rat}{x:Nat->Rat}{c:Nat->Int}(hw:dm (21*100*ez) w)(ah:0<w)(aa:∀j,dm ez (x j*w))(aY:∀j,j<n-> -100<=c j/\c j<=100){k:Nat}(aX:k<=n)(aT:n<=40):eC (cr k fun j=>x j*(c j:Rat)):=by have h1:dm (k*(ez*100)) (cr k fun j=>x j*w*(c j:Rat)):=dm.sum fun j aq=>(aa j).mul ⟨c j,rfl,by have:=aY j (by omega);omega⟩;have h2:k*(ez*100)<=40*(ez*100):=dM _ (by omega);refine qV (K:=21*100*(ez*ez)) (hw.mono wM) (h1.mono (Nat.le_trans h2 Ni)) (by grind) ?_ (pC (dD _));rw[<- jF];exact gd fun j _=>by grind
theorem V4 {w x:Rat}(hw:dm (21*100*ez) w)(ah:0<w)(aa:dm ez (x*w)):eC x :=
 qV (K:=21*100*(ez*ez)) (hw.mono wM) (aa.mono Cz) (by grind) (by grind) (pC (dD _))
theorem agX {w x:Rat}{c:Int}(hw:dm (21*100*ez) w)(ah:0<w)(aa:dm ez (x*w))(aY:-100<=c/\c<=100):eC (x*(c:Rat)):=by have:=aa.mul (show dm 100 (c:Rat) from ⟨c,rfl,by omega⟩);exact qV (K:=21*100*(ez*ez)) (hw.mono wM) (this.mono (by have:=Ni;omega)) (by grind) (by grind) (pC (dD _))
theorem agd {n:Nat}{w:Rat}(x0 x1:Int)(fM eP kR:ar){x:Nat->Rat}{c:Nat->Int}(aU:kR=aQ n c)(hw:dm (21*100*ez) w)(ah:0<w)(aa:∀j,dm ez (x j*w))(aY:∀j,j<n-> -100<=c j/\c j<=100)(aT:n<=40):
 KX (n:Int) x0 x1 fM eP kR (aQ n fun j=>gG (x j)) (gG 0) 0=some (gG (cr n fun j=>x j*(c j:Rat))):=by
 subst aU;unfold KX
 obtain⟨s,e,-⟩:=h4 (f:=fun v:(Option cy)×Int=>AS (n:Int) x0 x1 fM eP (aQ n c) (aQ n fun j=>gG (x j)) v.1 v.2)
  (fun (k:Nat) (_:Unit)=>(gG (cr k fun j=>x j*(c j:Rat)),(k:Int))) n (fun _ _=>True) (fun _=>gG (cr n fun j=>x j*(c j:Rat)))
  (fun k aX _ _=>by refine⟨(),?_,trivial⟩;have ajD:=aY k aX;have ab:mS (c k):=(by rw[kT];omega);unfold AS;simp only;refine dW (by omega) (bq (by rw[cb];omega) (aI (x:=gG (x k)) (by rw[dy];exact g9 aX) (bq (by rw[cb];omega) (aI (x:=c k) (by rw[dy];exact g9 aX) (aI (Mm ab) (aI (agc (V4 hw ah (aa k)) (UZ ab)) (aI (VI (U7 hw ah aa aY (Nat.le_of_lt aX) aT) (agX hw ah (aa k) ajD)) ?_)))))));rw[fl (by omega)];rfl)
  (fun _ _=>by unfold AS;exact eg (by simp) rfl) () trivial
 exact e
theorem agY {m n:Nat}{a:Nat->Nat->Int}{b:Nat->Int}{aH N:Nat}{u:bV}(h:LT m n a b aH N u)(aT:n<=N):gQ aH aH N u.T u where
 sT:=fun c aY j _=>by rw[k6 aY (f:=fun i=>u.T c (u.B i)*u.T i j) (fun i ab c8=>by rw[h.unit c aY i ab,dA (fun e=>c8 e.symm)];grind),h.unit c aY c aY,dw rfl];grind
 row:=⟨fun i c=>if i=c then 1 else 0,fun i ab j _=>by rw[k6 ab (f:=fun c=>(if i=c then (1:Rat) else 0)*u.T c j) (fun c _ c8=>by rw[dA (Ne.symm c8)];grind),dw rfl];grind⟩
 unit:=h.unit
 js:=fun i ab=>Nat.lt_of_lt_of_le (h.js i ab) aT
theorem afF {p:kj}{m n:Nat}{a:Nat->Nat->Int}{b:Nat->Int}(h:mW p m n a b){c:Nat->Int}(oS:p.hy=aQ n c)(aY:∀j,j<n-> -100<=c j/\c j<=100):
 ∃r,Ef p.hq p.fT p.eb p.ew p.hy=some r/\((¬qZ m n a b/\r=(2,[],none))\/(qZ m n a b/\ ¬Bounded m n a b (ib n c)/\r=(3,[],none)) \/
  (∃x w,uk m n a b (ib n c) x/\(0<w/\dm (mA 100 m) w/\ ∀j,dm (mA 100 m) (x j*w))/\(∀j,eC (x j))/\eC (val n (ib n c) x)/\r=(0,aQ n (fun j=>gG (x j)),gG (val n (ib n c) x)))):=by
 have hm:=h.hm;have aT:=h.aT;have gz:=EE h;obtain⟨r,e,ai⟩:=afC h;unfold Ef;rcases ai with ⟨bJ,t,aH,g,eT,rfl,bM,gl,gb⟩|⟨bJ,rfl⟩
 ·have aV:=bM.VH gl
  have ek:qC m n a b aH g (h8 g t).T (fun j=>decide (j<n)) (iu m (db m n a b) t) (h8 g t) :=
   ⟨⟨t,bM,gl,⟨fun _ _ _=>rfl,fun _ _=>rfl⟩,rfl⟩,aV,agY aV (by omega),fun i ab=>decide_eq_true (gl i ab)⟩
  obtain⟨ok,iW,ke,jW,uL,e1,ajE,eM⟩:=Uu hm aT gz ek (fun j _ aq=>of_decide_eq_true aq) bM.inj bM.le (nZ n c 0) (U5 aY 0) (Uv n c 0) (qq.zero (c:=ib n c) (fun j aq=>decide_eq_true aq) (fun _=>0)) gb
  have zG:p.hy++(List.replicate (n+m) 0:ar).drop p.hy.length=aQ (n+m) (nZ n c 0):=by
   rw[oS,cb];apply List.ext_getElem?;intro i;by_cases ci:i<n
   ·rw[List.getElem?_append_left (by rw[cb];exact ci),fN ci,fN (by omega)];simp only[nZ];rw[dw ci]
   ·rw[List.getElem?_append_right (by rw[cb];omega),cb,List.getElem?_drop,show n+(i-n)=i by omega]
    by_cases Oh:i<n+m
    ·rw[List.getElem?_replicate,dw Oh,fN Oh];simp only[nZ];rw[dA ci]
    ·rw[List.getElem?_replicate,dA Oh,List.getElem?_eq_none_iff.2 (by rw[cb];omega)]
  have XE:p.hy.length=n:=(by rw[oS,cb]);rcases eM with ⟨rfl,q7,aij,al9,GF⟩|⟨rfl,rb,q,aZ,di,hg⟩
  ·obtain⟨re,mG,bY,alX,e2,uD,ajF,ama,ajG⟩:=afD (o:=nZ n c 0) hm aT gz aY p.hq p.eb p.ew p.hy q7 aij ajE GF
   have f2:=uD.sJ gz;have Nf:=ajG.my uD.lt uD.OC;have aa:=agW uD.lt f2;have bh:cr n (fun j=>mG.gZ aH (n+m) j*(c j:Rat))=val n (ib n c) (mG.gZ aH (n+m)):=gd fun j aq=>(by have:ib n c j=(c j:Rat):=(by unfold ib nZ;simp only;rw[dw aq]);rw[this];exact Rat.mul_comm _ _);refine⟨_,aI e ?_,.inr (.inr ⟨mG.gZ aH (n+m),re,Nf,⟨f2.pos,(uD.Wu gz).1,fun j=>U6 uD.lt (uD.Wu gz).2 j⟩,fun j=>V4 f2.hw f2.pos (aa j),?_,rfl⟩)⟩
   ·simp only
    refine bq (by omega) (bq (by rw[XE,dy];omega) (aI (by rw[dy,zG];exact e1) (gy rfl ?_)));rw[h.gL,dy,dy,zG];refine aI e2 (bq (by omega) (aI (afE _ _ _ _ _ _ _ _ _ _ _ _ aT) (aI (x:=aQ n fun j=>gG (mG.gZ aH (n+m) j)) ?_ (aI (x:=gG 0) (Mm (n:=0) (by rw[kT];omega)) (aI (x:=gG (val n (ib n c) (mG.gZ aH (n+m)))) ?_ rfl)))))
    ·simp only;rw[show ((cS aH mG).length:Nat)=aH from cb ..];exact aez _ _ _ _ _ _ _ (by have:=bM.le;omega) (by omega) uD.lt f2 ajF aT
    ·rw[cb,<- bh];exact agd _ _ _ _ _ oS f2.hw f2.pos aa aY aT
   ·rw[<- bh];exact U7 f2.hw f2.pos aa aY (dD _) aT
  ·refine⟨_,aI e ?_,.inr (.inl ⟨bJ,rb.Jv _ aZ di hg,rfl⟩)⟩;simp only;exact bq (by omega) (bq (by rw[XE,dy];omega) (aI (by rw[dy,zG];exact e1) (jc rfl rfl)))
 ·exact⟨_,aI e rfl,.inl ⟨bJ,rfl⟩⟩
def mX (n N j:Nat):Nat:=if j=n then N else j
theorem yD {n N j:Nat}(h:j<n):mX n N j=j:=by unfold mX;rw[dA (by omega)]
theorem Cr {n N:Nat}:mX n N n=N:=by unfold mX;rw[dw rfl]
theorem Ci {n N j:Nat}(aT:n<=N)(h:j<=n):mX n N j<=N:=by unfold mX;split<;>omega
def pa (n N:Nat)(g:Nat->Nat)(t:bV):bV:=⟨fun i j=>t.T (g i) (mX n N j),fun i=>t.B (g i)⟩
structure pJ (m n:Nat) (a:Nat->Nat->Int) (b:Nat->Int) (aH:Nat) (g:Nat->Nat) (ho:Nat->Nat->Rat) (u:bV):Prop where
 ok:gQ aH aH n ho u
 bM : ∃t,m4 m n (n+m) (db m n a b) t aH g/\(∀i,i<aH->t.B (g i)<n)/\ ∀i,i<aH->(∀j,j<=n->u.T i j=t.T (g i) (mX n (n+m) j))/\u.B i=t.B (g i)
theorem U8 {m n:Nat}{a:Nat->Nat->Int}{b:Nat->Int}{aH:Nat}{g:Nat->Nat}{u t:bV}(h1:m4 m n (n+m) (db m n a b) t aH g)(h2:∀i,i<aH->t.B (g i)<n)(J:∀i,i<aH->(∀j,j<=n->u.T i j=t.T (g i) (mX n (n+m) j))/\u.B i=t.B (g i)):LT m n a b aH n u:=by
 have L:=h1.VH h2;refine⟨fun x=> ?_,fun i ab k aX=> ?_,fun i ab=>by rw[(J i ab).2];exact h2 i ab,fun i ab=> ?_,dD _⟩
 ·rw[L.eqv x]
  constructor<;>intro aa i ab
  ·have:=aa i ab;rw[(J i ab).1 n (dD _),Cr,gd (g:=fun j=>(h8 g t).T i j*x j) fun j aq=>by rw[(J i ab).1 j (by omega),yD aq];rfl];exact this
  ·have:=aa i ab;rw[(J i ab).1 n (dD _),Cr,gd (g:=fun j=>(h8 g t).T i j*x j) fun j aq=>by rw[(J i ab).1 j (by omega),yD aq];rfl] at this;exact this
 ·have aW:t.B (g k)<n:=h2 k aX;rw[(J k aX).2,(J i ab).1 _ (by omega),yD aW];exact L.unit i ab k aX
 ·show 0<=u.T i n;rw[(J i ab).1 n (dD _),Cr];exact L.lc i ab
theorem pJ.lt {m n:Nat}{a:Nat->Nat->Int}{b:Nat->Int}{aH:Nat}{g:Nat->Nat}{ho:Nat->Nat->Rat}{u:bV}(h:pJ m n a b aH g ho u):LT m n a b aH n u:=by obtain⟨t,h1,h2,J⟩:=h.bM;exact U8 h1 h2 J
theorem afG {m aH:Nat}{g:Nat->Nat}(lt:∀i,i<aH->g i<m)(inj:∀i,i<aH-> ∀k,k<aH->g i=g k->i=k){F:Nat->Rat}(cC:∀d,d<m->(∀i,i<aH->g i≠d)->F d=0):cr m F=cr aH (fun i=>F (g i)):=by
 have e : ∀i,i<m->F i=cr aH (fun q=>if g q=i then F (g q) else 0):=fun i ab=>by
  by_cases bM : ∃q,q<aH/\g q=i
  ·obtain⟨q,aZ,rfl⟩:=bM;rw[k6 aZ (f:=fun p=>if g p=g q then F (g p) else 0) fun p ah c8=>dA fun e=>c8 (inj p ah q aZ e),dw rfl]
  ·rw[cC i ab fun q aZ e=>bM ⟨q,aZ,e⟩];exact(nh fun q aZ=>dA fun e=>bM ⟨q,aZ,e⟩).symm
 rw[gd e,qI];exact gd fun q aZ=>by rw[k6 (lt q aZ) (f:=fun i=>if g q=i then F (g q) else 0) fun i _ c8=>dA fun e=>c8 e.symm,dw rfl]
theorem TW {m n:Nat}{a:Nat->Nat->Int}{b:Nat->Int}{aH:Nat}{g:Nat->Nat}{t u:bV}(h1:m4 m n (n+m) (db m n a b) t aH g)(J:∀i,i<aH->(∀j,j<=n->u.T i j=t.T (g i) (mX n (n+m) j))/\u.B i=t.B (g i)){o:Nat->Rat}(ak:∀j,n<=j->o j=0){j:Nat}(aq:j<=n):u.cn aH o j=t.cn m o (mX n (n+m) j):=by
 unfold bV.cn
 have e0:o (mX n (n+m) j)=o j:=by
  unfold mX;by_cases c:j=n
  ·rw[dw c,ak _ (by omega),ak _ (by omega)]
  ·rw[dA c]
 rw[e0,afG h1.lt h1.inj (F:=fun i=>o (t.B i)*t.T i (mX n (n+m) j)) fun d bC hg=>by rw[ak _ (h1.dead d bC hg).1];grind];congr 1;exact gd fun i ab=>by rw[(J i ab).1 j aq,(J i ab).2]
theorem aeA {m n:Nat}{a:Nat->Nat->Int}{b:Nat->Int}{aH:Nat}{g:Nat->Nat}{ho:Nat->Nat->Rat}{u:bV}{K:Nat}{obj:Nat->Nat->Rat}{bM:Nat->Prop}(h:pJ m n a b aH g ho u){r s:Nat}(c2:oB aH n K obj bM u r s):pJ m n a b aH g ho (u.ck r s):=by
 obtain⟨t,h1,h2,J⟩:=h.bM;have bJ:=c2.bJ;have h3 : ∀i,i<aH-> ∀j,j<n->u.T i j=(h8 g t).T i j:=fun i ab j aq=>by rw[(J i ab).1 j (by omega),yD aq];rfl
 have JU : ∀i,i<aH->u.T i n=(h8 g t).T i (n+m):=fun i ab=>by rw[(J i ab).1 n (dD _),Cr];rfl
 have s4 : ∀i,i<aH->u.B i=(h8 g t).B i:=fun i ab=>(J i ab).2;have X2 : ∀j,j<n->(u.qD aH K obj j↔(h8 g t).qD aH K obj j):=fun j aq=>by have e : ∀l,u.cn aH (obj l) j=(h8 g t).cn aH (obj l) j:=fun l=>(by unfold bV.cn;congr 1;exact gd fun i ab=>by rw[h3 i ab j aq,s4 i ab]);exact⟨fun x=>iA.congr x fun l _=>e l,fun x=>iA.congr x fun l _=>(e l).symm⟩
 have ajH:oB aH (n+m) K obj (fun j=>j<n/\bM j) (h8 g t) r s:=by
  refine⟨by omega,⟨bJ,c2.Gf⟩,(X2 s bJ).1 c2.gs,fun j aq bG di=>c2.least j aq bG.2 ((X2 j bG.1).2 di),c2.ai,?_,fun i ab ah=> ?_,fun i ab ah e=> ?_⟩
  ·rw[<- h3 r c2.ai s bJ];exact c2.pos
  ·rw[<- JU r c2.ai,<- JU i ab,<- h3 i ab s bJ,<- h3 r c2.ai s bJ];exact c2.ratio i ab (by rw[h3 i ab s bJ];exact ah)
  ·rw[<- JU r c2.ai,<- JU i ab,<- h3 i ab s bJ,<- h3 r c2.ai s bJ] at e;rw[<- s4 r c2.ai,<- s4 i ab];exact c2.tie i ab (by rw[h3 i ab s bJ];exact ah) e
 obtain⟨g1,g2,g3⟩:=h1.step h2 ⟨fun _ _ _=>rfl,fun _ _=>rfl⟩ ajH bJ;refine⟨c2.ok h.ok,t.ck (g r) s,g1,g2,fun i ab=>⟨fun j aq=> ?_,?_⟩⟩
 ·rw[show (t.ck (g r) s).T (g i) (mX n (n+m) j)=(h8 g (t.ck (g r) s)).T i (mX n (n+m) j) from rfl,<- g3.T i ab];have xb : ∀q,q<aH->u.T q j=(h8 g t).T q (mX n (n+m) j):=fun q aZ=>(J q aZ).1 j aq;simp only[bV.ck];rw[xb i ab,xb r c2.ai,h3 r c2.ai s bJ,h3 i ab s bJ]
 ·rw[show (t.ck (g r) s).B (g i)=(h8 g (t.ck (g r) s)).B i from rfl,<- g3.B i ab];simp only[bV.ck];rw[s4 i ab]
theorem pJ.fits {m n:Nat}{a:Nat->Nat->Int}{b:Nat->Int}{aH:Nat}{g:Nat->Nat}{ho:Nat->Nat->Rat}{u:bV}(gz:Small m (n+m) (db m n a b))(h:pJ m n a b aH g ho u):
 (∀i,i<aH-> ∀j,j<=n->eC (u.T i j))/\(∀i,i<aH-> ∀j,j<=n->0<u.T i j->eC (u.T i n / u.T i j)):=by
 obtain⟨t,h1,h2,J⟩:=h.bM;refine⟨fun i ab j aq=> ?_,fun i ab j aq ah=> ?_⟩
 ·rw[(J i ab).1 j aq];exact h1.inv.Ja gz (h1.lt i ab) (Ci (by omega) aq)
 ·rw[(J i ab).1 j aq] at ah ⊢;rw[(J i ab).1 n (dD _),Cr];exact h1.inv.Wr gz (h1.lt i ab) (Ci (by omega) aq) ah
theorem pJ.y0 {m n:Nat}{a:Nat->Nat->Int}{b:Nat->Int}{aH:Nat}{g:Nat->Nat}{ho:Nat->Nat->Rat}{u:bV}(gz:Small m (n+m) (db m n a b))(h:pJ m n a b aH g ho u){o:Nat->Rat}(ak:∀j,n<=j->o j=0)(hw:∀j,dm 100 (o j)){j:Nat}(aq:j<=n):eC (u.cn aH o j):=by obtain⟨t,h1,h2,J⟩:=h.bM;rw[TW h1 J ak aq];exact h1.inv.y0 gz (fun j _=>hw j) (Ci (by omega) aq)
theorem pJ.FQ {m n:Nat}{a:Nat->Nat->Int}{b:Nat->Int}{aH:Nat}{g:Nat->Nat}{ho:Nat->Nat->Rat}{u:bV}(gz:Small m (n+m) (db m n a b))(h:pJ m n a b aH g ho u){o:Nat->Rat}(ak:∀j,n<=j->o j=0)(hw:∀j,dm 100 (o j)){r k:Nat}(ai:r<aH)(aX:k<n)(ah:u.T r k≠0):I8 aH n u (u.cn aH o) r k:=by
 obtain⟨t,h1,h2,J⟩:=h.bM;have uO : ∀i,i<aH->u.T i k=t.T (g i) k:=fun i ab=>by rw[(J i ab).1 k (by omega),yD aX]
 have mb:t.T (g r) k≠0:=by rw[<- uO r ai];exact ah
 have P:=h1.inv.FQ gz (o:=o) (fun j _=>hw j) (h1.lt r ai) (show k<n+m by omega) mb (h1.inv.ok.ck (h1.lt r ai) (by omega) mb);have OD : ∀j,j<=n->u.cn aH o j=t.cn m o (mX n (n+m) j):=fun j aq=>TW h1 J ak aq;have X3:u.cn aH o k=t.cn m o k:=by rw[OD k (by omega),yD aX]
 have pl : ∀j,j<=n->mX n (n+m) j<=n+m:=fun j aq=>Ci (by omega) aq;refine⟨fun i ab j aq=> ?_,fun i ab j aq=> ?_,fun i ab c8 j aq=> ?_,fun j aq=> ?_,fun j aq=> ?_,fun j aq=> ?_⟩
 ·rw[(J i ab).1 j aq];exact P.T _ (h1.lt i ab) _ (pl j aq)
 ·have e:(u.ck r k).T i j=(t.ck (g r) k).T (g i) (mX n (n+m) j):=by
   simp only[bV.ck];by_cases c:i=r
   ·subst c;rw[dw rfl,dw rfl,(J i ab).1 j aq,uO i ab]
   ·rw[dA c,dA fun e=>c (h1.inj i ab r ai e),(J i ab).1 j aq,(J r ai).1 j aq,uO i ab,uO r ai]
  rw[e];exact P.h3 _ (h1.lt i ab) _ (pl j aq)
 ·rw[uO i ab,uO r ai,(J r ai).1 j aq];exact P.M _ (h1.lt i ab) (fun e=>c8 (h1.inj i ab r ai e)) _ (pl j aq)
 ·rw[OD j aq];exact P.aY _ (pl j aq)
 ·rw[OD j aq,X3,uO r ai,(J r ai).1 j aq];exact P.uz _ (pl j aq)
 ·rw[X3,uO r ai,(J r ai).1 j aq];exact P.hm _ (pl j aq)
def h7 (m n:Nat)(t:bV):List Nat:=(List.range m).filter fun i=>decide (t.B i<n)
def kk (m n:Nat)(t:bV)(i:Nat):Nat:=(h7 m n t).getD i 0
theorem EO {m n:Nat}{t:bV}{i:Nat}(h:i<(h7 m n t).length):(h7 m n t)[i]? = some (kk m n t i):=by unfold kk;rw[List.getD_eq_getElem?_getD,dz h];rfl
theorem Uw {m n:Nat}{t:bV}{i:Nat}(h:i<(h7 m n t).length):kk m n t i<m/\t.B (kk m n t i)<n:=by have:=dH (EO h);unfold h7 at this;rw[List.mem_filter,List.mem_range] at this;exact⟨this.1,of_decide_eq_true this.2⟩
theorem afH {m n:Nat}{t:bV}{i k:Nat}(ab:i<(h7 m n t).length)(aX:k<(h7 m n t).length)(e:kk m n t i=kk m n t k):i=k:=by have aj9:(h7 m n t).Nodup:=List.nodup_range.filter _;have h1:=EO ab;have h2:=EO aX;rw[e,<- h2] at h1;exact(List.getElem?_inj ab aj9).1 h1
theorem afI {m n:Nat}{t:bV}{d:Nat}(bC:d<m)(gl:t.B d<n): ∃i,i<(h7 m n t).length/\kk m n t i=d:=by
 have:d∈h7 m n t:=by unfold h7;rw[List.mem_filter,List.mem_range];exact⟨bC,decide_eq_true gl⟩
 obtain⟨i,ab⟩:=List.getElem?_of_mem this;have aV:=f5 ab;refine⟨i,aV,?_⟩;rw[EO aV] at ab;exact dI ab
theorem adP {m n N:Nat}{A:Nat->Nat->Rat}{t:bV}(ab:lI m N A t)(cC:∀i,i<m->n<=t.B i->t.T i N=0)(bC:∀i,i<m->t.B i<n\/ ∀j,j<n->t.T i j=0):m4 m n N A t (h7 m n t).length (kk m n t) where
 inv:=ab
 z:=cC
 le:=by unfold h7;exact Nat.le_trans (List.length_filter_le ..) (by rw[List.length_range];exact dD _)
 lt:=fun i h=>(Uw h).1
 inj:=fun i h k aX e=>afH h aX e
 dead:=fun d h hg=>by have : ¬t.B d<n:=fun c=>(by obtain⟨i,h1,h2⟩:=afI h c;exact hg i h1 h2);exact⟨by omega,(bC d h).resolve_left this⟩
theorem agZ {α:Type}{T n:Nat}(f:Nat->α)(h:n<=T):(aQ T f).take n=aQ n f:=by
 apply List.ext_getElem?;intro i;by_cases c:i<n
 ·rw[List.getElem?_take,dw c,fN (by omega),fN c]
 ·rw[List.getElem?_take,dA c,List.getElem?_eq_none_iff.2 (by rw[cb];omega)]
structure sK (m n:Nat) (a:Nat->Nat->Int) (b:Nat->Int) (i:Nat) (t:bV):Prop where
 bM:m4 m n (n+m) (db m n a b) t m fun q=>q
 GV : ∀q,q<i->t.B q<n\/ ∀j,j<n->t.T q j=0
theorem sK.ck {m n:Nat}{a:Nat->Nat->Int}{b:Nat->Int}{i:Nat}{t:bV}(h:sK m n a b i t){k:Nat}(ab:i<m)(aX:k<n)(aW:n<=t.B i)(ah:t.T i k≠0):sK m n a b i (t.ck i k) where
 bM:=h.bM.ck (by omega) ab aX aW ah
 GV:=fun q aZ=>by
  simp only[bV.ck];rw[dA (by omega)];rcases h.GV q aZ with d|d
  ·exact .inl d
  ·exact .inr fun j aq=>by rw[dA (by omega),d j aq,d k aX];grind
theorem aeB {m n:Nat}{a:Nat->Nat->Int}{b:Nat->Int}(gz:Small m (n+m) (db m n a b))(hm:m<=20)(aT:n<=40){i:Nat}(ab:i<m)(x0 x1:Int)(fM eP kR:ar)(fL:Int){t:bV}(h:sK m n a b i t):
 ∃cD,Kn (i:Int) fL ((n+m:Nat):Int) (iq m (n+m)) x0 (n:Int) fM eP kR 0 (cS m t) (hb (n+m) (t.cn m (gn m n))) (gm m (n+m) t)=some (cS m cD,hb (n+m) (cD.cn m (gn m n)),gm m (n+m) cD)/\sK m n a b (i+1) cD:=by
 unfold Kn
 obtain⟨r,e,cD,rfl,c1⟩:=sq (f:=fun w:Int×ar×(List ao)×(List (List ao))=>vY (i:Int) fL ((n+m:Nat):Int) (iq m (n+m)) x0 (n:Int) fM eP kR w.1 w.2.1 w.2.2.1 w.2.2.2)
  (fun (j:Nat) (t:bV)=>((j:Int),cS m t,hb (n+m) (t.cn m (gn m n)),gm m (n+m) t)) n (fun j t=>sK m n a b i t/\(t.B i<n\/ ∀q,q<j->t.T i q=0))
  (fun r=> ∃cD,r=(cS m cD,hb (n+m) (cD.cn m (gn m n)),gm m (n+m) cD)/\sK m n a b (i+1) cD)
  (fun j aq t cZ=>by
    obtain⟨gb,bC⟩:=cZ;have hlen:(cS m t).length=m:=cb ..;simp only;by_cases c:t.B i<n
    ·refine .inr ⟨_,?_,t,rfl,gb.bM,fun q aZ=> ?_⟩
     ·unfold vY;exact dW (by omega) (bq (by rw[hlen];omega) (aI (x:=((t.B i:Nat):Int)) (by rw[dy];exact g9 ab) (eg (by omega) rfl)))
     ·by_cases e:q=i
      ·rw[e];exact .inl c
      ·exact gb.GV q (by omega)
    ·have cC : ∀q,q<j->t.T i q=0:=bC.resolve_left c
     have pre : ∀o,(pt (ca (t.T i j)) >>= fun dc=>if (dc != (0:Int))=true then xL (i:Int) (j:Int) ((n+m:Nat):Int) (iq m (n+m)) (cS m t) (hb (n+m) (t.cn m (gn m n))) (gm m (n+m) t) >>= fun gR=>some (.inl (U ((j:Int)+1),gR.1,gR.2.1,gR.2.2)) else some (.inl (U ((j:Int)+1),cS m t,hb (n+m) (t.cn m (gn m n)),gm m (n+m) t)))=some o->vY (i:Int) fL ((n+m:Nat):Int) (iq m (n+m)) x0 (n:Int) fM eP kR (j:Int) (cS m t) (hb (n+m) (t.cn m (gn m n))) (gm m (n+m) t)=some o:=fun o ak=>(by unfold vY;exact dW (by omega) (bq (by rw[hlen];omega) (aI (x:=((t.B i:Nat):Int)) (by rw[dy];exact g9 ab) (dW (by omega) (bq (by unfold iq;rw[cb];omega) (aI (x:=some (i,n+m+1)) (by rw[dy];exact g9 ab) (aI (x:=(i,n+m+1)) rfl (aI (x:=gX (n+m) t i) (fN ab) (bq (by simp only;omega) (aI (x:=ca (t.T i j)) (by rw[dy];exact g9 (by omega)) ak))))))))));have ig:eC (t.T i j):=gb.bM.inv.Ja gz ab (by omega);by_cases d:t.T i j=0
     ·refine .inl ⟨t,pre _ (aI (pz ig) (jc ?_ (by rw[fl (by omega)]))),gb,.inr fun q aZ=> ?_⟩
      ·rw[oU.2 d];rfl
      ·by_cases e:q=j
       ·rw[e];exact d
       ·exact cC q (by omega)
     ·have P:=gb.bM.inv.FQ gz (o:=gn m n) (fun j _=>Iu m n j) ab (show j<n+m by omega) d (gb.bM.inv.ok.ck ab (by omega) d)
      have aka:=Ur (N:=n+m) (by omega) (by omega) ab (show j<=n+m by omega) d P ((n+m:Nat):Int);refine .inl ⟨t.ck i j,pre _ (aI (pz ig) (gy (wW fun e=>d (oU.1 e)) (aI aka ?_))),gb.ck ab aq (by omega) d,.inl ?_⟩
      ·rw[fl (by omega)];congr 3;refine Prod.ext rfl (Prod.ext ?_ rfl);exact eA fun q aZ=>by rw[gb.bM.inv.ok.H2 (gn m n) ab (by omega) d]
      ·simp only[bV.ck,if_true];exact aq)
  (fun t cZ=>by
    obtain⟨gb,bC⟩:=cZ;refine⟨_,?_,t,rfl,gb.bM,fun q aZ=> ?_⟩
    ·simp only;unfold vY;exact eg (by omega) rfl
    ·by_cases e:q=i
     ·rw[e];exact bC
     ·exact gb.GV q (by omega)) t ⟨h,.inr fun q aZ=>by omega⟩
 exact⟨cD,e,c1⟩
theorem adQ {m n:Nat}{a:Nat->Nat->Int}{b:Nat->Int}(gz:Small m (n+m) (db m n a b))(hm:m<=20)(aT:n<=40)(x0:Int)(fM eP kR:ar){t:bV}(h:sK m n a b 0 t):
 ∃cD,Ko (m:Int) ((n+m:Nat):Int) (iq m (n+m)) x0 (n:Int) fM eP kR 0 (cS m t) (hb (n+m) (t.cn m (gn m n))) (gm m (n+m) t)=some (cS m cD,hb (n+m) (cD.cn m (gn m n)),gm m (n+m) cD)/\sK m n a b m cD:=by
 unfold Ko
 obtain⟨cD,e,c1⟩:=h4 (f:=fun w:Int×ar×(List ao)×(List (List ao))=>Ac (m:Int) ((n+m:Nat):Int) (iq m (n+m)) x0 (n:Int) fM eP kR w.1 w.2.1 w.2.2.1 w.2.2.2)
  (fun (i:Nat) (t:bV)=>((i:Int),cS m t,hb (n+m) (t.cn m (gn m n)),gm m (n+m) t)) m (fun i t=>sK m n a b i t) (fun t=>(cS m t,hb (n+m) (t.cn m (gn m n)),gm m (n+m) t))
  (fun i ab t gb=>by obtain⟨cD,e,c1⟩:=aeB gz hm aT ab x0 x0 fM eP kR (m:Int) gb;refine⟨cD,?_,c1⟩;simp only;unfold Ac;exact dW (by omega) (aI e (by rw[fl (by omega)])))
  (fun t _=>by simp only;unfold Ac;exact eg (by omega) rfl) t h
 exact⟨cD,e,c1⟩
theorem adR {n:Nat}(aT:n<=40){c:Nat->Int}(aY:∀j,j<n-> -100<=c j/\c j<=100)(fL po:Int)(q1:List bR)(q2:ar)(bP:List ao)(cw:List (List ao))(fM eP:ar):
 Kp fL q1 q2 bP cw po (n:Int) fM eP (aQ n c) 0 []=some (aQ n fun j=>ca (c j:Rat)):=by
 unfold Kp
 obtain⟨_,e,-⟩:=h4 (f:=fun w:Int×(List ao)=>Ad fL q1 q2 bP cw po (n:Int) fM eP (aQ n c) w.1 w.2) (fun (j:Nat) (_:Unit)=>((j:Int),aQ j fun j=>ca (c j:Rat))) n (fun _ _=>True) (fun _=>aQ n fun j=>ca (c j:Rat))
  (fun j aq _ _=>by refine⟨(),?_,trivial⟩;have:=aY j aq;simp only;unfold Ad;refine dW (by omega) (bq (by rw[cb];omega) (aI (gt rfl (fN aq)) (aI (ry (kT.2 (by omega))) (bq (by simp only[dF,cb,List.length_singleton];omega) ?_))));rw[fl (by omega),kE])
  (fun _ _=>by simp only;unfold Ad;exact eg (by omega) rfl) () trivial
 exact e
theorem TX (n:Nat)(t:bV)(i:Nat):h7 (i+1) n t=h7 i n t++(if t.B i<n then [i] else []):=by
 unfold h7;rw[List.range_succ,List.filter_append];congr 1;by_cases c:t.B i<n
 ·rw[dw c];simp[c]
 ·rw[dA c];simp[c]
theorem U9 (n:Nat)(t:bV){i:Nat}(gl:t.B i<n): ∀m,i<m->(h7 m n t)[(h7 i n t).length]? = some i
 | 0,h=>by omega
 | m+1,h=>by
  rw[TX];by_cases c:i<m
  ·have:=U9 n t gl m c;rw[List.getElem?_append_left (f5 this)];exact this
  ·obtain rfl:i=m:=(by omega);rw[dw gl,List.getElem?_append_right (dD _),Nat.sub_self];rfl
theorem ag0 (n:Nat)(t:bV){i m:Nat}(gl:t.B i<n)(h:i<m):kk m n t (h7 i n t).length=i:=by have:=U9 n t gl m h;have aV:=f5 this;rw[EO aV] at this;exact dI this
theorem Va (n:Nat)(t:bV)(i:Nat):(h7 i n t).length<=i:=by unfold h7;exact Nat.le_trans (List.length_filter_le ..) (by rw[List.length_range];exact dD _)
theorem aeC {m n:Nat}(hm:m<=20)(aT:n<=40)(t:bV)(x0:Int)(fM eP kR:ar)(bP ex:List ao):
 Kq (m:Int) ((n+m:Nat):Int) (iq m (n+m)) (cS m t) bP (gm m (n+m) t) x0 (n:Int) fM eP kR ex 0 [] [] [] =
  some (iq (h7 m n t).length n,gm (h7 m n t).length n (pa n (n+m) (kk m n t) t),cS (h7 m n t).length (pa n (n+m) (kk m n t) t)):=by
 unfold Kq
 obtain⟨_,e,-⟩:=h4 (f:=fun w:Int×(List bR)×(List (List ao))×ar=>Ae (m:Int) ((n+m:Nat):Int) (iq m (n+m)) (cS m t) bP (gm m (n+m) t) x0 (n:Int) fM eP kR ex w.1 w.2.1 w.2.2.1 w.2.2.2)
  (fun (i:Nat) (_:Unit)=>((i:Int),iq (h7 i n t).length n,gm (h7 i n t).length n (pa n (n+m) (kk m n t) t),cS (h7 i n t).length (pa n (n+m) (kk m n t) t))) m (fun _ _=>True)
  (fun _=>(iq (h7 m n t).length n,gm (h7 m n t).length n (pa n (n+m) (kk m n t) t),cS (h7 m n t).length (pa n (n+m) (kk m n t) t)))
  (fun i ab _ _=>by
    refine⟨(),?_,trivial⟩;have hle:=Va n t i;have h1:(iq m (n+m)).length=m:=cb ..;have h2:(cS m t).length=m:=cb ..;have bJ:=TX n t i;simp only;unfold Ae;refine dW (by omega) (bq (by rw[h1];omega) (aI (x:=some (i,n+m+1)) (by rw[dy];exact g9 ab) (bq (by rw[h2];omega) (aI (x:=((t.B i:Nat):Int)) (by rw[dy];exact g9 ab) ?_))));by_cases c:t.B i<n;rotate_left
    ·refine eg (by omega) ?_;rw[dA c,List.append_nil] at bJ;rw[bJ,fl (by omega)]
    rw[dw c] at bJ;have di:=ag0 n t c ab
    have d6:([]++((gX (n+m) t i).drop 0).take (((n:Nat):Int).toNat-0))++[ca (t.T i (n+m))]=gX n (pa n (n+m) (kk m n t) t) (h7 i n t).length:=by
     rw[dy,List.drop_zero,Nat.sub_zero,List.nil_append];unfold gX;rw[agZ _ (by omega),kE n];congr 1
     ·exact eA fun j aq=>by show _=ca (t.T (kk m n t (h7 i n t).length) (mX n (n+m) j));rw[di,yD aq]
     ·show _=[ca (t.T (kk m n t (h7 i n t).length) (mX n (n+m) n))];rw[di,Cr]
    have tN:(gX n (pa n (n+m) (kk m n t) t) (h7 i n t).length).length=n+1:=cb ..;have Np:(gm (h7 i n t).length n (pa n (n+m) (kk m n t) t)).length=(h7 i n t).length:=cb ..;refine dW (by omega) (aI (x:=(i,n+m+1)) rfl (aI (x:=gX (n+m) t i) (fN ab) (bq (by omega) (bq (by simp only[dy];omega) (bq (by unfold gX;rw[cb,dy];omega) (bq (by rw[dy,List.nil_append,List.length_take,List.length_drop];omega) (bq (by simp only;omega) (aI (x:=ca (t.T i (n+m))) (by rw[dy];exact g9 (by omega)) ?_))))))));rw[d6,tN,Np];refine bq (by omega) (bq (by simp only[dF,List.length_singleton];unfold iq;rw[cb];omega) (bq (by simp only[dF,List.length_singleton];unfold cS;rw[cb];omega) ?_));have rb:(h7 (i+1) n t).length=(h7 i n t).length+1:=(by rw[bJ,dF];rfl);rw[rb,fl (by omega)];unfold iq gm cS;rw[kE (h7 i n t).length fun q=>(some (q,n+1):bR),kE (h7 i n t).length (gX n (pa n (n+m) (kk m n t) t)),kE (h7 i n t).length fun q=>(((pa n (n+m) (kk m n t) t).B q:Nat):Int)];have aW:(pa n (n+m) (kk m n t) t).B (h7 i n t).length=t.B i:=(by show t.B (kk m n t (h7 i n t).length)=_;rw[di]);rw[aW])
  (fun _ _=>by simp only;unfold Ae;exact eg (by omega) rfl) () trivial
 exact e
theorem adS {OE:Nat}{eT:List (List ao)}{row:List ao}(h:eT[OE]? = some row)(k:Int)(b6 len:Nat)(OG:List ao):Dw k OE b6 len OG eT=xG k b6 len OG row:=by
 have e : ∀t i3 j4 s0,(fun w:Int×(List ao)=>Df OE b6 len t eT i3 j4 s0 w.1 w.2)=fun w:Int×(List ao)=>vX b6 len t row i3 j4 s0 w.1 w.2:=fun t i3 j4 s0=>by funext w;unfold Df vX;rw[h];rfl
 unfold Dw xG P4 Km;simp only[e]
theorem Iv {n:Nat}{c:Nat->Int}{j:Nat}(h:n<=j):ib n c j=0:=by unfold ib nZ;simp only;rw[dA (by omega)];rfl
theorem V5 {n:Nat}{c:Nat->Int}{j:Nat}(h:j<n):ib n c j=(c j:Rat):=by unfold ib nZ;simp only;rw[dw h]
theorem IU {n:Nat}{c:Nat->Int}(aY:∀j,j<n-> -100<=c j/\c j<=100)(j:Nat):dm 100 (ib n c j):=by
 by_cases h:j<n
 ·rw[V5 h];have:=aY j h;exact⟨c j,rfl,by omega⟩
 ·rw[Iv (by omega)];exact⟨0,rfl,by omega⟩
theorem Ma {m n:Nat}{a:Nat->Nat->Int}{b:Nat->Int}{aH:Nat}{g:Nat->Nat}{ho:Nat->Nat->Rat}{u:bV}(gz:Small m (n+m) (db m n a b))(h:pJ m n a b aH g ho u){o:Nat->Rat}(hw:∀j,dm 100 (o j)){i j:Nat}(ab:i<=aH)(aq:j<=n):eC (o j-cr i (fun q=>o (u.B q)*u.T q j)):=by
 obtain⟨t,h1,h2,J⟩:=h.bM;have hm:=gz.hm;have la:=h1.le;have X4:=h1.inv.zu gz;have e:(o j-cr i (fun q=>o (u.B q)*u.T q j))*t.D m (db m n a b)=o j*t.D m (db m n a b)-cr i (fun q=>o (u.B q)*(u.T q j*t.D m (db m n a b))):=by rw[gd (f:=fun q=>o (u.B q)*(u.T q j*t.D m (db m n a b))) (g:=fun q=>(o (u.B q)*u.T q j)*t.D m (db m n a b)) (fun q _=>by grind),u3];grind
 have w:dm (21*100*ez) ((o j-cr i (fun q=>o (u.B q)*u.T q j))*t.D m (db m n a b)):=by
  rw[e];refine dm.mono (((hw j).mul X4).sub (dm.sum fun q aZ=>(hw _).mul (s5:=ez) ?_)) ?_
  ·rw[(J q (by omega)).1 j aq];exact h1.inv.uK gz (h1.lt q (by omega)) (Ci (by omega) aq)
  ·have:i*(100*ez)<=20*(100*ez):=dM _ (by omega);omega
 exact qV (X4.mono (Nat.le_trans (by omega:ez<=21*100*ez) (dD _))) w h1.inv.r7 (by grind) (pC wM)
theorem ac8 {m n:Nat}{a:Nat->Nat->Int}{b:Nat->Int}{aH:Nat}{g:Nat->Nat}{ho:Nat->Nat->Rat}{u:bV}(gz:Small m (n+m) (db m n a b))(aT:n<=40)(h:pJ m n a b aH g ho u){o:Nat->Rat}(hw:∀j,dm 100 (o j))(fL po:Int)(q1:List bR)(q2:ar)(bP:List ao)(cw:List (List ao)):
 Kr (aH:Int) fL q1 q2 bP cw po (iq aH n) (gm aH n u) (cS aH u) 0 (hb n o)=some (hb n (u.cn aH o)):=by
 have la:aH<=20:=by obtain⟨t,h1,-,-⟩:=h.bM;have:=h1.le;have:=gz.hm;omega
 obtain⟨GW,-⟩:=h.fits gz;have L:=h.lt;unfold Kr
 obtain⟨_,e,-⟩:=h4 (f:=fun w:Int×(List ao)=>Af (aH:Int) fL q1 q2 bP cw po (iq aH n) (gm aH n u) (cS aH u) w.1 w.2) (fun (i:Nat) (_:Unit)=>((i:Int),hb n fun j=>o j-cr i (fun q=>o (u.B q)*u.T q j))) aH (fun _ _=>True) (fun _=>hb n (u.cn aH o))
  (fun i ab _ _=>by
    refine⟨(),?_,trivial⟩;have aW:=L.js i ab;have kN:(iq aH n).length=aH:=cb ..;have k3:(cS aH u).length=aH:=cb ..;have X5:o (u.B i)-cr i (fun q=>o (u.B q)*u.T q (u.B i))=o (u.B i):=(by rw[nh fun q aZ=>by rw[L.unit q (by omega) i ab,dA (by omega)];grind];grind);have pn : ∀j,o j-cr i (fun q=>o (u.B q)*u.T q j)-(o (u.B i)-cr i (fun q=>o (u.B q)*u.T q (u.B i)))*u.T i j=o j-cr (i+1) (fun q=>o (u.B q)*u.T q j):=fun j=>by rw[X5,cr];grind
    have akb:=TV (n+1) (by omega) (u.B i) (by omega) (fun j=>o j-cr i (fun q=>o (u.B q)*u.T q j)) (fun j=>u.T i j) (fun j aq=>Ma gz h hw (by omega) (by omega)) (fun j aq=>GW i ab j (by omega)) (fun j aq=>by
     have f1:=Ma gz h hw (i:=i+1) (j:=j) (by omega) (by omega);rw[X5];obtain⟨t,h1,h2,J⟩:=h.bM;have w:=((hw (u.B i)).neg).mul (h1.inv.uK gz (h1.lt i ab) (Ci (n:=n) (N:=n+m) (j:=j) (by omega) (by omega)));rw[<- (J i ab).1 j (by omega)] at w;exact qV (K:=21*100*ez) ((h1.inv.zu gz).mono (by omega)) (w.mono (by omega)) h1.inv.r7 (by grind) (pC wM)) (fun j aq=>by
     rw[pn];exact Ma gz h hw (by omega) (by omega))
    simp only;unfold Af;refine dW (by omega) (bq (by rw[kN];omega) (aI (x:=some (i,n+1)) (by rw[dy];exact g9 ab) (bq (by rw[k3];omega) (aI (x:=((u.B i:Nat):Int)) (by rw[dy];exact g9 ab) (aI (x:=(i,n+1)) rfl (aI (x:=gX n u i) (fN ab) (aI (x:=hb n fun j=>o j-cr (i+1) (fun q=>o (u.B q)*u.T q j)) ?_ (bq (by unfold hb;rw[cb,cb]) (by rw[fl (by omega)])))))))));refine Eq.trans (adS (eT:=gm aH n u) (row:=gX n u i) (fN ab) _ _ _ _) (Eq.trans akb ?_);congr 1;exact eA fun j _=>by rw[pn])
  (fun _ _=>by simp only;unfold Af;exact eg (by omega) rfl) () trivial
 have e0:(hb n fun j=>o j-cr 0 (fun q=>o (u.B q)*u.T q j))=hb n o:=eA fun j _=>by show ca (o j-0)=_;congr 1;grind
 rw[e0] at e;exact e
theorem aeD {aH n:Nat}(hm:aH<=20)(aT:n<=40){u:bV}(inj:∀i,i<aH-> ∀k,k<aH->u.B i=u.B k->i=k)(GW:∀i,i<aH-> ∀j,j<=n->eC (u.T i j))(z:Int)(q:List ao){j:Nat}(aq:j<n)(k:Nat):KM z (gm aH n u) (cS aH u) q (j:Int) true (k:Int) (aH:Int) 0 0=some (ju (cr aH fun i=>if u.B i=k then u.T i j else 0)):=by
 unfold KM
 obtain⟨_,e,-⟩:=h4 (f:=fun w:Int×Int=>AF z (gm aH n u) (cS aH u) q (j:Int) true (k:Int) (aH:Int) w.1 w.2) (fun (i:Nat) (_:Unit)=>(ju (cr i fun i=>if u.B i=k then u.T i j else 0),(i:Int))) aH (fun _ _=>True) (fun _=>ju (cr aH fun i=>if u.B i=k then u.T i j else 0))
  (fun i ab _ _=>by
    refine⟨(),?_,trivial⟩;have kN:(cS aH u).length=aH:=cb ..;have k3:(gm aH n u).length=aH:=cb ..;have xd:(gX n u i).length=n+1:=cb ..;simp only;unfold AF;refine dW (by omega) (bq (by rw[kN];omega) (aI (x:=((u.B i:Nat):Int)) (by rw[dy];exact fN ab) ?_));by_cases c:u.B i=k
    ·refine gy (CU (by omega)) (bq (by rw[k3];omega) (aI (x:=gX n u i) (by rw[dy];exact fN ab) (bq (by rw[xd];omega) (aI (x:=ca (u.T i j)) (by rw[dy];exact fN (by omega)) (aI (pz (GW i ab j (by omega))) ?_)))));rw[fl (by omega),cr,dw c,nh fun q aZ=>dA fun e=>by have:=inj q (by omega) i ab (by omega);omega];congr 4;grind
    ·refine jc (wV (by omega)) ?_;rw[fl (by omega),cr,dA c,Rat.add_zero])
  (fun _ _=>by simp only;unfold AF;exact eg (by omega) rfl) () trivial
 have e0:ju (cr 0 fun i=>if u.B i=k then u.T i j else 0)=0:=oU.2 rfl;rw[e0] at e;exact e
theorem Ux {aH:Nat}{c:Nat->Rat}{u:bV}{j k:Nat}:u.cn aH (hK c (k+1)) j=(if j=k then -1 else 0)+cr aH (fun i=>if u.B i=k then u.T i j else 0):=by
 unfold bV.cn;have:cr aH (fun i=>hK c (k+1) (u.B i)*u.T i j)=cr aH (fun i=>(-1:Rat)*(if u.B i=k then u.T i j else 0)):=gd fun i _=>by simp only[hK];split<;>grind
 rw[this,jF];simp only[hK];grind
theorem ac9 {aH n:Nat}(hm:aH<=20)(aT:n<=40){c:Nat->Rat}{u:bV}(inj:∀i,i<aH-> ∀k,k<aH->u.B i=u.B k->i=k)(GW:∀i,i<aH-> ∀j,j<=n->eC (u.T i j))(akc:∀j,j<=n->eC (u.cn aH c j)){j:Nat}(aq:j<n):
 ∃g,u0 ⟨(n:Int),gm aH n u,cS aH u,hb n (u.cn aH c)⟩ (j:Int) true=some g/\((∀i,i<aH->u.B i≠j)->(0<g↔u.qD aH (n+1) (hK c) j)):=by
 have kN:(hb n (u.cn aH c)).length=n+1:=cb ..;have uQ:len_ eI (cS aH u)=((aH:Nat):Int):=by rw[gu];show ((aQ aH _).length:Int)=_;rw[cb]
 obtain⟨r,e,ai⟩:=sq (f:=fun w:Int×Int=>xv (n:Int) (gm aH n u) (cS aH u) (hb n (u.cn aH c)) (j:Int) true w.1 w.2)
  (fun (k:Nat) (_:Unit)=>(ju (u.cn aH (hK c k) j),(k:Int))) n (fun k _=>k<=j/\ ∀l,l<k->u.cn aH (hK c l) j=0)
  (fun r=> ∃g,(r = .inl g\/(r = .inr ()/\g = -1))/\((∀i,i<aH->u.B i≠j)->(0<g↔u.qD aH (n+1) (hK c) j)))
  (fun k aX _ cZ=>by
    obtain⟨amb,cC⟩:=cZ;simp only;unfold xv;by_cases z:u.cn aH (hK c k) j=0
    ·have fL:ju (u.cn aH (hK c k) j)=0:=oU.2 z
     have uB : ∀l,l<k+1->u.cn aH (hK c l) j=0:=fun l aV=>by
      by_cases e:l=k
      ·rw[e];exact z
      ·exact cC l (by omega)
     by_cases e:k=j
     ·refine .inr ⟨.inr (),?_,-1,.inr ⟨rfl,rfl⟩,fun GN=>⟨fun h=>absurd h (by omega),fun di=> ?_⟩⟩
      ·rw[fL];exact gy rfl (gy rfl (dW (by omega) (gy (CU (by omega)) rfl)))
      ·exfalso
       have neg:u.cn aH (hK c (k+1)) j = -1:=(by rw[Ux,dw e.symm,nh fun i ab=>dA fun x=>GN i ab (by omega)];grind);obtain⟨l,hi,hn,bA⟩:=di;simp only at hn bA;by_cases bl:l<k+1
       ·rw[uB l bl] at hn;grind
       ·by_cases cm:l=k+1
        ·rw[cm,neg] at hn;grind
        ·have:=bA (k+1) (by omega);rw[neg] at this;grind
     ·refine .inl ⟨(),?_,by omega,uB⟩;rw[fL,uQ];refine gy rfl (gy rfl (dW (by omega) (jc (wV (by omega)) (aI (aeD hm aT inj GW (n:Int) (hb n (u.cn aH c)) aq k) ?_))));rw[fl (by omega),Ux,dA (fun x=>e x.symm),Rat.zero_add]
    ·refine .inr ⟨.inl (ju (u.cn aH (hK c k) j)),?_,_,.inl rfl,fun GN=> ?_⟩
     ·exact jc (wV fun x=>z (oU.1 x)) rfl
     ·rw[su]
      constructor
      ·intro h;exact⟨k,by omega,h,cC⟩
      ·rintro⟨l,hi,hn,bA⟩
       simp only at hn bA;by_cases bl:l<k
       ·rw[cC l bl] at hn;grind
       ·by_cases cm:l=k
        ·rw[cm] at hn;exact hn
        ·exact absurd (bA k (by omega)) z)
  (fun _ cZ=>absurd cZ.1 (by omega)) () ⟨by omega,fun l aV=>by omega⟩
 obtain⟨g,di,aZ⟩:=ai;refine⟨g,?_,aZ⟩;unfold u0;refine bq (by simp only;rw[kN];omega) (aI (x:=ca (u.cn aH c j)) (by simp only;rw[dy];exact fN (by omega)) (aI (pz (akc j (by omega))) (aI (x:=r) e ?_)));rcases di with rfl|⟨rfl,rfl⟩<;>rfl
theorem age {x:Rat}(aa:eC x):Ea (ca x)=some (ca x):=by
 have p:=aa.dd;have h1:=p.oF;have h2:=p.nY;have e1:(ca x).d8.cc.length<=100:=by show (L (eQ x).1.natAbs).length<=100;omega
 have e2:(ca x).e6.length<=100:=by show (L (eQ x).2).length<=100;omega
 unfold Ea;rw[List.nil_append,List.nil_append];exact bq (by omega) (bq (by omega) rfl)
theorem H7 {aH n:Nat}{u:bV}(inj:∀i,i<aH-> ∀k,k<aH->u.B i=u.B k->i=k)(j:Nat): ∀i,i<=aH->(∃q,q<i/\u.B q=j/\u.gZ i n j=u.T q n)\/((∀q,q<i->u.B q≠j)/\u.gZ i n j=0)
 | 0,_=> .inr ⟨fun q aZ=>by omega,rfl⟩
 | i+1,ab=>by
  rw[L9];by_cases c:u.B i=j
  ·rw[dw c]
   rcases H7 inj j i (by omega) with ⟨q,h1,h2,-⟩|⟨-,h2⟩
   ·have:=inj q (by omega) i (by omega) (by omega);omega
   ·exact .inl ⟨i,by omega,c,by rw[h2];grind⟩
  ·rw[dA c,Rat.add_zero]
   rcases H7 inj j i (by omega) with ⟨q,h1,h2,J⟩|⟨h1,h2⟩
   ·exact .inl ⟨q,by omega,h2,J⟩
   ·refine .inr ⟨fun q aZ=> ?_,h2⟩
    by_cases e:q=i
    ·rw[e];exact c
    ·exact h1 q (by omega)
theorem aeE {p:kj}{m n:Nat}{a:Nat->Nat->Int}{b:Nat->Int}(h:mW p m n a b){c:Nat->Int}(oS:p.hy=aQ n c)(aY:∀j,j<n-> -100<=c j/\c j<=100){t:bV}(cg:sK m n a b 0 t):
 ∃aH g u q1 q2 bP,aH<=20/\pJ m n a b aH g u.T u/\Bf p ((n+m:Nat):Int) (iq m (n+m)) (cS m t) (hb (n+m) (t.cn m (gn m n))) (gm m (n+m) t)=some (q1,q2,bP,(n:Int),iq aH n,cS aH u,hb n (u.cn aH (ib n c)),gm aH n u):=by
 have hm:=h.hm;have aT:=h.aT;have gz:=EE h;obtain⟨cD,bN,nv⟩:=adQ gz hm aT p.hq p.eb p.ew p.hy cg;have bM:=adP nv.bM.inv nv.bM.z nv.GV;have gl : ∀i,i<(h7 m n cD).length->cD.B (kk m n cD i)<n:=fun i ab=>(Uw ab).2;have J : ∀i,i<(h7 m n cD).length->(∀j,j<=n->(pa n (n+m) (kk m n cD) cD).T i j=cD.T (kk m n cD i) (mX n (n+m) j))/\(pa n (n+m) (kk m n cD) cD).B i=cD.B (kk m n cD i):=fun i ab=>⟨fun _ _=>rfl,rfl⟩;have L:=U8 bM gl J;have hle:=Va n cD m
 have e9:pJ m n a b (h7 m n cD).length (kk m n cD) (pa n (n+m) (kk m n cD) cD).T (pa n (n+m) (kk m n cD) cD):=by
  refine⟨?_,cD,bM,gl,J⟩;by_cases z:(h7 m n cD).length=0
  ·rw[z];exact⟨fun c aY=>by omega,⟨fun _ _=>0,fun i ab=>by omega⟩,fun i ab=>by omega,fun i ab=>by omega⟩
  ·have:=gl 0 (by omega);exact L.tok (dD _) (by omega)
 have kN:((iq m (n+m)).length:Int)=(m:Int):=by unfold iq;rw[cb]
 have k3:((iq (h7 m n cD).length n).length:Int)=(((h7 m n cD).length:Nat):Int):=by unfold iq;rw[cb]
 have ajI:(aQ n fun j=>ca (c j:Rat))++[ca 0]=hb n (ib n c):=by
  unfold hb;rw[kE];congr 1
  ·exact eA fun j aq=>by rw[V5 aq]
  ·rw[Iv (dD _)]
 refine⟨(h7 m n cD).length,kk m n cD,pa n (n+m) (kk m n cD) cD,cS m cD,hb (n+m) (cD.cn m (gn m n)),gm m (n+m) cD,by omega,e9,?_⟩;unfold Bf;rw[kN,h.gL];refine aI bN ?_;simp only;rw[oS];refine aI (adR aT aY _ _ _ _ _ _ _ _) (aI (ry (n:=0) (kT.2 (by omega))) ?_);rw[show ((0:Int):Rat)=0 from rfl,ajI];refine bq (by unfold hb;rw[cb];omega) (aI (aeC hm aT cD _ _ _ _ _ _) ?_);simp only;rw[k3];exact aI (ac8 gz aT e9 (IU aY) _ _ _ _ _ _) rfl
theorem aeF {p:kj}{m n:Nat}{a:Nat->Nat->Int}{b:Nat->Int}(h:mW p m n a b){c:Nat->Int}(oS:p.hy=aQ n c)(aY:∀j,j<n-> -100<=c j/\c j<=100):
 ∃r,Bs p=some r/\((¬qZ m n a b/\r=⟨2,[],⟨⟨false,[]⟩,[]⟩⟩)\/(qZ m n a b/\ ¬Bounded m n a b (ib n c)/\r=⟨3,[],⟨⟨false,[]⟩,[]⟩⟩) \/
  ∃x,uk m n a b (ib n c) x/\(∀j,eC (x j))/\eC (val n (ib n c) x)/\r=⟨0,aQ n (fun j=>ca (x j)),ca (val n (ib n c) x)⟩):=by
 have hm:=h.hm;have aT:=h.aT;have gz:=EE h;obtain⟨t,e1,cZ,bJ⟩:=aex h;have akd:=cZ.y0 gz (fun j _=>Iu m n j) (dD (n+m));have ake:(hb (n+m) (t.cn m (gn m n))).length=n+m+1:=cb ..
 have pre : ∀r,(if (ju (t.cn m (gn m n) (n+m)) != (0:Int))=true then some (⟨2,[],⟨⟨false,[]⟩,[]⟩⟩:wq) else
  Bf p ((n+m:Nat):Int) (iq m (n+m)) (cS m t) (hb (n+m) (t.cn m (gn m n))) (gm m (n+m) t) >>= fun bZ =>
  uY true bZ.2.2.2.1 bZ.2.2.2.2.1 bZ.2.2.2.2.2.1 bZ.2.2.2.2.2.2.1 bZ.2.2.2.2.2.2.2 >>= fun cT =>
  if cT.1=true then
   if 0<=bZ.2.2.2.1/\bZ.2.2.2.1<(cT.2.2.1.length:Nat) then
   cT.2.2.1[(0+bZ.2.2.2.1.toNat)]? >>= fun Gk =>
   tb Gk >>= fun gR =>
   KF p.hq p.fT p.eb p.ew p.hy bZ.2.2.2.1 bZ.2.2.2.2.1 cT.2.1 cT.2.2.1 cT.2.2.2 gR.d8.cF gR.d8.cc gR.e6 0 ([]:List ao) >>= fun mC =>
   KG ((cT.2.1.length:Nat):Int) bZ.2.2.2.1 bZ.2.2.2.2.1 cT.2.1 cT.2.2.1 cT.2.2.2 gR.d8.cF gR.d8.cc gR.e6 0 mC >>= fun qw =>
   some (⟨0,qw,gR⟩:wq)
   else none
  else some (⟨3,([]:List ao),(⟨(⟨false,([]:ar)⟩:bz),([]:ar)⟩:ao)⟩:wq))=some r->Bs p=some r:=fun r ai=>by
  unfold Bs;exact aI (afx h) (aI e1 (bq (by simp only;rw[ake];omega) (aI (x:=ca (t.cn m (gn m n) (n+m))) (by simp only;rw[dy];exact g9 (by omega)) (aI (pz akd) ai))))
 by_cases z:t.cn m (gn m n) (n+m)=0;rotate_left
 ·exact⟨_,pre _ (gy (wW fun e=>z (oU.1 e)) rfl),.inl ⟨fun s=>z (bJ.2 s),rfl⟩⟩
 have OH:=bJ.1 z;have akf:sK m n a b 0 t:=⟨⟨cZ,Ll cZ.lc z cZ.ok.js,dD _,fun i ab=>ab,fun i _ k _ e=>e,fun d bC hg=>(hg d bC rfl).elim⟩,fun q aZ=>by omega⟩;obtain⟨aH,g,u,q1,q2,bP,la,e9,e2⟩:=aeE h oS aY akf;have ak : ∀j,n<=j->ib n c j=0:=fun j aq=>Iv aq;have inj : ∀ {v:bV},pJ m n a b aH g u.T v-> ∀i,i<aH-> ∀k,k<aH->v.B i=v.B k->i=k:=fun bh i ab k aX e=>MI bh.lt ab aX e
 obtain⟨q,v,bN,zI,eM⟩:=VD (eU:=aH) (m:=aH) (N:=n) (K:=n+1) (by omega) (by omega) (A:=u.T) (obj:=hK (ib n c)) true (pJ m n a b aH g u.T)
  (fun t cg=>⟨cg.ok,cg.lt.lc⟩) (fun t r s cg c2=>aeA cg c2)
  (fun t cg j aq=>ac9 la aT (inj cg) (fun i ab j aq=>(cg.fits gz).1 i ab j aq) (fun j aq=>cg.y0 gz ak (IU aY) aq) aq)
  (fun t cg i ab j aq=>(cg.fits gz).1 i ab j aq) (fun t cg i ab j aq ah=>(cg.fits gz).2 i ab j aq ah)
  (fun t cg r k ai aX ah=>cg.FQ gz ak (IU aY) ai aX ah) u e9
 have wP:uY true (n:Int) (iq aH n) (cS aH u) (hb n (u.cn aH (ib n c))) (gm aH n u)=some (q,cS aH v,hb n (v.cn aH (ib n c)),gm aH n v):=bN;have GX:=zI.lt;rcases eM with ⟨rfl,eM⟩|⟨rfl,s,vM,di,hg⟩;rotate_left
 ·refine⟨_,pre _ (jc (by rw[oU.2 z];rfl) (aI e2 (aI wP (jc rfl rfl)))),.inr (.inl ⟨OH,?_,rfl⟩)⟩
  obtain⟨l,aV,ah,-⟩:=di
  cases l with
  | zero=>exact GX.Jv (ib n c) vM ah hg
  | succ k =>
   obtain⟨i,ab,jk⟩:=GX.TK (c:=ib n c) ah;exact(hg i ab jk).elim
 have my:=GX.my eM
 have akg : ∀i,i<=aH-> ∀j,eC (v.gZ i n j):=fun i ab j=>by
  rcases H7 (inj zI) (n:=n) j i ab with ⟨q,h1,-,J⟩|⟨-,h2⟩
  ·rw[J];exact(zI.fits gz).1 q (by omega) n (dD _)
  ·rw[h2];exact UZ (n:=0) (kT.2 (by omega))
 have bh:v.cn aH (ib n c) n = -val n (ib n c) (v.gZ aH n):=by unfold val;rw[GX.ET (ib n c)];unfold bV.cn;rw[Iv (dD _)];grind
 have XF:=zI.y0 gz ak (IU aY) (dD n);have aik:eC (val n (ib n c) (v.gZ aH n)):=by have:=XF.neg;rw[bh,Rat.neg_neg] at this;exact this
 refine⟨_,pre _ (jc (by rw[oU.2 z];rfl) (aI e2 (aI wP (gy rfl (bq ?_ (aI (x:=ca (v.cn aH (ib n c) n)) ?_ (aI (IH XF) (aI (x:=aQ n fun _=>ca 0) ?_ (aI (x:=aQ n fun j=>ca (v.gZ aH n j)) ?_ rfl))))))))),.inr (.inr ⟨_,my,fun j=>akg aH (dD _) j,aik,?_⟩)⟩
 ·simp only;unfold hb;rw[cb];omega
 ·simp only;rw[dy];exact g9 (by omega)
 ·unfold KF
  rw[h.gL]
  obtain⟨_,e,-⟩:=h4 (f:=fun w:Int×(List ao)=>Az p.hq (n:Int) p.eb p.ew p.hy (n:Int) (iq aH n) (cS aH v) (hb n (v.cn aH (ib n c))) (gm aH n v) (ca (-v.cn aH (ib n c) n)).d8.cF (ca (-v.cn aH (ib n c) n)).d8.cc (ca (-v.cn aH (ib n c) n)).e6 w.1 w.2) (fun (j:Nat) (_:Unit)=>((j:Int),aQ j fun _=>ca (0:Rat))) n (fun _ _=>True) (fun _=>aQ n fun _=>ca (0:Rat))
   (fun j aq _ _=>by refine⟨(),?_,trivial⟩;simp only;unfold Az;refine dW (by omega) (aI (ry (n:=0) (kT.2 (by omega))) (bq (by simp only[dF,cb,List.length_singleton];omega) ?_));rw[fl (by omega),kE];rfl)
   (fun _ _=>by simp only;unfold Az;exact eg (by omega) rfl) () trivial
  exact e
 ·have uQ:(((cS aH v).length:Nat):Int)=(aH:Int):=by unfold cS;rw[cb]
  simp only;rw[uQ];unfold KG
  obtain⟨_,e,-⟩:=h4 (f:=fun w:Int×(List ao)=>AA (aH:Int) (n:Int) (iq aH n) (cS aH v) (hb n (v.cn aH (ib n c))) (gm aH n v) (ca (-v.cn aH (ib n c) n)).d8.cF (ca (-v.cn aH (ib n c) n)).d8.cc (ca (-v.cn aH (ib n c) n)).e6 w.1 w.2) (fun (i:Nat) (_:Unit)=>((i:Int),aQ n fun j=>ca (v.gZ i n j))) aH (fun _ _=>True) (fun _=>aQ n fun j=>ca (v.gZ aH n j))
   (fun i ab _ _=>by
     refine⟨(),?_,trivial⟩;have aW:=GX.js i ab;have kN:(cS aH v).length=aH:=cb ..;have k3:(iq aH n).length=aH:=cb ..;simp only;unfold AA;refine dW (by omega) (bq (by rw[kN];omega) (aI (x:=((v.B i:Nat):Int)) (by rw[dy];exact g9 ab) (bq (by rw[k3];omega) (aI (x:=some (i,n+1)) (by rw[dy];exact g9 ab) (aI (x:=(i,n+1)) rfl (aI (x:=gX n v i) (fN ab) (bq (by omega) (aI (x:=ca (v.T i n)) (by rw[dy];exact g9 (by omega)) (aI (age ((zI.fits gz).1 i ab n (dD _))) (bq (by rw[cb];omega) (bq (by rw[cb,dy];omega) ?_)))))))))));rw[fl (by omega),dy,dG,kG];congr 3;refine eA fun j _=> ?_;rw[L9];by_cases e:j=v.B i
     ·rw[dw e,dw e.symm]
      rcases H7 (inj zI) (n:=n) j i (by omega) with ⟨q,h1,h2,-⟩|⟨-,h2⟩
      ·have:=inj zI q (by omega) i ab (by omega);omega
      ·rw[h2,Rat.zero_add]
     ·rw[dA e,dA fun x=>e x.symm,Rat.add_zero])
   (fun _ _=>by simp only;unfold AA;exact eg (by omega) rfl) () trivial
  exact e
 ·rw[bh,Rat.neg_neg]
def vC (k:Nat)(x:eD):List fA:=(if x.jz=2 then [] else [⟨(k:Int),1⟩])++(if x.jz=1 then [] else [⟨(k:Int),-1⟩])
def l9 (gi:List eD):Nat->List fA
 | 0=>[]
 | n+1=>l9 gi n++(match gi[n]? with
  | some x=>vC n x
  | none=>[])
theorem H8 (gi:List eD): ∀n,(l9 gi n).length<=2*n
 | 0=>by simp[l9]
 | n+1=>by
  have:=H8 gi n;rw[l9,dF]
  have h2:(match gi[n]? with
   | some x=>vC n x
   | none=>[]).length<=2:=by
   split
   ·rename_i x _;unfold vC;rw[dF];split<;>split<;>simp
   ·simp
  omega
theorem Uy {gi:List eD}: ∀ {n:Nat} {c:fA},n<=gi.length->c∈l9 gi n-> ∃k:Nat,c.hI=k/\k<n/\(c.rC=1\/c.rC = -1)
 | 0,c,_,h=>by simp[l9] at h
 | n+1,c,aT,h=>by
  rw[l9,List.mem_append] at h;rcases h with h|h
  ·obtain⟨k,h1,h2,J⟩:=Uy (by omega) h;exact⟨k,h1,by omega,J⟩
  ·rw[dz (by omega)] at h
   simp only[vC,List.mem_append] at h;rcases h with h|h
   ·split at h
    ·simp at h
    ·simp at h;subst h;exact⟨n,rfl,by omega,.inl rfl⟩
   ·split at h
    ·simp at h
    ·simp at h;subst h;exact⟨n,rfl,by omega,.inr rfl⟩
theorem Lz (s:c5)(ek:s.bI.length<=1000):xo s=some (l9 s.bI s.bI.length):=by
 unfold xo Pb;rw[fs]
 obtain⟨x,e,-⟩:=h4 (f:=fun w:Int×List fA=>zU s.bI (s.bI.length:Nat) w.1 w.2) (fun (n:Nat) (_:Unit)=>((n:Int),l9 s.bI n)) s.bI.length (fun _ _=>True) (fun _=>l9 s.bI s.bI.length)
  (fun n aT _ _=>by
    refine⟨(),?_,trivial⟩;have aa:=dz aT;have aV:=H8 s.bI n;have e1:l9 s.bI (n+1)=l9 s.bI n++vC n s.bI[n]:=(by rw[l9,aa]);unfold zU;refine dW (by simp only;omega) (bq (by simp only;omega) (aI (x:=s.bI[n]) (by simp only;rw[dy];exact aa) ?_));simp only;rw[fl (by omega),e1];unfold vC;by_cases bl:s.bI[n].jz=2
    ·rw[dw bl];refine jc (Ge bl) (gy (wW (by omega)) (bq (by simp only[dF,List.length_cons,List.length_nil];omega) ?_));rw[dA (by omega)];simp
    ·rw[dA bl]
     refine gy (wW bl) (bq (by simp only[dF,List.length_cons,List.length_nil];omega) ?_);by_cases cm:s.bI[n].jz=1
     ·refine jc (Ge cm) ?_;rw[dw cm];simp
     ·refine gy (wW cm) (bq (by simp only[dF,List.length_cons,List.length_nil];omega) ?_);rw[dA cm];simp)
  (fun _ _=>by unfold zU;exact eg (by simp) rfl) () trivial
 exact aI e rfl
theorem Sk (s:c5)(ek:s.bI.length<=1000):xK s=some ((l9 s.bI s.bI.length).map fA.hI,(l9 s.bI s.bI.length).map fA.rC):=by
 unfold xK Qn;rw[fs]
 obtain⟨x,e,-⟩:=h4 (f:=fun w:Int×ar×ar=>Ah s.bI (s.bI.length:Nat) w.1 w.2.1 w.2.2) (fun (n:Nat) (_:Unit)=>((n:Int),(l9 s.bI n).map fA.hI,(l9 s.bI n).map fA.rC)) s.bI.length (fun _ _=>True) (fun _=>((l9 s.bI s.bI.length).map fA.hI,(l9 s.bI s.bI.length).map fA.rC))
  (fun n aT _ _=>by
    refine⟨(),?_,trivial⟩;have aa:=dz aT;have aV:=H8 s.bI n;have e1:l9 s.bI (n+1)=l9 s.bI n++vC n s.bI[n]:=(by rw[l9,aa]);unfold Ah;refine dW (by simp only;omega) (bq (by simp only;omega) (aI (x:=s.bI[n]) (by simp only;rw[dy];exact aa) ?_));simp only;rw[fl (by omega),e1];unfold vC;by_cases bl:s.bI[n].jz=2
    ·rw[dw bl];refine jc (Ge bl) (gy (wW (by omega)) (bq (by simp only[dF,List.length_map,List.length_cons,List.length_nil];omega) (bq (by simp only[dF,List.length_map,List.length_cons,List.length_nil];omega) ?_)));rw[dA (by omega)];simp
    ·rw[dA bl]
     refine gy (wW bl) (bq (by simp only[dF,List.length_map,List.length_cons,List.length_nil];omega) (bq (by simp only[dF,List.length_map,List.length_cons,List.length_nil];omega) ?_));by_cases cm:s.bI[n].jz=1
     ·refine jc (Ge cm) ?_;rw[dw cm];simp
     ·refine gy (wW cm) (bq (by simp only[dF,List.length_map,List.length_cons,List.length_nil];omega) (bq (by simp only[dF,List.length_map,List.length_cons,List.length_nil];omega) ?_));rw[dA cm];simp)
  (fun _ _=>by unfold Ah;exact eg (by simp) rfl) () trivial
 exact aI e rfl
theorem agf {α:Type}(a b:Nat)(f:Nat->α):aQ (a+b) f=aQ a f++aQ b (fun j=>f (a+j)):=by
 induction b with
 | zero=>simp[aQ]
 | succ b ih=>rw[<- Nat.add_assoc,kE,ih,kE,List.append_assoc]
def nr (s:c5)(k:Nat):Int×Int:=(rh s k).getD (0,0)
theorem Mb (s:c5)(h:oe s)(k:Nat)(aX:k<s.bI.length):rh s k=some (nr s k)/\(-100<=(nr s k).1/\(nr s k).1<=100)/\(-100<=(nr s k).2/\(nr s k).2<=100):=by
 obtain⟨x,y,h1,J,aj⟩:=af5 s h k (by omega) (by omega);have e:nr s k=(x,y):=by unfold nr;rw[h1];rfl
 rw[e];exact⟨h1,J,aj⟩
def jJ (s:c5)(j:Int)(kh k:Nat):Int :=
 match s.bI[k]? with
 | none=>0
 | some x=>if j=x.eb then (if kh=0 then (nr s k).1 else (nr s k).2) else if j=x.ew then -(if kh=0 then (nr s k).1 else (nr s k).2) else 0
theorem ag1 (s:c5)(h:oe s)(j:Int)(kh k:Nat): -100<=jJ s j kh k/\jJ s j kh k<=100:=by
 unfold jJ;split
 ·omega
 ·rename_i x aa
  obtain⟨-,J,aj⟩:=Mb s h k (f5 aa);split
  ·split<;>omega
  ·split
   ·split<;>omega
   ·omega
theorem agh (s:c5)(h:oe s)(j:Int)(q1:ar)(q2 bP:Int)(cw:ar):
 KL j q1 q2 bP s.bI (len_ cx s.bI) s.cu cw 0 ([]:ar) ([]:ar)=some (aQ s.bI.length (jJ s j 0),aQ s.bI.length (jJ s j 1)):=by
 obtain⟨-,-,f3,f4⟩:=id h;unfold KL;rw[fs]
 obtain⟨x,e,-⟩:=h4 (f:=fun w:Int×ar×ar=>AD j q1 q2 bP s.bI (s.bI.length:Nat) s.cu cw w.1 w.2.1 w.2.2) (fun (n:Nat) (_:Unit)=>((n:Int),aQ n (jJ s j 0),aQ n (jJ s j 1))) s.bI.length (fun _ _=>True) (fun _=>(aQ s.bI.length (jJ s j 0),aQ s.bI.length (jJ s j 1)))
  (fun n aT _ _=>by
    refine⟨(),?_,trivial⟩;have aa:=dz aT;obtain⟨v1,v3,v4⟩:=Mb s h n aT;have v2:=af6 s h n (by omega) (by omega) v1;unfold AD;refine dW (by simp only;omega) (bq (by simp only;omega) (aI (x:=s.bI[n]) (by simp only;rw[dy];exact aa) (aI (x:=nr s n) v2 ?_)));simp only;rw[fl (by omega),kE,kE];have g : ∀(F:Nat->Int) (v:Int),(aQ n F++[v]).length*8<=140737488355328:=fun F v=>(by simp only[dF,cb,List.length_cons,List.length_nil];omega);by_cases bl:j=s.bI[n].eb
    ·have e0 : ∀kh,jJ s j kh n=if kh=0 then (nr s n).1 else (nr s n).2:=fun kh=>(by unfold jJ;rw[aa];simp only[dw bl]);refine gy (CU bl) (bq (g _ _) (bq (g _ _) ?_));rw[e0,e0];rfl
    ·refine jc (wV bl) ?_
     by_cases cm:j=s.bI[n].ew
     ·have e0 : ∀kh,jJ s j kh n = -(if kh=0 then (nr s n).1 else (nr s n).2):=fun kh=>(by unfold jJ;rw[aa];simp only[dA bl,dw cm]);refine gy (CU cm) (bq (g _ _) (bq (g _ _) ?_));rw[e0,e0,cQ (by omega) (by omega),cQ (by omega) (by omega)];simp
     ·have e0 : ∀kh,jJ s j kh n=0:=fun kh=>(by unfold jJ;rw[aa];simp only[dA bl,dA cm]);refine jc (wV cm) (bq (g _ _) (bq (g _ _) ?_));rw[e0,e0])
  (fun _ _=>by unfold AD;exact eg (by simp) rfl) () trivial
 exact e
theorem agi (s:c5)(h:oe s)(j:Int)(q1:ar)(q2 bP:Int)(cw:List ar):
 JY s.cu s.bI j q1 q2 bP (len_ cx s.bI) cw 0 (aQ s.bI.length fun _=>(0:Int)) (aQ s.bI.length fun _=>(0:Int))=some (aQ s.bI.length (jJ s j 0),aQ s.bI.length (jJ s j 1)):=by
 obtain⟨-,-,f3,f4⟩:=id h;unfold JY;rw[fs]
 obtain⟨x,e,-⟩:=h4 (f:=fun w:Int×ar×ar=>zP s.cu s.bI j q1 q2 bP (s.bI.length:Nat) cw w.1 w.2.1 w.2.2) (fun (n:Nat) (_:Unit)=>((n:Int),(aQ s.bI.length fun k=>if k<n then jJ s j 0 k else 0),aQ s.bI.length fun k=>if k<n then jJ s j 1 k else 0)) s.bI.length (fun _ _=>True) (fun _=>(aQ s.bI.length (jJ s j 0),aQ s.bI.length (jJ s j 1)))
  (fun n aT _ _=>by
    refine⟨(),?_,trivial⟩;have aa:=dz aT;obtain⟨v1,v3,v4⟩:=Mb s h n aT
    have c2 : ∀kh v,v=jJ s j kh n->(aQ s.bI.length fun k=>if k<n then jJ s j kh k else 0).set n v=aQ s.bI.length fun k=>if k<n+1 then jJ s j kh k else 0:=fun kh v bh=>by
     rw[kG];refine eA fun k _=> ?_;by_cases c:k=n
     ·subst c;rw[dw rfl,dw (by omega)];exact bh
     ·rw[dA c]
      by_cases cm:k<n
      ·rw[dw cm,dw (by omega)]
      ·rw[dA cm,dA (by omega)]
    have g1 : ∀F:Nat->Int,0<=((n:Nat):Int)/\((n:Nat):Int)<((aQ s.bI.length F).length:Nat):=fun F=>(by rw[cb];omega);have g2 : ∀F:Nat->Int,0+((n:Nat):Int).toNat<(aQ s.bI.length F).length:=fun F=>(by rw[cb,dy];omega);unfold zP;refine dW (by simp only;omega) (bq (by simp only;omega) (aI (x:=s.bI[n]) (by simp only;rw[dy];exact aa) (aI (x:=nr s n) v1 ?_)));simp only;by_cases bl:j=s.bI[n].eb
    ·have e0 : ∀kh,jJ s j kh n=if kh=0 then (nr s n).1 else (nr s n).2:=fun kh=>(by unfold jJ;rw[aa];simp only[dw bl]);refine gy (CU bl) (bq (g1 _) (bq (g2 _) (bq (g1 _) (bq (g2 _) ?_))));rw[fl (by omega),dy,dG,c2 0 _ (by rw[e0];rfl),c2 1 _ (by rw[e0];rfl)]
    ·refine jc (wV bl) ?_
     by_cases cm:j=s.bI[n].ew
     ·have e0 : ∀kh,jJ s j kh n = -(if kh=0 then (nr s n).1 else (nr s n).2):=fun kh=>(by unfold jJ;rw[aa];simp only[dA bl,dw cm]);refine gy (CU cm) (bq (g1 _) (bq (g2 _) (bq (g1 _) (bq (g2 _) ?_))));rw[fl (by omega),dy,dG,cQ (by omega) (by omega),cQ (by omega) (by omega),c2 0 _ (by rw[e0];simp),c2 1 _ (by rw[e0];simp)]
     ·have e0 : ∀kh,jJ s j kh n=0:=fun kh=>by unfold jJ;rw[aa];simp only[dA bl,dA cm]
      refine jc (wV cm) ?_;rw[fl (by omega)];congr 4
      ·refine eA fun k _=> ?_
       by_cases c:k=n
       ·subst c;rw[dA (by omega),dw (by omega),e0]
       ·by_cases cm:k<n
        ·rw[dw cm,dw (by omega)]
        ·rw[dA cm,dA (by omega)]
      ·refine eA fun k _=> ?_
       by_cases c:k=n
       ·subst c;rw[dA (by omega),dw (by omega),e0]
       ·by_cases cm:k<n
        ·rw[dw cm,dw (by omega)]
        ·rw[dA cm,dA (by omega)])
  (fun _ _=>by
    unfold zP;refine eg (by simp) ?_;simp only;congr 3
    ·exact eA fun k aX=>by rw[dw aX]
    ·exact eA fun k aX=>by rw[dw aX]) () trivial
 have z : ∀kh,(aQ s.bI.length fun k=>if k<0 then jJ s j kh k else 0)=aQ s.bI.length fun _=>(0:Int):=fun kh=>eA fun k _=>by rw[dA (by omega)]
 rw[z,z] at e;exact e
def iO (s:c5)(q:Nat):Nat:=(lW s.cu 0).getD q 0
def fj (s:c5):Nat:=(lW s.cu 0).length
def ly (s:c5)(r k:Nat):Int:=jJ s (iO s (r / 2)) (r % 2) k
theorem EP (s:c5):(lW s.cu 0).map (fun n:Nat=>(n:Int))=aQ (fj s) fun q=>((iO s q:Nat):Int):=by
 apply List.ext_getElem?;intro q;rw[dJ];by_cases c:q<fj s
 ·rw[fN c];have h:(lW s.cu 0)[q]? = some (lW s.cu 0)[q]:=dz c;unfold iO;rw[List.getD_eq_getElem?_getD,h];rfl
 ·rw[List.getElem?_eq_none_iff.2 (by unfold fj at c;omega),List.getElem?_eq_none_iff.2 (by rw[cb];omega)];rfl
theorem VJ (s:c5){q:Nat}(h:q<fj s):iO s q<s.cu.length:=by
 have h1:(lW s.cu 0)[q]? = some (lW s.cu 0)[q]:=dz h;have h2:iO s q=(lW s.cu 0)[q]:=by unfold iO;rw[List.getD_eq_getElem?_getD,h1];rfl
 have:=L5 s.cu 0 _ (dH h1);omega
theorem yU (s:c5):fj s<=s.cu.length:=Up s.cu 0
theorem Mn {α:Type}(r n:Nat)(e:Nat->Nat->α):(aQ (r*n) fun x=>e (x / n) (x % n))++aQ n (e r)=aQ ((r+1)*n) fun x=>e (x / n) (x % n):=by
 rw[Nat.succ_mul,agf];congr 1;refine eA fun j aq=> ?_;have h1:(r*n+j) / n=r:=by rw[Nat.mul_comm,Nat.mul_add_div (by omega),Nat.div_eq_of_lt aq];rfl
 have h2:(r*n+j) % n=j:=by rw[Nat.mul_comm,Nat.mul_add_mod,Nat.mod_eq_of_lt aq]
 rw[h1,h2]
theorem adT (s:c5)(h:oe s):D9 s=some (aQ (2*fj s*s.bI.length) fun x=>ly s (x / s.bI.length) (x % s.bI.length)):=by
 obtain⟨-,-,f3,f4⟩:=id h;have vV:=yU s;unfold D9;refine aI (Lx s (by omega)) ?_;rw[EP,gu,cb];unfold Rw
 obtain⟨x,e,-⟩:=h4 (f:=fun w:Int×ar=>AE (aQ (fj s) fun q=>((iO s q:Nat):Int)) ((fj s:Nat):Int) s.cu s.bI w.1 w.2) (fun (n:Nat) (_:Unit)=>((n:Int),aQ (2*n*s.bI.length) fun x=>ly s (x / s.bI.length) (x % s.bI.length))) (fj s) (fun _ _=>True) (fun _=>aQ (2*fj s*s.bI.length) fun x=>ly s (x / s.bI.length) (x % s.bI.length))
  (fun n aT _ _=>by refine⟨(),?_,trivial⟩;have aW:2*n*s.bI.length<=12*8:=Nat.mul_le_mul (by omega) f4;unfold AE;refine dW (by simp only;omega) (bq (by rw[cb];simp only;omega) (aI (x:=((iO s n:Nat):Int)) (by simp only;rw[dy];exact fN aT) (aI (agh s h _ _ _ _ _) ?_)));refine bq (by simp only[dF,cb];omega) (bq (by simp only[dF,cb];omega) ?_);simp only;rw[fl (by omega)];have r1:aQ s.bI.length (jJ s (iO s n) 0)=aQ s.bI.length (ly s (2*n)):=eA fun k _=>(by unfold ly;rw[show 2*n / 2=n by omega,show 2*n % 2=0 by omega]);have r2:aQ s.bI.length (jJ s (iO s n) 1)=aQ s.bI.length (ly s (2*n+1)):=eA fun k _=>(by unfold ly;rw[show (2*n+1) / 2=n by omega,show (2*n+1) % 2=1 by omega]);rw[r1,r2,Mn (2*n),Mn (2*n+1),show 2*n+1+1=2*(n+1) by omega])
  (fun _ _=>by unfold AE;exact eg (by simp) rfl) () trivial
 have z:(aQ (2*0*s.bI.length) fun x=>ly s (x / s.bI.length) (x % s.bI.length))=[]:=by simp[aQ]
 rw[z] at e;exact aI e rfl
theorem ab6 (s:c5)(h:oe s):Dd s=some (aQ (2*fj s) fun r=>aQ s.bI.length (ly s r)):=by
 obtain⟨-,-,f3,f4⟩:=id h;have vV:=yU s;unfold Dd;refine aI (Sj s (by omega)) ?_;rw[EP,gu,cb];unfold OY
 obtain⟨x,e,-⟩:=h4 (f:=fun w:Int×List ar=>zQ s.cu s.bI (aQ (fj s) fun q=>((iO s q:Nat):Int)) ((fj s:Nat):Int) w.1 w.2) (fun (n:Nat) (_:Unit)=>((n:Int),aQ (2*n) fun r=>aQ s.bI.length (ly s r))) (fj s) (fun _ _=>True) (fun _=>aQ (2*fj s) fun r=>aQ s.bI.length (ly s r))
  (fun n aT _ _=>by refine⟨(),?_,trivial⟩;unfold zQ;refine dW (by simp only;omega) (bq (by rw[cb];simp only;omega) (aI (x:=((iO s n:Nat):Int)) (by simp only;rw[dy];exact fN aT) (bq (by rw[fs];omega) ?_)));refine aI (x:=(aQ s.bI.length (jJ s (iO s n) 0),aQ s.bI.length (jJ s (iO s n) 1))) (by rw[show (len_ cx s.bI).toNat=s.bI.length by rw[fs,dy],qb];exact agi s h _ _ _ _ _) (bq (by simp only[dF,cb,List.length_cons,List.length_nil];omega) ?_);simp only;rw[fl (by omega),show 2*(n+1)=2*n+1+1 by omega,kE (2*n+1),kE (2*n)];have r1:aQ s.bI.length (jJ s (iO s n) 0)=aQ s.bI.length (ly s (2*n)):=eA fun k _=>(by unfold ly;rw[show 2*n / 2=n by omega,show 2*n % 2=0 by omega]);have r2:aQ s.bI.length (jJ s (iO s n) 1)=aQ s.bI.length (ly s (2*n+1)):=eA fun k _=>(by unfold ly;rw[show (2*n+1) / 2=n by omega,show (2*n+1) % 2=1 by omega]);rw[r1,r2];simp)
  (fun _ _=>by unfold zQ;exact eg (by simp) rfl) () trivial
 exact aI e rfl
def gL (s:c5):List fA:=l9 s.bI s.bI.length
def cO (s:c5):Nat:=(gL s).length
def gP (s:c5)(c:Nat):Nat:=((gL s).getD c ⟨0,0⟩).hI.toNat
def nO (s:c5)(c:Nat):Int:=((gL s).getD c ⟨0,0⟩).rC
def l3 (s:c5)(i c:Nat):Int:=nO s c*ly s i (gP s c)
def nP (s:c5)(l:ar)(i:Nat):Int:= -(l.getD (2*iO s (i / 2)+i % 2) 0)
theorem vh (s:c5){c:Nat}(aY:c<cO s):(gL s)[c]? = some ⟨(gP s c:Int),nO s c⟩/\gP s c<s.bI.length/\(nO s c=1\/nO s c = -1):=by
 have h1:(gL s)[c]? = some (gL s)[c]:=dz aY;have h2:(gL s).getD c ⟨0,0⟩=(gL s)[c]:=by rw[List.getD_eq_getElem?_getD,h1];rfl
 obtain⟨k,e1,e2,bN⟩:=Uy (dD _) (dH h1);have c0:gP s c=k:=by unfold gP;rw[h2,e1];rfl
 have dk:nO s c=((gL s)[c]).rC:=by unfold nO;rw[h2]
 refine⟨?_,by omega,by rw[dk];exact bN⟩;rw[h1,c0,dk,<- e1]
theorem wH (s:c5):cO s<=2*s.bI.length:=H8 _ _
theorem Vb (s:c5):(gL s).map fA.hI=aQ (cO s) fun c=>((gP s c:Nat):Int):=by
 apply List.ext_getElem?;intro c;rw[dJ];by_cases h:c<cO s
 ·rw[(vh s h).1,fN h];rfl
 ·rw[List.getElem?_eq_none_iff.2 (by unfold cO at h;omega),List.getElem?_eq_none_iff.2 (by rw[cb];omega)];rfl
theorem Vc (s:c5):(gL s).map fA.rC=aQ (cO s) (nO s):=by
 apply List.ext_getElem?;intro c;rw[dJ];by_cases h:c<cO s
 ·rw[(vh s h).1,fN h];rfl
 ·rw[List.getElem?_eq_none_iff.2 (by unfold cO at h;omega),List.getElem?_eq_none_iff.2 (by rw[cb];omega)];rfl
theorem MU (s:c5)(h:oe s)(i:Nat){c:Nat}(aY:c<cO s): -100<=l3 s i c/\l3 s i c<=100:=by have h1:=ag1 s h (iO s (i / 2)) (i % 2) (gP s c);unfold l3 ly;rcases(vh s aY).2.2 with e|e<;>rw[e]<;>omega
theorem afJ (s:c5)(h:oe s)(l:ar)(aV:l.length=2*s.cu.length)(aW:∀x∈l,-100<=x/\x<=100):DQ s l=some (aQ (2*fj s) (nP s l)):=by
 obtain⟨-,-,f3,f4⟩:=id h;have vV:=yU s;unfold DQ;refine aI (Lx s (by omega)) ?_;rw[EP,gu,cb];unfold Rb
 obtain⟨x,e,-⟩:=h4 (f:=fun w:Int×ar=>Au l (aQ (fj s) fun q=>((iO s q:Nat):Int)) ((fj s:Nat):Int) w.1 w.2) (fun (n:Nat) (_:Unit)=>((n:Int),aQ (2*n) (nP s l))) (fj s) (fun _ _=>True) (fun _=>aQ (2*fj s) (nP s l))
  (fun n aT _ _=>by refine⟨(),?_,trivial⟩;have cl:=VJ s aT;have re:U ((2:Int)*((iO s n:Nat):Int))=((2*iO s n:Nat):Int):=(by rw[cQ (by omega) (by omega)];omega);have vW:U (((2*iO s n:Nat):Int)+1)=((2*iO s n+1:Nat):Int):=fl (by omega);have x1:=aW l[2*iO s n] (List.getElem_mem (by omega));have x2:=aW l[2*iO s n+1] (List.getElem_mem (by omega));have p1:nP s l (2*n) = -l[2*iO s n]:=(by unfold nP;rw[show 2*n / 2=n by omega,show 2*n % 2=0 by omega,Nat.add_zero,List.getD_eq_getElem?_getD,dz (by omega)];rfl);have p2:nP s l (2*n+1) = -l[2*iO s n+1]:=(by unfold nP;rw[show (2*n+1) / 2=n by omega,show (2*n+1) % 2=1 by omega,List.getD_eq_getElem?_getD,dz (by omega)];rfl);unfold Au;refine dW (by simp only;omega) (bq (by rw[cb];simp only;omega) (aI (x:=((iO s n:Nat):Int)) (by simp only;rw[dy];exact fN aT) ?_));rw[re,vW];refine bq (by omega) (aI (x:=l[2*iO s n]) (by rw[dy];exact dz (by omega)) (bq (by omega) (aI (x:=l[2*iO s n+1]) (by rw[dy];exact dz (by omega)) (bq (by simp only[dF,cb,List.length_cons,List.length_nil];omega) ?_))));simp only;rw[fl (by omega),cQ (by omega) (by omega),cQ (by omega) (by omega),show 2*(n+1)=2*n+1+1 by omega,kE (2*n+1),kE (2*n),p1,p2];simp)
  (fun _ _=>by unfold Au;exact eg (by simp) rfl) () trivial
 exact aI e rfl
def xh (s:c5)(l:ar):kj:=⟨((2*fj s:Nat):Int),(cO s:Int),aQ (2*fj s*cO s) (fun x=>l3 s (x / cO s) (x % cO s)),aQ (2*fj s) (nP s l),aQ (cO s) fun _=>0⟩
theorem VK (s:c5)(h:oe s)(l:ar)(aW:∀x∈l,-100<=x/\x<=100):mW (xh s l) (2*fj s) (cO s) (l3 s) (nP s l) where
 rows:=rfl
 gL:=rfl
 hp:=cb ..
 I9:=fun i ab j aq=>by have h1:i*cO s+j<2*fj s*cO s:=(by have:(i+1)*cO s<=2*fj s*cO s:=dM _ ab;rw[Nat.succ_mul] at this;omega);show (aQ _ _)[_]? = _;rw[fN h1];have h2:(i*cO s+j) / cO s=i:=(by rw[Nat.mul_comm,Nat.mul_add_div (by omega),Nat.div_eq_of_lt aq];rfl);have J:(i*cO s+j) % cO s=j:=(by rw[Nat.mul_comm,Nat.mul_add_mod,Nat.mod_eq_of_lt aq]);rw[h2,J]
 Oz:=cb ..
 Nd:=fun i ab=>fN ab
 hm:=by obtain⟨-,-,f3,f4⟩:=id h;have:=yU s;omega
 aT:=by obtain⟨-,-,f3,f4⟩:=id h;have:=wH s;omega
 xe:=fun i _ j aq=>MU s h i aq
 uQ:=fun i _=>by
  unfold nP;rw[List.getD_eq_getElem?_getD]
  cases c:l[2*iO s (i / 2)+i % 2]? with
  | none=>simp
  | some x =>
   have:=aW x (dH c);simp only[Option.getD_some];omega
theorem acq (s:c5)(h:oe s)(l:ar)(aV:l.length=2*s.cu.length)(aW:∀x∈l,-100<=x/\x<=100):DE s l=some (xh s l):=by
 obtain⟨-,-,f3,f4⟩:=id h;have vV:=yU s;have oS:=wH s;unfold DE;refine aI (Sk s (by omega)) (aI (adT s h) (aI (Lx s (by omega)) (aI (afJ s h l aV aW) ?_)));show (if 0<=len_ eI ((gL s).map fA.hI)/\_ then _ else none)=_;rw[EP]
 show (if 0<=len_ eI ((gL s).map fA.hI)/\(8:Int)*len_ eI ((gL s).map fA.hI)<=281474976710656/\len_ eI ((gL s).map fA.hI)<9223372036854775808 then
  Kt ((gL s).map fA.hI) ((gL s).map fA.rC) (len_ cx s.bI) _ (U ((2:Int)*len_ eI (aQ (fj s) fun q=>((iO s q:Nat):Int)))) (len_ eI ((gL s).map fA.hI)) (aQ (2*fj s) (nP s l)) (List.replicate (len_ eI ((gL s).map fA.hI)).toNat 0) 0 [] >>= fun cL=>some (⟨U ((2:Int)*len_ eI (aQ (fj s) fun q=>((iO s q:Nat):Int))),len_ eI ((gL s).map fA.hI),cL,aQ (2*fj s) (nP s l),List.replicate (len_ eI ((gL s).map fA.hI)).toNat 0⟩:kj) else none)=_
 rw[Vb,Vc,gu,cb,gu,cb,dy,fs,show U ((2:Int)*(fj s:Nat))=((2*fj s:Nat):Int) by rw[cQ (by omega) (by omega)];omega,qb];refine bq (by omega) (aI (x:=aQ (2*fj s*cO s) (fun x=>l3 s (x / cO s) (x % cO s))) ?_ rfl);unfold Kt
 obtain⟨x,e,-⟩:=h4 (f:=fun w:Int×ar=>Aj (aQ (cO s) fun c=>((gP s c:Nat):Int)) (aQ (cO s) (nO s)) (s.bI.length:Nat) (aQ (2*fj s*s.bI.length) fun x=>ly s (x / s.bI.length) (x % s.bI.length)) ((2*fj s:Nat):Int) ((cO s:Nat):Int) (aQ (2*fj s) (nP s l)) (aQ (cO s) fun _=>0) w.1 w.2) (fun (i:Nat) (_:Unit)=>((i:Int),aQ (i*cO s) (fun x=>l3 s (x / cO s) (x % cO s)))) (2*fj s) (fun _ _=>True) (fun _=>aQ (2*fj s*cO s) (fun x=>l3 s (x / cO s) (x % cO s)))
  (fun i ab _ _=>by
    refine⟨(),?_,trivial⟩;have Xa:i*cO s<=12*16:=Nat.mul_le_mul (by omega) (by omega);have lb:i*s.bI.length<=12*8:=Nat.mul_le_mul (by omega) f4
    obtain⟨y,e2,-⟩:=h4 (f:=fun w:Int×ar=>Ai (aQ (cO s) fun c=>((gP s c:Nat):Int)) (aQ (cO s) (nO s)) (s.bI.length:Nat) (aQ (2*fj s*s.bI.length) fun x=>ly s (x / s.bI.length) (x % s.bI.length)) (i:Int) ((cO s:Nat):Int) ((2*fj s:Nat):Int) ((cO s:Nat):Int) (aQ (2*fj s) (nP s l)) (aQ (cO s) fun _=>0) w.1 w.2)
     (fun (c:Nat) (_:Unit)=>((c:Int),(aQ (i*cO s) fun x=>l3 s (x / cO s) (x % cO s))++aQ c (l3 s i))) (cO s) (fun _ _=>True) (fun _=>(aQ (i*cO s) fun x=>l3 s (x / cO s) (x % cO s))++aQ (cO s) (l3 s i))
     (fun c aY _ _=>by refine⟨(),?_,trivial⟩;obtain⟨-,kr,oQ⟩:=vh s aY;have q8:(i+1)*s.bI.length<=2*fj s*s.bI.length:=dM _ ab;rw[Nat.succ_mul] at q8;have iW:U (U ((i:Int)*((s.bI.length:Nat):Int))+((gP s c:Nat):Int))=((i*s.bI.length+gP s c:Nat):Int):=(by rw[<- Int.natCast_mul,cQ (x:=((i*s.bI.length:Nat):Int)) (by omega) (by omega),cQ (by omega) (by omega)];omega);have h2:(i*s.bI.length+gP s c) / s.bI.length=i:=(by rw[Nat.mul_comm,Nat.mul_add_div (by omega),Nat.div_eq_of_lt kr];rfl);have J:(i*s.bI.length+gP s c) % s.bI.length=gP s c:=(by rw[Nat.mul_comm,Nat.mul_add_mod,Nat.mod_eq_of_lt kr]);have ajJ:=MU s h i aY;unfold Ai;refine dW (by simp only;omega) (bq (by rw[cb];simp only;omega) (aI (x:=((gP s c:Nat):Int)) (by simp only;rw[dy];exact fN aY) (bq (by rw[cb];simp only;omega) (aI (x:=nO s c) (by simp only;rw[dy];exact fN aY) ?_))));rw[iW];refine bq (by rw[cb];omega) (aI (x:=ly s i (gP s c)) (by rw[dy,fN (by omega),h2,J]) (bq (by simp only[dF,cb,List.length_cons,List.length_nil];omega) ?_));simp only;rw[fl (by omega),kE,show nO s c*ly s i (gP s c)=l3 s i c from rfl,cQ (by omega) (by omega),List.append_assoc])
     (fun _ _=>by unfold Ai;exact eg (by simp) rfl) () trivial
    have z:(aQ (i*cO s) fun x=>l3 s (x / cO s) (x % cO s))++aQ 0 (l3 s i)=aQ (i*cO s) fun x=>l3 s (x / cO s) (x % cO s):=(by simp[aQ]);rw[z] at e2;unfold Aj;refine dW (by simp only;omega) (aI (x:=(aQ (i*cO s) fun x=>l3 s (x / cO s) (x % cO s))++aQ (cO s) (l3 s i)) (by unfold Qq;rw[gu,cb];exact e2) ?_);simp only;rw[fl (by omega),Mn])
  (fun _ _=>by unfold Aj;exact eg (by simp) rfl) () trivial
 have z:(aQ (0*cO s) fun x=>l3 s (x / cO s) (x % cO s))=[]:=by simp[aQ]
 rw[z] at e;exact e
def xi (s:c5)(r c:Nat):Int:=if r<2*fj s/\c<cO s then l3 s r c else 0
def pr (s:c5)(l:ar)(r:Nat):Int:=if r<2*fj s then nP s l r else 0
def rf (s:c5)(N i c x:Nat):Int:=if (x / N<i\/(x / N=i/\x % N<c))/\x % N<cO s then l3 s (x / N) (x % N) else 0
theorem ag2 (s:c5){T N i c:Nat}(aY:c<cO s)(gE:cO s<=N)(hZ:i*N+c<T){v:Int}(bh:v=l3 s i c):(aQ T (rf s N i c)).set (i*N+c) v=aQ T (rf s N i (c+1)):=by
 have h2:(i*N+c) / N=i:=by rw[Nat.mul_comm,Nat.mul_add_div (by omega),Nat.div_eq_of_lt (by omega)];rfl
 have J:(i*N+c) % N=c:=by rw[Nat.mul_comm,Nat.mul_add_mod,Nat.mod_eq_of_lt (by omega)]
 rw[kG];refine eA fun x _=> ?_;unfold rf;by_cases e:x=i*N+c
 ·rw[dw e,e,h2,J,dw ⟨.inr ⟨rfl,by omega⟩,aY⟩,bh]
 ·rw[dA e]
  have c8 : ¬(x / N=i/\x % N=c):=fun ⟨a,b⟩=>e (by rw[<- Nat.div_add_mod x N,a,b,Nat.mul_comm]);by_cases d:(x / N<i\/(x / N=i/\x % N<c))/\x % N<cO s
  ·rw[dw d,dw ⟨by omega,d.2⟩]
  ·rw[dA d,dA (fun zE=>d ⟨by omega,zE.2⟩)]
theorem ag3 (s:c5)(T N i:Nat):aQ T (rf s N i (cO s))=aQ T (rf s N (i+1) 0):=by
 refine eA fun x _=> ?_;unfold rf;by_cases d:(x / N<i\/(x / N=i/\x % N<cO s))/\x % N<cO s
 ·rw[dw d,dw ⟨by omega,d.2⟩]
 ·rw[dA d,dA (fun zE=>d ⟨by omega,zE.2⟩)]
theorem agj (s:c5)(T N:Nat):aQ T (rf s N 0 0)=aQ T fun _=>0:=eA fun x _=>by unfold rf;rw[dA (fun h=>by rcases h.1 with h|h;exact Nat.not_lt_zero _ h;exact Nat.not_lt_zero _ h.2)]
theorem ag4 (s:c5)(T N:Nat):aQ T (rf s N (2*fj s) 0)=aQ T fun x=>xi s (x / N) (x % N):=eA fun x _=>by
 unfold rf xi;by_cases d:x / N<2*fj s/\x % N<cO s
 ·rw[dw d,dw ⟨.inl d.1,d.2⟩]
 ·rw[dA d,dA (fun zE=>d ⟨by omega,zE.2⟩)]
theorem agk (s:c5)(l:ar)(M:Nat):(aQ M fun x=>if x<0 then pr s l x else 0)=aQ M fun _=>0:=eA fun j _=>by rw[dA (by omega)]
theorem ag5 (s:c5)(l:ar)(M:Nat):(aQ M fun x=>if x<2*fj s then pr s l x else 0)=aQ M (pr s l):=eA fun j _=>by
 by_cases c:j<2*fj s
 ·rw[dw c]
 ·rw[dA c];unfold pr;rw[dA c]
theorem aeG (s:c5)(h:oe s)(l:ar)(aV:l.length=2*s.cu.length)(aW:∀x∈l,-100<=x/\x<=100)(eU lB:Nat)(alY:eU<=100)(alZ:lB<=100):
 zV s l (eU:Int) (lB:Int)=some (((2*fj s+lB:Nat):Int),((cO s+eU:Nat):Int),aQ ((2*fj s+lB)*(cO s+eU)) (fun x=>xi s (x / (cO s+eU)) (x % (cO s+eU))),aQ (2*fj s+lB) (pr s l),aQ (cO s+eU) fun _=>0):=by
 obtain⟨-,-,f3,f4⟩:=id h;have vV:=yU s;have oS:=wH s;have al0:(2*fj s+lB)*(cO s+eU)<=112*116:=Nat.mul_le_mul (by omega) (by omega);unfold zV;refine aI (ab6 s h) (aI (x:=gL s) (Lz s (by omega)) ?_);have iW:U ((len_ (fc 1 eI) (aQ (2*fj s) fun r=>aQ s.bI.length (ly s r)))+(lB:Int))=((2*fj s+lB:Nat):Int):=by rw[fs,cb,cQ (by omega) (by omega)];omega
 have re:U ((len_ gf (gL s))+(eU:Int))=((cO s+eU:Nat):Int):=by rw[fs];show U (((cO s:Nat):Int)+(eU:Int))=_;rw[cQ (by omega) (by omega)];omega
 have vW:U (((2*fj s+lB:Nat):Int)*((cO s+eU:Nat):Int))=(((2*fj s+lB)*(cO s+eU):Nat):Int):=by rw[<- Int.natCast_mul,cQ (by omega) (by omega)]
 rw[iW,re,vW,dy,dy,dy,qb,qb,qb,fs,cb];refine bq (by omega) (bq (by omega) (bq (by omega) ?_));refine aI (x:=aQ ((2*fj s+lB)*(cO s+eU)) (fun x=>xi s (x / (cO s+eU)) (x % (cO s+eU)))) ?_ ?_
 ·unfold OT
  obtain⟨x,e,-⟩:=h4 (f:=fun w:Int×ar=>zM s.cu s.bI l (gL s) (aQ (2*fj s) fun r=>aQ s.bI.length (ly s r)) ((2*fj s:Nat):Int) ((2*fj s+lB:Nat):Int) ((cO s+eU:Nat):Int) (aQ (2*fj s+lB) fun _=>0) (aQ (cO s+eU) fun _=>0) w.1 w.2) (fun (i:Nat) (_:Unit)=>((i:Int),aQ ((2*fj s+lB)*(cO s+eU)) (rf s (cO s+eU) i 0))) (2*fj s) (fun _ _=>True) (fun _=>aQ ((2*fj s+lB)*(cO s+eU)) (fun x=>xi s (x / (cO s+eU)) (x % (cO s+eU))))
   (fun i ab _ _=>by
     refine⟨(),?_,trivial⟩;have Ga:(i+1)*(cO s+eU)<=(2*fj s+lB)*(cO s+eU):=dM _ (by omega);rw[Nat.succ_mul] at Ga
     obtain⟨y,e2,-⟩:=h4 (f:=fun w:Int×ar=>zL s.cu s.bI l (gL s) (i:Int) (aQ s.bI.length (ly s i)) (aQ (2*fj s) fun r=>aQ s.bI.length (ly s r)) ((2*fj s:Nat):Int) ((cO s:Nat):Int) ((2*fj s+lB:Nat):Int) ((cO s+eU:Nat):Int) (aQ (2*fj s+lB) fun _=>0) (aQ (cO s+eU) fun _=>0) w.1 w.2) (fun (c:Nat) (_:Unit)=>((c:Int),aQ ((2*fj s+lB)*(cO s+eU)) (rf s (cO s+eU) i c))) (cO s) (fun _ _=>True) (fun _=>aQ ((2*fj s+lB)*(cO s+eU)) (rf s (cO s+eU) i (cO s)))
      (fun c aY _ _=>by refine⟨(),?_,trivial⟩;obtain⟨lR,kr,oQ⟩:=vh s aY;have ajJ:=MU s h i aY;have akh:U (U ((i:Int)*((cO s+eU:Nat):Int))+((c:Nat):Int))=((i*(cO s+eU)+c:Nat):Int):=(by rw[<- Int.natCast_mul,cQ (x:=((i*(cO s+eU):Nat):Int)) (by omega) (by omega),cQ (by omega) (by omega)];omega);unfold zL;refine dW (by simp only;omega) (bq (by show _/\((c:Nat):Int)<((cO s:Nat):Int);simp only;omega) (aI (x:=⟨(gP s c:Int),nO s c⟩) (by simp only;rw[dy];exact lR) (bq (by rw[cb];simp only;omega) (aI (x:=ly s i (gP s c)) (by simp only;rw[dy];exact fN kr) ?_))));simp only;rw[akh];refine bq (by rw[cb];omega) (bq (by rw[cb,dy];omega) ?_);rw[fl (by omega),dy,dG,show nO s c*ly s i (gP s c)=l3 s i c from rfl,cQ (by omega) (by omega),ag2 s aY (by omega) (by omega) rfl])
      (fun _ _=>by unfold zL;exact eg (by simp) rfl) () trivial
     unfold zM;refine dW (by simp only;omega) (bq (by rw[cb];simp only;omega) (aI (x:=aQ s.bI.length (ly s i)) (by simp only;rw[dy];exact fN ab) (aI (x:=aQ ((2*fj s+lB)*(cO s+eU)) (rf s (cO s+eU) i (cO s))) (by unfold OS;rw[fs];exact e2) ?_)));simp only;rw[fl (by omega),ag3])
   (fun _ _=>by unfold zM;refine eg (by simp) ?_;simp only;rw[ag4]) () trivial
  rw[agj] at e;exact e
 refine aI (Sj s (by omega)) ?_;rw[EP,gu,cb];refine aI (x:=aQ (2*fj s+lB) (pr s l)) ?_ rfl;unfold OU
 obtain⟨x,e,-⟩:=h4 (f:=fun w:Int×ar=>zN l (aQ (fj s) fun q=>((iO s q:Nat):Int)) ((fj s:Nat):Int) ((2*fj s+lB:Nat):Int) ((cO s+eU:Nat):Int) (aQ ((2*fj s+lB)*(cO s+eU)) (fun x=>xi s (x / (cO s+eU)) (x % (cO s+eU)))) (aQ (cO s+eU) fun _=>0) w.1 w.2) (fun (n:Nat) (_:Unit)=>((n:Int),aQ (2*fj s+lB) fun x=>if x<2*n then pr s l x else 0)) (fj s) (fun _ _=>True) (fun _=>aQ (2*fj s+lB) (pr s l))
  (fun n aT _ _=>by
    refine⟨(),?_,trivial⟩;have cl:=VJ s aT;have re : ∀a:Nat,a<=1000->U ((2:Int)*((a:Nat):Int))=((2*a:Nat):Int):=fun a bG=>(by rw[cQ (by omega) (by omega)];omega);have x1:=aW l[2*iO s n] (List.getElem_mem (by omega));have x2:=aW l[2*iO s n+1] (List.getElem_mem (by omega));have p1:pr s l (2*n) = -l[2*iO s n]:=(by unfold pr nP;rw[dw (by omega),show 2*n / 2=n by omega,show 2*n % 2=0 by omega,Nat.add_zero,List.getD_eq_getElem?_getD,dz (by omega)];rfl);have p2:pr s l (2*n+1) = -l[2*iO s n+1]:=by unfold pr nP;rw[dw (by omega),show (2*n+1) / 2=n by omega,show (2*n+1) % 2=1 by omega,List.getD_eq_getElem?_getD,dz (by omega)];rfl
    have c2 : ∀k v,v=pr s l k->(aQ (2*fj s+lB) fun x=>if x<k then pr s l x else 0).set k v=aQ (2*fj s+lB) fun x=>if x<k+1 then pr s l x else 0:=fun k v bh=>by
     rw[kG];refine eA fun j _=> ?_;by_cases c:j=k
     ·subst c;rw[dw rfl,dw (by omega)];exact bh
     ·rw[dA c]
      by_cases cm:j<k
      ·rw[dw cm,dw (by omega)]
      ·rw[dA cm,dA (by omega)]
    unfold zN;refine dW (by simp only;omega) (bq (by rw[cb];simp only;omega) (aI (x:=((iO s n:Nat):Int)) (by simp only;rw[dy];exact fN aT) ?_));simp only;rw[re (iO s n) (by omega),re n (by omega),fl (n:=2*iO s n) (by omega),fl (n:=2*n) (by omega)];refine bq (by omega) (aI (x:=l[2*iO s n]) (by rw[dy];exact dz (by omega)) (bq (by omega) (aI (x:=l[2*iO s n+1]) (by rw[dy];exact dz (by omega)) ?_)));refine bq (by rw[cb];omega) (bq (by rw[cb,dy];omega) (bq (by rw[cb];omega) (bq (by rw[List.length_set,cb,dy];omega) ?_)));rw[fl (by omega),cQ (x:=0-l[2*iO s n]) (by omega) (by omega),cQ (x:=0-l[2*iO s n+1]) (by omega) (by omega),dy,dy,dG,dG,c2 _ _ (by rw[p1];omega),c2 _ _ (by rw[p2];omega),show 2*(n+1)=2*n+1+1 by omega])
  (fun _ _=>by unfold zN;refine eg (by simp) ?_;simp only;rw[ag5]) () trivial
 rw[Nat.mul_zero,agk] at e;exact e
theorem TY (s:c5)(h:oe s)(l:ar)(aV:l.length=2*s.cu.length)(aW:∀x∈l,-100<=x/\x<=100):
 zV s l 0 0=some ((xh s l).hq,(xh s l).fT,(xh s l).eb,(xh s l).ew,(xh s l).hy):=by
 have e:=aeG s h l aV aW 0 0 (by omega) (by omega);rw[show ((0:Nat):Int)=0 from rfl] at e
 have hA:aQ (2*fj s*cO s) (fun x=>xi s (x / cO s) (x % cO s))=aQ (2*fj s*cO s) (fun x=>l3 s (x / cO s) (x % cO s)):=eA fun x aa=>by
  have oS:0<cO s:=by
   rcases Nat.eq_zero_or_pos (cO s) with c|c
   ·rw[c,Nat.mul_zero] at aa;omega
   ·exact c
  unfold xi;rw[dw ⟨Nat.div_lt_of_lt_mul (by rw[Nat.mul_comm];exact aa),Nat.mod_lt _ oS⟩]
 have gl:aQ (2*fj s) (pr s l)=aQ (2*fj s) (nP s l):=eA fun x aa=>by unfold pr;rw[dw aa]
 rw[e];simp only[Nat.add_zero,xh];rw[hA,gl]
theorem agl {x:Rat}(h:eC x):Ez (gG x)=some (ca x):=by have p:=h.dd;have h1:=p.oF;have h2:=p.nY;refine aI (o:=Dy (lp (eQ x)).sI) (x:=gx (eQ x).1) ?_ (aI (x:=L (eQ x).2) (L3 (a:=L (eQ x).2) (by omega)) rfl);unfold Dy;exact eg (by rw[gu];show ¬(60:Int)<((L ((eQ x).1.natAbs:Int)).length:Nat);omega) (aI (x:=L ((eQ x).1.natAbs:Int)) (L3 (a:=L ((eQ x).1.natAbs:Int)) (by omega)) rfl)
theorem ahA (x:Rat):H3 (gG x)=some (gG (-x)):=by
 have e:ri (gx x.num)=some (gx (-x.num)):=by
  have:ri (gx x.num)=(mK (!(decide (x.num<0))) (L (x.num.natAbs:Int))).bind fun r=>some r:=rfl;rw[this,so (by omega)]
  have:eO (!(decide (x.num<0))) (x.num.natAbs:Int) = -x.num:=by
   unfold eO;by_cases c:x.num<0
   ·rw[decide_eq_true c];simp;omega
   ·rw[decide_eq_false c];simp;omega
  rw[this];rfl
 refine aI (o:=ri (gx x.num)) e ?_;unfold gG eQ;rw[Rat.neg_num,Rat.neg_den];rfl
theorem TZ {gi:List eD}{k:Nat}: ∀ {n:Nat},k<n->n<=gi.length-> ∃x∈l9 gi n,x.hI=(k:Int)
 | 0,h,_=>by omega
 | n+1,h,aT=>by
  rw[l9,dz (show n<gi.length by omega)];by_cases e:k=n
  ·subst e
   simp only;unfold vC;by_cases c:gi[k].jz=2
   ·exact⟨⟨(k:Int),-1⟩,by rw[List.mem_append,List.mem_append,dA (show ¬gi[k].jz=1 by omega)];exact .inr (.inr (by simp)),rfl⟩
   ·exact⟨⟨(k:Int),1⟩,by rw[List.mem_append,List.mem_append,dA c];exact .inr (.inl (by simp)),rfl⟩
  ·obtain⟨x,h1,h2⟩:=TZ (gi:=gi) (k:=k) (n:=n) (by omega) (by omega);exact⟨x,List.mem_append_left _ h1,h2⟩
theorem afK (s:c5){k:Nat}(aX:k<s.bI.length): ∃c,c<cO s/\gP s c=k:=by obtain⟨x,h1,h2⟩:=TZ aX (dD _);obtain⟨c,aY⟩:=List.getElem?_of_mem h1;have aV:c<cO s:=f5 aY;obtain⟨e,-,-⟩:=vh s aV;have e2:(gL s)[c]? = some x:=aY;rw[e2] at e;have:=dI e;rw[this] at h2;exact⟨c,aV,by simp only at h2;omega⟩
def iX (s:c5)(x:Nat->Rat)(c k:Nat):Rat:=cr c fun j=>if gP s j=k then (nO s j:Rat)*x j else 0
def s6 (s:c5)(c k:Nat):Bool:=(List.range c).any fun j=>gP s j == k
theorem agm (s:c5)(c k:Nat):s6 s (c+1) k=(s6 s c k || (gP s c == k)):=by unfold s6;rw[List.range_succ,List.any_append];simp
theorem ahB {s:c5}{x:Nat->Rat}{c k:Nat}(h:s6 s c k=false):iX s x c k=0:=by unfold s6 at h;rw[List.any_eq_false] at h;exact nh fun j aq=>dA fun e=>h j (List.mem_range.2 aq) (by rw[e];simp)
theorem ag6 (s:c5){k:Nat}(aX:k<s.bI.length):s6 s (cO s) k=true:=by obtain⟨c,h1,h2⟩:=afK s aX;unfold s6;exact List.any_eq_true.2 ⟨c,List.mem_range.2 h1,by rw[h2];simp⟩
theorem ahC {s:c5}{x:Nat->Rat}{w:Rat}{K:Nat}(aa:∀j,dm K (x j*w)): ∀ {c:Nat} (k:Nat),c<=cO s->dm (c*K) (iX s x c k*w):=fun {c} k aY=>by
 have:iX s x c k*w=cr c fun j=>(if gP s j=k then (nO s j:Rat)*x j else 0)*w:=by unfold iX;rw[Rat.mul_comm,<- jF];exact gd fun j _=>Rat.mul_comm _ _
 rw[this];refine dm.sum fun j aq=> ?_;obtain⟨-,-,e⟩:=vh s (show j<cO s by omega);split
 ·rcases e with e|e<;>rw[e]
  ·rw[show ((1:Int):Rat)*x j*w=x j*w by grind];exact aa j
  ·rw[show ((-1:Int):Rat)*x j*w = -(x j*w) by grind];exact(aa j).neg
 ·exact⟨0,by rw[Rat.zero_mul];rfl,by simp⟩
theorem ahD {x y:Rat}(aa:eC x)(aU:eC y)(h:eC (x+y)):yg (gG x) (gG y)=some (gG (x+y)):=aI (VI aa aU) (aI (ahz h) rfl)
def sL (s:c5)(x:Nat->Rat)(c:Nat):List (Option cy):=aQ s.bI.length fun k=>if s6 s c k then gG (iX s x c k) else none
theorem agn (s:c5)(v:oe s){x:Nat->Rat}(aa:∀j,eC (x j))(bC:∀c k,c<=cO s->eC (iX s x c k)):Ds s (aQ (cO s) fun j=>gG (x j))=some (aQ s.bI.length fun k=>gG (iX s x (cO s) k)):=by
 have bd:=v.2.2.2;have oS:=wH s;have aV:len_ cx s.bI=((s.bI.length:Nat):Int):=fs ..;have i7:len_ gf (gL s)=((cO s:Nat):Int):=fs ..;unfold Ds;rw[aV];refine bq (by omega) (aI (x:=gL s) (Lz s (by omega)) (aI ?_ rfl));unfold PE;rw[i7]
 obtain⟨z,e,-⟩:=h4 (f:=fun w:Int×(List (Option cy))=>z2 (aQ (cO s) fun j=>gG (x j)) (gL s) ((cO s:Nat):Int) w.1 w.2) (fun (c:Nat) (_:Unit)=>((c:Int),sL s x c)) (cO s) (fun _ _=>True) (fun _=>aQ s.bI.length fun k=>gG (iX s x (cO s) k))
  (fun c aY _ _=>by
    refine⟨(),?_,trivial⟩;obtain⟨lR,kr,oQ⟩:=vh s aY
    have fin : ∀y,y=gG (iX s x (c+1) (gP s c))->(sL s x c).set (gP s c) y=sL s x (c+1):=fun y aU=>by
     unfold sL;rw[kG];refine eA fun k _=> ?_;rw[agm];by_cases e:k=gP s c
     ·subst e;rw[dw rfl,aU];simp
     ·have e2:iX s x (c+1) k=iX s x c k:=by
       show iX s x c k+(if gP s c=k then _ else _)=_;rw[dA (fun q=>e q.symm)];grind
      rw[dA e,e2,show (gP s c == k)=false from beq_false_of_ne (fun q=>e q.symm),Bool.or_false]
    have last:iX s x (c+1) (gP s c)=iX s x c (gP s c)+(nO s c:Rat)*x c:=(by show iX s x c _+(if gP s c=gP s c then _ else _)=_;rw[dw rfl]);have hlen:(sL s x c).length=s.bI.length:=cb ..;have Wv:(sL s x c)[0+((gP s c:Nat):Int).toNat]? = some (if s6 s c (gP s c) then gG (iX s x c (gP s c)) else none):=by rw[dy];exact g9 kr
    have put : ∀ {F:Option (Option cy)->Prop} {y:Rat},y=(nO s c:Rat)*x c->eC y ->
     ((if s6 s c (gP s c) then gG (iX s x c (gP s c)) else none:Option cy).elim (if (0+((gP s c:Nat):Int).toNat)<(sL s x c).length then some (Sum.inl (U ((c:Int)+(1:Int)),(sL s x c).set (0+((gP s c:Nat):Int).toNat) (gG y))) else none)
       fun _=>yg (if s6 s c (gP s c) then gG (iX s x c (gP s c)) else none) (gG y) >>= fun dc=>if (0+((gP s c:Nat):Int).toNat)<(sL s x c).length then some (Sum.inl (U ((c:Int)+(1:Int)),(sL s x c).set (0+((gP s c:Nat):Int).toNat) dc)) else none)
     = some (Sum.inl (((c+1:Nat):Int),sL s x (c+1)):(Int×(List (Option cy)))⊕((List (Option cy)))):=fun {F y} aU X6=>by
     rw[fl (by omega),dy,dG]
     cases q:s6 s c (gP s c) with
     | false =>
      rw[dA (by simp)];show (if _ then _ else _)=_;rw[dw (by rw[hlen];exact kr),fin _ (by rw[last,ahB q,aU];congr 1;grind)]
     | true =>
      rw[dw rfl];show (yg (gG (iX s x c (gP s c))) (gG y) >>= _)=_;have bJ:eC (iX s x c (gP s c)+y):=(by rw[aU,<- last];exact bC _ _ aY);refine aI (ahD (bC _ _ (Nat.le_of_lt aY)) X6 bJ) ?_;rw[dw (by rw[hlen];exact kr),fin _ (by rw[last,aU])]
    unfold z2;simp only;refine dW (by omega) (bq (by show _/\((c:Nat):Int)<((cO s:Nat):Int);omega) (aI lR (bq (by rw[cb];omega) (aI (x:=gG (x c)) (by rw[dy];exact fN aY) ?_))));rcases oQ with e|e
    ·refine eg (by simp only;omega) (bq (by rw[hlen];simp only;omega) (aI Wv ?_));exact put (F:=fun _=>True) (by rw[e];grind) (aa c)
    ·refine dW (by simp only;omega) (aI (ahA (x c)) (bq (by rw[hlen];simp only;omega) (aI Wv ?_)));exact put (F:=fun _=>True) (by rw[e];grind) (aa c).neg)
  (fun _ _=>by unfold z2;refine eg (by simp) ?_;simp only;congr 2;exact eA fun k aX=>by rw[ag6 s aX,dw rfl]) () trivial
 have e0:sL s x 0=List.replicate (((s.bI.length:Nat):Int).toNat) none:=by rw[dy,qb];exact eA fun k _=>rfl
 rw[<- e0];exact e
theorem aeH {n:Nat}(aT:n<=40){y:Nat->Rat}(aU:∀k,k<n->eC (y k)):Er (aQ n fun k=>gG (y k))=some (aQ n (fun k=>ca (y k)),true):=by
 have aV:len_ (da 3 bF) (aQ n fun k=>gG (y k))=((n:Nat):Int):=by rw[fs,cb]
 unfold Er;rw[aV];refine bq (by omega) (aI (x:= .inl (aQ n fun k=>ca (y k))) ?_ rfl);unfold R7
 obtain⟨z,e,-⟩:=h4 (f:=fun w:Int×(List ao)=>A1 (aQ n fun k=>gG (y k)) ((n:Nat):Int) w.1 w.2) (fun (k:Nat) (_:Unit)=>((k:Int),aQ n fun j=>if j<k then ca (y j) else (⟨⟨false,[]⟩,[]⟩:ao))) n (fun _ _=>True) (fun _=>(.inl (aQ n fun k=>ca (y k)):(List ao)⊕Unit))
  (fun k aX _ _=>by
    refine⟨(),?_,trivial⟩;unfold A1;simp only;refine dW (by omega) (bq (by rw[cb];omega) (aI (x:=gG (y k)) (by rw[dy];exact fN aX) ?_));show (Ez (gG (y k)) >>= _)=_;refine aI (agl (aU k aX)) (bq (by rw[cb];omega) (bq (by rw[cb,dy];omega) ?_));rw[fl (by omega),dy,dG,kG];congr 3;refine eA fun j _=> ?_;by_cases bl:j=k
    ·subst bl;rw[dw rfl,dw (by omega)]
    ·rw[dA bl]
     by_cases cm:j<k
     ·rw[dw cm,dw (by omega)]
     ·rw[dA cm,dA (by omega)])
  (fun _ _=>by unfold A1;refine eg (by simp) ?_;simp only;congr 3;exact eA fun j aq=>by rw[dw aq]) () trivial
 have e0:(aQ n fun j=>if j<0 then ca (y j) else (⟨⟨false,[]⟩,[]⟩:ao))=List.replicate (((n:Nat):Int).toNat) ⟨⟨false,[]⟩,[]⟩:=by rw[dy,qb];exact eA fun j _=>by rw[dA (by omega)]
 rw[<- e0];exact e
structure Ww (m n:Nat) (a:Nat->Nat->Int) (b:Nat->Int) (c:Nat->Rat) (x:Nat->Rat) (w:Rat):Prop where
 my:uk m n a b c x
 pos:0<w
 pp:dm (mA 100 m) w
 X7 : ∀j,dm (mA 100 m) (x j*w)
 fit : ∀j,eC (x j)
theorem ag7 {m:Nat}(hm:m<=20):mA 100 m<=ez:=Cq▸yd (by omega) hm
theorem MJ {s:c5}{x:Nat->Rat}{w:Rat}{m:Nat}(hm:m<=20)(oS:cO s<=16)(ah:0<w)(hw:dm (mA 100 m) w)(aa:∀j,dm (mA 100 m) (x j*w)){c:Nat}(k:Nat)(aY:c<=cO s):eC (iX s x c k):=by
 have h1:=ahC aa k aY;have iG:=ag7 hm;have h2:c*mA 100 m<=16*ez:=Nat.mul_le_mul (by omega) iG;have J:16*ez<=40*(ez*100):=by omega
 exact qV (K:=21*100*(ez*ez)) (hw.mono (Nat.le_trans iG Cz)) (h1.mono (Nat.le_trans h2 (Nat.le_trans J Ni))) (by grind) (by grind) (pC (dD _))
theorem afL {α:Type}{T n:Nat}(f:Nat->α)(h:n<=T):(aQ T f).take n=aQ n f:=by
 apply List.ext_getElem?;intro i;by_cases c:i<n
 ·rw[List.getElem?_take,dw c,fN (by omega),fN c]
 ·rw[List.getElem?_take,dA c,List.getElem?_eq_none_iff.2 (by rw[cb];omega)]
theorem ago (s:c5)(v:oe s){p:kj}{m n:Nat}{a:Nat->Nat->Int}{b:Nat->Int}(h:mW p m n a b){c:Nat->Int}(oS:p.hy=aQ n c)(aY:∀j,j<n-> -100<=c j/\c j<=100)(aT:cO s<=n):
 (¬qZ m n a b/\xn s p.hq p.fT p.eb p.ew p.hy=some ([],[],false))\/(qZ m n a b/\ ¬Bounded m n a b (ib n c)/\xn s p.hq p.fT p.eb p.ew p.hy=some ([],[],false)) \/
   ∃x w r,Ww m n a b (ib n c) x w/\xn s p.hq p.fT p.eb p.ew p.hy=some (aQ s.bI.length (fun k=>gG (iX s x (cO s) k)),r,true):=by
 have bd:=v.2.2.2;have al1:=wH s;obtain⟨r,e,ai⟩:=afF h oS aY;rcases ai with ⟨q,rfl⟩|⟨q,q2,rfl⟩|⟨x,w,q,⟨iW,re,vW⟩,bP,cw,rfl⟩
 ·exact .inl ⟨q,aI e (gy rfl rfl)⟩
 ·exact .inr (.inl ⟨q,q2,aI e (gy rfl rfl)⟩)
 ·have i7:len_ gf (gL s)=((cO s:Nat):Int):=fs ..;have cl:=agn s v bP (fun c k aY=>MJ h.hm (by omega) iW re vW k aY);have key : ∃r,xn s p.hq p.fT p.eb p.ew p.hy=some (aQ s.bI.length (fun k=>gG (iX s x (cO s) k)),r,true):=(by refine⟨((aQ n fun j=>gG (x j)).drop (cO s)).take (((aQ n fun j=>gG (x j)).map (da 3 bF)).length-cO s),aI e (jc rfl (aI (x:=gL s) (Lz s (by omega)) ?_))⟩;rw[i7];simp only[dy];refine bq (by omega) (bq (by simp only[cb];omega) (aI ?_ (bq (by simp only[cb];omega) rfl)));simp only[List.drop_zero,Nat.sub_zero];rw[afL _ aT];exact cl);obtain⟨r,ai⟩:=key;exact .inr (.inr ⟨x,w,r,⟨q,iW,re,vW,bP⟩,ai⟩)
theorem Sv {m n:Nat}{a:Nat->Nat->Int}{b:Nat->Int}:Bounded m n a b (ib n fun _=>0):=⟨0,fun y _=>by
 unfold val;rw[nh fun j aq=> ?_]
 ·exact Rat.le_refl
 ·have:ib n (fun _=>0) j=0:=(by unfold ib nZ;simp only;split<;>rfl);rw[this];grind⟩
theorem agp (s:c5)(v:oe s){l:ar}(ok:xW s l=some true)(aV:l.length=2*s.cu.length)(aW:∀x∈l,-100<=x/\x<=100):
 (¬qZ (2*fj s) (cO s) (l3 s) (nP s l)/\uU s l=some ([],false)) \/
   ∃x w,Ww (2*fj s) (cO s) (l3 s) (nP s l) (ib (cO s) fun _=>0) x w/\uU s l=some (aQ s.bI.length (fun k=>ca (iX s x (cO s) k)),true):=by
 have bd:=v.2.2.2;have oS:=wH s;have ah:=VK s v l aW;unfold uU;rcases ago s v ah (c:=fun _=>0) rfl (fun j _=>by omega) (dD _) with ⟨q,e⟩|⟨q,q2,e⟩|⟨x,w,r,q,e⟩
 ·exact .inl ⟨q,aI ok (gy rfl (aI (TY s v l aV aW) (aI e (jc rfl rfl))))⟩
 ·exact(q2 Sv).elim
 ·refine .inr ⟨x,w,q,aI ok (gy rfl (aI (TY s v l aV aW) (aI e (gy rfl (aI (aeH (by omega) fun k _=>MJ ah.hm (by omega) q.pos q.pp q.X7 k (dD _)) rfl)))))⟩
theorem ada {zJ:Nat}{l:ar}(h:vq zJ l=true):l.length=2*zJ/\ ∀x∈l,-100<=x/\x<=100:=by unfold vq at h;rw[dL,decide_eq_true_eq,List.all_eq_true] at h;exact⟨h.1,fun x aa=>by have:=h.2 x aa;unfold sA at this;simpa using this⟩
theorem aeI (s:c5)(i0:pv s)(l:ar)(aV:l.length<=maxLen):
 (xU s l=some true/\xW s l=some true/\nQ s=some true/\vq s.cu.length l=true)\/(xU s l=some false/\xW s l=some false):=by
 obtain⟨p,p1,p2⟩:=KI s i0;have tS:p=true->s.cu.length<=6:=fun h=>(Dz s i0 (h▸p1)).2.2.1;have e:=aew s p p1 tS l aV
 cases p with
 | false=>exact .inr ⟨e,aI p2 (jc rfl rfl)⟩
 | true =>
  rw[Bool.true_and] at e;have e2:xW s l=some (vq s.cu.length l):=aI p2 (gy rfl (aI (ac5 s (tS rfl) l aV) rfl));by_cases c:vq s.cu.length l=true
  ·rw[c] at e e2;exact .inl ⟨e,e2,p1,c⟩
  ·rw[Bool.not_eq_true] at c;rw[c] at e e2;exact .inr ⟨e,e2⟩
theorem ag8 {x y:Rat}(aa:eC x)(aU:eC y)(h:eC (x+y)):HD (ca x) (ca y)=some (ca (x+y)):=aI (wG aa) (gy rfl (aI (wG aU) (gy rfl (aI (E8 aa aU h) rfl))))
theorem ag9 {x y:Rat}(aa:eC x)(aU:eC y)(h:eC (x + -y)):HE (ca x) (ca y)=some (ca (x + -y)):=aI (wG aa) (gy rfl (aI (wG aU) (gy rfl (aI (IH aU) (aI (E8 aa aU.neg h) rfl)))))
theorem Uz {n:Nat}(aT:n<=1000){y:Nat->Rat}(aU:∀k,k<n->eC (y k)):s9 (aQ n fun k=>ca (y k))=some true:=by
 have aV:len_ aA (aQ n fun k=>ca (y k))=((n:Nat):Int):=by rw[fs,cb]
 unfold s9;rw[aV];refine aI (x:= .inl ()) ?_ rfl;unfold KH
 obtain⟨_,e,-⟩:=h4 (f:=fun w:Int=>uT (aQ n fun k=>ca (y k)) ((n:Nat):Int) w) (fun (k:Nat) (_:Unit)=>(k:Int)) n (fun _ _=>True) (fun _=>(.inl ():Unit⊕Unit))
  (fun k aX _ _=>by refine⟨(),?_,trivial⟩;unfold uT;exact dW (by omega) (bq (by rw[cb];omega) (aI (gt rfl (fN aX)) (aI (wG (aU k aX)) (gy rfl (by rw[fl (by omega)]))))))
  (fun _ _=>by unfold uT;exact eg (by omega) rfl) () trivial
 exact e
theorem aeJ {n:Nat}(aT:n<=24):Dx (n:Int)=some (.inl (aQ n fun _=>ca 0)):=by
 have fL:Hu=some (ca 0):=aI (ry (n:=0) (kT.2 (by omega))) rfl;unfold Dx;refine aI (ui _ _ _) (gy (decide_eq_true (by omega)) (aI (x:=aQ n fun _=>ca 0) ?_ rfl));unfold Hg QD
 obtain⟨_,e,-⟩:=h4 (f:=fun w:(List ao)=>Ar (n:Int) w) (fun (k:Nat) (_:Unit)=>aQ k fun _=>ca (0:Rat)) n (fun _ _=>True) (fun _=>aQ n fun _=>ca (0:Rat))
  (fun k aX _ _=>by refine⟨(),?_,trivial⟩;unfold Ar;refine dW (by rw[cb];omega) (aI fL (bq (by simp only[dF,cb,List.length_singleton];omega) ?_));rw[kE k])
  (fun _ _=>by unfold Ar;exact eg (by rw[cb];omega) rfl) () trivial
 exact aI e rfl
theorem afM (s:c5)(v:oe s)(ok:nQ s=some true){x:Nat->Rat}(aa:∀j,eC (x j))(bC:∀c k,c<=cO s->eC (iX s x c k)):Dv s (aQ (cO s) fun j=>ca (x j))=some (aQ s.bI.length (fun k=>ca (iX s x (cO s) k)),true):=by
 have bd:=v.2.2.2;have oS:=wH s;have hw:xK s=some (aQ (cO s) (fun c=>((gP s c:Nat):Int)),aQ (cO s) (nO s)):=by rw[<- Vb,<- Vc];exact Sk s (by omega)
 unfold Dv;refine aI ok (gy rfl (aI hw ?_));simp only;rw[fs,gu,fs,cb,cb];refine jc (Ge rfl) (aI (Uz (by omega) fun k _=>aa k) (gy rfl (aI (aeJ (by omega)) ?_)));simp only;refine aI (x:=aQ s.bI.length fun k=>ca (iX s x (cO s) k)) ?_ (aI (Uz (by omega) fun k _=>bC _ k (dD _)) (gy rfl rfl));unfold PR
 obtain⟨_,e,-⟩:=h4 (f:=fun w:Int×(List ao)=>z4 (aQ (cO s) fun j=>ca (x j)) (aQ (cO s) (nO s)) (aQ (cO s) fun c=>((gP s c:Nat):Int)) ((cO s:Nat):Int) w.1 w.2) (fun (c:Nat) (_:Unit)=>((c:Int),aQ s.bI.length fun k=>ca (iX s x c k))) (cO s) (fun _ _=>True) (fun _=>aQ s.bI.length fun k=>ca (iX s x (cO s) k))
  (fun c aY _ _=>by
    refine⟨(),?_,trivial⟩;obtain⟨-,cm,j5⟩:=vh s aY
    have pn : ∀z,z=iX s x (c+1) (gP s c)->(aQ s.bI.length fun k=>ca (iX s x c k)).set (0+((gP s c:Nat):Int).toNat) (ca z)=aQ s.bI.length fun k=>ca (iX s x (c+1) k):=fun z cC=>by
     rw[dy,dG,kG];refine eA fun k _=> ?_;by_cases e:k=gP s c
     ·rw[dw e,cC,e]
     ·rw[dA e];congr 1;unfold iX;rw[cr,dA fun y=>e y.symm,Rat.add_zero]
    have fa:iX s x (c+1) (gP s c)=iX s x c (gP s c)+(nO s c:Rat)*x c:=(by unfold iX;rw[cr,dw rfl]);have f1:=bC c (gP s c) (by omega);have f2:=bC (c+1) (gP s c) (by omega);simp only;unfold z4;refine dW (by omega) (bq (by rw[cb];omega) (aI (gt rfl (fN aY)) (bq (by rw[cb];omega) (aI (gt rfl (fN aY)) ?_))));have rd:(aQ s.bI.length fun k=>ca (iX s x c k))[0+((gP s c:Nat):Int).toNat]? = some (ca (iX s x c (gP s c))):=(by rw[dy];exact g9 cm);rcases j5 with e|e
    ·have bJ:iX s x c (gP s c)+x c=iX s x (c+1) (gP s c):=(by rw[fa,e,show ((1:Int):Rat)=1 from rfl,Rat.one_mul]);rw[e];refine dW (by omega) (bq (by rw[cb];omega) (aI rd (bq (by rw[cb];omega) (aI (gt rfl (fN aY)) (aI (ag8 f1 (aa c) (by rw[bJ];exact f2)) (bq (by rw[cb,dy];omega) ?_))))));rw[pn _ bJ,fl (by omega)]
    ·have bJ:iX s x c (gP s c) + -x c=iX s x (c+1) (gP s c):=(by rw[fa,e,show ((-1:Int):Rat) = -1 from rfl];grind);rw[e];refine eg (by omega) (bq (by rw[cb];omega) (aI rd (bq (by rw[cb];omega) (aI (gt rfl (fN aY)) (aI (ag9 f1 (aa c) (by rw[bJ];exact f2)) (bq (by rw[cb,dy];omega) ?_))))));rw[pn _ bJ,fl (by omega)])
  (fun _ _=>by simp only;unfold z4;exact eg (by omega) rfl) () trivial
 have e0:(aQ s.bI.length fun k=>ca (iX s x 0 k))=aQ s.bI.length fun _=>ca 0:=eA fun k _=>rfl;rw[e0] at e;exact e
theorem adb (s:c5)(i0:pv s)(l:ar)(aV:l.length<=maxLen):
 (Bg s l=some ([],false)/\uU s l=some ([],false))\/ ∃z:Nat->Rat,(∀k,eC (z k))/\s.bI.length<=8/\Bg s l=some (aQ s.bI.length (fun k=>ca (z k)),true)/\uU s l=some (aQ s.bI.length (fun k=>ca (z k)),true):=by
 unfold Bg;rcases aeI s i0 l aV with ⟨e1,e2,h,aW⟩|⟨e1,e2⟩;rotate_left
 ·exact .inl ⟨aI e1 (jc rfl rfl),by unfold uU;exact aI e2 (jc rfl rfl)⟩
 have v:=abI s i0 h;have bd:=v.2.2.2;have aP:=v.2.2.1;have oS:=wH s;have vV:=yU s;obtain⟨X8,oH⟩:=ada aW;have ah:=VK s v l oH;have X9:=acq s v l X8 oH;obtain⟨r,e,ai⟩:=aeF ah (c:=fun _=>0) rfl (fun j _=>by omega);rcases agp s v e2 X8 oH with ⟨no,r6⟩|⟨x,w,q,r6⟩
 ·rcases ai with ⟨-,rfl⟩|⟨OH,-,-⟩|⟨y,my,-⟩
  ·exact .inl ⟨aI e1 (gy rfl (aI X9 (aI e (gy rfl rfl)))),r6⟩
  ·exact(no OH).elim
  ·exact(no ⟨y,my.1⟩).elim
 ·have f:=fun c k (aY:c<=cO s)=>MJ (s:=s) ah.hm (by omega) q.pos q.pp q.X7 k aY
  rcases ai with ⟨no,-⟩|⟨-,aki,-⟩|⟨y,my,X6,-,rfl⟩
  ·exact(no ⟨x,q.my.1⟩).elim
  ·exact(aki Sv).elim
  ·refine .inr ⟨fun k=>iX s x (cO s) k,fun k=>f _ k (dD _),bd,?_,r6⟩;have un:=(my.unique q.my).1;have e3:(aQ (cO s) fun j=>ca (y j))=aQ (cO s) fun j=>ca (x j):=eA fun j aq=>(by rw[un j aq]);refine aI e1 (gy rfl (aI X9 (aI e (jc rfl ?_))));simp only;rw[e3];exact aI (afM s v h q.fit f) rfl
theorem aha {x:Rat}(h:eC x):E7 (ca x):=by have p:=h.dd;have h1:=p.oF;have h2:=p.nY;exact⟨show (L (eQ x).1.natAbs).length<=_ by omega,show (L (eQ x).2).length<=_ by omega⟩
theorem ade (s:c5)(i0:pv s)(l:ar)(aV:l.length<=maxLen)(w:ar)(hw:w.length<=maxLen): ∃r,Em s l w=some r/\Es s l w=some r:=by
 unfold Em Es Hb Hc;rcases adb s i0 l aV with ⟨e1,e2⟩|⟨z,vQ,bd,e1,e2⟩
 ·exact⟨false,aI (aI e1 (jc rfl rfl)) rfl,aI (aI e2 (jc rfl rfl)) rfl⟩
 ·obtain⟨r,r1,r2⟩:=acm s i0 (aQ s.bI.length fun k=>ca (z k)) (by rw[cb];omega) (fun q aZ=>by
   obtain⟨i,-,rfl⟩:=Mi.1 aZ;exact aha (vQ i)) w hw
  cases r with
  | false=>exact⟨false,aI (aI e1 (gy rfl (aI r1 (jc rfl rfl)))) rfl,aI (aI e2 (gy rfl (aI r2 (jc rfl rfl)))) rfl⟩
  | true=>exact⟨true,aI (aI e1 (gy rfl (aI r1 (gy rfl rfl)))) rfl,aI (aI e2 (gy rfl (aI r2 (gy rfl rfl)))) rfl⟩
theorem ZL (x0:c5)(x1 x2:ar)(i0:pv x0)(i1:(fun l=>l.length<=maxLen/\ ∀x∈l,mS x) x1)(i2:(fun l=>l.length<=maxLen/\ ∀x∈l,mS x) x2):Hd x0 x1 x2=some true:=by
 unfold Hd;rw[gu,gu];by_cases h1:(1048576:Int)<(x1.length:Nat)
 ·exact dW h1 rfl
 by_cases h2:(1048576:Int)<(x2.length:Nat)
 ·exact eg h1 (dW h2 rfl)
 refine eg h1 (eg h2 ?_);obtain⟨r,r1,r2⟩:=abl x0 i0 1048576 (by omega) (by omega);refine aI r1 ?_;by_cases J:r<0
 ·exact dW J rfl
 obtain⟨hi,hn⟩:=r2 (by omega);obtain⟨q,q1,q2⟩:=ade x0 i0 x1 i1.1 x2 i2.1;exact eg J (aI (abm x0 hi hn) (aI (SP x1 (by omega)) (aI (SP x2 (by omega)) (aI q1 (aI q2 (gy (by simp) (aI (abk x0 hi hn) (gy rfl (aI (SN x1 (by omega)) (gy rfl (aI (SN x2 (by omega)) (gy rfl rfl))))))))))))
structure Jc (K:Nat) (z:Nat->Rat) (w:Rat):Prop where
 pos:0<w
 pp:dm K w
 akj : ∀k,dm K (z k*w)
 ajK:1000*K<=21*100*(ez*ez)
theorem Jc.fit {K:Nat}{z:Nat->Rat}{w x:Rat}(h:Jc K z w){a:Nat}(bG:a<=1000)(aa:dm (a*K) (x*w)):eC x:=by have ah:=h.pos;have h1:=h.ajK;have h2:a*K<=1000*K:=dM _ bG;exact qV (K:=21*100*(ez*ez)) (h.pp.mono (by omega)) (aa.mono (by omega)) (by grind) (by grind) (pC (dD _))
theorem dm.int {z:Int}{K:Nat}(h:z.natAbs<=K):dm K (z:Rat):=⟨z,rfl,h⟩
theorem Jc.fits {K:Nat}{z:Nat->Rat}{w:Rat}(h:Jc K z w){n:Nat}(aT:n<=8){e:Nat->Int}(he:∀k,-100<=e k/\e k<=100){f:Int}(cl:-100<=f/\f<=100):eC (cr n (fun k=>z k*(e k:Rat))+(f:Rat)):=h.fit (a:=n*100+100) (by omega) (by
 have e1:(cr n (fun k=>z k*(e k:Rat))+(f:Rat))*w=cr n (fun k=>(e k:Rat)*(z k*w))+(f:Rat)*w:=by rw[Rat.add_mul,<- u3];congr 1;exact gd fun k _=>by grind
 rw[e1,Nat.add_mul];refine dm.add ?_ ((dm.int (by omega)).mul h.pp);rw[Nat.mul_assoc];exact dm.sum fun k _=>(dm.int (by have:=he k;omega)).mul (h.akj k))
def OG (m:eD):Int:=if m.jz=1 then 1 else if m.jz=2 then -1 else 0
end Go.Proofs.YtpelegphlhbadaaGreat
