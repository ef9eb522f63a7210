/- Lemmas, plain functions of the program, and what they answer. No condition. -/
import Derived.Test.YthgbjflfgmahbaeGreatME
namespace Go.Proofs.YthgbjflfgmahbaeGreat
set_option linter.unusedVariables false
set_option linter.unusedSimpArgs false
open Go Go.VL
theorem Of {n:Int}(h:0<=n):L n=[]↔n=0:=by
 rw[<- HS h];constructor
 ·intro e;rw[e];rfl
 intro e;exact List.eq_nil_of_length_eq_zero (by omega)
def mS:aqm->Nat->List Nat
 | [],_=>[]
 | x::l,n=>if x.iA then mS l (n+1) else n::mS l (n+1)
theorem Oy : ∀(l:aqm) (n i:Nat),i∈mS l n->n<=i/\i<n+l.length
 | [],n,i,h=>by simp[mS] at h
 | x::l,n,i,h=>by
  rw[mS] at h;simp only[dI];split at h
  ·have:=Oy l (n+1) i h;omega
  rcases dS.1 h with h|h
  ·omega
  have:=Oy l (n+1) i h;omega
theorem Xm : ∀(l:aqm) (n:Nat),(mS l n).length<=l.length
 | [],n=>by simp[mS]
 | x::l,n=>by rw[mS];have:=Xm l (n+1);split<;>simp only[dI]<;>omega
theorem ag0 {l:aqm}{n:Nat}{x:cS}(h:l[n]? = some x)(m:Nat):mS (l.drop n) m=if x.iA then mS (l.drop (n+1)) (m+1) else m::mS (l.drop (n+1)) (m+1):=by rw[Xc h,mS]
theorem WR {f:Int×ar->Option ((Int×ar)⊕ar)}(jj:aqm)(va:jj.length<=1000)
 (h : ∀(n:Nat) acc x,jj[n]? = some x->f ((n:Int),acc)=if x.iA=true then some (.inl (R ((n:Int)+1),acc)) else if (acc++[(n:Int)]).length*8<=140737488355328 then some (.inl (R ((n:Int)+1),acc++[(n:Int)])) else none)
 (he : ∀acc,f ((jj.length:Int),acc)=some (.inr acc)):iter f ((0:Int),[])=some ((mS jj 0).map (fun n:Nat=>(n:Int))):=by
 obtain⟨s,h1,h2⟩:=ix (fun (n:Nat) (acc:ar)=>((n:Int),acc)) jj.length (fun n acc=>acc++(mS (jj.drop n) n).map (fun n:Nat=>(n:Int))=(mS jj 0).map (fun n:Nat=>(n:Int))/\acc.length<=n) (fun acc=>acc) (f:=f) (fun n aU acc c4=>by
  obtain⟨c4,aR⟩:=c4;have U:=dz aU;rw[ag0 U] at c4;rw[h n acc _ U,p6 (by omega)];by_cases c:jj[n].iA=true
  ·rw[dw c] at c4 ⊢;exact⟨_,rfl,c4,by omega⟩
  rw[dA c] at c4 ⊢;rw[dw (by simp only[dE,dI,dQ];omega)];refine⟨_,rfl,?_,by simp only[dE,dI,dQ];omega⟩;rw[List.append_assoc];exact c4) (fun acc _=>he acc) [] ⟨by rw[List.drop_zero];rfl,by simp⟩
 obtain⟨h2,-⟩:=h2;rw[List.drop_length] at h2;simp only[mS,List.map_nil,List.append_nil] at h2;subst h2;exact h1
theorem N1 (s:c6)(va:s.cv.length<=1000):zm s=some ((mS s.cv 0).map (fun n:Nat=>(n:Int))):=by
 unfold zm Ul
 rw[fj,WR s.cv va (fun n acc x U=>by
  have aU:=f6 U;unfold Fo;exact fh (d9 (aI (gt rfl U) rfl))) (fun acc=>by
  unfold Fo;exact fs rfl)]
 rfl
theorem Vb (s:c6)(va:s.cv.length<=1000):BJ s=some ((mS s.cv 0).map (fun n:Nat=>(n:Int))):=by
 unfold BJ Ro
 rw[fj,WR s.cv va (fun n acc x U=>by
  have aU:=f6 U;unfold Fb;exact fh (d9 (aI (gt rfl U) rfl))) (fun acc=>by
  unfold Fb;exact fs rfl)]
 rfl
def hlen:bB->Nat
 | none=>0
 | some (_,c)=>c
def lC:bB->List Nat
 | none=>[]
 | some (q,_)=>[q]
def s6 (x:en):List Nat:=lC x.cJ.bP++lC x.dl
def s7 (P:aql):bB->Int->aql
 | none,_=>P
 | some (q,c),k=>P.set q (marks k c)
structure oe (rw:aqp) (P:aql):Prop where
 ok : ∀(i:Nat) x,rw[i]? = some x->E1 P x
 lt : ∀(i:Nat) x,rw[i]? = some x-> ∀a∈s6 x,a<P.length
 Mg : ∀(i:Nat) x,rw[i]? = some x-> ∀a∈lC x.cJ.bP,a ∉ lC x.dl
 aaW : ∀(i j:Nat) x y,rw[i]? = some x->rw[j]? = some y->i<j-> ∀a∈s6 x,a ∉ s6 y
theorem G2 {P:aql}{h:bB}{k:Int}{q:Nat}(a1:q ∉ lC h):(s7 P h k)[q]? = P[q]? := by
 cases h with
 | none=>rfl
 | some p =>
  obtain⟨a,c⟩:=p;simp only[lC,List.mem_singleton] at a1;simp only[s7];rw[apT,dA (fun e=>a1 e.symm)]
theorem Xn {P:aql}{q c:Nat}{k:Int}(h:q<P.length):(s7 P (some (q,c)) k)[q]? = some (marks k c):=by simp only[s7];rw[apT,dw rfl,dw h]
theorem OO {P:aql}{h:bB}{k:Int}:(s7 P h k).length=P.length:=by
 cases h with
 | none=>rfl
 | some p=>exact List.length_set ..
theorem K0 {P:aql}{h c1:bB}{k:Int}(g:nW P h)(gV:nW P c1):nW (s7 P h k) c1:=by
 cases h with
 | none=>exact gV
 | some p =>
  obtain⟨q,c⟩:=p;obtain⟨x,h1,h2,J⟩:=g;exact gV.set h1 (by rw[zG,h2])
theorem WS {P:aql}{h:bB}{k:Int}(e:∀q c,h=some (q,c)->P[q]? = some (marks k c)):iM P h=marks k (hlen h):=by
 cases h with
 | none=>rfl
 | some p =>
  obtain⟨q,c⟩:=p;have:=e q c rfl;simp only[iM,hlen,dO,this,Option.getD_some];exact apW (Nat.le_of_eq (zG ..))
def rL (s:Int×aql)(x:en):Int×aql:=(s.1+1+hlen x.cJ.bP+hlen x.dl,s7 (s7 s.2 x.cJ.bP (s.1+1)) x.dl (s.1+1+hlen x.cJ.bP))
def jE (rw:aqp)(s:Int×aql):Nat->Int×aql
 | 0=>s
 | i+1=>match rw[i]? with
  | some x=>rL (jE rw s i) x
  | none=>jE rw s i
theorem GR {rw:aqp}{s:Int×aql}{i:Nat}{x:en}(h:rw[i]? = some x):jE rw s (i+1)=rL (jE rw s i) x:=by rw[jE,h]
def qY (rw:aqp)(s:Int×aql)(i:Nat):aqp:=rw.mapIdx fun j x=>if j<i then ⟨⟨(jE rw s j).1.tmod 3 == 0,x.cJ.bP⟩,x.dl⟩ else x
theorem xW {rw:aqp}{s:Int×aql}{i j:Nat}{x:en}(h:rw[j]? = some x):(qY rw s i)[j]? = some (if j<i then ⟨⟨(jE rw s j).1.tmod 3 == 0,x.cJ.bP⟩,x.dl⟩ else x):=by unfold qY;rw[List.getElem?_mapIdx,h];rfl
theorem tA {rw:aqp}{s:Int×aql}{i:Nat}:(qY rw s i).length=rw.length:=by unfold qY;rw[List.length_mapIdx]
theorem ajz {rw:aqp}{s:Int×aql}{i:Nat}{x:en}(h:rw[i]? = some x):(qY rw s i).set i ⟨⟨(jE rw s i).1.tmod 3 == 0,x.cJ.bP⟩,x.dl⟩=qY rw s (i+1):=by
 apply ap1;intro j;rw[apT];by_cases c:i=j
 ·subst c;rw[dw rfl,dw (by rw[tA];exact f6 h),xW h,dw (by omega)]
 rw[dA c];by_cases ay:j<rw.length
 ·have U:=dz ay
  rw[xW U,xW U];by_cases d:j<i
  ·rw[dw d,dw (by omega)]
  rw[dA d,dA (by omega)]
 rw[dR (by rw[tA];omega),dR (by rw[tA];omega)]
theorem aiQ {rw:aqp}{s:Int×aql}:qY rw s 0=rw:=by
 apply ap1;intro j;by_cases ay:j<rw.length
 ·have U:=dz ay;rw[xW U,dA (by omega),U]
 rw[dR (by rw[tA];omega),dR (by omega)]
theorem G3 {P:aql}{h:bB}(g:nW P h):hlen h<=1048576:=by
 cases h with
 | none=>exact Nat.zero_le _
 | some p=>obtain⟨q,c⟩:=p;obtain⟨x,h1,h2,J⟩:=g;exact J
theorem K1 {rw:aqp}{P:aql}(o:oe rw P){k:Int}(h0:0<=k): ∀n,n<=rw.length->0<=(jE rw (k,P) n).1/\(jE rw (k,P) n).1<=k+2097153*n/\(jE rw (k,P) n).2.length=P.length/\ ∀h,nW P h->nW (jE rw (k,P) n).2 h:=by
 intro n
 induction n with
 | zero=>intro _;exact⟨h0,by simp only[jE];omega,rfl,fun h g=>g⟩
 | succ n ih =>
  intro aU;obtain⟨gh,gi,bm,er⟩:=ih (by omega);have U:=dz (show n<rw.length by omega);obtain⟨g1,g2⟩:=o.ok n _ U;rw[GR U];have ko:=G3 g1;have lq:=G3 g2;refine⟨by simp only[rL];omega,by simp only[rL];omega,by simp only[rL,OO,bm],fun h g=> ?_⟩;simp only[rL];exact K0 (K0 (er _ g1) (er _ g2)) (K0 (er _ g1) (er _ g))
theorem OP {P:aql}{k:Int}{h:bB}(gQ:nW P h)(h0:0<=k)(a2:k<=500000000000000000):
 (h=none/\xH [] k=some k)\/ ∃j c x,h=some (j,c)/\P[j]? = some x/\xF k 0 c x=some (k+(c:Int),marks k c):=by
 cases h with
 | none=>exact .inl ⟨rfl,afV k⟩
 | some p =>
  obtain⟨j,c⟩:=p;obtain⟨x,h1,h2,J⟩:=gQ;subst h2;exact .inr ⟨j,x.length,x,rfl,h1,afA h0 (by omega)⟩
theorem afB {rw:aqp}{P:aql}(o:oe rw P){k:Int}(h0:0<=k)(h:k+2097153*rw.length<=400000000000000000):
 C7 k rw P=some ((jE rw (k,P) rw.length).1,qY rw (k,P) rw.length,(jE rw (k,P) rw.length).2):=by
 obtain⟨_,e,-⟩:=ix (f:=fun w:Int×Int×aqp×aql=>B9 w.1 w.2.1 w.2.2.1 w.2.2.2)
  (fun (i:Nat) (_:Unit)=>((jE rw (k,P) i).1,(i:Int),qY rw (k,P) i,(jE rw (k,P) i).2)) rw.length (fun _ _=>True) (fun _=>((jE rw (k,P) rw.length).1,qY rw (k,P) rw.length,(jE rw (k,P) rw.length).2))
  (fun i aa _ _=>by
    refine⟨(),?_,trivial⟩;obtain⟨gh,gi,bm,er⟩:=K1 o h0 i (by omega);have U:=dz aa;generalize rw[i]=x at U;obtain⟨g1,g2⟩:=o.ok i x U;have ko:=G3 g1;have iW:=er _ g1;have jM:=er _ g2;have aj:(qY rw (k,P) i)[i]? = some x:=(by rw[xW U,dA (by omega)]);have hw:R ((jE rw (k,P) i).1+1)=(jE rw (k,P) i).1+1:=cG (by omega) (by omega);have bM:=ajz (s:=(k,P)) U;have yf:(qY rw (k,P) (i+1))[i]? = some ⟨⟨(jE rw (k,P) i).1.tmod 3 == 0,x.cJ.bP⟩,x.dl⟩:=(by rw[xW U,dw (by omega)]);rw[GR U];generalize jE rw (k,P) i=s at *;obtain⟨ea,Q⟩:=s;simp only at gh gi bm er iW jM hw yf bM;simp only;unfold B9;rw[hw,i1 (by omega)];refine mh (by rw[tA];omega) (cz (by rw[tA];omega) (aI (x:=x) (by rw[dy,dG];exact aj) ?_));rw[dy,dG,bM];refine aI yf ?_;simp only;rcases OP iW (k:=ea+1) (by omega) (by omega) with ⟨e1,q1⟩|⟨j,c,y,e1,q1,q2⟩
    ·refine QV e1 (aI q1 ?_)
     rcases OP jM (k:=ea+1) (by omega) (by omega) with ⟨e2,r1⟩|⟨jx,ez,nA,e2,r1,r2⟩
     ·exact QV e2 (aI r1 (by simp only[rL,e1,e2,hlen,s7,Int.add_zero,Int.ofNat_zero,Int.natCast_zero]))
     exact QW e2 (aI r1 (aI r2 (by simp only[rL,e1,e2,hlen,s7,Int.add_zero,Int.ofNat_zero,Int.natCast_zero])))
    refine QW e1 (aI q1 (aI q2 ?_));have pP:=K0 (k:=ea+1) iW jM;rw[e1] at pP ko;simp only[s7] at pP;simp only[hlen] at ko;rcases OP pP (k:=ea+1+(c:Int)) (by omega) (by omega) with ⟨e2,r1⟩|⟨jx,ez,nA,e2,r1,r2⟩
    ·exact QV e2 (aI r1 (by simp only[rL,e1,e2,hlen,s7,Int.add_zero,Int.ofNat_zero,Int.natCast_zero]))
    exact QW e2 (aI r1 (aI r2 (by simp only[rL,e1,e2,hlen,s7]))))
  (fun _ _=>by simp only;unfold B9;exact l4 (by rw[tA];omega) rfl) () trivial
 simp only[aiQ,jE] at e;unfold C7 Tq;exact aI e rfl
theorem aiR {rw:aqp}{P:aql}(o:oe rw P){k:Int}{i:Nat}{x:en}(U:rw[i]? = some x): ∀n,i<n->n<=rw.length ->
 (∀q c,x.cJ.bP=some (q,c)->(jE rw (k,P) n).2[q]? = some (marks ((jE rw (k,P) i).1+1) c))/\(∀q c,x.dl=some (q,c)->(jE rw (k,P) n).2[q]? = some (marks ((jE rw (k,P) i).1+1+hlen x.cJ.bP) c)):=by
 intro n
 induction n with
 | zero=>intro h;omega
 | succ n ih =>
  intro h1 h2;by_cases c:i=n
  ·subst c
   rw[GR U]
   have aR:(jE rw (k,P) i).2.length=P.length:=by
    have key : ∀m,(jE rw (k,P) m).2.length=P.length:=by
     intro m
     induction m with
     | zero=>rfl
     | succ m ih =>
      rw[jE];split
      ·simp only[rL,OO,ih]
      exact ih
    exact key i
   refine⟨fun q c e=> ?_,fun q c e=> ?_⟩
   ·have a1:q∈lC x.cJ.bP:=(by rw[e];simp[lC]);simp only[rL];rw[G2 (o.Mg i x U q a1),e,Xn (by rw[aR];exact o.lt i x U q (List.mem_append_left _ a1))]
   have a1:q∈lC x.dl:=(by rw[e];simp[lC]);simp only[rL];rw[e,Xn (by rw[OO,aR];exact o.lt i x U q (List.mem_append_right _ a1))]
  obtain⟨e1,e2⟩:=ih (by omega) (by omega);have aV:=dz (show n<rw.length by omega);have bD:=o.aaW i n x _ U aV (by omega);rw[GR aV];refine⟨fun q c e=> ?_,fun q c e=> ?_⟩
  ·have a1:q∈s6 x:=List.mem_append_left _ (by rw[e];simp[lC]);have:=bD q a1;unfold s6 at this;rw[List.mem_append,not_or] at this;simp only[rL];rw[G2 this.2,G2 this.1];exact e1 q c e
  have a1:q∈s6 x:=List.mem_append_right _ (by rw[e];simp[lC]);have:=bD q a1;unfold s6 at this;rw[List.mem_append,not_or] at this;simp only[rL];rw[G2 this.2,G2 this.1];exact e2 q c e
theorem VH {rw:aqp}{P:aql}(o:oe rw P){k:Int}(h0:0<=k)(h:k+2097153*rw.length<=400000000000000000):
 wq ((qY rw (k,P) rw.length).map (kQ (jE rw (k,P) rw.length).2)) k=some (jE rw (k,P) rw.length).1:=by
 obtain⟨_,e,-⟩:=ix (f:=fun w:Int×Int=>Cn ((qY rw (k,P) rw.length).map (kQ (jE rw (k,P) rw.length).2)) w.1 w.2)
  (fun (i:Nat) (_:Unit)=>((jE rw (k,P) i).1,(i:Int))) rw.length (fun _ _=>True) (fun _=>(.inl (jE rw (k,P) rw.length).1:Int⊕Unit))
  (fun i aa _ _=>by refine⟨(),?_,trivial⟩;obtain⟨gh,gi,-,-⟩:=K1 o h0 i (by omega);have U:=dz aa;generalize rw[i]=x at U;obtain⟨g1,g2⟩:=o.ok i x U;have ko:=G3 g1;have lq:=G3 g2;obtain⟨kN,j3⟩:=aiR o (k:=k) U rw.length (by omega) (dD _);have v1:=WS kN;have v2:=WS j3;rw[GR U];have aj:((qY rw (k,P) rw.length).map (kQ (jE rw (k,P) rw.length).2))[i]? = some ⟨⟨(jE rw (k,P) i).1.tmod 3 == 0,marks ((jE rw (k,P) i).1+1) (hlen x.cJ.bP)⟩,marks ((jE rw (k,P) i).1+1+hlen x.cJ.bP) (hlen x.dl)⟩:=(by rw[dK,xW U,dw aa];simp only[apR,kQ,v1,v2]);generalize jE rw (k,P) i=s at *;obtain⟨ea,Q⟩:=s;simp only at gh gi aj;simp only;unfold Cn;rw[fj,ap4,tA,i1 (by omega),cG (x:=ea+1) (by omega) (by omega)];exact fh (d9 (aI (gt rfl aj) (gH (by simp) (aI (U1 (by omega) (by omega)) (fs (aI (U1 (by omega) (by omega)) (fs rfl))))))))
  (fun _ _=>by simp only;unfold Cn;rw[fj,ap4,tA];exact fs rfl) () trivial
 simp only[jE] at e;unfold wq Ui;exact aI e rfl
theorem akk {rw:aqp}{P:aql}(o:oe rw P){k:Int}(h0:0<=k):(qY rw (k,P) rw.length).all (vv (jE rw (k,P) rw.length).2)=true:=by rw[List.all_eq_true];intro y aV;obtain⟨i,aa⟩:=ap6 aV;have aR:=f6 aa;rw[tA] at aR;have U:=dz aR;rw[xW U,dw aR] at aa;obtain rfl:=dJ aa;obtain⟨g1,g2⟩:=o.ok i _ U;obtain⟨-,-,-,er⟩:=K1 o h0 rw.length (dD _);exact E1.IP ⟨er _ g1,er _ g2⟩
theorem oe.all {rw:aqp}{P:aql}(o:oe rw P):rw.all (vv P)=true:=by rw[List.all_eq_true];intro y aV;obtain⟨i,aa⟩:=ap6 aV;exact(o.ok i y aa).IP
theorem oe.nil (P:aql):oe [] P:=⟨fun i x h=>by simp at h,fun i x h=>by simp at h,fun i x h=>by simp at h,fun i j x y h=>by simp at h⟩
theorem oe.aB {rw:aqp}{P Q:aql}(o:oe rw P){x:en}(h1:E1 (P++Q) x)(h2:∀a∈s6 x,P.length<=a/\a<(P++Q).length)(J:∀a∈lC x.cJ.bP,a ∉ lC x.dl):
 oe (rw++[x]) (P++Q)/\rw.map (kQ (P++Q))=rw.map (kQ P):=by
 have get : ∀ {i:Nat} {y:en},(rw++[x])[i]? = some y->rw[i]? = some y\/(i=rw.length/\y=x):=fun {i y} h=>by
  by_cases c:i<rw.length
  ·rw[apY c] at h;exact .inl h
  rw[ap0 (by omega)] at h;have aR:=f6 h;simp at aR;have aa:i=rw.length:=(by omega);rw[aa,Nat.sub_self] at h;exact .inr ⟨aa,by simpa using h.symm⟩
 refine⟨⟨fun i y h=> ?_,fun i y h=> ?_,fun i y h=> ?_,fun i j y z aV cB rB=> ?_⟩,?_⟩
 ·rcases get h with g|⟨-,rfl⟩
  ·obtain⟨g1,g2⟩:=o.ok i y g;exact⟨(g1.aB Q).1,(g2.aB Q).1⟩
  exact h1
 ·rcases get h with g|⟨-,rfl⟩
  ·intro a bF;have:=o.lt i y g a bF;rw[dE];omega
  exact fun a bF=>(h2 a bF).2
 ·rcases get h with g|⟨-,rfl⟩
  ·exact o.Mg i y g
  exact J
 ·rcases get aV with g|⟨aa,rfl⟩
  ·rcases get cB with gV|⟨-,rfl⟩
   ·exact o.aaW i j y z g gV rB
   intro a bF a3;have:=o.lt i y g a bF;have:=(h2 a a3).1;omega
  rcases get cB with gV|⟨ay,-⟩
  ·have:=f6 gV;omega
  omega
 refine ap8 fun y aV=> ?_;obtain⟨i,aa⟩:=ap6 aV;obtain⟨g1,g2⟩:=o.ok i y aa;simp only[kQ,(g1.aB Q).2,(g2.aB Q).2]
abbrev I7:=(Bool)⊕((Bool×ar)⊕((Bool×ar)⊕(Bool×ar×ar)))
def ph (b:Nat):I7->en
 | .inl a=>⟨⟨a,none⟩,none⟩
 | .inr (.inl a)=>⟨⟨a.1,none⟩,some (b,a.2.length)⟩
 | .inr (.inr (.inl a))=>⟨⟨a.1,some (b,a.2.length)⟩,none⟩
 | .inr (.inr (.inr a))=>⟨⟨a.1,some (b,a.2.1.length)⟩,some (b+1,a.2.2.length)⟩
def oF:I7->aql
 | .inl _=>[]
 | .inr (.inl a)=>[a.2]
 | .inr (.inr (.inl a))=>[a.2]
 | .inr (.inr (.inr a))=>[a.2.1,a.2.2]
def A4:I7->av
 | .inl a=>⟨⟨a,[]⟩,[]⟩
 | .inr (.inl a)=>⟨⟨a.1,[]⟩,a.2⟩
 | .inr (.inr (.inl a))=>⟨⟨a.1,a.2⟩,[]⟩
 | .inr (.inr (.inr a))=>⟨⟨a.1,a.2.1⟩,a.2.2⟩
theorem oe.add {rw:aqp}{P:aql}(o:oe rw P)(r:I7)(aR:∀l∈oF r,l.length<=1048576):
 oe (rw++[ph P.length r]) (P++oF r)/\(rw++[ph P.length r]).map (kQ (P++oF r))=rw.map (kQ P)++[A4 r]:=by
 have mu : ∀ {Q:aql} {x:ar},Q[0]? = some x->x.length<=1048576->nW (P++Q) (some (P.length,x.length))/\iM (P++Q) (some (P.length,x.length))=x:=fun h h2=>nW.new (n:=0) h h2;have n1 : ∀ {Q:aql} {x:ar},Q[1]? = some x->x.length<=1048576->nW (P++Q) (some (P.length+1,x.length))/\iM (P++Q) (some (P.length+1,x.length))=x:=fun h h2=>nW.new (n:=1) h h2
 have key:E1 (P++oF r) (ph P.length r)/\(∀a∈s6 (ph P.length r),P.length<=a/\a<(P++oF r).length)/\(∀a∈lC (ph P.length r).cJ.bP,a ∉ lC (ph P.length r).dl)/\kQ (P++oF r) (ph P.length r)=A4 r:=by
  rcases r with a|a|a|a
  ·exact⟨⟨trivial,trivial⟩,by simp[s6,lC,ph],by simp[lC,ph],rfl⟩
  ·obtain⟨g1,g2⟩:=mu (Q:=[a.2]) (x:=a.2) rfl (aR a.2 (by simp[oF]));exact⟨⟨trivial,g1⟩,by simp[s6,lC,ph,oF],by simp[lC,ph],by simp only[kQ,ph,oF,A4,g2];rfl⟩
  ·obtain⟨g1,g2⟩:=mu (Q:=[a.2]) (x:=a.2) rfl (aR a.2 (by simp[oF]));exact⟨⟨g1,trivial⟩,by simp[s6,lC,ph,oF],by simp[lC,ph],by simp only[kQ,ph,oF,A4,g2];rfl⟩
  obtain⟨g1,g2⟩:=mu (Q:=[a.2.1,a.2.2]) (x:=a.2.1) rfl (aR a.2.1 (by simp[oF]));obtain⟨g3,g4⟩:=n1 (Q:=[a.2.1,a.2.2]) (x:=a.2.2) rfl (aR a.2.2 (by simp[oF]));exact⟨⟨g1,g3⟩,by simp[s6,lC,ph,oF],by simp[lC,ph],by simp only[kQ,ph,oF,A4,g2,g4]⟩
 obtain⟨kN,j3,oU,I5⟩:=key;obtain⟨gh,gi⟩:=o.aB (Q:=oF r) kN j3 oU;exact⟨gh,by rw[List.map_append,gi,List.map_singleton,I5]⟩
theorem aiS {p:Int×Int}(ah:Fr p):zp (o4 (some p))=some (if p.1=0 then .inr (.inl (false,L p.2)) else .inr (.inr (.inr (decide (p.1<0),L p.1.natAbs,L p.2)))):=by
 have h1:=ah.o5;have h2:=ah.oL;have J : ¬L p.2=[]:=fun e=>by have:=(Of (by have:=ah.pos;omega)).1 e;have:=ah.pos;omega
 have cq:Fw (gK p.1)=some (if p.1=0 then .inl false else .inr (decide (p.1<0),L p.1.natAbs)):=by
  unfold Fw;have e:(gK p.1).bP=L p.1.natAbs:=rfl;rw[e,fj];refine fs (aI (XY (by omega)) ?_);by_cases c:p.1=0
  ·have ez:L (p.1.natAbs:Int)=[]:=(Of (by omega)).2 (by omega);have e2:(gK p.1).cD=false:=(by show decide (p.1<0)=false;exact decide_eq_false (by omega));rw[dw ez,dw c];simp only[e2]
  have ez : ¬L (p.1.natAbs:Int)=[]:=fun e=>(by have:=(Of (by omega)).1 e;omega);rw[dA ez,dA c];rfl
 unfold zp o4;simp only[apR,Option.elim_some];have e1:(l3 p).tO=gK p.1:=rfl;have e2:(l3 p).qG=L p.2:=rfl;rw[e1,e2];refine aI cq ?_;rw[XY (by omega),dA J];by_cases c:p.1=0
 ·rw[dw c,dw c];rfl
 rw[dA c,dA c];rfl
def e3 (x:Rat):Int×Int:=(x.num,(x.den:Int))
def eS (x:Rat):Prop:=(x.num.natAbs:Int)<B 24/\(x.den:Int)<B 24
def cj (x:Rat):av:=mk (e3 x)
instance aot (x:Rat):Decidable (eS x):=by unfold eS;infer_instance
theorem eS.dp {x:Rat}(h:eS x):Fr (e3 x):=⟨by have:=x.den_pos;simp only[e3];omega,by simp only[e3];rw[Int.gcd,Int.natAbs_natCast];exact x.reduced,h.1,h.2⟩
theorem ajA {n d:Int}(bD:0<d):low n d=if eS (Rat.divInt n d) then some (e3 (Rat.divInt n d)) else none:=by
 have e1:(Rat.divInt n d).num=n / (Int.gcd n d:Int):=by rw[Rat.num_divInt,Int.sign_eq_one_of_pos bD,Int.one_mul,Int.gcd_comm]
 have e2:((Rat.divInt n d).den:Int)=d / (Int.gcd n d:Int):=by rw[Rat.den_divInt,dA (by omega),Int.gcd_comm];rw[Int.natCast_ediv,Int.natAbs_of_nonneg (by omega)]
 have bG:eS (Rat.divInt n d)↔fits ((n / (Int.gcd n d:Int)).natAbs:Int)/\fits (d / (Int.gcd n d:Int)):=by unfold eS fits;rw[e1,e2]
 unfold low;by_cases c:eS (Rat.divInt n d)
 ·rw[dw c,dw (bG.1 c)];unfold e3;rw[e1,e2]
 rw[dA c,dA (fun x=>c (bG.2 x))]
theorem Oz {n d:Int}{x:Rat}(bD:0<d)(e:(d:Rat)*x=n)(h:eS x):low n d=some (e3 x):=by
 have sR:(d:Rat)≠0:=fun c=>by have:d=0:=Rat.intCast_inj.1 (by rw[c];rfl);omega
 have:x=Rat.divInt n d:=by rw[Rat.divInt_eq_div,<- e];grind
 rw[ajA bD,<- this,dw h]
theorem vw (x:Rat):((x.den:Int):Rat)*x=((x.num:Int):Rat):=by
 have h:x=(x.num:Rat) / ((x.den:Int):Rat):=by rw[<- Rat.divInt_eq_div,Rat.num_divInt_den]
 have bD:((x.den:Int):Rat)≠0:=fun c=>by have:(x.den:Int)=0:=Rat.intCast_inj.1 (by rw[c];rfl);have:=x.den_pos;omega
 conv=>lhs;rhs;rw[h]
 grind
theorem YD {x y:Rat}(U:eS x)(aV:eS y)(h:eS (x*y)):ur (cj x) (cj y)=some (cj (x*y)):=by unfold cj;rw[WL U.dp aV.dp,Oz (x:=x*y) (Int.mul_pos U.dp.pos aV.dp.pos) ?_ h];rfl;have h1:=vw x;have h2:=vw y;simp only[e3,aqa];grind
theorem Hg {x y:Rat}(U:eS x)(aV:eS y)(h:eS (x+y)):sv (cj x) (cj y)=some (cj (x+y)):=by unfold cj;rw[ahQ U.dp aV.dp,Oz (x:=x+y) (Int.mul_pos U.dp.pos aV.dp.pos) ?_ h];rfl;have h1:=vw x;have h2:=vw y;simp only[e3,aqa,Rat.intCast_add];grind
theorem eS.neg {x:Rat}(h:eS x):eS (-x):=by unfold eS at h ⊢;rw[Rat.neg_num,Rat.neg_den,Int.natAbs_neg];exact h
theorem K2 {x:Rat}(U:eS x):uq (cj x)=some (cj (-x)):=by unfold cj;rw[ahP U.dp];simp only[e3,Rat.neg_num,Rat.neg_den]
theorem aiT {p:Int×Int}(h:Fr p):nm (mk p)=some true:=by
 have L3:(L p.1.natAbs).length<=24:=(ij (by omega)).2 h.num;have Ik:(L p.2).length<=24:=(ij (by have:=h.pos;omega)).2 h.den;have ah:=h.pos;obtain⟨bX,gh,gi⟩:=J2 (a:=L p.1.natAbs) (by omega);obtain⟨aK,iW,jM⟩:=J2 (a:=L p.2) (by omega);have h1:bX=true:=gi.2 ⟨i6 _,by omega⟩;have h2:aK=true:=jM.2 ⟨i6 _,by omega⟩;subst h1;subst h2;have bD:(L p.2)≠[]:=fun c=>by have:=sI.1 c;omega
 have L5:=ap9.mpr bD
 have e1:zk (mk p).cJ=some true:=by
  unfold zk;show (vl (L p.1.natAbs)).bind _=_;rw[gh];simp only[dx,if_true,g9];show (if decide (p.1<0)=true then some (decide ((0:Int)<(L p.1.natAbs).length)) else some true)=_;by_cases c:p.1<0
  ·rw[dw (by simpa using c)];have:L p.1.natAbs≠[]:=fun c=>(by have:=sI.1 c;omega);have:=ap9.mpr this;rw[decide_eq_true (by omega)]
  rw[dA (by simpa using c)]
 unfold nm;rw[e1];simp only[dC,dx,if_true,g9];show (vl (L p.2)).bind _=_;rw[iW];simp only[dx,if_true];rw[show (mk p).dl=L p.2 from rfl,show (mk p).cJ.bP=L p.1.natAbs from rfl];rw[dA (by simp[bD]),dA (by simp;omega),dA (by simp;omega)];rw[O3 (i6 _) (i6 _) (by omega) (by omega),eA (by omega),eA (by omega),KI (by omega),h.QC];simp only[dx];rw[D7 (by omega)];rfl
theorem yd {x:Rat}(U:eS x):nm (cj x)=some true:=aiT U.dp
def j1 (x:Rat):Int:=if x=0 then 0 else if x<0 then -1 else 1
theorem qz {x:Rat}(U:eS x):qt (cj x)=some (j1 x):=by
 unfold qt;rw[yd U];simp only[dC,dx,if_true,g9];show (if (((L (e3 x).1.natAbs).length:Int) == 0)=true then some 0 else if decide ((e3 x).1<0)=true then some (-1) else some 1)=_;have e:((L (e3 x).1.natAbs).length:Int)=0↔x.num=0:=by rw[HS (by omega)];simp only[e3];omega
 unfold j1;by_cases h0:x=0
 ·rw[dw h0,dw];rw[beq_iff_eq,e,Rat.num_eq_zero];exact h0
 rw[dA h0,dA (by rw[beq_iff_eq,e,Rat.num_eq_zero];exact h0)];by_cases h1:x<0
 ·have h2 : ¬0<=x:=(by grind);have J : ¬0<=x.num:=fun c=>h2 (Rat.num_nonneg.1 c);rw[dw h1,dw (decide_eq_true (show (e3 x).1<0 by simp only[e3];omega))]
 have h2:0<=x:=by grind
 have J:0<=x.num:=Rat.num_nonneg.2 h2;rw[dA h1,dA (fun c=>by have:=of_decide_eq_true c;simp only[e3] at this;omega)]
theorem akl {x y:Rat}(U:eS x)(aV:eS y):xM (cj x) (cj y)=some (if x<y then -1 else if y<x then 1 else 0):=by unfold cj;rw[WN U.dp aV.dp];unfold lP;simp only[e3,<- Rat.lt_iff]
theorem YE {x y:Rat}(U:eS x)(aV:eS y)(h0:y≠0)(h:eS (x / y)):zu (cj x) (cj y)=some (cj (x / y)):=by
 have h1:=U.dp.o5;have h2:=U.dp.oL;have J:=aV.dp.o5;have ak:=aV.dp.oL;have ax:=U.dp.pos;have aN:(0:Int)<(e3 y).1.natAbs:=by have:(e3 y).1≠0:=fun c=>h0 (Rat.num_eq_zero.1 c);omega
 have a7:=tz (x:=(e3 x).1.natAbs) (y:=(e3 y).2) (by omega) (by have:=aV.dp.pos;omega) U.dp.num aV.dp.den;have bb:=tz (x:=(e3 x).2) (y:=(e3 y).1.natAbs) (by omega) (by omega) U.dp.den aV.dp.num;have e1:jH (L (e3 x).1.natAbs) (L (e3 y).2)=some (L (((e3 x).1.natAbs:Int)*(e3 y).2)):=by rw[mul_eq (h9 _) (h9 _) (by omega) (by omega),eA (by omega),eA (by have:=aV.dp.pos;omega)]
 have e2:jH (L (e3 x).2) (L (e3 y).1.natAbs)=some (L ((e3 x).2*((e3 y).1.natAbs:Int))):=by rw[mul_eq (h9 _) (h9 _) (by omega) (by omega),eA (by omega),eA (by omega)]
 unfold zu;rw[yd U,yd aV];simp only[dC,dx,if_true];show (jH (L (e3 x).1.natAbs) (L (e3 y).2)).bind _=_;rw[e1];simp only[dx];show (jH (L (e3 x).2) (L (e3 y).1.natAbs)).bind _=_;rw[e2];simp only[dx];rw[Oc (Int.mul_nonneg (by omega) (by have:=aV.dp.pos;omega)) (Int.mul_pos ax aN) (by omega) (by omega)];simp only[dx];rw[Oz (x:=x / y) (Int.mul_pos ax aN) ?_ h];rfl;have d1:=vw x;have d2:=vw y
 have bG:e9 (!((cj x).cJ.cD == (cj y).cJ.cD)) (((e3 x).1.natAbs:Int)*(e3 y).2)=(if y<0 then -1 else 1)*((e3 x).1*(e3 y).2):=by
  show e9 (!(decide ((e3 x).1<0) == decide ((e3 y).1<0))) _=_;have aU:=Rat.num_nonneg (q:=y);have hm:0<=((e3 x).1.natAbs:Int)*(e3 y).2:=Int.mul_nonneg (by omega) (by have:=aV.dp.pos;omega)
  have IA:y<0↔(e3 y).1<0:=by
   have J:=Rat.num_nonneg (q:=y);simp only[e3];constructor
   ·intro c;have : ¬0<=y:=(by grind);have ak : ¬0<=y.num:=fun c=>this (J.1 c);omega
   intro c;have : ¬0<=y:=fun ez=>(by have:=J.2 ez;omega);grind
  by_cases bf:(e3 x).1<0<;>by_cases cx:(e3 y).1<0
  ·rw[dw (IA.2 cx),decide_eq_true bf,decide_eq_true cx];simp only[e9,BEq.rfl,Bool.not_true,apS,if_false];rw[show ((e3 x).1.natAbs:Int) = -(e3 x).1 by omega];grind
  ·rw[dA (fun c=>cx (IA.1 c)),decide_eq_true bf,decide_eq_false cx];simp only[e9,show (!(true == false))=true from rfl,if_true];rw[show ((e3 x).1.natAbs:Int) = -(e3 x).1 by omega];grind
  ·rw[dw (IA.2 cx),decide_eq_false bf,decide_eq_true cx];simp only[e9,show (!(false == true))=true from rfl,if_true];rw[show ((e3 x).1.natAbs:Int)=(e3 x).1 by omega];grind
  rw[dA (fun c=>cx (IA.1 c)),decide_eq_false bf,decide_eq_false cx];simp only[e9,BEq.rfl,Bool.not_true,apS,if_false];rw[show ((e3 x).1.natAbs:Int)=(e3 x).1 by omega];grind
 rw[bG]
 have cM:(((e3 y).1.natAbs:Int):Rat)=(if y<0 then -1 else 1)*(((e3 y).1:Int):Rat):=by
  have aU:=Rat.num_nonneg (q:=y);by_cases c:y<0
  ·have:y.num<0:=by have : ¬0<=y.num:=fun h=>by have:=aU.1 h;grind
                    omega
   rw[dw c,show ((e3 y).1.natAbs:Int) = -(e3 y).1 by simp only[e3];omega,Rat.intCast_neg];grind
  have:0<=y.num:=aU.2 (by grind);rw[dA c,show ((e3 y).1.natAbs:Int)=(e3 y).1 by simp only[e3];omega];grind
 rw[aqa,cM,aqa,aqa];simp only[e3] at *;split<;>grind
theorem sF {n:Int}(h:nR n):oG n=some (cj (n:Rat)):=by rw[NF h];unfold cj e3;rw[Rat.num_intCast,Rat.den_intCast];rfl
theorem XZ {n:Int}(h:nR n):eS (n:Rat):=by have:=KZ h;unfold eS;rw[Rat.num_intCast,Rat.den_intCast];exact⟨this.num,this.den⟩
theorem Xo {n d:Int}{x:Rat}(h0:d≠0)(e:(d:Rat)*x=n)(aU:(n.natAbs:Int)<B 24)(bD:(d.natAbs:Int)<B 24):eS x:=by
 have sR:(d:Rat)≠0:=fun c=>h0 (Rat.intCast_inj.1 (by rw[c];rfl));have U:x=Rat.divInt n d:=by rw[Rat.divInt_eq_div,<- e];grind
 rw[U];unfold eS;rw[Rat.num_divInt,Rat.den_divInt,dA h0];constructor
 ·have h1:(d.sign*n / (d.gcd n:Int)).natAbs<=(d.sign*n).natAbs:=Int.natAbs_ediv_le_natAbs _ _;have h2:(d.sign*n).natAbs<=n.natAbs:=(by rw[Int.natAbs_mul];have:d.sign.natAbs<=1:=(by rw[Int.natAbs_sign];split<;>omega);exact Nat.le_trans (apV _ this) (by omega));omega
 have:d.natAbs / d.gcd n<=d.natAbs:=Nat.div_le_self _ _;omega
theorem pS {x:Rat}:j1 x=0↔x=0:=by
 unfold j1;split
 ·simp_all
 split<;>simp_all
theorem tB {x:Rat}:0<j1 x↔0<x:=by
 unfold j1;split
 ·rename_i h;rw[h];simp
 split
 ·rename_i h1 h2;constructor
  ·intro h;omega
  intro h;grind
 rename_i h1 h2;constructor
 ·intro h;grind
 intro h;omega
theorem aiU (n:Nat)(aU:n<=1000)(k:Nat)(a2:k<n)(a b:Nat->Rat)(bF:∀j,j<n->eS (a j))(a3:∀j,j<n->eS (b j))(hm:∀j,j<n->eS (-(a k)*b j))(bM:∀j,j<n->eS (a j-a k*b j)):
 FL k 0 n 0 n (aQ n fun j=>cj (a j)) (aQ n fun j=>cj (b j))=some (aQ n fun j=>cj (a j-a k*b j)):=by
 unfold FL;refine d9 (aI (x:=cj (a k)) (by rw[dy];exact hK a2) (aI (qz (bF k a2)) ?_));refine q4 (fun h=> ?_) (fun h=> ?_)
 ·have h0:=pS.1 (by simpa using h);congr 1;exact fa fun j _=>by rw[h0];congr 1;grind
 refine aI (K2 (bF k a2)) ?_
 obtain⟨s,e1,e2⟩:=ix (f:=fun w:Int×aqc=>B3 0 n 0 n ((n:Nat):Int) (aQ n fun j=>cj (b j)) (cj (-(a k))).cJ.cD (cj (-(a k))).cJ.bP (cj (-(a k))).dl w.1 w.2)
  (fun (i:Nat) (_:Unit)=>((i:Int),aQ n fun j=>if j<i then cj (a j-a k*b j) else cj (a j))) n (fun _ _=>True) (fun _=>aQ n fun j=>cj (a j-a k*b j))
  (fun i aa _ _=>by
    refine⟨(),?_,trivial⟩;unfold B3;refine fh (d9 (aI (x:=cj (b i)) (by simp only;rw[dy];exact hK aa) (aI (qz (a3 i aa)) ?_)));refine q4 (fun h=> ?_) (fun h=> ?_)
    ·refine d9 (aI (x:=cj (a i)) (by simp only;rw[dy,hK aa,dA (by omega)]) ?_)
     refine aI (YD (bF k a2).neg (a3 i aa) (hm i aa)) (aI (Hg (bF i aa) (hm i aa) (by have:=bM i aa;rw[show a i + -(a k)*b i=a i-a k*b i by grind];exact this)) ?_);refine d9 ?_;simp only;rw[fE (by omega),dy,dG,lK];congr 3
     exact fa fun j _=>by
      by_cases c:j=i
      ·subst c;rw[dw rfl,dw (by omega)];congr 1;grind
      rw[dA c];by_cases cx:j<i
      ·rw[dw cx,dw (by omega)]
      rw[dA cx,dA (by omega)]
    have h0:b i=0:=pS.1 (by simpa using h);simp only;rw[fE (by omega)];congr 3
    exact fa fun j _=>by
     by_cases c:j=i
     ·subst c;rw[dA (by omega),dw (by omega),h0];congr 1;grind
     by_cases cx:j<i
     ·rw[dw cx,dw (by omega)]
     rw[dA cx,dA (by omega)])
  (fun _ _=>by unfold B3;refine fs ?_;simp only;congr 2;exact fa fun j ay=>dw ay) () trivial
 refine aI (x:=aQ n fun j=>cj (a j-a k*b j)) ?_ rfl;unfold S9;have bG:(aQ n fun j=>if j<0 then cj (a j-a k*b j) else cj (a j))=aQ n fun j=>cj (a j):=fa fun j _=>dA (by omega);rw[bG] at e1;exact e1
theorem WT (n:Nat)(aU:n<=1000)(k:Nat)(a2:k<n)(a b:Nat->Rat)(bF:∀j,j<n->eS (a j))(a3:∀j,j<n->eS (b j))(hm:∀j,j<n->eS (-(a k)*b j))(bM:∀j,j<n->eS (a j-a k*b j)):
 zd k 0 n (aQ n fun j=>cj (a j)) (aQ n fun j=>cj (b j))=some (aQ n fun j=>cj (a j-a k*b j)):=by
 unfold zd;rw[c0];refine d9 (aI (x:=cj (a k)) (by rw[dy];exact hK a2) (aI (qz (bF k a2)) ?_));refine q4 (fun h=> ?_) (fun h=> ?_)
 ·have h0:=pS.1 (by simpa using h);congr 1;exact fa fun j _=>by rw[h0];congr 1;grind
 refine aI (K2 (bF k a2)) ?_
 obtain⟨s,e1,e2⟩:=ix (f:=fun w:Int×aqc=>xy 0 n ((n:Nat):Int) (aQ n fun j=>cj (b j)) (cj (-(a k))).cJ.cD (cj (-(a k))).cJ.bP (cj (-(a k))).dl w.1 w.2)
  (fun (i:Nat) (_:Unit)=>((i:Int),aQ n fun j=>if j<i then cj (a j-a k*b j) else cj (a j))) n (fun _ _=>True) (fun _=>aQ n fun j=>cj (a j-a k*b j))
  (fun i aa _ _=>by
    refine⟨(),?_,trivial⟩;unfold xy;refine fh (d9 (aI (x:=cj (b i)) (by simp only;rw[dy];exact hK aa) (aI (qz (a3 i aa)) ?_)));refine q4 (fun h=> ?_) (fun h=> ?_)
    ·refine d9 (aI (x:=cj (a i)) (by simp only;rw[dy,hK aa,dA (by omega)]) ?_)
     refine aI (YD (bF k a2).neg (a3 i aa) (hm i aa)) (aI (Hg (bF i aa) (hm i aa) (by have:=bM i aa;rw[show a i + -(a k)*b i=a i-a k*b i by grind];exact this)) ?_);refine d9 ?_;simp only;rw[fE (by omega),dy,dG,lK];congr 3
     exact fa fun j _=>by
      by_cases c:j=i
      ·subst c;rw[dw rfl,dw (by omega)];congr 1;grind
      rw[dA c];by_cases cx:j<i
      ·rw[dw cx,dw (by omega)]
      rw[dA cx,dA (by omega)]
    have h0:b i=0:=pS.1 (by simpa using h);simp only;rw[fE (by omega)];congr 3
    exact fa fun j _=>by
     by_cases c:j=i
     ·subst c;rw[dA (by omega),dw (by omega),h0];congr 1;grind
     by_cases cx:j<i
     ·rw[dw cx,dw (by omega)]
     rw[dA cx,dA (by omega)])
  (fun _ _=>by unfold xy;refine fs ?_;simp only;congr 2;exact fa fun j ay=>dw ay) () trivial
 refine aI (x:=aQ n fun j=>cj (a j-a k*b j)) ?_ rfl;unfold ML;have bG:(aQ n fun j=>if j<0 then cj (a j-a k*b j) else cj (a j))=aQ n fun j=>cj (a j):=fa fun j _=>dA (by omega);rw[bG] at e1;exact e1
def iZ (m N:Nat):aqh:=aQ m fun i=>some (i,N+1)
def cX (m:Nat)(t:b2):ar:=aQ m fun i=>((t.B i:Nat):Int)
def hG (N:Nat)(t:b2)(i:Nat):aqc:=aQ (N+1) fun j=>cj (t.T i j)
def gO (m N:Nat)(t:b2):aqi:=aQ m (hG N t)
def hM (N:Nat)(c:Nat->Rat):aqc:=aQ (N+1) fun j=>cj (c j)
structure Ls (m N:Nat) (t:b2) (c:Nat->Rat) (r k:Nat):Prop where
 T : ∀i,i<m-> ∀j,j<=N->eS (t.T i j)
 iF : ∀i,i<m-> ∀j,j<=N->eS ((t.ct r k).T i j)
 M : ∀i,i<m->i≠r-> ∀j,j<=N->eS (-(t.T i k)*(t.T r j / t.T r k))
 a0 : ∀j,j<=N->eS (c j)
 vM : ∀j,j<=N->eS (c j-c k*(t.T r j / t.T r k))
 hm : ∀j,j<=N->eS (-(c k)*(t.T r j / t.T r k))
theorem Xp {m N:Nat}(hm:m<=1000)(hg:N<1000){t:b2}{c:Nat->Rat}{r k:Nat}(aj:r<m)(a2:k<=N)(ah:t.T r k≠0)(h:Ls m N t c r k)(mu:Int):
 zh r k mu (iZ m N) (cX m t) (hM N c) (gO m N t)=some (cX m (t.ct r k),hM N (fun j=>c j-c k*(t.T r j / t.T r k)),gO m N (t.ct r k)):=by
 have vb : ∀j,(t.ct r k).T r j=t.T r j / t.T r k:=fun j=>by simp[b2.ct]
 have xw : ∀i j,i≠r->(t.ct r k).T i j=t.T i j-t.T i k*(t.T r j / t.T r k):=fun i j aa=>by simp[b2.ct,aa]
 unfold zh;refine cz (by unfold iZ;rw[c0];omega) (aI (x:=some (r,N+1)) (by rw[dy];exact hK aj) (aI (x:=(r,N+1)) rfl (aI (x:=hG N t r) (gd aj) ?_)));refine d9 (aI (x:=cj (t.T r k)) (by rw[dy];exact hK (by omega)) ?_)
 obtain⟨s1,e1,-⟩:=ix (f:=fun w:Int×aqi=>B4 r k (((N+1:Nat):Nat):Int) mu (iZ m N) (cX m t) (hM N c) (cj (t.T r k)).cJ.cD (cj (t.T r k)).cJ.bP (cj (t.T r k)).dl w.1 w.2)
  (fun (i:Nat) (_:Unit)=>((i:Int),aQ m fun fA=>if fA=r then aQ (N+1) (fun j=>if j<i then cj (t.T r j / t.T r k) else cj (t.T r j)) else hG N t fA)) (N+1) (fun _ _=>True)
  (fun _=>aQ m fun fA=>if fA=r then hG N (t.ct r k) r else hG N t fA)
  (fun i aa _ _=>by
    refine⟨(),?_,trivial⟩;unfold B4;refine fh (cz (by unfold iZ;rw[c0];omega) (aI (x:=some (r,N+1)) (by rw[dy];exact hK aj) (aI (x:=(r,N+1)) rfl ?_)));refine aI (x:=aQ (N+1) (fun j=>if j<i then cj (t.T r j / t.T r k) else cj (t.T r j))) (by simp only;rw[gd aj,dw rfl]) ?_;refine d9 (aI (x:=cj (t.T r i)) (by simp only;rw[dy,hK aa,dA (by omega)]) ?_);refine aI (YE (h.T r aj i (by omega)) (h.T r aj k a2) ah (by have:=h.iF r aj i (by omega);rw[vb] at this;exact this)) ?_;simp only;rw[fE (by omega),dy,dG,lK,lK];congr 3;refine fa fun fA _=> ?_;by_cases bf:fA=r
    ·rw[dw bf,dw bf]
     exact fa fun j _=>by
      by_cases cx:j=i
      ·subst cx;rw[dw rfl,dw (by omega)]
      rw[dA cx];by_cases kO:j<i
      ·rw[dw kO,dw (by omega)]
      rw[dA kO,dA (by omega)]
    rw[dA bf,dA bf,dA bf])
  (fun _ _=>by
    unfold B4;refine fs ?_;simp only;congr 2;refine fa fun fA _=> ?_;by_cases bf:fA=r
    ·rw[dw bf,dw bf];exact fa fun j ay=>by rw[dw ay,vb]
    rw[dA bf,dA bf]) () trivial
 refine aI (x:=aQ m fun fA=>if fA=r then hG N (t.ct r k) r else hG N t fA) ?_ ?_
 ·unfold Ta
  have bG:(aQ m fun fA=>if fA=r then aQ (N+1) (fun j=>if j<0 then cj (t.T r j / t.T r k) else cj (t.T r j)) else hG N t fA)=gO m N t:=fa fun fA _=>by
   by_cases bf:fA=r
   ·rw[dw bf,bf];exact fa fun j _=>dA (by omega)
   rw[dA bf]
  rw[bG] at e1;exact e1
 obtain⟨s2,e2,-⟩:=ix (f:=fun w:Int×aqi=>B5 r k ((m:Nat):Int) mu (iZ m N) (cX m t) (hM N c) w.1 w.2)
  (fun (i:Nat) (_:Unit)=>((i:Int),aQ m fun fA=>if fA=r\/fA<i then hG N (t.ct r k) fA else hG N t fA)) m (fun _ _=>True)
  (fun _=>gO m N (t.ct r k))
  (fun i aa _ _=>by
    refine⟨(),?_,trivial⟩;unfold B5;refine fh (q4 (fun di=> ?_) (fun Ew=> ?_))
    ·have E2:i≠r:=by intro c;subst c;simp at di
     refine cz (by unfold iZ;rw[c0];simp only;omega) (aI (x:=some (i,N+1)) (by simp only;rw[dy];exact hK aa) ?_);refine cz (by unfold iZ;rw[c0];omega) (aI (x:=some (r,N+1)) (by rw[dy];exact hK aj) ?_);refine aI (x:=(i,N+1)) rfl (aI (x:=(r,N+1)) rfl ?_);refine aI (x:=hG N t i) (by simp only;rw[gd aa,dA (by omega)]) (aI (x:=hG N (t.ct r k) r) (by simp only;rw[gd aj,dw (.inl rfl)]) ?_);refine d9 ?_;refine aI (aiU (N+1) (by omega) k (by omega) (fun j=>t.T i j) (fun j=>(t.ct r k).T r j) (fun j ay=>h.T i aa j (by omega)) (fun j ay=>h.iF r aj j (by omega)) (fun j ay=>by rw[vb];exact h.M i aa E2 j (by omega)) (fun j ay=>by have:=h.iF i aa j (by omega);rw[xw i j E2] at this;rw[vb];exact this)) ?_;simp only;rw[fE (by omega),lK,lK];congr 3;refine fa fun fA _=> ?_;by_cases bf:fA=r
     ·rw[dw bf,dw (.inl bf),bf]
     rw[dA bf];by_cases cx:fA=i
     ·subst cx;rw[dw rfl,dw (.inr (by omega))];exact fa fun j _=>by rw[xw fA j E2,vb]
     rw[dA cx];by_cases kO:fA<i
     ·rw[dw (.inr kO),dw (.inr (by omega))]
     rw[dA (by omega),dA (by omega)]
    have E2:i=r:=(by simp at Ew;omega);simp only;rw[fE (by omega)];congr 3;refine fa fun fA _=> ?_;by_cases bf:fA=r\/fA<i
    ·rw[dw bf,dw (by omega)]
    rw[dA bf,dA (by omega)])
  (fun _ _=>by unfold B5;refine fs ?_;simp only;congr 2;exact fa fun fA kH=>dw (.inr kH)) () trivial
 refine aI (x:=gO m N (t.ct r k)) ?_ ?_
 ·unfold Tb
  rw[show ((iZ m N).length:Nat)=m from c0 ..]
  have bG:(aQ m fun fA=>if fA=r\/fA<0 then hG N (t.ct r k) fA else hG N t fA)=aQ m fun fA=>if fA=r then hG N (t.ct r k) r else hG N t fA:=fa fun fA _=>by
   by_cases bf:fA=r
   ·rw[dw (.inl bf),dw bf,bf]
   rw[dA (by omega),dA bf]
  rw[bG] at e2;exact e2
 refine aI (x:=hG N (t.ct r k) r) (gd aj) (d9 ?_);refine aI (WT (N+1) (by omega) k (by omega) c (fun j=>(t.ct r k).T r j) (fun j ay=>h.a0 j (by omega)) (fun j ay=>h.iF r aj j (by omega)) (fun j ay=>by rw[vb];exact h.hm j (by omega)) (fun j ay=>by rw[vb];exact h.vM j (by omega))) ?_;refine cz (by unfold hM;rw[c0,c0]) (cz (by unfold cX;rw[c0];omega) (cz (by unfold cX;rw[c0,dy];omega) ?_));congr 1;rw[dy,dG];congr 1
 ·unfold cX;rw[lK];exact fa fun i _=>by simp only[b2.ct];split<;>rfl
 congr 1
 ·exact fa fun j _=>by rw[vb]
 unfold gO;rw[lK]
 exact fa fun i _=>by
  split
  ·rename_i bf;rw[bf]
  rfl
theorem aiV {m:Nat}(hm:m<=1000)(t:b2)(mu:Int)(rows:aqi)(cost:aqc)(j:Nat): ∃b,F1 ⟨mu,rows,cX m t,cost⟩ (j:Int)=some b/\(b=true↔ ∃i,i<m/\t.B i=j):=by
 unfold F1
 obtain⟨r,e,h⟩:=tv (f:=fun w:Int=>Fk j (cX m t) ((m:Nat):Int) w) (fun (i:Nat) (_:Unit)=>(i:Int)) m (fun i _=> ∀k,k<i->t.B k≠j) (fun r=>(r = .inr ()/\ ∃i,i<m/\t.B i=j)\/(r = .inl ()/\ ¬∃i,i<m/\t.B i=j))
  (fun i aa _ c4=>by
    unfold Fk;by_cases c:t.B i=j
    ·right;refine⟨_,fh (cz (by unfold cX;rw[c0];omega) (aI (x:=((t.B i:Nat):Int)) (by rw[dy];exact gd aa) (gH (by simp[c]) rfl))),.inl ⟨rfl,i,aa,c⟩⟩
    left;refine⟨(),fh (cz (by unfold cX;rw[c0];omega) (aI (x:=((t.B i:Nat):Int)) (by rw[dy];exact gd aa) (jF (by simp;omega) (by rw[fE (by omega)])))),fun k a2=> ?_⟩;by_cases e:k=i
    ·rw[e];exact c
    exact c4 k (by omega))
  (fun _ c4=>⟨_,fs rfl,.inr ⟨rfl,fun ⟨i,aa,e⟩=>c4 i aa e⟩⟩) () (fun k a2=>by omega)
 have fl:M3 j (cX m t) (len_ eI (cX m t)) 0=some r:=by unfold M3;rw[g9,show (cX m t).length=m from c0 ..];exact e
 rcases h with ⟨rfl,h⟩|⟨rfl,h⟩
 ·exact⟨true,aI fl rfl,by simp[h]⟩
 exact⟨false,aI fl rfl,by simp[h]⟩
theorem ajB {N:Nat}(hg:N<1000)(mu:Int)(rows:aqi)(jZ:ar)(c:Nat->Rat){j:Nat}(ay:j<=N)(a0:eS (c j)):wu ⟨mu,rows,jZ,hM N c⟩ (j:Int) false=some (j1 (c j)):=by
 unfold wu;refine cz (by unfold hM;rw[c0];omega) (aI (x:=cj (c j)) (by rw[dy];exact gd (by omega)) (aI (qz a0) ?_));refine aI (x:= .inl (j1 (c j))) ?_ rfl;unfold Up;rw[iter];have:y2 mu rows jZ (hM N c) (j:Int) false (j1 (c j)) 0=some (.inr (.inl (j1 (c j)))):=by unfold y2;exact q4 (fun _=>rfl) (fun _=>rfl)
 simp only;rw[this];rfl
theorem Kr {x y z w:Rat}(aV:0<y)(hw:0<w):(x / y<=z / w↔x*w<=z*y)/\(x / y=z / w↔x*w=z*y):=by
 have e1:x*w=(x / y)*(y*w):=by grind
 have e2:z*y=(z / w)*(y*w):=by grind
 have ah:0<y*w:=Rat.mul_pos aV hw;constructor
 ·rw[e1,e2]
  constructor
  ·intro h;exact Rat.mul_le_mul_of_nonneg_right h (Rat.le_of_lt ah)
  intro h;apply Classical.byContradiction;intro c;have:z / w<x / y:=(by grind);have:=Rat.mul_lt_mul_of_pos_right this ah;grind
 rw[e1,e2];constructor
 ·intro h;rw[h]
 intro h;have di:y*w≠0:=by grind
 grind
def KL (m N:Nat)(t:b2)(j:Nat)(r:Int):Prop :=
 (r = -1/\ ∀i,i<m-> ¬0<t.T i j)\/ ∃b:Nat,r=b/\b<m/\0<t.T b j/\(∀i,i<m->0<t.T i j->t.T b N*t.T i j<=t.T i N*t.T b j)/\(∀i,i<m->0<t.T i j->t.T b N*t.T i j=t.T i N*t.T b j->t.B b<=t.B i)
theorem aiW {m N:Nat}(hm:m<=1000)(hg:N<1000)(t:b2)(mu:Int)(cost:aqc){j:Nat}(ay:j<=N)(iE:∀i,i<m-> ∀j,j<=N->eS (t.T i j))(a1:∀i,i<m->0<t.T i j->eS (t.T i N / t.T i j)):
 ∃r,F2 ⟨mu,gO m N t,cX m t,cost⟩ (j:Int)=some r/\KL m N t j r:=by
 unfold F2
 obtain⟨r,e,h⟩:=tv (f:=fun w:Int×Int×Bool×ar×ar=>Cg mu (gO m N t) (cX m t) cost j ((m:Nat):Int) w.1 w.2.1 w.2.2.1 w.2.2.2.1 w.2.2.2.2)
  (fun (i:Nat) (s:Int×av)=>(s.1,(i:Int),s.2.cJ.cD,s.2.cJ.bP,s.2.dl)) m
  (fun n s=>(s.1 = -1/\ ∀i,i<n-> ¬0<t.T i j)\/ ∃b:Nat,s.1=b/\b<n/\0<t.T b j/\s.2=cj (t.T b N / t.T b j)/\ ∀i,i<n->0<t.T i j->t.T b N / t.T b j<t.T i N / t.T i j\/(t.T b N / t.T b j=t.T i N / t.T i j/\t.B b<=t.B i))
  (fun r=>KL m N t j r)
  (fun n aU s c4=>by
    left;unfold Cg;have g1:0<=((n:Nat):Int)/\((n:Nat):Int)<((gO m N t).length:Nat):=(by unfold gO;rw[c0];omega);have g2:(gO m N t)[((n:Nat):Int).toNat]? = some (hG N t n):=(by rw[dy];exact gd aU);have g3:0<=((j:Nat):Int)/\((j:Nat):Int)<((hG N t n).length:Nat):=(by unfold hG;rw[c0];omega);have g4:(hG N t n)[((j:Nat):Int).toNat]? = some (cj (t.T n j)):=(by rw[dy];exact gd (by omega));have iP:R ((n:Int)+1)=((n+1:Nat):Int):=fE (by omega);have wl:R (len_ aE (hG N t n)-1)=(N:Int):=(by rw[fj,show (hG N t n).length=N+1 from c0 ..,cG (by omega) (by omega)];omega);by_cases ah:0<t.T n j
    ·have bM : ¬j1 (t.T n j)<=0:=by have:=tB.2 ah;omega
     have g5:0<=R (len_ aE (hG N t n)-1)/\R (len_ aE (hG N t n)-1)<((hG N t n).length:Nat):=(by rw[wl];unfold hG;rw[c0];omega);have g6:(hG N t n)[(R (len_ aE (hG N t n)-1)).toNat]? = some (cj (t.T n N)):=(by rw[wl,dy];exact gd (by omega));have g7:zu (cj (t.T n N)) (cj (t.T n j))=some (cj (t.T n N / t.T n j)):=YE (iE n aU N (by omega)) (iE n aU j ay) (by grind) (a1 n aU ah);rcases c4 with ⟨h1,h2⟩|⟨b,h1,a3,lo,h2,J⟩
     ·refine⟨((n:Int),cj (t.T n N / t.T n j)),fh (cz g1 (aI g2 (cz g3 (aI g4 (aI (qz (iE n aU j ay)) (l4 bM (cz g5 (aI g6 (aI g7 (fh ?_)))))))))),.inr ⟨n,rfl,by omega,ah,rfl,fun i aa jT=> ?_⟩⟩
      ·simp only;rw[iP]
      by_cases c:i=n
      ·subst c;exact .inr ⟨rfl,dD _⟩
      exact(h2 i (by omega) jT).elim
     have g8:xM (cj (t.T n N / t.T n j)) (⟨(⟨s.2.cJ.cD,s.2.cJ.bP⟩:bC),s.2.dl⟩:av)=some (if t.T n N / t.T n j<t.T b N / t.T b j then -1 else if t.T b N / t.T b j<t.T n N / t.T n j then 1 else 0):=(by have:(⟨(⟨s.2.cJ.cD,s.2.cJ.bP⟩:bC),s.2.dl⟩:av)=cj (t.T b N / t.T b j):=h2;rw[this];exact akl (a1 n aU ah) (a1 b (by omega) lo));by_cases bf:t.T n N / t.T n j<t.T b N / t.T b j
     ·rw[dw bf] at g8
      refine⟨((n:Int),cj (t.T n N / t.T n j)),fh (cz g1 (aI g2 (cz g3 (aI g4 (aI (qz (iE n aU j ay)) (l4 bM (cz g5 (aI g6 (aI g7 (fs (aI g8 (fh ?_)))))))))))),.inr ⟨n,rfl,by omega,ah,rfl,fun i aa jT=> ?_⟩⟩
      ·simp only;rw[iP]
      by_cases c:i=n
      ·subst c;exact .inr ⟨rfl,dD _⟩
      rcases J i (by omega) jT with h|⟨h,-⟩
      ·left;grind
      left;rw[<- h];exact bf
     rw[dA bf] at g8;by_cases cx:t.T b N / t.T b j<t.T n N / t.T n j
     ·rw[dw cx] at g8
      refine⟨s,fh (cz g1 (aI g2 (cz g3 (aI g4 (aI (qz (iE n aU j ay)) (l4 bM (cz g5 (aI g6 (aI g7 (fs (aI g8 (fs (jF (by decide) ?_))))))))))))),.inr ⟨b,h1,by omega,lo,h2,fun i aa jT=> ?_⟩⟩
      ·simp only;rw[iP]
      by_cases c:i=n
      ·subst c;exact .inl cx
      exact J i (by omega) jT
     rw[dA cx] at g8;have QH:t.T b N / t.T b j=t.T n N / t.T n j:=(by grind);have L6:0<=((n:Nat):Int)/\((n:Nat):Int)<((cX m t).length:Nat):=(by unfold cX;rw[c0];omega);have L7:(cX m t)[((n:Nat):Int).toNat]? = some ((t.B n:Nat):Int):=(by rw[dy];exact gd aU);have aaj:0<=s.1/\s.1<((cX m t).length:Nat):=(by unfold cX;rw[c0];omega);have aak:(cX m t)[s.1.toNat]? = some ((t.B b:Nat):Int):=(by rw[h1,dy];exact gd (by omega));by_cases kO:t.B n<t.B b
     ·refine⟨((n:Int),cj (t.T n N / t.T n j)),fh (cz g1 (aI g2 (cz g3 (aI g4 (aI (qz (iE n aU j ay)) (l4 bM (cz g5 (aI g6 (aI g7 (fs (aI g8 (fs (gH rfl (cz L6 (aI L7 (cz aaj (aI aak (fh ?_)))))))))))))))))),.inr ⟨n,rfl,by omega,ah,rfl,fun i aa jT=> ?_⟩⟩
      ·simp only;rw[iP]
      by_cases c:i=n
      ·subst c;exact .inr ⟨rfl,dD _⟩
      rcases J i (by omega) jT with h|⟨h,c1⟩
      ·left;grind
      right;exact⟨by grind,by omega⟩
     refine⟨s,fh (cz g1 (aI g2 (cz g3 (aI g4 (aI (qz (iE n aU j ay)) (l4 bM (cz g5 (aI g6 (aI g7 (fs (aI g8 (fs (gH rfl (cz L6 (aI L7 (cz aaj (aI aak (fs ?_)))))))))))))))))),.inr ⟨b,h1,by omega,lo,h2,fun i aa jT=> ?_⟩⟩
     ·simp only;rw[iP]
     by_cases c:i=n
     ·subst c;exact .inr ⟨QH,by omega⟩
     exact J i (by omega) jT
    have bM:j1 (t.T n j)<=0:=(by have : ¬0<j1 (t.T n j):=fun c=>ah (tB.1 c);omega);refine⟨s,fh (cz g1 (aI g2 (cz g3 (aI g4 (aI (qz (iE n aU j ay)) (mh bM ?_)))))),?_⟩
    ·simp only;rw[iP]
    rcases c4 with ⟨h1,h2⟩|⟨b,h1,a3,lo,h2,J⟩
    ·exact .inl ⟨h1,fun i aa=>if c:i=n then c▸ah else h2 i (by omega)⟩
    exact .inr ⟨b,h1,by omega,lo,h2,fun i aa jT=>if c:i=n then (ah (c▸jT)).elim else J i (by omega) jT⟩)
  (fun s c4=>by
    refine⟨s.1,by unfold Cg;exact fs rfl,?_⟩;rcases c4 with ⟨h1,h2⟩|⟨b,h1,a3,lo,h2,J⟩
    ·exact .inl ⟨h1,h2⟩
    refine .inr ⟨b,h1,a3,lo,fun i aa jT=> ?_,fun i aa jT he=> ?_⟩
    ·rw[<- (Kr lo jT).1]
     rcases J i aa jT with h|⟨h,-⟩
     ·exact Rat.le_of_lt h
     rw[h];exact Rat.le_refl
    rw[<- (Kr lo jT).2] at he;rcases J i aa jT with h|⟨-,h⟩
    ·rw[he] at h;grind
    exact h) ((-1:Int),(⟨⟨false,[]⟩,[]⟩:av)) (.inl ⟨rfl,fun i aa=>by omega⟩)
 refine⟨r,aI ?_ rfl,h⟩;unfold T4;rw[fj,show (gO m N t).length=m from c0 ..];exact e
theorem Hh {m N:Nat}(t:b2):(iZ m N).all (qR (gO m N t))=true:=by
 rw[List.all_eq_true];intro x U;obtain⟨i,aa,rfl⟩:=OL.1 U;simp only[qR];have h1:(gO m N t).length=m:=c0 ..;have h2:(gO m N t).getD i []=hG N t i:=by rw[dO,show (gO m N t)[i]? = some (hG N t i) from gd aa];rfl
 rw[h1,h2,show (hG N t i).length=N+1 from c0 ..];simp[aa]
theorem Aa {m N:Nat}(t:b2):(iZ m N).map (iM (gO m N t))=gO m N t:=by unfold iZ;rw[XP];exact fa fun i aa=>by have h2:(gO m N t).getD i []=hG N t i:=(by rw[dO,show (gO m N t)[i]? = some (hG N t i) from gd aa];rfl);simp only[iM];rw[h2];exact apW (Nat.le_of_eq (c0 ..))
theorem aiX {m N:Nat}(hm:m<=1000)(hg:N<1000)(t:b2)(c:Nat->Rat)(deep:Bool)(G:Nat->Prop)(anE:∀j,G j-> ∀i,i<m->t.B i≠j)
 (bM : ∀j,j<N-> ∃g,wu ⟨N,gO m N t,cX m t,hM N c⟩ (j:Int) deep=some g/\((∀i,i<m->t.B i≠j)->(0<g↔G j))) :
 ∃r,M4 deep N (iZ m N) (cX m t) (hM N c) (gO m N t) (-1) 0=some r/\((r = -1/\ ∀j,j<N-> ¬G j)\/ ∃s:Nat,r=s/\s<N/\G s/\ ∀j,j<s-> ¬G j):=by
 unfold M4
 refine tv (f:=fun w:Int×Int=>y0 deep N (iZ m N) (cX m t) (hM N c) (gO m N t) w.1 w.2) (fun (i:Nat) (e:Int)=>(e,(i:Int))) N
  (fun n e=>(e = -1/\ ∀j,j<n-> ¬G j)\/ ∃s:Nat,e=s/\s<N/\G s/\ ∀j,j<s-> ¬G j) _ (fun n aU e c4=> ?_) (fun e c4=> ?_) (-1) (.inl ⟨rfl,fun j ay=>by omega⟩)
 ·rcases c4 with ⟨rfl,h⟩|⟨s,rfl,xl,xa,amW⟩
  ·left
   obtain⟨b,e1,e2⟩:=aiV hm t (N:Int) (gO m N t) (hM N c) n;obtain⟨g,g1,g2⟩:=bM n aU;unfold y0
   cases b with
   | true =>
    obtain⟨i,aa,LJ⟩:=e2.1 rfl;refine⟨-1,fh (mh (by simp) (cz (Hh t) (aI (by rw[Aa];exact e1) (gH rfl ?_)))),.inl ⟨rfl,fun j ay du=> ?_⟩⟩
    ·simp only;rw[fE (by omega)]
    by_cases c:j=n
    ·subst c;exact anE j du i aa LJ
    exact h j (by omega) du
   | false =>
    have aal : ∀i,i<m->t.B i≠n:=fun i aa e=>(by have:=e2.2 ⟨i,aa,e⟩;simp at this);by_cases du:G n
    ·refine⟨(n:Int),fh (mh (by simp) (cz (Hh t) (aI (by rw[Aa];exact e1) (jF rfl (aI (by rw[Aa];exact g1) (mh ((g2 aal).2 du) ?_)))))),.inr ⟨n,rfl,aU,du,h⟩⟩;simp only;rw[fE (by omega)]
    refine⟨-1,fh (mh (by simp) (cz (Hh t) (aI (by rw[Aa];exact e1) (jF rfl (aI (by rw[Aa];exact g1) (l4 (fun x=>du ((g2 aal).1 x)) ?_)))))),.inl ⟨rfl,fun j ay=>if c:j=n then c▸du else h j (by omega)⟩⟩;simp only;rw[fE (by omega)]
  right;exact⟨(s:Int),by unfold y0;exact fh (fs rfl),.inr ⟨s,rfl,xl,xa,amW⟩⟩
 exact⟨e,by unfold y0;exact fs rfl,c4⟩
theorem b2.ago {fe m N K:Nat}{A obj:Nat->Nat->Rat}{t:b2}(h:hy fe m N A t){j:Nat}(g:t.rO m K obj j): ∀i,i<m->t.B i≠j :=
 fun i aa e=>jb.not_zero g fun l _=>by rw[<- e];exact h.zx (obj l) aa
theorem YF {fe m N K:Nat}(hm:m<=1000)(hg:N<1000){A obj:Nat->Nat->Rat}(deep:Bool)(Inv:b2->Prop)
 (inv : ∀t,Inv t->hy fe m N A t/\t.m8 m N) (iC : ∀t r s,Inv t->pz m N K obj (fun _=>True) t r s->Inv (t.ct r s))
 (bM : ∀t,Inv t-> ∀j,j<N-> ∃g,wu ⟨N,gO m N t,cX m t,hM N (t.cw m (obj 0))⟩ (j:Int) deep=some g/\((∀i,i<m->t.B i≠j)->(0<g↔t.rO m K obj j)))
 (iE : ∀t,Inv t-> ∀i,i<m-> ∀j,j<=N->eS (t.T i j)) (a1 : ∀t,Inv t-> ∀i,i<m-> ∀j,j<=N->0<t.T i j->eS (t.T i N / t.T i j))
 (ah : ∀t,Inv t-> ∀r k,r<m->k<N->t.T r k≠0->Ls m N t (t.cw m (obj 0)) r k) (t:b2) (cl:Inv t) :
 ∃b cI,wo deep N (iZ m N) (cX m t) (hM N (t.cw m (obj 0))) (gO m N t)=some (b,cX m cI,hM N (cI.cw m (obj 0)),gO m N cI)/\Inv cI /\
  ((b=true/\ ∀j,j<N-> ¬cI.rO m K obj j)\/(b=false/\ ∃s,s<N/\cI.rO m K obj s/\ ∀i,i<m-> ¬0<cI.T i s)):=by
 obtain⟨x,eF,cI,e,⟨ZO,c4⟩,-,-,e8⟩:=V4 (fe:=fe) (m:=m) (N:=N) (K:=K) (A:=A) (obj:=obj) (bJ:=fun _=>True)
  (f:=fun w:ar×aqc×aqi=>Fl deep N (iZ m N) w.1 w.2.1 w.2.2)
  (fun a t=>a=(cX m t,hM N (t.cw m (obj 0)),gO m N t)/\Inv t)
  (fun a x t=> ∃b,x=(b,cX m t,hM N (t.cw m (obj 0)),gO m N t)/\((b=true/\ ∀j,j<N-> ¬t.rO m K obj j)\/(b=false/\ ∃s,s<N/\t.rO m K obj s/\ ∀i,i<m-> ¬0<t.T i s)))
  (fun a t dv ok l5=>by
    obtain⟨rfl,c4⟩:=dv;obtain⟨r,e1,e2⟩:=aiX hm hg t (t.cw m (obj 0)) deep (t.rO m K obj) (fun j du=>b2.ago ok du) (bM t c4);simp only;unfold Fl;rcases e2 with ⟨rfl,h⟩|⟨s,rfl,L8,du,aR⟩
    ·left;exact⟨_,aI e1 (mh (by decide) rfl),true,rfl,.inl ⟨rfl,h⟩⟩
    obtain⟨q,q1,q2⟩:=aiW hm hg t (N:Int) (hM N (t.cw m (obj 0))) (j:=s) (by omega) (iE t c4) (fun i aa jT=>a1 t c4 i aa s (by omega) jT);rcases q2 with ⟨rfl,h⟩|⟨b,rfl,a3,lo,h1,h2⟩
    ·left;exact⟨_,aI e1 (fs (cz (Hh t) (aI (by rw[Aa];exact q1) (mh (by decide) rfl)))),false,rfl,.inr ⟨rfl,s,L8,du,h⟩⟩
    right;have da:pz m N K obj (fun _=>True) t b s:=⟨L8,trivial,du,fun j ay _=>aR j ay,a3,lo,h1,h2⟩;refine⟨_,b,s,aI e1 (fs (cz (Hh t) (aI (by rw[Aa];exact q1) (fs (aI (Xp hm hg a3 (by omega) (by grind) (ah t c4 b s a3 L8 (by grind)) N) rfl))))),da,?_,iC t b s c4 da⟩;refine Prod.ext rfl (Prod.ext ?_ rfl);exact fa fun j _=>by rw[ok.Kn (obj 0) a3 L8 (by grind)])
  (a:=(cX m t,hM N (t.cw m (obj 0)),gO m N t)) (t:=t) ⟨rfl,cl⟩ (inv t cl).1 (inv t cl).2
 obtain⟨b,rfl,a3⟩:=e8;refine⟨b,cI,?_,c4,a3⟩;unfold wo;exact aI (x:=(b,cX m cI,hM N (cI.cw m (obj 0)),gO m N cI)) (by unfold T5;exact e) rfl
structure mN (p:kt) (m n:Nat) (a:Nat->Nat->Int) (b:Nat->Int):Prop where
 rows:p.ha=m
 hi:p.fC=n
 hT:p.dr.length=m*n
 HT : ∀i,i<m-> ∀j,j<n->p.dr[i*n+j]? = some (a i j)
 Mh:p.d4.length=m
 Lt : ∀i,i<m->p.d4[i]? = some (b i)
 hm:m<=20
 aU:n<=40
 xx : ∀i,i<m-> ∀j,j<n-> -100<=a i j/\a i j<=100
 u9 : ∀i,i<m-> -100<=b i/\b i<=100
theorem wY {p:kt}{m n:Nat}{a:Nat->Nat->Int}{b:Nat->Int}(h:mN p m n a b){i:Nat}(aa:i<m)(j:Nat): -100<=mi m n a b i j/\mi m n a b i j<=100:=by
 have a3:=h.u9 i aa;unfold mi lQ;by_cases c:j<n
 ·have bF:=h.xx i aa j c;rw[dw c];split<;>omega
 rw[dA c];split
 ·split<;>omega
 split<;>omega
theorem Pp {p:kt}{m n:Nat}{a:Nat->Nat->Int}{b:Nat->Int}(h:mN p m n a b){i:Nat}(aa:i<m)(j:Nat):d6 100 (dn m n a b i j) :=
 ⟨mi m n a b i j,rfl,by have:=wY h aa j;omega⟩
theorem ajC:(1000000000000000000:Int)<B 24:=by decide
theorem Og {K:Nat}{x:Rat}(h:d6 K x)(a2:K<=1000000000000000000):eS x:=by obtain⟨z,rfl,cB⟩:=h;have:=ajC;exact Xo (n:=z) (d:=1) (by decide) (by rw[show ((1:Int):Rat)=1 from rfl];grind) (by omega) (by omega)
theorem YG {p:kt}{m n:Nat}{a:Nat->Nat->Int}{b:Nat->Int}(h:mN p m n a b){i:Nat}(aa:i<m):Ds p i=some (aQ n (a i)):=by
 have hm:=h.hm;have aU:=h.aU;have h1:i*n<=20*40:=Nat.mul_le_mul (by omega) aU;have h2:(i+1)*n<=20*40:=Nat.mul_le_mul (by omega) aU;have J:(i+1)*n<=m*n:=apV _ aa;have e1:R ((i:Int)*p.fC)=((i*n:Nat):Int):=by rw[h.hi,<- Int.natCast_mul,cG (by omega) (by omega)]
 have e2:R (R ((i:Int)+1)*p.fC)=(((i+1)*n:Nat):Int):=by rw[h.hi,fE (by omega),<- Int.natCast_mul,cG (by omega) (by omega)]
 have ak:(i+1)*n=i*n+n:=Nat.succ_mul i n;unfold Ds;rw[e1,e2,dy,dy,h.hT];refine d9 (d9 (d9 ?_));congr 1;apply ap1;intro j;rw[dT,ap5];by_cases c:j<n
 ·rw[dw (by omega),h.HT i aa j c,gd c]
 rw[dA (by omega)]
 symm
 rw[List.getElem?_eq_none_iff,c0];omega
def i3 (m n:Nat)(a:Nat->Nat->Int)(b:Nat->Int)(i j:Nat):Rat:=if j<n\/j=n+m then cy i (fun k=>dn m n a b k j) else 0
theorem Y4 {p:kt}{m n:Nat}{a:Nat->Nat->Int}{b:Nat->Int}(h:mN p m n a b){i:Nat}(aa:i<=m)(j:Nat):d6 2000 (i3 m n a b i j):=by
 have hm:=h.hm;unfold i3;split
 ·exact(d6.sum fun k a2=>Pp h (by omega) j).mono (by omega)
 exact⟨0,rfl,by omega⟩
theorem afC {p:kt}{m n:Nat}{a:Nat->Nat->Int}{b:Nat->Int}(h:mN p m n a b){i:Nat}(aa:i<m)(a3:b i<0)(x0:Int)(q2:aqh)(bL:aqi)(cr:ar)(dq:aqc):
 (MT (i:Int) (aQ n (a i)) (len_ eI (aQ n (a i))) p.ha p.fC p.dr p.d4 p.h7 x0 q2 bL cr dq 0 ([]:aqc) >>= fun bS=>MU (i:Int) p.ha p.fC p.dr p.d4 p.h7 x0 q2 bL cr dq 0 bS)=some (aQ (n+m) fun j=>cj (dn m n a b i j)):=by
 have hm:=h.hm;have aU:=h.aU;have bM:lQ (b i) = -1:=by unfold lQ;rw[dw a3]
 obtain⟨s1,e1,-⟩:=ix (f:=fun w:Int×aqc=>B0 (i:Int) (aQ n (a i)) ((n:Nat):Int) p.ha p.fC p.dr p.d4 p.h7 x0 q2 bL cr dq w.1 w.2)
  (fun (k:Nat) (_:Unit)=>((k:Int),aQ k fun j=>cj (dn m n a b i j))) n (fun _ _=>True) (fun _=>aQ n fun j=>cj (dn m n a b i j))
  (fun k a2 _ _=>by
    refine⟨(),?_,trivial⟩;have bF:=h.xx i aa k a2;unfold B0;have e:R ((-1:Int)*a i k)=mi m n a b i k:=(by rw[cG (by omega) (by omega)];unfold mi;rw[dw a2,bM]);refine fh (d9 (aI (x:=a i k) (by simp only;rw[dy];exact gd a2) (aI (x:=cj (dn m n a b i k)) ?_ (cz (by simp only[dE,c0,dI,dQ];omega) ?_))))
    ·rw[e];exact sF (by have:=wY h aa k;rw[lJ];omega)
    simp only;rw[fE (by omega),lg])
  (fun _ _=>by unfold B0;exact fs rfl) () trivial
 refine aI (x:=aQ n fun j=>cj (dn m n a b i j)) (by unfold MT;rw[g9,c0];exact e1) ?_
 obtain⟨s2,e2,-⟩:=ix (f:=fun w:Int×aqc=>B1 (i:Int) p.ha p.fC p.dr p.d4 p.h7 x0 q2 bL cr dq w.1 w.2)
  (fun (k:Nat) (_:Unit)=>((k:Int),aQ (n+k) fun j=>cj (dn m n a b i j))) m (fun _ _=>True) (fun _=>aQ (n+m) fun j=>cj (dn m n a b i j))
  (fun k a2 _ _=>by
    refine⟨(),?_,trivial⟩;unfold B1
    have I8:mi m n a b i (n+k)=if k=i then 1 else 0:=by
     unfold mi;rw[dA (by omega),dA (by omega)];by_cases c:k=i
     ·rw[dw c,dw (by omega)]
     rw[dA c,dA (by omega)]
    refine mh (by simp only;rw[h.rows];omega) (q4 (fun c=> ?_) (fun c=> ?_))
    ·have A5:k=i:=(by simp at c;omega);refine aI (x:=cj (dn m n a b i (n+k))) (by unfold dn;rw[I8,dw A5];exact sF (by rw[lJ];omega)) (cz (by simp only[dE,c0,dI,dQ];omega) ?_);simp only;rw[fE (by omega),<- Nat.add_assoc,lg]
    have A5:k≠i:=(by simp at c;omega);refine aI (x:=cj (dn m n a b i (n+k))) (by unfold dn;rw[I8,dA A5];exact sF (by rw[lJ];omega)) (cz (by simp only[dE,c0,dI,dQ];omega) ?_);simp only;rw[fE (by omega),<- Nat.add_assoc,lg])
  (fun _ _=>by unfold B1;exact l4 (by simp only;rw[h.rows];omega) rfl) () trivial
 unfold MU;exact e2
theorem afD {p:kt}{m n:Nat}{a:Nat->Nat->Int}{b:Nat->Int}(h:mN p m n a b){i:Nat}(aa:i<m)(a3:¬b i<0)(x0:Int)(q2:aqh)(bL:aqi)(cr:ar)(dq:aqc):
 (MJ (i:Int) (aQ n (a i)) (len_ eI (aQ n (a i))) p.ha p.fC p.dr p.d4 p.h7 x0 q2 bL cr dq 0 ([]:aqc) >>= fun bS=>MK (i:Int) p.ha p.fC p.dr p.d4 p.h7 x0 q2 bL cr dq 0 bS)=some (aQ (n+m) fun j=>cj (dn m n a b i j)):=by
 have hm:=h.hm;have aU:=h.aU;have bM:lQ (b i)=1:=by unfold lQ;rw[dA a3]
 obtain⟨s1,e1,-⟩:=ix (f:=fun w:Int×aqc=>BM (i:Int) (aQ n (a i)) ((n:Nat):Int) p.ha p.fC p.dr p.d4 p.h7 x0 q2 bL cr dq w.1 w.2)
  (fun (k:Nat) (_:Unit)=>((k:Int),aQ k fun j=>cj (dn m n a b i j))) n (fun _ _=>True) (fun _=>aQ n fun j=>cj (dn m n a b i j))
  (fun k a2 _ _=>by
    refine⟨(),?_,trivial⟩;have bF:=h.xx i aa k a2;unfold BM;have e:R ((1:Int)*a i k)=mi m n a b i k:=(by rw[cG (by omega) (by omega)];unfold mi;rw[dw a2,bM]);refine fh (d9 (aI (x:=a i k) (by simp only;rw[dy];exact gd a2) (aI (x:=cj (dn m n a b i k)) ?_ (cz (by simp only[dE,c0,dI,dQ];omega) ?_))))
    ·rw[e];exact sF (by have:=wY h aa k;rw[lJ];omega)
    simp only;rw[fE (by omega),lg])
  (fun _ _=>by unfold BM;exact fs rfl) () trivial
 refine aI (x:=aQ n fun j=>cj (dn m n a b i j)) (by unfold MJ;rw[g9,c0];exact e1) ?_
 obtain⟨s2,e2,-⟩:=ix (f:=fun w:Int×aqc=>BN (i:Int) p.ha p.fC p.dr p.d4 p.h7 x0 q2 bL cr dq w.1 w.2)
  (fun (k:Nat) (_:Unit)=>((k:Int),aQ (n+k) fun j=>cj (dn m n a b i j))) m (fun _ _=>True) (fun _=>aQ (n+m) fun j=>cj (dn m n a b i j))
  (fun k a2 _ _=>by
    refine⟨(),?_,trivial⟩;unfold BN
    have I8:mi m n a b i (n+k)=if k=i then 1 else 0:=by
     unfold mi;rw[dA (by omega),dA (by omega)];by_cases c:k=i
     ·rw[dw c,dw (by omega)]
     rw[dA c,dA (by omega)]
    refine mh (by simp only;rw[h.rows];omega) (q4 (fun c=> ?_) (fun c=> ?_))
    ·have A5:k=i:=(by simp at c;omega);refine aI (x:=cj (dn m n a b i (n+k))) (by unfold dn;rw[I8,dw A5];exact sF (by rw[lJ];omega)) (cz (by simp only[dE,c0,dI,dQ];omega) ?_);simp only;rw[fE (by omega),<- Nat.add_assoc,lg]
    have A5:k≠i:=(by simp at c;omega);refine aI (x:=cj (dn m n a b i (n+k))) (by unfold dn;rw[I8,dA A5];exact sF (by rw[lJ];omega)) (cz (by simp only[dE,c0,dI,dQ];omega) ?_);simp only;rw[fE (by omega),<- Nat.add_assoc,lg])
  (fun _ _=>by unfold BN;exact l4 (by simp only;rw[h.rows];omega) rfl) () trivial
 unfold MK;exact e2
theorem Wg {p:kt}{m n:Nat}{a:Nat->Nat->Int}{b:Nat->Int}(h:mN p m n a b){i:Nat}(aa:i<m)(q2:aqi)(bL:aqh)(cr:ar)(a1:q2[i]? = some (aQ (n+m+1) fun j=>cj (dn m n a b i j))):
 Jw (i:Int) i (n+m+1) (((n+m+1:Nat):Nat):Int) p.ha p.fC p.dr p.d4 p.h7 ((n+m:Nat):Int) q2 bL cr 0 (aQ (n+m+1) fun j=>cj (i3 m n a b i j))=some (aQ (n+m+1) fun j=>cj (i3 m n a b (i+1) j)):=by
 have hm:=h.hm;have aU:=h.aU;have anF : ∀j,eS (dn m n a b i j):=fun j=>Og (Pp h aa j) (by omega);have f1 : ∀j,eS (i3 m n a b i j):=fun j=>Og (Y4 h (by omega) j) (by omega);have f2 : ∀j,eS (i3 m n a b (i+1) j):=fun j=>Og (Y4 h (by omega) j) (by omega);have es : ∀j,(j<n\/j=n+m)->i3 m n a b i j+dn m n a b i j=i3 m n a b (i+1) j:=fun j ay=>by unfold i3;rw[dw ay,dw ay,cy]
 have Bi : ∀j,¬(j<n\/j=n+m)->i3 m n a b i j=i3 m n a b (i+1) j:=fun j ay=>by unfold i3;rw[dA ay,dA ay]
 obtain⟨s,e,-⟩:=ix (f:=fun w:Int×aqc=>B2 (i:Int) i (n+m+1) (((n+m+1:Nat):Nat):Int) p.ha p.fC p.dr p.d4 p.h7 ((n+m:Nat):Int) q2 bL cr w.1 w.2)
  (fun (k:Nat) (_:Unit)=>((k:Int),aQ (n+m+1) fun j=>cj (if j<k then i3 m n a b (i+1) j else i3 m n a b i j))) (n+m+1) (fun _ _=>True) (fun _=>aQ (n+m+1) fun j=>cj (i3 m n a b (i+1) j))
  (fun k a2 _ _=>by
    refine⟨(),?_,trivial⟩
    have fin : ∀r,r=i3 m n a b (i+1) k->(R ((k:Int)+1),(aQ (n+m+1) fun j=>cj (if j<k then i3 m n a b (i+1) j else i3 m n a b i j)).set (0+((k:Int)).toNat) (cj r))=(((k+1:Nat):Int),aQ (n+m+1) fun j=>cj (if j<k+1 then i3 m n a b (i+1) j else i3 m n a b i j)):=by
     intro r aj;rw[fE (by omega),dy,dG,lK];congr 1;refine fa fun j _=> ?_;by_cases c:j=k
     ·subst c;rw[dw rfl,dw (by omega),aj]
     rw[dA c];by_cases cx:j<k
     ·rw[dw cx,dw (by omega)]
     rw[dA cx,dA (by omega)]
    have aaX : ∀ {x:Option ((Int×aqc)⊕aqc)},(k<n\/k=n+m)->(∀r,(R ((k:Int)+1),(aQ (n+m+1) fun j=>cj (if j<k then i3 m n a b (i+1) j else i3 m n a b i j)).set (0+((k:Int)).toNat) (cj r))=(((k+1:Nat):Int),aQ (n+m+1) fun j=>cj (if j<k+1 then i3 m n a b (i+1) j else i3 m n a b i j))->some (Sum.inl (R ((k:Int)+1),(aQ (n+m+1) fun j=>cj (if j<k then i3 m n a b (i+1) j else i3 m n a b i j)).set (0+((k:Int)).toNat) (cj r)))=x) ->
     (if 0<=(k:Int)/\(k:Int)<(((aQ (n+m+1) fun j=>cj (if j<k then i3 m n a b (i+1) j else i3 m n a b i j)).length:Nat):Int) then
       (aQ (n+m+1) fun j=>cj (if j<k then i3 m n a b (i+1) j else i3 m n a b i j))[(0+((k:Int)).toNat)]? >>= fun fZ =>
       q2[i]? >>= fun pp =>
       if 0<=(k:Int)/\(k:Int)<((n+m+1:Nat):Int) then
       pp[(0+((k:Int)).toNat)]? >>= fun ek =>
       sv fZ ek >>= fun bY =>
       if (0+((k:Int)).toNat)<(aQ (n+m+1) fun j=>cj (if j<k then i3 m n a b (i+1) j else i3 m n a b i j)).length then
       some (.inl (R ((k:Int)+(1:Int)),(aQ (n+m+1) fun j=>cj (if j<k then i3 m n a b (i+1) j else i3 m n a b i j)).set (0+((k:Int)).toNat) bY))
       else none
       else none
       else none)=x:=by
     intro x LP U;refine d9 (aI (x:=cj (i3 m n a b i k)) (by rw[dy,hK a2,dA (by omega)]) (aI a1 (d9 (aI (x:=cj (dn m n a b i k)) (by rw[dy];exact hK a2) (aI (Hg (f1 k) (anF k) (by rw[es k LP];exact f2 k)) (d9 ?_))))));exact U _ (fin _ (es k LP))
    unfold B2;refine fh (q4 (fun c=> ?_) (fun c=> ?_))
    ·have QI:k<n:=(by have:=of_decide_eq_true c;rw[h.hi] at this;simp only at this;omega);exact aaX (.inl QI) fun r aj=>by rw[aj]
    have QI : ¬k<n:=(by have:=of_decide_eq_false c;rw[h.hi] at this;simp only at this;omega);refine q4 (fun cx=> ?_) (fun cx=> ?_)
    ·have aam:k=n+m:=(by simp at cx;omega);exact aaX (.inr aam) fun r aj=>by rw[aj]
    have aam:k≠n+m:=(by simp at cx;omega);simp only;rw[fE (by omega)];congr 3;refine fa fun j _=> ?_;by_cases kO:j=k
    ·subst kO;rw[dA (by omega),dw (by omega),Bi j (by omega)]
    by_cases ta:j<k
    ·rw[dw ta,dw (by omega)]
    rw[dA ta,dA (by omega)])
  (fun _ _=>by unfold B2;refine fs ?_;simp only;congr 2;exact fa fun j ay=>by rw[dw ay]) () trivial
 unfold Jw;have bG:(aQ (n+m+1) fun j=>cj (if j<0 then i3 m n a b (i+1) j else i3 m n a b i j))=aQ (n+m+1) fun j=>cj (i3 m n a b i j):=fa fun j _=>by rw[dA (by omega)]
 rw[bG] at e;exact e
theorem r8 {K:Nat}{d x y:Rat}(bD:d6 K d)(aV:d6 K y)(h0:d≠0)(e:d*x=y)(jh:(K:Int)<B 24):eS x:=by obtain⟨z,rfl,cB⟩:=bD;obtain⟨w,rfl,hw⟩:=aV;exact Xo (n:=w) (d:=z) (fun c=>h0 (by rw[c];rfl)) e (by omega) (by omega)
@[irreducible] def eX:Nat:=nz 100 20
theorem Ej:nz 100 20=eX:=by unfold eX;rfl
theorem akm:((21*100*(eX*eX):Nat):Int)<B 24:=by decide +kernel
theorem tI:0<eX:=by decide +kernel
structure mG (m N:Nat) (A:Nat->Nat->Rat) (t:b2):Prop where
 ok:hy m m N A t
 l5:t.m8 m N
 te:t.D m A≠0
structure Small (m N:Nat) (A:Nat->Nat->Rat):Prop where
 hm:m<=20
 q6 : ∀c,c<m-> ∀j,j<=N->d6 100 (A c j)
theorem mG.A6 {m N:Nat}{A:Nat->Nat->Rat}(s:Small m N A){t:b2}(h:mG m N A t):d6 eX (t.D m A):=by refine d6.mono (xZ fun i aa c a0=>s.q6 c a0 _ (Nat.le_of_lt (h.ok.jZ i aa))) (Ej▸zN (by omega) s.hm)
theorem mG.vZ {m N:Nat}{A:Nat->Nat->Rat}(s:Small m N A){t:b2}(h:mG m N A t){i j:Nat}(aa:i<m)(ay:j<=N):d6 eX (t.T i j*t.D m A):=by
 rw[<- h.ok.yL aa ay];refine d6.mono (xZ fun k a2 c a0=> ?_) (Ej▸zN (by omega) s.hm);simp only[hQ];split
 ·exact s.q6 c a0 j ay
 exact s.q6 c a0 _ (Nat.le_of_lt (h.ok.jZ k a2))
theorem qD {k:Nat}(h:k<=21*100*(eX*eX)):((k:Nat):Int)<B 24:=by have:=akm;omega
theorem Et:eX<=21*100*(eX*eX):=by have h1:eX*1<=eX*eX:=Nat.mul_le_mul_left _ tI;omega
theorem mG.Lu {m N:Nat}{A:Nat->Nat->Rat}(s:Small m N A){t:b2}(h:mG m N A t){i j:Nat}(aa:i<m)(ay:j<=N):eS (t.T i j) :=
 r8 (h.A6 s) (h.vZ s aa ay) h.te (by grind) (qD Et)
theorem mG.Zt {m N:Nat}{A:Nat->Nat->Rat}(s:Small m N A){t:b2}(h:mG m N A t){i j:Nat}(aa:i<m)(ay:j<=N)(ah:0<t.T i j):eS (t.T i N / t.T i j) :=
 r8 (h.vZ s aa ay) (h.vZ s aa (dD _)) (fun c=>by have h1:=h.te;have:t.T i j≠0:=(by grind);grind) (by grind) (qD Et)
theorem mG.aan {m N:Nat}{A:Nat->Nat->Rat}(s:Small m N A){t:b2}(h:mG m N A t){o:Nat->Rat}(ap:∀j,j<=N->d6 100 (o j)){j:Nat}(ay:j<=N):d6 (21*100*eX) (t.cw m o j*t.D m A):=by
 have hm:=s.hm;unfold b2.cw;have e:(o j-cy m (fun i=>o (t.B i)*t.T i j))*t.D m A=o j*t.D m A-cy m (fun i=>o (t.B i)*(t.T i j*t.D m A)):=by rw[gy (f:=fun i=>o (t.B i)*(t.T i j*t.D m A)) (g:=fun i=>(o (t.B i)*t.T i j)*t.D m A) (fun i _=>by grind),wy];grind
 rw[e];refine d6.mono (((ap j ay).mul (h.A6 s)).sub (d6.sum fun i aa=>(ap _ (Nat.le_of_lt (h.ok.jZ i aa))).mul (h.vZ s aa ay))) ?_;have:m*(100*eX)<=20*(100*eX):=apV _ hm;omega
theorem yj:21*100*eX<=21*100*(eX*eX):=by have h1:eX*1<=eX*eX:=Nat.mul_le_mul_left _ tI;omega
theorem mG.Ay {m N:Nat}{A:Nat->Nat->Rat}(s:Small m N A){t:b2}(h:mG m N A t){o:Nat->Rat}(ap:∀j,j<=N->d6 100 (o j)){j:Nat}(ay:j<=N):eS (t.cw m o j) :=
 r8 ((h.A6 s).mono (Nat.le_trans (by omega:eX<=21*100*eX) (dD _))) (h.aan s ap ay) h.te (by grind) (qD yj)
theorem mG.iC {m N K:Nat}{A obj:Nat->Nat->Rat}{bJ:Nat->Prop}{t:b2}(h:mG m N A t){r k:Nat}(b:pz m N K obj bJ t r k):mG m N A (t.ct r k) :=
 ⟨b.ok h.ok,b.HP h.l5,by rw[h.ok.Ah b.aj b.bM];have h1:=b.pos;have h2:=h.te;intro c;have:t.T r k≠0:=(by grind);grind⟩
theorem mG.HU {m N:Nat}{A:Nat->Nat->Rat}(s:Small m N A){t:b2}(h:mG m N A t){o:Nat->Rat}(ap:∀j,j<=N->d6 100 (o j)){r k:Nat}(aj:r<m)(a2:k<N)(ah:t.T r k≠0)(c1:hy m m N A (t.ct r k)):Ls m N t (t.cw m o) r k:=by
 have bD:=h.te;have sR:(t.ct r k).D m A≠0:=by rw[h.ok.Ah aj a2];grind
 have fl:(t.ct r k).D m A=t.T r k*t.D m A:=h.ok.Ah aj a2;have i2:d6 eX ((t.ct r k).D m A):=d6.mono (xZ fun i aa c a0=>s.q6 c a0 _ (Nat.le_of_lt (c1.jZ i aa))) (Ej▸zN (by omega) s.hm)
 have A9 : ∀i,i<m-> ∀j,j<=N->d6 eX ((t.ct r k).T i j*(t.ct r k).D m A):=fun i aa j ay=>by
  rw[<- c1.yL aa ay];refine d6.mono (xZ fun k a2 c a0=> ?_) (Ej▸zN (by omega) s.hm);simp only[hQ];split
  ·exact s.q6 c a0 j ay
  exact s.q6 c a0 _ (Nat.le_of_lt (c1.jZ k a2))
 have Bj:d6 (21*100*(eX*eX)) (t.D m A*(t.ct r k).D m A):=((h.A6 s).mul i2).mono (by omega);have aao:t.D m A*(t.ct r k).D m A≠0:=by grind
 refine⟨fun i aa j ay=>h.Lu s aa ay,fun i aa j ay=>r8 i2 (A9 i aa j ay) sR (by grind) (qD Et),fun i aa _ j ay=> ?_,fun j ay=>h.Ay s ap ay,fun j ay=> ?_,fun j ay=> ?_⟩
 ·refine r8 Bj (((h.vZ s aa (Nat.le_of_lt a2)).mul (h.vZ s aj ay)).neg.mono (by omega)) aao ?_ (qD (dD _));rw[fl];grind
 ·rw[<- h.ok.Kn o aj a2 ah];have g2:d6 (21*100*eX) ((t.ct r k).cw m o j*(t.ct r k).D m A):=(by have hm:=s.hm;unfold b2.cw;have e:(o j-cy m (fun i=>o ((t.ct r k).B i)*(t.ct r k).T i j))*(t.ct r k).D m A=o j*(t.ct r k).D m A-cy m (fun i=>o ((t.ct r k).B i)*((t.ct r k).T i j*(t.ct r k).D m A)):=(by rw[gy (f:=fun i=>o ((t.ct r k).B i)*((t.ct r k).T i j*(t.ct r k).D m A)) (g:=fun i=>(o ((t.ct r k).B i)*(t.ct r k).T i j)*(t.ct r k).D m A) (fun i _=>by grind),wy];grind);rw[e];refine d6.mono (((ap j ay).mul i2).sub (d6.sum fun i aa=>(ap _ (Nat.le_of_lt (c1.jZ i aa))).mul (A9 i aa j ay))) ?_;have:m*(100*eX)<=20*(100*eX):=apV _ hm;omega);exact r8 (i2.mono (by omega)) g2 sR (by grind) (qD yj)
 refine r8 Bj (((h.aan s ap (Nat.le_of_lt a2)).mul (h.vZ s aj ay)).neg.mono (by rw[Nat.mul_assoc];exact dD _)) aao ?_ (qD (dD _));rw[fl];grind
theorem aiY {p:kt}{m n:Nat}{a:Nat->Nat->Int}{b:Nat->Int}(h:mN p m n a b):
 FK p=some (((n+m:Nat):Int),iZ m (n+m),cX m (kb m n a b),hM (n+m) ((kb m n a b).cw m (gP m n)),gO m (n+m) (kb m n a b)):=by
 have hm:=h.hm;have aU:=h.aU;have hg:R (p.fC+p.ha)=((n+m:Nat):Int):=by rw[h.hi,h.rows,<- Int.natCast_add,cG (by omega) (by omega)]
 unfold FK;rw[hg]
 obtain⟨s1,e1,-⟩:=ix (f:=fun w:Int×aqc=>BZ p.ha p.fC p.dr p.d4 p.h7 ((n+m:Nat):Int) w.1 w.2)
  (fun (k:Nat) (_:Unit)=>((k:Int),aQ k fun j=>cj (0:Rat))) (n+m+1) (fun _ _=>True) (fun _=>aQ (n+m+1) fun j=>cj (0:Rat))
  (fun k a2 _ _=>by refine⟨(),?_,trivial⟩;unfold BZ;refine fh (aI (x:=cj (0:Rat)) (sF (n:=0) (by rw[lJ];omega)) (cz (by simp only[dE,c0,dI,dQ];omega) ?_));simp only;rw[fE (by omega),lg])
  (fun _ _=>by unfold BZ;exact fs rfl) () trivial
 refine aI (x:=aQ (n+m+1) fun j=>cj (0:Rat)) (by unfold S8;exact e1) ?_
 obtain⟨s2,e2,-⟩:=ix (f:=fun w:Int×aqh×aqi×ar×aqc=>BO p.ha p.fC p.dr p.d4 p.h7 ((n+m:Nat):Int) w.1 w.2.1 w.2.2.1 w.2.2.2.1 w.2.2.2.2)
  (fun (i:Nat) (_:Unit)=>((i:Int),aQ i (fun k=>some (k,n+m+1)),aQ i (hG (n+m) (kb m n a b)),aQ i (fun k=>((n+k:Nat):Int)),aQ (n+m+1) fun j=>cj (i3 m n a b i j))) m (fun _ _=>True)
  (fun _=>(iZ m (n+m),gO m (n+m) (kb m n a b),cX m (kb m n a b),aQ (n+m+1) fun j=>cj (i3 m n a b m j)))
  (fun i aa _ _=>by
    refine⟨(),?_,trivial⟩;have a3:=h.u9 i aa;have hlen:((aQ (n+m) fun j=>cj (dn m n a b i j))++[cj (dn m n a b i (n+m))])=hG (n+m) (kb m n a b) i:=(lg ..).symm;have aap:(hG (n+m) (kb m n a b) i).length=n+m+1:=c0 ..;have hw:R (p.fC+(i:Int))=((n+i:Nat):Int):=(by rw[h.hi,<- Int.natCast_add,cG (by omega) (by omega)]);have du:(aQ i (hG (n+m) (kb m n a b))++[hG (n+m) (kb m n a b) i])[i]? = some (hG (n+m) (kb m n a b) i):=(by rw[<- lg];exact gd (by omega));have aaq:(aQ i (hG (n+m) (kb m n a b))).length=i:=c0 ..;have s9:mi m n a b i (n+m)=lQ (b i)*b i:=by unfold mi;rw[dA (by omega),dw rfl]
    have fin:(some (Sum.inl (R ((i:Int)+1),(aQ i (fun k=>(some (k,n+m+1):bB)))++[some (i,n+m+1)],aQ i (hG (n+m) (kb m n a b))++[hG (n+m) (kb m n a b) i],(aQ i fun k=>((n+k:Nat):Int))++[((n+i:Nat):Int)],aQ (n+m+1) fun j=>cj (i3 m n a b (i+1) j))):Option ((Int×aqh×aqi×ar×aqc)⊕(aqh×aqi×ar×aqc))) =
     some (Sum.inl (((i+1:Nat):Int),aQ (i+1) (fun k=>some (k,n+m+1)),aQ (i+1) (hG (n+m) (kb m n a b)),aQ (i+1) (fun k=>((n+k:Nat):Int)),aQ (n+m+1) fun j=>cj (i3 m n a b (i+1) j))):=by
     rw[fE (by omega),lg i (fun k=>(some (k,n+m+1):bB)),lg i (hG (n+m) (kb m n a b)),lg i (fun k=>((n+k:Nat):Int))]
    unfold BO;refine mh (by simp only;rw[h.rows];omega) (cz (by simp only;rw[h.Mh];omega) (aI (x:=b i) (by simp only;rw[dy];exact h.Lt i aa) (q4 (fun c=> ?_) (fun c=> ?_))))
    ·have pC:b i<0:=of_decide_eq_true c;have bM:lQ (b i) = -1:=(by unfold lQ;rw[dw pC]);refine aI (YG h aa) ?_;have aj:=afC h aa pC ((n+m:Nat):Int) (aQ i (fun k=>some (k,n+m+1))) (aQ i (hG (n+m) (kb m n a b))) (aQ i (fun k=>((n+k:Nat):Int))) (aQ (n+m+1) fun j=>cj (i3 m n a b i j));rw[dC,Option.bind_eq_some_iff] at aj;obtain⟨bS,jS,AZ⟩:=aj;refine aI jS (aI AZ (aI (x:=cj (dn m n a b i (n+m))) (by have e:R ((-1:Int)*b i)=mi m n a b i (n+m):=(by rw[s9,bM,cG (by omega) (by omega)]);rw[e];exact sF (by have:=wY h aa (n+m);rw[lJ];omega)) ?_));simp only;rw[hlen,aaq,aap,hw];refine d9 (aI du (aI (Wg h aa _ _ _ du) (cz (by simp only[dE,c0,dI,dQ];omega) (cz (by simp only[dE,c0,dI,dQ];omega) fin))))
    have pC : ¬b i<0:=of_decide_eq_false c;have bM:lQ (b i)=1:=(by unfold lQ;rw[dA pC]);refine aI (YG h aa) ?_;have aj:=afD h aa pC ((n+m:Nat):Int) (aQ i (fun k=>some (k,n+m+1))) (aQ i (hG (n+m) (kb m n a b))) (aQ i (fun k=>((n+k:Nat):Int))) (aQ (n+m+1) fun j=>cj (i3 m n a b i j));rw[dC,Option.bind_eq_some_iff] at aj;obtain⟨bS,jS,AZ⟩:=aj;refine aI jS (aI AZ (aI (x:=cj (dn m n a b i (n+m))) (by have e:R ((1:Int)*b i)=mi m n a b i (n+m):=(by rw[s9,bM,cG (by omega) (by omega)]);rw[e];exact sF (by have:=wY h aa (n+m);rw[lJ];omega)) ?_));simp only;rw[hlen,aaq,aap,hw];refine d9 (aI du (aI (Wg h aa _ _ _ du) (cz (by simp only[dE,c0,dI,dQ];omega) (cz (by simp only[dE,c0,dI,dQ];omega) fin)))))
  (fun _ _=>by unfold BO;exact l4 (by simp only;rw[h.rows];omega) rfl) () trivial
 have e0:(aQ (n+m+1) fun j=>cj (i3 m n a b 0 j))=aQ (n+m+1) fun j=>cj (0:Rat):=fa fun j _=>by unfold i3;split<;>rfl
 rw[e0] at e2;refine aI (x:=(iZ m (n+m),gO m (n+m) (kb m n a b),cX m (kb m n a b),aQ (n+m+1) fun j=>cj (i3 m n a b m j))) (by unfold SQ;exact e2) ?_;congr 1;refine Prod.ext rfl (Prod.ext rfl (Prod.ext rfl (Prod.ext ?_ rfl)));refine fa fun j ay=> ?_;rw[ahp];unfold i3 gP;by_cases c:j<n\/j=n+m
 ·rw[dw c,dA (by omega)];congr 1;grind
 rw[dA c,dw (by omega)];obtain⟨k,rfl⟩ : ∃k,j=n+k:=⟨j-n,by omega⟩;rw[lT (k:=k) (by omega) (fun i _ di=>by rw[wK (by omega),dA (Ne.symm di)]),wK (by omega),dw rfl,show (-1:Rat)+1=0 by grind]
theorem KM (m n j:Nat):d6 100 (gP m n j):=by
 unfold gP;split
 ·exact⟨-1,rfl,by omega⟩
 exact⟨0,rfl,by omega⟩
theorem Lv {g:Nat->Rat}:jb 1 g↔0<g 0:=by
 constructor
 ·rintro⟨l,h1,h2,-⟩;rw[show l=0 by omega] at h2;exact h2
 intro h;exact⟨0,by omega,h,fun gL aR=>by omega⟩
theorem GJ {p:kt}{m n:Nat}{a:Nat->Nat->Int}{b:Nat->Int}(h:mN p m n a b):Small m (n+m) (dn m n a b):=⟨h.hm,fun c a0 j _=>Pp h a0 j⟩
theorem ahT {p:kt}{m n:Nat}{a:Nat->Nat->Int}{b:Nat->Int}(h:mN p m n a b):
 ∃t,wo false ((n+m:Nat):Int) (iZ m (n+m)) (cX m (kb m n a b)) (hM (n+m) ((kb m n a b).cw m (gP m n))) (gO m (n+m) (kb m n a b))=some (true,cX m t,hM (n+m) (t.cw m (gP m n)),gO m (n+m) t) /\
  mG m (n+m) (dn m n a b) t/\(t.cw m (gP m n) (n+m)=0↔rs m n a b):=by
 have hm:=h.hm;have aU:=h.aU;have hc:=GJ h
 obtain⟨q,t,e,c4,e8⟩:=YF (fe:=m) (m:=m) (N:=n+m) (K:=1) (by omega) (by omega) (A:=dn m n a b) (obj:=fun _=>gP m n) false (mG m (n+m) (dn m n a b)) (fun t cl=>⟨cl.ok,cl.l5⟩) (fun t r s cl b=>cl.iC b)
  (fun t cl j ay=>⟨j1 (t.cw m (gP m n) j),ajB (by omega) _ _ _ _ (by omega) (cl.Ay hc (fun j _=>KM m n j) (by omega)),fun _=>by rw[tB];exact(Lv (g:=fun _=>t.cw m (gP m n) j)).symm⟩)
  (fun t cl i aa j ay=>cl.Lu hc aa ay) (fun t cl i aa j ay ah=>cl.Zt hc aa ay ah)
  (fun t cl r k aj a2 ah=>cl.HU hc (fun j _=>KM m n j) aj a2 ah (cl.ok.ct aj a2 ah)) (kb m n a b) ⟨XQ,WE,Xf⟩
 rcases e8 with ⟨rfl,e8⟩|⟨-,s,bM,du,hR⟩
 ·refine⟨t,e,c4,fun h0=>Vy c4.ok c4.l5 (NQ c4.l5 h0 c4.ok.jZ),fun amX=>V5 c4.ok c4.l5 (fun j ay=> ?_) amX⟩;have:=e8 j (by omega);have h2 : ¬0<t.cw m (gP m n) j:=fun c=>this (Lv.2 c);grind
 obtain⟨i,aa,ah⟩:=Ve c4.ok bM (Lv.1 du);exact(hR i aa ah).elim
def b9 (x:Rat):bC:=gK x.num
@[irreducible] def mx:Nat:=1000000000 ^ 40
theorem Zu:((mx:Nat):Int)+((mx:Nat):Int)<B 50:=by decide +kernel
theorem Pa {K:Nat}{x:Rat}(h:d6 K x):((x.num:Int):Rat)=x/\x.num.natAbs<=K:=by obtain⟨z,rfl,cB⟩:=h;rw[Rat.num_intCast];exact⟨rfl,cB⟩
theorem rk (z:Int):b9 (z:Rat)=gK z:=by unfold b9;rw[Rat.num_intCast]
theorem D9 {x:Rat}(h:d6 mx x):(L x.num.natAbs).length<=50:=by have:=Zu;have h1:=(Pa h).2;exact(ij (by omega)).2 (by omega)
theorem DP {x y:Rat}(U:d6 mx x)(aV:d6 mx y):q8 (b9 x) (b9 y)=some (b9 (x*y)):=by have h1:=D9 U;have h2:=D9 aV;obtain⟨a,rfl,-⟩:=U;obtain⟨b,rfl,-⟩:=aV;rw[Rat.num_intCast] at h1 h2;rw[rk,rk,<- aqa,rk];exact Oe (by omega) (by omega)
theorem Xq {x y:Rat}(U:d6 mx x)(aV:d6 mx y):y9 (b9 x) (b9 y)=some (b9 (x-y)):=by have gN:=Zu;obtain⟨a,rfl,bF⟩:=U;obtain⟨b,rfl,a3⟩:=aV;rw[rk,rk,<- Rat.intCast_sub,rk];exact ahO (by omega) (by omega)
theorem xX {x:Rat}(U:d6 mx x):rQ (b9 x)=some (j1 x):=by
 obtain⟨a,rfl,bF⟩:=U;rw[rk];unfold rQ j1;simp only[g9];have e:(((L a.natAbs).length:Nat):Int)=0↔a=0:=by rw[HS (by omega)];omega
 show (if (((L a.natAbs).length:Int) == 0)=true then some 0 else if decide (a<0)=true then some (-1) else some 1)=_;by_cases h0:a=0
 ·rw[dw (by rw[beq_iff_eq,e];exact h0),dw (by rw[h0];rfl)]
 have amY:(a:Rat)≠0:=fun c=>h0 (Rat.intCast_inj.1 (by rw[c];rfl));rw[dA (by rw[beq_iff_eq,e];exact h0),dA amY];have e2:(a:Rat)<0↔a<0:=by rw[show (0:Rat)=((0:Int):Rat) from rfl,Rat.intCast_lt_intCast]
 by_cases h1:a<0
 ·rw[dw (decide_eq_true h1),dw (e2.2 h1)]
 rw[dA (by simpa using h1),dA (fun c=>h1 (e2.1 c))]
theorem ag1 {x y:Rat}(U:d6 mx x)(aV:d6 mx y):ve (b9 x) (b9 y)=some (if x<y then -1 else if y<x then 1 else 0):=by have h1:=D9 U;have h2:=D9 aV;obtain⟨a,rfl,-⟩:=U;obtain⟨b,rfl,-⟩:=aV;rw[Rat.num_intCast] at h1 h2;rw[rk,rk,TR (by omega) (by omega)];unfold lP;simp only[Rat.intCast_lt_intCast]
theorem VI {x:Rat}(U:d6 mx x):sq (b9 x)=some (b9 (-x)):=by obtain⟨a,rfl,-⟩:=U;rw[rk,<- Rat.intCast_neg,rk];unfold sq;show (nH (!(decide (a<0))) (L a.natAbs)).bind _=_;rw[tu (by omega),O8];rfl
theorem wz {n:Int}(h:nR n):qu n=some (b9 (n:Rat)):=by rw[rk];exact Wd h
theorem ag2 {x y:Rat}(U:d6 mx x)(aV:d6 mx y)(Qe:d6 mx (x*y))(h0:y≠0):xC (b9 (x*y)) (b9 y)=some (b9 x):=by
 have h1:=D9 Qe;have h2:=D9 aV;obtain⟨a,rfl,-⟩:=U;obtain⟨b,rfl,-⟩:=aV;rw[<- aqa] at h1 ⊢;rw[Rat.num_intCast] at h1 h2;have a3:b≠0:=fun c=>h0 (by rw[c];rfl);rw[rk,rk,rk];unfold xC;show (wC (L (a*b).natAbs) (L b.natAbs)).bind _=_;rw[KG (i6 _) (i6 _) (fun c=>by have:=sI.1 c;omega) (by omega) (by omega),eA (by omega),eA (by omega)];have e1:((a*b).natAbs:Int) / (b.natAbs:Int)=(a.natAbs:Int):=by rw[Int.natAbs_mul,Int.natCast_mul];exact Int.mul_ediv_cancel _ (by omega)
 simp only[dx];rw[e1];show (nH (!(decide (a*b<0) == decide (b<0))) (L a.natAbs)).bind _=_;rw[tu (by omega)];simp only[dx];congr 2;rcases Int.lt_or_gt_of_ne a3 with c|c
 ·by_cases bF:a<0
  ·have : ¬a*b<0:=(by have:=Int.mul_pos_of_neg_of_neg bF c;omega);rw[decide_eq_false this,decide_eq_true c];simp only[e9,show (!(false == true))=true from rfl,if_true];omega
  by_cases cB:a=0
  ·subst cB;simp[e9]
  have:a*b<0:=Int.mul_neg_of_pos_of_neg (by omega) c;rw[decide_eq_true this,decide_eq_true c];simp only[e9,BEq.rfl,Bool.not_true,apS,if_false];omega
 by_cases bF:a<0
 ·have:a*b<0:=Int.mul_neg_of_neg_of_pos bF c;rw[decide_eq_true this,decide_eq_false (by omega)];simp only[e9,show (!(true == false))=true from rfl,if_true];omega
 have : ¬a*b<0:=by have:=Int.mul_nonneg (show 0<=a by omega) (show 0<=b by omega);omega
 rw[decide_eq_false this,decide_eq_false (by omega)];simp only[e9,BEq.rfl,Bool.not_true,apS,if_false];omega
def iU (N:Nat)(w:Rat)(t:b2)(i:Nat):aqf:=aQ (N+1) fun j=>b9 (t.T i j*w)
structure qK (m N:Nat) (w:Rat) (t:b2):Prop where
 pos:0<w
 hw:d6 (21*100*eX) w
 iE : ∀i,i<m-> ∀j,j<=N->d6 eX (t.T i j*w)
 gN : ∀i,i<m->t.B i<N
theorem Hw:21*100*eX*(21*100*eX)+21*100*eX*(21*100*eX)<=mx:=by decide +kernel
theorem alH {q i:Nat}(a1:0<q)(aa:i<=20):21*100*q*100+i*(q*100)<=21*100*q*(21*100*q):=by have h1:i*(q*100)<=20*(q*100):=apV _ aa;have h2:21*100*q*2100<=21*100*q*(21*100*q):=Nat.mul_le_mul_left _ (by omega);generalize 21*100*q*(21*100*q)=z at *;omega
theorem alI {i:Nat}(aa:i<=20):21*100*eX*100+i*(eX*100)<=mx :=
 Nat.le_trans (alH tI aa) (Nat.le_trans (Nat.le_add_right _ _) Hw)
theorem w6 {K:Nat}(h:K<=21*100*eX):K<=mx:=by have amZ:=Hw;have h1:21*100*eX*1<=21*100*eX*(21*100*eX):=Nat.mul_le_mul_left _ (by have:=tI;generalize eX=q at *;omega);rw[Nat.mul_one] at h1;exact Nat.le_trans h (Nat.le_trans h1 (Nat.le_trans (Nat.le_add_right _ _) amZ))
theorem X0 {m N:Nat}(hm:m<=20)(hg:N<1000){w:Rat}{t:b2}(h:qK m N w t)(o:Nat->Int)(ap:∀j,j<N-> -100<=o j/\o j<=100)(kK:bC)(Ev:kK=b9 w)(hi:Int)(free:aqj){k:Nat}(a2:k<N):
 CX ⟨aQ m (iU N w t),kK,cX m t,hi,free⟩ (aQ N o) (k:Int)=some (j1 (t.cw m (fun j=>(o j:Rat)) k)):=by
 subst Ev;have apz:=tI;have small : ∀ {x:Rat} {K:Nat},d6 K x->K<=21*100*eX->d6 mx x:=fun h1 h2=>h1.mono (w6 h2);have ao : ∀j,j<N->d6 100 ((o j:Int):Rat):=fun j ay=>⟨o j,rfl,by have:=ap j ay;omega⟩;have aar : ∀j,j<N->nR (o j):=fun j ay=>by have:=ap j ay;rw[lJ];omega
 let S:Nat->Rat:=fun i=>w*(o k:Rat)-cy i (fun i=>(t.T i k*w)*(o (t.B i):Rat))
 have yN : ∀i,i<=m->d6 mx (S i):=fun i aa=>by have e1:d6 (21*100*eX*100) (w*(o k:Rat)):=h.hw.mul (ao k a2);have e2:d6 (i*(eX*100)) (cy i (fun i=>(t.T i k*w)*(o (t.B i):Rat))):=d6.sum fun fA kH=>(h.iE fA (by omega) k (by omega)).mul (ao _ (h.gN fA (by omega)));exact(e1.sub e2).mono (alI (by omega))
 unfold CX;refine d9 (aI (x:=o k) (by rw[dy];exact gd a2) (aI (wz (aar k a2)) (aI (DP (small h.hw (dD _)) (small (ao k a2) (by omega))) ?_)))
 obtain⟨s,e,-⟩:=ix (f:=fun q:Int×Bool×ar=>BK (aQ m (iU N w t)) (b9 w).cD (b9 w).bP (cX m t) hi free (aQ N o) (k:Int) ((m:Nat):Int) q.1 q.2.1 q.2.2)
  (fun (i:Nat) (_:Unit)=>((i:Int),(b9 (S i)).cD,(b9 (S i)).bP)) m (fun _ _=>True) (fun _=>((b9 (S m)).cD,(b9 (S m)).bP))
  (fun i aa _ _=>by
    refine⟨(),?_,trivial⟩;have L9:=h.gN i aa;have IQ:S (i+1)=S i-(t.T i k*w)*(o (t.B i):Rat):=(by simp only[S,cy];grind);unfold BK;refine fh (cz (by unfold cX;rw[c0];simp only;omega) (aI (x:=((t.B i:Nat):Int)) (by simp only;rw[dy];exact gd aa) (d9 (aI (x:=o (t.B i)) (by rw[dy];exact gd L9) (q4 (fun c=> ?_) (fun c=> ?_))))))
    ·refine d9 (aI (x:=iU N w t i) (by simp only;rw[dy];exact gd aa) (cz (by unfold iU;rw[c0];omega) (aI (x:=b9 (t.T i k*w)) (by rw[dy];exact gd (by omega)) (aI (xX (small (h.iE i aa k (by omega)) (by omega))) (q4 (fun cx=> ?_) (fun cx=> ?_))))))
     ·refine aI (wz (aar _ L9)) (aI (DP (small (h.iE i aa k (by omega)) (by omega)) (small (ao _ L9) (by omega))) (aI (Xq (yN i (by omega)) (by
       exact small ((h.iE i aa k (by omega)).mul (ao _ L9)) (by omega))) ?_))
      simp only;rw[fE (by omega),IQ]
     have cB:t.T i k*w=0:=pS.1 (by simpa using cx);simp only;rw[fE (by omega),IQ,cB,show S i-0*(o (t.B i):Rat)=S i by grind]
    have cB:o (t.B i)=0:=(by simpa using c);simp only;rw[fE (by omega),IQ,cB,show S i-t.T i k*w*((0:Int):Rat)=S i by rw[show ((0:Int):Rat)=0 from rfl];grind])
  (fun _ _=>by unfold BK;exact fs rfl) () trivial
 have e0:S 0=w*(o k:Rat):=by simp only[S,cy];grind
 rw[e0] at e;refine aI (x:=((b9 (S m)).cD,(b9 (S m)).bP)) (by unfold SH;rw[g9,show (cX m t).length=m from c0 ..];exact e) (aI (x:=j1 (S m)) (xX (yN m (dD _))) ?_);congr 1;have e2:S m=w*t.cw m (fun j=>(o j:Rat)) k:=by simp only[S];unfold b2.cw;rw[gy (f:=fun i=>t.T i k*w*(o (t.B i):Rat)) (g:=fun i=>w*((o (t.B i):Rat)*t.T i k)) (fun i _=>by grind),ki];grind
 rw[e2];have ah:=h.pos;unfold j1;by_cases c:t.cw m (fun j=>(o j:Rat)) k=0
 ·rw[dw c,dw (by rw[c];grind)]
 rw[dA c,dA (by grind)];by_cases cx:t.cw m (fun j=>(o j:Rat)) k<0
 ·rw[dw cx,dw];have:=Rat.mul_pos ah (show 0 < -(t.cw m (fun j=>(o j:Rat)) k) by grind);grind
 rw[dA cx,dA];have:=Rat.mul_pos ah (show 0<t.cw m (fun j=>(o j:Rat)) k by grind);grind
theorem Xr {x y z v w:Rat}(hw:0<w)(aV:0<y)(bh:0<v):(x*w)*(v*w)<(z*w)*(y*w)↔x / y<z / v:=by
 have e1:(x*w)*(v*w)=(x / y)*((y*v)*(w*w)):=by grind
 have e2:(z*w)*(y*w)=(z / v)*((y*v)*(w*w)):=by grind
 have ah:0<(y*v)*(w*w):=Rat.mul_pos (Rat.mul_pos aV bh) (Rat.mul_pos hw hw);rw[e1,e2];constructor
 ·intro h;apply Classical.byContradiction;intro c;have:z / v<=x / y:=(by grind);have:=Rat.mul_le_mul_of_nonneg_right this (Rat.le_of_lt ah);grind
 intro h;exact Rat.mul_lt_mul_of_pos_right h ah
theorem D0 {x w:Rat}(hw:0<w):j1 (x*w)=j1 x:=by
 unfold j1;by_cases c:x=0
 ·rw[dw c,dw (by rw[c];grind)]
 rw[dA c,dA (by grind)];by_cases cx:x<0
 ·rw[dw cx,dw];have:=Rat.mul_pos (show 0 < -x by grind) hw;grind
 rw[dA cx,dA];have:=Rat.mul_pos (show 0<x by grind) hw;grind
theorem ag3 {m N:Nat}(hm:m<=20)(hg:N<1000){w:Rat}{t:b2}(h:qK m N w t)(kK:bC)(free:aqj){k:Nat}(a2:k<=N):
 ∃r,Fp ⟨aQ m (iU N w t),kK,cX m t,(N:Int),free⟩ (k:Int)=some r/\KL m N t k r:=by
 have hw:=h.pos;have qo : ∀i,i<m-> ∀j,j<=N->d6 mx (t.T i j*w):=fun i aa j ay=>(h.iE i aa j ay).mono (w6 (by have:=tI;generalize eX=q at *;omega));have I9 : ∀i,i<m-> ∀j,j<=N-> ∀fA,fA<m-> ∀jx,jx<=N->d6 mx (t.T i j*w*(t.T fA jx*w)):=fun i aa j ay fA kH jx vO=>((h.iE i aa j ay).mul (h.iE fA kH jx vO)).mono (by refine Nat.le_trans ?_ (Nat.le_trans (Nat.le_add_right _ _) Hw);exact Nat.mul_le_mul (by generalize eX=q;omega) (by generalize eX=q;omega));unfold Fp
 obtain⟨r,e,aj⟩:=tv (f:=fun q:Int×Int=>Bz (aQ m (iU N w t)) kK.cD kK.bP (cX m t) (N:Int) free (k:Int) ((m:Nat):Int) q.1 q.2)
  (fun (i:Nat) (s:Int)=>(s,(i:Int))) m
  (fun n s=>(s = -1/\ ∀i,i<n-> ¬0<t.T i k)\/ ∃b:Nat,s=b/\b<n/\0<t.T b k/\ ∀i,i<n->0<t.T i k->t.T b N / t.T b k<t.T i N / t.T i k\/(t.T b N / t.T b k=t.T i N / t.T i k/\t.B b<=t.B i))
  (fun r=>KL m N t k r)
  (fun n aU s c4=>by
    left;unfold Bz;have g1:0<=((n:Nat):Int)/\((n:Nat):Int)<((aQ m (iU N w t)).length:Nat):=(by rw[c0];omega);have g2:(aQ m (iU N w t))[((n:Nat):Int).toNat]? = some (iU N w t n):=(by rw[dy];exact gd aU);have g3 : ∀b,0<=((k:Nat):Int)/\((k:Nat):Int)<((iU N w t b).length:Nat):=fun b=>(by unfold iU;rw[c0];omega);have g4 : ∀b,(iU N w t b)[((k:Nat):Int).toNat]? = some (b9 (t.T b k*w)):=fun b=>(by rw[dy];exact gd (by omega));have g5 : ∀b,0<=((N:Nat):Int)/\((N:Nat):Int)<((iU N w t b).length:Nat):=fun b=>(by unfold iU;rw[c0];omega);have g6 : ∀b,(iU N w t b)[((N:Nat):Int).toNat]? = some (b9 (t.T b N*w)):=fun b=>(by rw[dy];exact gd (by omega));have iP:R ((n:Int)+1)=((n+1:Nat):Int):=fE (by omega);have sV:rQ (b9 (t.T n k*w))=some (j1 (t.T n k)):=(by rw[xX (qo n aU k a2),D0 hw]);by_cases ah:0<t.T n k
    ·have bM : ¬j1 (t.T n k)<=0:=by have:=tB.2 ah;omega
     rcases c4 with ⟨h1,h2⟩|⟨b,h1,a3,lo,J⟩
     ·refine⟨(n:Int),fh (cz g1 (aI g2 (cz (g3 n) (aI (g4 n) (aI sV (l4 bM (fh ?_))))))),.inr ⟨n,rfl,by omega,ah,fun i aa jT=> ?_⟩⟩
      ·simp only;rw[iP]
      by_cases c:i=n
      ·subst c;exact .inr ⟨rfl,dD _⟩
      exact(h2 i (by omega) jT).elim
     subst h1;have L6:0<=((b:Nat):Int)/\((b:Nat):Int)<((aQ m (iU N w t)).length:Nat):=(by rw[c0];omega);have L7:(aQ m (iU N w t))[((b:Nat):Int).toNat]? = some (iU N w t b):=by rw[dy];exact gd (by omega)
     have gc:ve (b9 (t.T n N*w*(t.T b k*w))) (b9 (t.T b N*w*(t.T n k*w)))=some (if t.T n N / t.T n k<t.T b N / t.T b k then -1 else if t.T b N / t.T b k<t.T n N / t.T n k then 1 else 0):=by
      rw[ag1 (I9 n aU N (by omega) b (by omega) k a2) (I9 b (by omega) N (by omega) n aU k a2)];have r1:=Xr (x:=t.T n N) (y:=t.T n k) (z:=t.T b N) (v:=t.T b k) hw ah lo;have r2:=Xr (x:=t.T b N) (y:=t.T b k) (z:=t.T n N) (v:=t.T n k) hw lo ah;by_cases bf:t.T n N / t.T n k<t.T b N / t.T b k
      ·rw[dw bf,dw (r1.2 bf)]
      rw[dA bf,dA (fun c=>bf (r1.1 c))];by_cases cx:t.T b N / t.T b k<t.T n N / t.T n k
      ·rw[dw cx,dw (r2.2 cx)]
      rw[dA cx,dA (fun c=>cx (r2.1 c))]
     have lead : ∀ {x r:Option ((Int×Int)⊕Int)} {f:Int->Option ((Int×Int)⊕Int)} {q:Int},ve (b9 (t.T n N*w*(t.T b k*w))) (b9 (t.T b N*w*(t.T n k*w)))=some q->f q=r ->
      (if 0<=((N:Nat):Int)/\((N:Nat):Int)<((iU N w t n).length:Nat) then
        (iU N w t n)[((N:Nat):Int).toNat]? >>= fun mM =>
        if 0<=((b:Nat):Int)/\((b:Nat):Int)<((aQ m (iU N w t)).length:Nat) then
        (aQ m (iU N w t))[((b:Nat):Int).toNat]? >>= fun oQ =>
        if 0<=((k:Nat):Int)/\((k:Nat):Int)<(oQ.length:Nat) then
        oQ[((k:Nat):Int).toNat]? >>= fun uZ =>
        q8 mM uZ >>= fun l2 =>
        if 0<=((N:Nat):Int)/\((N:Nat):Int)<(oQ.length:Nat) then
        oQ[((N:Nat):Int).toNat]? >>= fun xk =>
        q8 xk (b9 (t.T n k*w)) >>= fun qi =>
        ve l2 qi >>= f
        else none else none else none else none)=r:=fun a1 cq =>
      cz (g5 n) (aI (g6 n) (cz L6 (aI L7 (cz (g3 b) (aI (g4 b) (aI (DP (qo n aU N (by omega)) (qo b (by omega) k a2)) (cz (g5 b) (aI (g6 b) (aI (DP (qo b (by omega) N (by omega)) (qo n aU k a2)) (aI a1 cq))))))))))
     by_cases bf:t.T n N / t.T n k<t.T b N / t.T b k
     ·rw[dw bf] at gc
      refine⟨(n:Int),fh (cz g1 (aI g2 (cz (g3 n) (aI (g4 n) (aI sV (l4 bM (fs (lead (x:=none) gc (fh ?_))))))))),.inr ⟨n,rfl,by omega,ah,fun i aa jT=> ?_⟩⟩
      ·simp only;rw[iP]
      by_cases c:i=n
      ·subst c;exact .inr ⟨rfl,dD _⟩
      rcases J i (by omega) jT with h|⟨h,-⟩
      ·left;grind
      left;rw[<- h];exact bf
     rw[dA bf] at gc;by_cases cx:t.T b N / t.T b k<t.T n N / t.T n k
     ·rw[dw cx] at gc
      refine⟨(b:Int),fh (cz g1 (aI g2 (cz (g3 n) (aI (g4 n) (aI sV (l4 bM (fs (lead (x:=none) gc (fs (jF (by decide) ?_)))))))))),.inr ⟨b,rfl,by omega,lo,fun i aa jT=> ?_⟩⟩
      ·simp only;rw[iP]
      by_cases c:i=n
      ·subst c;exact .inl cx
      exact J i (by omega) jT
     rw[dA cx] at gc;have QH:t.T b N / t.T b k=t.T n N / t.T n k:=(by grind);have aas:0<=((n:Nat):Int)/\((n:Nat):Int)<((cX m t).length:Nat):=(by unfold cX;rw[c0];omega);have aat:(cX m t)[((n:Nat):Int).toNat]? = some ((t.B n:Nat):Int):=(by rw[dy];exact gd aU);have aau:0<=((b:Nat):Int)/\((b:Nat):Int)<((cX m t).length:Nat):=(by unfold cX;rw[c0];omega);have aav:(cX m t)[((b:Nat):Int).toNat]? = some ((t.B b:Nat):Int):=(by rw[dy];exact gd (by omega));by_cases kO:t.B n<t.B b
     ·refine⟨(n:Int),fh (cz g1 (aI g2 (cz (g3 n) (aI (g4 n) (aI sV (l4 bM (fs (lead (x:=none) gc (fs (gH rfl (cz aas (aI aat (cz aau (aI aav (fh ?_))))))))))))))),.inr ⟨n,rfl,by omega,ah,fun i aa jT=> ?_⟩⟩
      ·simp only;rw[iP]
      by_cases c:i=n
      ·subst c;exact .inr ⟨rfl,dD _⟩
      rcases J i (by omega) jT with h|⟨h,c1⟩
      ·left;grind
      right;exact⟨by grind,by omega⟩
     refine⟨(b:Int),fh (cz g1 (aI g2 (cz (g3 n) (aI (g4 n) (aI sV (l4 bM (fs (lead (x:=none) gc (fs (gH rfl (cz aas (aI aat (cz aau (aI aav (fs ?_))))))))))))))),.inr ⟨b,rfl,by omega,lo,fun i aa jT=> ?_⟩⟩
     ·simp only;rw[iP]
     by_cases c:i=n
     ·subst c;exact .inr ⟨QH,by omega⟩
     exact J i (by omega) jT
    have bM:j1 (t.T n k)<=0:=(by have : ¬0<j1 (t.T n k):=fun c=>ah (tB.1 c);omega);refine⟨s,fh (cz g1 (aI g2 (cz (g3 n) (aI (g4 n) (aI sV (mh bM ?_)))))),?_⟩
    ·simp only;rw[iP]
    rcases c4 with ⟨h1,h2⟩|⟨b,h1,a3,lo,J⟩
    ·exact .inl ⟨h1,fun i aa=>if c:i=n then c▸ah else h2 i (by omega)⟩
    exact .inr ⟨b,h1,by omega,lo,fun i aa jT=>if c:i=n then (ah (c▸jT)).elim else J i (by omega) jT⟩)
  (fun s c4=>by
    refine⟨s,by unfold Bz;exact fs rfl,?_⟩;rcases c4 with ⟨h1,h2⟩|⟨b,h1,a3,lo,J⟩
    ·exact .inl ⟨h1,h2⟩
    refine .inr ⟨b,h1,a3,lo,fun i aa jT=> ?_,fun i aa jT he=> ?_⟩
    ·rw[<- (Kr lo jT).1]
     rcases J i aa jT with h|⟨h,-⟩
     ·exact Rat.le_of_lt h
     rw[h];exact Rat.le_refl
    rw[<- (Kr lo jT).2] at he;rcases J i aa jT with h|⟨-,h⟩
    ·rw[he] at h;grind
    exact h) (-1:Int) (.inl ⟨rfl,fun i aa=>by omega⟩)
 refine⟨r,aI ?_ rfl,aj⟩;unfold RW;rw[fj,c0];exact e
def iv (m N:Nat)(h:Nat->Nat):aqh:=aQ m fun i=>some (h i,N+1)
structure mU (m N M:Nat) (h:Nat->Nat) (w:Rat) (t:b2) (fc:aqg):Prop where
 len:fc.length=M
 row : ∀i,i<m->fc[h i]? = some (iU N w t i)
theorem JT {α:Type}{l:List α}{i:Nat}{x y:α}(h:l[i]? = some x):(l.set i y)[i]? = some y:=by rw[apT,dw rfl,dw (apX.1 h).1]
theorem N2 {α:Type}{l:List α}{i k:Nat}{y:α}(h:i≠k):(l.set i y)[k]? = l[k]? := by rw[apT,dA h]
theorem set_set {α:Type}(l:List α)(i:Nat)(x y:α):(l.set i x).set i y=l.set i y:=by rw[List.set_set]
structure w7 (m N:Nat) (w:Rat) (t:b2) (r k:Nat):Prop where
 aj:r<m
 a2:k<N
 ah:t.T r k≠0
 E3 : ∀i,i<m-> ∀j,j<=N->d6 eX ((t.ct r k).T i j*(t.T r k*w))
theorem aiZ {m N:Nat}(hg:N<1000){h:Nat->Nat}{w:Rat}{t:b2}{r k:Nat}(f:qK m N w t)(g:w7 m N w t r k){i:Nat}(aa:i<m)(E2:i≠r)(di:h i≠h r){fc:aqg}(h1:fc[h i]? = some (iU N w t i))(h2:fc[h r]? = some (iU N w t r))
 (x1 x2:Int) (an:Int) (q1:aqh) (q2:ar) (bL:aqj) (v1 v2:Int) :
 Mx v1 v2 (some (h r,N+1)) (some (h i,N+1)) x1 x2 (((N+1:Nat):Nat):Int) (b9 w).cD (b9 w).bP an q1 q2 bL (b9 (t.T r k*w)).cD (b9 (t.T r k*w)).bP (b9 (t.T i k*w)).cD (b9 (t.T i k*w)).bP 0 fc=some (fc.set (h i) (iU N (t.T r k*w) (t.ct r k) i)):=by
 have hw:=f.pos;have qo : ∀i,i<m-> ∀j,j<=N->d6 mx (t.T i j*w):=fun i aa j ay=>(f.iE i aa j ay).mono (w6 (by have:=tI;generalize eX=q at *;omega));have anG:d6 mx w:=f.hw.mono (w6 (dD _));have anH : ∀i,i<m-> ∀j,j<=N->d6 mx ((t.ct r k).T i j*(t.T r k*w)):=fun i aa j ay=>(g.E3 i aa j ay).mono (w6 (by have:=tI;generalize eX=q at *;omega));have I9 : ∀i,i<m-> ∀j,j<=N-> ∀fA,fA<m-> ∀jx,jx<=N->d6 mx (t.T i j*w*(t.T fA jx*w)):=fun i aa j ay fA kH jx vO=>((f.iE i aa j ay).mul (f.iE fA kH jx vO)).mono (by refine Nat.le_trans ?_ (Nat.le_trans (Nat.le_add_right _ _) Hw);exact Nat.mul_le_mul (by generalize eX=q;omega) (by generalize eX=q;omega));have am0 : ∀j,j<=N->d6 mx ((t.ct r k).T i j*(t.T r k*w)*w):=fun j ay=>((g.E3 i aa j ay).mul f.hw).mono (by refine Nat.le_trans ?_ (Nat.le_trans (Nat.le_add_right _ _) Hw);exact Nat.mul_le_mul (by generalize eX=q;omega) (dD _));have aj:=g.aj;have a2:=g.a2;have ah:=g.ah;have xw : ∀j,(t.ct r k).T i j=t.T i j-t.T i k*(t.T r j / t.T r k):=fun j=>by simp[b2.ct,E2]
 have PU:w≠0:=by grind
 unfold Mx
 obtain⟨s,e,-⟩:=ix (f:=fun q:Int×aqg=>BA v1 v2 (some (h r,N+1)) (some (h i,N+1)) x1 x2 (((N+1:Nat):Nat):Int) (b9 w).cD (b9 w).bP an q1 q2 bL (b9 (t.T r k*w)).cD (b9 (t.T r k*w)).bP (b9 (t.T i k*w)).cD (b9 (t.T i k*w)).bP q.1 q.2)
  (fun (c:Nat) (_:Unit)=>((c:Int),fc.set (h i) (aQ (N+1) fun j=>if j<c then b9 ((t.ct r k).T i j*(t.T r k*w)) else b9 (t.T i j*w)))) (N+1) (fun _ _=>True)
  (fun _=>fc.set (h i) (iU N (t.T r k*w) (t.ct r k) i))
  (fun c a0 _ _=>by
    refine⟨(),?_,trivial⟩
    have fin:(some (Sum.inl (R ((c:Int)+1),(fc.set (h i) (aQ (N+1) fun j=>if j<c then b9 ((t.ct r k).T i j*(t.T r k*w)) else b9 (t.T i j*w))).set (h i) ((aQ (N+1) fun j=>if j<c then b9 ((t.ct r k).T i j*(t.T r k*w)) else b9 (t.T i j*w)).set (0+((c:Int)).toNat) (b9 ((t.ct r k).T i c*(t.T r k*w)))))):Option ((Int×aqg)⊕aqg)) =
     some (Sum.inl (((c+1:Nat):Int),fc.set (h i) (aQ (N+1) fun j=>if j<c+1 then b9 ((t.ct r k).T i j*(t.T r k*w)) else b9 (t.T i j*w)))):=by
     rw[fE (by omega),dy,dG,set_set,lK];congr 4;refine fa fun j _=> ?_;by_cases bf:j=c
     ·subst bf;rw[dw rfl,dw (by omega)]
     rw[dA bf];by_cases cx:j<c
     ·rw[dw cx,dw (by omega)]
     rw[dA cx,dA (by omega)]
    have jL:xC (b9 ((t.ct r k).T i c*(t.T r k*w)*w)) (b9 w)=some (b9 ((t.ct r k).T i c*(t.T r k*w))):=ag2 (anH i aa c (by omega)) anG (am0 c (by omega)) PU;unfold BA;refine fh (aI (x:=(h i,N+1)) rfl (aI (x:=aQ (N+1) fun j=>if j<c then b9 ((t.ct r k).T i j*(t.T r k*w)) else b9 (t.T i j*w)) (by simp only;exact JT h1) (d9 (aI (x:=b9 (t.T i c*w)) (by simp only;rw[dy,hK a0,dA (by omega)]) ?_))));refine aI (DP (qo i aa c (by omega)) (qo r aj k (by omega))) (aI (xX (qo i aa k (by omega))) (q4 (fun d=> ?_) (fun d=> ?_)))
    ·refine aI (x:=(h r,N+1)) rfl (aI (x:=iU N w t r) (by simp only;rw[N2 di];exact h2) (d9 (aI (x:=b9 (t.T r c*w)) (by simp only;rw[dy];exact hK a0) (aI (xX (qo r aj c (by omega))) (q4 (fun d2=> ?_) (fun d2=> ?_))))))
     ·refine aI (DP (qo i aa k (by omega)) (qo r aj c (by omega))) (aI (Xq (I9 i aa c (by omega) r aj k (by omega)) (I9 i aa k (by omega) r aj c (by omega))) (aI ?_ fin));rw[show t.T i c*w*(t.T r k*w)-t.T i k*w*(t.T r c*w)=(t.ct r k).T i c*(t.T r k*w)*w by rw[xw];grind];exact jL
     have cB:t.T r c=0:=(by have:=pS.1 (by simpa using d2);grind);refine aI ?_ fin;rw[show t.T i c*w*(t.T r k*w)=(t.ct r k).T i c*(t.T r k*w)*w by rw[xw,cB];grind];exact jL
    have cB:t.T i k=0:=(by have:=pS.1 (by simpa using d);grind);refine aI ?_ fin;rw[show t.T i c*w*(t.T r k*w)=(t.ct r k).T i c*(t.T r k*w)*w by rw[xw,cB];grind];exact jL)
  (fun _ _=>by unfold BA;refine fs ?_;simp only;congr 3;exact fa fun j ay=>by rw[dw ay]) () trivial
 have e0:fc.set (h i) (aQ (N+1) fun j=>if j<0 then b9 ((t.ct r k).T i j*(t.T r k*w)) else b9 (t.T i j*w))=fc:=by
  have:(aQ (N+1) fun j=>if j<0 then b9 ((t.ct r k).T i j*(t.T r k*w)) else b9 (t.T i j*w))=iU N w t i:=fa fun j _=>(by rw[dA (by omega)]);rw[this];apply ap1;intro c;rw[apT];split
  ·rename_i e;subst e;rw[dw (apX.1 h1).1,h1]
  rfl
 rw[e0] at e;exact e
theorem ai0 {m N:Nat}(hg:N<1000){h:Nat->Nat}{w:Rat}{t:b2}(iE:∀i,i<m-> ∀j,j<=N->d6 eX (t.T i j*w)){i:Nat}(aa:i<m){fc:aqg}(h1:fc[h i]? = some (iU N w t i))
 (x1 x2:Int) (iW:Bool) (jM:ar) (an:Int) (q1:aqh) (q2:ar) (bL:aqj) :
 Mz (some (h i,N+1)) x1 x2 (((N+1:Nat):Nat):Int) iW jM an q1 q2 bL 0 fc=some (fc.set (h i) (iU N (-w) t i)):=by
 have qo : ∀j,j<=N->d6 mx (t.T i j*w):=fun j ay=>(iE i aa j ay).mono (w6 (by have:=tI;generalize eX=q at *;omega));unfold Mz
 obtain⟨s,e,-⟩:=ix (f:=fun q:Int×aqg=>BC (some (h i,N+1)) x1 x2 (((N+1:Nat):Nat):Int) iW jM an q1 q2 bL q.1 q.2)
  (fun (c:Nat) (_:Unit)=>((c:Int),fc.set (h i) (aQ (N+1) fun j=>if j<c then b9 (t.T i j * -w) else b9 (t.T i j*w)))) (N+1) (fun _ _=>True)
  (fun _=>fc.set (h i) (iU N (-w) t i))
  (fun c a0 _ _=>by
    refine⟨(),?_,trivial⟩;unfold BC;refine fh (aI (x:=(h i,N+1)) rfl (aI (x:=aQ (N+1) fun j=>if j<c then b9 (t.T i j * -w) else b9 (t.T i j*w)) (by simp only;exact JT h1) (d9 (aI (x:=b9 (t.T i c*w)) (by simp only;rw[dy,hK a0,dA (by omega)]) (aI (VI (qo c (by omega))) ?_)))));simp only;rw[fE (by omega),dy,dG,set_set,lK];congr 4;refine fa fun j _=> ?_;by_cases bf:j=c
    ·subst bf;rw[dw rfl,dw (by omega)];congr 1;grind
    rw[dA bf];by_cases cx:j<c
    ·rw[dw cx,dw (by omega)]
    rw[dA cx,dA (by omega)])
  (fun _ _=>by unfold BC;refine fs ?_;simp only;congr 3;exact fa fun j ay=>by rw[dw ay]) () trivial
 have e0:fc.set (h i) (aQ (N+1) fun j=>if j<0 then b9 (t.T i j * -w) else b9 (t.T i j*w))=fc:=by
  have:(aQ (N+1) fun j=>if j<0 then b9 (t.T i j * -w) else b9 (t.T i j*w))=iU N w t i:=fa fun j _=>(by rw[dA (by omega)]);rw[this];apply ap1;intro c;rw[apT];split
  ·rename_i e;subst e;rw[dw (apX.1 h1).1,h1]
  rfl
 rw[e0] at e;exact e
def rz (w:Rat)(t:b2)(r k:Nat):Rat:=if 0<t.T r k then t.T r k*w else -(t.T r k*w)
theorem X1 {m N M:Nat}(hm:m<=20)(hg:N<1000){h:Nat->Nat}(inj:∀i,i<m-> ∀k,k<m->h i=h k->i=k){w:Rat}{t:b2}{r k:Nat}(f:qK m N w t)(g:w7 m N w t r k){fc:aqg}(gB:mU m N M h w t fc)(hi:Int)(free:aqj):
 ∃lk,Cs r k (b9 w).cD (b9 w).bP hi (iv m N h) fc (cX m t) free=some ((b9 (rz w t r k)).cD,(b9 (rz w t r k)).bP,lk,cX m (t.ct r k))/\mU m N M h (rz w t r k) (t.ct r k) lk:=by
 have aj:=g.aj;have a2:=g.a2;have ah:=g.ah;have hw:=f.pos;have qo : ∀i,i<m-> ∀j,j<=N->d6 mx (t.T i j*w):=fun i aa j ay=>(f.iE i aa j ay).mono (w6 (by have:=tI;generalize eX=q at *;omega));have vb:iU N (t.T r k*w) (t.ct r k) r=iU N w t r:=fa fun j _=>by simp only[b2.ct,if_true];congr 1;grind
 have E9:(iv m N h).length=m:=c0 ..;unfold Cs
 obtain⟨p1,e1,ko,r1⟩:=ix (f:=fun q:Int×aqg=>BB (r:Int) (k:Int) (some (h r,N+1)) ((m:Nat):Int) (b9 w).cD (b9 w).bP hi (iv m N h) (cX m t) free (b9 (t.T r k*w)).cD (b9 (t.T r k*w)).bP q.1 q.2)
  (fun (i:Nat) (p:aqg)=>((i:Int),p)) m (fun n p=>p.length=M/\ ∀i,i<m->p[h i]? = some (if i=r\/i<n then iU N (t.T r k*w) (t.ct r k) i else iU N w t i)) (fun p=>p)
  (fun n aU p c4=>by
    obtain⟨aR,c4⟩:=c4;unfold BB;by_cases c:n=r
    ·subst c
     refine⟨p,fh (cz (by rw[E9];simp only;omega) (aI (x:=some (h n,N+1)) (by simp only;rw[dy];exact hK aU) (gH (by simp) ?_))),aR,fun i aa=> ?_⟩
     ·simp only;rw[fE (by omega)]
     rw[c4 i aa];by_cases bf:i=n\/i<n
     ·rw[dw bf,dw (by omega)]
     rw[dA bf,dA (by omega)]
    have di:h n≠h r:=fun e=>c (inj n aU r aj e);have h1:p[h n]? = some (iU N w t n):=(by rw[c4 n aU,dA (by omega)]);have h2:p[h r]? = some (iU N w t r):=(by rw[c4 r aj,dw (.inl rfl),vb]);refine⟨p.set (h n) (iU N (t.T r k*w) (t.ct r k) n),fh (cz (by rw[E9];simp only;omega) (aI (x:=some (h n,N+1)) (by simp only;rw[dy];exact hK aU) (jF (by simp;omega) (aI (x:=(h n,N+1)) rfl (aI h1 (d9 (aI (x:=b9 (t.T n k*w)) (by rw[dy];exact hK (by omega)) (aI (aiZ hg f g aU c di h1 h2 _ _ _ _ _ _ _ _) ?_)))))))),by rw[List.length_set];exact aR,fun i aa=> ?_⟩
    ·simp only;rw[fE (by omega)]
    by_cases bf:i=n
    ·subst bf;rw[JT h1,dw (.inr (by omega))]
    rw[N2 (fun e=>bf (inj i aa n aU e.symm)),c4 i aa];by_cases cx:i=r\/i<n
    ·rw[dw cx,dw (by omega)]
    rw[dA cx,dA (by omega)])
  (fun p _=>by unfold BB;exact fs rfl) fc ⟨gB.len,fun i aa=>by
    rw[gB.row i aa];by_cases c:i=r
    ·rw[dw (.inl c),c,vb]
    rw[dA (by omega)]⟩
 have A2 : ∀i,i<m->p1[h i]? = some (iU N (t.T r k*w) (t.ct r k) i):=fun i aa=>by rw[r1 i aa,dw (.inr aa)]
 have alJ:(cX m t).set (0+((r:Int)).toNat) (k:Int)=cX m (t.ct r k):=by rw[dy,dG];unfold cX;rw[lK];exact fa fun i _=>by simp only[b2.ct];split<;>rfl
 have lead :
  (if 0<=(r:Int)/\(r:Int)<((iv m N h).length:Nat) then
    (iv m N h)[(0+((r:Int)).toNat)]? >>= fun x2 =>
    x2 >>= fun jU =>
    fc[jU.1]? >>= fun pp =>
    if 0<=(k:Int)/\(k:Int)<(jU.2:Nat) then
    pp[(0+((k:Int)).toNat)]? >>= fun ek =>
    My (r:Int) (k:Int) x2 (((iv m N h).length:Nat):Int) (b9 w).cD (b9 w).bP hi (iv m N h) (cX m t) free ek.cD ek.bP 0 fc >>= fun bY =>
    if 0<=(r:Int)/\(r:Int)<((cX m t).length:Nat) then
    if (0+((r:Int)).toNat)<(cX m t).length then
    rQ ek >>= fun ee =>
    if (decide ((0:Int)<ee))=true then
     some (ek.cD,ek.bP,bY,(cX m t).set (0+((r:Int)).toNat) (k:Int))
    else
     sq ek >>= fun fb =>
     Jp (((iv m N h).length:Nat):Int) fb.cD fb.bP hi (iv m N h) ((cX m t).set (0+((r:Int)).toNat) (k:Int)) free 0 bY >>= fun mr =>
     some (fb.cD,fb.bP,mr,(cX m t).set (0+((r:Int)).toNat) (k:Int))
    else none else none else none else none)=(if (decide ((0:Int)<j1 (t.T r k)))=true then
     some ((b9 (t.T r k*w)).cD,(b9 (t.T r k*w)).bP,p1,cX m (t.ct r k))
    else
     sq (b9 (t.T r k*w)) >>= fun fb =>
     Jp ((m:Nat):Int) fb.cD fb.bP hi (iv m N h) (cX m (t.ct r k)) free 0 p1 >>= fun mr =>
     some (fb.cD,fb.bP,mr,cX m (t.ct r k))):=by
  refine cz (by rw[E9];omega) (aI (x:=some (h r,N+1)) (by rw[dy];exact hK aj) (aI (x:=(h r,N+1)) rfl (aI (gB.row r aj) (d9 (aI (x:=b9 (t.T r k*w)) (by rw[dy];exact hK (by omega)) (aI (x:=p1) (by unfold My;rw[E9];exact e1) (cz (by unfold cX;rw[c0];omega) (cz (by unfold cX;rw[c0,dy];omega) (aI (xX (qo r aj k (by omega))) ?_)))))))));rw[D0 hw,alJ,E9]
 by_cases ly:0<t.T r k
 ·have yO:rz w t r k=t.T r k*w:=dw ly;refine⟨p1,lead.trans ?_,ko,fun i aa=>by rw[yO];exact A2 i aa⟩;rw[yO];exact mh (tB.2 ly) rfl
 have yO:rz w t r k = -(t.T r k*w):=dA ly
 obtain⟨p2,e2,lq,r2⟩:=ix (f:=fun q:Int×aqg=>BD ((m:Nat):Int) (b9 (-(t.T r k*w))).cD (b9 (-(t.T r k*w))).bP hi (iv m N h) (cX m (t.ct r k)) free q.1 q.2)
  (fun (i:Nat) (p:aqg)=>((i:Int),p)) m (fun n p=>p.length=M/\ ∀i,i<m->p[h i]? = some (if i<n then iU N (-(t.T r k*w)) (t.ct r k) i else iU N (t.T r k*w) (t.ct r k) i)) (fun p=>p)
  (fun n aU p c4=>by
    obtain⟨aR,c4⟩:=c4;have h1:p[h n]? = some (iU N (t.T r k*w) (t.ct r k) n):=(by rw[c4 n aU,dA (by omega)]);unfold BD;refine⟨p.set (h n) (iU N (-(t.T r k*w)) (t.ct r k) n),fh (cz (by rw[E9];simp only;omega) (aI (x:=some (h n,N+1)) (by simp only;rw[dy];exact hK aU) (aI (x:=(h n,N+1)) rfl (aI h1 (aI (ai0 hg g.E3 aU h1 _ _ _ _ _ _ _ _) ?_))))),by rw[List.length_set];exact aR,fun i aa=> ?_⟩
    ·simp only;rw[fE (by omega)]
    by_cases bf:i=n
    ·subst bf;rw[JT h1,dw (by omega)]
    rw[N2 (fun e=>bf (inj i aa n aU e.symm)),c4 i aa];by_cases cx:i<n
    ·rw[dw cx,dw (by omega)]
    rw[dA cx,dA (by omega)])
  (fun p _=>by unfold BD;exact fs rfl) p1 ⟨ko,fun i aa=>by rw[A2 i aa,dA (by omega)]⟩
 refine⟨p2,lead.trans ?_,lq,fun i aa=>by rw[yO,r2 i aa,dw aa]⟩;rw[yO];exact l4 (fun c=>ly (tB.1 c)) (aI (VI (qo r aj k (by omega))) (aI (x:=p2) (by unfold Jp;exact e2) rfl))
theorem Vl {m:Nat}(hm:m<=1000)(t:b2)(j:Nat): ∃b,DC (cX m t) (j:Int)=some b/\(b=true↔ ∃i,i<m/\t.B i=j):=by
 unfold DC KE V7
 obtain⟨r,e,h⟩:=tv (f:=fun w:Int=>C4 (cX m t) (j:Int) ((m:Nat):Int) w) (fun (i:Nat) (_:Unit)=>(i:Int)) m (fun i _=> ∀k,k<i->t.B k≠j)
  (fun r=>(∃i:Nat,r = .inr (i:Int)/\i<m/\t.B i=j)\/(r = .inl ()/\ ¬∃i,i<m/\t.B i=j))
  (fun i aa _ c4=>by
    unfold C4;by_cases c:t.B i=j
    ·right;exact⟨_,fh (cz (by unfold cX;rw[c0];omega) (aI (x:=((t.B i:Nat):Int)) (by rw[dy];exact gd aa) (gH (by simp[c]) rfl))),.inl ⟨i,rfl,aa,c⟩⟩
    left;refine⟨(),fh (cz (by unfold cX;rw[c0];omega) (aI (x:=((t.B i:Nat):Int)) (by rw[dy];exact gd aa) (jF (by simp;omega) (by rw[fE (by omega)])))),fun k a2=> ?_⟩;by_cases e:k=i
    ·rw[e];exact c
    exact c4 k (by omega))
  (fun _ c4=>⟨_,by unfold C4;exact fs rfl,.inr ⟨rfl,fun ⟨i,aa,e⟩=>c4 i aa e⟩⟩) () (fun k a2=>by omega)
 rw[g9,show (cX m t).length=m from c0 ..];rcases h with ⟨i,rfl,h1,h2⟩|⟨rfl,h⟩
 ·exact⟨true,aI (x:=(i:Int)) (aI e rfl) (by simp),by simp only[true_iff];exact⟨i,h1,h2⟩⟩
 exact⟨false,aI (x:=(-1:Int)) (aI e rfl) rfl,by simp[h]⟩
theorem G4 {m N M:Nat}{h:Nat->Nat}{w:Rat}{t:b2}{fc:aqg}(gB:mU m N M h w t fc):(iv m N h).all (qR fc)=true:=by
 rw[List.all_eq_true];intro x U;obtain⟨i,aa,rfl⟩:=OL.1 U;simp only[qR];have h1:=gB.row i aa;have h2:fc.getD (h i) []=iU N w t i:=by rw[dO,h1];rfl
 rw[h2,show (iU N w t i).length=N+1 from c0 ..];simp[(apX.1 h1).1]
theorem zW {m N M:Nat}{h:Nat->Nat}{w:Rat}{t:b2}{fc:aqg}(gB:mU m N M h w t fc):(iv m N h).map (iM fc)=aQ m (iU N w t):=by unfold iv;rw[XP];exact fa fun i aa=>by have h2:fc.getD (h i) []=iU N w t i:=(by rw[dO,gB.row i aa];rfl);simp only[iM];rw[h2];exact apW (Nat.le_of_eq (c0 ..))
theorem aaw {m:Nat}{o:Nat->Rat}{t:b2}{j:Nat}:t.rO m 1 (fun _=>o) j↔0<t.cw m o j:=Lv (g:=fun _=>t.cw m o j)
theorem ag4 {fe m N M:Nat}{A:Nat->Nat->Rat}(hm:m<=20)(hg:N<1000){h:Nat->Nat}(inj:∀i,i<m-> ∀k,k<m->h i=h k->i=k){w:Rat}{t:b2}(ok:hy fe m N A t)(f:qK m N w t)(o:Nat->Int)(ap:∀j,j<N-> -100<=o j/\o j<=100)(dp:Nat->Bool)
 (anI : ∀r s,pz m N 1 (fun _ j=>(o j:Rat)) (fun j=>dp j=true) t r s->w7 m N w t r s) {fc:aqg} (gB:mU m N M h w t fc) :
 ∃x,Fg (N:Int) (b9 w).cD (b9 w).bP (iv m N h) fc (cX m t) (aQ N dp) (aQ N o) 0=some x /\
  ((x = .inl (false,(b9 w).cD,(b9 w).bP,fc,cX m t)/\ ∀j,j<N->dp j=true-> ¬0<t.cw m (fun j=>(o j:Rat)) j) \/
   (∃r s lk,x = .inl (true,(b9 (rz w t r s)).cD,(b9 (rz w t r s)).bP,lk,cX m (t.ct r s))/\pz m N 1 (fun _ j=>(o j:Rat)) (fun j=>dp j=true) t r s/\mU m N M h (rz w t r s) (t.ct r s) lk) \/
   (x = .inr ()/\ ∃s,s<N/\dp s=true/\0<t.cw m (fun j=>(o j:Rat)) s/\ ∀i,i<m-> ¬0<t.T i s)):=by
 unfold Fg
 refine tv (f:=fun q:Int=>Bu (N:Int) (b9 w).cD (b9 w).bP (iv m N h) fc (cX m t) (aQ N dp) (aQ N o) q) (fun (i:Nat) (_:Unit)=>(i:Int)) N
  (fun n _=> ∀j,j<n->dp j=true-> ¬0<t.cw m (fun j=>(o j:Rat)) j) _ (fun n aU _ c4=> ?_) (fun _ c4=> ?_) () (fun j ay=>by omega)
 ·have next : ∀(hR:dp n=true-> ¬0<t.cw m (fun j=>(o j:Rat)) n),∀j,j<n+1->dp j=true-> ¬0<t.cw m (fun j=>(o j:Rat)) j:=fun hR j ay=>by
   by_cases c:j=n
   ·subst c;exact hR
   ·exact c4 j (by omega)
  have g1:0<=((n:Nat):Int)/\((n:Nat):Int)<((aQ N dp).length:Nat):=(by rw[c0];omega);have g2:(aQ N dp)[(0+((n:Nat):Int).toNat)]? = some (dp n):=(by rw[dy];exact hK aU);have iP:R ((n:Int)+1)=((n+1:Nat):Int):=fE (by omega);unfold Bu;by_cases tf:dp n=true;rotate_left
  ·left;have Ma:dp n=false:=(by simpa using tf);exact⟨(),fh (cz g1 (aI g2 (jF Ma (by rw[iP])))),next fun c=>(tf c).elim⟩
  obtain⟨b,iW,jM⟩:=Vl (m:=m) (by omega) t n
  cases b with
  | true =>
   obtain⟨i,aa,gN⟩:=jM.1 rfl;left;refine⟨(),fh (cz g1 (aI g2 (gH tf (aI iW (gH rfl (by rw[iP])))))),next fun _=> ?_⟩
   rw[<- gN,ok.zx _ aa];grind
  | false =>
   have du:=X0 hm hg f o ap ((⟨(b9 w).cD,(b9 w).bP⟩:bC)) rfl (N:Int) (aQ N dp) aU;by_cases wb:0<t.cw m (fun j=>(o j:Rat)) n
   ·obtain⟨q,q1,q2⟩:=ag3 hm hg f ((⟨(b9 w).cD,(b9 w).bP⟩:bC)) (aQ N dp) (k:=n) (by omega)
    have bM : ¬j1 (t.cw m (fun j=>(o j:Rat)) n)<=0:=(by have:=tB.2 wb;omega);right;rcases q2 with ⟨rfl,h2⟩|⟨b,rfl,a3,lo,J,ak⟩
    ·exact⟨_,fh (cz g1 (aI g2 (gH tf (aI iW (jF rfl (cz (G4 gB) (aI (by rw[zW gB];exact du) (l4 bM (aI (by rw[zW gB];exact q1) (mh (by decide) rfl)))))))))),.inr (.inr ⟨rfl,n,aU,tf,wb,h2⟩)⟩
    have da:pz m N 1 (fun _ j=>(o j:Rat)) (fun j=>dp j=true) t b n:=⟨aU,tf,aaw.2 wb,fun j ay cq du=>c4 j ay cq (aaw.1 du),a3,lo,J,ak⟩;obtain⟨lk,e1,e2⟩:=X1 hm hg inj f (anI b n da) gB (N:Int) (aQ N dp);exact⟨_,fh (cz g1 (aI g2 (gH tf (aI iW (jF rfl (cz (G4 gB) (aI (by rw[zW gB];exact du) (l4 bM (aI (by rw[zW gB];exact q1) (fs (aI e1 rfl))))))))))),.inr (.inl ⟨b,n,lk,rfl,da,e2⟩)⟩
   left;have bM:j1 (t.cw m (fun j=>(o j:Rat)) n)<=0:=(by have : ¬0<j1 (t.cw m (fun j=>(o j:Rat)) n):=fun c=>wb (tB.1 c);omega);exact⟨(),fh (cz g1 (aI g2 (gH tf (aI iW (jF rfl (cz (G4 gB) (aI (by rw[zW gB];exact du) (mh bM (by rw[iP]))))))))),next fun _=>wb⟩
 exact⟨_,by unfold Bu;exact fs rfl,.inl ⟨rfl,c4⟩⟩
def yk (N:Int)(qM:aqh)(free:aqj)(obj:ar)(s:Bool×ar×aqg×ar):Option ((Bool×ar×aqg×ar)⊕((Bool×ar×aqg×ar)⊕(Bool×ar×aqg×ar))) :=
 match Fg N s.1 s.2.1 qM s.2.2.1 s.2.2.2 free obj 0 with
 | none=>none
 | some (.inl (true,b8))=>some (.inl b8)
 | some (.inl (false,b8))=>some (.inr (.inl b8))
 | some (.inr ())=>some (.inr (.inr s))
theorem ai1 {N:Int}{qM:aqh}{free:aqj}{obj:ar}: ∀s r,iter (yk N qM free obj) s=some r->Ms N qM free obj true s.1 s.2.1 s.2.2.1 s.2.2.2=some r:=by
 unfold Ms;apply iter.partial_correctness (yk N qM free obj) (fun s r=>iter (fun w:Bool×Bool×ar×aqg×ar=>yQ N qM free obj w.1 w.2.1 w.2.2.1 w.2.2.2.1 w.2.2.2.2) (true,s.1,s.2.1,s.2.2.1,s.2.2.2)=some r);intro it ih s r aj
 cases U:Fg N s.1 s.2.1 qM s.2.2.1 s.2.2.2 free obj 0 with
 | none=>unfold yk at aj;rw[U] at aj;simp at aj
 | some x =>
  have hm:yQ N qM free obj true s.1 s.2.1 s.2.2.1 s.2.2.2=match x with
   | .inl er=>(some (.inl (er.1,er.2.1,er.2.2.1,er.2.2.2.1,er.2.2.2.2)))
   | .inr er=>(some (.inr (.inr (s.1,s.2.1,s.2.2.1,s.2.2.2)))):=by
   unfold yQ;refine gH rfl ?_
   cases x with
   | inl a=>exact aI U rfl
   | inr a=>exact aI U rfl
  unfold yk at aj;rw[U] at aj;rw[iter];simp only;rw[hm]
  match x,aj with
  | .inl (true,b8),aj=>exact ih _ _ aj
  | .inl (false,b8),aj =>
   simp at aj;subst aj;show iter _ (false,b8.1,b8.2.1,b8.2.2.1,b8.2.2.2)=_;rw[iter];simp only;unfold yQ;rfl
  | .inr (),aj =>
   simp at aj;subst aj;rfl
theorem ai2 {fe m N M:Nat}{A:Nat->Nat->Rat}(hm:m<=20)(hg:N<1000){h:Nat->Nat}{w:Rat}{t:b2}(ok:hy fe m N A t)(f:qK m N w t)(o:Nat->Int)(ap:∀j,j<N-> -100<=o j/\o j<=100)(dp:Nat->Bool){fc:aqg}(gB:mU m N M h w t fc):
 Mt (N:Int) (b9 w).cD (b9 w).bP (iv m N h) fc (cX m t) (aQ N o) 0 (aQ N dp)=some (aQ N fun j=>dp j && !decide (t.cw m (fun j=>(o j:Rat)) j<0)):=by
 unfold Mt
 obtain⟨s,e,-⟩:=ix (f:=fun q:Int×aqj=>Bv (N:Int) (b9 w).cD (b9 w).bP (iv m N h) fc (cX m t) (aQ N o) q.1 q.2)
  (fun (i:Nat) (_:Unit)=>((i:Int),aQ N fun j=>if j<i then dp j && !decide (t.cw m (fun j=>(o j:Rat)) j<0) else dp j)) N (fun _ _=>True) (fun _=>aQ N fun j=>dp j && !decide (t.cw m (fun j=>(o j:Rat)) j<0))
  (fun n aU _ _=>by
    refine⟨(),?_,trivial⟩
    have same:dp n=(dp n && !decide (t.cw m (fun j=>(o j:Rat)) n<0))->(R ((n:Int)+1),aQ N fun j=>if j<n then dp j && !decide (t.cw m (fun j=>(o j:Rat)) j<0) else dp j)=(((n+1:Nat):Int),aQ N fun j=>if j<n+1 then dp j && !decide (t.cw m (fun j=>(o j:Rat)) j<0) else dp j):=fun he=>by
     rw[fE (by omega)];congr 1;refine fa fun j _=> ?_;by_cases c:j=n
     ·subst c;rw[dA (by omega),dw (by omega)];exact he
     by_cases cx:j<n
     ·rw[dw cx,dw (by omega)]
     rw[dA cx,dA (by omega)]
    have g1 : ∀F:Nat->Bool,0<=((n:Nat):Int)/\((n:Nat):Int)<((aQ N F).length:Nat):=fun F=>(by rw[c0];omega);have g2:(aQ N fun j=>if j<n then dp j && !decide (t.cw m (fun j=>(o j:Rat)) j<0) else dp j)[(0+((n:Nat):Int).toNat)]? = some (dp n):=(by rw[dy,hK aU,dA (by omega)]);unfold Bv;by_cases tf:dp n=true
    ·obtain⟨b,iW,jM⟩:=Vl (m:=m) (by omega) t n
     cases b with
     | true =>
      obtain⟨i,aa,gN⟩:=jM.1 rfl;refine fh (cz (g1 _) (aI g2 (gH tf (aI iW (gH rfl ?_)))));simp only;rw[same];rw[<- gN,ok.zx _ aa,decide_eq_false (by grind)];simp
     | false =>
      have du:=X0 hm hg f o ap ((⟨(b9 w).cD,(b9 w).bP⟩:bC)) rfl (N:Int) (aQ N fun j=>if j<n then dp j && !decide (t.cw m (fun j=>(o j:Rat)) j<0) else dp j) aU
      have bM:j1 (t.cw m (fun j=>(o j:Rat)) n)<0↔t.cw m (fun j=>(o j:Rat)) n<0:=by
       unfold j1;by_cases c:t.cw m (fun j=>(o j:Rat)) n=0
       ·rw[dw c,c];constructor
        ·intro h;omega
        intro h;grind
       rw[dA c];by_cases cx:t.cw m (fun j=>(o j:Rat)) n<0
       ·rw[dw cx];simp[cx]
       rw[dA cx];constructor
       ·intro h;omega
       intro h;exact(cx h).elim
      by_cases wb:t.cw m (fun j=>(o j:Rat)) n<0
      ·refine fh (cz (g1 _) (aI g2 (gH tf (aI iW (jF rfl (cz (G4 gB) (aI (by rw[zW gB];exact du) (mh (bM.2 wb) (d9 ?_)))))))))
       simp only;rw[fE (by omega),dy,dG,lK];congr 3;refine fa fun j _=> ?_;by_cases c:j=n
       ·subst c;rw[dw rfl,dw (by omega),decide_eq_true wb];simp
       rw[dA c];by_cases cx:j<n
       ·rw[dw cx,dw (by omega)]
       rw[dA cx,dA (by omega)]
      refine fh (cz (g1 _) (aI g2 (gH tf (aI iW (jF rfl (cz (G4 gB) (aI (by rw[zW gB];exact du) (l4 (fun c=>wb (bM.1 c)) ?_))))))));simp only;rw[same];rw[decide_eq_false wb];simp
    have Ma:dp n=false:=(by simpa using tf);refine fh (cz (g1 _) (aI g2 (jF Ma ?_)));simp only;rw[same];rw[Ma];simp)
  (fun _ _=>by unfold Bv;refine fs ?_;simp only;congr 2;exact fa fun j ay=>by rw[dw ay]) () trivial
 have e0:(aQ N fun j=>if j<0 then dp j && !decide (t.cw m (fun j=>(o j:Rat)) j<0) else dp j)=aQ N dp:=fa fun j _=>by rw[dA (by omega)]
 rw[e0] at e;exact e
theorem VJ {fe m N M:Nat}{A:Nat->Nat->Rat}(hm:m<=20)(hg:N<1000){h:Nat->Nat}(inj:∀i,i<m-> ∀k,k<m->h i=h k->i=k)(o:Nat->Int)(ap:∀j,j<N-> -100<=o j/\o j<=100)(dp:Nat->Bool)
 (Inv:Rat->b2->Prop) (inv : ∀w t,Inv w t->hy fe m N A t/\t.m8 m N/\qK m N w t)
 (iC : ∀w t r s,Inv w t->pz m N 1 (fun _ j=>(o j:Rat)) (fun j=>dp j=true) t r s->w7 m N w t r s/\Inv (rz w t r s) (t.ct r s)) {w:Rat} {t:b2} (c4:Inv w t) {fc:aqg} (gB:mU m N M h w t fc) :
 ∃b bZ cI lk mW,we (b9 w).cD (b9 w).bP (N:Int) (iv m N h) fc (cX m t) (aQ N dp) (aQ N o)=some (b,(b9 bZ).cD,(b9 bZ).bP,lk,cX m cI,aQ N mW)/\Inv bZ cI/\mU m N M h bZ cI lk /\
  ((b=true/\(∀j,j<N->dp j=true-> ¬0<cI.cw m (fun j=>(o j:Rat)) j)/\mW=fun j=>dp j && !decide (cI.cw m (fun j=>(o j:Rat)) j<0))\/(b=false/\ ∃s,s<N/\dp s=true/\0<cI.cw m (fun j=>(o j:Rat)) s/\ ∀i,i<m-> ¬0<cI.T i s)):=by
 obtain⟨ok,l5,IU⟩:=inv w t c4
 obtain⟨x,eF,cI,e,-,-,-,bZ,lk,h1,h2,J⟩:=V4 (fe:=fe) (m:=m) (N:=N) (K:=1) (A:=A) (obj:=fun _ j=>(o j:Rat)) (bJ:=fun j=>dp j=true)
  (f:=yk (N:Int) (iv m N h) (aQ N dp) (aQ N o))
  (fun s t=> ∃w fc,s=((b9 w).cD,(b9 w).bP,fc,cX m t)/\Inv w t/\mU m N M h w t fc)
  (fun s x t=> ∃w fc,Inv w t/\mU m N M h w t fc/\((x = .inl ((b9 w).cD,(b9 w).bP,fc,cX m t)/\ ∀j,j<N->dp j=true-> ¬0<t.cw m (fun j=>(o j:Rat)) j) \/
    (x = .inr ((b9 w).cD,(b9 w).bP,fc,cX m t)/\ ∃s,s<N/\dp s=true/\0<t.cw m (fun j=>(o j:Rat)) s/\ ∀i,i<m-> ¬0<t.T i s)))
  (fun s t dv ok _=>by
    obtain⟨w,fc,rfl,c4,gB⟩:=dv;obtain⟨x,e,U⟩:=ag4 hm hg inj ok (inv w t c4).2.2 o ap dp (fun r s b=>(iC w t r s c4 b).1) gB;rcases U with ⟨rfl,U⟩|⟨r,s,lk,rfl,da,IR⟩|⟨rfl,U⟩
    ·left;exact⟨_,by unfold yk;simp only;rw[e],w,fc,c4,gB,.inl ⟨rfl,U⟩⟩
    ·right;exact⟨_,r,s,by unfold yk;simp only;rw[e],da,rz w t r s,lk,rfl,(iC w t r s c4 da).2,IR⟩
    left;exact⟨_,by unfold yk;simp only;rw[e],w,fc,c4,gB,.inr ⟨rfl,U⟩⟩)
  (a:=((b9 w).cD,(b9 w).bP,fc,cX m t)) (t:=t) ⟨w,fc,rfl,c4,gB⟩ ok l5
 have e2:=ai1 _ _ e;obtain⟨mV,apA,am1⟩:=inv bZ cI h1;rcases J with ⟨rfl,J⟩|⟨rfl,J⟩
 ·refine⟨true,bZ,cI,lk,_,?_,h1,h2,.inl ⟨rfl,J,rfl⟩⟩;unfold we;exact aI e2 (aI (ai2 hm hg mV am1 o ap dp h2) rfl)
 refine⟨false,bZ,cI,lk,dp,?_,h1,h2,.inr ⟨rfl,J⟩⟩;unfold we;exact aI e2 rfl
def i4 (m:Nat)(A:Nat->Nat->Rat)(t:b2):Rat:=if 0<t.D m A then t.D m A else -(t.D m A)
theorem akn {m N:Nat}{A:Nat->Nat->Rat}{t:b2}(h:t.D m A≠0):0<i4 m A t:=by unfold i4;split<;>grind
theorem Ld {m K:Nat}{A:Nat->Nat->Rat}{t:b2}{x:Rat}(h:d6 K (x*t.D m A)):d6 K (x*i4 m A t):=by
 unfold i4;split
 ·exact h
 have:=h.neg;rw[show x * -(t.D m A) = -(x*t.D m A) by grind];exact this
theorem mG.tP {m N:Nat}{A:Nat->Nat->Rat}(s:Small m N A){t:b2}(h:mG m N A t):qK m N (i4 m A t) t where
 pos:=akn (N:=N) h.te
 hw:=by have h1:d6 eX (1*t.D m A):=(by rw[Rat.one_mul];exact h.A6 s);have:=Ld h1;rw[Rat.one_mul] at this;exact this.mono (by generalize eX=q;omega)
 iE:=fun i aa j ay=>Ld (h.vZ s aa ay)
 gN:=h.ok.jZ
theorem mG.Az {m N:Nat}{A:Nat->Nat->Rat}(s:Small m N A){t:b2}(h:mG m N A t){r k:Nat}(aj:r<m)(a2:k<N)(ah:t.T r k≠0):w7 m N (i4 m A t) t r k where
 aj:=aj
 a2:=a2
 ah:=ah
 E3:=fun i aa j ay=>by
  have mV:=h.ok.ct aj a2 ah
  have h1:d6 eX ((t.ct r k).T i j*(t.ct r k).D m A):=by
   rw[<- mV.yL aa ay];refine d6.mono (xZ fun ea o9 c a0=> ?_) (Ej▸zN (by omega) s.hm);simp only[hQ];split
   ·exact s.q6 c a0 j ay
   exact s.q6 c a0 _ (Nat.le_of_lt (mV.jZ ea o9))
  rw[h.ok.Ah aj a2] at h1;unfold i4;split
  ·exact h1
  have:=h1.neg;rw[show (t.ct r k).T i j*(t.T r k * -(t.D m A)) = -((t.ct r k).T i j*(t.T r k*t.D m A)) by grind];exact this
theorem Pb {m N:Nat}{A:Nat->Nat->Rat}{t:b2}(h:hy m m N A t)(bD:t.D m A≠0){r k:Nat}(aj:r<m)(a2:k<N)(ah:t.T r k≠0):rz (i4 m A t) t r k=i4 m A (t.ct r k):=by
 have e:=h.Ah aj a2;unfold rz i4;rw[e];by_cases bf:0<t.T r k<;>by_cases cx:0<t.D m A
 ·rw[dw bf,dw cx,dw (Rat.mul_pos bf cx)]
 ·have:=Rat.mul_pos bf (show 0 < -(t.D m A) by grind);rw[dw bf,dA cx,dA (by grind)];grind
 ·have:=Rat.mul_pos (show 0 < -(t.T r k) by grind) cx;rw[dA bf,dw cx,dA (by grind)]
 have:=Rat.mul_pos (show 0 < -(t.T r k) by grind) (show 0 < -(t.D m A) by grind);rw[dA bf,dA cx,dw (by grind)];grind
def iK (h:Nat->Nat)(t:b2):b2:=⟨fun i j=>t.T (h i) j,fun i=>t.B (h i)⟩
theorem GS {h:Nat->Nat}{t:b2}{r k i:Nat}(gQ:h i=h r->i=r):(∀j,((iK h t).ct r k).T i j=(iK h (t.ct (h r) k)).T i j)/\((iK h t).ct r k).B i=(iK h (t.ct (h r) k)).B i:=by
 simp only[b2.ct,iK];by_cases c:i=r
 ·subst c;simp
 have:h i≠h r:=fun e=>c (gQ e);simp[c,this]
theorem Wh {α:Type}{m i:Nat}(aa:i<m)(f:Nat->α):(aQ m f).take (i-0)++((aQ m f).drop (0+(i+1))).take (m-(i+1))=aQ (m-1) (skip i f):=by
 apply ap1;intro j;rw[Nat.sub_zero,dG];have aR:((aQ m f).take i).length=i:=by rw[List.length_take,c0];omega
 by_cases c:j<i
 ·rw[apY (by omega),dT,dw c,gd (by omega),gd (by omega)];simp only[skip];rw[dw c]
 rw[ap0 (by omega),aR,dT,ap5];by_cases cx:j<m-1
 ·rw[dw (by omega),gd (by omega),gd cx];simp only[skip];rw[dA c];congr 2;omega
 rw[dA (by omega)]
 symm
 rw[List.getElem?_eq_none_iff,c0];omega
theorem agp {m N M n:Nat}(hg:N<1000)(aU:n<=N){h:Nat->Nat}{w:Rat}{t:b2}(f:qK m N w t){fc:aqg}(gB:mU m N M h w t fc){i:Nat}(aa:i<m)(iW:Bool)(jM:ar)(an:Int)(q2:ar)(bL:aqj):
 ∃k:Nat,MA (n:Int) (i:Int) iW jM an (iv m N h) fc q2 bL 0=some (k:Int)/\k<=n/\(k<n->t.T i k≠0)/\ ∀j,j<k->t.T i j=0:=by
 unfold MA
 obtain⟨r,e,k,rfl,h1,h2,J⟩:=tv (f:=fun q:Int=>BE (n:Int) (i:Int) iW jM an (iv m N h) fc q2 bL q) (fun (c:Nat) (_:Unit)=>(c:Int)) n (fun c _=> ∀j,j<c->t.T i j=0)
  (fun r=> ∃k:Nat,r=(k:Int)/\k<=n/\(k<n->t.T i k≠0)/\ ∀j,j<k->t.T i j=0)
  (fun c a0 _ c4=>by
    have hw:=f.pos;have bM:=xX ((f.iE i aa c (by omega)).mono (w6 (by have:=tI;generalize eX=q at *;omega)));unfold BE;by_cases Mi:t.T i c=0
    ·left
     refine⟨(),fh (cz (by unfold iv;rw[c0];omega) (aI (x:=some (h i,N+1)) (by rw[dy];exact hK aa) (aI (x:=(h i,N+1)) rfl (aI (gB.row i aa) (d9 (aI (x:=b9 (t.T i c*w)) (by rw[dy];exact hK (by omega)) (aI bM (gH (by rw[D0 hw,pS.2 Mi];rfl) (by rw[fE (by omega)]))))))))),fun j ay=> ?_⟩;by_cases e:j=c
     ·rw[e];exact Mi
     exact c4 j (by omega)
    right;exact⟨_,fh (cz (by unfold iv;rw[c0];omega) (aI (x:=some (h i,N+1)) (by rw[dy];exact hK aa) (aI (x:=(h i,N+1)) rfl (aI (gB.row i aa) (d9 (aI (x:=b9 (t.T i c*w)) (by rw[dy];exact hK (by omega)) (aI bM (jF (by rw[D0 hw];exact yt (fun c=>Mi (pS.1 c))) rfl)))))))),c,rfl,by omega,fun _=>Mi,c4⟩)
  (fun _ c4=>⟨_,by unfold BE;exact fs rfl,n,rfl,dD _,fun c=>by omega,c4⟩) () (fun j ay=>by omega)
 exact⟨k,e,h1,h2,J⟩
structure n7 (m n N:Nat) (A:Nat->Nat->Rat) (t:b2) (aH:Nat) (h:Nat->Nat):Prop where
 inv:mG m N A t
 z : ∀i,i<m->n<=t.B i->t.T i N=0
 le:aH<=m
 lt : ∀i,i<aH->h i<m
 inj : ∀i,i<aH-> ∀k,k<aH->h i=h k->i=k
 dead : ∀d,d<m->(∀i,i<aH->h i≠d)->n<=t.B d/\ ∀j,j<n->t.T d j=0
theorem n7.tP {m n N aH:Nat}{A:Nat->Nat->Rat}{t:b2}{h:Nat->Nat}(s:Small m N A)(a:n7 m n N A t aH h):qK aH N (i4 m A t) (iK h t) :=
 have f:=a.inv.tP s
 ⟨f.pos,f.hw,fun i aa j ay=>f.iE (h i) (a.lt i aa) j ay,fun i aa=>f.gN (h i) (a.lt i aa)⟩
theorem n7.Az {m n N aH:Nat}{A:Nat->Nat->Rat}{t:b2}{h:Nat->Nat}(s:Small m N A)(a:n7 m n N A t aH h){r k:Nat}(aj:r<aH)(a2:k<N)(ah:t.T (h r) k≠0):w7 aH N (i4 m A t) (iK h t) r k :=
 have f:=a.inv.Az s (a.lt r aj) a2 ah
 ⟨aj,a2,ah,fun i aa j ay=>by rw[(GS (t:=t) (k:=k) (a.inj i aa r aj)).1 j];exact f.E3 (h i) (a.lt i aa) j ay⟩
theorem n7.ct {m n N aH:Nat}{A:Nat->Nat->Rat}{t:b2}{h:Nat->Nat}(QJ:n<=N)(a:n7 m n N A t aH h){r k:Nat}(aj:r<aH)(a2:k<n)(a3:n<=t.B (h r))(ah:t.T (h r) k≠0):n7 m n N A (t.ct (h r) k) aH h:=by
 have cB:=a.z (h r) (a.lt r aj) a3
 have eV : ∀i,(t.ct (h r) k).T i N=t.T i N:=fun i=>by
  simp only[b2.ct];split
  ·rename_i e;rw[e,cB];grind
  rw[cB];grind
 refine⟨⟨a.inv.ok.ct (a.lt r aj) (by omega) ah,fun i aa=>by rw[eV];exact a.inv.l5 i aa,?_⟩,fun i aa gN=> ?_,a.le,a.lt,a.inj,fun d bD hR=> ?_⟩
 ·rw[a.inv.ok.Ah (a.lt r aj) (by omega)];have:=a.inv.te;grind
 ·rw[eV]
  simp only[b2.ct] at gN;by_cases c:i=h r
  ·rw[dw c] at gN;omega
  rw[dA c] at gN;exact a.z i aa gN
 obtain⟨h1,h2⟩:=a.dead d bD hR;have di:d≠h r:=fun e=>hR r aj e.symm;simp only[b2.ct,dA di];refine⟨h1,fun j ay=> ?_⟩;rw[h2 j ay,h2 k a2];grind
theorem ahU {m n N:Nat}{A:Nat->Nat->Rat}(s:Small m N A)(hg:N<1000)(QJ:n<=N)(free:aqj){t:b2}(cl:mG m N A t)(cB:∀i,i<m->n<=t.B i->t.T i N=0){fc:aqg}(gB:mU m N m (fun i=>i) (i4 m A t) t fc):
 ∃cI aH h lk,Fq (n:Int) (b9 (i4 m A t)).cD (b9 (i4 m A t)).bP (N:Int) (iv m N fun i=>i) fc (cX m t) free=some ((b9 (i4 m A cI)).cD,(b9 (i4 m A cI)).bP,iv aH N h,lk,cX aH (iK h cI)) /\
  n7 m n N A cI aH h/\(∀i,i<aH->cI.B (h i)<n)/\mU aH N m h (i4 m A cI) (iK h cI) lk:=by
 have hm:=s.hm;unfold Fq RY
 obtain⟨x,e,cI,aH,h,lk,rfl,h1,h2,J⟩:=j5 (f:=fun w:Int×Bool×ar×aqh×aqg×ar=>Fe (n:Int) (N:Int) free w.1 w.2.1 w.2.2.1 w.2.2.2.1 w.2.2.2.2.1 w.2.2.2.2.2)
  (fun w=> ∃(i aH:Nat) (h:Nat->Nat) (t:b2) (p:aqg),w=((i:Int),(b9 (i4 m A t)).cD,(b9 (i4 m A t)).bP,iv aH N h,p,cX aH (iK h t))/\i<=aH/\n7 m n N A t aH h/\(∀q,q<i->t.B (h q)<n)/\mU aH N m h (i4 m A t) (iK h t) p)
  (fun w=>w.2.2.2.1.length-w.1.toNat)
  (fun x=> ∃cI aH h lk,x=((b9 (i4 m A cI)).cD,(b9 (i4 m A cI)).bP,iv aH N h,lk,cX aH (iK h cI))/\n7 m n N A cI aH h/\(∀i,i<aH->cI.B (h i)<n)/\mU aH N m h (i4 m A cI) (iK h cI) lk)
  (fun w hw=>by
    obtain⟨i,aH,h,t,p,rfl,aa,bF,a1,ah⟩:=hw;have lY:=bF.le;have xo:(iv aH N h).length=aH:=c0 ..;have QK:(cX aH (iK h t)).length=aH:=c0 ..;simp only;unfold Fe;by_cases c:i<aH
    ·left
     have g1:0<=(i:Int)/\(i:Int)<((cX aH (iK h t)).length:Nat):=(by rw[QK];omega);have g2:(cX aH (iK h t))[(0+((i:Int)).toNat)]? = some ((t.B (h i):Nat):Int):=(by rw[dy];exact hK c);by_cases Ja:t.B (h i)<n
     ·refine⟨(((i+1:Nat):Int),(b9 (i4 m A t)).cD,(b9 (i4 m A t)).bP,iv aH N h,p,cX aH (iK h t)),mh (by rw[xo];omega) (cz g1 (aI g2 (fh (by rw[fE (by omega)])))),⟨i+1,aH,h,t,p,rfl,by omega,bF,fun q pG=> ?_,ah⟩,by simp only[xo];omega⟩
      by_cases e:q=i
      ·rw[e];exact Ja
      exact a1 q (by omega)
     obtain⟨k,kN,j3,oU,I5⟩:=agp hg QJ (bF.tP s) ah c (b9 (i4 m A t)).cD (b9 (i4 m A t)).bP (N:Int) (cX aH (iK h t)) free;by_cases Q1:k<n
     ·have QL:t.T (h i) k≠0:=oU Q1
      obtain⟨mf,e1,e2⟩:=X1 (by omega) hg bF.inj (bF.tP s) (bF.Az s c (by omega) QL) ah (N:Int) free;have yO:rz (i4 m A t) (iK h t) i k=i4 m A (t.ct (h i) k):=Pb bF.inv.ok bF.inv.te (bF.lt i c) (by omega) QL;have anJ:cX aH ((iK h t).ct i k)=cX aH (iK h (t.ct (h i) k)):=fa fun q pG=>(by have:=(GS (t:=t) (k:=k) (bF.inj q pG i c)).2;rw[this]);rw[yO,anJ] at e1;rw[yO] at e2;refine⟨(((i+1:Nat):Int),(b9 (i4 m A (t.ct (h i) k))).cD,(b9 (i4 m A (t.ct (h i) k))).bP,iv aH N h,mf,cX aH (iK h (t.ct (h i) k))),mh (by rw[xo];omega) (cz g1 (aI g2 (fs (aI kN (fh (aI e1 (by rw[fE (by omega)]))))))),⟨i+1,aH,h,t.ct (h i) k,mf,rfl,by omega,bF.ct QJ c Q1 (by omega) QL,fun q pG=> ?_,e2.len,fun q pG=> ?_⟩,by simp only[xo];omega⟩
      ·simp only[b2.ct]
       split
       ·exact Q1
       rename_i di;have:q≠i:=fun e=>di (by rw[e]);exact a1 q (by omega)
      rw[e2.row q pG];congr 1;exact fa fun j _=>by rw[(GS (t:=t) (k:=k) (bF.inj q pG i c)).1 j]
     have QI:k=n:=(by omega);have xm:R ((i:Int)+1)=((i+1:Nat):Int):=fE (by omega);have L3:(((iv aH N h).drop (0+(i+1))).take (aH-(i+1))).length=aH-(i+1):=(by rw[List.length_take,List.length_drop,xo];omega);have Ik:(((cX aH (iK h t)).drop (0+(i+1))).take (aH-(i+1))).length=aH-(i+1):=(by rw[List.length_take,List.length_drop,QK];omega);have bR:(iv aH N h).take (i-0)++((iv aH N h).drop (0+(i+1))).take (aH-(i+1))=iv (aH-1) N (skip i h):=Wh c _;have gA:(cX aH (iK h t)).take (i-0)++((cX aH (iK h t)).drop (0+(i+1))).take (aH-(i+1))=cX (aH-1) (iK (skip i h) t):=Wh c _;refine⟨((i:Int),(b9 (i4 m A t)).cD,(b9 (i4 m A t)).bP,iv (aH-1) N (skip i h),p,cX (aH-1) (iK (skip i h) t)),mh (by rw[xo];omega) (cz g1 (aI g2 (fs (aI kN (fs ?_))))),⟨i,aH-1,skip i h,t,p,rfl,by omega,⟨bF.inv,bF.z,by omega,fun q pG=> ?_,fun q pG q2 Eu e=> ?_,fun d bD hR=> ?_⟩,fun q pG=> ?_,ah.len,fun q pG=> ?_⟩,?_⟩
     ·rw[xm,dy,dy,xo,QK,L3,Ik,bR,gA];exact d9 (d9 (d9 (d9 (d9 (d9 (d9 (d9 (d9 (d9 (d9 (d9 rfl)))))))))))
     ·simp only[skip];split<;>exact bF.lt _ (by omega)
     ·simp only[skip] at e;have:=bF.inj _ (by split<;>omega) _ (by split<;>omega) e;split at this<;>split at this<;>omega
     ·by_cases aaY:d=h i
      ·rw[aaY];exact⟨by omega,fun j ay=>I5 j (by omega)⟩
      refine bF.dead d bD fun q pG=> ?_;by_cases bf:q<i
      ·have:=hR q (by omega);simp only[skip] at this;rw[dw bf] at this;exact this
      by_cases cx:q=i
      ·rw[cx];exact fun e=>aaY e.symm
      have:=hR (q-1) (by omega);simp only[skip] at this;rw[dA (by omega),show q-1+1=q by omega] at this;exact this
     ·simp only[skip];rw[dw pG];exact a1 q pG
     ·simp only[skip]
      by_cases bf:q<i
      ·rw[dw bf,ah.row q (by omega)];congr 1;exact fa fun j _=>by simp only[iK,skip];rw[dw bf]
      rw[dA bf,ah.row (q+1) (by omega)];congr 1;exact fa fun j _=>by simp only[iK,skip];rw[dA bf]
     simp only[xo,show (iv (aH-1) N (skip i h)).length=aH-1 from c0 ..];omega
    right;have am2:i=aH:=(by omega);subst am2;exact⟨_,l4 (by rw[xo];omega) rfl,t,i,h,p,rfl,bF,a1,ah⟩)
  ((0:Int),(b9 (i4 m A t)).cD,(b9 (i4 m A t)).bP,iv m N (fun i=>i),fc,cX m t)
  ⟨0,m,fun i=>i,t,fc,rfl,by omega,⟨cl,cB,dD _,fun i aa=>aa,fun i _ k _ e=>e,fun d bD hR=>(hR d bD rfl).elim⟩,fun q a1=>by omega,gB.len,gB.row⟩
 exact⟨cI,aH,h,lk,aI e rfl,h1,h2,J⟩
theorem X2:(⟨false,([]:ar)⟩:bC)=b9 0:=by show _=gK (0:Rat).num;rw[show (0:Rat).num=0 from rfl];unfold gK;rw[show L ((0:Int).natAbs:Int)=[] from sI.2 (by simp)];rfl
theorem OQ {α:Type}(l:List α)(x:α):(l++[x])[l.length]? = some x:=by simp
theorem D1 {α:Type}(l:List α)(x y:α):(l++[x]).set l.length y=l++[y]:=by simp
theorem X3 {p:kt}{m n:Nat}{a:Nat->Nat->Int}{b:Nat->Int}(h:mN p m n a b){i:Nat}(aa:i<m):CR i p.ha p.fC p.dr p.d4 p.h7=some (i*n,n):=by
 have hm:=h.hm;have aU:=h.aU;have h1:i*n<=20*40:=Nat.mul_le_mul (by omega) aU;have h2:(i+1)*n<=20*40:=Nat.mul_le_mul (by omega) aU;have J:(i+1)*n<=m*n:=apV _ aa;have e1:R ((i:Int)*p.fC)=((i*n:Nat):Int):=by rw[h.hi,<- Int.natCast_mul,cG (by omega) (by omega)]
 have e2:R (R ((i:Int)+1)*p.fC)=(((i+1)*n:Nat):Int):=by rw[h.hi,fE (by omega),<- Int.natCast_mul,cG (by omega) (by omega)]
 have ak:(i+1)*n=i*n+n:=Nat.succ_mul i n;unfold CR;rw[e1,e2,dy,dy,h.hT];refine d9 (d9 (cz ⟨by omega,J⟩ ?_));rw[show 0+i*n=i*n by omega,show (i+1)*n-i*n=n by omega]
theorem afW {p:kt}{m n:Nat}{a:Nat->Nat->Int}{b:Nat->Int}(h:mN p m n a b){i:Nat}(aa:i<m)(a3:b i<0)(x0:Int)(gb:Bool)(eL:ar)(q2:aqh)(cr:ar)(dq:aqj)(P:aqg):
 Ni x0 (i:Int) P.length (n+m+1) p.ha (i*n) n ((n:Nat):Int) p.fC p.dr p.d4 p.h7 gb eL q2 cr dq 0 (P++[aQ (n+m+1) fun _=>b9 0])=some (P++[aQ (n+m+1) fun j=>if j<n then b9 (dn m n a b i j) else b9 0]):=by
 have hm:=h.hm;have aU:=h.aU;have bM:lQ (b i) = -1:=by unfold lQ;rw[dw a3]
 unfold Ni
 obtain⟨s1,e1,-⟩:=ix (f:=fun w:Int×aqg=>Ct x0 (i:Int) P.length (n+m+1) p.ha (i*n) n ((n:Nat):Int) p.fC p.dr p.d4 p.h7 gb eL q2 cr dq w.1 w.2)
  (fun (k:Nat) (_:Unit)=>((k:Int),P++[aQ (n+m+1) fun j=>if j<k then b9 (dn m n a b i j) else b9 0])) n (fun _ _=>True) (fun _=>P++[aQ (n+m+1) fun j=>if j<n then b9 (dn m n a b i j) else b9 0])
  (fun k a2 _ _=>by
    refine⟨(),?_,trivial⟩;have bF:=h.xx i aa k a2;have e:R ((-1:Int)*a i k)=mi m n a b i k:=(by rw[cG (by omega) (by omega)];unfold mi;rw[dw a2,bM]);unfold Ct;refine fh (d9 (aI (x:=a i k) (by simp only;rw[dy];exact h.HT i aa k a2) (aI (x:=b9 (dn m n a b i k)) (by rw[e];exact wz (by have:=wY h aa k;rw[lJ];omega)) (aI (OQ _ _) (d9 (aI (by simp only;rw[dy];exact hK (by omega)) ?_))))));simp only;rw[fE (by omega),dy,dG,lK,D1];congr 5;refine fa fun j _=> ?_;by_cases bf:j=k
    ·subst bf;rw[dw rfl,dw (by omega)]
    rw[dA bf];by_cases cx:j<k
    ·rw[dw cx,dw (by omega)]
    rw[dA cx,dA (by omega)])
  (fun _ _=>by unfold Ct;exact fs rfl) () trivial
 have e0:(aQ (n+m+1) fun j=>if j<0 then b9 (dn m n a b i j) else b9 0)=aQ (n+m+1) fun _=>b9 0:=fa fun j _=>by rw[dA (by omega)]
 rw[e0] at e1;exact e1
theorem afX {p:kt}{m n:Nat}{a:Nat->Nat->Int}{b:Nat->Int}(h:mN p m n a b){i:Nat}(aa:i<m)(a3:¬b i<0)(x0:Int)(gb:Bool)(eL:ar)(q2:aqh)(cr:ar)(dq:aqj)(P:aqg):
 Nj x0 (i:Int) P.length (n+m+1) p.ha (i*n) n ((n:Nat):Int) p.fC p.dr p.d4 p.h7 gb eL q2 cr dq 0 (P++[aQ (n+m+1) fun _=>b9 0])=some (P++[aQ (n+m+1) fun j=>if j<n then b9 (dn m n a b i j) else b9 0]):=by
 have hm:=h.hm;have aU:=h.aU;have bM:lQ (b i)=1:=by unfold lQ;rw[dA a3]
 unfold Nj
 obtain⟨s1,e1,-⟩:=ix (f:=fun w:Int×aqg=>Cu x0 (i:Int) P.length (n+m+1) p.ha (i*n) n ((n:Nat):Int) p.fC p.dr p.d4 p.h7 gb eL q2 cr dq w.1 w.2)
  (fun (k:Nat) (_:Unit)=>((k:Int),P++[aQ (n+m+1) fun j=>if j<k then b9 (dn m n a b i j) else b9 0])) n (fun _ _=>True) (fun _=>P++[aQ (n+m+1) fun j=>if j<n then b9 (dn m n a b i j) else b9 0])
  (fun k a2 _ _=>by
    refine⟨(),?_,trivial⟩;have bF:=h.xx i aa k a2;have e:R ((1:Int)*a i k)=mi m n a b i k:=(by rw[cG (by omega) (by omega)];unfold mi;rw[dw a2,bM]);unfold Cu;refine fh (d9 (aI (x:=a i k) (by simp only;rw[dy];exact h.HT i aa k a2) (aI (x:=b9 (dn m n a b i k)) (by rw[e];exact wz (by have:=wY h aa k;rw[lJ];omega)) (aI (OQ _ _) (d9 (aI (by simp only;rw[dy];exact hK (by omega)) ?_))))));simp only;rw[fE (by omega),dy,dG,lK,D1];congr 5;refine fa fun j _=> ?_;by_cases bf:j=k
    ·subst bf;rw[dw rfl,dw (by omega)]
    rw[dA bf];by_cases cx:j<k
    ·rw[dw cx,dw (by omega)]
    rw[dA cx,dA (by omega)])
  (fun _ _=>by unfold Cu;exact fs rfl) () trivial
 have e0:(aQ (n+m+1) fun j=>if j<0 then b9 (dn m n a b i j) else b9 0)=aQ (n+m+1) fun _=>b9 0:=fa fun j _=>by rw[dA (by omega)]
 rw[e0] at e1;exact e1
theorem rW {α:Type}(n:Nat)(x:α):List.replicate n x=aQ n fun _=>x:=by
 apply ap1;intro i;by_cases c:i<n
 ·rw[gd c];simp[c]
 rw[List.getElem?_eq_none_iff.2 (by simp;omega),List.getElem?_eq_none_iff.2 (by rw[c0];omega)]
theorem Vm {p:kt}{m n:Nat}{a:Nat->Nat->Int}{b:Nat->Int}(h:mN p m n a b)(gb:Bool)(eL:ar)(dq:aqj):
 Nk ((n+m:Nat):Int) p.ha p.fC p.dr p.d4 p.h7 gb eL dq 0 ([]:aqh) ([]:aqg) ([]:ar)=some (iv m (n+m) (fun i=>i),aQ m (fun i=>aQ (n+m+1) fun j=>b9 (dn m n a b i j)),cX m (kb m n a b)):=by
 have hm:=h.hm;have aU:=h.aU;unfold Nk
 obtain⟨s,e,-⟩:=ix (f:=fun w:Int×aqh×aqg×ar=>Cv ((n+m:Nat):Int) p.ha p.fC p.dr p.d4 p.h7 gb eL dq w.1 w.2.1 w.2.2.1 w.2.2.2)
  (fun (i:Nat) (_:Unit)=>((i:Int),aQ i (fun k=>(some (k,n+m+1):bB)),aQ i (fun i=>aQ (n+m+1) fun j=>b9 (dn m n a b i j)),aQ i (fun k=>((n+k:Nat):Int)))) m (fun _ _=>True)
  (fun _=>(iv m (n+m) (fun i=>i),aQ m (fun i=>aQ (n+m+1) fun j=>b9 (dn m n a b i j)),cX m (kb m n a b)))
  (fun i aa _ _=>by
    refine⟨(),?_,trivial⟩;have a3:=h.u9 i aa;have iP:R (((n+m:Nat):Int)+1)=((n+m+1:Nat):Int):=fE (by omega);have hw:R (p.fC+(i:Int))=((n+i:Nat):Int):=(by rw[h.hi,<- Int.natCast_add,cG (by omega) (by omega)]);have aax:(aQ i (fun i=>aQ (n+m+1) fun j=>b9 (dn m n a b i j))).length=i:=c0 ..;have s9:mi m n a b i (n+m)=lQ (b i)*b i:=by unfold mi;rw[dA (by omega),dw rfl]
    have ev:((aQ (n+m+1) fun j=>if j<n then b9 (dn m n a b i j) else b9 0).set (n+i) (b9 ((1:Int):Rat))).set (n+m) (b9 (dn m n a b i (n+m)))=aQ (n+m+1) fun j=>b9 (dn m n a b i j):=by
     rw[lK,lK];refine fa fun j ay=> ?_;by_cases bf:j=n+m
     ·rw[dw bf,bf]
     rw[dA bf];by_cases cx:j=n+i
     ·rw[dw cx,cx,wK aa,dw rfl];rfl
     rw[dA cx];by_cases kO:j<n
     ·rw[dw kO]
     rw[dA kO];obtain⟨k,rfl⟩ : ∃k,j=n+k:=⟨j-n,by omega⟩;rw[wK (by omega),dA (by omega)]
    unfold Cv;rw[iP,hw,dy];refine mh (by simp only;rw[h.rows];omega) (d9 (cz (by simp only;rw[h.Mh];omega) (aI (x:=b i) (by simp only[dy,dG];exact h.Lt i aa) ?_)))
    have fin:(some (Sum.inl (R ((i:Int)+1),(aQ i (fun k=>(some (k,n+m+1):bB)))++[some (i,n+m+1)],(aQ i (fun i=>aQ (n+m+1) fun j=>b9 (dn m n a b i j)))++[aQ (n+m+1) fun j=>b9 (dn m n a b i j)],(aQ i fun k=>((n+k:Nat):Int))++[((n+i:Nat):Int)])):Option ((Int×aqh×aqg×ar)⊕(aqh×aqg×ar))) =
     some (Sum.inl (((i+1:Nat):Int),aQ (i+1) (fun k=>(some (k,n+m+1):bB)),aQ (i+1) (fun i=>aQ (n+m+1) fun j=>b9 (dn m n a b i j)),aQ (i+1) (fun k=>((n+k:Nat):Int)))):=by
     rw[fE (by omega),lg i (fun k=>(some (k,n+m+1):bB)),lg i (fun i=>aQ (n+m+1) fun j=>b9 (dn m n a b i j)),lg i (fun k=>((n+k:Nat):Int))]
    have U : ∀(P:aqg) (F:aqf->Option ((Int×aqh×aqg×ar)⊕(aqh×aqg×ar))) (x:aqf) r,F x=r->(P++[x])[P.length]? >>= F=r:=fun P F x r yF=>aI (OQ P x) yF;refine q4 (fun c=> ?_) (fun c=> ?_)
    ·have pC:b i<0:=of_decide_eq_true c;have bM:lQ (b i) = -1:=(by unfold lQ;rw[dw pC]);refine aI (X3 h aa) (aI (by rw[X2,rW];exact afW h aa pC _ _ _ _ _ _ _) (aI (wz (n:=1) (by rw[lJ];omega)) (U _ _ _ _ ?_)));refine d9 (aI (x:=b9 0) (by rw[dy,hK (by omega),dA (by omega)]) (aI (x:=b9 (dn m n a b i (n+m))) (by have e:R ((-1:Int)*b i)=mi m n a b i (n+m):=(by rw[s9,bM,cG (by omega) (by omega)]);rw[e];exact wz (by have:=wY h aa (n+m);rw[lJ];omega)) ?_));rw[D1,dy,dG,dy,dG];refine U _ _ _ _ (d9 ?_);obtain⟨v,bh⟩ : ∃v,((aQ (n+m+1) fun j=>if j<n then b9 (dn m n a b i j) else b9 0).set (n+i) (b9 ((1:Int):Rat)))[n+m]? = some v:=(by rw[lK,gd (by omega)];exact⟨_,rfl⟩);refine aI bh (cz (by simp only[dE,c0,dI,dQ];omega) (cz (by simp only[dE,c0,dI,dQ];omega) ?_));rw[D1];simp only[dy,dG];rw[ev,aax];exact fin
    have pC : ¬b i<0:=of_decide_eq_false c;have bM:lQ (b i)=1:=(by unfold lQ;rw[dA pC]);refine aI (X3 h aa) (aI (by rw[X2,rW];exact afX h aa pC _ _ _ _ _ _ _) (aI (wz (n:=1) (by rw[lJ];omega)) (U _ _ _ _ ?_)));refine d9 (aI (x:=b9 0) (by rw[dy,hK (by omega),dA (by omega)]) (aI (x:=b9 (dn m n a b i (n+m))) (by have e:R ((1:Int)*b i)=mi m n a b i (n+m):=(by rw[s9,bM,cG (by omega) (by omega)]);rw[e];exact wz (by have:=wY h aa (n+m);rw[lJ];omega)) ?_));rw[D1,dy,dG,dy,dG];refine U _ _ _ _ (d9 ?_);obtain⟨v,bh⟩ : ∃v,((aQ (n+m+1) fun j=>if j<n then b9 (dn m n a b i j) else b9 0).set (n+i) (b9 ((1:Int):Rat)))[n+m]? = some v:=(by rw[lK,gd (by omega)];exact⟨_,rfl⟩);refine aI bh (cz (by simp only[dE,c0,dI,dQ];omega) (cz (by simp only[dE,c0,dI,dQ];omega) ?_));rw[D1];simp only[dy,dG];rw[ev,aax];exact fin)
  (fun _ _=>by unfold Cv;exact l4 (by simp only;rw[h.rows];omega) rfl) () trivial
 exact e
def tg (n j:Nat):Int:=if n<=j then -1 else 0
theorem YH {m n j:Nat}(ay:j<n+m):((tg n j:Int):Rat)=gP m n j:=by
 unfold tg gP;by_cases c:n<=j
 ·rw[dw c,dw ⟨c,ay⟩];rfl
 rw[dA c,dA (by omega)];rfl
theorem X4 {m n:Nat}{t:b2}(gN:∀i,i<m->t.B i<n+m){j:Nat}(ay:j<n+m):t.cw m (fun j=>((tg n j:Int):Rat)) j=t.cw m (gP m n) j:=by unfold b2.cw;simp only;rw[YH ay,gy (g:=fun i=>gP m n (t.B i)*t.T i j) fun i aa=>by rw[YH (gN i aa)]]
theorem VK {p:kt}{m n:Nat}{a:Nat->Nat->Int}{b:Nat->Int}(h:mN p m n a b)(x0:Int)(gb:Bool)(eL:ar)(q2:aqh)(bL:aqg)(cr:ar):
 Nl x0 ((n+m:Nat):Int) p.ha p.fC p.dr p.d4 p.h7 gb eL q2 bL cr 0 (aQ (n+m) fun _=>(0:Int)) (aQ (n+m) fun _=>false)=some (aQ (n+m) (tg n),aQ (n+m) fun j=>decide (j<n)):=by
 have hm:=h.hm;have aU:=h.aU;unfold Nl
 obtain⟨s,e,-⟩:=ix (f:=fun w:Int×ar×aqj=>Cw x0 ((n+m:Nat):Int) p.ha p.fC p.dr p.d4 p.h7 gb eL q2 bL cr w.1 w.2.1 w.2.2)
  (fun (k:Nat) (_:Unit)=>((k:Int),(aQ (n+m) fun j=>if j<k then tg n j else 0),aQ (n+m) fun j=>if j<k then decide (j<n) else false)) (n+m) (fun _ _=>True) (fun _=>(aQ (n+m) (tg n),aQ (n+m) fun j=>decide (j<n)))
  (fun k a2 _ _=>by
    refine⟨(),?_,trivial⟩
    have e2:(aQ (n+m) fun j=>if j<k then decide (j<n) else false).set (0+((k:Int)).toNat) (decide (k<n))=aQ (n+m) fun j=>if j<k+1 then decide (j<n) else false:=by
     rw[dy,dG,lK];refine fa fun j _=> ?_;by_cases c:j=k
     ·subst c;rw[dw rfl,dw (by omega)]
     rw[dA c];by_cases cx:j<k
     ·rw[dw cx,dw (by omega)]
     rw[dA cx,dA (by omega)]
    have Jb:decide ((k:Int)<p.fC)=decide (k<n):=(by rw[h.hi];simp);unfold Cw;simp only;rw[Jb,e2,fE (by omega)];refine fh (d9 (d9 ?_));by_cases c:n<=k
    ·refine mh (by rw[h.hi];omega) (d9 (d9 ?_))
     rw[dy,dG,lK];congr 4;refine fa fun j _=> ?_;by_cases bf:j=k
     ·subst bf;rw[dw rfl,dw (by omega)];unfold tg;rw[dw c]
     rw[dA bf];by_cases cx:j<k
     ·rw[dw cx,dw (by omega)]
     rw[dA cx,dA (by omega)]
    refine l4 (by rw[h.hi];omega) ?_;congr 4;refine fa fun j _=> ?_;by_cases bf:j=k
    ·subst bf;rw[dA (by omega),dw (by omega)];unfold tg;rw[dA c]
    by_cases cx:j<k
    ·rw[dw cx,dw (by omega)]
    rw[dA cx,dA (by omega)])
  (fun _ _=>by
    unfold Cw;refine fs ?_;simp only;congr 3
    ·exact fa fun j ay=>by rw[dw ay]
    exact fa fun j ay=>by rw[dw ay]) () trivial
 have qn:(aQ (n+m) fun j=>if j<0 then tg n j else 0)=aQ (n+m) fun _=>(0:Int):=fa fun j _=>by rw[dA (by omega)]
 have Mj:(aQ (n+m) fun j=>if j<0 then decide (j<n) else false)=aQ (n+m) fun _=>false:=fa fun j _=>by rw[dA (by omega)]
 rw[qn,Mj] at e;exact e
theorem afY {p:kt}{m n:Nat}{a:Nat->Nat->Int}{b:Nat->Int}(h:mN p m n a b){w:Rat}{t:b2}(f:qK m (n+m) w t){fc:aqg}(gB:mU m (n+m) m (fun i=>i) w t fc)(gb:Bool)(eL:ar)(x0:Int)(q:aqj):
 ∃r,Nm ((n+m:Nat):Int) ((m:Nat):Int) p.ha p.fC p.dr p.d4 p.h7 gb eL x0 (cX m t) (iv m (n+m) fun i=>i) fc q 0=some r/\((r = .inr ()/\ ∃i,i<m/\n<=t.B i/\0<t.T i (n+m))\/(r = .inl ()/\ ∀i,i<m->n<=t.B i-> ¬0<t.T i (n+m))):=by
 have hm:=h.hm;have aU:=h.aU;have hw:=f.pos;unfold Nm
 exact tv (f:=fun w:Int=>Cx ((n+m:Nat):Int) ((m:Nat):Int) p.ha p.fC p.dr p.d4 p.h7 gb eL x0 (cX m t) (iv m (n+m) fun i=>i) fc q w) (fun (i:Nat) (_:Unit)=>(i:Int)) m (fun k _=> ∀i,i<k->n<=t.B i-> ¬0<t.T i (n+m)) _
  (fun i aa _ c4=>by
    have bM:=xX ((f.iE i aa (n+m) (dD _)).mono (w6 (by have:=tI;generalize eX=q at *;omega)));have g1:0<=(i:Int)/\(i:Int)<((cX m t).length:Nat):=(by unfold cX;rw[c0];omega);have g2:(cX m t)[(0+((i:Int)).toNat)]? = some ((t.B i:Nat):Int):=(by rw[dy];exact hK aa);have g3:0<=(i:Int)/\(i:Int)<((iv m (n+m) fun i=>i).length:Nat):=(by unfold iv;rw[c0];omega);have g4:(iv m (n+m) fun i=>i)[(0+((i:Int)).toNat)]? = some (some (i,n+m+1)):=(by rw[dy];exact hK aa);unfold Cx;by_cases Ja:n<=t.B i
    ·by_cases mv:0<t.T i (n+m)
     ·right;exact⟨_,fh (cz g1 (aI g2 (mh (by rw[h.hi];omega) (cz g3 (aI g4 (aI (x:=(i,n+m+1)) rfl (aI (gB.row i aa) (d9 (aI (x:=b9 (t.T i (n+m)*w)) (by rw[dy];exact hK (by omega)) (aI bM (mh (by rw[D0 hw];exact tB.2 mv) rfl))))))))))),.inl ⟨rfl,i,aa,Ja,mv⟩⟩
     left;refine⟨(),fh (cz g1 (aI g2 (mh (by rw[h.hi];omega) (cz g3 (aI g4 (aI (x:=(i,n+m+1)) rfl (aI (gB.row i aa) (d9 (aI (x:=b9 (t.T i (n+m)*w)) (by rw[dy];exact hK (by omega)) (aI bM (l4 (by rw[D0 hw];exact fun c=>mv (tB.1 c)) (by rw[fE (by omega)])))))))))))),fun k a2=> ?_⟩;by_cases e:k=i
     ·rw[e];exact fun _=>mv
     exact c4 k (by omega)
    left;refine⟨(),fh (cz g1 (aI g2 (l4 (by rw[h.hi];omega) (by rw[fE (by omega)])))),fun k a2=> ?_⟩;by_cases e:k=i
    ·rw[e];exact fun c=>(Ja c).elim
    exact c4 k (by omega))
  (fun _ c4=>⟨_,by unfold Cx;exact fs rfl,.inr ⟨rfl,c4⟩⟩) () (fun k a2=>by omega)
theorem afZ {p:kt}{m n:Nat}{a:Nat->Nat->Int}{b:Nat->Int}(h:mN p m n a b)(F:Nat->Bool)(gb:Bool)(eL:ar)(x0:Int)(q2:aqh)(bL:aqg)(cr:ar):
 Nn ((n+m:Nat):Int) p.ha p.fC p.dr p.d4 p.h7 gb eL x0 q2 bL cr 0 (aQ (n+m) F)=some (aQ (n+m) fun j=>decide (j<n)):=by
 have hm:=h.hm;have aU:=h.aU;unfold Nn
 obtain⟨s,e,-⟩:=ix (f:=fun w:Int×aqj=>Cy ((n+m:Nat):Int) p.ha p.fC p.dr p.d4 p.h7 gb eL x0 q2 bL cr w.1 w.2)
  (fun (k:Nat) (_:Unit)=>((k:Int),aQ (n+m) fun j=>if j<k then decide (j<n) else F j)) (n+m) (fun _ _=>True) (fun _=>aQ (n+m) fun j=>decide (j<n))
  (fun k a2 _ _=>by
    refine⟨(),?_,trivial⟩;have Jb:decide ((k:Int)<p.fC)=decide (k<n):=(by rw[h.hi];simp);unfold Cy;simp only;rw[Jb,fE (by omega)];refine fh (d9 (d9 ?_));rw[dy,dG,lK];congr 3;refine fa fun j _=> ?_;by_cases c:j=k
    ·subst c;rw[dw rfl,dw (by omega)]
    rw[dA c];by_cases cx:j<k
    ·rw[dw cx,dw (by omega)]
    rw[dA cx,dA (by omega)])
  (fun _ _=>by unfold Cy;refine fs ?_;simp only;congr 2;exact fa fun j ay=>by rw[dw ay]) () trivial
 have qn:(aQ (n+m) fun j=>if j<0 then decide (j<n) else F j)=aQ (n+m) F:=fa fun j _=>by rw[dA (by omega)]
 rw[qn] at e;exact e
theorem aay {m n:Nat}{a:Nat->Nat->Int}{b:Nat->Int}:i4 m (dn m n a b) (kb m n a b)=1:=by unfold i4;rw[Yx,dw (by grind)]
theorem ai3 {p:kt}{m n:Nat}{a:Nat->Nat->Int}{b:Nat->Int}(h:mN p m n a b):
 ∃r,Gm p.ha p.fC p.dr p.d4 p.h7=some r/\((rs m n a b/\ ∃t aH g fc,r = .inl ((b9 (i4 m (dn m n a b) t)).cD,(b9 (i4 m (dn m n a b) t)).bP,((n+m:Nat):Int),iv aH (n+m) g,cX aH (iK g t),aQ (n+m) (fun j=>decide (j<n)),fc) /\
  n7 m n (n+m) (dn m n a b) t aH g/\(∀i,i<aH->t.B (g i)<n)/\mU aH (n+m) m g (i4 m (dn m n a b) t) (iK g t) fc)\/(¬rs m n a b/\r = .inr ())):=by
 have hm:=h.hm;have aU:=h.aU;have hc:=GJ h;have hg:R (p.fC+p.ha)=((n+m:Nat):Int):=by rw[h.hi,h.rows,<- Int.natCast_add,cG (by omega) (by omega)]
 have am3:mU m (n+m) m (fun i=>i) (i4 m (dn m n a b) (kb m n a b)) (kb m n a b) (aQ m (fun i=>aQ (n+m+1) fun j=>b9 (dn m n a b i j))):=⟨c0 ..,fun i aa=>by rw[gd aa,aay];congr 1;exact fa fun j _=>by show b9 (dn m n a b i j)=b9 (dn m n a b i j*1);congr 1;grind⟩
 obtain⟨q,bZ,t,fc,mW,e,⟨c4,rfl⟩,gB,e8⟩:=VJ (fe:=m) (m:=m) (N:=n+m) (M:=m) (A:=dn m n a b) hm (by omega) (h:=fun i=>i) (fun i _ k _ e=>e) (tg n) (fun j _=>by unfold tg;split<;>omega) (fun j=>decide (j<n))
  (fun w t=>mG m (n+m) (dn m n a b) t/\w=i4 m (dn m n a b) t) (fun w t c4=>⟨c4.1.ok,c4.1.l5,c4.2▸c4.1.tP hc⟩)
  (fun w t r s c4 b=>by obtain⟨h1,rfl⟩:=c4;have ah:t.T r s≠0:=(by have:=b.pos;grind);exact⟨h1.Az hc b.aj b.bM ah,h1.iC b,Pb h1.ok h1.te b.aj b.bM ah⟩)
  (w:=i4 m (dn m n a b) (kb m n a b)) (t:=kb m n a b) ⟨⟨XQ,WE,Xf⟩,rfl⟩ am3
 rw[aay] at e
 have PJ : ∀j,j<n->t.cw m (gP m n) j<=0:=by
  rcases e8 with ⟨-,e8,-⟩|⟨-,s,bM,-,du,hR⟩
  ·intro j ay;have:=e8 j (by omega) (by simpa using ay);rw[X4 c4.ok.jZ (by omega)] at this;grind
  rw[X4 c4.ok.jZ bM] at du;obtain⟨i,aa,ah⟩:=Ve c4.ok bM du;exact(hR i aa ah).elim
 have e1:qu 1=some (b9 1):=by have:=wz (n:=1) (by rw[lJ];omega);rw[show ((1:Int):Rat)=1 from rfl] at this;exact this
 obtain⟨r,r1,r2⟩:=afY h (c4.tP hc) gB (b9 (i4 m (dn m n a b) t)).cD (b9 (i4 m (dn m n a b) t)).bP ((n+m:Nat):Int) (aQ (n+m) mW);unfold Gm;rw[hg];rcases r2 with ⟨rfl,i,aa,gN,iE⟩|⟨rfl,hR⟩
 ·have HY : ¬rs m n a b:=fun bM=>by
   have:=NQ c4.l5 (V5 c4.ok c4.l5 PJ bM) c4.ok.jZ i aa gN;grind
  refine⟨_,aI e1 (d9 (aI (Vm h _ _ _) (d9 (aI (x:=(aQ (n+m) (tg n),aQ (n+m) fun j=>decide (j<n))) (by rw[dy,rW,rW];exact VK h _ _ _ _ _ _) (aI e ?_))))),.inr ⟨HY,rfl⟩⟩;refine aI (x:= .inr ()) ?_ rfl;simp only;rw[show ((cX m t).length:Nat)=m from c0 ..];exact r1
 have cB : ∀i,i<m->n<=t.B i->t.T i (n+m)=0:=fun i aa gN=>by have h1:=hR i aa gN;have h2:=c4.l5 i aa;grind
 have bM:rs m n a b:=Vy c4.ok c4.l5 cB;obtain⟨cI,aH,g,lk,ko,lq,yM,lr⟩:=ahU (n:=n) hc (by omega) (by omega) (aQ (n+m) fun j=>decide (j<n)) c4 cB gB;refine⟨_,aI e1 (d9 (aI (Vm h _ _ _) (d9 (aI (x:=(aQ (n+m) (tg n),aQ (n+m) fun j=>decide (j<n))) (by rw[dy,rW,rW];exact VK h _ _ _ _ _ _) (aI e ?_))))),.inl ⟨bM,cI,aH,g,lk,rfl,lq,yM,lr⟩⟩;refine aI (x:= .inl ()) ?_ ?_
 ·simp only;rw[show ((cX m t).length:Nat)=m from c0 ..];exact r1
 simp only;rw[show ((aQ (n+m) mW).length:Nat)=n+m from c0 ..];refine aI (afZ h mW _ _ _ _ _ _) ?_;rw[h.hi];exact aI ko rfl
structure rM (m:Nat) (u v:b2):Prop where
 T : ∀i,i<m-> ∀j,u.T i j=v.T i j
 B : ∀i,i<m->u.B i=v.B i
theorem rM.tP {m N:Nat}{w:Rat}{u v:b2}(s:rM m u v)(h:qK m N w v):qK m N w u :=
 ⟨h.pos,h.hw,fun i aa j ay=>by rw[s.T i aa];exact h.iE i aa j ay,fun i aa=>by rw[s.B i aa];exact h.gN i aa⟩
theorem rM.ct {m:Nat}{u v:b2}(s:rM m u v){r:Nat}(aj:r<m)(k:Nat):rM m (u.ct r k) (v.ct r k) where
 T:=fun i aa j=>by simp only[b2.ct,s.T i aa,s.T r aj]
 B:=fun i aa=>by simp only[b2.ct,s.B i aa]
theorem rM.Az {m N:Nat}{w:Rat}{u v:b2}(s:rM m u v){r k:Nat}(h:w7 m N w v r k):w7 m N w u r k :=
 ⟨h.aj,h.a2,by rw[s.T r h.aj];exact h.ah,fun i aa j ay=>by rw[(s.ct h.aj k).T i aa,s.T r h.aj];exact h.E3 i aa j ay⟩
theorem rM.trans {m:Nat}{u v t:b2}(a:rM m u v)(b:rM m v t):rM m u t:=⟨fun i aa j=>(a.T i aa j).trans (b.T i aa j),fun i aa=>(a.B i aa).trans (b.B i aa)⟩
theorem ajD {aH:Nat}{g:Nat->Nat}(inj:∀i,i<aH-> ∀k,k<aH->g i=g k->i=k)(t:b2){r:Nat}(aj:r<aH)(k:Nat):rM aH ((iK g t).ct r k) (iK g (t.ct (g r) k)) :=
 ⟨fun i aa j=>(GS (t:=t) (k:=k) (inj i aa r aj)).1 j,fun i aa=>(GS (t:=t) (k:=k) (inj i aa r aj)).2⟩
theorem YI {m n:Nat}{a:Nat->Nat->Int}{b:Nat->Int}{x:Nat->Rat}{c:Nat}:cy n (fun j=>dn m n a b c j*x j)=((lQ (b c):Int):Rat)*cy n (fun j=>(a c j:Rat)*x j):=by rw[<- ki];exact gy fun j ay=>by rw[O1 ay];grind
theorem n7.YJ {m n:Nat}{a:Nat->Nat->Int}{b:Nat->Int}{t:b2}{aH:Nat}{g:Nat->Nat}(h:n7 m n (n+m) (dn m n a b) t aH g)(gN:∀i,i<aH->t.B (g i)<n):LT m n a b aH (n+m) (iK g t) where
 eqv:=fun x=>by
  have key:(∀i,i<m->cy n (fun j=>(a i j:Rat)*x j)=(b i:Rat))↔ ∀i,i<m->cy n (fun j=>dn m n a b i j*x j)=dn m n a b i (n+m):=by
   constructor
   ·intro U i aa;rw[YI,KW,U i aa]
   intro U i aa;have:=U i aa;rw[YI,KW] at this;have h0:=Yw (b i);have e:((lQ (b i):Int):Rat)*(cy n (fun j=>(a i j:Rat)*x j)-(b i:Rat))=0:=(by grind);rcases Rat.mul_eq_zero.1 e with e|e
   ·exact(h0 e).elim
   grind
  rw[key];constructor
  ·intro U i aa;obtain⟨W,hW⟩:=h.inv.ok.row;show cy n (fun j=>t.T (g i) j*x j)=t.T (g i) (n+m);rw[hW (g i) (h.lt i aa) (n+m) (dD _),gy (g:=fun j=>cy m (fun c=>W (g i) c*(dn m n a b c j*x j))) (fun j ay=>by rw[hW (g i) (h.lt i aa) j (by omega),<- wy];exact gy fun c _=>by grind),rU];exact gy fun c a0=>by rw[ki,U c a0]
  intro U c a0
  have row : ∀i,i<m->cy n (fun j=>t.T i j*x j)=t.T i (n+m):=fun i aa=>by
   by_cases bJ : ∃q,q<aH/\g q=i
   ·obtain⟨q,a1,rfl⟩:=bJ;exact U q a1
   obtain⟨d1,d2⟩:=h.dead i aa fun q a1 e=>bJ ⟨q,a1,e⟩;rw[h.z i aa d1];exact oH fun j ay=>by rw[d2 j ay];grind
  rw[h.inv.ok.tY c a0 (n+m) (dD _),gy (g:=fun j=>cy m (fun i=>dn m n a b c (t.B i)*(t.T i j*x j))) (fun j ay=>by rw[h.inv.ok.tY c a0 j (by omega),<- wy];exact gy fun i _=>by grind),rU];exact gy fun i aa=>by rw[ki,row i aa]
 unit:=fun i aa k a2=>by
  show t.T (g i) (t.B (g k))=_;rw[h.inv.ok.unit _ (h.lt i aa) _ (h.lt k a2)];by_cases c:i=k
  ·rw[dw c,dw (by rw[c])]
  rw[dA c,dA fun e=>c (h.inj i aa k a2 e)]
 jZ:=gN
 l5:=fun i aa=>h.inv.l5 _ (h.lt i aa)
 QY:=by omega
theorem n7.step {m n:Nat}{a:Nat->Nat->Int}{b:Nat->Int}{t:b2}{aH:Nat}{g:Nat->Nat}{K:Nat}{obj:Nat->Nat->Rat}{bJ:Nat->Prop}(h:n7 m n (n+m) (dn m n a b) t aH g)(gN:∀i,i<aH->t.B (g i)<n){u:b2}(bM:rM aH u (iK g t)){r s:Nat}(da:pz aH (n+m) K obj bJ u r s)(AM:s<n):
 n7 m n (n+m) (dn m n a b) (t.ct (g r) s) aH g/\(∀i,i<aH->(t.ct (g r) s).B (g i)<n)/\rM aH (u.ct r s) (iK g (t.ct (g r) s)):=by
 have aj:=da.aj;have ah:0<t.T (g r) s:=by have:=da.pos;rw[bM.T r aj] at this;exact this
 have ID:t.T (g r) s≠0:=by grind
 have Zv:=(bM.ct aj s).trans (ajD h.inj t aj s);have Bj : ∀d,d<m->(∀i,i<aH->g i≠d)-> ∀j,(t.ct (g r) s).T d j=t.T d j/\(t.ct (g r) s).B d=t.B d:=fun d bD hR j=>by obtain⟨d1,d2⟩:=h.dead d bD hR;simp only[b2.ct];rw[dA fun e=>hR r aj e.symm,dA fun e=>hR r aj e.symm,d2 s AM];exact⟨by grind,rfl⟩
 have pF : ∀i,i<aH->(t.ct (g r) s).B (g i)<n:=fun i aa=>by
  simp only[b2.ct];split
  ·exact AM
  exact gN i aa
 have am4:(u.ct r s).m8 aH (n+m):=da.HP fun i aa=>by rw[bM.T i aa];exact h.inv.l5 _ (h.lt i aa)
 refine⟨⟨⟨h.inv.ok.ct (h.lt r aj) (by omega) ID,fun i aa=> ?_,?_⟩,fun i aa aU=> ?_,h.le,h.lt,h.inj,fun d bD hR=> ?_⟩,pF,Zv⟩
 ·by_cases bJ : ∃q,q<aH/\g q=i
  ·obtain⟨q,a1,rfl⟩:=bJ;have:=am4 q a1;rw[Zv.T q a1] at this;exact this
  rw[(Bj i aa (fun q a1 e=>bJ ⟨q,a1,e⟩) _).1];exact h.inv.l5 i aa
 ·rw[h.inv.ok.Ah (h.lt r aj) (by omega)];have:=h.inv.te;grind
 ·by_cases bJ : ∃q,q<aH/\g q=i
  ·obtain⟨q,a1,rfl⟩:=bJ;have:=pF q a1;omega
  have hR : ∀q,q<aH->g q≠i:=fun q a1 e=>bJ ⟨q,a1,e⟩;obtain⟨e1,e2⟩:=Bj i aa hR (n+m);rw[e1];rw[e2] at aU;exact h.z i aa aU
 obtain⟨d1,d2⟩:=h.dead d bD hR;refine⟨by rw[(Bj d bD hR 0).2];exact d1,fun j ay=>by rw[(Bj d bD hR j).1];exact d2 j ay⟩
structure rN (m n:Nat) (a:Nat->Nat->Int) (b:Nat->Int) (aH:Nat) (g:Nat->Nat) (hZ:Nat->Nat->Rat) (dp:Nat->Bool) (w:Rat) (u:b2):Prop where
 bJ : ∃t,n7 m n (n+m) (dn m n a b) t aH g/\(∀i,i<aH->t.B (g i)<n)/\rM aH u (iK g t)/\w=i4 m (dn m n a b) t
 lt:LT m n a b aH (n+m) u
 ok:hy aH aH (n+m) hZ u
 Q2 : ∀i,i<aH->dp (u.B i)=true
theorem rN.tP {m n:Nat}{a:Nat->Nat->Int}{b:Nat->Int}{aH:Nat}{g:Nat->Nat}{hZ:Nat->Nat->Rat}{dp:Nat->Bool}{w:Rat}{u:b2}(hc:Small m (n+m) (dn m n a b))(h:rN m n a b aH g hZ dp w u):qK aH (n+m) w u:=by obtain⟨t,h1,h2,J,rfl⟩:=h.bJ;exact J.tP (h1.tP hc)
theorem rN.iC {m n:Nat}{a:Nat->Nat->Int}{b:Nat->Int}{aH:Nat}{g:Nat->Nat}{hZ:Nat->Nat->Rat}{dp mW:Nat->Bool}{w:Rat}{u:b2}{obj:Nat->Nat->Rat}{K:Nat}(hc:Small m (n+m) (dn m n a b))(h:rN m n a b aH g hZ mW w u)(mK:∀j,j<n+m->dp j=true->j<n)(am5:∀j,dp j=true->mW j=true){r s:Nat}(da:pz aH (n+m) K obj (fun j=>dp j=true) u r s):
 w7 aH (n+m) w u r s/\rN m n a b aH g hZ mW (rz w u r s) (u.ct r s):=by
 obtain⟨t,h1,h2,J,ak⟩:=h.bJ;have AM:=mK s da.bM da.Ij;obtain⟨g1,g2,g3⟩:=h1.step h2 J da AM;have ah:=da.pos;have aaz:t.T (g r) s≠0:=by rw[J.T r da.aj] at ah;show t.T (g r) s≠0;have:0<t.T (g r) s:=ah;grind
 refine⟨ak▸J.Az (h1.Az hc da.aj (by omega) aaz),⟨t.ct (g r) s,g1,g2,g3,?_⟩,h.lt.ct da.aj AM (by grind) (da.HP h.lt.l5),da.ok h.ok,fun i aa=> ?_⟩
 ·rw[<- Pb h1.inv.ok h1.inv.te (h1.lt r da.aj) (show s<n+m by omega) aaz,ak];unfold rz;rw[J.T r da.aj];rfl
 simp only[b2.ct];split
 ·exact am5 s da.Ij
 exact h.Q2 i aa
theorem Xs {m n:Nat}{a:Nat->Nat->Int}{b:Nat->Int}{aH:Nat}{g:Nat->Nat}(hm:m<=20)(aU:n<=40)(hc:Small m (n+m) (dn m n a b)){hZ:Nat->Nat->Rat}{dp:Nat->Bool}{w:Rat}{u:b2}(h:rN m n a b aH g hZ dp w u)(mK:∀j,j<n+m->dp j=true->j<n)(inj:∀i,i<aH-> ∀k,k<aH->g i=g k->i=k)(lY:aH<=m)
 (o:Nat->Int) (ap : ∀j,-100<=o j/\o j<=100) {c:Nat->Rat} {l:Nat} {V:Nat->Rat} (am6 : ∀j,((o j:Int):Rat)=il c l j) (s:rD m n a b c l dp V) {fc:aqg} (gB:mU aH (n+m) m g w u fc) :
 ∃ok bZ nl lk mW,we (b9 w).cD (b9 w).bP ((n+m:Nat):Int) (iv aH (n+m) g) fc (cX aH u) (aQ (n+m) dp) (aQ (n+m) o)=some (ok,(b9 bZ).cD,(b9 bZ).bP,lk,cX aH nl,aQ (n+m) mW)/\mU aH (n+m) m g bZ nl lk /\
  ((ok=true/\rN m n a b aH g hZ mW bZ nl/\(∀j,j<n+m->mW j=true->j<n)/\ ∃I0,rD m n a b c (l+1) mW I0)\/(ok=false/\LT m n a b aH (n+m) nl/\ ∃q,q<n/\0<nl.cw aH (il c l) q/\ ∀i,i<aH-> ¬0<nl.T i q)):=by
 have am7:(fun j=>((o j:Int):Rat))=il c l:=funext am6
 obtain⟨ok,bZ,nl,lk,mW,e,c4,IR,e8⟩:=VJ (fe:=aH) (m:=aH) (N:=n+m) (M:=m) (A:=hZ) (h:=g) (by omega) (by omega) inj o (fun j _=>ap j) dp
  (fun w u=>rN m n a b aH g hZ dp w u) (fun w u eG=>⟨eG.ok,eG.lt.l5,eG.tP hc⟩)
  (fun w u r q eG da=>eG.iC hc mK (fun j ay=>ay) da) h gB
 rw[am7] at e8;refine⟨ok,bZ,nl,lk,mW,e,IR,?_⟩;rcases e8 with ⟨h1,h2,J⟩|⟨h1,q,h2,cq,J,ak⟩
 ·left;have PK : ∀j,mW j=true->dp j=true:=fun j ay=>(by rw[J,dN] at ay;exact ay.1);refine⟨h1,⟨c4.bJ,c4.lt,c4.ok,fun i aa=> ?_⟩,fun j ay vO=>mK j ay (PK j vO),rD.next c4.lt s (fun j ay cq=>h2 j (by omega) cq) (fun j ay=>by rw[J])⟩;rw[J];simp only;rw[c4.Q2 i aa,c4.lt.zx _ aa,decide_eq_false (by grind)];rfl
 right;exact⟨h1,c4.lt,q,mK q h2 cq,J,ak⟩
def gR (x:Rat):aqd:=some (l3 (e3 x))
theorem ako {n d:Int}{x:Rat}(bD:0<d)(e:(d:Rat)*x=n):(n / (Int.gcd n d:Int),d / (Int.gcd n d:Int))=e3 x:=by
 have sR:(d:Rat)≠0:=fun c=>by have:d=0:=Rat.intCast_inj.1 (by rw[c];rfl);omega
 have U:x=Rat.divInt n d:=by rw[Rat.divInt_eq_div,<- e];grind
 have e1:(Rat.divInt n d).num=n / (Int.gcd n d:Int):=by rw[Rat.num_divInt,Int.sign_eq_one_of_pos bD,Int.one_mul,Int.gcd_comm]
 have e2:((Rat.divInt n d).den:Int)=d / (Int.gcd n d:Int):=by rw[Rat.den_divInt,dA (by omega),Int.gcd_comm];rw[Int.natCast_ediv,Int.natAbs_of_nonneg (by omega)]
 rw[U];unfold e3;rw[e1,e2]
theorem OA {n d:Int}{x:Rat}(bD:0<d)(e:(d:Rat)*x=n)(aU:(n.natAbs:Int)<B 50)(AK:d<B 50):tr (gK n) (L d)=some (gR x):=by have ko:=(ij (k:=50) (by omega)).2 aU;have lq:=(ij (k:=50) (by omega)).2 AK;rw[Od bD (by omega) (by omega),ako bD e];rfl
theorem OR {n:Int}(h:nR n):vm n=some (gR (n:Rat)):=by rw[Ox h];unfold gR e3;rw[Rat.num_intCast,Rat.den_intCast];rfl
theorem OB {a b:Int}(bF:0<=a)(a3:0<=b)(h1:a<B 24)(h2:b<B 24):a*b<B 48:=by
 have e:B 48=B 24*B 24:=by decide +kernel
 rw[e];exact Int.lt_of_le_of_lt (dL (Int.le_of_lt h2) bF) (Int.mul_lt_mul_of_pos_right h1 (by omega))
theorem ajE {x y:Rat}(U:eS x)(aV:eS y):ze (gR x) (gR y)=some (gR (x*y)):=by
 have p:=U.dp;have q:=aV.dp;have h1:=p.o5;have h2:=p.oL;have J:=q.o5;have ak:=q.oL;have ax:=p.pos;have aN:=q.pos;have gN:=O9;have Zr:=pY 48;have js:=OB (by omega) (by omega) p.num q.num;have iw:=OB (by omega) (by omega) p.den q.den;have tb:(((e3 x).1*(e3 y).1).natAbs:Int)<B 48:=by rw[Int.natAbs_mul];exact js
 have bM:ze (some (l3 (e3 x))) (some (l3 (e3 y)))=((q8 (gK (e3 x).1) (gK (e3 y).1)).bind fun aW=>(ts (L (e3 x).2) (L (e3 y).2)).bind fun bQ=>(tr aW bQ).bind fun bs=>some bs):=rfl;unfold gR;rw[bM,Oe (by omega) (by omega),dx,GO (h9 _) (h9 _) (by omega) (by omega),eA (by omega),eA (by omega),dx,OA (x:=x*y) (Int.mul_pos ax aN) ?_ (by omega) (by omega)]
 ·rfl
 have:=vw x;have:=vw y;simp only[e3,aqa];grind
theorem YK {x y:Rat}(U:eS x)(aV:eS y):C6 (gR x) (gR y)=some (gR (x+y)):=by
 have p:=U.dp;have q:=aV.dp;have h1:=p.o5;have h2:=p.oL;have J:=q.o5;have ak:=q.oL;have ax:=p.pos;have aN:=q.pos;have gN:=O9;have Zr:=pY 48;obtain⟨bf,-,-⟩:=Kq p q;obtain⟨d1,-,-⟩:=Kq q p;have iw:=OB (by omega) (by omega) p.den q.den;have bM:C6 (some (l3 (e3 x))) (some (l3 (e3 y)))=((tj (some (l3 (e3 x))) (L (e3 y).2)).bind fun bc=>(tj (some (l3 (e3 y))) (L (e3 x).2)).bind fun bQ=>(xD bc bQ).bind fun bs=>(ts (L (e3 x).2) (L (e3 y).2)).bind fun bY=>(tr bs bY).bind fun cR=>some cR):=rfl;unfold gR;rw[bM,Kb (by omega) (by omega) (by omega),dx,Kb (by omega) (by omega) (by omega),dx,Xl (by omega) (by omega),dx,GO (h9 _) (h9 _) (by omega) (by omega),eA (by omega),eA (by omega),dx,OA (x:=x+y) (Int.mul_pos ax aN) ?_ (by omega) (by omega)]
 ·rfl
 have:=vw x;have:=vw y;simp only[e3,aqa,Rat.intCast_add];grind
theorem ak1 {x:Rat}(h:eS x):xR (gR x)=some (gR x):=by have:=h.dp;unfold gR;rw[show l3 (e3 x)=l3 ((e3 x).1,(e3 x).2) from rfl,YB (Int.le_of_lt this.pos),dw ⟨this.num,this.den⟩];rfl
def pD (n:Nat)(c:Nat->Int)(l j:Nat):Int:=match l with
 | 0=>if j<n then c j else 0
 | l+1=>if j=l then -1 else 0
def iz (n:Nat)(c:Nat->Int)(j:Nat):Rat:=((pD n c 0 j:Int):Rat)
theorem Xt (n:Nat)(c:Nat->Int)(l j:Nat):((pD n c l j:Int):Rat)=il (iz n c) l j:=by
 cases l with
 | zero=>rfl
 | succ l=>simp only[pD,il];split<;>rfl
theorem X5 {n:Nat}{c:Nat->Int}(h:∀j,j<n-> -100<=c j/\c j<=100)(l j:Nat): -100<=pD n c l j/\pD n c l j<=100:=by
 cases l with
 | zero =>
  simp only[pD];split
  ·exact h j ‹_›
  omega
 | succ l=>simp only[pD];split<;>omega
def PL (m n:Nat)(a:Nat->Nat->Int)(b c:Nat->Int)(aH:Nat)(g:Nat->Nat)(hZ:Nat->Nat->Rat)(l:Nat)(s:Bool×ar×ar×aqg×ar×aqj):Prop :=
 ∃w u fc dp V o,s=((b9 w).cD,(b9 w).bP,aQ (n+m) o,fc,cX aH u,aQ (n+m) dp)/\rN m n a b aH g hZ dp w u/\(∀j,j<n+m->dp j=true->j<n)/\mU aH (n+m) m g w u fc/\rD m n a b (iz n c) l dp V
theorem ag5 {m n:Nat}{a:Nat->Nat->Int}{b c:Nat->Int}{aH:Nat}{g:Nat->Nat}{hZ:Nat->Nat->Rat}(hm:m<=20)(aU:n<=40)(hc:Small m (n+m) (dn m n a b))(a0:∀j,j<n-> -100<=c j/\c j<=100)(x0:Int)(gb eL lH:ar)(k:Nat)(a2:k<n)(s:Bool×ar×ar×aqg×ar×aqj)(bM:PL m n a b c aH g hZ (k+1) s):
 ∃b8,y4 (n:Int) x0 gb eL lH ((n+m:Nat):Int) (iv aH (n+m) g) (k:Int) s.1 s.2.1 s.2.2.1 s.2.2.2.1 s.2.2.2.2.1 s.2.2.2.2.2=some (.inl (((k+1:Nat):Int),b8))/\PL m n a b c aH g hZ (k+2) b8:=by
 obtain⟨w,u,fc,dp,V,o,rfl,eG,mK,gB,yN⟩:=bM;obtain⟨t,bJ,-⟩:=eG.bJ;obtain⟨ok,bZ,nl,lk,mW,e,IR,e8⟩:=Xs hm aU hc eG mK bJ.inj bJ.le (pD n c (k+1)) (X5 a0 (k+1)) (Xt n c (k+1)) yN gB;rcases e8 with ⟨rfl,EF,PK,I0,am8⟩|⟨-,sl,q,a1,du,hR⟩
 ·refine⟨((b9 bZ).cD,(b9 bZ).bP,aQ (n+m) (pD n c (k+1)),lk,cX aH nl,aQ (n+m) mW),?_,bZ,nl,lk,mW,I0,_,rfl,EF,PK,IR,am8⟩;have Bi:(List.replicate (aQ (n+m) o).length 0:ar).set (0+((k:Int)).toNat) (-1)=aQ (n+m) (pD n c (k+1)):=(by rw[c0,rW,dy,dG,lK];exact fa fun j _=>rfl);unfold y4;simp only;rw[Bi];refine fh (d9 (cz (by rw[List.length_replicate,c0,dy];omega) (aI e ?_)));rw[fE (by omega)]
 obtain⟨i,aa,ah⟩:=sl.WG du;exact(hR i aa ah).elim
theorem ai4 {m n:Nat}{a:Nat->Nat->Int}{b c:Nat->Int}{aH:Nat}{g:Nat->Nat}{hZ:Nat->Nat->Rat}(hm:m<=20)(aU:n<=40)(hc:Small m (n+m) (dn m n a b))(a0:∀j,j<n-> -100<=c j/\c j<=100)(x0:Int)(gb eL lH:ar){w:Rat}{u:b2}{fc:aqg}{dp:Nat->Bool}{V:Nat->Rat}{o:Nat->Int}(eG:rN m n a b aH g hZ dp w u)(mK:∀j,j<n+m->dp j=true->j<n)(gB:mU aH (n+m) m g w u fc)(yN:rD m n a b (iz n c) 1 dp V):
 ∃iP kA kE v5,Np (n:Int) x0 gb eL lH ((n+m:Nat):Int) (iv aH (n+m) g) 0 (b9 w).cD (b9 w).bP (aQ (n+m) o) fc (cX aH u) (aQ (n+m) dp)=some ((b9 iP).cD,(b9 iP).bP,kE,cX aH kA,aQ (n+m) v5)/\rN m n a b aH g hZ v5 iP kA/\mU aH (n+m) m g iP kA kE/\ ∃V,rD m n a b (iz n c) (n+1) v5 V:=by
 unfold Np
 obtain⟨r,e,aj⟩:=tv (f:=fun w:Int×Bool×ar×ar×aqg×ar×aqj=>y4 (n:Int) x0 gb eL lH ((n+m:Nat):Int) (iv aH (n+m) g) w.1 w.2.1 w.2.2.1 w.2.2.2.1 w.2.2.2.2.1 w.2.2.2.2.2.1 w.2.2.2.2.2.2)
  (fun (k:Nat) (s:Bool×ar×ar×aqg×ar×aqj)=>((k:Int),s)) n (fun k s=>PL m n a b c aH g hZ (k+1) s)
  (fun r=> ∃iP kA kE v5,r=((b9 iP).cD,(b9 iP).bP,kE,cX aH kA,aQ (n+m) v5)/\rN m n a b aH g hZ v5 iP kA/\mU aH (n+m) m g iP kA kE/\ ∃V,rD m n a b (iz n c) (n+1) v5 V)
  (fun k a2 s bM=> .inl (ag5 hm aU hc a0 x0 gb eL lH k a2 s bM))
  (fun s bM=>by obtain⟨w,u,fc,dp,V,o,rfl,eG,mK,gB,yN⟩:=bM;exact⟨_,by unfold y4;exact fs rfl,w,u,fc,dp,rfl,eG,gB,V,yN⟩)
  ((b9 w).cD,(b9 w).bP,aQ (n+m) o,fc,cX aH u,aQ (n+m) dp) ⟨w,u,fc,dp,V,o,rfl,eG,mK,gB,yN⟩
 obtain⟨iP,kA,kE,v5,rfl,h1,h2,J⟩:=aj;exact⟨iP,kA,kE,v5,e,h1,h2,J⟩
theorem akp:B 24<=B 50:=by decide +kernel
theorem akq:2<=eX:=by decide +kernel
theorem PM:40*(eX*100)<=21*100*(eX*eX):=by have:=Nat.mul_le_mul_left eX akq;omega
theorem ai5 {n:Nat}(x0 x1:Int)(gb eL lH:ar)(qn:Bool)(Mj:ar)(aaZ:Int)(q1:aqh)(q2:aqg)(bL:ar)(cr:aqj)(aU:n<=40):
 Nq (n:Int) x0 x1 gb eL lH qn Mj aaZ q1 q2 bL cr 0 (List.replicate n (none:aqd))=some (aQ n fun _=>gR 0):=by
 unfold Nq
 obtain⟨s,e,-⟩:=ix (f:=fun w:Int×aqk=>CA (n:Int) x0 x1 gb eL lH qn Mj aaZ q1 q2 bL cr w.1 w.2)
  (fun (k:Nat) (_:Unit)=>((k:Int),aQ n fun j=>if j<k then gR 0 else none)) n (fun _ _=>True) (fun _=>aQ n fun _=>gR 0)
  (fun k a2 _ _=>by
    refine⟨(),?_,trivial⟩;unfold CA;refine fh (aI (x:=gR 0) (OR (n:=0) (by rw[lJ];omega)) (d9 (cz (by simp only;rw[c0,dy];omega) ?_)));simp only;rw[fE (by omega),dy,dG,lK];congr 3;refine fa fun j _=> ?_;by_cases bf:j=k
    ·subst bf;rw[dw rfl,dw (by omega)]
    rw[dA bf];by_cases cx:j<k
    ·rw[dw cx,dw (by omega)]
    rw[dA cx,dA (by omega)])
  (fun _ _=>by unfold CA;refine fs ?_;simp only;congr 2;exact fa fun j ay=>by rw[dw ay]) () trivial
 have e0:(aQ n fun j=>if j<0 then gR 0 else none)=List.replicate n none:=by rw[rW];exact fa fun j _=>by rw[dA (by omega)]
 rw[<- e0];exact e
theorem OC {t:b2}{N i j:Nat}:t.hH (i+1) N j=t.hH i N j+if t.B i=j then t.T i N else 0:=rfl
theorem Pc {m n:Nat}{a:Nat->Nat->Int}{b:Nat->Int}{aH N:Nat}{u:b2}(h:LT m n a b aH N u){i k:Nat}(aa:i<aH)(a2:k<aH)(e:u.B i=u.B k):i=k:=by
 by_cases c:i=k
 ·exact c
 have h1:=h.unit i aa k a2;rw[<- e,h.unit i aa i aa,dw rfl,dA c] at h1;grind
theorem ahV {m n aH N:Nat}{a:Nat->Nat->Int}{b:Nat->Int}{g:Nat->Nat}{w:Rat}{u:b2}(x0 x1:Int)(gb eL lH:ar)(qn:Bool)(cr:aqj)(hm:aH<=20)(hg:N<=1000)(aR:LT m n a b aH N u)(f:qK aH N w u){M:Nat}{fc:aqg}(gB:mU aH N M g w u fc)(aU:n<=40):
 Nr (aH:Int) x0 x1 gb eL lH qn (b9 w).bP (N:Int) (cX aH u) (iv aH N g) fc cr 0 (aQ n fun _=>gR 0)=some (aQ n fun j=>gR (u.hH aH N j)):=by
 have hw:=Pa f.hw;have am9:0<w.num:=by have:(0:Rat)<((w.num:Int):Rat):=(by rw[hw.1];exact f.pos);exact Rat.intCast_lt_intCast.1 (by rw[show ((0:Int):Rat)=0 from rfl];exact this)
 have alK:(b9 w).bP=L w.num:=by show L (w.num.natAbs:Int)=_;rw[Int.natAbs_of_nonneg (by omega)]
 have j3:=qD yj;have kN:=qD Et;have apB:=akp;rw[alK];unfold Nr
 obtain⟨s,e,-⟩:=ix (f:=fun v:Int×aqk=>CB (aH:Int) x0 x1 gb eL lH qn (L w.num) (N:Int) (cX aH u) (iv aH N g) fc cr v.1 v.2)
  (fun (k:Nat) (_:Unit)=>((k:Int),aQ n fun j=>gR (u.hH k N j))) aH (fun _ _=>True) (fun _=>aQ n fun j=>gR (u.hH aH N j))
  (fun k a2 _ _=>by
    refine⟨(),?_,trivial⟩;have gN:=aR.jZ k a2;have iE:=Pa (f.iE k a2 N (dD _));have cB:u.hH k N (u.B k)=0:=b2.NH fun i aa e=>(by have:=Pc aR (by omega) a2 e;omega);have Av:tr (b9 (u.T k N*w)) (L w.num)=some (gR (u.T k N)):=(by refine OA am9 ?_ (by omega) (by omega);rw[hw.1,iE.1];grind);unfold CB;simp only;refine fh (cz (by unfold cX;rw[c0];omega) (aI (x:=((u.B k:Nat):Int)) (by rw[dy];exact hK a2) (cz (by unfold iv;rw[c0];omega) (aI (x:=some (g k,N+1)) (by rw[dy];exact hK a2) (aI (x:=(g k,N+1)) rfl (aI (gB.row k a2) (d9 (aI (x:=b9 (u.T k N*w)) (by rw[dy];exact hK (by omega)) (aI Av (d9 (d9 ?_)))))))))));rw[fE (by omega),dy,dG,lK];congr 3;refine fa fun j _=> ?_;rw[OC];by_cases bf:j=u.B k
    ·subst bf;rw[dw rfl,dw rfl,cB];congr 1;grind
    rw[dA bf,dA (fun e=>bf e.symm)];congr 1;grind)
  (fun _ _=>by unfold CB;exact fs rfl) () trivial
 exact e
theorem X6 {m n:Nat}{a:Nat->Nat->Int}{b:Nat->Int}{aH N:Nat}{w:Rat}{u:b2}{K:Nat}(aR:LT m n a b aH N u)(f:∀i,i<aH->d6 K (u.T i N*w))(j:Nat):d6 K (u.hH aH N j*w):=by
 by_cases c : ∃i,i<aH/\u.B i=j
 ·obtain⟨i,aa,rfl⟩:=c;have:u.hH aH N (u.B i)=u.T i N:=(by unfold b2.hH;rw[lT aa (f:=fun k=>if u.B k=u.B i then u.T k N else 0) (fun k a2 di=>dA fun e=>di (Pc aR a2 aa e)),dw rfl]);rw[this];exact f i aa
 rw[b2.NH fun i aa e=>c ⟨i,aa,e⟩];exact⟨0,by rw[Rat.zero_mul];rfl,by simp⟩
theorem akr {m n:Nat}{a:Nat->Nat->Int}{b:Nat->Int}{aH N:Nat}{w:Rat}{u:b2}(aR:LT m n a b aH N u)(f:qK aH N w u)(j:Nat):d6 eX (u.hH aH N j*w):=X6 aR (fun i aa=>f.iE i aa N (dD _)) j
theorem rN.Zw {m n:Nat}{a:Nat->Nat->Int}{b:Nat->Int}{aH:Nat}{g:Nat->Nat}{w:Rat}{u:b2}{hZ:Nat->Nat->Rat}{dp:Nat->Bool}(hc:Small m (n+m) (dn m n a b))(h:rN m n a b aH g hZ dp w u):d6 (nz 100 m) w/\ ∀i,i<aH->d6 (nz 100 m) (u.T i (n+m)*w):=by
 obtain⟨t,bJ,-,bM,rfl⟩:=h.bJ;have ug:d6 (nz 100 m) (1*t.D m (dn m n a b)):=by rw[Rat.one_mul];exact xZ fun i aa c a0=>hc.q6 c a0 _ (Nat.le_of_lt (bJ.inv.ok.jZ i aa))
 refine⟨by have:=Ld ug;rw[Rat.one_mul] at this;exact this,fun i aa=> ?_⟩;rw[bM.T i aa];refine Ld ?_;show d6 (nz 100 m) (t.T (g i) (n+m)*_);rw[<- bJ.inv.ok.yL (bJ.lt i aa) (dD _)];refine xZ fun k a2 c a0=> ?_;simp only[hQ];split
 ·exact hc.q6 c a0 _ (dD _)
 exact hc.q6 c a0 _ (Nat.le_of_lt (bJ.inv.ok.jZ k a2))
theorem X7 {n:Nat}{w:Rat}{x:Nat->Rat}{c:Nat->Int}(hw:d6 (21*100*eX) w)(ah:0<w)(U:∀j,d6 eX (x j*w))(a0:∀j,j<n-> -100<=c j/\c j<=100){k:Nat}(a2:k<=n)(aU:n<=40):eS (cy k fun j=>x j*(c j:Rat)):=by have h1:d6 (k*(eX*100)) (cy k fun j=>x j*w*(c j:Rat)):=d6.sum fun j ay=>(U j).mul ⟨c j,rfl,by have:=a0 j (by omega);omega⟩;have h2:k*(eX*100)<=40*(eX*100):=apV _ (by omega);refine r8 (K:=21*100*(eX*eX)) (hw.mono yj) (h1.mono (Nat.le_trans h2 PM)) (by grind) ?_ (qD (dD _));rw[<- ki];exact gy fun j _=>by grind
theorem Y5 {w x:Rat}(hw:d6 (21*100*eX) w)(ah:0<w)(U:d6 eX (x*w)):eS x :=
 r8 (K:=21*100*(eX*eX)) (hw.mono yj) (U.mono Et) (by grind) (by grind) (qD (dD _))
theorem aks {w x:Rat}{c:Int}(hw:d6 (21*100*eX) w)(ah:0<w)(U:d6 eX (x*w))(a0:-100<=c/\c<=100):eS (x*(c:Rat)):=by have:=U.mul (show d6 100 (c:Rat) from ⟨c,rfl,by omega⟩);exact r8 (K:=21*100*(eX*eX)) (hw.mono yj) (this.mono (by have:=PM;omega)) (by grind) (by grind) (qD (dD _))
theorem ajF {n:Nat}{w:Rat}(x0 x1:Int)(gb eL lH:ar){x:Nat->Rat}{c:Nat->Int}(aV:lH=aQ n c)(hw:d6 (21*100*eX) w)(ah:0<w)(U:∀j,d6 eX (x j*w))(a0:∀j,j<n-> -100<=c j/\c j<=100)(aU:n<=40):
 Ns (n:Int) x0 x1 gb eL lH (aQ n fun j=>gR (x j)) (gR 0) 0=some (gR (cy n fun j=>x j*(c j:Rat))):=by
 subst aV;unfold Ns
 obtain⟨s,e,-⟩:=ix (f:=fun v:aqd×Int=>CC (n:Int) x0 x1 gb eL (aQ n c) (aQ n fun j=>gR (x j)) v.1 v.2)
  (fun (k:Nat) (_:Unit)=>(gR (cy k fun j=>x j*(c j:Rat)),(k:Int))) n (fun _ _=>True) (fun _=>gR (cy n fun j=>x j*(c j:Rat)))
  (fun k a2 _ _=>by refine⟨(),?_,trivial⟩;have ana:=a0 k a2;have aa:nR (c k):=(by rw[lJ];omega);unfold CC;simp only;refine fh (d9 (aI (x:=gR (x k)) (by rw[dy];exact hK a2) (d9 (aI (x:=c k) (by rw[dy];exact hK a2) (aI (OR aa) (aI (ajE (Y5 hw ah (U k)) (XZ aa)) (aI (YK (X7 hw ah U a0 (Nat.le_of_lt a2) aU) (aks hw ah (U k) ana)) ?_)))))));rw[fE (by omega)];rfl)
  (fun _ _=>by unfold CC;exact fs rfl) () trivial
 exact e
theorem akt {m n:Nat}{a:Nat->Nat->Int}{b:Nat->Int}{aH N:Nat}{u:b2}(h:LT m n a b aH N u)(aU:n<=N):hy aH aH N u.T u where
 tY:=fun c a0 j _=>by rw[lT a0 (f:=fun i=>u.T c (u.B i)*u.T i j) (fun i aa di=>by rw[h.unit c a0 i aa,dA (fun e=>di e.symm)];grind),h.unit c a0 c a0,dw rfl];grind
 row:=⟨fun i c=>if i=c then 1 else 0,fun i aa j _=>by rw[lT aa (f:=fun c=>(if i=c then (1:Rat) else 0)*u.T c j) (fun c _ di=>by rw[dA (Ne.symm di)];grind),dw rfl];grind⟩
 unit:=h.unit
 jZ:=fun i aa=>Nat.lt_of_lt_of_le (h.jZ i aa) aU
theorem Xu {p:kt}{m n:Nat}{a:Nat->Nat->Int}{b:Nat->Int}(h:mN p m n a b){c:Nat->Int}(qp:p.h7=aQ n c)(a0:∀j,j<n-> -100<=c j/\c j<=100):
 ∃r,xJ p.ha p.fC p.dr p.d4 p.h7=some r/\((¬rs m n a b/\r=(2,[],none))\/(rs m n a b/\ ¬Bounded m n a b (iz n c)/\r=(3,[],none)) \/
  (∃x w,vx m n a b (iz n c) x/\(0<w/\d6 (nz 100 m) w/\ ∀j,d6 (nz 100 m) (x j*w))/\(∀j,eS (x j))/\eS (val n (iz n c) x)/\r=(0,aQ n (fun j=>gR (x j)),gR (val n (iz n c) x)))):=by
 have hm:=h.hm;have aU:=h.aU;have hc:=GJ h;obtain⟨r,e,aj⟩:=ai3 h;unfold xJ;rcases aj with ⟨bM,t,aH,g,fc,rfl,bJ,gN,gB⟩|⟨bM,rfl⟩;rotate_left
 ·exact⟨_,aI e rfl,.inl ⟨bM,rfl⟩⟩
 have aR:=bJ.YJ gN
 have eG:rN m n a b aH g (iK g t).T (fun j=>decide (j<n)) (i4 m (dn m n a b) t) (iK g t) :=
  ⟨⟨t,bJ,gN,⟨fun _ _ _=>rfl,fun _ _=>rfl⟩,rfl⟩,aR,akt aR (by omega),fun i aa=>decide_eq_true (gN i aa)⟩
 obtain⟨ok,iP,kA,kE,v5,e1,anb,e8⟩:=Xs hm aU hc eG (fun j _ ay=>of_decide_eq_true ay) bJ.inj bJ.le (pD n c 0) (X5 a0 0) (Xt n c 0) (rD.zero (c:=iz n c) (fun j ay=>decide_eq_true ay) (fun _=>0)) gB
 have Bi:p.h7++(List.replicate (n+m) 0:ar).drop p.h7.length=aQ (n+m) (pD n c 0):=by
  rw[qp,c0];apply ap1;intro i;by_cases ci:i<n
  ·rw[apY (by rw[c0];exact ci),gd ci,gd (by omega)];simp only[pD];rw[dw ci]
  rw[ap0 (by rw[c0];omega),c0,ap5,show n+(i-n)=i by omega];by_cases QM:i<n+m
  ·rw[List.getElem?_replicate,dw QM,gd QM];simp only[pD];rw[dA ci]
  rw[List.getElem?_replicate,dA QM,List.getElem?_eq_none_iff.2 (by rw[c0];omega)]
 have aaA:p.h7.length=n:=by rw[qp,c0]
 rcases e8 with ⟨rfl,sg,alL,apL,IQ⟩|⟨rfl,sl,q,a1,du,hR⟩;rotate_left
 ·refine⟨_,aI e ?_,.inr (.inl ⟨bM,sl.LQ _ a1 du hR,rfl⟩)⟩;simp only;exact d9 (cz (by rw[aaA,dy];omega) (aI (by rw[dy,Bi];exact e1) (jF rfl rfl)))
 obtain⟨oV,m0,b7,apC,e2,vR,anc,apM,ane⟩:=ai4 (o:=pD n c 0) hm aU hc a0 p.ha p.dr p.d4 p.h7 sg alL anb IQ;have f2:=vR.tP hc;have PJ:=ane.lD vR.lt vR.Q2;have U:=akr vR.lt f2;have bh:cy n (fun j=>m0.hH aH (n+m) j*(c j:Rat))=val n (iz n c) (m0.hH aH (n+m)):=gy fun j ay=>by have:iz n c j=(c j:Rat):=(by unfold iz pD;simp only;rw[dw ay]);rw[this];exact Rat.mul_comm _ _
 refine⟨_,aI e ?_,.inr (.inr ⟨m0.hH aH (n+m),oV,PJ,⟨f2.pos,(vR.Zw hc).1,fun j=>X6 vR.lt (vR.Zw hc).2 j⟩,fun j=>Y5 f2.hw f2.pos (U j),?_,rfl⟩)⟩
 ·simp only
  refine d9 (cz (by rw[aaA,dy];omega) (aI (by rw[dy,Bi];exact e1) (gH rfl ?_)));rw[h.hi,dy,dy,Bi];refine aI e2 (d9 (aI (ai5 _ _ _ _ _ _ _ _ _ _ _ _ aU) (aI (x:=aQ n fun j=>gR (m0.hH aH (n+m) j)) ?_ (aI (x:=gR 0) (OR (n:=0) (by rw[lJ];omega)) (aI (x:=gR (val n (iz n c) (m0.hH aH (n+m)))) ?_ rfl)))))
  ·simp only;rw[show ((cX aH m0).length:Nat)=aH from c0 ..];exact ahV _ _ _ _ _ _ _ (by have:=bJ.le;omega) (by omega) vR.lt f2 anc aU
  rw[c0,<- bh];exact ajF _ _ _ _ _ qp f2.hw f2.pos U a0 aU
 rw[<- bh];exact X7 f2.hw f2.pos U a0 (dD _) aU
def nX (n N j:Nat):Nat:=if j=n then N else j
theorem Ab {n N j:Nat}(h:j<n):nX n N j=j:=by unfold nX;rw[dA (by omega)]
theorem Ek {n N:Nat}:nX n N n=N:=by unfold nX;rw[dw rfl]
theorem Ea {n N j:Nat}(aU:n<=N)(h:j<=n):nX n N j<=N:=by unfold nX;split<;>omega
def p9 (n N:Nat)(g:Nat->Nat)(t:b2):b2:=⟨fun i j=>t.T (g i) (nX n N j),fun i=>t.B (g i)⟩
structure qL (m n:Nat) (a:Nat->Nat->Int) (b:Nat->Int) (aH:Nat) (g:Nat->Nat) (hZ:Nat->Nat->Rat) (u:b2):Prop where
 ok:hy aH aH n hZ u
 bJ : ∃t,n7 m n (n+m) (dn m n a b) t aH g/\(∀i,i<aH->t.B (g i)<n)/\ ∀i,i<aH->(∀j,j<=n->u.T i j=t.T (g i) (nX n (n+m) j))/\u.B i=t.B (g i)
theorem X8 {m n:Nat}{a:Nat->Nat->Int}{b:Nat->Int}{aH:Nat}{g:Nat->Nat}{u t:b2}(h1:n7 m n (n+m) (dn m n a b) t aH g)(h2:∀i,i<aH->t.B (g i)<n)(J:∀i,i<aH->(∀j,j<=n->u.T i j=t.T (g i) (nX n (n+m) j))/\u.B i=t.B (g i)):LT m n a b aH n u:=by
 have L:=h1.YJ h2;refine⟨fun x=> ?_,fun i aa k a2=> ?_,fun i aa=>by rw[(J i aa).2];exact h2 i aa,fun i aa=> ?_,dD _⟩
 ·rw[L.eqv x]
  constructor<;>intro U i aa
  ·have:=U i aa;rw[(J i aa).1 n (dD _),Ek,gy (g:=fun j=>(iK g t).T i j*x j) fun j ay=>by rw[(J i aa).1 j (by omega),Ab ay];rfl];exact this
  have:=U i aa;rw[(J i aa).1 n (dD _),Ek,gy (g:=fun j=>(iK g t).T i j*x j) fun j ay=>by rw[(J i aa).1 j (by omega),Ab ay];rfl] at this;exact this
 ·have a3:t.B (g k)<n:=h2 k a2;rw[(J k a2).2,(J i aa).1 _ (by omega),Ab a3];exact L.unit i aa k a2
 show 0<=u.T i n;rw[(J i aa).1 n (dD _),Ek];exact L.l5 i aa
theorem qL.lt {m n:Nat}{a:Nat->Nat->Int}{b:Nat->Int}{aH:Nat}{g:Nat->Nat}{hZ:Nat->Nat->Rat}{u:b2}(h:qL m n a b aH g hZ u):LT m n a b aH n u:=by obtain⟨t,h1,h2,J⟩:=h.bJ;exact X8 h1 h2 J
theorem ai6 {m aH:Nat}{g:Nat->Nat}(lt:∀i,i<aH->g i<m)(inj:∀i,i<aH-> ∀k,k<aH->g i=g k->i=k){F:Nat->Rat}(cB:∀d,d<m->(∀i,i<aH->g i≠d)->F d=0):cy m F=cy aH (fun i=>F (g i)):=by
 have e : ∀i,i<m->F i=cy aH (fun q=>if g q=i then F (g q) else 0):=fun i aa=>by
  by_cases bJ : ∃q,q<aH/\g q=i
  ·obtain⟨q,a1,rfl⟩:=bJ;rw[lT a1 (f:=fun p=>if g p=g q then F (g p) else 0) fun p ah di=>dA fun e=>di (inj p ah q a1 e),dw rfl]
  rw[cB i aa fun q a1 e=>bJ ⟨q,a1,e⟩];exact(oH fun q a1=>dA fun e=>bJ ⟨q,a1,e⟩).symm
 rw[gy e,rU];exact gy fun q a1=>by rw[lT (lt q a1) (f:=fun i=>if g q=i then F (g q) else 0) fun i _ di=>dA fun e=>di e.symm,dw rfl]
theorem WU {m n:Nat}{a:Nat->Nat->Int}{b:Nat->Int}{aH:Nat}{g:Nat->Nat}{t u:b2}(h1:n7 m n (n+m) (dn m n a b) t aH g)(J:∀i,i<aH->(∀j,j<=n->u.T i j=t.T (g i) (nX n (n+m) j))/\u.B i=t.B (g i)){o:Nat->Rat}(ap:∀j,n<=j->o j=0){j:Nat}(ay:j<=n):u.cw aH o j=t.cw m o (nX n (n+m) j):=by
 unfold b2.cw
 have e0:o (nX n (n+m) j)=o j:=by
  unfold nX;by_cases c:j=n
  ·rw[dw c,ap _ (by omega),ap _ (by omega)]
  rw[dA c]
 rw[e0,ai6 h1.lt h1.inj (F:=fun i=>o (t.B i)*t.T i (nX n (n+m) j)) fun d bD hR=>by rw[ap _ (h1.dead d bD hR).1];grind];congr 1;exact gy fun i aa=>by rw[(J i aa).1 j ay,(J i aa).2]
theorem ahW {m n:Nat}{a:Nat->Nat->Int}{b:Nat->Int}{aH:Nat}{g:Nat->Nat}{hZ:Nat->Nat->Rat}{u:b2}{K:Nat}{obj:Nat->Nat->Rat}{bJ:Nat->Prop}(h:qL m n a b aH g hZ u){r s:Nat}(da:pz aH n K obj bJ u r s):qL m n a b aH g hZ (u.ct r s):=by
 obtain⟨t,h1,h2,J⟩:=h.bJ;have bM:=da.bM;have iF : ∀i,i<aH-> ∀j,j<n->u.T i j=(iK g t).T i j:=fun i aa j ay=>by rw[(J i aa).1 j (by omega),Ab ay];rfl
 have Mk : ∀i,i<aH->u.T i n=(iK g t).T i (n+m):=fun i aa=>by rw[(J i aa).1 n (dD _),Ek];rfl
 have uh : ∀i,i<aH->u.B i=(iK g t).B i:=fun i aa=>(J i aa).2;have aa0 : ∀j,j<n->(u.rO aH K obj j↔(iK g t).rO aH K obj j):=fun j ay=>by have e : ∀l,u.cw aH (obj l) j=(iK g t).cw aH (obj l) j:=fun l=>(by unfold b2.cw;congr 1;exact gy fun i aa=>by rw[iF i aa j ay,uh i aa]);exact⟨fun x=>jb.congr x fun l _=>e l,fun x=>jb.congr x fun l _=>(e l).symm⟩
 have anf:pz aH (n+m) K obj (fun j=>j<n/\bJ j) (iK g t) r s:=by
  refine⟨by omega,⟨bM,da.Ij⟩,(aa0 s bM).1 da.gs,fun j ay bF du=>da.least j ay bF.2 ((aa0 j bF.1).2 du),da.aj,?_,fun i aa ah=> ?_,fun i aa ah e=> ?_⟩
  ·rw[<- iF r da.aj s bM];exact da.pos
  ·rw[<- Mk r da.aj,<- Mk i aa,<- iF i aa s bM,<- iF r da.aj s bM];exact da.ratio i aa (by rw[iF i aa s bM];exact ah)
  rw[<- Mk r da.aj,<- Mk i aa,<- iF i aa s bM,<- iF r da.aj s bM] at e;rw[<- uh r da.aj,<- uh i aa];exact da.tie i aa (by rw[iF i aa s bM];exact ah) e
 obtain⟨g1,g2,g3⟩:=h1.step h2 ⟨fun _ _ _=>rfl,fun _ _=>rfl⟩ anf bM;refine⟨da.ok h.ok,t.ct (g r) s,g1,g2,fun i aa=>⟨fun j ay=> ?_,?_⟩⟩
 ·rw[show (t.ct (g r) s).T (g i) (nX n (n+m) j)=(iK g (t.ct (g r) s)).T i (nX n (n+m) j) from rfl,<- g3.T i aa];have yK : ∀q,q<aH->u.T q j=(iK g t).T q (nX n (n+m) j):=fun q a1=>(J q a1).1 j ay;simp only[b2.ct];rw[yK i aa,yK r da.aj,iF r da.aj s bM,iF i aa s bM]
 rw[show (t.ct (g r) s).B (g i)=(iK g (t.ct (g r) s)).B i from rfl,<- g3.B i aa];simp only[b2.ct];rw[uh i aa]
theorem qL.fits {m n:Nat}{a:Nat->Nat->Int}{b:Nat->Int}{aH:Nat}{g:Nat->Nat}{hZ:Nat->Nat->Rat}{u:b2}(hc:Small m (n+m) (dn m n a b))(h:qL m n a b aH g hZ u):
 (∀i,i<aH-> ∀j,j<=n->eS (u.T i j))/\(∀i,i<aH-> ∀j,j<=n->0<u.T i j->eS (u.T i n / u.T i j)):=by
 obtain⟨t,h1,h2,J⟩:=h.bJ;refine⟨fun i aa j ay=> ?_,fun i aa j ay ah=> ?_⟩
 ·rw[(J i aa).1 j ay];exact h1.inv.Lu hc (h1.lt i aa) (Ea (by omega) ay)
 rw[(J i aa).1 j ay] at ah ⊢;rw[(J i aa).1 n (dD _),Ek];exact h1.inv.Zt hc (h1.lt i aa) (Ea (by omega) ay) ah
theorem qL.Ay {m n:Nat}{a:Nat->Nat->Int}{b:Nat->Int}{aH:Nat}{g:Nat->Nat}{hZ:Nat->Nat->Rat}{u:b2}(hc:Small m (n+m) (dn m n a b))(h:qL m n a b aH g hZ u){o:Nat->Rat}(ap:∀j,n<=j->o j=0)(hw:∀j,d6 100 (o j)){j:Nat}(ay:j<=n):eS (u.cw aH o j):=by obtain⟨t,h1,h2,J⟩:=h.bJ;rw[WU h1 J ap ay];exact h1.inv.Ay hc (fun j _=>hw j) (Ea (by omega) ay)
theorem qL.HU {m n:Nat}{a:Nat->Nat->Int}{b:Nat->Int}{aH:Nat}{g:Nat->Nat}{hZ:Nat->Nat->Rat}{u:b2}(hc:Small m (n+m) (dn m n a b))(h:qL m n a b aH g hZ u){o:Nat->Rat}(ap:∀j,n<=j->o j=0)(hw:∀j,d6 100 (o j)){r k:Nat}(aj:r<aH)(a2:k<n)(ah:u.T r k≠0):Ls aH n u (u.cw aH o) r k:=by
 obtain⟨t,h1,h2,J⟩:=h.bJ;have v9 : ∀i,i<aH->u.T i k=t.T (g i) k:=fun i aa=>by rw[(J i aa).1 k (by omega),Ab a2]
 have nb:t.T (g r) k≠0:=by rw[<- v9 r aj];exact ah
 have P:=h1.inv.HU hc (o:=o) (fun j _=>hw j) (h1.lt r aj) (show k<n+m by omega) nb (h1.inv.ok.ct (h1.lt r aj) (by omega) nb);have Q3 : ∀j,j<=n->u.cw aH o j=t.cw m o (nX n (n+m) j):=fun j ay=>WU h1 J ap ay;have aa1:u.cw aH o k=t.cw m o k:=by rw[Q3 k (by omega),Ab a2]
 have pl : ∀j,j<=n->nX n (n+m) j<=n+m:=fun j ay=>Ea (by omega) ay;refine⟨fun i aa j ay=> ?_,fun i aa j ay=> ?_,fun i aa di j ay=> ?_,fun j ay=> ?_,fun j ay=> ?_,fun j ay=> ?_⟩
 ·rw[(J i aa).1 j ay];exact P.T _ (h1.lt i aa) _ (pl j ay)
 ·have e:(u.ct r k).T i j=(t.ct (g r) k).T (g i) (nX n (n+m) j):=by
   simp only[b2.ct];by_cases c:i=r
   ·subst c;rw[dw rfl,dw rfl,(J i aa).1 j ay,v9 i aa]
   ·rw[dA c,dA fun e=>c (h1.inj i aa r aj e),(J i aa).1 j ay,(J r aj).1 j ay,v9 i aa,v9 r aj]
  rw[e];exact P.iF _ (h1.lt i aa) _ (pl j ay)
 ·rw[v9 i aa,v9 r aj,(J r aj).1 j ay];exact P.M _ (h1.lt i aa) (fun e=>di (h1.inj i aa r aj e)) _ (pl j ay)
 ·rw[Q3 j ay];exact P.a0 _ (pl j ay)
 ·rw[Q3 j ay,aa1,v9 r aj,(J r aj).1 j ay];exact P.vM _ (pl j ay)
 rw[aa1,v9 r aj,(J r aj).1 j ay];exact P.hm _ (pl j ay)
def iJ (m n:Nat)(t:b2):List Nat:=(List.range m).filter fun i=>decide (t.B i<n)
def k3 (m n:Nat)(t:b2)(i:Nat):Nat:=(iJ m n t).getD i 0
theorem GU {m n:Nat}{t:b2}{i:Nat}(h:i<(iJ m n t).length):(iJ m n t)[i]? = some (k3 m n t i):=by unfold k3;rw[dO,dz h];rfl
theorem Xv {m n:Nat}{t:b2}{i:Nat}(h:i<(iJ m n t).length):k3 m n t i<m/\t.B (k3 m n t i)<n:=by have:=dH (GU h);unfold iJ at this;rw[List.mem_filter,List.mem_range] at this;exact⟨this.1,of_decide_eq_true this.2⟩
theorem ai7 {m n:Nat}{t:b2}{i k:Nat}(aa:i<(iJ m n t).length)(a2:k<(iJ m n t).length)(e:k3 m n t i=k3 m n t k):i=k:=by have Mg:(iJ m n t).Nodup:=List.nodup_range.filter _;have h1:=GU aa;have h2:=GU a2;rw[e,<- h2] at h1;exact(List.getElem?_inj aa Mg).1 h1
theorem ai8 {m n:Nat}{t:b2}{d:Nat}(bD:d<m)(gN:t.B d<n): ∃i,i<(iJ m n t).length/\k3 m n t i=d:=by
 have:d∈iJ m n t:=by unfold iJ;rw[List.mem_filter,List.mem_range];exact⟨bD,decide_eq_true gN⟩
 obtain⟨i,aa⟩:=ap6 this;have aR:=f6 aa;refine⟨i,aR,?_⟩;rw[GU aR] at aa;exact dJ aa
theorem ag6 {m n N:Nat}{A:Nat->Nat->Rat}{t:b2}(aa:mG m N A t)(cB:∀i,i<m->n<=t.B i->t.T i N=0)(bD:∀i,i<m->t.B i<n\/ ∀j,j<n->t.T i j=0):n7 m n N A t (iJ m n t).length (k3 m n t) where
 inv:=aa
 z:=cB
 le:=by unfold iJ;exact Nat.le_trans (List.length_filter_le ..) (by rw[List.length_range];exact dD _)
 lt:=fun i h=>(Xv h).1
 inj:=fun i h k a2 e=>ai7 h a2 e
 dead:=fun d h hR=>by have : ¬t.B d<n:=fun c=>(by obtain⟨i,h1,h2⟩:=ai8 h c;exact hR i h1 h2);exact⟨by omega,(bD d h).resolve_left this⟩
theorem aku {α:Type}{T n:Nat}(f:Nat->α)(h:n<=T):(aQ T f).take n=aQ n f:=by
 apply ap1;intro i;by_cases c:i<n
 ·rw[dT,dw c,gd (by omega),gd c]
 rw[dT,dA c,List.getElem?_eq_none_iff.2 (by rw[c0];omega)]
structure tQ (m n:Nat) (a:Nat->Nat->Int) (b:Nat->Int) (i:Nat) (t:b2):Prop where
 bJ:n7 m n (n+m) (dn m n a b) t m fun q=>q
 Jc : ∀q,q<i->t.B q<n\/ ∀j,j<n->t.T q j=0
theorem tQ.ct {m n:Nat}{a:Nat->Nat->Int}{b:Nat->Int}{i:Nat}{t:b2}(h:tQ m n a b i t){k:Nat}(aa:i<m)(a2:k<n)(a3:n<=t.B i)(ah:t.T i k≠0):tQ m n a b i (t.ct i k) where
 bJ:=h.bJ.ct (by omega) aa a2 a3 ah
 Jc:=fun q a1=>by
  simp only[b2.ct];rw[dA (by omega)];rcases h.Jc q a1 with d|d
  ·exact .inl d
  exact .inr fun j ay=>by rw[dA (by omega),d j ay,d k a2];grind
theorem ahX {m n:Nat}{a:Nat->Nat->Int}{b:Nat->Int}(hc:Small m (n+m) (dn m n a b))(hm:m<=20)(aU:n<=40){i:Nat}(aa:i<m)(x0 x1:Int)(gb eL lH:ar)(fK:Int){t:b2}(h:tQ m n a b i t):
 ∃cI,MM (i:Int) fK ((n+m:Nat):Int) (iZ m (n+m)) x0 (n:Int) gb eL lH 0 (cX m t) (hM (n+m) (t.cw m (gP m n))) (gO m (n+m) t)=some (cX m cI,hM (n+m) (cI.cw m (gP m n)),gO m (n+m) cI)/\tQ m n a b (i+1) cI:=by
 unfold MM
 obtain⟨r,e,cI,rfl,c1⟩:=tv (f:=fun w:Int×ar×aqc×aqi=>xz (i:Int) fK ((n+m:Nat):Int) (iZ m (n+m)) x0 (n:Int) gb eL lH w.1 w.2.1 w.2.2.1 w.2.2.2)
  (fun (j:Nat) (t:b2)=>((j:Int),cX m t,hM (n+m) (t.cw m (gP m n)),gO m (n+m) t)) n (fun j t=>tQ m n a b i t/\(t.B i<n\/ ∀q,q<j->t.T i q=0))
  (fun r=> ∃cI,r=(cX m cI,hM (n+m) (cI.cw m (gP m n)),gO m (n+m) cI)/\tQ m n a b (i+1) cI)
  (fun j ay t c4=>by
    obtain⟨gB,bD⟩:=c4;have hlen:(cX m t).length=m:=c0 ..;simp only;by_cases c:t.B i<n
    ·refine .inr ⟨_,?_,t,rfl,gB.bJ,fun q a1=> ?_⟩
     ·unfold xz;exact fh (cz (by rw[hlen];omega) (aI (x:=((t.B i:Nat):Int)) (by rw[dy];exact hK aa) (fs rfl)))
     by_cases e:q=i
     ·rw[e];exact .inl c
     exact gB.Jc q (by omega)
    have cB : ∀q,q<j->t.T i q=0:=bD.resolve_left c;have pre : ∀o,(qt (cj (t.T i j)) >>= fun dt=>if (dt != (0:Int))=true then zh (i:Int) (j:Int) ((n+m:Nat):Int) (iZ m (n+m)) (cX m t) (hM (n+m) (t.cw m (gP m n))) (gO m (n+m) t) >>= fun hz=>some (.inl (R ((j:Int)+1),hz.1,hz.2.1,hz.2.2)) else some (.inl (R ((j:Int)+1),cX m t,hM (n+m) (t.cw m (gP m n)),gO m (n+m) t)))=some o->xz (i:Int) fK ((n+m:Nat):Int) (iZ m (n+m)) x0 (n:Int) gb eL lH (j:Int) (cX m t) (hM (n+m) (t.cw m (gP m n))) (gO m (n+m) t)=some o:=fun o ap=>(by unfold xz;exact fh (cz (by rw[hlen];omega) (aI (x:=((t.B i:Nat):Int)) (by rw[dy];exact hK aa) (fh (cz (by unfold iZ;rw[c0];omega) (aI (x:=some (i,n+m+1)) (by rw[dy];exact hK aa) (aI (x:=(i,n+m+1)) rfl (aI (x:=hG (n+m) t i) (gd aa) (d9 (aI (x:=cj (t.T i j)) (by rw[dy];exact hK (by omega)) ap))))))))));have iT:eS (t.T i j):=gB.bJ.inv.Lu hc aa (by omega);by_cases d:t.T i j=0
    ·refine .inl ⟨t,pre _ (aI (qz iT) (jF ?_ (by rw[fE (by omega)]))),gB,.inr fun q a1=> ?_⟩
     ·rw[pS.2 d];rfl
     by_cases e:q=j
     ·rw[e];exact d
     exact cB q (by omega)
    have P:=gB.bJ.inv.HU hc (o:=gP m n) (fun j _=>KM m n j) aa (show j<n+m by omega) d (gB.bJ.inv.ok.ct aa (by omega) d);have anK:=Xp (N:=n+m) (by omega) (by omega) aa (show j<=n+m by omega) d P ((n+m:Nat):Int);refine .inl ⟨t.ct i j,pre _ (aI (qz iT) (gH (xe fun e=>d (pS.1 e)) (aI anK ?_))),gB.ct aa ay (by omega) d,.inl ?_⟩
    ·rw[fE (by omega)];congr 3;refine Prod.ext rfl (Prod.ext ?_ rfl);exact fa fun q a1=>by rw[gB.bJ.inv.ok.Kn (gP m n) aa (by omega) d]
    simp only[b2.ct,if_true];exact ay)
  (fun t c4=>by
    obtain⟨gB,bD⟩:=c4;refine⟨_,?_,t,rfl,gB.bJ,fun q a1=> ?_⟩
    ·simp only;unfold xz;exact fs rfl
    by_cases e:q=i
    ·rw[e];exact bD
    exact gB.Jc q (by omega)) t ⟨h,.inr fun q a1=>by omega⟩
 exact⟨cI,e,c1⟩
theorem ag7 {m n:Nat}{a:Nat->Nat->Int}{b:Nat->Int}(hc:Small m (n+m) (dn m n a b))(hm:m<=20)(aU:n<=40)(x0:Int)(gb eL lH:ar){t:b2}(h:tQ m n a b 0 t):
 ∃cI,MN (m:Int) ((n+m:Nat):Int) (iZ m (n+m)) x0 (n:Int) gb eL lH 0 (cX m t) (hM (n+m) (t.cw m (gP m n))) (gO m (n+m) t)=some (cX m cI,hM (n+m) (cI.cw m (gP m n)),gO m (n+m) cI)/\tQ m n a b m cI:=by
 unfold MN
 obtain⟨cI,e,c1⟩:=ix (f:=fun w:Int×ar×aqc×aqi=>BP (m:Int) ((n+m:Nat):Int) (iZ m (n+m)) x0 (n:Int) gb eL lH w.1 w.2.1 w.2.2.1 w.2.2.2)
  (fun (i:Nat) (t:b2)=>((i:Int),cX m t,hM (n+m) (t.cw m (gP m n)),gO m (n+m) t)) m (fun i t=>tQ m n a b i t) (fun t=>(cX m t,hM (n+m) (t.cw m (gP m n)),gO m (n+m) t))
  (fun i aa t gB=>by obtain⟨cI,e,c1⟩:=ahX hc hm aU aa x0 x0 gb eL lH (m:Int) gB;refine⟨cI,?_,c1⟩;simp only;unfold BP;exact fh (aI e (by rw[fE (by omega)])))
  (fun t _=>by simp only;unfold BP;exact fs rfl) t h
 exact⟨cI,e,c1⟩
theorem ag8 {n:Nat}(aU:n<=40){c:Nat->Int}(a0:∀j,j<n-> -100<=c j/\c j<=100)(fK qn:Int)(q1:aqh)(q2:ar)(bL:aqc)(cr:aqi)(gb eL:ar):
 MO fK q1 q2 bL cr qn (n:Int) gb eL (aQ n c) 0 []=some (aQ n fun j=>cj (c j:Rat)):=by
 unfold MO
 obtain⟨_,e,-⟩:=ix (f:=fun w:Int×aqc=>BQ fK q1 q2 bL cr qn (n:Int) gb eL (aQ n c) w.1 w.2) (fun (j:Nat) (_:Unit)=>((j:Int),aQ j fun j=>cj (c j:Rat))) n (fun _ _=>True) (fun _=>aQ n fun j=>cj (c j:Rat))
  (fun j ay _ _=>by refine⟨(),?_,trivial⟩;have:=a0 j ay;simp only;unfold BQ;refine fh (d9 (aI (gt rfl (gd ay)) (aI (sF (lJ.2 (by omega))) (cz (by simp only[dE,c0,List.length_singleton];omega) ?_))));rw[fE (by omega),lg])
  (fun _ _=>by simp only;unfold BQ;exact fs rfl) () trivial
 exact e
theorem WV (n:Nat)(t:b2)(i:Nat):iJ (i+1) n t=iJ i n t++(if t.B i<n then [i] else []):=by
 unfold iJ;rw[List.range_succ,List.filter_append];congr 1;by_cases c:t.B i<n
 ·rw[dw c];simp[c]
 rw[dA c];simp[c]
theorem X9 (n:Nat)(t:b2){i:Nat}(gN:t.B i<n): ∀m,i<m->(iJ m n t)[(iJ i n t).length]? = some i
 | 0,h=>by omega
 | m+1,h=>by
  rw[WV];by_cases c:i<m
  ·have:=X9 n t gN m c;rw[apY (f6 this)];exact this
  obtain rfl:i=m:=(by omega);rw[dw gN,ap0 (dD _),Nat.sub_self];rfl
theorem akv (n:Nat)(t:b2){i m:Nat}(gN:t.B i<n)(h:i<m):k3 m n t (iJ i n t).length=i:=by have:=X9 n t gN m h;have aR:=f6 this;rw[GU aR] at this;exact dJ this
theorem Ya (n:Nat)(t:b2)(i:Nat):(iJ i n t).length<=i:=by unfold iJ;exact Nat.le_trans (List.length_filter_le ..) (by rw[List.length_range];exact dD _)
theorem ahY {m n:Nat}(hm:m<=20)(aU:n<=40)(t:b2)(x0:Int)(gb eL lH:ar)(bL eH:aqc):
 MP (m:Int) ((n+m:Nat):Int) (iZ m (n+m)) (cX m t) bL (gO m (n+m) t) x0 (n:Int) gb eL lH eH 0 [] [] [] =
  some (iZ (iJ m n t).length n,gO (iJ m n t).length n (p9 n (n+m) (k3 m n t) t),cX (iJ m n t).length (p9 n (n+m) (k3 m n t) t)):=by
 unfold MP
 obtain⟨_,e,-⟩:=ix (f:=fun w:Int×aqh×aqi×ar=>BR (m:Int) ((n+m:Nat):Int) (iZ m (n+m)) (cX m t) bL (gO m (n+m) t) x0 (n:Int) gb eL lH eH w.1 w.2.1 w.2.2.1 w.2.2.2)
  (fun (i:Nat) (_:Unit)=>((i:Int),iZ (iJ i n t).length n,gO (iJ i n t).length n (p9 n (n+m) (k3 m n t) t),cX (iJ i n t).length (p9 n (n+m) (k3 m n t) t))) m (fun _ _=>True)
  (fun _=>(iZ (iJ m n t).length n,gO (iJ m n t).length n (p9 n (n+m) (k3 m n t) t),cX (iJ m n t).length (p9 n (n+m) (k3 m n t) t)))
  (fun i aa _ _=>by
    refine⟨(),?_,trivial⟩;have hle:=Ya n t i;have h1:(iZ m (n+m)).length=m:=c0 ..;have h2:(cX m t).length=m:=c0 ..;have bM:=WV n t i;simp only;unfold BR;refine fh (cz (by rw[h1];omega) (aI (x:=some (i,n+m+1)) (by rw[dy];exact hK aa) (cz (by rw[h2];omega) (aI (x:=((t.B i:Nat):Int)) (by rw[dy];exact hK aa) ?_))));by_cases c:t.B i<n;rotate_left
    ·refine fs ?_;rw[dA c,List.append_nil] at bM;rw[bM,fE (by omega)]
    rw[dw c] at bM;have du:=akv n t c aa
    have ev:([]++((hG (n+m) t i).drop 0).take (((n:Nat):Int).toNat-0))++[cj (t.T i (n+m))]=hG n (p9 n (n+m) (k3 m n t) t) (iJ i n t).length:=by
     rw[dy,List.drop_zero,Nat.sub_zero,List.nil_append];unfold hG;rw[aku _ (by omega),lg n];congr 1
     ·exact fa fun j ay=>by show _=cj (t.T (k3 m n t (iJ i n t).length) (nX n (n+m) j));rw[du,Ab ay]
     show _=[cj (t.T (k3 m n t (iJ i n t).length) (nX n (n+m) n))];rw[du,Ek]
    have u2:(hG n (p9 n (n+m) (k3 m n t) t) (iJ i n t).length).length=n+1:=c0 ..;have PT:(gO (iJ i n t).length n (p9 n (n+m) (k3 m n t) t)).length=(iJ i n t).length:=c0 ..;refine fh (aI (x:=(i,n+m+1)) rfl (aI (x:=hG (n+m) t i) (gd aa) (d9 (cz (by simp only[dy];omega) (cz (by unfold hG;rw[c0,dy];omega) (cz (by rw[dy,List.nil_append,List.length_take,List.length_drop];omega) (d9 (aI (x:=cj (t.T i (n+m))) (by rw[dy];exact hK (by omega)) ?_))))))));rw[ev,u2,PT];refine d9 (cz (by simp only[dE,List.length_singleton];unfold iZ;rw[c0];omega) (cz (by simp only[dE,List.length_singleton];unfold cX;rw[c0];omega) ?_));have sl:(iJ (i+1) n t).length=(iJ i n t).length+1:=(by rw[bM,dE];rfl);rw[sl,fE (by omega)];unfold iZ gO cX;rw[lg (iJ i n t).length fun q=>(some (q,n+1):bB),lg (iJ i n t).length (hG n (p9 n (n+m) (k3 m n t) t)),lg (iJ i n t).length fun q=>(((p9 n (n+m) (k3 m n t) t).B q:Nat):Int)];have a3:(p9 n (n+m) (k3 m n t) t).B (iJ i n t).length=t.B i:=(by show t.B (k3 m n t (iJ i n t).length)=_;rw[du]);rw[a3])
  (fun _ _=>by simp only;unfold BR;exact fs rfl) () trivial
 exact e
theorem ag9 {Q4:Nat}{fc:aqi}{row:aqc}(h:fc[Q4]? = some row)(k:Int)(cb len:Nat)(Q5:aqc):FC k Q4 cb len Q5 fc=zd k cb len Q5 row:=by
 have e : ∀t iW jM pP,(fun w:Int×aqc=>Fh Q4 cb len t fc iW jM pP w.1 w.2)=fun w:Int×aqc=>xy cb len t row iW jM pP w.1 w.2:=fun t iW jM pP=>by funext w;unfold Fh xy;rw[h];rfl
 unfold FC zd SC ML;simp only[e]
theorem KN {n:Nat}{c:Nat->Int}{j:Nat}(h:n<=j):iz n c j=0:=by unfold iz pD;simp only;rw[dA (by omega)];rfl
theorem Y6 {n:Nat}{c:Nat->Int}{j:Nat}(h:j<n):iz n c j=(c j:Rat):=by unfold iz pD;simp only;rw[dw h]
theorem Le {n:Nat}{c:Nat->Int}(a0:∀j,j<n-> -100<=c j/\c j<=100)(j:Nat):d6 100 (iz n c j):=by
 by_cases h:j<n
 ·rw[Y6 h];have:=a0 j h;exact⟨c j,rfl,by omega⟩
 rw[KN (by omega)];exact⟨0,rfl,by omega⟩
theorem OD {m n:Nat}{a:Nat->Nat->Int}{b:Nat->Int}{aH:Nat}{g:Nat->Nat}{hZ:Nat->Nat->Rat}{u:b2}(hc:Small m (n+m) (dn m n a b))(h:qL m n a b aH g hZ u){o:Nat->Rat}(hw:∀j,d6 100 (o j)){i j:Nat}(aa:i<=aH)(ay:j<=n):eS (o j-cy i (fun q=>o (u.B q)*u.T q j)):=by
 obtain⟨t,h1,h2,J⟩:=h.bJ;have hm:=hc.hm;have lY:=h1.le;have aa2:=h1.inv.A6 hc;have e:(o j-cy i (fun q=>o (u.B q)*u.T q j))*t.D m (dn m n a b)=o j*t.D m (dn m n a b)-cy i (fun q=>o (u.B q)*(u.T q j*t.D m (dn m n a b))):=by rw[gy (f:=fun q=>o (u.B q)*(u.T q j*t.D m (dn m n a b))) (g:=fun q=>(o (u.B q)*u.T q j)*t.D m (dn m n a b)) (fun q _=>by grind),wy];grind
 have w:d6 (21*100*eX) ((o j-cy i (fun q=>o (u.B q)*u.T q j))*t.D m (dn m n a b)):=by
  rw[e];refine d6.mono (((hw j).mul aa2).sub (d6.sum fun q a1=>(hw _).mul (ui:=eX) ?_)) ?_
  ·rw[(J q (by omega)).1 j ay];exact h1.inv.vZ hc (h1.lt q (by omega)) (Ea (by omega) ay)
  have:i*(100*eX)<=20*(100*eX):=apV _ (by omega);omega
 exact r8 (aa2.mono (Nat.le_trans (by omega:eX<=21*100*eX) (dD _))) w h1.inv.te (by grind) (qD yj)
theorem agq {m n:Nat}{a:Nat->Nat->Int}{b:Nat->Int}{aH:Nat}{g:Nat->Nat}{hZ:Nat->Nat->Rat}{u:b2}(hc:Small m (n+m) (dn m n a b))(aU:n<=40)(h:qL m n a b aH g hZ u){o:Nat->Rat}(hw:∀j,d6 100 (o j))(fK qn:Int)(q1:aqh)(q2:ar)(bL:aqc)(cr:aqi):
 MQ (aH:Int) fK q1 q2 bL cr qn (iZ aH n) (gO aH n u) (cX aH u) 0 (hM n o)=some (hM n (u.cw aH o)):=by
 have lY:aH<=20:=by obtain⟨t,h1,-,-⟩:=h.bJ;have:=h1.le;have:=hc.hm;omega
 obtain⟨Jd,-⟩:=h.fits hc;have L:=h.lt;unfold MQ
 obtain⟨_,e,-⟩:=ix (f:=fun w:Int×aqc=>BS (aH:Int) fK q1 q2 bL cr qn (iZ aH n) (gO aH n u) (cX aH u) w.1 w.2) (fun (i:Nat) (_:Unit)=>((i:Int),hM n fun j=>o j-cy i (fun q=>o (u.B q)*u.T q j))) aH (fun _ _=>True) (fun _=>hM n (u.cw aH o))
  (fun i aa _ _=>by
    refine⟨(),?_,trivial⟩;have a3:=L.jZ i aa;have ko:(iZ aH n).length=aH:=c0 ..;have lq:(cX aH u).length=aH:=c0 ..;have aa3:o (u.B i)-cy i (fun q=>o (u.B q)*u.T q (u.B i))=o (u.B i):=(by rw[oH fun q a1=>by rw[L.unit q (by omega) i aa,dA (by omega)];grind];grind);have qm : ∀j,o j-cy i (fun q=>o (u.B q)*u.T q j)-(o (u.B i)-cy i (fun q=>o (u.B q)*u.T q (u.B i)))*u.T i j=o j-cy (i+1) (fun q=>o (u.B q)*u.T q j):=fun j=>by rw[aa3,cy];grind
    have anL:=WT (n+1) (by omega) (u.B i) (by omega) (fun j=>o j-cy i (fun q=>o (u.B q)*u.T q j)) (fun j=>u.T i j) (fun j ay=>OD hc h hw (by omega) (by omega)) (fun j ay=>Jd i aa j (by omega)) (fun j ay=>by
     have f1:=OD hc h hw (i:=i+1) (j:=j) (by omega) (by omega);rw[aa3];obtain⟨t,h1,h2,J⟩:=h.bJ;have w:=((hw (u.B i)).neg).mul (h1.inv.vZ hc (h1.lt i aa) (Ea (n:=n) (N:=n+m) (j:=j) (by omega) (by omega)));rw[<- (J i aa).1 j (by omega)] at w;exact r8 (K:=21*100*eX) ((h1.inv.A6 hc).mono (by omega)) (w.mono (by omega)) h1.inv.te (by grind) (qD yj)) (fun j ay=>by
     rw[qm];exact OD hc h hw (by omega) (by omega))
    simp only;unfold BS;refine fh (cz (by rw[ko];omega) (aI (x:=some (i,n+1)) (by rw[dy];exact hK aa) (cz (by rw[lq];omega) (aI (x:=((u.B i:Nat):Int)) (by rw[dy];exact hK aa) (aI (x:=(i,n+1)) rfl (aI (x:=hG n u i) (gd aa) (aI (x:=hM n fun j=>o j-cy (i+1) (fun q=>o (u.B q)*u.T q j)) ?_ (cz (by unfold hM;rw[c0,c0]) (by rw[fE (by omega)])))))))));refine Eq.trans (ag9 (fc:=gO aH n u) (row:=hG n u i) (gd aa) _ _ _ _) (Eq.trans anL ?_);congr 1;exact fa fun j _=>by rw[qm])
  (fun _ _=>by simp only;unfold BS;exact fs rfl) () trivial
 have e0:(hM n fun j=>o j-cy 0 (fun q=>o (u.B q)*u.T q j))=hM n o:=fa fun j _=>by show cj (o j-0)=_;congr 1;grind
 rw[e0] at e;exact e
theorem ahZ {aH n:Nat}(hm:aH<=20)(aU:n<=40){u:b2}(inj:∀i,i<aH-> ∀k,k<aH->u.B i=u.B k->i=k)(Jd:∀i,i<aH-> ∀j,j<=n->eS (u.T i j))(z:Int)(q:aqc){j:Nat}(ay:j<n)(k:Nat):Ng z (gO aH n u) (cX aH u) q (j:Int) true (k:Int) (aH:Int) 0 0=some (j1 (cy aH fun i=>if u.B i=k then u.T i j else 0)):=by
 unfold Ng
 obtain⟨_,e,-⟩:=ix (f:=fun w:Int×Int=>Cq z (gO aH n u) (cX aH u) q (j:Int) true (k:Int) (aH:Int) w.1 w.2) (fun (i:Nat) (_:Unit)=>(j1 (cy i fun i=>if u.B i=k then u.T i j else 0),(i:Int))) aH (fun _ _=>True) (fun _=>j1 (cy aH fun i=>if u.B i=k then u.T i j else 0))
  (fun i aa _ _=>by
    refine⟨(),?_,trivial⟩;have ko:(cX aH u).length=aH:=c0 ..;have lq:(gO aH n u).length=aH:=c0 ..;have yM:(hG n u i).length=n+1:=c0 ..;simp only;unfold Cq;refine fh (cz (by rw[ko];omega) (aI (x:=((u.B i:Nat):Int)) (by rw[dy];exact gd aa) ?_));by_cases c:u.B i=k
    ·refine gH (EO (by omega)) (cz (by rw[lq];omega) (aI (x:=hG n u i) (by rw[dy];exact gd aa) (cz (by rw[yM];omega) (aI (x:=cj (u.T i j)) (by rw[dy];exact gd (by omega)) (aI (qz (Jd i aa j (by omega))) ?_)))));rw[fE (by omega),cy,dw c,oH fun q a1=>dA fun e=>by have:=inj q (by omega) i aa (by omega);omega];congr 4;grind
    refine jF (yt (by omega)) ?_;rw[fE (by omega),cy,dA c,Rat.add_zero])
  (fun _ _=>by simp only;unfold Cq;exact fs rfl) () trivial
 have e0:j1 (cy 0 fun i=>if u.B i=k then u.T i j else 0)=0:=pS.2 rfl;rw[e0] at e;exact e
theorem Xw {aH:Nat}{c:Nat->Rat}{u:b2}{j k:Nat}:u.cw aH (il c (k+1)) j=(if j=k then -1 else 0)+cy aH (fun i=>if u.B i=k then u.T i j else 0):=by
 unfold b2.cw;have:cy aH (fun i=>il c (k+1) (u.B i)*u.T i j)=cy aH (fun i=>(-1:Rat)*(if u.B i=k then u.T i j else 0)):=gy fun i _=>by simp only[il];split<;>grind
 rw[this,ki];simp only[il];grind
theorem agr {aH n:Nat}(hm:aH<=20)(aU:n<=40){c:Nat->Rat}{u:b2}(inj:∀i,i<aH-> ∀k,k<aH->u.B i=u.B k->i=k)(Jd:∀i,i<aH-> ∀j,j<=n->eS (u.T i j))(anM:∀j,j<=n->eS (u.cw aH c j)){j:Nat}(ay:j<n):
 ∃g,wu ⟨(n:Int),gO aH n u,cX aH u,hM n (u.cw aH c)⟩ (j:Int) true=some g/\((∀i,i<aH->u.B i≠j)->(0<g↔u.rO aH (n+1) (il c) j)):=by
 have ko:(hM n (u.cw aH c)).length=n+1:=c0 ..;have u9:len_ eI (cX aH u)=((aH:Nat):Int):=by rw[g9];show ((aQ aH _).length:Int)=_;rw[c0]
 obtain⟨r,e,aj⟩:=tv (f:=fun w:Int×Int=>y2 (n:Int) (gO aH n u) (cX aH u) (hM n (u.cw aH c)) (j:Int) true w.1 w.2)
  (fun (k:Nat) (_:Unit)=>(j1 (u.cw aH (il c k) j),(k:Int))) n (fun k _=>k<=j/\ ∀l,l<k->u.cw aH (il c l) j=0)
  (fun r=> ∃g,(r = .inl g\/(r = .inr ()/\g = -1))/\((∀i,i<aH->u.B i≠j)->(0<g↔u.rO aH (n+1) (il c) j)))
  (fun k a2 _ c4=>by
    obtain⟨apN,cB⟩:=c4;simp only;unfold y2;by_cases z:u.cw aH (il c k) j=0
    ·have fK:j1 (u.cw aH (il c k) j)=0:=pS.2 z
     have vP : ∀l,l<k+1->u.cw aH (il c l) j=0:=fun l aR=>by
      by_cases e:l=k
      ·rw[e];exact z
      exact cB l (by omega)
     by_cases e:k=j
     ·refine .inr ⟨.inr (),?_,-1,.inr ⟨rfl,rfl⟩,fun IZ=>⟨fun h=>absurd h (by omega),fun du=> ?_⟩⟩
      ·rw[fK];exact gH rfl (gH rfl (fh (gH (EO (by omega)) rfl)))
      exfalso;have neg:u.cw aH (il c (k+1)) j = -1:=(by rw[Xw,dw e.symm,oH fun i aa=>dA fun x=>IZ i aa (by omega)];grind);obtain⟨l,gh,gi,bm⟩:=du;simp only at gi bm;by_cases bf:l<k+1
      ·rw[vP l bf] at gi;grind
      by_cases cx:l=k+1
      ·rw[cx,neg] at gi;grind
      have:=bm (k+1) (by omega);rw[neg] at this;grind
     refine .inl ⟨(),?_,by omega,vP⟩;rw[fK,u9];refine gH rfl (gH rfl (fh (jF (yt (by omega)) (aI (ahZ hm aU inj Jd (n:Int) (hM n (u.cw aH c)) ay k) ?_))));rw[fE (by omega),Xw,dA (fun x=>e x.symm),Rat.zero_add]
    refine .inr ⟨.inl (j1 (u.cw aH (il c k) j)),?_,_,.inl rfl,fun IZ=> ?_⟩
    ·exact jF (yt fun x=>z (pS.1 x)) rfl
    rw[tB];constructor
    ·intro h;exact⟨k,by omega,h,cB⟩
    rintro⟨l,gh,gi,bm⟩;simp only at gi bm;by_cases bf:l<k
    ·rw[cB l bf] at gi;grind
    by_cases cx:l=k
    ·rw[cx] at gi;exact gi
    exact absurd (bm k (by omega)) z)
  (fun _ c4=>absurd c4.1 (by omega)) () ⟨by omega,fun l aR=>by omega⟩
 obtain⟨g,du,a1⟩:=aj;refine⟨g,?_,a1⟩;unfold wu;refine cz (by simp only;rw[ko];omega) (aI (x:=cj (u.cw aH c j)) (by simp only;rw[dy];exact gd (by omega)) (aI (qz (anM j (by omega))) (aI (x:=r) e ?_)));rcases du with rfl|⟨rfl,rfl⟩<;>rfl
theorem ajG {x:Rat}(U:eS x):Gi (cj x)=some (cj x):=by
 have p:=U.dp;have h1:=p.o5;have h2:=p.oL;have e1:(cj x).cJ.bP.length<=100:=by show (L (e3 x).1.natAbs).length<=100;omega
 have e2:(cj x).dl.length<=100:=by show (L (e3 x).2).length<=100;omega
 unfold Gi;rw[List.nil_append,List.nil_append];exact d9 (d9 rfl)
theorem Ks {aH n:Nat}{u:b2}(inj:∀i,i<aH-> ∀k,k<aH->u.B i=u.B k->i=k)(j:Nat): ∀i,i<=aH->(∃q,q<i/\u.B q=j/\u.hH i n j=u.T q n)\/((∀q,q<i->u.B q≠j)/\u.hH i n j=0)
 | 0,_=> .inr ⟨fun q a1=>by omega,rfl⟩
 | i+1,aa=>by
  rw[OC];by_cases c:u.B i=j
  ·rw[dw c]
   rcases Ks inj j i (by omega) with ⟨q,h1,h2,-⟩|⟨-,h2⟩
   ·have:=inj q (by omega) i (by omega) (by omega);omega
   exact .inl ⟨i,by omega,c,by rw[h2];grind⟩
  rw[dA c,Rat.add_zero];rcases Ks inj j i (by omega) with ⟨q,h1,h2,J⟩|⟨h1,h2⟩
  ·exact .inl ⟨q,by omega,h2,J⟩
  refine .inr ⟨fun q a1=> ?_,h2⟩;by_cases e:q=i
  ·rw[e];exact c
  exact h1 q (by omega)
theorem ah0 {p:kt}{m n:Nat}{a:Nat->Nat->Int}{b:Nat->Int}(h:mN p m n a b){c:Nat->Int}(qp:p.h7=aQ n c)(a0:∀j,j<n-> -100<=c j/\c j<=100){t:b2}(cl:tQ m n a b 0 t):
 ∃aH g u q1 q2 bL,aH<=20/\qL m n a b aH g u.T u/\C0 p ((n+m:Nat):Int) (iZ m (n+m)) (cX m t) (hM (n+m) (t.cw m (gP m n))) (gO m (n+m) t)=some (q1,q2,bL,(n:Int),iZ aH n,cX aH u,hM n (u.cw aH (iz n c)),gO aH n u):=by
 have hm:=h.hm;have aU:=h.aU;have hc:=GJ h;obtain⟨cI,bG,oA⟩:=ag7 hc hm aU p.ha p.dr p.d4 p.h7 cl;have bJ:=ag6 oA.bJ.inv oA.bJ.z oA.Jc;have gN : ∀i,i<(iJ m n cI).length->cI.B (k3 m n cI i)<n:=fun i aa=>(Xv aa).2;have J : ∀i,i<(iJ m n cI).length->(∀j,j<=n->(p9 n (n+m) (k3 m n cI) cI).T i j=cI.T (k3 m n cI i) (nX n (n+m) j))/\(p9 n (n+m) (k3 m n cI) cI).B i=cI.B (k3 m n cI i):=fun i aa=>⟨fun _ _=>rfl,rfl⟩;have L:=X8 bJ gN J;have hle:=Ya n cI m
 have fp:qL m n a b (iJ m n cI).length (k3 m n cI) (p9 n (n+m) (k3 m n cI) cI).T (p9 n (n+m) (k3 m n cI) cI):=by
  refine⟨?_,cI,bJ,gN,J⟩;by_cases z:(iJ m n cI).length=0
  ·rw[z];exact⟨fun c a0=>by omega,⟨fun _ _=>0,fun i aa=>by omega⟩,fun i aa=>by omega,fun i aa=>by omega⟩
  have:=gN 0 (by omega);exact L.tok (dD _) (by omega)
 have ko:((iZ m (n+m)).length:Int)=(m:Int):=by unfold iZ;rw[c0]
 have lq:((iZ (iJ m n cI).length n).length:Int)=(((iJ m n cI).length:Nat):Int):=by unfold iZ;rw[c0]
 have ang:(aQ n fun j=>cj (c j:Rat))++[cj 0]=hM n (iz n c):=by
  unfold hM;rw[lg];congr 1
  ·exact fa fun j ay=>by rw[Y6 ay]
  rw[KN (dD _)]
 refine⟨(iJ m n cI).length,k3 m n cI,p9 n (n+m) (k3 m n cI) cI,cX m cI,hM (n+m) (cI.cw m (gP m n)),gO m (n+m) cI,by omega,fp,?_⟩;unfold C0;rw[ko,h.hi];refine aI bG ?_;simp only;rw[qp];refine aI (ag8 aU a0 _ _ _ _ _ _ _ _) (aI (sF (n:=0) (lJ.2 (by omega))) ?_);rw[show ((0:Int):Rat)=0 from rfl,ang];refine cz (by unfold hM;rw[c0];omega) (aI (ahY hm aU cI _ _ _ _ _ _) ?_);simp only;rw[lq];exact aI (agq hc aU fp (Le a0) _ _ _ _ _ _) rfl
theorem ah1 {p:kt}{m n:Nat}{a:Nat->Nat->Int}{b:Nat->Int}(h:mN p m n a b){c:Nat->Int}(qp:p.h7=aQ n c)(a0:∀j,j<n-> -100<=c j/\c j<=100):
 ∃r,sr p=some r/\((¬rs m n a b/\r=⟨2,[],⟨⟨false,[]⟩,[]⟩⟩)\/(rs m n a b/\ ¬Bounded m n a b (iz n c)/\r=⟨3,[],⟨⟨false,[]⟩,[]⟩⟩) \/
  ∃x,vx m n a b (iz n c) x/\(∀j,eS (x j))/\eS (val n (iz n c) x)/\r=⟨0,aQ n (fun j=>cj (x j)),cj (val n (iz n c) x)⟩):=by
 have hm:=h.hm;have aU:=h.aU;have hc:=GJ h;obtain⟨t,e1,c4,bM⟩:=ahT h;have anN:=c4.Ay hc (fun j _=>KM m n j) (dD (n+m));have anO:(hM (n+m) (t.cw m (gP m n))).length=n+m+1:=c0 ..
 have pre : ∀r,(if (j1 (t.cw m (gP m n) (n+m)) != (0:Int))=true then some (⟨2,[],⟨⟨false,[]⟩,[]⟩⟩:xU) else
  C0 p ((n+m:Nat):Int) (iZ m (n+m)) (cX m t) (hM (n+m) (t.cw m (gP m n))) (gO m (n+m) t) >>= fun bY =>
  wo true bY.2.2.2.1 bY.2.2.2.2.1 bY.2.2.2.2.2.1 bY.2.2.2.2.2.2.1 bY.2.2.2.2.2.2.2 >>= fun cR =>
  if cR.1=true then
   if 0<=bY.2.2.2.1/\bY.2.2.2.1<(cR.2.2.1.length:Nat) then
   cR.2.2.1[(0+bY.2.2.2.1.toNat)]? >>= fun Im =>
   uq Im >>= fun hz =>
   M5 p.ha p.fC p.dr p.d4 p.h7 bY.2.2.2.1 bY.2.2.2.2.1 cR.2.1 cR.2.2.1 cR.2.2.2 hz.cJ.cD hz.cJ.bP hz.dl 0 ([]:aqc) >>= fun l2 =>
   M6 ((cR.2.1.length:Nat):Int) bY.2.2.2.1 bY.2.2.2.2.1 cR.2.1 cR.2.2.1 cR.2.2.2 hz.cJ.cD hz.cJ.bP hz.dl 0 l2 >>= fun xi =>
   some (⟨0,xi,hz⟩:xU)
   else none
  else some (⟨3,([]:aqc),(⟨(⟨false,([]:ar)⟩:bC),([]:ar)⟩:av)⟩:xU))=some r->sr p=some r:=fun r aj=>by
  unfold sr;exact aI (aiY h) (aI e1 (cz (by simp only;rw[anO];omega) (aI (x:=cj (t.cw m (gP m n) (n+m))) (by simp only;rw[dy];exact hK (by omega)) (aI (qz anN) aj))))
 by_cases z:t.cw m (gP m n) (n+m)=0;rotate_left
 ·exact⟨_,pre _ (gH (xe fun e=>z (pS.1 e)) rfl),.inl ⟨fun s=>z (bM.2 s),rfl⟩⟩
 have anP:=bM.1 z;have anQ:tQ m n a b 0 t:=⟨⟨c4,NQ c4.l5 z c4.ok.jZ,dD _,fun i aa=>aa,fun i _ k _ e=>e,fun d bD hR=>(hR d bD rfl).elim⟩,fun q a1=>by omega⟩;obtain⟨aH,g,u,q1,q2,bL,lY,fp,e2⟩:=ah0 h qp a0 anQ;have ap : ∀j,n<=j->iz n c j=0:=fun j ay=>KN ay;have inj : ∀ {v:b2},qL m n a b aH g u.T v-> ∀i,i<aH-> ∀k,k<aH->v.B i=v.B k->i=k:=fun bh i aa k a2 e=>Pc bh.lt aa a2 e
 obtain⟨q,v,bG,Bk,e8⟩:=YF (fe:=aH) (m:=aH) (N:=n) (K:=n+1) (by omega) (by omega) (A:=u.T) (obj:=il (iz n c)) true (qL m n a b aH g u.T)
  (fun t cl=>⟨cl.ok,cl.lt.l5⟩) (fun t r s cl da=>ahW cl da)
  (fun t cl j ay=>agr lY aU (inj cl) (fun i aa j ay=>(cl.fits hc).1 i aa j ay) (fun j ay=>cl.Ay hc ap (Le a0) ay) ay)
  (fun t cl i aa j ay=>(cl.fits hc).1 i aa j ay) (fun t cl i aa j ay ah=>(cl.fits hc).2 i aa j ay ah)
  (fun t cl r k aj a2 ah=>cl.HU hc ap (Le a0) aj a2 ah) u fp
 have ym:wo true (n:Int) (iZ aH n) (cX aH u) (hM n (u.cw aH (iz n c))) (gO aH n u)=some (q,cX aH v,hM n (v.cw aH (iz n c)),gO aH n v):=bG;have Je:=Bk.lt;rcases e8 with ⟨rfl,e8⟩|⟨rfl,s,xl,du,hR⟩;rotate_left
 ·refine⟨_,pre _ (jF (by rw[pS.2 z];rfl) (aI e2 (aI ym (jF rfl rfl)))),.inr (.inl ⟨anP,?_,rfl⟩)⟩
  obtain⟨l,aR,ah,-⟩:=du
  cases l with
  | zero=>exact Je.LQ (iz n c) xl ah hR
  | succ k =>
   obtain⟨i,aa,jT⟩:=Je.WG (c:=iz n c) ah;exact(hR i aa jT).elim
 have lD:=Je.lD e8
 have Q6 : ∀i,i<=aH-> ∀j,eS (v.hH i n j):=fun i aa j=>by
  rcases Ks (inj Bk) (n:=n) j i aa with ⟨q,h1,-,J⟩|⟨-,h2⟩
  ·rw[J];exact(Bk.fits hc).1 q (by omega) n (dD _)
  rw[h2];exact XZ (n:=0) (lJ.2 (by omega))
 have bh:v.cw aH (iz n c) n = -val n (iz n c) (v.hH aH n):=by unfold val;rw[Je.G0 (iz n c)];unfold b2.cw;rw[KN (dD _)];grind
 have aaB:=Bk.Ay hc ap (Le a0) (dD n);have alM:eS (val n (iz n c) (v.hH aH n)):=by have:=aaB.neg;rw[bh,Rat.neg_neg] at this;exact this
 refine⟨_,pre _ (jF (by rw[pS.2 z];rfl) (aI e2 (aI ym (gH rfl (cz ?_ (aI (x:=cj (v.cw aH (iz n c) n)) ?_ (aI (K2 aaB) (aI (x:=aQ n fun _=>cj 0) ?_ (aI (x:=aQ n fun j=>cj (v.hH aH n j)) ?_ rfl))))))))),.inr (.inr ⟨_,lD,fun j=>Q6 aH (dD _) j,alM,?_⟩)⟩
 ·simp only;unfold hM;rw[c0];omega
 ·simp only;rw[dy];exact hK (by omega)
 ·unfold M5
  rw[h.hi]
  obtain⟨_,e,-⟩:=ix (f:=fun w:Int×aqc=>Ch p.ha (n:Int) p.dr p.d4 p.h7 (n:Int) (iZ aH n) (cX aH v) (hM n (v.cw aH (iz n c))) (gO aH n v) (cj (-v.cw aH (iz n c) n)).cJ.cD (cj (-v.cw aH (iz n c) n)).cJ.bP (cj (-v.cw aH (iz n c) n)).dl w.1 w.2) (fun (j:Nat) (_:Unit)=>((j:Int),aQ j fun _=>cj (0:Rat))) n (fun _ _=>True) (fun _=>aQ n fun _=>cj (0:Rat))
   (fun j ay _ _=>by refine⟨(),?_,trivial⟩;simp only;unfold Ch;refine fh (aI (sF (n:=0) (lJ.2 (by omega))) (cz (by simp only[dE,c0,List.length_singleton];omega) ?_));rw[fE (by omega),lg];rfl)
   (fun _ _=>by simp only;unfold Ch;exact fs rfl) () trivial
  exact e
 ·have u9:(((cX aH v).length:Nat):Int)=(aH:Int):=by unfold cX;rw[c0]
  simp only;rw[u9];unfold M6
  obtain⟨_,e,-⟩:=ix (f:=fun w:Int×aqc=>Ci (aH:Int) (n:Int) (iZ aH n) (cX aH v) (hM n (v.cw aH (iz n c))) (gO aH n v) (cj (-v.cw aH (iz n c) n)).cJ.cD (cj (-v.cw aH (iz n c) n)).cJ.bP (cj (-v.cw aH (iz n c) n)).dl w.1 w.2) (fun (i:Nat) (_:Unit)=>((i:Int),aQ n fun j=>cj (v.hH i n j))) aH (fun _ _=>True) (fun _=>aQ n fun j=>cj (v.hH aH n j))
   (fun i aa _ _=>by
     refine⟨(),?_,trivial⟩;have a3:=Je.jZ i aa;have ko:(cX aH v).length=aH:=c0 ..;have lq:(iZ aH n).length=aH:=c0 ..;simp only;unfold Ci;refine fh (cz (by rw[ko];omega) (aI (x:=((v.B i:Nat):Int)) (by rw[dy];exact hK aa) (cz (by rw[lq];omega) (aI (x:=some (i,n+1)) (by rw[dy];exact hK aa) (aI (x:=(i,n+1)) rfl (aI (x:=hG n v i) (gd aa) (d9 (aI (x:=cj (v.T i n)) (by rw[dy];exact hK (by omega)) (aI (ajG ((Bk.fits hc).1 i aa n (dD _))) (d9 (d9 ?_)))))))))));rw[fE (by omega),dy,dG,lK];congr 3;refine fa fun j _=> ?_;rw[OC];by_cases e:j=v.B i
     ·rw[dw e,dw e.symm]
      rcases Ks (inj Bk) (n:=n) j i (by omega) with ⟨q,h1,h2,-⟩|⟨-,h2⟩
      ·have:=inj Bk q (by omega) i aa (by omega);omega
      rw[h2,Rat.zero_add]
     rw[dA e,dA fun x=>e x.symm,Rat.add_zero])
   (fun _ _=>by simp only;unfold Ci;exact fs rfl) () trivial
  exact e
 rw[bh,Rat.neg_neg]
def w8 (k:Nat)(x:dg):aqr:=(if x.h3=2 then [] else [⟨(k:Int),1⟩])++(if x.h3=1 then [] else [⟨(k:Int),-1⟩])
def m9 (gG:aqn):Nat->aqr
 | 0=>[]
 | n+1=>m9 gG n++(match gG[n]? with
  | some x=>w8 n x
  | none=>[])
theorem Kt (gG:aqn): ∀n,(m9 gG n).length<=2*n
 | 0=>by simp[m9]
 | n+1=>by
  have:=Kt gG n;rw[m9,dE]
  have h2:(match gG[n]? with
   | some x=>w8 n x
   | none=>[]).length<=2:=by
   split
   ·rename_i x _;unfold w8;rw[dE];split<;>split<;>simp
   simp
  omega
theorem Xx {gG:aqn}: ∀ {n:Nat} {c:fP},n<=gG.length->c∈m9 gG n-> ∃k:Nat,c.ig=k/\k<n/\(c.sJ=1\/c.sJ = -1)
 | 0,c,_,h=>by simp[m9] at h
 | n+1,c,aU,h=>by
  rw[m9,List.mem_append] at h;rcases h with h|h
  ·obtain⟨k,h1,h2,J⟩:=Xx (by omega) h;exact⟨k,h1,by omega,J⟩
  rw[dz (by omega)] at h;simp only[w8,List.mem_append] at h;rcases h with h|h
  ·split at h
   ·simp at h
   simp at h;subst h;exact⟨n,rfl,by omega,.inl rfl⟩
  split at h
  ·simp at h
  simp at h;subst h;exact⟨n,rfl,by omega,.inr rfl⟩
theorem N3 (s:c6)(eG:s.bN.length<=1000):yW s=some (m9 s.bN s.bN.length):=by
 unfold yW RA;rw[fj]
 obtain⟨x,e,-⟩:=ix (f:=fun w:Int×aqr=>Bw s.bN (s.bN.length:Nat) w.1 w.2) (fun (n:Nat) (_:Unit)=>((n:Int),m9 s.bN n)) s.bN.length (fun _ _=>True) (fun _=>m9 s.bN s.bN.length)
  (fun n aU _ _=>by
    refine⟨(),?_,trivial⟩;have U:=dz aU;have aR:=Kt s.bN n;have e1:m9 s.bN (n+1)=m9 s.bN n++w8 n s.bN[n]:=(by rw[m9,U]);unfold Bw;refine fh (d9 (aI (x:=s.bN[n]) (by simp only;rw[dy];exact U) ?_));simp only;rw[fE (by omega),e1];unfold w8;by_cases bf:s.bN[n].h3=2
    ·rw[dw bf];refine jF (EP bf) (gH (xe (by omega)) (cz (by simp only[dE,dI,dQ];omega) ?_));rw[dA (by omega)];simp
    rw[dA bf];refine gH (xe bf) (cz (by simp only[dE,dI,dQ];omega) ?_);by_cases cx:s.bN[n].h3=1
    ·refine jF (EP cx) ?_;rw[dw cx];simp
    refine gH (xe cx) (cz (by simp only[dE,dI,dQ];omega) ?_);rw[dA cx];simp)
  (fun _ _=>by unfold Bw;exact fs rfl) () trivial
 exact aI e rfl
theorem Vc (s:c6)(eG:s.bN.length<=1000):zg s=some ((m9 s.bN s.bN.length).map fP.ig,(m9 s.bN s.bN.length).map fP.sJ):=by
 unfold zg S1;rw[fj]
 obtain⟨x,e,-⟩:=ix (f:=fun w:Int×ar×ar=>BV s.bN (s.bN.length:Nat) w.1 w.2.1 w.2.2) (fun (n:Nat) (_:Unit)=>((n:Int),(m9 s.bN n).map fP.ig,(m9 s.bN n).map fP.sJ)) s.bN.length (fun _ _=>True) (fun _=>((m9 s.bN s.bN.length).map fP.ig,(m9 s.bN s.bN.length).map fP.sJ))
  (fun n aU _ _=>by
    refine⟨(),?_,trivial⟩;have U:=dz aU;have aR:=Kt s.bN n;have e1:m9 s.bN (n+1)=m9 s.bN n++w8 n s.bN[n]:=(by rw[m9,U]);unfold BV;refine fh (d9 (aI (x:=s.bN[n]) (by simp only;rw[dy];exact U) ?_));simp only;rw[fE (by omega),e1];unfold w8;by_cases bf:s.bN[n].h3=2
    ·rw[dw bf];refine jF (EP bf) (gH (xe (by omega)) (cz (by simp only[dE,ap4,dI,dQ];omega) (cz (by simp only[dE,ap4,dI,dQ];omega) ?_)));rw[dA (by omega)];simp
    rw[dA bf];refine gH (xe bf) (cz (by simp only[dE,ap4,dI,dQ];omega) (cz (by simp only[dE,ap4,dI,dQ];omega) ?_));by_cases cx:s.bN[n].h3=1
    ·refine jF (EP cx) ?_;rw[dw cx];simp
    refine gH (xe cx) (cz (by simp only[dE,ap4,dI,dQ];omega) (cz (by simp only[dE,ap4,dI,dQ];omega) ?_));rw[dA cx];simp)
  (fun _ _=>by unfold BV;exact fs rfl) () trivial
 exact aI e rfl
theorem ajH {α:Type}(a b:Nat)(f:Nat->α):aQ (a+b) f=aQ a f++aQ b (fun j=>f (a+j)):=by
 induction b with
 | zero=>simp[aQ]
 | succ b ih=>rw[<- Nat.add_assoc,lg,ih,lg,List.append_assoc]
def ow (s:c6)(k:Nat):Int×Int:=(so s k).getD (0,0)
theorem OE (s:c6)(h:oE s)(k:Nat)(a2:k<s.bN.length):so s k=some (ow s k)/\(-100<=(ow s k).1/\(ow s k).1<=100)/\(-100<=(ow s k).2/\(ow s k).2<=100):=by
 obtain⟨x,y,h1,J,ak⟩:=ajw s h k (by omega) (by omega);have e:ow s k=(x,y):=by unfold ow;rw[h1];rfl
 rw[e];exact⟨h1,J,ak⟩
def kn (s:c6)(j:Int)(k0 k:Nat):Int :=
 match s.bN[k]? with
 | none=>0
 | some x=>if j=x.dr then (if k0=0 then (ow s k).1 else (ow s k).2) else if j=x.d4 then -(if k0=0 then (ow s k).1 else (ow s k).2) else 0
theorem akw (s:c6)(h:oE s)(j:Int)(k0 k:Nat): -100<=kn s j k0 k/\kn s j k0 k<=100:=by
 unfold kn;split
 ·omega
 rename_i x U;obtain⟨-,J,ak⟩:=OE s h k (f6 U);split
 ·split<;>omega
 split
 ·split<;>omega
 omega
theorem ajI (s:c6)(h:oE s)(j:Int)(q1:ar)(q2 bL:Int)(cr:ar):
 Nf j q1 q2 bL s.bN (len_ ca s.bN) s.cv cr 0 ([]:ar) ([]:ar)=some (aQ s.bN.length (kn s j 0),aQ s.bN.length (kn s j 1)):=by
 obtain⟨-,-,f3,f4⟩:=id h;unfold Nf;rw[fj]
 obtain⟨x,e,-⟩:=ix (f:=fun w:Int×ar×ar=>Co j q1 q2 bL s.bN (s.bN.length:Nat) s.cv cr w.1 w.2.1 w.2.2) (fun (n:Nat) (_:Unit)=>((n:Int),aQ n (kn s j 0),aQ n (kn s j 1))) s.bN.length (fun _ _=>True) (fun _=>(aQ s.bN.length (kn s j 0),aQ s.bN.length (kn s j 1)))
  (fun n aU _ _=>by
    refine⟨(),?_,trivial⟩;have U:=dz aU;obtain⟨v1,v3,v4⟩:=OE s h n aU;have v2:=ajx s h n (by omega) (by omega) v1;unfold Co;refine fh (d9 (aI (x:=s.bN[n]) (by simp only;rw[dy];exact U) (aI (x:=ow s n) v2 ?_)));simp only;rw[fE (by omega),lg,lg];have g : ∀(F:Nat->Int) (v:Int),(aQ n F++[v]).length*8<=140737488355328:=fun F v=>(by simp only[dE,c0,dI,dQ];omega);by_cases bf:j=s.bN[n].dr
    ·have e0 : ∀k0,kn s j k0 n=if k0=0 then (ow s n).1 else (ow s n).2:=fun k0=>(by unfold kn;rw[U];simp only[dw bf]);refine gH (EO bf) (cz (g _ _) (cz (g _ _) ?_));rw[e0,e0];rfl
    refine jF (yt bf) ?_;by_cases cx:j=s.bN[n].d4
    ·have e0 : ∀k0,kn s j k0 n = -(if k0=0 then (ow s n).1 else (ow s n).2):=fun k0=>(by unfold kn;rw[U];simp only[dA bf,dw cx]);refine gH (EO cx) (cz (g _ _) (cz (g _ _) ?_));rw[e0,e0,cG (by omega) (by omega),cG (by omega) (by omega)];simp
    have e0 : ∀k0,kn s j k0 n=0:=fun k0=>(by unfold kn;rw[U];simp only[dA bf,dA cx]);refine jF (yt cx) (cz (g _ _) (cz (g _ _) ?_));rw[e0,e0])
  (fun _ _=>by unfold Co;exact fs rfl) () trivial
 exact e
theorem ajJ (s:c6)(h:oE s)(j:Int)(q1:ar)(q2 bL:Int)(cr:aql):
 Mo s.cv s.bN j q1 q2 bL (len_ ca s.bN) cr 0 (aQ s.bN.length fun _=>(0:Int)) (aQ s.bN.length fun _=>(0:Int))=some (aQ s.bN.length (kn s j 0),aQ s.bN.length (kn s j 1)):=by
 obtain⟨-,-,f3,f4⟩:=id h;unfold Mo;rw[fj]
 obtain⟨x,e,-⟩:=ix (f:=fun w:Int×ar×ar=>Br s.cv s.bN j q1 q2 bL (s.bN.length:Nat) cr w.1 w.2.1 w.2.2) (fun (n:Nat) (_:Unit)=>((n:Int),(aQ s.bN.length fun k=>if k<n then kn s j 0 k else 0),aQ s.bN.length fun k=>if k<n then kn s j 1 k else 0)) s.bN.length (fun _ _=>True) (fun _=>(aQ s.bN.length (kn s j 0),aQ s.bN.length (kn s j 1)))
  (fun n aU _ _=>by
    refine⟨(),?_,trivial⟩;have U:=dz aU;obtain⟨v1,v3,v4⟩:=OE s h n aU
    have da : ∀k0 v,v=kn s j k0 n->(aQ s.bN.length fun k=>if k<n then kn s j k0 k else 0).set n v=aQ s.bN.length fun k=>if k<n+1 then kn s j k0 k else 0:=fun k0 v bh=>by
     rw[lK];refine fa fun k _=> ?_;by_cases c:k=n
     ·subst c;rw[dw rfl,dw (by omega)];exact bh
     rw[dA c];by_cases cx:k<n
     ·rw[dw cx,dw (by omega)]
     rw[dA cx,dA (by omega)]
    have g1 : ∀F:Nat->Int,0<=((n:Nat):Int)/\((n:Nat):Int)<((aQ s.bN.length F).length:Nat):=fun F=>(by rw[c0];omega);have g2 : ∀F:Nat->Int,0+((n:Nat):Int).toNat<(aQ s.bN.length F).length:=fun F=>(by rw[c0,dy];omega);unfold Br;refine fh (d9 (aI (x:=s.bN[n]) (by simp only;rw[dy];exact U) (aI (x:=ow s n) v1 ?_)));simp only;by_cases bf:j=s.bN[n].dr
    ·have e0 : ∀k0,kn s j k0 n=if k0=0 then (ow s n).1 else (ow s n).2:=fun k0=>(by unfold kn;rw[U];simp only[dw bf]);refine gH (EO bf) (cz (g1 _) (cz (g2 _) (cz (g1 _) (cz (g2 _) ?_))));rw[fE (by omega),dy,dG,da 0 _ (by rw[e0];rfl),da 1 _ (by rw[e0];rfl)]
    refine jF (yt bf) ?_;by_cases cx:j=s.bN[n].d4
    ·have e0 : ∀k0,kn s j k0 n = -(if k0=0 then (ow s n).1 else (ow s n).2):=fun k0=>(by unfold kn;rw[U];simp only[dA bf,dw cx]);refine gH (EO cx) (cz (g1 _) (cz (g2 _) (cz (g1 _) (cz (g2 _) ?_))));rw[fE (by omega),dy,dG,cG (by omega) (by omega),cG (by omega) (by omega),da 0 _ (by rw[e0];simp),da 1 _ (by rw[e0];simp)]
    have e0 : ∀k0,kn s j k0 n=0:=fun k0=>(by unfold kn;rw[U];simp only[dA bf,dA cx]);refine jF (yt cx) ?_;rw[fE (by omega)];congr 4
    ·refine fa fun k _=> ?_
     by_cases c:k=n
     ·subst c;rw[dA (by omega),dw (by omega),e0]
     by_cases cx:k<n
     ·rw[dw cx,dw (by omega)]
     rw[dA cx,dA (by omega)]
    refine fa fun k _=> ?_;by_cases c:k=n
    ·subst c;rw[dA (by omega),dw (by omega),e0]
    by_cases cx:k<n
    ·rw[dw cx,dw (by omega)]
    rw[dA cx,dA (by omega)])
  (fun _ _=>by
    unfold Br;refine fs ?_;simp only;congr 3
    ·exact fa fun k a2=>by rw[dw a2]
    exact fa fun k a2=>by rw[dw a2]) () trivial
 have z : ∀k0,(aQ s.bN.length fun k=>if k<0 then kn s j k0 k else 0)=aQ s.bN.length fun _=>(0:Int):=fun k0=>fa fun k _=>by rw[dA (by omega)]
 rw[z,z] at e;exact e
def jr (s:c6)(q:Nat):Nat:=(mS s.cv 0).getD q 0
def fL (s:c6):Nat:=(mS s.cv 0).length
def ms (s:c6)(r k:Nat):Int:=kn s (jr s (r / 2)) (r % 2) k
theorem GV (s:c6):(mS s.cv 0).map (fun n:Nat=>(n:Int))=aQ (fL s) fun q=>((jr s q:Nat):Int):=by
 apply ap1;intro q;rw[dK];by_cases c:q<fL s
 ·rw[gd c];have h:(mS s.cv 0)[q]? = some (mS s.cv 0)[q]:=dz c;unfold jr;rw[dO,h];rfl
 rw[List.getElem?_eq_none_iff.2 (by unfold fL at c;omega),List.getElem?_eq_none_iff.2 (by rw[c0];omega)];rfl
theorem YL (s:c6){q:Nat}(h:q<fL s):jr s q<s.cv.length:=by
 have h1:(mS s.cv 0)[q]? = some (mS s.cv 0)[q]:=dz h;have h2:jr s q=(mS s.cv 0)[q]:=by unfold jr;rw[dO,h1];rfl
 have:=Oy s.cv 0 _ (dH h1);omega
theorem El (s:c6):fL s<=s.cv.length:=Xm s.cv 0
theorem OS {α:Type}(r n:Nat)(e:Nat->Nat->α):(aQ (r*n) fun x=>e (x / n) (x % n))++aQ n (e r)=aQ ((r+1)*n) fun x=>e (x / n) (x % n):=by
 rw[Nat.succ_mul,ajH];congr 1;refine fa fun j ay=> ?_;have h1:(r*n+j) / n=r:=by rw[Nat.mul_comm,Nat.mul_add_div (by omega),Nat.div_eq_of_lt ay];rfl
 have h2:(r*n+j) % n=j:=by rw[Nat.mul_comm,Nat.mul_add_mod,Nat.mod_eq_of_lt ay]
 rw[h1,h2]
theorem aha (s:c6)(h:oE s):Gh s=some (aQ (2*fL s*s.bN.length) fun x=>ms s (x / s.bN.length) (x % s.bN.length)):=by
 obtain⟨-,-,f3,f4⟩:=id h;have yF:=El s;unfold Gh;refine aI (N1 s (by omega)) ?_;rw[GV,g9,c0];unfold Um
 obtain⟨x,e,-⟩:=ix (f:=fun w:Int×ar=>Cp (aQ (fL s) fun q=>((jr s q:Nat):Int)) ((fL s:Nat):Int) s.cv s.bN w.1 w.2) (fun (n:Nat) (_:Unit)=>((n:Int),aQ (2*n*s.bN.length) fun x=>ms s (x / s.bN.length) (x % s.bN.length))) (fL s) (fun _ _=>True) (fun _=>aQ (2*fL s*s.bN.length) fun x=>ms s (x / s.bN.length) (x % s.bN.length))
  (fun n aU _ _=>by refine⟨(),?_,trivial⟩;have a3:2*n*s.bN.length<=12*8:=Nat.mul_le_mul (by omega) f4;unfold Cp;refine fh (d9 (aI (x:=((jr s n:Nat):Int)) (by simp only;rw[dy];exact gd aU) (aI (ajI s h _ _ _ _ _) ?_)));refine cz (by simp only[dE,c0];omega) (cz (by simp only[dE,c0];omega) ?_);simp only;rw[fE (by omega)];have r1:aQ s.bN.length (kn s (jr s n) 0)=aQ s.bN.length (ms s (2*n)):=fa fun k _=>(by unfold ms;rw[show 2*n / 2=n by omega,show 2*n % 2=0 by omega]);have r2:aQ s.bN.length (kn s (jr s n) 1)=aQ s.bN.length (ms s (2*n+1)):=fa fun k _=>(by unfold ms;rw[show (2*n+1) / 2=n by omega,show (2*n+1) % 2=1 by omega]);rw[r1,r2,OS (2*n),OS (2*n+1),show 2*n+1+1=2*(n+1) by omega])
  (fun _ _=>by unfold Cp;exact fs rfl) () trivial
 have z:(aQ (2*0*s.bN.length) fun x=>ms s (x / s.bN.length) (x % s.bN.length))=[]:=by simp[aQ]
 rw[z] at e;exact aI e rfl
theorem afj (s:c6)(h:oE s):Ff s=some (aQ (2*fL s) fun r=>aQ s.bN.length (ms s r)):=by
 obtain⟨-,-,f3,f4⟩:=id h;have yF:=El s;unfold Ff;refine aI (Vb s (by omega)) ?_;rw[GV,g9,c0];unfold Rn
 obtain⟨x,e,-⟩:=ix (f:=fun w:Int×aql=>Bs s.cv s.bN (aQ (fL s) fun q=>((jr s q:Nat):Int)) ((fL s:Nat):Int) w.1 w.2) (fun (n:Nat) (_:Unit)=>((n:Int),aQ (2*n) fun r=>aQ s.bN.length (ms s r))) (fL s) (fun _ _=>True) (fun _=>aQ (2*fL s) fun r=>aQ s.bN.length (ms s r))
  (fun n aU _ _=>by refine⟨(),?_,trivial⟩;unfold Bs;refine fh (d9 (aI (x:=((jr s n:Nat):Int)) (by simp only;rw[dy];exact gd aU) (cz (by rw[fj];omega) ?_)));refine aI (x:=(aQ s.bN.length (kn s (jr s n) 0),aQ s.bN.length (kn s (jr s n) 1))) (by rw[show (len_ ca s.bN).toNat=s.bN.length by rw[fj,dy],rW];exact ajJ s h _ _ _ _ _) (cz (by simp only[dE,c0,dI,dQ];omega) ?_);simp only;rw[fE (by omega),show 2*(n+1)=2*n+1+1 by omega,lg (2*n+1),lg (2*n)];have r1:aQ s.bN.length (kn s (jr s n) 0)=aQ s.bN.length (ms s (2*n)):=fa fun k _=>(by unfold ms;rw[show 2*n / 2=n by omega,show 2*n % 2=0 by omega]);have r2:aQ s.bN.length (kn s (jr s n) 1)=aQ s.bN.length (ms s (2*n+1)):=fa fun k _=>(by unfold ms;rw[show (2*n+1) / 2=n by omega,show (2*n+1) % 2=1 by omega]);rw[r1,r2];simp)
  (fun _ _=>by unfold Bs;exact fs rfl) () trivial
 exact aI e rfl
def hi (s:c6):aqr:=m9 s.bN s.bN.length
def cY (s:c6):Nat:=(hi s).length
def hv (s:c6)(c:Nat):Nat:=((hi s).getD c ⟨0,0⟩).ig.toNat
def oW (s:c6)(c:Nat):Int:=((hi s).getD c ⟨0,0⟩).sJ
def nG (s:c6)(i c:Nat):Int:=oW s c*ms s i (hv s c)
def pQ (s:c6)(l:ar)(i:Nat):Int:= -(l.getD (2*jr s (i / 2)+i % 2) 0)
theorem wN (s:c6){c:Nat}(a0:c<cY s):(hi s)[c]? = some ⟨(hv s c:Int),oW s c⟩/\hv s c<s.bN.length/\(oW s c=1\/oW s c = -1):=by
 have h1:(hi s)[c]? = some (hi s)[c]:=dz a0;have h2:(hi s).getD c ⟨0,0⟩=(hi s)[c]:=by rw[dO,h1];rfl
 obtain⟨k,e1,e2,bG⟩:=Xx (dD _) (dH h1);have cM:hv s c=k:=by unfold hv;rw[h2,e1];rfl
 have db:oW s c=((hi s)[c]).sJ:=by unfold oW;rw[h2]
 refine⟨?_,by omega,by rw[db];exact bG⟩;rw[h1,cM,db,<- e1]
theorem As (s:c6):cY s<=2*s.bN.length:=Kt _ _
theorem Yb (s:c6):(hi s).map fP.ig=aQ (cY s) fun c=>((hv s c:Nat):Int):=by
 apply ap1;intro c;rw[dK];by_cases h:c<cY s
 ·rw[(wN s h).1,gd h];rfl
 rw[List.getElem?_eq_none_iff.2 (by unfold cY at h;omega),List.getElem?_eq_none_iff.2 (by rw[c0];omega)];rfl
theorem Yc (s:c6):(hi s).map fP.sJ=aQ (cY s) (oW s):=by
 apply ap1;intro c;rw[dK];by_cases h:c<cY s
 ·rw[(wN s h).1,gd h];rfl
 rw[List.getElem?_eq_none_iff.2 (by unfold cY at h;omega),List.getElem?_eq_none_iff.2 (by rw[c0];omega)];rfl
theorem Pq (s:c6)(h:oE s)(i:Nat){c:Nat}(a0:c<cY s): -100<=nG s i c/\nG s i c<=100:=by have h1:=akw s h (jr s (i / 2)) (i % 2) (hv s c);unfold nG ms;rcases(wN s a0).2.2 with e|e<;>rw[e]<;>omega
theorem ai9 (s:c6)(h:oE s)(l:ar)(aR:l.length=2*s.cv.length)(a3:∀x∈l,-100<=x/\x<=100):FW s l=some (aQ (2*fL s) (pQ s l)):=by
 obtain⟨-,-,f3,f4⟩:=id h;have yF:=El s;unfold FW;refine aI (N1 s (by omega)) ?_;rw[GV,g9,c0];unfold TV
 obtain⟨x,e,-⟩:=ix (f:=fun w:Int×ar=>Cc l (aQ (fL s) fun q=>((jr s q:Nat):Int)) ((fL s:Nat):Int) w.1 w.2) (fun (n:Nat) (_:Unit)=>((n:Int),aQ (2*n) (pQ s l))) (fL s) (fun _ _=>True) (fun _=>aQ (2*fL s) (pQ s l))
  (fun n aU _ _=>by refine⟨(),?_,trivial⟩;have cq:=YL s aU;have oV:R ((2:Int)*((jr s n:Nat):Int))=((2*jr s n:Nat):Int):=(by rw[cG (by omega) (by omega)];omega);have rP:R (((2*jr s n:Nat):Int)+1)=((2*jr s n+1:Nat):Int):=fE (by omega);have x1:=a3 l[2*jr s n] (List.getElem_mem (by omega));have x2:=a3 l[2*jr s n+1] (List.getElem_mem (by omega));have p1:pQ s l (2*n) = -l[2*jr s n]:=(by unfold pQ;rw[show 2*n / 2=n by omega,show 2*n % 2=0 by omega,Nat.add_zero,dO,dz (by omega)];rfl);have p2:pQ s l (2*n+1) = -l[2*jr s n+1]:=(by unfold pQ;rw[show (2*n+1) / 2=n by omega,show (2*n+1) % 2=1 by omega,dO,dz (by omega)];rfl);unfold Cc;refine fh (d9 (aI (x:=((jr s n:Nat):Int)) (by simp only;rw[dy];exact gd aU) ?_));rw[oV,rP];refine d9 (aI (x:=l[2*jr s n]) (by rw[dy];exact dz (by omega)) (d9 (aI (x:=l[2*jr s n+1]) (by rw[dy];exact dz (by omega)) (cz (by simp only[dE,c0,dI,dQ];omega) ?_))));simp only;rw[fE (by omega),cG (by omega) (by omega),cG (by omega) (by omega),show 2*(n+1)=2*n+1+1 by omega,lg (2*n+1),lg (2*n),p1,p2];simp)
  (fun _ _=>by unfold Cc;exact fs rfl) () trivial
 exact aI e rfl
def wc (s:c6)(l:ar):kt:=⟨((2*fL s:Nat):Int),(cY s:Int),aQ (2*fL s*cY s) (fun x=>nG s (x / cY s) (x % cY s)),aQ (2*fL s) (pQ s l),aQ (cY s) fun _=>0⟩
theorem akx (s:c6)(h:oE s)(l:ar)(a3:∀x∈l,-100<=x/\x<=100):mN (wc s l) (2*fL s) (cY s) (nG s) (pQ s l) where
 rows:=rfl
 hi:=rfl
 hT:=c0 ..
 HT:=fun i aa j ay=>by have h1:i*cY s+j<2*fL s*cY s:=(by have:(i+1)*cY s<=2*fL s*cY s:=apV _ aa;rw[Nat.succ_mul] at this;omega);show (aQ _ _)[_]? = _;rw[gd h1];have h2:(i*cY s+j) / cY s=i:=(by rw[Nat.mul_comm,Nat.mul_add_div (by omega),Nat.div_eq_of_lt ay];rfl);have J:(i*cY s+j) % cY s=j:=(by rw[Nat.mul_comm,Nat.mul_add_mod,Nat.mod_eq_of_lt ay]);rw[h2,J]
 Mh:=c0 ..
 Lt:=fun i aa=>gd aa
 hm:=by obtain⟨-,-,f3,f4⟩:=id h;have:=El s;omega
 aU:=by obtain⟨-,-,f3,f4⟩:=id h;have:=As s;omega
 xx:=fun i _ j ay=>Pq s h i ay
 u9:=fun i _=>by
  unfold pQ;rw[dO]
  cases c:l[2*jr s (i / 2)+i % 2]? with
  | none=>simp
  | some x =>
   have:=a3 x (dH c);simp only[Option.getD_some];omega
theorem afE (s:c6)(h:oE s)(l:ar)(aR:l.length=2*s.cv.length)(a3:∀x∈l,-100<=x/\x<=100):FJ s l=some (wc s l):=by
 obtain⟨-,-,f3,f4⟩:=id h;have yF:=El s;have qp:=As s;unfold FJ;refine aI (Vc s (by omega)) (aI (aha s h) (aI (N1 s (by omega)) (aI (ai9 s h l aR a3) ?_)));show (if 0<=len_ eI ((hi s).map fP.ig)/\_ then _ else none)=_;rw[GV]
 show (if 0<=len_ eI ((hi s).map fP.ig)/\(8:Int)*len_ eI ((hi s).map fP.ig)<=281474976710656/\len_ eI ((hi s).map fP.ig)<9223372036854775808 then
  MS ((hi s).map fP.ig) ((hi s).map fP.sJ) (len_ ca s.bN) _ (R ((2:Int)*len_ eI (aQ (fL s) fun q=>((jr s q:Nat):Int)))) (len_ eI ((hi s).map fP.ig)) (aQ (2*fL s) (pQ s l)) (List.replicate (len_ eI ((hi s).map fP.ig)).toNat 0) 0 [] >>= fun ck=>some (⟨R ((2:Int)*len_ eI (aQ (fL s) fun q=>((jr s q:Nat):Int))),len_ eI ((hi s).map fP.ig),ck,aQ (2*fL s) (pQ s l),List.replicate (len_ eI ((hi s).map fP.ig)).toNat 0⟩:kt) else none)=_
 rw[Yb,Yc,g9,c0,g9,c0,dy,fj,show R ((2:Int)*(fL s:Nat))=((2*fL s:Nat):Int) by rw[cG (by omega) (by omega)];omega,rW];refine d9 (aI (x:=aQ (2*fL s*cY s) (fun x=>nG s (x / cY s) (x % cY s))) ?_ rfl);unfold MS
 obtain⟨x,e,-⟩:=ix (f:=fun w:Int×ar=>BX (aQ (cY s) fun c=>((hv s c:Nat):Int)) (aQ (cY s) (oW s)) (s.bN.length:Nat) (aQ (2*fL s*s.bN.length) fun x=>ms s (x / s.bN.length) (x % s.bN.length)) ((2*fL s:Nat):Int) ((cY s:Nat):Int) (aQ (2*fL s) (pQ s l)) (aQ (cY s) fun _=>0) w.1 w.2) (fun (i:Nat) (_:Unit)=>((i:Int),aQ (i*cY s) (fun x=>nG s (x / cY s) (x % cY s)))) (2*fL s) (fun _ _=>True) (fun _=>aQ (2*fL s*cY s) (fun x=>nG s (x / cY s) (x % cY s)))
  (fun i aa _ _=>by
    refine⟨(),?_,trivial⟩;have Z6:i*cY s<=12*16:=Nat.mul_le_mul (by omega) (by omega);have lZ:i*s.bN.length<=12*8:=Nat.mul_le_mul (by omega) f4
    obtain⟨y,e2,-⟩:=ix (f:=fun w:Int×ar=>BW (aQ (cY s) fun c=>((hv s c:Nat):Int)) (aQ (cY s) (oW s)) (s.bN.length:Nat) (aQ (2*fL s*s.bN.length) fun x=>ms s (x / s.bN.length) (x % s.bN.length)) (i:Int) ((cY s:Nat):Int) ((2*fL s:Nat):Int) ((cY s:Nat):Int) (aQ (2*fL s) (pQ s l)) (aQ (cY s) fun _=>0) w.1 w.2)
     (fun (c:Nat) (_:Unit)=>((c:Int),(aQ (i*cY s) fun x=>nG s (x / cY s) (x % cY s))++aQ c (nG s i))) (cY s) (fun _ _=>True) (fun _=>(aQ (i*cY s) fun x=>nG s (x / cY s) (x % cY s))++aQ (cY s) (nG s i))
     (fun c a0 _ _=>by refine⟨(),?_,trivial⟩;obtain⟨-,j3,oU⟩:=wN s a0;have si:(i+1)*s.bN.length<=2*fL s*s.bN.length:=apV _ aa;rw[Nat.succ_mul] at si;have iP:R (R ((i:Int)*((s.bN.length:Nat):Int))+((hv s c:Nat):Int))=((i*s.bN.length+hv s c:Nat):Int):=(by rw[<- Int.natCast_mul,cG (x:=((i*s.bN.length:Nat):Int)) (by omega) (by omega),cG (by omega) (by omega)];omega);have h2:(i*s.bN.length+hv s c) / s.bN.length=i:=(by rw[Nat.mul_comm,Nat.mul_add_div (by omega),Nat.div_eq_of_lt j3];rfl);have J:(i*s.bN.length+hv s c) % s.bN.length=hv s c:=(by rw[Nat.mul_comm,Nat.mul_add_mod,Nat.mod_eq_of_lt j3]);have anh:=Pq s h i a0;unfold BW;refine fh (d9 (aI (x:=((hv s c:Nat):Int)) (by simp only;rw[dy];exact gd a0) (d9 (aI (x:=oW s c) (by simp only;rw[dy];exact gd a0) ?_))));rw[iP];refine d9 (aI (x:=ms s i (hv s c)) (by rw[dy,gd (by omega),h2,J]) (cz (by simp only[dE,c0,dI,dQ];omega) ?_));simp only;rw[fE (by omega),lg,show oW s c*ms s i (hv s c)=nG s i c from rfl,cG (by omega) (by omega),List.append_assoc])
     (fun _ _=>by unfold BW;exact fs rfl) () trivial
    have z:(aQ (i*cY s) fun x=>nG s (x / cY s) (x % cY s))++aQ 0 (nG s i)=aQ (i*cY s) fun x=>nG s (x / cY s) (x % cY s):=(by simp[aQ]);rw[z] at e2;unfold BX;refine fh (aI (x:=(aQ (i*cY s) fun x=>nG s (x / cY s) (x % cY s))++aQ (cY s) (nG s i)) (by unfold S4;rw[g9,c0];exact e2) ?_);simp only;rw[fE (by omega),OS])
  (fun _ _=>by unfold BX;exact fs rfl) () trivial
 have z:(aQ (0*cY s) fun x=>nG s (x / cY s) (x % cY s))=[]:=by simp[aQ]
 rw[z] at e;exact e
def yP (s:c6)(r c:Nat):Int:=if r<2*fL s/\c<cY s then nG s r c else 0
def qq (s:c6)(l:ar)(r:Nat):Int:=if r<2*fL s then pQ s l r else 0
def sn (s:c6)(N i c x:Nat):Int:=if (x / N<i\/(x / N=i/\x % N<c))/\x % N<cY s then nG s (x / N) (x % N) else 0
theorem aky (s:c6){T N i c:Nat}(a0:c<cY s)(hg:cY s<=N)(iE:i*N+c<T){v:Int}(bh:v=nG s i c):(aQ T (sn s N i c)).set (i*N+c) v=aQ T (sn s N i (c+1)):=by
 have h2:(i*N+c) / N=i:=by rw[Nat.mul_comm,Nat.mul_add_div (by omega),Nat.div_eq_of_lt (by omega)];rfl
 have J:(i*N+c) % N=c:=by rw[Nat.mul_comm,Nat.mul_add_mod,Nat.mod_eq_of_lt (by omega)]
 rw[lK];refine fa fun x _=> ?_;unfold sn;by_cases e:x=i*N+c
 ·rw[dw e,e,h2,J,dw ⟨.inr ⟨rfl,by omega⟩,a0⟩,bh]
 rw[dA e];have di : ¬(x / N=i/\x % N=c):=fun ⟨a,b⟩=>e (by rw[<- Nat.div_add_mod x N,a,b,Nat.mul_comm]);by_cases d:(x / N<i\/(x / N=i/\x % N<c))/\x % N<cY s
 ·rw[dw d,dw ⟨by omega,d.2⟩]
 rw[dA d,dA (fun Bg=>d ⟨by omega,Bg.2⟩)]
theorem akz (s:c6)(T N i:Nat):aQ T (sn s N i (cY s))=aQ T (sn s N (i+1) 0):=by
 refine fa fun x _=> ?_;unfold sn;by_cases d:(x / N<i\/(x / N=i/\x % N<cY s))/\x % N<cY s
 ·rw[dw d,dw ⟨by omega,d.2⟩]
 rw[dA d,dA (fun Bg=>d ⟨by omega,Bg.2⟩)]
theorem ajK (s:c6)(T N:Nat):aQ T (sn s N 0 0)=aQ T fun _=>0:=fa fun x _=>by unfold sn;rw[dA (fun h=>by rcases h.1 with h|h;exact Nat.not_lt_zero _ h;exact Nat.not_lt_zero _ h.2)]
theorem akA (s:c6)(T N:Nat):aQ T (sn s N (2*fL s) 0)=aQ T fun x=>yP s (x / N) (x % N):=fa fun x _=>by
 unfold sn yP;by_cases d:x / N<2*fL s/\x % N<cY s
 ·rw[dw d,dw ⟨.inl d.1,d.2⟩]
 rw[dA d,dA (fun Bg=>d ⟨by omega,Bg.2⟩)]
theorem ajL (s:c6)(l:ar)(M:Nat):(aQ M fun x=>if x<0 then qq s l x else 0)=aQ M fun _=>0:=fa fun j _=>by rw[dA (by omega)]
theorem akB (s:c6)(l:ar)(M:Nat):(aQ M fun x=>if x<2*fL s then qq s l x else 0)=aQ M (qq s l):=fa fun j _=>by
 by_cases c:j<2*fL s
 ·rw[dw c]
 rw[dA c];unfold qq;rw[dA c]
theorem ah2 (s:c6)(h:oE s)(l:ar)(aR:l.length=2*s.cv.length)(a3:∀x∈l,-100<=x/\x<=100)(fe my:Nat)(apD:fe<=100)(apE:my<=100):
 Bx s l (fe:Int) (my:Int)=some (((2*fL s+my:Nat):Int),((cY s+fe:Nat):Int),aQ ((2*fL s+my)*(cY s+fe)) (fun x=>yP s (x / (cY s+fe)) (x % (cY s+fe))),aQ (2*fL s+my) (qq s l),aQ (cY s+fe) fun _=>0):=by
 obtain⟨-,-,f3,f4⟩:=id h;have yF:=El s;have qp:=As s;have apF:(2*fL s+my)*(cY s+fe)<=112*116:=Nat.mul_le_mul (by omega) (by omega);unfold Bx;refine aI (afj s h) (aI (x:=hi s) (N3 s (by omega)) ?_);have iP:R ((len_ (fy 1 eI) (aQ (2*fL s) fun r=>aQ s.bN.length (ms s r)))+(my:Int))=((2*fL s+my:Nat):Int):=by rw[fj,c0,cG (by omega) (by omega)];omega
 have oV:R ((len_ gC (hi s))+(fe:Int))=((cY s+fe:Nat):Int):=by rw[fj];show R (((cY s:Nat):Int)+(fe:Int))=_;rw[cG (by omega) (by omega)];omega
 have rP:R (((2*fL s+my:Nat):Int)*((cY s+fe:Nat):Int))=(((2*fL s+my)*(cY s+fe):Nat):Int):=by rw[<- Int.natCast_mul,cG (by omega) (by omega)]
 rw[iP,oV,rP,dy,dy,dy,rW,rW,rW,fj,c0];refine d9 (d9 (d9 ?_));refine aI (x:=aQ ((2*fL s+my)*(cY s+fe)) (fun x=>yP s (x / (cY s+fe)) (x % (cY s+fe)))) ?_ ?_
 ·unfold Ri
  obtain⟨x,e,-⟩:=ix (f:=fun w:Int×ar=>Bo s.cv s.bN l (hi s) (aQ (2*fL s) fun r=>aQ s.bN.length (ms s r)) ((2*fL s:Nat):Int) ((2*fL s+my:Nat):Int) ((cY s+fe:Nat):Int) (aQ (2*fL s+my) fun _=>0) (aQ (cY s+fe) fun _=>0) w.1 w.2) (fun (i:Nat) (_:Unit)=>((i:Int),aQ ((2*fL s+my)*(cY s+fe)) (sn s (cY s+fe) i 0))) (2*fL s) (fun _ _=>True) (fun _=>aQ ((2*fL s+my)*(cY s+fe)) (fun x=>yP s (x / (cY s+fe)) (x % (cY s+fe))))
   (fun i aa _ _=>by
     refine⟨(),?_,trivial⟩;have Ie:(i+1)*(cY s+fe)<=(2*fL s+my)*(cY s+fe):=apV _ (by omega);rw[Nat.succ_mul] at Ie
     obtain⟨y,e2,-⟩:=ix (f:=fun w:Int×ar=>Bn s.cv s.bN l (hi s) (i:Int) (aQ s.bN.length (ms s i)) (aQ (2*fL s) fun r=>aQ s.bN.length (ms s r)) ((2*fL s:Nat):Int) ((cY s:Nat):Int) ((2*fL s+my:Nat):Int) ((cY s+fe:Nat):Int) (aQ (2*fL s+my) fun _=>0) (aQ (cY s+fe) fun _=>0) w.1 w.2) (fun (c:Nat) (_:Unit)=>((c:Int),aQ ((2*fL s+my)*(cY s+fe)) (sn s (cY s+fe) i c))) (cY s) (fun _ _=>True) (fun _=>aQ ((2*fL s+my)*(cY s+fe)) (sn s (cY s+fe) i (cY s)))
      (fun c a0 _ _=>by refine⟨(),?_,trivial⟩;obtain⟨kN,j3,oU⟩:=wN s a0;have anh:=Pq s h i a0;have anR:R (R ((i:Int)*((cY s+fe:Nat):Int))+((c:Nat):Int))=((i*(cY s+fe)+c:Nat):Int):=(by rw[<- Int.natCast_mul,cG (x:=((i*(cY s+fe):Nat):Int)) (by omega) (by omega),cG (by omega) (by omega)];omega);unfold Bn;refine fh (cz (by show _/\((c:Nat):Int)<((cY s:Nat):Int);simp only;omega) (aI (x:=⟨(hv s c:Int),oW s c⟩) (by simp only;rw[dy];exact kN) (d9 (aI (x:=ms s i (hv s c)) (by simp only;rw[dy];exact gd j3) ?_))));simp only;rw[anR];refine d9 (d9 ?_);rw[fE (by omega),dy,dG,show oW s c*ms s i (hv s c)=nG s i c from rfl,cG (by omega) (by omega),aky s a0 (by omega) (by omega) rfl])
      (fun _ _=>by unfold Bn;exact fs rfl) () trivial
     unfold Bo;refine fh (d9 (aI (x:=aQ s.bN.length (ms s i)) (by simp only;rw[dy];exact gd aa) (aI (x:=aQ ((2*fL s+my)*(cY s+fe)) (sn s (cY s+fe) i (cY s))) (by unfold Rh;rw[fj];exact e2) ?_)));simp only;rw[fE (by omega),akz])
   (fun _ _=>by unfold Bo;refine fs ?_;simp only;rw[akA]) () trivial
  rw[ajK] at e;exact e
 refine aI (Vb s (by omega)) ?_;rw[GV,g9,c0];refine aI (x:=aQ (2*fL s+my) (qq s l)) ?_ rfl;unfold Rj
 obtain⟨x,e,-⟩:=ix (f:=fun w:Int×ar=>Bp l (aQ (fL s) fun q=>((jr s q:Nat):Int)) ((fL s:Nat):Int) ((2*fL s+my:Nat):Int) ((cY s+fe:Nat):Int) (aQ ((2*fL s+my)*(cY s+fe)) (fun x=>yP s (x / (cY s+fe)) (x % (cY s+fe)))) (aQ (cY s+fe) fun _=>0) w.1 w.2) (fun (n:Nat) (_:Unit)=>((n:Int),aQ (2*fL s+my) fun x=>if x<2*n then qq s l x else 0)) (fL s) (fun _ _=>True) (fun _=>aQ (2*fL s+my) (qq s l))
  (fun n aU _ _=>by
    refine⟨(),?_,trivial⟩;have cq:=YL s aU;have oV : ∀a:Nat,a<=1000->R ((2:Int)*((a:Nat):Int))=((2*a:Nat):Int):=fun a bF=>(by rw[cG (by omega) (by omega)];omega);have x1:=a3 l[2*jr s n] (List.getElem_mem (by omega));have x2:=a3 l[2*jr s n+1] (List.getElem_mem (by omega));have p1:qq s l (2*n) = -l[2*jr s n]:=(by unfold qq pQ;rw[dw (by omega),show 2*n / 2=n by omega,show 2*n % 2=0 by omega,Nat.add_zero,dO,dz (by omega)];rfl);have p2:qq s l (2*n+1) = -l[2*jr s n+1]:=by unfold qq pQ;rw[dw (by omega),show (2*n+1) / 2=n by omega,show (2*n+1) % 2=1 by omega,dO,dz (by omega)];rfl
    have da : ∀k v,v=qq s l k->(aQ (2*fL s+my) fun x=>if x<k then qq s l x else 0).set k v=aQ (2*fL s+my) fun x=>if x<k+1 then qq s l x else 0:=fun k v bh=>by
     rw[lK];refine fa fun j _=> ?_;by_cases c:j=k
     ·subst c;rw[dw rfl,dw (by omega)];exact bh
     rw[dA c];by_cases cx:j<k
     ·rw[dw cx,dw (by omega)]
     rw[dA cx,dA (by omega)]
    unfold Bp;refine fh (d9 (aI (x:=((jr s n:Nat):Int)) (by simp only;rw[dy];exact gd aU) ?_));simp only;rw[oV (jr s n) (by omega),oV n (by omega),fE (n:=2*jr s n) (by omega),fE (n:=2*n) (by omega)];refine d9 (aI (x:=l[2*jr s n]) (by rw[dy];exact dz (by omega)) (d9 (aI (x:=l[2*jr s n+1]) (by rw[dy];exact dz (by omega)) ?_)));refine d9 (d9 (d9 (cz (by rw[List.length_set,c0,dy];omega) ?_)));rw[fE (by omega),cG (x:=0-l[2*jr s n]) (by omega) (by omega),cG (x:=0-l[2*jr s n+1]) (by omega) (by omega),dy,dy,dG,dG,da _ _ (by rw[p1];omega),da _ _ (by rw[p2];omega),show 2*(n+1)=2*n+1+1 by omega])
  (fun _ _=>by unfold Bp;refine fs ?_;simp only;rw[akB]) () trivial
 rw[Nat.mul_zero,ajL] at e;exact e
theorem ah3 (s:c6)(h:oE s)(l:ar)(aR:l.length=2*s.cv.length)(a3:∀x∈l,-100<=x/\x<=100):
 Bx s l 0 0=some ((wc s l).ha,(wc s l).fC,(wc s l).dr,(wc s l).d4,(wc s l).h7):=by
 have e:=ah2 s h l aR a3 0 0 (by omega) (by omega);rw[show ((0:Nat):Int)=0 from rfl] at e
 have hA:aQ (2*fL s*cY s) (fun x=>yP s (x / cY s) (x % cY s))=aQ (2*fL s*cY s) (fun x=>nG s (x / cY s) (x % cY s)):=fa fun x U=>by
  have qp:0<cY s:=by
   rcases Nat.eq_zero_or_pos (cY s) with c|c
   ·rw[c,Nat.mul_zero] at U;omega
   exact c
  unfold yP;rw[dw ⟨Nat.div_lt_of_lt_mul (by rw[Nat.mul_comm];exact U),Nat.mod_lt _ qp⟩]
 have gN:aQ (2*fL s) (qq s l)=aQ (2*fL s) (pQ s l):=fa fun x U=>by unfold qq;rw[dw U]
 rw[e];simp only[Nat.add_zero,wc];rw[hA,gN]
theorem ak2 (x:Rat):Ko (gR x)=some (gR (-x)):=by
 have e:sq (gK x.num)=some (gK (-x.num)):=by
  have:sq (gK x.num)=(nH (!(decide (x.num<0))) (L (x.num.natAbs:Int))).bind fun r=>some r:=rfl;rw[this,tu (by omega)]
  have:e9 (!(decide (x.num<0))) (x.num.natAbs:Int) = -x.num:=by
   unfold e9;by_cases c:x.num<0
   ·rw[decide_eq_true c];simp;omega
   rw[decide_eq_false c];simp;omega
  rw[this];rfl
 refine aI (o:=sq (gK x.num)) e ?_;unfold gR e3;rw[Rat.neg_num,Rat.neg_den];rfl
theorem Y7 {p:kt}{m n:Nat}{a:Nat->Nat->Int}{b:Nat->Int}(h:mN p m n a b)(C:ar):mN ⟨p.ha,p.fC,p.dr,p.d4,C⟩ m n a b :=
 ⟨h.rows,h.hi,h.hT,h.HT,h.Mh,h.Lt,h.hm,h.aU,h.xx,h.u9⟩
theorem WW {gG:aqn}{k:Nat}: ∀ {n:Nat},k<n->n<=gG.length-> ∃x∈m9 gG n,x.ig=(k:Int)
 | 0,h,_=>by omega
 | n+1,h,aU=>by
  rw[m9,dz (show n<gG.length by omega)];by_cases e:k=n
  ·subst e
   simp only;unfold w8;by_cases c:gG[k].h3=2
   ·exact⟨⟨(k:Int),-1⟩,by rw[List.mem_append,List.mem_append,dA (show ¬gG[k].h3=1 by omega)];exact .inr (.inr (by simp)),rfl⟩
   exact⟨⟨(k:Int),1⟩,by rw[List.mem_append,List.mem_append,dA c];exact .inr (.inl (by simp)),rfl⟩
  obtain⟨x,h1,h2⟩:=WW (gG:=gG) (k:=k) (n:=n) (by omega) (by omega);exact⟨x,List.mem_append_left _ h1,h2⟩
theorem aja (s:c6){k:Nat}(a2:k<s.bN.length): ∃c,c<cY s/\hv s c=k:=by obtain⟨x,h1,h2⟩:=WW a2 (dD _);obtain⟨c,a0⟩:=ap6 h1;have aR:c<cY s:=f6 a0;obtain⟨e,-,-⟩:=wN s aR;have e2:(hi s)[c]? = some x:=a0;rw[e2] at e;have:=dJ e;rw[this] at h2;exact⟨c,aR,by simp only at h2;omega⟩
def ja (s:c6)(x:Nat->Rat)(c k:Nat):Rat:=cy c fun j=>if hv s j=k then (oW s j:Rat)*x j else 0
def uj (s:c6)(c k:Nat):Bool:=(List.range c).any fun j=>hv s j == k
theorem ajM (s:c6)(c k:Nat):uj s (c+1) k=(uj s c k || (hv s c == k)):=by unfold uj;rw[List.range_succ,List.any_append];simp
theorem ak3 {s:c6}{x:Nat->Rat}{c k:Nat}(h:uj s c k=false):ja s x c k=0:=by unfold uj at h;rw[List.any_eq_false] at h;exact oH fun j ay=>dA fun e=>h j (List.mem_range.2 ay) (by rw[e];simp)
theorem akC (s:c6){k:Nat}(a2:k<s.bN.length):uj s (cY s) k=true:=by obtain⟨c,h1,h2⟩:=aja s a2;unfold uj;exact List.any_eq_true.2 ⟨c,List.mem_range.2 h1,by rw[h2];simp⟩
theorem ak4 {s:c6}{x:Nat->Rat}{w:Rat}{K:Nat}(U:∀j,d6 K (x j*w)): ∀ {c:Nat} (k:Nat),c<=cY s->d6 (c*K) (ja s x c k*w):=fun {c} k a0=>by
 have:ja s x c k*w=cy c fun j=>(if hv s j=k then (oW s j:Rat)*x j else 0)*w:=by unfold ja;rw[Rat.mul_comm,<- ki];exact gy fun j _=>Rat.mul_comm _ _
 rw[this];refine d6.sum fun j ay=> ?_;obtain⟨-,-,e⟩:=wN s (show j<cY s by omega);split
 ·rcases e with e|e<;>rw[e]
  ·rw[show ((1:Int):Rat)*x j*w=x j*w by grind];exact U j
  rw[show ((-1:Int):Rat)*x j*w = -(x j*w) by grind];exact(U j).neg
 exact⟨0,by rw[Rat.zero_mul];rfl,by simp⟩
theorem ak5 {x y:Rat}(U:eS x)(aV:eS y)(h:eS (x+y)):zQ (gR x) (gR y)=some (gR (x+y)):=aI (YK U aV) (aI (ak1 h) rfl)
def tR (s:c6)(x:Nat->Rat)(c:Nat):aqk:=aQ s.bN.length fun k=>if uj s c k then gR (ja s x c k) else none
theorem ajN (s:c6)(v:oE s){x:Nat->Rat}(U:∀j,eS (x j))(bD:∀c k,c<=cY s->eS (ja s x c k)):Fv s (aQ (cY s) fun j=>gR (x j))=some (aQ s.bN.length fun k=>gR (ja s x (cY s) k)):=by
 have bb:=v.2.2.2;have qp:=As s;have aR:len_ ca s.bN=((s.bN.length:Nat):Int):=fj ..;have jJ:len_ gC (hi s)=((cY s:Nat):Int):=fj ..;unfold Fv;rw[aR];refine d9 (aI (x:=hi s) (N3 s (by omega)) (aI ?_ rfl));unfold R7;rw[jJ]
 obtain⟨z,e,-⟩:=ix (f:=fun w:Int×aqk=>BF (aQ (cY s) fun j=>gR (x j)) (hi s) ((cY s:Nat):Int) w.1 w.2) (fun (c:Nat) (_:Unit)=>((c:Int),tR s x c)) (cY s) (fun _ _=>True) (fun _=>aQ s.bN.length fun k=>gR (ja s x (cY s) k))
  (fun c a0 _ _=>by
    refine⟨(),?_,trivial⟩;obtain⟨kN,j3,oU⟩:=wN s a0
    have fin : ∀y,y=gR (ja s x (c+1) (hv s c))->(tR s x c).set (hv s c) y=tR s x (c+1):=fun y aV=>by
     unfold tR;rw[lK];refine fa fun k _=> ?_;rw[ajM];by_cases e:k=hv s c
     ·subst e;rw[dw rfl,aV];simp
     have e2:ja s x (c+1) k=ja s x c k:=(by show ja s x c k+(if hv s c=k then _ else _)=_;rw[dA (fun q=>e q.symm)];grind);rw[dA e,e2,show (hv s c == k)=false from beq_false_of_ne (fun q=>e q.symm),Bool.or_false]
    have last:ja s x (c+1) (hv s c)=ja s x c (hv s c)+(oW s c:Rat)*x c:=(by show ja s x c _+(if hv s c=hv s c then _ else _)=_;rw[dw rfl]);have hlen:(tR s x c).length=s.bN.length:=c0 ..;have Zx:(tR s x c)[0+((hv s c:Nat):Int).toNat]? = some (if uj s c (hv s c) then gR (ja s x c (hv s c)) else none):=by rw[dy];exact hK j3
    have put : ∀ {F:aqt->Prop} {y:Rat},y=(oW s c:Rat)*x c->eS y ->
     ((if uj s c (hv s c) then gR (ja s x c (hv s c)) else none:aqd).elim (if (0+((hv s c:Nat):Int).toNat)<(tR s x c).length then some (Sum.inl (R ((c:Int)+(1:Int)),(tR s x c).set (0+((hv s c:Nat):Int).toNat) (gR y))) else none)
       fun _=>zQ (if uj s c (hv s c) then gR (ja s x c (hv s c)) else none) (gR y) >>= fun dt=>if (0+((hv s c:Nat):Int).toNat)<(tR s x c).length then some (Sum.inl (R ((c:Int)+(1:Int)),(tR s x c).set (0+((hv s c:Nat):Int).toNat) dt)) else none)
     = some (Sum.inl (((c+1:Nat):Int),tR s x (c+1)):(Int×aqk)⊕(aqk)):=fun {F y} aV anS=>by
     rw[fE (by omega),dy,dG]
     cases q:uj s c (hv s c) with
     | false =>
      rw[dA (by simp)];show (if _ then _ else _)=_;rw[dw (by rw[hlen];exact j3),fin _ (by rw[last,ak3 q,aV];congr 1;grind)]
     | true =>
      rw[dw rfl];show (zQ (gR (ja s x c (hv s c))) (gR y) >>= _)=_;have bM:eS (ja s x c (hv s c)+y):=(by rw[aV,<- last];exact bD _ _ a0);refine aI (ak5 (bD _ _ (Nat.le_of_lt a0)) anS bM) ?_;rw[dw (by rw[hlen];exact j3),fin _ (by rw[last,aV])]
    unfold BF;simp only;refine fh (cz (by show _/\((c:Nat):Int)<((cY s:Nat):Int);omega) (aI kN (d9 (aI (x:=gR (x c)) (by rw[dy];exact gd a0) ?_))));rcases oU with e|e
    ·refine fs (cz (by rw[hlen];simp only;omega) (aI Zx ?_));exact put (F:=fun _=>True) (by rw[e];grind) (U c)
    refine fh (aI (ak2 (x c)) (cz (by rw[hlen];simp only;omega) (aI Zx ?_)));exact put (F:=fun _=>True) (by rw[e];grind) (U c).neg)
  (fun _ _=>by unfold BF;refine fs ?_;simp only;congr 2;exact fa fun k a2=>by rw[akC s a2,dw rfl]) () trivial
 have e0:tR s x 0=List.replicate (((s.bN.length:Nat):Int).toNat) none:=by rw[dy,rW];exact fa fun k _=>rfl
 rw[<- e0];exact e
structure PN (m n:Nat) (a:Nat->Nat->Int) (b:Nat->Int) (c:Nat->Rat) (x:Nat->Rat) (w:Rat):Prop where
 lD:vx m n a b c x
 pos:0<w
 q6:d6 (nz 100 m) w
 anT : ∀j,d6 (nz 100 m) (x j*w)
 fit : ∀j,eS (x j)
theorem akD {m:Nat}(hm:m<=20):nz 100 m<=eX:=Ej▸zN (by omega) hm
theorem YM {s:c6}{x:Nat->Rat}{w:Rat}{m:Nat}(hm:m<=20)(qp:cY s<=16)(ah:0<w)(hw:d6 (nz 100 m) w)(U:∀j,d6 (nz 100 m) (x j*w)){c:Nat}(k:Nat)(a0:c<=cY s):eS (ja s x c k):=by
 have h1:=ak4 U k a0;have jh:=akD hm;have h2:c*nz 100 m<=16*eX:=Nat.mul_le_mul (by omega) jh;have J:16*eX<=40*(eX*100):=by omega
 exact r8 (K:=21*100*(eX*eX)) (hw.mono (Nat.le_trans jh Et)) (h1.mono (Nat.le_trans h2 (Nat.le_trans J PM))) (by grind) (by grind) (qD (dD _))
theorem ajb {α:Type}{T n:Nat}(f:Nat->α)(h:n<=T):(aQ T f).take n=aQ n f:=by
 apply ap1;intro i;by_cases c:i<n
 ·rw[dT,dw c,gd (by omega),gd c]
 rw[dT,dA c,List.getElem?_eq_none_iff.2 (by rw[c0];omega)]
theorem ajO (s:c6)(v:oE s){p:kt}{m n:Nat}{a:Nat->Nat->Int}{b:Nat->Int}(h:mN p m n a b){c:Nat->Int}(qp:p.h7=aQ n c)(a0:∀j,j<n-> -100<=c j/\c j<=100)(aU:cY s<=n):
 (¬rs m n a b/\wg s p.ha p.fC p.dr p.d4 p.h7=some ([],[],false))\/(rs m n a b/\ ¬Bounded m n a b (iz n c)/\wg s p.ha p.fC p.dr p.d4 p.h7=some ([],[],false)) \/
   ∃x w r,PN m n a b (iz n c) x w/\wg s p.ha p.fC p.dr p.d4 p.h7=some (aQ s.bN.length (fun k=>gR (ja s x (cY s) k)),r,true):=by
 have bb:=v.2.2.2;have apG:=As s;obtain⟨r,e,aj⟩:=Xu h qp a0;rcases aj with ⟨q,rfl⟩|⟨q,q2,rfl⟩|⟨x,w,q,⟨iP,oV,rP⟩,bL,cr,rfl⟩
 ·exact .inl ⟨q,aI e (gH rfl rfl)⟩
 ·exact .inr (.inl ⟨q,q2,aI e (gH rfl rfl)⟩)
 have jJ:len_ gC (hi s)=((cY s:Nat):Int):=fj ..;have cq:=ajN s v bL (fun c k a0=>YM h.hm (by omega) iP oV rP k a0);have key : ∃r,wg s p.ha p.fC p.dr p.d4 p.h7=some (aQ s.bN.length (fun k=>gR (ja s x (cY s) k)),r,true):=by refine⟨((aQ n fun j=>gR (x j)).drop (cY s)).take (((aQ n fun j=>gR (x j)).map (dk 3 bU)).length-cY s),aI e (jF rfl (aI (x:=hi s) (N3 s (by omega)) ?_))⟩;rw[jJ];simp only[dy];refine d9 (cz (by simp only[c0];omega) (aI ?_ (cz (by simp only[c0];omega) rfl)));simp only[List.drop_zero,Nat.sub_zero];rw[ajb _ aU];exact cq
 obtain⟨r,aj⟩:=key;exact .inr (.inr ⟨x,w,r,⟨q,iP,oV,rP,bL⟩,aj⟩)
theorem ags {Bl:Nat}{l:ar}(h:wX Bl l=true):l.length=2*Bl/\ ∀x∈l,-100<=x/\x<=100:=by unfold wX at h;rw[dN,decide_eq_true_eq,List.all_eq_true] at h;exact⟨h.1,fun x U=>by have:=h.2 x U;unfold tH at this;simpa using this⟩
theorem ah4 (s:c6)(i0:qv s)(l:ar)(aR:l.length<=maxLen):
 (zt s l=some true/\Dw s l=some true/\oX s=some true/\wX s.cv.length l=true)\/(zt s l=some false/\Dw s l=some false):=by
 obtain⟨p,p1,p2⟩:=Nb s i0;have va:p=true->s.cv.length<=6:=fun h=>(FF s i0 (h▸p1)).2.2.1;have e:=ahR s p p1 va l aR
 cases p with
 | false=>exact .inr ⟨e,aI p2 (jF rfl rfl)⟩
 | true =>
  rw[Bool.true_and] at e;have e2:Dw s l=some (wX s.cv.length l):=aI p2 (gH rfl (aI (agn s (va rfl) l aR) rfl));by_cases c:wX s.cv.length l=true
  ·rw[c] at e e2;exact .inl ⟨e,e2,p1,c⟩
  rw[Bool.not_eq_true] at c;rw[c] at e e2;exact .inr ⟨e,e2⟩
theorem akE {x y:Rat}(U:eS x)(aV:eS y)(h:eS (x+y)):JX (cj x) (cj y)=some (cj (x+y)):=aI (yd U) (gH rfl (aI (yd aV) (gH rfl (aI (Hg U aV h) rfl))))
theorem akF {x y:Rat}(U:eS x)(aV:eS y)(h:eS (x + -y)):JY (cj x) (cj y)=some (cj (x + -y)):=aI (yd U) (gH rfl (aI (yd aV) (gH rfl (aI (K2 aV) (aI (Hg U aV.neg h) rfl)))))
theorem Xy {n:Nat}(aU:n<=1000){y:Nat->Rat}(aV:∀k,k<n->eS (y k)):um (aQ n fun k=>cj (y k))=some true:=by
 have aR:len_ aE (aQ n fun k=>cj (y k))=((n:Nat):Int):=by rw[fj,c0]
 unfold um;rw[aR];refine aI (x:= .inl ()) ?_ rfl;unfold M7
 obtain⟨_,e,-⟩:=ix (f:=fun w:Int=>wh (aQ n fun k=>cj (y k)) ((n:Nat):Int) w) (fun (k:Nat) (_:Unit)=>(k:Int)) n (fun _ _=>True) (fun _=>(.inl ():Unit⊕Unit))
  (fun k a2 _ _=>by refine⟨(),?_,trivial⟩;unfold wh;exact fh (d9 (aI (gt rfl (gd a2)) (aI (yd (aV k a2)) (gH rfl (by rw[fE (by omega)]))))))
  (fun _ _=>by unfold wh;exact fs rfl) () trivial
 exact e
theorem ah5 {n:Nat}(aU:n<=24):FD (n:Int)=some (.inl (aQ n fun _=>cj 0)):=by
 have fK:JQ=some (cj 0):=aI (sF (n:=0) (lJ.2 (by omega))) rfl;unfold FD;refine aI (vu _ _ _) (gH (decide_eq_true (by omega)) (aI (x:=aQ n fun _=>cj 0) ?_ rfl));unfold JA Th
 obtain⟨_,e,-⟩:=ix (f:=fun w:aqc=>B6 (n:Int) w) (fun (k:Nat) (_:Unit)=>aQ k fun _=>cj (0:Rat)) n (fun _ _=>True) (fun _=>aQ n fun _=>cj (0:Rat))
  (fun k a2 _ _=>by refine⟨(),?_,trivial⟩;unfold B6;refine mh (by rw[c0];omega) (aI fK (cz (by simp only[dE,c0,List.length_singleton];omega) ?_));rw[lg k])
  (fun _ _=>by unfold B6;exact l4 (by rw[c0];omega) rfl) () trivial
 exact aI e rfl
theorem ajc (s:c6)(v:oE s)(ok:oX s=some true){x:Nat->Rat}(U:∀j,eS (x j))(bD:∀c k,c<=cY s->eS (ja s x c k)):Fz s (aQ (cY s) fun j=>cj (x j))=some (aQ s.bN.length (fun k=>cj (ja s x (cY s) k)),true):=by
 have bb:=v.2.2.2;have qp:=As s;have hw:zg s=some (aQ (cY s) (fun c=>((hv s c:Nat):Int)),aQ (cY s) (oW s)):=by rw[<- Yb,<- Yc];exact Vc s (by omega)
 unfold Fz;refine aI ok (gH rfl (aI hw ?_));simp only;rw[fj,g9,fj,c0,c0];refine jF (EP rfl) (aI (Xy (by omega) fun k _=>U k) (gH rfl (aI (ah5 (by omega)) ?_)));simp only;refine aI (x:=aQ s.bN.length fun k=>cj (ja s x (cY s) k)) ?_ (aI (Xy (by omega) fun k _=>bD _ k (dD _)) (gH rfl rfl));unfold Sm
 obtain⟨_,e,-⟩:=ix (f:=fun w:Int×aqc=>BH (aQ (cY s) fun j=>cj (x j)) (aQ (cY s) (oW s)) (aQ (cY s) fun c=>((hv s c:Nat):Int)) ((cY s:Nat):Int) w.1 w.2) (fun (c:Nat) (_:Unit)=>((c:Int),aQ s.bN.length fun k=>cj (ja s x c k))) (cY s) (fun _ _=>True) (fun _=>aQ s.bN.length fun k=>cj (ja s x (cY s) k))
  (fun c a0 _ _=>by
    refine⟨(),?_,trivial⟩;obtain⟨-,cx,kO⟩:=wN s a0
    have qm : ∀z,z=ja s x (c+1) (hv s c)->(aQ s.bN.length fun k=>cj (ja s x c k)).set (0+((hv s c:Nat):Int).toNat) (cj z)=aQ s.bN.length fun k=>cj (ja s x (c+1) k):=fun z cB=>by
     rw[dy,dG,lK];refine fa fun k _=> ?_;by_cases e:k=hv s c
     ·rw[dw e,cB,e]
     rw[dA e];congr 1;unfold ja;rw[cy,dA fun y=>e y.symm,Rat.add_zero]
    have ef:ja s x (c+1) (hv s c)=ja s x c (hv s c)+(oW s c:Rat)*x c:=(by unfold ja;rw[cy,dw rfl]);have f1:=bD c (hv s c) (by omega);have f2:=bD (c+1) (hv s c) (by omega);simp only;unfold BH;refine fh (d9 (aI (gt rfl (gd a0)) (d9 (aI (gt rfl (gd a0)) ?_))));have rd:(aQ s.bN.length fun k=>cj (ja s x c k))[0+((hv s c:Nat):Int).toNat]? = some (cj (ja s x c (hv s c))):=(by rw[dy];exact hK cx);rcases kO with e|e
    ·have bM:ja s x c (hv s c)+x c=ja s x (c+1) (hv s c):=(by rw[ef,e,show ((1:Int):Rat)=1 from rfl,Rat.one_mul]);rw[e];refine fh (d9 (aI rd (d9 (aI (gt rfl (gd a0)) (aI (akE f1 (U c) (by rw[bM];exact f2)) (d9 ?_))))));rw[qm _ bM,fE (by omega)]
    have bM:ja s x c (hv s c) + -x c=ja s x (c+1) (hv s c):=(by rw[ef,e,show ((-1:Int):Rat) = -1 from rfl];grind);rw[e];refine fs (d9 (aI rd (d9 (aI (gt rfl (gd a0)) (aI (akF f1 (U c) (by rw[bM];exact f2)) (d9 ?_))))));rw[qm _ bM,fE (by omega)])
  (fun _ _=>by simp only;unfold BH;exact fs rfl) () trivial
 have e0:(aQ s.bN.length fun k=>cj (ja s x 0 k))=aQ s.bN.length fun _=>cj 0:=fa fun k _=>rfl;rw[e0] at e;exact e
theorem akG {x:Rat}(h:eS x):wM (cj x):=by have p:=h.dp;have h1:=p.o5;have h2:=p.oL;exact⟨show (L (e3 x).1.natAbs).length<=_ by omega,show (L (e3 x).2).length<=_ by omega⟩
def aaC:List ByteArray:=[⟨#[97]⟩,⟨#[98]⟩,⟨#[99]⟩,⟨#[100]⟩]
structure Mb (s:c6):Prop where
 v:oE s
 ok:wi s=some true
 apO:3<=s.cv.length
 iw:2<=s.bN.length
 anU:s.cv.map (·.iS)=aaC.take s.cv.length
 Ja : ∀j∈s.cv,-4<=j.gx/\j.gx<=8/\ -9<=j.gI/\j.gI<=3
structure Lw (K:Nat) (z:Nat->Rat) (w:Rat):Prop where
 pos:0<w
 q6:d6 K w
 anV : ∀k,d6 K (z k*w)
 ani:1000*K<=21*100*(eX*eX)
theorem Lw.fit {K:Nat}{z:Nat->Rat}{w x:Rat}(h:Lw K z w){a:Nat}(bF:a<=1000)(U:d6 (a*K) (x*w)):eS x:=by have ah:=h.pos;have h1:=h.ani;have h2:a*K<=1000*K:=apV _ bF;exact r8 (K:=21*100*(eX*eX)) (h.q6.mono (by omega)) (U.mono (by omega)) (by grind) (by grind) (qD (dD _))
theorem d6.int {z:Int}{K:Nat}(h:z.natAbs<=K):d6 K (z:Rat):=⟨z,rfl,h⟩
theorem Lw.fits {K:Nat}{z:Nat->Rat}{w:Rat}(h:Lw K z w){n:Nat}(aU:n<=8){e:Nat->Int}(he:∀k,-100<=e k/\e k<=100){f:Int}(cq:-100<=f/\f<=100):eS (cy n (fun k=>z k*(e k:Rat))+(f:Rat)):=h.fit (a:=n*100+100) (by omega) (by
 have e1:(cy n (fun k=>z k*(e k:Rat))+(f:Rat))*w=cy n (fun k=>(e k:Rat)*(z k*w))+(f:Rat)*w:=by rw[Rat.add_mul,<- wy];congr 1;exact gy fun k _=>by grind
 rw[e1,Nat.add_mul];refine d6.add ?_ ((d6.int (by omega)).mul h.q6);rw[Nat.mul_assoc];exact d6.sum fun k _=>(d6.int (by have:=he k;omega)).mul (h.anV k))
theorem Mb.E6 {s:c6}(d:Mb s):s.cv.length<=4:=by have:=congrArg List.length d.anU;rw[ap4,List.length_take] at this;have e:aaC.length=4:=rfl;omega
structure anj (s:c6):Prop where
 v:oE s
 ok:wi s=some true
 E6:s.cv.length<=4
theorem Mb.V {s:c6}(d:Mb s):anj s:=⟨d.v,d.ok,d.E6⟩
def Q5 (m:dg):Int:=if m.h3=1 then 1 else if m.h3=2 then -1 else 0
theorem ahb {p:kt}{m n:Nat}{a:Nat->Nat->Int}{b:Nat->Int}(h:mN p m n a b){c:Nat->Int}(a0:∀j,j<n-> -100<=c j/\c j<=100):
 (¬rs m n a b/\sr ⟨p.ha,p.fC,p.dr,p.d4,aQ n c⟩=some ⟨2,[],⟨⟨false,[]⟩,[]⟩⟩/\xJ p.ha p.fC p.dr p.d4 (aQ n c)=some (2,[],none)) \/
 (rs m n a b/\ ¬Bounded m n a b (iz n c)/\sr ⟨p.ha,p.fC,p.dr,p.d4,aQ n c⟩=some ⟨3,[],⟨⟨false,[]⟩,[]⟩⟩/\xJ p.ha p.fC p.dr p.d4 (aQ n c)=some (3,[],none)) \/
 ∃x w,PN m n a b (iz n c) x w/\eS (val n (iz n c) x)/\sr ⟨p.ha,p.fC,p.dr,p.d4,aQ n c⟩=some ⟨0,aQ n (fun j=>cj (x j)),cj (val n (iz n c) x)⟩/\xJ p.ha p.fC p.dr p.d4 (aQ n c)=some (0,aQ n (fun j=>gR (x j)),gR (val n (iz n c) x)):=by
 have c1:=Y7 h (aQ n c);obtain⟨r,e,aj⟩:=Xu c1 (c:=c) rfl a0;obtain⟨q,f,a1⟩:=ah1 c1 (c:=c) rfl a0;rcases aj with ⟨s1,rfl⟩|⟨s1,s2,rfl⟩|⟨x,w,lD,⟨iP,oV,rP⟩,Q6,anW,rfl⟩
 ·rcases a1 with ⟨-,rfl⟩|⟨t1,-⟩|⟨y,aK,-⟩
  ·exact .inl ⟨s1,f,e⟩
  ·exact(s1 t1).elim
  exact(s1 ⟨y,aK.1⟩).elim
 ·rcases a1 with ⟨t1,-⟩|⟨-,-,rfl⟩|⟨y,aK,-⟩
  ·exact(t1 s1).elim
  ·exact .inr (.inl ⟨s1,s2,f,e⟩)
  exact(s2 ⟨_,fun z cB=>aK.Ln cB⟩).elim
 rcases a1 with ⟨t1,-⟩|⟨-,t2,-⟩|⟨y,aK,-,-,rfl⟩
 ·exact(t1 ⟨x,lD.1⟩).elim
 ·exact(t2 ⟨_,fun z cB=>lD.Ln cB⟩).elim
 obtain⟨kA,m0⟩:=aK.unique lD;have fl:(aQ n fun j=>cj (y j))=aQ n fun j=>cj (x j):=fa fun j ay=>by rw[kA j ay]
 rw[fl,m0] at f;exact .inr (.inr ⟨x,w,⟨lD,iP,oV,rP,Q6⟩,anW,f,e⟩)
theorem ah6 (s:c6)(v:oE s){p:kt}{m n:Nat}{a:Nat->Nat->Int}{b:Nat->Int}(h:mN p m n a b){c:Nat->Int}(a0:∀j,j<n-> -100<=c j/\c j<=100)(aU:cY s<=n):
 (∃q,sr ⟨p.ha,p.fC,p.dr,p.d4,aQ n c⟩=some q/\q.Pj≠0/\wg s p.ha p.fC p.dr p.d4 (aQ n c)=some ([],[],false)) \/
 ∃x w r z,PN m n a b (iz n c) x w/\sr ⟨p.ha,p.fC,p.dr,p.d4,aQ n c⟩=some ⟨0,aQ n (fun j=>cj (x j)),z⟩/\wg s p.ha p.fC p.dr p.d4 (aQ n c)=some (aQ s.bN.length (fun k=>gR (ja s x (cY s) k)),r,true):=by
 have t:=ajO s v (Y7 h (aQ n c)) (c:=c) rfl a0 aU;rcases ahb h a0 with ⟨n1,e,-⟩|⟨n1,n2,e,-⟩|⟨x,w,q,-,e,-⟩
 ·rcases t with ⟨-,f⟩|⟨q,-⟩|⟨x,w,r,q,-⟩
  ·exact .inl ⟨_,e,by simp,f⟩
  ·exact(n1 q).elim
  exact(n1 ⟨x,q.lD.1⟩).elim
 ·rcases t with ⟨q,-⟩|⟨-,-,f⟩|⟨x,w,r,q,-⟩
  ·exact(q n1).elim
  ·exact .inl ⟨_,e,by simp,f⟩
  exact(n2 ⟨_,fun z cB=>q.lD.Ln cB⟩).elim
 rcases t with ⟨n,-⟩|⟨-,n,-⟩|⟨y,u,r,o,f⟩
 ·exact(n ⟨x,q.lD.1⟩).elim
 ·exact(n ⟨_,fun z cB=>q.lD.Ln cB⟩).elim
 have un:=(o.lD.unique q.lD).1;have Jb:(fun k=>gR (ja s y (cY s) k))=fun k=>gR (ja s x (cY s) k):=by funext k;congr 1;exact gy fun j ay=>by rw[un j (by omega)]
 simp only at f;rw[Jb] at f;exact .inr ⟨x,w,r,_,q,e,f⟩
noncomputable def xp (x:Rat):I7:=if (e3 x).1=0 then .inr (.inl (false,L (e3 x).2)) else .inr (.inr (.inr (decide ((e3 x).1<0),L (e3 x).1.natAbs,L (e3 x).2)))
theorem ajP (x:Rat):A4 (xp x)=cj x:=by
 unfold xp cj mk gK;by_cases c:(e3 x).1=0
 ·rw[dw c,c];simp only[A4];rw[show L ((0:Int).natAbs:Int)=[] from sI.2 (by simp)];rfl
 rw[dA c];rfl
theorem ajQ {x:Rat}(h:eS x): ∀l∈oF (xp x),l.length<=1048576:=by
 have p:=h.dp;have h1:=p.o5;have h2:=p.oL;intro l aR;unfold xp at aR;by_cases c:(e3 x).1=0
 ·rw[dw c] at aR;simp[oF] at aR;subst aR;omega
 rw[dA c] at aR;simp[oF] at aR;rcases aR with rfl|rfl<;>omega
theorem ajd {x:Rat}(h:eS x):zp (gR x)=some (xp x):=aiS h.dp
theorem ajR {α:Type}(a:List α)(e v:α)(k:Nat):(a++List.replicate (k+1) e).set (0+((a.length:Nat):Int).toNat) v=a++[v]++List.replicate k e:=by rw[dy,dG,List.set_append,dA (by omega),Nat.sub_self,List.replicate_succ,List.set_cons_zero,List.append_assoc];rfl
theorem ahc {n:Nat}(aU:n<=40){y:Nat->Rat}(aV:∀k,k<n->eS (y k)): ∃jf P,F9 (aQ n fun k=>gR (y k))=some (.inl (jf,P))/\oe jf P/\jf.length=n/\jf.map (kQ P)=aQ n fun k=>cj (y k):=by
 have aR:len_ (dk 3 bU) (aQ n fun k=>gR (y k))=((n:Nat):Int):=by rw[fj,c0]
 obtain⟨⟨jf,P⟩,e,o,e1,e2⟩:=ix (f:=fun w:Int×aqp×aql=>Cj (aQ n fun k=>gR (y k)) ((n:Nat):Int) w.1 w.2.1 w.2.2)
  (fun (i:Nat) (q:aqp×aql)=>((i:Int),q.1++List.replicate (n-i) (⟨⟨false,none⟩,none⟩:en),q.2)) n (fun i q=>oe q.1 q.2/\q.1.length=i/\q.1.map (kQ q.2)=aQ i fun k=>cj (y k))
  (fun q=>(.inl (q.1,q.2):(aqp×aql)⊕Unit))
  (fun i aa q c4=>by
    obtain⟨o,e1,e2⟩:=c4;obtain⟨gh,gi⟩:=o.add (xp (y i)) (ajQ (aV i aa));rw[ajP,e2] at gi;refine⟨(q.1++[ph q.2.length (xp (y i))],q.2++oF (xp (y i))),?_,gh,by rw[dE,e1];rfl,by rw[gi,lg]⟩;have bM:=ajd (aV i aa);have se:n-i=(n-(i+1))+1:=(by omega);have du : ∀v,(q.1++List.replicate (n-i) (⟨⟨false,none⟩,none⟩:en)).set (0+((i:Nat):Int).toNat) v=q.1++[v]++List.replicate (n-(i+1)) ⟨⟨false,none⟩,none⟩:=fun v=>(by rw[se,<- e1];exact ajR ..);simp only;unfold Cj;refine fh (d9 (aI (gt rfl (gd aa)) ?_));show (zp (gR (y i)) >>= _)=_;refine aI bM ?_;rw[fE (by omega)];unfold xp;by_cases c:(e3 (y i)).1=0
    ·rw[dw c];refine cz (by simp only[dE,List.length_replicate];omega) (cz (by simp only[dE,List.length_replicate,dy];omega) ?_);rw[du];rfl
    rw[dA c];refine cz (by simp only[dE,List.length_replicate];omega) (cz (by simp only[dE,List.length_replicate,dy];omega) ?_);rw[du];rfl)
  (fun q a1=>by simp only;unfold Cj;refine fs ?_;rw[Nat.sub_self,List.replicate_zero,List.append_nil]) ([],[]) ⟨oe.nil _,rfl,rfl⟩
 refine⟨jf,P,?_,o,e1,e2⟩;unfold F9;rw[aR];refine d9 (aI (x:= .inl (jf,P)) ?_ rfl);unfold Uc;rw[dy];exact e
theorem ajS {jf:aqp}{P:aql}(o:oe jf P)(h:jf.length<=40):
 (C7 1 jf P >>= fun jq=>if 0+jf.length<=jq.2.1.length then if ((jq.2.1.drop 0).take jf.length).all (vv jq.2.2)=true then
   wq (((jq.2.1.drop 0).take jf.length).map (kQ jq.2.2)) 1 >>= fun ud=>if (decide (ud<(0:Int)))=true then some false else if (ud != jq.1)=true then some false else some true else none else none)=some true:=by
 refine aI (afB o (by omega) (by omega)) (cz (by simp only[tA];omega) ?_);simp only;rw[List.drop_zero,apW (by rw[tA];omega)];obtain⟨bf,-⟩:=K1 o (k:=1) (by omega) jf.length (dD _);exact cz (akk o (by omega)) (aI (VH o (by omega) (by omega)) (fs (jF (EP rfl) rfl)))
theorem ajT:(Dj ([]:aqc) 1 >>= fun AV=>wq ([]:aqc) 1 >>= fun ue=>if (decide (ue<(0:Int)))=true then some false else if (ue != AV)=true then some false else some true)=some true:=by
 have anX:Dj [] 1=some 1:=by have h:Na [] 1=some ():=(by unfold Na;rw[iter];simp[Jt,fj]);simp[Dj,h]
 have h0:wq [] 1=some 1:=VH (rw:=[]) (P:=[]) (oe.nil []) (by omega) (by simp);exact aI anX (aI h0 (fs (jF rfl rfl)))
theorem Wi {n:Nat}{z:Nat->Rat}(cB:∀k,eS (z k)): ∀q∈aQ n (fun k=>cj (z k)),wM q:=fun q a1=>by obtain⟨i,-,rfl⟩:=OL.1 a1;exact akG (cB i)
theorem ahd (s:c6)(i0:qv s)(l:ar)(aR:l.length<=maxLen):
 (C1 s l=some ([],false)/\CT s l=some (.inr ()))\/ ∃(z:Nat->Rat) (jf:aqp) (P:aql),(∀k,eS (z k))/\s.bN.length<=8/\C1 s l=some (aQ s.bN.length (fun k=>cj (z k)),true)/\CT s l=some (.inl (jf,P))/\oe jf P/\jf.length=s.bN.length/\jf.map (kQ P)=aQ s.bN.length (fun k=>cj (z k)):=by
 unfold C1 CT;rcases ah4 s i0 l aR with ⟨e1,e2,h,a3⟩|⟨e1,e2⟩;rotate_left
 ·exact .inl ⟨aI e1 (jF rfl rfl),aI e2 (jF rfl rfl)⟩
 have v:=aeY s i0 h;have bb:=v.2.2.2;have qp:=As s;obtain⟨aa4,pF⟩:=ags a3;have ah:=akx s v l pF;have kz:=afE s v l aa4 pF;have aa5:=ah3 s v l aa4 pF;rcases ah6 s v ah (c:=fun _=>0) (fun j _=>by omega) (dD _) with ⟨q,gh,gi,bm⟩|⟨x,w,r,z,q,gh,gi⟩
 ·exact .inl ⟨aI e1 (gH rfl (aI kz (aI (o:=sr (wc s l)) gh (gH (xe gi) rfl)))),aI e2 (gH rfl (aI aa5 (aI bm (jF rfl rfl))))⟩
 have f:=fun c k (a0:c<=cY s)=>YM (s:=s) ah.hm (by omega) q.pos q.q6 q.anT k a0;obtain⟨jf,P,iW,jM,pP,anY⟩:=ahc (n:=s.bN.length) (y:=fun k=>ja s x (cY s) k) (by omega) (fun k _=>f _ k (dD _));exact .inr ⟨fun k=>ja s x (cY s) k,jf,P,fun k=>f _ k (dD _),bb,aI e1 (gH rfl (aI kz (aI (o:=sr (wc s l)) gh (jF rfl (aI (ajc s v h q.fit f) rfl))))),aI e2 (gH rfl (aI aa5 (aI gi (gH rfl (aI iW rfl))))),jM,pP,anY⟩
theorem ahe (s:c6)(i0:qv s)(l:ar)(aR:l.length<=maxLen)(w:ar)(hw:w.length<=maxLen):
 ∃r ok,FA s l w=some (r,ok)/\r.length<=1048576/\(∀x∈r,wM x)/\((∃jf P,CD s l w=some (.inl (jf,P))/\oe jf P/\jf.length<=40/\jf.map (kQ P)=r/\ok=true)\/(CD s l w=some (.inr ())/\r=[]/\ok=false)):=by
 unfold FA CD;rcases ahd s i0 l aR with ⟨e1,e2⟩|⟨z,jf,P,s8,bb,e1,e2,o,bX,aK⟩
 ·exact⟨[],false,aI e1 (jF rfl rfl),by simp,by simp,.inr ⟨aI e2 rfl,rfl,rfl⟩⟩
 obtain⟨r,r1,r2⟩:=afx s i0 (aQ s.bN.length fun k=>cj (z k)) (by rw[c0];omega) (Wi s8) w hw
 cases r with
 | false=>exact⟨[],false,aI e1 (gH rfl (aI r1 (jF rfl rfl))),by simp,by simp,.inr ⟨aI e2 (cz o.all (aI (by simp only;rw[aK];exact r2) (jF rfl rfl))),rfl,rfl⟩⟩
 | true=>exact⟨_,true,aI e1 (gH rfl (aI r1 (gH rfl rfl))),by rw[c0];omega,Wi s8,.inl ⟨jf,P,aI e2 (cz o.all (aI (by simp only;rw[aK];exact r2) (gH rfl rfl))),o,by omega,aK,rfl⟩⟩
theorem abD (x0:c6)(x1 x2:ar)(i0:qv x0)(i1:(fun l=>l.length<=maxLen/\ ∀x∈l,nR x) x1)(i2:(fun l=>l.length<=maxLen/\ ∀x∈l,nR x) x2):Jl x0 x1 x2=some true:=by
 unfold Jl;rw[g9,g9];by_cases h1:(1048576:Int)<(x1.length:Nat)
 ·exact mh h1 rfl
 by_cases h2:(1048576:Int)<(x2.length:Nat)
 ·exact l4 h1 (mh h2 rfl)
 refine l4 h1 (l4 h2 ?_);obtain⟨r,r1,r2⟩:=aeC x0 i0 1048576 (by omega) (by omega);refine aI r1 ?_;by_cases J:r<0
 ·exact mh J rfl
 obtain⟨gh,gi⟩:=r2 (by omega);obtain⟨kN,ko,js,d1,d2,d3,apP,apQ⟩:=adw (k:=1) (l:=x0.cv) (m:=x0.bN) (by omega) (by omega);obtain⟨q,ok,q1,q2,bL,cr⟩:=ahe x0 i0 x1 i1.1 x2 i2.1;have js:vf kN x1=_:=U0 (l:=x1) (by omega) (by omega);have iw:vf (kN+x1.length) x2=_:=U0 (l:=x2) (by omega) (by omega);refine l4 J (aI (aeD x0 gh gi) (aI (VG x1 (by omega)) (aI (VG x2 (by omega)) (aI q1 ?_))));rcases cr with ⟨jf,P,g,o,ank,e,rfl⟩|⟨g,rfl,rfl⟩
 ·exact aI g (cz o.all (aI (by simp only;rw[e];exact VE q q2 bL) (gH rfl (gH rfl (aI (Uj x0 gh gi) (gH rfl (aI (Dz x1 (by omega)) (gH rfl (aI (Dz x2 (by omega)) (gH rfl (aI d1 (cz d2.symm (cz d3.symm (aI js (aI iw (fs (ajS o ank)))))))))))))))))
 exact aI g (aI (VE [] (by simp) (by simp)) (gH rfl (gH rfl (aI (Uj x0 gh gi) (gH rfl (aI (Dz x1 (by omega)) (gH rfl (aI (Dz x2 (by omega)) (gH rfl (aI d1 (cz d2.symm (cz d3.symm (aI js (aI iw (fs ajT)))))))))))))))
end Go.Proofs.YthgbjflfgmahbaeGreat
