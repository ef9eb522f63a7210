/- Lemmas, plain functions of the program, and what they answer. No condition. -/
import Derived.Carry
import Derived.ChangeOld
import Derived.ChangeSlices
import Derived.LoopN
import Derived.OwnWalk
import Derived.Scope
import Derived.Test.YtopadgleejacdaaChecked
import Derived.Test.YtopadgleejacdaaMA
namespace Go.VL
set_option linter.unusedVariables false
set_option linter.unusedSimpArgs false
open Go
def v7 (P:Program)(s:S)(aA:Nat)(I:Oper)(b9:d5):Option fI :=
 match b9 with
 | .call bO=>match I.op with
  | .call {callee:= .value f,args,..}=>match dc s.E f with
   | .fn id cap=>we P s.au aA id (args.toList.map (dc s.E)++cap) bO
   | _=>none
  | _=>none
 | et=>wD P s.E s.au aA I et
def wH:List (Nat×List az)->(Nat->Option (List az))->Nat->Option (List az)
 | [],au,q=>au q
 | (r,row)::u,au,q=>wH u (fun x=>if x=r then some row else au x) q
theorem Ds : ∀(u:List (Nat×List az)) (s:S) (q:Nat),(s.gD u).au q=wH u s.au q
 | [],_,_=>rfl
 | (r,row)::u,s,q=>Ds u (s.setRow r row) q
def ta (au:Nat->Option (List az))(aA r n:Nat)(a1:fI):Option fI :=
 match wH a1.eH au aA,wH a1.eH au r with
 | some ff,some l=>if aA=r then none else
  some {val:=je aA r n a1.val,eH:=a1.eH++[(aA,ff.map pH),(r,l++ff.map (kX aA r n))],ea:=a1.ea++[l.length=n]}
 | _,_=>none
def Kl (I:Oper)(t:Nat):Bool:=I.op.operands.toList.any fun | .tmp u=>u == t|_=>false
inductive jt:aj->aj->Prop
 | refl (x:aj):jt x x
 | gm (r c sz:Nat):jt (.hf r c sz none) (.isl sz [])
 | iS (r c sz:Nat):jt (.isl sz []) (.hf r c sz none)
 | s1 (r c sz k n:Nat):jt (.hf r c sz (some (k,n))) (.bz r (k+c) 0 n)
 | s2 (r c sz k n:Nat):jt (.bz r (k+c) 0 n) (.hf r c sz (some (k,n)))
 | agg {c cX:List aj} (aw:cX.length=c.length) (h : ∀(j:Nat) x ca,c[j]? = some x->cX[j]? = some ca->jt x ca):jt (.agg c) (.agg cX)
theorem jt.symm {x v:aj}(h:jt x v):jt v x:=by
 induction h with
 | refl x=>exact .refl x
 | gm r c sz=>exact .iS r c sz
 | iS r c sz=>exact .gm r c sz
 | s1 r c sz k n=>exact .s2 r c sz k n
 | s2 r c sz k n=>exact .s1 r c sz k n
 | agg aw h ih=>exact .agg aw.symm fun j x ca U cL=>ih j ca x cL U
theorem jt.rel {x v:aj}(h:jt x v){w:World}{ok:Nat->Prop}{aH:hI}{aP:hs}: ∀ {u:Value},Rel w ok aH aP x u->Rel w ok aH aP v u:=by
 induction h with
 | refl x=>exact fun h=>h
 | gm r c sz=>intro u h;cases h with|lk h=>exact h
 | iS r c sz=>exact fun h=> .lk h
 | s1 r c sz k n=>intro u h;cases h with|mo h=>exact h
 | s2 r c sz k n=>exact fun h=> .mo h
 | @agg c cX aw h ih =>
  intro u hu;obtain⟨vs,rfl,o,J,an⟩:=hu.vP;refine .agg vs (by omega) J fun j ca u cL hu=> ?_;have c0:j<c.length:=(by have:=eV cL;omega);exact ih j _ ca (dw c0) cL (an j _ u (dw c0) hu)
def iK (P:Program)(aA:Nat)(I:Oper):d5->S->Option fI
 | .ld t v et,s=>if Kl I t then
  match iK P aA I et {E:=fun u=>if u=t then v else s.E u,au:=s.au} with
  | some r=>some {r with ea:=jt (s.E t) v::r.ea}
  | none=>none
  else none
 | .ul r et,s=>match s.au r with
  | some row=>match iK P aA I et (s.setRow r (km row)) with
   | some a1=>some {a1 with eH:=(r,km row)::a1.eH}
   | none=>none
  | none=>none
 | .zt r n et,s=>match iK P aA I et s with
  | some a1=>ta s.au aA r n a1
  | none=>none
 | et,s=>v7 P s aA I et
def AP (P:Program)(s:S)(aA:Nat)(I:Oper)(b9:d5):Option fI:=iK P aA I b9 s
def rc (P:Program)(s:S)(aA:Nat)(I:Oper)(b9:d5):Option fI :=
 match AP P s aA I b9 with
 | some r=>if r.eH.all (fun p=>decide (p.1=aA) || (s.au p.1).isSome) then some r else none
 | none=>none
def KV (N:Nat)(I:Oper):Bool :=
 match I.dst with
 | some d=>decide (d<N)
 | none=>true
def o2 (P:Program)(N:Nat)(ops:Array Oper)(s:S)(aA:Nat)(I:Oper)(et:d5×Bool):Option fI :=
 if KV N I=false then none else
 match I.guard with
 | none=>rc P s aA I et.1
 | some (j,want)=>match (ops[j]?).bind (·.dst) with
  | none=>none
  | some d=>match s.E d with
   | .b x=>if et.2 then (match rc P s aA I et.1 with
    | some r=>some {r with ea:=(x=want)::r.ea}
    | none=>none)
    else some {val:= .dl [],ea:=[x = !want]}
   | .dl []=>some {val:= .dl []}
   | _=>none
def S.ba (s:S)(I:Oper)(r:fI):S:=(s.gD r.eH).put I.dst r.val
section
variable {P:Program} {g:G} {s:S} {ai:el} {a:Act} {w:World}
theorem Qs {I:Oper}{a1:fI}(h:Fin P g s a w I a1)(bk:∀d,I.dst=some d->d<g.N){K:Act->World->Prop}{Q:Exit->Act->World->Prop}
 (gG : ∀bf cP bc,b7 g (s.ba I a1) bf cP bc->K cP bc):I.wp P a w K Q:=by
 obtain⟨v,bc,bf,hn,bN,ah⟩:=h;unfold Oper.wp;rcases hn with hn|⟨hn,rfl⟩
 ·rw[hn];exact gG bf _ _ (bN.put I.dst bk ah)
 rw[hn];exact gG bf _ _ (bN.put I.dst bk ah)
theorem PT {I:Oper}{f:Operand}{args:Array Operand}{lF:Array TypeId}(ae:I.op = .call ⟨.value f,args,lF⟩){id:Nat}{cap:List Value}(bL:a.eval f = .func (.func id) #[] cap.toArray)
 (aJ:Au P id) {K:Act->World->Prop} {Q:Exit->Act->World->Prop}
 (h:Calls P id (args.toList.map a.eval++cap).toArray w fun
   | .returned v,E0=>K (a.put I.dst v) E0
   | .panicked chain,E0=>Q (.panic chain) a E0
   | .outgrown,_=>LetsOut Q):I.wp P a w K Q:=by
 obtain⟨fn,o,J,an⟩:=aJ;have e:args.map a.eval++cap.toArray=(args.toList.map a.eval++cap).toArray:=by apply Array.ext';simp
 have hn:(execOp a.eval I).run P w = .ok (.enter id (args.toList.map a.eval++cap).toArray) w:=by have aZ:fn.name ≠ "runtime.NumGoroutine" := (by simpa using J);have o9:fn.body≠none:=(by intro e;simp[e] at an);simp only[execOp,ae,resolve,bL,Deferred.ofValue,invoke,callFunc];simp[o,aZ,o9,e]
 unfold Oper.wp;rw[hn];exact h
theorem rU (h:b7 g s ai a w){aA:Nat}(dU:s.au aA=none){I:Oper}{b9:d5}{a1:fI}(ag:v7 P s aA I b9=some a1)(bM:∀p∈a1.ea,p)
 (bk : ∀d,I.dst=some d->d<g.N) {K:Act->World->Prop} {Q:Exit->Act->World->Prop} (gG : ∀bf cP bc,b7 g (s.ba I a1) bf cP bc->K cP bc):I.wp P a w K Q:=by
 unfold v7 at ag;split at ag;rotate_left
 ·exact Qs (Qr h dU ag bM) bk gG
 rename_i bO;split at ag;rotate_left
 ·simp at ag
 rename_i f args lF ae;split at ag;rotate_left
 ·simp at ag
 rename_i id cap fx;have bL:=h.eval f;rw[fx] at bL;obtain⟨vs,hval,aw,ah⟩:=bL.AM
 obtain⟨aJ,SD⟩:=Pv (vs:=args.toList.map a.eval++vs) h dU ag bM (by simp[aw]) (by
  intro j x v U aT;rw[List.getElem?_append] at U aT;simp only[Zc] at U aT;split at U
  ·rename_i ao;rw[dy ao] at aT;rw[dI,dL] at U aT;obtain⟨p,af,rfl⟩:=U;obtain⟨q,aU,rfl⟩:=aT;rw[af] at aU;simp at aU;subst aU;exact h.eval p
  rename_i ao;rw[dz ao] at aT;exact ah _ x v U aT)
 refine PT ae hval aJ (SD.mono fun e bc hw=> ?_);obtain⟨v,bf,rfl,o,J⟩:=hw;exact gG bf _ _ (o.put I.dst bk J)
theorem b7.Ea {s:S}(h:b7 g s ai a w)(dst:Option Tmp){x:aj}(ah:∀d,dst=some d->Rel w (s.ok g ai w) s.aH (s.aP ai) x (a.tmps.getD d undef)):b7 g (s.put dst x) ai a w where
 togK:=h.togK.congr (S.r9 s dst x)
 env:=by
  have e:=S.r9 s dst x;rw[xK e,vJ e,vK e];intro t
  cases dst with
  | none=>simpa [S.put] using h.env t
  | some d =>
   simp only[S.put];by_cases e:t=d
   ·subst e;simpa using ah t rfl
   rw[dz e];exact h.env t
 defers:=h.defers
 h9:=h.h9
theorem JS (s:S)(dst:Option Tmp)(x y:aj):(s.put dst x).put dst y=s.put dst y:=by
 cases dst with
 | none=>rfl
 | some d =>
  simp only[S.put,S.mk.injEq,and_true];funext u;split<;>rfl
theorem It (s:S)(dst:Option Tmp)(x:aj)(r:Nat)(row:List az):(s.put dst x).setRow r row=(s.setRow r row).put dst x:=by cases dst<;>rfl
theorem x2 : ∀(u:List (Nat×List az)) (s:S),(s.gD u).E=s.E
 | [],_=>rfl
 | (r,row)::u,s=>x2 u (s.setRow r row)
theorem Av : ∀(u:List (Nat×List az)) (s:S) (dst:Option Tmp) (x:aj),(s.put dst x).gD u=(s.gD u).put dst x
 | [],_,_,_=>rfl
 | (r,row)::u,s,dst,x=>by show ((s.put dst x).setRow r row).gD u=_;rw[It,Av u];rfl
theorem Pw {s:S}{aA r n:Nat}{I:Oper}{a1 nQ:fI}(hm:ta s.au aA r n a1=some nQ)(bM:∀p∈nQ.ea,p){ai:el}{a:Act}{w:World}(h:b7 g (s.ba I a1) ai a w):
 ∃bf,b7 g (s.ba I nQ) bf a w:=by
 unfold ta at hm;split at hm;rotate_left
 ·simp at hm
 rename_i ff l o J;split at hm
 ·simp at hm
 rename_i cc;simp only[dx] at hm;subst hm;have aZ:l.length=n:=bM _ (by simp);subst aZ;have ap:(s.ba I a1).au aA=some ff:=by rw[S.ba,S.r9,Ds];exact o
 have av:(s.ba I a1).au r=some l:=by rw[S.ba,S.r9,Ds];exact J
 obtain⟨bf,f1,f2⟩:=h.merge av ap cc;refine⟨bf,?_⟩;have:=f1.Ea I.dst (x:=je aA r l.length a1.val) (fun d bk=>f2 _ _ (by have:=h.env d;simpa [S.ba,S.put,bk] using this))
 have he:s.ba I {val:=je aA r l.length a1.val,eH:=a1.eH++[(aA,ff.map pH),(r,l++ff.map (kX aA r l.length))],ea:=a1.ea++[l.length=l.length]} =
  ((s.ba I a1).setRow aA (ff.map pH) |>.setRow r (l++ff.map (kX aA r l.length))).put I.dst (je aA r l.length a1.val):=by
  simp only[S.ba,It,JS];simp only[S.gD,List.foldl_append,List.foldl_cons,List.foldl_nil]
 rw[he];exact this
theorem Ad {aA:Nat}{I:Oper}(bk:∀d,I.dst=some d->d<g.N){K:Act->World->Prop}{Q:Exit->Act->World->Prop}:
 ∀(b9:d5) (s:S) (h:b7 g s ai a w) (dU:s.au aA=none) (a1:fI),iK P aA I b9 s=some a1->(∀p∈a1.ea,p)->(∀bf cP bc,b7 g (s.ba I a1) bf cP bc->K cP bc)->I.wp P a w K Q
 | .ul r et,s,h,dU,a1,ag,bM,gG=>by
  unfold iK at ag;split at ag
  ·rename_i row cu
   split at ag
   ·rename_i nQ ah;simp only[dx] at ag;subst ag;have cc:aA≠r:=(by rintro rfl;rw[dU] at cu;simp at cu);exact Ad bk et (s.setRow r (km row)) (h.freeze cu) (by simp[S.setRow,cc,dU]) nQ ah bM gG
   simp at ag
  simp at ag
 | .ld t v et,s,h,dU,a1,ag,bM,gG=>by
  unfold iK at ag;split at ag;rotate_left
  ·simp at ag
  split at ag;rotate_left
  ·simp at ag
  rename_i r ah;simp only[dx] at ag;subst ag;have e:jt (s.E t) v:=bM _ (by simp);have aT:Rel w (s.ok g ai w) s.aH (s.aP ai) v (a.tmps.getD t undef):=(by exact e.rel (h.env t));have J:=h.Ea (some t) (x:=v) (fun d bk=>by simp at bk;subst bk;exact aT);refine Ad bk et (s.put (some t) v) J dU r ah (fun p af=>bM p (by simp[af])) fun bf cP bc bN=>gG bf cP bc ?_;have U:Rel bc (((s.put (some t) v).ba I r).ok g bf bc) ((s.put (some t) v).ba I r).aH (((s.put (some t) v).ba I r).aP bf) v (cP.tmps.getD t undef)->Rel bc (((s.put (some t) v).ba I r).ok g bf bc) ((s.put (some t) v).ba I r).aH (((s.put (some t) v).ba I r).aP bf) (s.E t) (cP.tmps.getD t undef):=(by exact fun h0=>e.symm.rel h0);by_cases E1:I.dst=some t
  ·have:s.ba I {r with ea:=jt (s.E t) v::r.ea}=(s.put (some t) v).ba I r:=by
    simp only[S.ba,Av,E1,JS]
   rw[this];exact bN
  have c7:((s.put (some t) v).ba I r).E t=v:=by
   simp only[S.ba,Av]
   cases y3:I.dst with
   | none=>simp[S.put]
   | some d =>
    have:t≠d:=(by rintro rfl;exact E1 y3);simp[S.put,this]
  have:s.ba I {r with ea:=jt (s.E t) v::r.ea}=((s.put (some t) v).ba I r).put (some t) (s.E t):=by
   simp only[S.ba,Av]
   cases y3:I.dst with
   | none =>
    have key : ∀(s1:S) (x y:aj),s1.E t=y->s1=(s1.put (some t) x).put (some t) y:=by
     intro s1 x y aK
     cases s1 with
     | mk E au =>
      simp only[S.put,S.mk.injEq,and_true];funext u;split
      ·rename_i hu;rw[hu];exact aK
      rfl
    exact key (s.gD r.eH) v _ (by rw[x2])
   | some d =>
    have:t≠d:=(by rintro rfl;exact E1 y3);simp only[S.put,S.mk.injEq,and_true];funext u;by_cases o:u=t
    ·subst o;simp[this,x2]
    simp[o]
  rw[this];exact bN.Ea (some t) (fun d bk=>by simp at bk;subst bk;exact U (by have:=bN.env t;rw[c7] at this;exact this))
 | .zt r n et,s,h,dU,a1,ag,bM,gG=>by
  unfold iK at ag;split at ag
  ·rename_i nQ ah
   refine Ad bk et s h dU nQ ah (fun p af=>bM p ?_) fun bf cP bc bN=> ?_
   ·unfold ta at ag
    split at ag
    ·split at ag
     ·simp at ag
     simp only[dx] at ag;subst ag;simp[af]
    simp at ag
   obtain⟨jV,J⟩:=Pw ag bM bN;exact gG jV cP bc J
  simp at ag
 | .none,s,h,dU,a1,ag,bM,gG=>rU h dU (by unfold iK at ag;exact ag) bM bk gG
 | .aF b,s,h,dU,a1,ag,bM,gG=>rU h dU (by unfold iK at ag;exact ag) bM bk gG
 | .ee c,s,h,dU,a1,ag,bM,gG=>rU h dU (by unfold iK at ag;exact ag) bM bk gG
 | .gx ab c,s,h,dU,a1,ag,bM,gG=>rU h dU (by unfold iK at ag;exact ag) bM bk gG
 | .fj,s,h,dU,a1,ag,bM,gG=>rU h dU (by unfold iK at ag;exact ag) bM bk gG
 | .zs,s,h,dU,a1,ag,bM,gG=>rU h dU (by unfold iK at ag;exact ag) bM bk gG
 | .call c,s,h,dU,a1,ag,bM,gG=>rU h dU (by unfold iK at ag;exact ag) bM bk gG
 | .ba m bD,s,h,dU,a1,ag,bM,gG=>rU h dU (by unfold iK at ag;exact ag) bM bk gG
theorem Pc (h:b7 g s ai a w){aA:Nat}(dU:s.au aA=none){I:Oper}{b9:d5}{a1:fI}(ag:AP P s aA I b9=some a1)(bM:∀p∈a1.ea,p)
 (bk : ∀d,I.dst=some d->d<g.N) {K:Act->World->Prop} {Q:Exit->Act->World->Prop} (gG : ∀bf cP bc,b7 g (s.ba I a1) bf cP bc->K cP bc):I.wp P a w K Q :=
 Ad bk b9 s h dU a1 ag bM gG
theorem H5 (h:b7 g s ai a w){aA:Nat}(dU:s.au aA=none){I:Oper}{b9:d5}{a1:fI}(ag:rc P s aA I b9=some a1)(bM:∀p∈a1.ea,p)
 (bk : ∀d,I.dst=some d->d<g.N) {K:Act->World->Prop} {Q:Exit->Act->World->Prop} (gG : ∀bf cP bc,b7 g (s.ba I a1) bf cP bc->K cP bc):I.wp P a w K Q:=by
 unfold rc at ag;split at ag
 ·rename_i r ah
  split at ag
  ·simp only[dx] at ag;subst ag;exact Pc h dU ah bM bk gG
  simp at ag
 simp at ag
theorem IQ {ok:Nat->Prop}{aH:hI}{aP:hs}:Rel w ok aH aP (.dl []) undef:=by have:=Rel.dl (w:=w) (ok:=ok) (aH:=aH) (aP:=aP) (c:=[]) [] rfl (by simp);exact this
theorem H6 (h:b7 g s ai a w){ops:Array Oper}{i aA:Nat}(dU:s.au aA=none){I:Oper}(ad:ops[i]? = some I){et:d5×Bool}{a1:fI}(ag:o2 P g.N ops s aA I et=some a1)
 (bM : ∀p∈a1.ea,p) {K:Act->World->Prop} {Q:Exit->Act->World->Prop} (gG : ∀bf cP bc,b7 g (s.ba I a1) bf cP bc->K cP bc):wpOp P ops Q i K a w:=by
 unfold o2 at ag;split at ag
 ·simp at ag
 rename_i yD;have bk : ∀d,I.dst=some d->d<g.N:=by intro d bk;unfold KV at yD;rw[bk] at yD;simpa using yD
 unfold wpOp;simp only[ad];have Lj : ∀r:fI,r={val:= .dl [],ea:=r.ea}->(∀bf cP bc,b7 g (s.ba I r) bf cP bc->K cP bc)->K (a.put I.dst undef) w:=by intro r ah UP;refine UP ai _ _ ?_;rw[ah];exact h.put I.dst bk IQ
 split at ag
 ·rename_i cZ;have hw:Region.wanted I (yielded ops a.tmps)=true:=(by simp[Region.wanted,cZ]);rw[dy hw];exact .inl (H5 h dU ag bM bk gG)
 rename_i j want cZ;split at ag
 ·simp at ag
 rename_i d LK;have hval:=h.env d;split at ag
 ·rename_i x U
  rw[U] at hval;have aT:=hval.sa
  have c0:d<a.tmps.size:=by
   rcases Nat.lt_or_ge d a.tmps.size with bR|bR
   ·exact bR
   rw[YY,Array.getElem?_eq_none bR] at aT;simp[undef] at aT
  have aK:yielded ops a.tmps j=some x:=(by unfold yielded;rw[LK];rw[YY,dO c0] at aT;simp only[Option.getD_some] at aT;simp[dO c0,aT]);split at ag
  ·split at ag
   ·rename_i r ah;simp only[dx] at ag;subst ag;have E2:x=want:=bM _ (by simp);have hw:Region.wanted I (yielded ops a.tmps)=true:=(by simp[Region.wanted,cZ,aK,E2]);rw[dy hw];exact .inl (H5 h dU ah (fun p af=>bM p (by simp[af])) bk gG)
   simp at ag
  simp only[dx] at ag;subst ag;have E2:x = !want:=bM _ (by simp);have hw:Region.wanted I (yielded ops a.tmps)=false:=(by simp[Region.wanted,cZ,aK,E2]);rw[hw];exact Lj _ rfl gG
 ·rename_i U
  simp only[dx] at ag;subst ag;rw[U] at hval;obtain⟨vs,aT,aw,-⟩:=hval.vQ;have:vs=[]:=dJ.1 (by simpa using aw);subst this
  have aK:yielded ops a.tmps j=none:=by
   unfold yielded;rw[LK];rw[YY] at aT
   cases aU:a.tmps[d]? with
   | none=>simp[aU]
   | some v=>rw[aU] at aT;simp only[Option.getD_some] at aT;simp[aU,aT]
  have hw:Region.wanted I (yielded ops a.tmps)=false:=(by simp[Region.wanted,cZ,aK]);rw[hw];exact Lj _ rfl gG
 simp at ag
end
def oY (P:Program)(N:Nat)(ops:Array Oper):List Oper->List (d5×Bool)->S->Nat->Option (S×List Prop)
 | [],[],s,_=>some (s,[])
 | I::l,et::b9,s,aA=>match o2 P N ops s aA I et with
  | some a1=>match oY P N ops l b9 (s.ba I a1) (aA+1) with
   | some (bj,ab)=>some (bj,a1.ea++ab)
   | none=>none
  | none=>none
 | _,_,_,_=>none
def S.ja (s:S)(n:Nat):Prop:= ∀r,n<=r->s.au r=none
theorem IR : ∀(u:List (Nat×List az)) (s:S) (q:Nat),(∀p∈u,p.1≠q)->(s.gD u).au q=s.au q
 | [],s,q,_=>rfl
 | (r,row)::u,s,q,h=>by show ((s.setRow r row).gD u).au q=_;rw[IR u (s.setRow r row) q fun p af=>h p (by simp[af])];have:=h (r,row) (by simp);simp[S.setRow,Ne.symm this]
theorem Ah {P:Program}{N:Nat}{ops:Array Oper}{s:S}{aA:Nat}{I:Oper}{et:d5×Bool}{a1:fI}(h:o2 P N ops s aA I et=some a1)(bL:s.ja aA):(s.ba I a1).ja (aA+1):=by
 have key : ∀r,(∀p∈r.eH,p.1=aA\/(s.au p.1).isSome=true)->(s.ba I r).ja (aA+1):=by
  intro r ah q aU;unfold S.ba;rw[S.r9,IR]
  ·exact bL q (by omega)
  rintro p af rfl;rcases ah p af with e|e
  ·omega
  rw[bL _ (by omega)] at e;simp at e
 have LL : ∀r,rc P s aA I et.1=some r-> ∀p∈r.eH,p.1=aA\/(s.au p.1).isSome=true:=by
  intro r ah;unfold rc at ah;split at ah
  ·split at ah
   ·rename_i aJ;simp only[dx] at ah;subst ah;intro p af;have:=List.all_eq_true.1 aJ p af;simpa using this
   simp at ah
  simp at ah
 unfold o2 at h;split at h
 ·simp at h
 split at h
 ·exact key a1 (LL a1 h)
 split at h
 ·simp at h
 split at h
 ·split at h
  ·split at h
   ·rename_i r ah;simp only[dx] at h;subst h;exact key _ (LL r ah)
   simp at h
  simp only[dx] at h;subst h;exact key _ (by simp)
 ·simp only[dx] at h;subst h;exact key _ (by simp)
 simp at h
theorem HU {P:Program}{ops:Array Oper}{Q:Exit->Act->World->Prop}{g:G}: ∀(l:List Oper) (b9:List (d5×Bool)) (s bj:S) (aA i:Nat) (ab:List Prop),
 (∀j I,l[j]? = some I->ops[i+j]? = some I)->oY P g.N ops l b9 s aA=some (bj,ab)->(∀p∈ab,p)->s.ja aA ->
 (∀bf cP bc,b7 g bj bf cP bc->Q .normal cP bc)-> ∀ai a w,b7 g s ai a w->wpOps P ops Q ((List.range l.length).map (i + ·)) a w
 | [],[],s,bj,aA,i,ab,_,h,_,_,sE,ai,a,w,ah=>by simp[oY] at h;obtain⟨rfl,rfl⟩:=h;exact sE ai a w ah
 | I::l,et::b9,s,bj,aA,i,ab,aw,h,aW,bL,sE,ai,a,w,ah=>by
  simp only[oY] at h;split at h;rotate_left
  ·simp at h
  rename_i a1 ag;split at h
  ·rename_i s2 y4 J
   simp only[dx,dC] at h;obtain⟨rfl,rfl⟩:=h;have e:(List.range (I::l).length).map (i + ·)=i::(List.range l.length).map (i+1 + ·):=(by rw[dM,List.range_succ_eq_map,List.map_cons,List.map_map];congr 1;apply Y8;intro x _;simp[Function.comp];omega);rw[e,wpOps_cons];refine H6 ah (bL aA (dF _)) (by simpa using aw 0 I rfl) ag (fun p af=>aW p (by simp[af])) fun bf cP bc gd=> ?_
   exact HU l b9 (s.ba I a1) s2 (aA+1) (i+1) y4 (fun j bD ao=>by rw[show i+1+j=i+(j+1) by omega];exact aw (j+1) bD (by simpa using ao)) J (fun p af=>aW p (by simp[af]))
    (Ah ag bL) sE bf cP bc gd
  simp at h
 | [],_::_,_,_,_,_,_,_,h,_,_,_,_,_,_,_=>by simp[oY] at h
 | _::_,[],_,_,_,_,_,_,h,_,_,_,_,_,_,_=>by simp[oY] at h
theorem rW {α β:Type}{f iT:α->β->Option (β×List Prop)}(bL:∀a b z,iT a b=some z->f a b=some z): ∀ {l:List α} {m:List β} {z:List β×List Prop},j5 iT l m=some z->j5 f l m=some z
 | [],[],z,h=>h
 | [],_::_,z,h=>by simp[j5] at h
 | _::_,[],z,h=>by simp[j5] at h
 | a::l,b::m,z,h=>by
  simp only[j5] at h ⊢;split at h
  ·rename_i iq bT aX a2 o J;rw[bL _ _ _ o,rW bL J];exact h
  simp at h
section
variable {au fk:Nat->Option (List az)} (cb : ∀r row,fk r=some row->au r=some row)
include cb
theorem Al {r k:Nat}{I:az}(h:cB (fk r) k=some I):cB (au r) k=some I:=by
 cases ah:fk r with
 | none=>rw[ah] at h;simp[cB] at h
 | some row=>rw[cb r row ah];rw[ah] at h;exact h
theorem Dj {r k:Nat}{b9:d5}{z:az×List Prop}(h:mq (fk r) k b9=some z):mq (au r) k b9=some z:=by
 cases ah:fk r with
 | none=>rw[ah] at h;unfold mq at h;split at h<;>simp[cB] at h
 | some row=>rw[cb r row ah];rw[ah] at h;exact h
theorem vC {bP:Nat->Option Nat}{ax:fA}{bw:e1->Bool}{c:p6}{x:aj}{z:aj×List Prop}(h:j4 fk bP ax bw c x=some z):j4 au bP ax bw c x=some z:=by
 cases c with
 | id =>
  simp only[j4] at h ⊢;exact h
 | oH sz=>cases x<;>exact h
 | hT=>exact h
 | du y=>exact h
 | FY sz=>exact h
 | len n=>cases x<;>exact h
 | at_ j i n=>cases x<;>exact h
 | view dd I es =>
  cases x<;>simp only[j4,reduceCtorEq] at h ⊢;split at h
  ·rename_i row il o J;rw[cb _ _ o,cb _ _ J];exact h
  simp at h
 | e5 es =>
  cases x<;>simp only[j4,reduceCtorEq] at h ⊢;split at h
  ·rename_i I ae;rw[Al cb ae];exact h
  simp at h
theorem Dc {bP:Nat->Option Nat}{ax:fA}{bw:e1->Bool}{c:wW}{x:aj}{z:aj×List Prop}(h:mR fk bP ax bw c x=some z):mR au bP ax bw c x=some z:=by
 cases c with
 | cV c =>
  simp only[mR] at h ⊢;split at h
  ·rename_i aZ
   rw[dy aZ];split at h
   ·exact h
   ·exact h
   ·exact h
   exact vC cb h
  rename_i aZ;rw[dz aZ];exact vC cb h
 | agg l =>
  cases x<;>simp only[mR,reduceCtorEq] at h ⊢;split at h
  ·rename_i cX ab aJ;rw[rW (fun a b z h=>vC cb h) aJ];exact h
  simp at h
 | ptr l =>
  cases x<;>simp only[mR,reduceCtorEq] at h ⊢;split at h;rotate_left
  ·simp at h
  rename_i I ae;rw[Al cb ae];simp only;split at h
  ·rename_i c gb
   split at h
   ·rename_i aJ
    rw[dy aJ];split at h
    ·rename_i cX ab ho;rw[rW (fun a b z h=>vC cb h) ho];exact h
    simp at h
   simp at h
  simp at h
 | El l =>
  simp only[mR] at h ⊢;split at h;rotate_left
  ·simp at h
  split at h;rotate_left
  ·simp at h
  rename_i I ae;rw[Al cb ae];simp only;split at h
  ·rename_i c gb
   split at h
   ·rename_i aJ
    rw[dy aJ];split at h
    ·rename_i cX ab ho;rw[rW (fun a b z h=>vC cb h) ho];exact h
    simp at h
   simp at h
  simp at h
theorem Iu {bP:Nat->Option Nat}{ax:fA}{bw:e1->Bool}{c:jH}{x:aj}{z:aj×List Prop}(h:mi fk bP ax bw c x=some z):mi au bP ax bw c x=some z:=by
 cases c with
 | bG c =>
  simp only[mi] at h ⊢;split at h
  ·rename_i aZ
   rw[dy aZ];split at h
   ·exact h
   exact Dc cb h
  rename_i aZ;rw[dz aZ];exact Dc cb h
 | comp l =>
  cases x<;>simp only[mi,reduceCtorEq] at h ⊢
  all_goals
   split at h
   ·rename_i cX ab aJ;rw[rW (fun a b z h=>Dc cb h) aJ];exact h
   simp at h
theorem Iv {bP:Nat->Option Nat}{ax:fA}{bw:e1->Bool}{c:gM}{row:List az}{z:List az×List Prop}(h:hB fk bP ax bw c row=some z):hB au bP ax bw c row=some z:=by
 cases c with
 | pure=>exact h
 | du cU=>exact h
 | ck a8=>exact h
 | rx a8=>cases row with
  | nil=>simp[hB] at h
  | cons I l=>cases l<;>simp[hB] at h
 | drop=>cases row with
  | nil=>simp[hB] at h
  | cons I l=>cases l<;>simp[hB] at h
 | box l =>
  match row,h with
  | [I],h =>
   simp only[hB] at h ⊢;split at h
   ·rename_i c gb
    split at h
    ·rename_i aL
     rw[dy aL];split at h
     ·rename_i cX ab aJ;rw[rW (fun a b z h=>vC cb h) aJ];exact h
     simp at h
    simp at h
   simp at h
  | [],h=>simp[hB] at h
  | _::_::_,h=>simp[hB] at h
theorem C3 {bP:Nat->Option Nat}{ax:fA}: ∀ {l:List Src} {cf:List gM} {z:List (List az)×List Prop},kN fk bP ax l cf=some z->kN au bP ax l cf=some z
 | [],[],z,h=>h
 | .row r::l,c::cf,z,h=>by
  simp only[kN] at h ⊢;split at h
  ·rename_i row cu
   rw[cb r row cu];simp only;split at h
   ·rename_i cU bT T a2 o J;rw[Iv cb o,C3 J];exact h
   simp at h
  simp at h
 | .ab r k I::l,c::cf,z,h=>by
  simp only[kN] at h ⊢;split at h
  ·rename_i row cu
   rw[cb r row cu];simp only;split at h
   ·rename_i cU bT T a2 o J;rw[Iv cb o,C3 J];exact h
   simp at h
  simp at h
 | [],_::_,z,h=>by simp[kN] at h
 | .row _::_,[],z,h=>by simp[kN] at h
 | .ab .. :: _,[],z,h=>by simp[kN] at h
omit cb in
theorem z9 {uo:Nat->Option (List az)}{bP:Nat->Option Nat}{jl:fA}: ∀ {l:List Src} {cf:List gM} {T:List (List az)} {au fk:Nat->Option (List az)} {z:List (Nat×List az)×List Prop},
 (∀r row,fk r=some row->au r=some row)->jA uo bP jl fk l cf T=some z->jA uo bP jl au l cf T=some z
 | [],[],[],au,fk,z,_,h=>h
 | .row q::l,c::cf,row::T,au,fk,z,cb,h=>by
  simp only[jA] at h ⊢;split at h
  ·rename_i cU bT o
   split at h
   ·rename_i u a2 J;rw[z9 (fun r row ah=>by split at ah<;>rename_i e<;>simp only[e,if_true,if_false]<;>first|exact ah|exact cb _ _ ah) J];exact h
   simp at h
  simp at h
 | .ab q k I::l,c::cf,row::T,au,fk,z,cb,h=>by
  simp only[jA] at h ⊢;split at h
  ·rename_i kc aJ
   rw[cb _ _ aJ];simp only;split at h
   ·rename_i bD bT o
    split at h
    ·rename_i u a2 J;rw[z9 (fun r row ah=>by split at ah<;>rename_i e<;>simp only[e,if_true,if_false]<;>first|exact ah|exact cb _ _ ah) J];exact h
    simp at h
   simp at h
  simp at h
 | [],[],_::_,_,_,_,_,h=>by simp[jA] at h
 | [],_::_,_,_,_,_,_,h=>by simp[jA] at h
 | .row _::_,[],_,_,_,_,_,h=>by simp[jA] at h
 | .ab .. :: _,[],_,_,_,_,_,h=>by simp[jA] at h
 | .row _::_,_::_,[],_,_,_,_,h=>by simp[jA] at h
 | .ab .. :: _,_::_,[],_,_,_,_,h=>by simp[jA] at h
omit cb in
theorem Dt : ∀ {u:List (Nat×List az)} {au fk:Nat->Option (List az)} {q:Nat} {row:List az},(∀r row,fk r=some row->au r=some row)->wH u fk q=some row->wH u au q=some row
 | [],_,_,_,_,cb,h=>cb _ _ h
 | (r,aC)::u,au,fk,q,row,cb,h=>Dt (u:=u) (fun r row ah=>by split at ah<;>rename_i e<;>simp only[e,if_true,if_false]<;>first|exact ah|exact cb _ _ ah) h
theorem O1 {aA r n:Nat}{a1 nQ:fI}(h:ta fk aA r n a1=some nQ):ta au aA r n a1=some nQ:=by
 unfold ta at h ⊢;split at h
 ·rename_i ff l o J;rw[Dt cb o,Dt cb J];exact h
 simp at h
theorem PU {P:Program}{aA:Nat}{f:FuncId}{args:List aj}{bO:wX}{a1:fI}(h:we P fk aA f args bO=some a1):we P au aA f args bO=some a1:=by
 unfold we at h ⊢;simp only at h ⊢;split at h
 ·simp at h
 rename_i jW h0;split at h
 ·simp at h
 rename_i t0;rw[dz t0];split at h
 ·rename_i y2
  rw[dy y2];split at h
  ·rename_i sr
   split at h
   ·rename_i o1 bT dn hJ u fs o an aG;rw[rW (fun a b z h=>Iu cb h) o,an,z9 cb aG];exact h
   simp at h
  simp at h
 rename_i y2;rw[dz y2];split at h
 ·rename_i o1 bT T a2 dn hJ u fs o J an aG;rw[rW (fun a b z h=>Iu cb h) o,C3 cb J,an,z9 cb aG];exact h
 simp at h
end
theorem mapM_congr {α β:Type}{f iT:α->Option β}: ∀ {l:List α},(∀x∈l,iT x=f x)->l.mapM iT=l.mapM f
 | [],_=>rfl
 | x::l,h=>by rw[List.mapM_cons,List.mapM_cons,h x (by simp),mapM_congr fun y aK=>h y (by simp[aK])]
theorem PV {P:Program}{au fk:Nat->Option (List az)}{t:TypeId}{x iR:aj}{b9:d5}{a1:fI}(cb:∀r row,fk r=some row->au r=some row)(h:v9 P fk t x iR b9=some a1):v9 P au t x iR b9=some a1:=by
 unfold v9 at h ⊢;split at h
 ·split at h
  ·rename_i aU;rw[Dj cb aU];exact h
  simp at h
 simp at h
theorem Aw {P:Program}{E kE:Nat->aj}{au fk:Nat->Option (List az)}{aA:Nat}{I:Oper}{b9:d5}{a1:fI}
 (c7 : ∀x∈I.op.operands,dc kE x=dc E x) (cb : ∀r row,fk r=some row->au r=some row) (h:dr P kE fk aA I b9=some a1):dr P E au aA I b9=some a1:=by
 have aW : ∀ {r k:Nat} {z:az×List Prop},mq (fk r) k b9=some z->mq (au r) k b9=some z:=fun h=>Dj cb h
 cases ae:I.op with
 | move x=>simp only[dr,ae] at h ⊢;rw[<- c7 x (by simp[ae,Op.operands])];exact h
 | assign x=>simp only[dr,ae] at h ⊢;rw[<- c7 x (by simp[ae,Op.operands])];exact h
 | pick c x y =>
  simp only[dr,ae] at h ⊢;rw[<- c7 c (by simp[ae,Op.operands]),<- c7 x (by simp[ae,Op.operands]),<- c7 y (by simp[ae,Op.operands])];exact h
 | alloc t=>simp only[dr,ae] at h ⊢;exact h
 | box t x=>simp only[dr,ae] at h ⊢;rw[<- c7 x (by simp[ae,Op.operands])];exact h
 | load t x =>
  simp only[dr,ae] at h ⊢;rw[<- c7 x (by simp[ae,Op.operands])];split at h
  ·split at h
   ·rename_i aU;rw[aW aU];exact h
   simp at h
  ·exact h
  simp at h
 | store t x y =>
  simp only[dr,ae] at h ⊢;rw[<- c7 x (by simp[ae,Op.operands]),<- c7 y (by simp[ae,Op.operands])];split at h
  ·split at h
   ·simp at h
   rename_i row cu;rw[cb _ row cu];exact h
  simp at h
 | nilCheck x =>
  simp only[dr,ae] at h ⊢;rw[<- c7 x (by simp[ae,Op.operands])];split at h
  ·split at h
   ·rename_i aU;rw[aW aU];exact h
   simp at h
  ·exact h
  ·exact h
  simp at h
 | binOp op t x y cx =>
  simp only[dr,ae] at h ⊢;rw[<- c7 x (by simp[ae,Op.operands]),<- c7 y (by simp[ae,Op.operands])];exact h
 | unOp op t x=>simp only[dr,ae] at h ⊢;rw[<- c7 x (by simp[ae,Op.operands])];exact h
 | convert t cx x =>
  simp only[dr,ae] at h ⊢;rw[<- c7 x (by simp[ae,Op.operands])];split at h
  ·exact h
  ·rename_i r k bb len o J
   split at h
   ·rename_i ab an aG;rw[Al cb aG,an];exact h
   simp at h
  simp at h
 | makeFunc f zv bO =>
  cases f with
  | func n =>
   simp only[dr,ae] at h ⊢;have:bO.toList.map (dc kE)=bO.toList.map (dc E):=Y8 fun x U=>c7 x (by simp[ae,Op.operands];right;simpa using U);rw[<- this];exact h
  | _=>simp[dr,ae] at h
 | makeSlice t x y =>
  simp only[dr,ae] at h ⊢;rw[<- c7 x (by simp[ae,Op.operands]),<- c7 y (by simp[ae,Op.operands])];exact h
 | fieldAddr t x f =>
  simp only[dr,ae] at h ⊢;rw[<- c7 x (by simp[ae,Op.operands])];split at h
  ·split at h
   ·split at h
    ·simp at h
    rename_i bY;rw[dz bY];split at h
    ·split at h
     ·rename_i aU;rw[aW aU];exact h
     simp at h
    ·exact h
    simp at h
   simp at h
  simp at h
 | field t x f=>simp only[dr,ae] at h ⊢;rw[<- c7 x (by simp[ae,Op.operands])];exact h
 | indexAddr t x y =>
  simp only[dr,ae] at h ⊢;rw[<- c7 x (by simp[ae,Op.operands]),<- c7 y (by simp[ae,Op.operands])];split at h
  ·split at h
   ·exact h
   ·split at h
    ·rename_i row cu;rw[cb _ row cu];exact h
    simp at h
   simp at h
  exact PV cb h
 | index t x y =>
  simp only[dr,ae] at h ⊢;rw[<- c7 x (by simp[ae,Op.operands]),<- c7 y (by simp[ae,Op.operands])];exact h
 | extract x i=>simp only[dr,ae] at h ⊢;rw[<- c7 x (by simp[ae,Op.operands])];exact h
 | slice t x bb ad rE =>
  cases rE with
  | none =>
   simp only[dr,ae] at h ⊢
   have ap:bb.map (dc kE)=bb.map (dc E):=by
    cases bb with
    | none=>rfl
    | some y=>simp only[dN];rw[c7 y (by simp[ae,Op.operands])]
   have av:ad.map (dc kE)=ad.map (dc E):=by
    cases ad with
    | none=>rfl
    | some y=>simp only[dN];rw[c7 y (by simp[ae,Op.operands])]
   rw[<- c7 x (by simp[ae,Op.operands]),<- ap,<- av];split at h
   ·exact h
   ·split at h
    ·simp at h
    rename_i row cu;rw[cb _ row cu];exact h
   ·exact h
   simp at h
  | some m =>
   cases ad with
   | none=>simp[dr,ae] at h
   | some ad =>
    simp only[dr,ae] at h ⊢
    have ap:bb.map (dc kE)=bb.map (dc E):=by
     cases bb with
     | none=>rfl
     | some y=>simp only[dN];rw[c7 y (by simp[ae,Op.operands])]
    have av:(some ad).map (dc kE)=(some ad).map (dc E):=(by simp only[dN];rw[c7 ad (by simp[ae,Op.operands])]);have bS:(some m).map (dc kE)=(some m).map (dc E):=(by simp only[dN];rw[c7 m (by simp[ae,Op.operands])]);rw[<- c7 x (by simp[ae,Op.operands]),<- ap,<- av,<- bS];split at h
    ·split at h
     ·simp at h
     rename_i row cu;rw[cb _ row cu];exact h
    simp at h
 | build t hT =>
  simp only[dr,ae] at h ⊢;have af : ∀p∈hT.toList,dc kE p.2=dc E p.2:=fun p af=>c7 p.2 (by simp only[ae,Op.operands];rw[<- Array.mem_toList_iff];simp only[List.mem_map];exact⟨p,af,rfl⟩);split at h
  ·rename_i jk z _ _
   split at h
   ·simp at h
   rename_i aU;rw[dz aU]
   have e:(hT.toList.mapM fun (p:Nat×Operand)=>(jk[p.1]?).map fun fd=>(fd.offset,P.cellsOf fd.type,dc kE p.2)) =
    hT.toList.mapM fun (p:Nat×Operand)=>(jk[p.1]?).map fun fd=>(fd.offset,P.cellsOf fd.type,dc E p.2):=mapM_congr fun p kw=>by rw[af p kw]
   rw[<- e];exact h
  rw[<- (Y8 fun p kw=>by rw[af p kw]:(hT.toList.map fun p=>(p.1,dc kE p.2))=hT.toList.map fun p=>(p.1,dc E p.2))];exact h
 | buildSlice t n hT =>
  simp only[dr,ae] at h ⊢;have af : ∀p∈hT.toList,dc kE p.2=dc E p.2:=fun p af=>c7 p.2 (by simp only[ae,Op.operands];rw[<- Array.mem_toList_iff];simp only[List.mem_map];exact⟨p,af,rfl⟩);have e:(hT.toList.map fun p=>(p.1,dc kE p.2))=hT.toList.map fun p=>(p.1,dc E p.2):=Y8 fun p kw=>(by rw[af p kw]);rw[<- e];exact h
 | call c =>
  obtain⟨Bo,args,kW⟩:=c
  cases Bo with
  | builtin b =>
   cases b<;>first
    | (simp only[dr,ae] at h ⊢
       have e:args.toList.map (dc kE)=args.toList.map (dc E):=Y8 fun x U=>c7 x (by simp only[ae,Op.operands,Call.operands];simpa using U);rw[<- e];split at h
       ·exact h
       ·split at h
        ·rename_i row cu;rw[cb _ row cu];exact h
        simp at h
       ·exact h
       ·exact h
       simp at h)
    | simp[dr,ae] at h
  | value f=>simp[dr,ae] at h
  | invoke r m=>simp[dr,ae] at h
 | _=>simp[dr,ae] at h
theorem Iw {au fk:Nat->Option (List az)}(cb:∀r row,fk r=some row->au r=some row){sz:Nat}{x:aj}{et:d5}{z:List (List aj)×List Prop}(h:pF sz fk et x=some z):pF sz au et x=some z:=by
 cases x with
 | bz r k bb len =>
  simp only[pF] at h ⊢;split at h
  ·rename_i ab bT aW;rw[Dj cb aW];exact h
  simp at h
 | _=>exact h
theorem H7 {P:Program}{au fk:Nat->Option (List az)}(cb:∀r row,fk r=some row->au r=some row){sz:Nat}{z:List aj}{t cx:TypeId}{x:aj}{et:d5}{y:List (List aj)×List Prop}(h:tm P sz z fk et t cx x=some y):tm P sz z au et t cx x=some y:=by
 unfold tm at h ⊢;split at h
 ·rename_i e;rw[dy e];exact Iw cb h
 rename_i e;rw[dz e];exact h
theorem IU {rF:Bool}{P:Program}{au fk:Nat->Option (List az)}{x y:aj}{t cx:TypeId}{a1:fI}
 (cb : ∀r row,fk r=some row->au r=some row) (h:ri rF P fk x y t cx=some a1):ri rF P au x y t cx=some a1:=by
 unfold ri at h ⊢;split at h
 ·simp at h
 split at h;rotate_left
 ·simp at h
 split at h
 ·simp at h
 rename_i aJ;rw[dz aJ];split at h
 ·simp at h
 rename_i a3 bT pM;rw[H7 cb pM];simp only;split at h
 ·split at h
  ·simp at h
  rename_i row cu;rw[cb _ row cu];exact h
 simp at h
theorem PW {P:Program}{au fk:Nat->Option (List az)}{r k bb len:Nat}{t:TypeId}{a1:fI}
 (cb : ∀r row,fk r=some row->au r=some row) (h:tx P fk r k bb len t=some a1):tx P au r k bb len t=some a1:=by
 unfold tx at h ⊢;split at h
 ·simp at h
 split at h
 ·split at h
  ·simp at h
  rename_i row cu;rw[cb _ row cu];exact h
 simp at h
theorem Qt {P:Program}{au fk:Nat->Option (List az)}{r k len:Nat}{t:TypeId}{a1:fI}
 (cb : ∀r row,fk r=some row->au r=some row) (h:tH P fk r k len t=some a1):tH P au r k len t=some a1:=by
 unfold tH at h ⊢;split at h
 ·simp at h
 split at h
 ·split at h
  ·simp at h
  rename_i row cu;rw[cb _ row cu];exact h
 simp at h
theorem Rf {P:Program}{E kE:Nat->aj}{au fk:Nat->Option (List az)}{aA:Nat}{b:Builtin}{args:List aj}{kW:List TypeId}{b9:d5}{a1:fI}
 (cb : ∀r row,fk r=some row->au r=some row) (h:pR P kE fk aA b args kW b9=some a1):pR P E au aA b args kW b9=some a1:=by
 unfold pR at h ⊢;split at h
 ·split at h
  ·simp at h
  split at h;rotate_left
  ·simp at h
  split at h
  ·simp at h
  rename_i aJ;rw[dz aJ];split at h
  ·simp at h
  rename_i a3 bT pM;rw[H7 cb pM];simp only;split at h
  ·exact h
  ·split at h
   ·simp at h
   rename_i row cu;rw[cb _ row cu];exact h
  simp at h
 ·exact IU cb h
 ·exact IU cb h
 ·split at h
  ·simp at h
  split at h
  ·simp at h
  split at h
  ·simp at h
  rename_i a3 bT pM;rw[Iw cb pM];simp only;split at h
  ·simp at h
  rename_i row cu;rw[cb _ row cu];exact h
 ·exact PW cb h
 ·exact Qt cb h
 ·exact h
 simp at h
theorem Rg {P:Program}{E kE:Nat->aj}{au fk:Nat->Option (List az)}{aA:Nat}{I:Oper}{b9:d5}{a1:fI}
 (c7 : ∀x∈I.op.operands,dc kE x=dc E x) (cb : ∀r row,fk r=some row->au r=some row) (h:wD P kE fk aA I b9=some a1):wD P E au aA I b9=some a1:=by
 unfold wD at h ⊢;split at h
 ·rename_i b args kW ae
  split at h
  ·exact Aw c7 cb h
  have e:args.toList.map (dc kE)=args.toList.map (dc E):=Y8 fun x U=>c7 x (by simp only[ae,Op.operands,Call.operands];simpa using U);rw[<- e];exact Rf cb h
 ·rename_i op t x y cx ae
  have fW:=c7 x (by simp[ae,Op.operands]);have hh:=c7 y (by simp[ae,Op.operands]);rw[<- fW,<- hh];split at h
  ·exact h
  ·exact h
  ·exact h
  ·exact h
  ·exact h
  ·exact h
  ·simp at h
  exact Aw c7 cb h
 ·rename_i x ae
  have fW:=c7 x (by simp[ae,Op.operands]);rw[<- fW];split at h
  ·exact h
  ·simp at h
  exact Aw c7 cb h
 exact Aw c7 cb h
theorem rV {P:Program}{s bj:S}{aA:Nat}{I:Oper}{b9:d5}{a1:fI}
 (c7 : ∀x∈I.op.operands,dc bj.E x=dc s.E x) (cb : ∀r row,bj.au r=some row->s.au r=some row) (ah:v7 P bj aA I b9=some a1):v7 P s aA I b9=some a1:=by
 unfold v7 at ah ⊢;split at ah
 ·rename_i bO
  split at ah
  ·rename_i f args lF ae
   simp only[ae] at ah c7 ⊢;have bL:=c7 f (by simp[Op.operands,Call.operands]);have bs:args.toList.map (dc bj.E)=args.toList.map (dc s.E):=Y8 fun x U=>c7 x (by simp only[Op.operands,Call.operands];simp only[Array.mem_append];right;simpa using U);rw[bL,bs] at ah;split at ah
   ·exact PU cb ah
   simp at ah
  simp at ah
 exact Rg c7 cb ah
theorem Ai {P:Program}{aA:Nat}{I:Oper}: ∀(b9:d5) (s bj:S) (a1:fI),(∀x∈I.op.operands,dc bj.E x=dc s.E x)->(∀r row,bj.au r=some row->s.au r=some row) ->
 iK P aA I b9 bj=some a1->iK P aA I b9 s=some a1
 | .ld t v et,s,bj,a1,c7,cb,h=>by
  unfold iK at h ⊢;split at h;rotate_left
  ·simp at h
  rename_i gU;rw[dy gU]
  have jS:Operand.tmp t∈I.op.operands:=by
   unfold Kl at gU;rw[List.any_eq_true] at gU;obtain⟨x,U,aU⟩:=gU
   cases x with
   | tmp u =>
    have:u=t:=(by simpa using aU);subst this;simpa using U
   | _=>simp at aU
  have het:bj.E t=s.E t:=c7 _ jS;split at h
  ·rename_i r ah
   have:=Ai et {E:=fun u=>if u=t then v else s.E u,au:=s.au} {E:=fun u=>if u=t then v else bj.E u,au:=bj.au} r (fun x U=>by
    cases x with
    | tmp u =>
     show (if u=t then v else bj.E u)=(if u=t then v else s.E u);split
     ·rfl
     exact c7 (.tmp u) U
    | _=>rfl) cb ah
   rw[this];simp only;rw[<- het];exact h
  simp at h
 | .ul r et,s,bj,a1,c7,cb,h=>by
  unfold iK at h ⊢;split at h
  ·rename_i row cu
   rw[cb r row cu];simp only;split at h
   ·rename_i nQ ah
    have:=Ai et (s.setRow r (km row)) (bj.setRow r (km row)) nQ c7 (fun q cU aU=>by
     simp only[S.setRow] at aU ⊢;split at aU
     ·rename_i e;rw[dy e];exact aU
     rename_i e;rw[dz e];exact cb q cU aU) ah
    rw[this];exact h
   simp at h
  simp at h
 | .zt r n et,s,bj,a1,c7,cb,h=>by
  unfold iK at h ⊢;split at h
  ·rename_i nQ ah;rw[Ai et s bj nQ c7 cb ah];exact O1 cb h
  simp at h
 | .none,s,bj,a1,c7,cb,h=>by unfold iK at h ⊢;exact rV c7 cb h
 | .aF b,s,bj,a1,c7,cb,h=>by unfold iK at h ⊢;exact rV c7 cb h
 | .ee c,s,bj,a1,c7,cb,h=>by unfold iK at h ⊢;exact rV c7 cb h
 | .gx ab c,s,bj,a1,c7,cb,h=>by unfold iK at h ⊢;exact rV c7 cb h
 | .fj,s,bj,a1,c7,cb,h=>by unfold iK at h ⊢;exact rV c7 cb h
 | .zs,s,bj,a1,c7,cb,h=>by unfold iK at h ⊢;exact rV c7 cb h
 | .call c,s,bj,a1,c7,cb,h=>by unfold iK at h ⊢;exact rV c7 cb h
 | .ba m bD,s,bj,a1,c7,cb,h=>by unfold iK at h ⊢;exact rV c7 cb h
def tmpsOf (I:Oper):List Nat:=I.op.operands.toList.filterMap fun | .tmp t=>some t|_=>none
def SE:aj->List Nat
 | .ref r _ _ _=>[r]
 | .bz r _ _ _=>[r]
 | .hf r _ _ _=>[r]
 | _=>[]
def mW (ops:Array Oper)(I:Oper):List Nat :=
 tmpsOf I++(match I.guard with
  | some (j,_)=>((ops[j]?).bind (·.dst)).toList
  | none=>[])
def wI (s:S)(I:Oper):d5->List Nat
 | .call bO=>bO.dm
 | .ld t v et=>wI {E:=fun u=>if u=t then v else s.E u,au:=s.au} I et
 | .ul r et=>r::wI s I et
 | .zt r _ et=>r::wI s I et
 | _=>match I.op with
  | .move _=>[]
  | _=>(tmpsOf I).flatMap fun t=>SE (s.E t)
def S.only (s:S)(lF hY:List Nat):S:={E:=fun t=>if lF.contains t then s.E t else .dead,au:=fun r=>if hY.contains r then s.au r else none}
theorem Dd {P:Program}{N:Nat}{ops:Array Oper}{s:S}{aA:Nat}{I:Oper}{et:d5×Bool}{a1:fI}{hY:List Nat}
 (h:o2 P N ops (s.only (mW ops I) hY) aA I et=some a1):o2 P N ops s aA I et=some a1:=by
 have c7 : ∀x∈I.op.operands,dc (s.only (mW ops I) hY).E x=dc s.E x:=by
  intro x U
  cases x with
  | tmp t =>
   have:t∈mW ops I:=(by unfold mW;rw[List.mem_append];left;unfold tmpsOf;rw[List.mem_filterMap];exact⟨.tmp t,by simpa using U,rfl⟩);simp[dc,S.only,this]
  | _=>rfl
 have cb : ∀r row,(s.only (mW ops I) hY).au r=some row->s.au r=some row:=by
  intro r row ah;simp only[S.only] at ah;split at ah
  ·exact ah
  simp at ah
 have h0 : ∀r,AP P (s.only (mW ops I) hY) aA I et.1=some r->AP P s aA I et.1=some r:=fun r ah=>Ai et.1 s _ r c7 cb ah
 have o : ∀r,rc P (s.only (mW ops I) hY) aA I et.1=some r->rc P s aA I et.1=some r:=by
  intro r ah;unfold rc at ah ⊢;split at ah;rotate_left
  ·simp at ah
  rename_i dn gd;rw[h0 dn gd];simp only;split at ah
  ·rename_i aJ
   rw[dy]
   ·exact ah
   rw[List.all_eq_true] at aJ ⊢;intro p af;have:=aJ p af;simp only[Bool.or_eq_true,decide_eq_true_eq] at this ⊢;rcases this with e|e
   ·exact .inl e
   right
   cases aU:(s.only (mW ops I) hY).au p.1 with
   | none=>rw[aU] at e;simp at e
   | some row=>rw[cb _ row aU];rfl
  simp at ah
 unfold o2 at h ⊢;split at h
 ·simp at h
 rename_i yD;rw[dz yD];split at h
 ·exact o _ h
 rename_i j want cZ;split at h
 ·simp at h
 rename_i d bk;have jS:d∈mW ops I:=by unfold mW;rw[List.mem_append];right;simp[cZ,bk]
 have he:(s.only (mW ops I) hY).E d=s.E d:=by simp[S.only,jS]
 rw[he] at h;split at h
 ·split at h
  ·rename_i aE
   rw[dy aE];split at h
   ·rename_i r ah;rw[o r ah];exact h
   simp at h
  rename_i aE;rw[dz aE];exact h
 ·exact h
 simp at h
structure Rec where
 I:Oper
 et:d5×Bool
 lF:List Nat
 hY:List Nat
 a1:fI
def oZ (P:Program)(N:Nat)(ops:Array Oper):List Oper->List (d5×Bool)->S->Nat->Option (S×List Rec)
 | [],[],s,_=>some (s,[])
 | I::l,et::b9,s,aA =>
  match o2 P N ops (s.only (mW ops I) (aA::wI s I et.1)) aA I et with
  | some a1=>match oZ P N ops l b9 (s.ba I a1) (aA+1) with
   | some (bj,rec)=>some (bj,⟨I,et,mW ops I,aA::wI s I et.1,a1⟩::rec)
   | none=>none
  | none=>none
 | _,_,_,_=>none
def meets (a b:List Nat):Bool:=a.any fun x=>b.contains x
def om (x y:Rec):Bool :=
 meets x.I.dst.toList (y.lF++y.I.dst.toList) || meets x.lF y.I.dst.toList ||
 meets (x.a1.eH.map (·.1)) (y.hY++y.a1.eH.map (·.1)) || meets x.hY (y.a1.eH.map (·.1))
def S.jy (s:S):Nat⊕Nat->aj⊕Option (List az)
 | .inl t=> .inl (s.E t)
 | .inr r=> .inr (s.au r)
theorem S.Km {s bj:S}(h:∀L,s.jy L=bj.jy L):s=bj:=by
 obtain⟨E,au⟩:=s;obtain⟨kE,fk⟩:=bj;have o:E=kE:=funext fun t=>by have:=h (.inl t);simpa [S.jy] using this
 have J:au=fk:=funext fun r=>by have:=h (.inr r);simpa [S.jy] using this
 rw[o,J]
def oa:List (Nat×List az)->Nat->Option (List az)
 | [],_=>none
 | (r,row)::u,q=>match oa u q with
  | some x=>some x
  | none=>if r=q then some row else none
theorem IV : ∀(u:List (Nat×List az)) (s:S) (q:Nat),(s.gD u).au q=match oa u q with|some x=>some x|none=>s.au q
 | [],s,q=>rfl
 | (r,row)::u,s,q=>by
  show ((s.setRow r row).gD u).au q=_;rw[IV u (s.setRow r row) q];simp only[oa]
  cases oa u q with
  | some x=>rfl
  | none =>
   simp only[S.setRow];by_cases h:r=q
   ·subst h;simp
   rw[dz (Ne.symm h),dz h]
theorem xv : ∀(u:List (Nat×List az)) (q:Nat),oa u q≠none->q∈u.map (·.1)
 | [],q,h=>by simp[oa] at h
 | (r,row)::u,q,h=>by
  simp only[oa] at h
  cases aU:oa u q with
  | some x=>simp[xv u q (by rw[aU];simp)]
  | none =>
   rw[aU] at h;simp only at h;by_cases e:r=q
   ·simp[e]
   rw[dz e] at h;simp at h
def lx (x:Rec):Nat⊕Nat->Option (aj⊕Option (List az))
 | .inl t=>if x.I.dst=some t then some (.inl x.a1.val) else none
 | .inr r=>(oa x.a1.eH r).map fun row=> .inr (some row)
theorem x3 (s:S)(x:Rec)(L:Nat⊕Nat):(s.ba x.I x.a1).jy L=(lx x L).getD (s.jy L):=by
 cases L with
 | inl t =>
  simp only[S.jy,lx,S.ba]
  cases bk:x.I.dst with
  | none=>simp[S.put,x2]
  | some d =>
   simp only[S.put,dx];by_cases h:t=d
   ·subst h;simp
   rw[dz h,dz (Ne.symm h),x2];rfl
 | inr r =>
  simp only[S.jy,lx,S.ba,S.r9];rw[IV];cases oa x.a1.eH r<;>rfl
def ga:List Rec->(Nat->Bool)->Nat->S->S
 | [],_,_,s=>s
 | x::l,f,n,s=>ga l f (n+1) (if f n then s.ba x.I x.a1 else s)
theorem C4 (L:Nat⊕Nat): ∀(l:List Rec) (f iT:Nat->Bool) (n:Nat) (s bj:S),s.jy L=bj.jy L ->
 (∀(i:Nat) x,l[i]? = some x->lx x L≠none->f (n+i)=iT (n+i))->(ga l f n s).jy L=(ga l iT n bj).jy L
 | [],_,_,_,_,_,h,_=>h
 | x::l,f,iT,n,s,bj,h,bL=>by
  simp only[ga];refine C4 L l f iT (n+1) _ _ ?_ fun i y aK he=>by have:=bL (i+1) y (by simpa using aK) he;rw[show n+1+i=n+(i+1) by omega];exact this
  cases he:lx x L with
  | none =>
   have e : ∀(b:Bool) (s:S),(if b then s.ba x.I x.a1 else s).jy L=s.jy L:=by
    intro b s;cases b
    ·rfl
    simp[x3,he]
   rw[e,e,h]
  | some c =>
   have:=bL 0 x rfl (by rw[he];simp);simp only[Nat.add_zero] at this;rw[this];cases iT n
   ·exact h
   simp[x3,he]
theorem Ix (L:Nat⊕Nat): ∀(l:List Rec) (f:Nat->Bool) (n:Nat) (s:S),(∀(i:Nat) x,l[i]? = some x->f (n+i)=true->lx x L=none)->(ga l f n s).jy L=s.jy L
 | [],_,_,_,_=>rfl
 | x::l,f,n,s,h=>by
  simp only[ga];rw[Ix L l f (n+1) _ fun i y aK bL=>h (i+1) y (by simpa using aK) (by rw[show n+(i+1)=n+1+i by omega];exact bL)];cases bL:f n
  ·rfl
  have:=h 0 x rfl (by simpa using bL);simp[x3,this]
theorem Iy (L:Nat⊕Nat): ∀(l:List Rec) (f:Nat->Bool) (n j:Nat) (s:S) (x:Rec) (c:aj⊕Option (List az)),l[j]? = some x->f (n+j)=true->lx x L=some c ->
 (∀(i:Nat) y,l[i]? = some y->j<i->f (n+i)=true->lx y L=none)->(ga l f n s).jy L=c
 | [],_,_,_,_,_,_,h,_,_,_=>by simp at h
 | y::l,f,n,0,s,x,c,h,bL,he,aL=>by simp at h;subst h;simp only[ga];rw[Ix L l f (n+1) _ fun i z bY hfz=>aL (i+1) z (by simpa using bY) (by omega) (by rw[show n+(i+1)=n+1+i by omega];exact hfz)];simp only[Nat.add_zero] at bL;simp[bL,x3,he]
 | y::l,f,n,j+1,s,x,c,h,bL,he,aL=>by
  simp only[ga]
  exact Iy L l f (n+1) j _ x c (by simpa using h) (by rw[show n+1+j=n+(j+1) by omega];exact bL) he fun i z bY pb hfz =>
   aL (i+1) z (by simpa using bY) (by omega) (by rw[show n+(i+1)=n+1+i by omega];exact hfz)
theorem xw : ∀(l:List Rec) (f iT:Nat->Bool) (n:Nat) (s:S),(∀i,i<l.length->f (n+i)=iT (n+i))->ga l f n s=ga l iT n s
 | [],_,_,_,_,_=>rfl
 | x::l,f,iT,n,s,h=>by simp only[ga];have h0:=h 0 (by simp);simp only[Nat.add_zero] at h0;rw[h0];exact xw l f iT (n+1) _ fun i ad=>by rw[show n+1+i=n+(i+1) by omega];exact h (i+1) (by simpa using ad)
theorem H8 {P:Program}{N:Nat}{ops:Array Oper}: ∀(l:List Oper) (b9:List (d5×Bool)) (s bj:S) (aA:Nat) (hY:List Rec),oZ P N ops l b9 s aA=some (bj,hY)->s.ja aA ->
 hY.length=l.length/\bj=ga hY (fun _=>true) 0 s/\ ∀(i:Nat) x,hY[i]? = some x->l[i]? = some x.I/\x.lF=mW ops x.I /\
  aA+i∈x.hY/\o2 P N ops ((ga (hY.take i) (fun _=>true) 0 s).only x.lF x.hY) (aA+i) x.I x.et=some x.a1/\(ga (hY.take i) (fun _=>true) 0 s).ja (aA+i)
 | [],[],s,bj,aA,hY,h,bL=>by simp[oZ] at h;obtain⟨rfl,rfl⟩:=h;exact⟨rfl,rfl,fun i x U=>by simp at U⟩
 | I::l,et::b9,s,bj,aA,hY,h,bL=>by
  simp only[oZ] at h;split at h;rotate_left
  ·simp at h
  rename_i a1 ag;split at h;rotate_left
  ·simp at h
  rename_i s2 E3 J;simp only[dx,dC] at h;obtain⟨rfl,rfl⟩:=h
  have yV : ∀(l:List Rec) (n:Nat) (s:S),ga l (fun _=>true) (n+1) s=ga l (fun _=>true) n s:=by
   intro l
   induction l with
   | nil=>intro n s;rfl
   | cons x l ih=>intro n s;simp only[ga];exact ih (n+1) _
  obtain⟨ap,av,bS⟩:=H8 l b9 (s.ba I a1) s2 (aA+1) E3 J (Ah (Dd ag) bL);refine⟨by simp[ap],?_,fun i x U=> ?_⟩
  ·simp only[ga,if_true];rw[yV];exact av
  cases i with
  | zero =>
   simp at U;subst U;exact⟨rfl,rfl,by simp,ag,bL⟩
  | succ i =>
   simp at U;obtain⟨f1,f2,f0,f3,f4⟩:=bS i x U;have e:ga ((⟨I,et,mW ops I,aA::wI s I et.1,a1⟩::E3).take (i+1)) (fun _=>true) 0 s=ga (E3.take i) (fun _=>true) 0 (s.ba I a1):=(by simp only[List.take_succ_cons,ga,if_true];rw[yV]);rw[e,show aA+(i+1)=aA+1+i by omega];exact⟨by simpa using f1,f2,f0,f3,f4⟩
 | [],_::_,_,_,_,_,h,_=>by simp[oZ] at h
 | _::_,[],_,_,_,_,h,_=>by simp[oZ] at h
inductive pc (ops:Array Oper):Nat->Nat->Prop
 | one {i j:Nat} {I:Oper} {e:Edge} (ae:ops[j]? = some I) (he:e∈I.after) (aE:Region.binds .any e=true) (h:e.on=i):pc ops i j
 | step {i j k:Nat} {I:Oper} {e:Edge} (ae:ops[j]? = some I) (he:e∈I.after) (aE:Region.binds .any e=true) (h:e.on=k) (aL:pc ops i k):pc ops i j
def yc:List Oper->List Nat->List Nat
 | [],acc=>acc
 | I::l,acc=>yc l (acc++[I.after.toList.foldl (fun m e=>if Region.binds .any e then m ||| (1 <<< e.on) ||| (acc.getD e.on 0) else m) 0])
theorem IW {ops:Array Oper}{j:Nat}{I:Oper}(ae:ops[j]? = some I){acc:List Nat}(Lk:∀k i,(acc.getD k 0).testBit i=true->pc ops i k): ∀(es:List Edge) (m:Nat),(∀e∈es,e∈I.after) ->
 (∀i,m.testBit i=true->pc ops i j)-> ∀i,(es.foldl (fun m e=>if Region.binds .any e then m ||| (1 <<< e.on) ||| (acc.getD e.on 0) else m) m).testBit i=true->pc ops i j
 | [],m,_,hm,i,h=>hm i h
 | e::es,m,gb,hm,i,h=>by
  simp only[List.foldl_cons] at h;refine IW ae Lk es _ (fun dp ks=>gb dp (by simp[ks])) ?_ i h;intro i ad;split at ad
  ·rename_i aE
   rw[Nat.testBit_or,Nat.testBit_or,Bool.or_eq_true,Bool.or_eq_true] at ad;rcases ad with (ad|ad)|ad
   ·exact hm i ad
   ·rw[Nat.testBit_shiftLeft] at ad
    simp only[YX,decide_eq_true_eq] at ad
    have:i-e.on=0:=by
     have:=ad.2;rcases Nat.eq_zero_or_pos (i-e.on) with h0|h0
     ·exact h0
     rw[Nat.testBit_one_eq_true_iff_self_eq_zero] at this;exact this
    exact .one ae (gb e (by simp)) aE (by omega)
   exact .step ae (gb e (by simp)) aE rfl (Lk _ _ ad)
  exact hm i ad
theorem IX {ops:Array Oper}: ∀(l:List Oper) (acc:List Nat),(∀(i:Nat) I,l[i]? = some I->ops[acc.length+i]? = some I)->(∀k i,(acc.getD k 0).testBit i=true->pc ops i k) ->
 ∀k i,((yc l acc).getD k 0).testBit i=true->pc ops i k
 | [],acc,_,h,k,i,aL=>h k i aL
 | I::l,acc,aw,h,k,i,aL=>by
  simp only[yc] at aL;refine IX l _ (fun i bD cS=>by have:=aw (i+1) bD (by simpa using cS);simp only[dE,dM,Za];rw[show acc.length+(0+1)+i=acc.length+(i+1) by omega];exact this) ?_ k i aL;intro k i aL;rw[dT,List.getElem?_append] at aL;split at aL
  ·exact h k i (by rw[dT];exact aL)
  rename_i c0;by_cases e:k=acc.length
  ·subst e;simp only[Nat.sub_self,List.getElem?_cons_zero,Option.getD_some] at aL;exact IW (aw 0 I rfl) h _ 0 (fun e he=>by simpa using he) (fun i ad=>by simp at ad) i aL
  rw[dP (by simp;omega)] at aL;simp at aL
def xR (m:Nat)(y:Rec):List Rec->Nat->Bool
 | [],_=>true
 | x::l,i=>(!om x y || m.testBit i) && xR m y l (i+1)
def AZ (fN:List Rec):List Rec->List Nat->Nat->Bool
 | [],_,_=>true
 | y::l,cG,j=>xR (cG.headD 0) y (fN.take j) 0 && y.I.after.toList.all (fun e=> !Region.binds .any e || decide (e.on<j)) && AZ fN l cG.tail (j+1)
theorem Iz {m:Nat}{y:Rec}: ∀(l:List Rec) (n:Nat),xR m y l n=true-> ∀(i:Nat) x,l[i]? = some x->om x y=true->m.testBit (n+i)=true
 | [],_,_,i,x,U,_=>by simp at U
 | z::l,n,h,i,x,U,aJ=>by
  simp only[xR,YX,Bool.or_eq_true,Bool.not_eq_true'] at h
  cases i with
  | zero =>
   simp at U;subst U;rcases h.1 with e|e
   ·rw[e] at aJ;simp at aJ
   simpa using e
  | succ i =>
   have:=Iz l (n+1) h.2 i x (by simpa using U) aJ;rw[show n+(i+1)=n+1+i by omega];exact this
theorem Jk {fN:List Rec}: ∀(l:List Rec) (cG:List Nat) (j:Nat),AZ fN l cG j=true-> ∀(i:Nat) y,l[i]? = some y ->
 xR (cG.getD i 0) y (fN.take (j+i)) 0=true/\ ∀e∈y.I.after,Region.binds .any e=true->e.on<j+i
 | [],_,_,_,i,y,aK=>by simp at aK
 | z::l,cG,j,h,i,y,aK=>by
  simp only[AZ,YX] at h
  cases i with
  | zero =>
   simp at aK;subst aK;refine⟨?_,fun e he aE=> ?_⟩
   ·have:cG.getD 0 0=cG.headD 0:=(by cases cG<;>rfl);rw[this];exact h.1.1
   have:=List.all_eq_true.1 h.1.2 e (by simpa using he);simpa [aE] using this
  | succ i =>
   obtain⟨ap,av⟩:=Jk l cG.tail (j+1) h.2 i y (by simpa using aK);refine⟨?_,fun e he aE=> ?_⟩
   ·have:cG.getD (i+1) 0=cG.tail.getD i 0:=(by cases cG<;>rfl);rw[this,show j+(i+1)=j+1+i by omega];exact ap
   have:=av e he aE;omega
theorem vF {a b:List Nat}{x:Nat}(bs:x∈a)(aE:x∈b):meets a b=true:=by unfold meets;rw[List.any_eq_true];exact⟨x,bs,by simpa using aE⟩
theorem Px {x y:Rec}(h:om x y=false){L:Nat⊕Nat}(U:lx x L≠none):lx y L=none:=by
 simp only[om,Bool.or_eq_false_iff] at h
 cases L with
 | inl t =>
  simp only[lx] at U ⊢;by_cases o:x.I.dst=some t
  ·by_cases J:y.I.dst=some t
   ·have:=vF (a:=x.I.dst.toList) (b:=y.lF++y.I.dst.toList) (x:=t) (by simp[o]) (by simp[J]);rw[h.1.1.1] at this;simp at this
   simp[J]
  simp[o] at U
 | inr r =>
  simp only[lx] at U ⊢
  cases J:oa y.a1.eH r with
  | none=>rfl
  | some row =>
   have gW:r∈x.a1.eH.map (·.1):=xv _ _ (by intro e;simp[e] at U);have fJ:r∈y.a1.eH.map (·.1):=xv _ _ (by rw[J];simp);have:=vF gW (b:=y.hY++y.a1.eH.map (·.1)) (by simp only[List.mem_append];exact .inr fJ);rw[h.1.2] at this;simp at this
def Rec.Bd (x:Rec):Nat⊕Nat->Prop
 | .inl t=>t∈x.lF
 | .inr r=>r∈x.hY
theorem Py {x y:Rec}(h:om x y=false){L:Nat⊕Nat}(aK:y.Bd L):lx x L=none:=by
 simp only[om,Bool.or_eq_false_iff] at h
 cases L with
 | inl t =>
  simp only[lx];by_cases o:x.I.dst=some t
  ·have:=vF (a:=x.I.dst.toList) (b:=y.lF++y.I.dst.toList) (x:=t) (by simp[o]) (by simp only[List.mem_append];exact .inl aK);rw[h.1.1.1] at this;simp at this
  simp[o]
 | inr r =>
  simp only[lx]
  cases J:oa x.a1.eH r with
  | none=>rfl
  | some row =>
   have gW:r∈x.a1.eH.map (·.1):=xv _ _ (by rw[J];simp);have:=vF gW (b:=y.hY++y.a1.eH.map (·.1)) (by simp only[List.mem_append];exact .inl aK);rw[h.1.2] at this;simp at this
theorem Pz {x y:Rec}(h:om x y=false){L:Nat⊕Nat}(U:x.Bd L):lx y L=none:=by
 simp only[om,Bool.or_eq_false_iff] at h
 cases L with
 | inl t =>
  simp only[lx];by_cases o:y.I.dst=some t
  ·have:=vF (a:=x.lF) (b:=y.I.dst.toList) (x:=t) U (by simp[o]);rw[h.1.1.2] at this;simp at this
  simp[o]
 | inr r =>
  simp only[lx]
  cases J:oa y.a1.eH r with
  | none=>rfl
  | some row =>
   have gW:r∈y.a1.eH.map (·.1):=xv _ _ (by rw[J];simp);have:=vF (a:=x.hY) U gW;rw[h.2] at this;simp at this
theorem PX {s bj:S}{x:Rec}(h:∀L,x.Bd L->s.jy L=bj.jy L):s.only x.lF x.hY=bj.only x.lF x.hY:=by
 apply S.Km;intro L
 cases L with
 | inl t =>
  simp only[S.jy,S.only];by_cases b3:t∈x.lF
  ·have:=h (.inl t) b3;simp only[S.jy,Sum.inl.injEq] at this;simp[b3,this]
  simp[b3]
 | inr r =>
  simp only[S.jy,S.only];by_cases ah:r∈x.hY
  ·have:=h (.inr r) ah;simp only[S.jy,Sum.inr.injEq] at this;simp[ah,this]
  simp[ah]
theorem IA : ∀(l:List Rec) (i n:Nat) (s:S),ga (l.take i) (fun _=>true) n s=ga l (fun k=>decide (k<n+i)) n s
 | [],i,n,s=>by simp[ga]
 | x::l,0,n,s=>by
  simp only[List.take_zero,ga,Nat.add_zero];rw[dz (by simp)];have:=xw l (fun k=>decide (k<n)) (fun _=>false) (n+1) s (fun i _=>by simp;omega);rw[this]
  have bY : ∀(l:List Rec) (n:Nat),ga l (fun _=>false) n s=s:=by
   intro l
   induction l with
   | nil=>intro n;rfl
   | cons x l ih=>intro n;simp only[ga,Zd,if_false];exact ih _
  rw[bY]
 | x::l,i+1,n,s=>by simp only[List.take_succ_cons,ga,if_true];rw[dy (by simp),IA l i (n+1)];exact xw l _ _ (n+1) _ fun j _=>by congr 1;apply propext;omega
def s6 (l:List Bool):Nat:=l.countP (fun b=> !b)
section
variable {P:Program} {ops:Array Oper} {Q:Exit->Act->World->Prop} {g:G} {hZ:S} {n0:Nat} {fN:List Rec}
theorem Am {eY:Array Bool}(dv:eY.size=ops.size){i:Nat}:i∈Region.ready .any ops eY↔i<ops.size/\eY.getD i false=false/\ ∀I,ops[i]? = some I-> ∀e∈I.after,Region.binds .any e=true->eY.getD e.on false=true:=by
 unfold Region.ready;rw[List.mem_filter,List.mem_range];constructor
 ·rintro⟨o,J⟩
  simp only[YX,Bool.not_eq_true'] at J;have aw:i<eY.size:=(by omega);refine⟨o,?_,fun I ae e he aE=> ?_⟩
  ·have:=J.1;rw[YY,dO aw] at this ⊢;simpa using this
  have an:=J.2;rw[ae] at an;simp only[dN,Option.getD_some] at an;rw[Array.all_eq_true_iff_forall_mem] at an;have:=an e he;simpa [aE] using this
 rintro⟨o,J,an⟩;refine⟨o,?_⟩;have aw:i<eY.size:=by omega
 have ae:ops[i]? = some ops[i]:=dO o;simp only[YX,Bool.not_eq_true'];refine⟨?_,?_⟩
 ·rw[YY,dO aw] at J ⊢;simpa using J
 rw[ae];simp only[dN,Option.getD_some];rw[Array.all_eq_true_iff_forall_mem];intro e he
 cases aE:Region.binds .any e with
 | false=>rfl
 | true=>simp[an _ ae e he aE]
theorem Qu (hlen:fN.length=ops.size) (yE : ∀(i:Nat) x,fN[i]? = some x->ops[i]? = some x.I/\x.lF=mW ops x.I/\n0+i∈x.hY /\
 o2 P g.N ops ((ga (fN.take i) (fun _=>true) 0 hZ).only x.lF x.hY) (n0+i) x.I x.et=some x.a1/\(ga (fN.take i) (fun _=>true) 0 hZ).ja (n0+i))
 (bM : ∀x∈fN,∀p∈x.a1.ea,p)
 (Be : ∀(i j:Nat) x y,i<j->fN[i]? = some x->fN[j]? = some y->om x y=true->pc ops i j)
 (yb : ∀(i:Nat) I,ops[i]? = some I-> ∀e∈I.after,Region.binds .any e=true->e.on<i)
 (sE : ∀bf cP bc,b7 g (ga fN (fun _=>true) 0 hZ) bf cP bc->Q .normal cP bc) :
 ∀(oo:Nat) (eY:Array Bool) (ai:el) (a:Act) (w:World),eY.size=ops.size->s6 eY.toList<=oo ->
  (∀i j,eY.getD j false=true->pc ops i j->eY.getD i false=true) ->
  b7 g (ga fN (fun i=>eY.getD i false) 0 hZ) ai a w->wpAny P .any ops Q oo eY a w:=by
 have KW : ∀(eY:Array Bool) (ai:el) (a:Act) (w:World),eY.size=ops.size->Region.ready .any ops eY=[] ->
  b7 g (ga fN (fun i=>eY.getD i false) 0 hZ) ai a w->Q .normal a w:=by
  intro eY ai a w dv ah h
  have mr : ∀i,i<ops.size->eY.getD i false=true:=by
   intro i
   induction i using Nat.strongRecOn with
   | _ i ih =>
    intro ad
    cases aw:eY.getD i false with
    | true=>rfl
    | false =>
     exfalso;have:i∈Region.ready .any ops eY:=(Am dv).2 ⟨ad,aw,fun I ae e he aE=>by have c0:=yb i I ae e he aE;exact ih e.on c0 (by omega)⟩;rw[ah] at this;simp at this
  have e:=xw fN (fun i=>eY.getD i false) (fun _=>true) 0 hZ (fun i ad=>by simpa using mr i (by omega));rw[e] at h;exact sE ai a w h
 have Eb : ∀(eY:Array Bool) (ai:el) (a:Act) (w:World),eY.size=ops.size->(∀i j,eY.getD j false=true->pc ops i j->eY.getD i false=true) ->
  b7 g (ga fN (fun i=>eY.getD i false) 0 hZ) ai a w-> ∀i∈Region.ready .any ops eY,∀K:Act->World->Prop,
  (∀bf cP bc,b7 g (ga fN (fun k=>(eY.setIfInBounds i true).getD k false) 0 hZ) bf cP bc->K cP bc)->wpOp P ops Q i K a w:=by
  intro eY ai a w dv ty h i ad K gG;obtain⟨pd,oy,wJ⟩:=(Am dv).1 ad;have t6:fN[i]? = some (fN[i]'(by omega)):=dw _;generalize fN[i]'(by omega)=x at t6;obtain⟨ak,bW,r0,bp,bA⟩:=yE i x t6
  have Et : ∀j,pc ops j i->eY.getD j false=true:=by
   intro j ao
   cases ao with
   | one ae he aE ov =>
    rw[ak] at ae;simp at ae;subst ae;rw[<- ov];exact wJ _ ak _ he aE
   | step ae he aE ov aL =>
    rw[ak] at ae;simp at ae;subst ae;have:=wJ _ ak _ he aE;rw[ov] at this;exact ty _ _ this aL
  have c0 : ∀j y,fN[j]? = some y->j<i->eY.getD j false=false->om y x=false:=by
   intro j y aK pb bL
   cases aJ:om y x with
   | false=>rfl
   | true=>have:=Et j (Be j i y x pb aK t6 aJ);rw[bL] at this;simp at this
  have Bz : ∀j y,fN[j]? = some y->i<j->eY.getD j false=true->om x y=false:=by
   intro j y aK oz bL
   cases aJ:om x y with
   | false=>rfl
   | true=>have:=ty i j bL (Be i j x y oz t6 aK aJ);rw[oy] at this;simp at this
  have Ll : ∀L,x.Bd L->(ga (fN.take i) (fun _=>true) 0 hZ).jy L=(ga fN (fun i=>eY.getD i false) 0 hZ).jy L:=by
   intro L MC;rw[IA];refine C4 L fN _ _ 0 hZ hZ rfl fun j y aK he=> ?_;simp only[dG];rcases Nat.lt_trichotomy j i with pb|pb|pb
   ·cases bL:eY.getD j false with
    | true=>simpa using pb
    | false=>exact absurd (Py (c0 j y aK pb bL) MC) he
   ·subst pb;simpa using oy.symm
   cases bL:eY.getD j false with
   | false=>simp;omega
   | true=>exact absurd (Pz (Bz j y aK pb bL) MC) he
  have ag:o2 P g.N ops (ga fN (fun i=>eY.getD i false) 0 hZ) (n0+i) x.I x.et=some x.a1:=(by rw[PX Ll,bW] at bp;exact Dd bp);have dU:(ga fN (fun i=>eY.getD i false) 0 hZ).au (n0+i)=none:=(by have ap:=Ll (.inr (n0+i)) r0;simp only[S.jy,Sum.inr.injEq] at ap;rw[<- ap];exact bA _ (dF _));refine H6 h dU ak ag (bM x (dD t6)) fun bf cP bc bR=>gG bf cP bc ?_
  have yF : ∀k,(eY.setIfInBounds i true).getD k false=if k=i then true else eY.getD k false:=by
   intro k;simp only[YY,Array.getElem?_setIfInBounds];by_cases e:i=k
   ·subst e;simp[dv,pd]
   rw[dz e,dz (Ne.symm e)]
  have Bm:(ga fN (fun i=>eY.getD i false) 0 hZ).ba x.I x.a1=ga fN (fun k=>(eY.setIfInBounds i true).getD k false) 0 hZ:=by
   apply S.Km;intro L;rw[x3]
   cases he:lx x L with
   | none =>
    refine C4 L fN _ _ 0 hZ hZ rfl fun j y aK yX=> ?_;simp only[dG,yF];by_cases e:j=i
    ·subst e;rw[t6] at aK;simp at aK;subst aK;exact absurd he yX
    rw[dz e]
   | some c =>
    symm
    refine Iy L fN _ 0 i hZ x c t6 (by simp[yF]) he fun j y aK oz bL=> ?_;simp only[dG,yF] at bL;rw[dz (by omega)] at bL;exact Px (Bz j y aK oz bL) (by rw[he];simp)
  rw[Bm] at bR;exact bR
 intro oo
 induction oo with
 | zero =>
  intro eY ai a w dv yy ty h
  have ah:Region.ready .any ops eY=[]:=by
   cases ah:Region.ready .any ops eY with
   | nil=>rfl
   | cons i l =>
    exfalso;have ad:i∈Region.ready .any ops eY:=(by rw[ah];simp);obtain⟨o,J,-⟩:=(Am dv).1 ad;have h0:s6 eY.toList=0:=(by omega);unfold s6 at h0;rw[List.countP_eq_zero] at h0;have tQ:i<eY.size:=(by omega);have:=h0 (eY[i]) (by simp);rw[YY,dO tQ] at J;simp at J this;rw[J] at this;simp at this
  exact⟨ah,KW eY ai a w dv ah h⟩
 | succ oo ih =>
  intro eY ai a w dv yy ty h;refine⟨fun ah=>KW eY ai a w dv ah h,fun i ad=> ?_⟩;refine Eb eY ai a w dv ty h i ad _ fun bf cP bc bR=> ?_;obtain⟨o,J,an⟩:=(Am dv).1 ad;have tQ:i<eY.size:=by omega
  have yF : ∀k,(eY.setIfInBounds i true).getD k false=if k=i then true else eY.getD k false:=by
   intro k;simp only[YY,Array.getElem?_setIfInBounds];by_cases e:i=k
   ·subst e;simp[tQ]
   rw[dz e,dz (Ne.symm e)]
  refine ih _ bf cP bc (by simpa using dv) ?_ ?_ bR
  ·have bL:eY[i]=false:=by
    rw[YY,dO tQ] at J;simpa using J
   have aJ:s6 (eY.setIfInBounds i true).toList+1<=s6 eY.toList:=by
    unfold s6;rw[Array.toList_setIfInBounds]
    have key : ∀(l:List Bool) (i:Nat),l[i]? = some false->(l.set i true).countP (fun b=> !b)+1=l.countP (fun b=> !b):=by
     intro l
     induction l with
     | nil=>intro i ad;simp at ad
     | cons b l ih =>
      intro i ad
      cases i with
      | zero=>simp at ad;subst ad;simp
      | succ i =>
       simp at ad;simp only[List.set_cons_succ,List.countP_cons];have:=ih i ad;omega
    rw[key eY.toList i (by rw[Array.getElem?_toList,dO tQ,bL])];exact dF _
   omega
  intro k j ao y5;rw[yF] at ao ⊢;by_cases e:k=i
  ·rw[dy e]
  rw[dz e];by_cases av:j=i
  ·subst av
   cases y5 with
   | one ae he aE ov=>rw[<- ov];exact an _ ae _ he aE
   | step ae he aE ov aL =>
    have:=an _ ae _ he aE;rw[ov] at this;exact ty _ _ this aL
  rw[dz av] at ao;exact ty k j ao y5
end
def xH (P:Program)(N:Nat)(ops:Array Oper)(draw:Bool)(b9:List (d5×Bool))(s:S)(aA:Nat):Option (S×List Prop) :=
 if draw then
  match oZ P N ops ops.toList b9 s aA with
  | some (bj,fN)=>if AZ fN fN (yc ops.toList []) 0 then some (bj,fN.flatMap (·.a1.ea)) else none
  | none=>none
 else oY P N ops ops.toList b9 s aA
theorem OG {P:Program}(oq:P.follows .mixedOrders=true){g:G}{ops:Array Oper}{draw:Bool}{b9:List (d5×Bool)}{s bj:S}{aA:Nat}{ab:List Prop}
 (h:xH P g.N ops draw b9 s aA=some (bj,ab)) (aW : ∀p∈ab,p) (bL:s.ja aA) {ai:el} {a:Act} {w:World} (ah:b7 g s ai a w) (id:Nat) {Q:Exit->Act->World->Prop}
 (sE : ∀bf cP bc,b7 g bj bf cP bc->Q .normal cP bc):(Code.region id ops draw).wp P Q a w:=by
 unfold xH at h
 cases draw with
 | false =>
  simp only[Zd,if_false] at h;refine wp_region ?_;have:=HU (Q:=Q) (i:=0) ops.toList b9 s bj aA ab (fun j I ae=>by simpa using ae) h aW bL sE ai a w ah;have e:(List.range ops.toList.length).map (0 + ·)=List.range ops.size:=(by simp);rw[e] at this;exact this
 | true =>
  simp only[if_true] at h;split at h;rotate_left
  ·simp at h
  rename_i s2 fN yE;split at h;rotate_left
  ·simp at h
  rename_i Be;simp only[dx,dC] at h;obtain⟨rfl,rfl⟩:=h;obtain⟨ap,av,bS⟩:=H8 ops.toList b9 s s2 aA fN yE bL;have Et:=IX (ops:=ops) ops.toList [] (fun i I ae=>by simpa using ae) (fun k i aL=>by simp at aL);have mv:=Jk fN (yc ops.toList []) 0 Be;refine wp_region_any oq ?_
  refine Qu (hZ:=s) (n0:=aA) (fN:=fN) (by simpa using ap) (fun i x U=>by
   obtain⟨f1,f2,f0,f3,f4⟩:=bS i x U;exact⟨by simpa using f1,f2,f0,f3,f4⟩) (fun x U p af=>aW p (by rw[List.mem_flatMap];exact⟨x,U,af⟩)) (fun i j x y oz U aK aJ=> ?_) (fun i I ae e he aE=> ?_) (fun bf cP bc bR=>sE bf cP bc (by rw[av];exact bR))
   ops.size _ ai a _ (by simp) ?_ ?_ ?_
  ·obtain⟨f1,-⟩:=mv j y aK;have cL:(fN.take (0+j))[i]? = some x:=(by rw[dR,dy (by omega)];exact U);have:=Iz _ 0 f1 i x cL aJ;rw[dG] at this;exact Et j i this
  ·have ad:i<fN.length:=by
    rw[ap];have:=(Y3.1 ae).1;simpa using this
   have U:=dw ad;obtain⟨f1,-⟩:=bS i _ U;have wG:ops[i]? = some (fN[i]).I:=(by simpa using f1);rw[ae] at wG;simp at wG;obtain⟨-,f2⟩:=mv i _ U;have:=f2 e (by rw[<- wG];exact he) aE;omega
  ·unfold s6;have:(Array.replicate ops.size false).toList=List.replicate ops.size false:=(by simp);rw[this,List.countP_replicate];simp
  ·intro i j ao;simp[YY,Array.getElem?_replicate] at ao;split at ao<;>simp at ao
  have e:ga fN (fun i=>(Array.replicate ops.size false).getD i false) 0 s=s:=by
   rw[xw fN _ (fun _=>false) 0 s (fun i _=>by simp[YY,Array.getElem?_replicate];split<;>simp)]
   have bY : ∀(l:List Rec) (n:Nat),ga l (fun _=>false) n s=s:=by
    intro l
    induction l with
    | nil=>intro n;rfl
    | cons x l ih=>intro n;simp only[ga,Zd,if_false];exact ih _
   exact bY _ _
  rw[e];exact ah.drew
def wK:List (Nat×aj)->Nat->aj
 | [],_=> .dead
 | (u,v)::l,t=>if t=u then v else wK l t
def ev (env:List (Nat×aj))(rows:List (List az)):S:={E:=wK env,au:=fun r=>rows[r]?}
theorem tb (env:List (Nat×aj))(rows:List (List az)):(ev env rows).ja rows.length:=by intro r ah;simp[ev,ah]
def vS (row:List az):Prop:= ∀I∈row,hy I.es
def ly (l:List Nat):fA:=fun j i=>match l[j]? with
 | some r=>some (r,i)
 | none=>none
def wL (ax:fA)(x ca:aj):Prop :=
 (ca=x/\x.hk=true)\/(∃r k bb len j i,x = .bz r k bb len/\ax j i=some (r,k)/\ca = .bz j i bb len)\/ca = .dead \/
   ∃r c sz h j cX,x = .hf r c sz h/\(∀k,ax j (k+cX)=some (r,k+c))/\ca = .hf j cX sz h
def ss (ax:fA)(row cU:List az):Prop :=
 cU.length=row.length/\ ∀(k:Nat) I bD,row[k]? = some I->cU[k]? = some bD->bD.sz=I.sz/\bD.bV=I.bV/\bD.es.length=I.es.length/\(∀e∈bD.es,e.length=I.sz) /\
  ∀(j:Nat) x ca,I.es.flatten[j]? = some x->bD.es.flatten[j]? = some ca->wL ax x ca
def o3 (au:Nat->Option (List az))(bP:Nat->Option Nat)(ax:fA)(bw:e1->Bool):gM->List az->Option (List az×List Prop)
 | .pure,row=>some (row,[vS row])
 | .du cU,row=>some (cU,[row=cU,vS cU])
 | .ck cU,row=>some (cU,[cU=row.map (iZ bP)])
 | .rx cU,row=>some (cU,[ss ax row cU])
 | .drop,row=>some (row.map pH,[])
 | .box l,[I]=>match I.es with
  | [c]=>match j5 (j4 au bP ax bw) l c with
   | some (cX,ab)=>some ([{I with es:=[cX]}],ab)
   | none=>none
  | _=>none
 | _,_=>none
def re (au:Nat->Option (List az))(bP:Nat->Option Nat)(ax:fA):List Nat->List gM->Option (List (List az)×List Prop)
 | [],[]=>some ([],[])
 | r::l,c::cf=>match au r with
  | some row=>match o3 au bP ax kR c row,re au bP ax l cf with
   | some (cU,bT),some (T,a2)=>some (cU::T,bT++a2)
   | _,_=>none
  | none=>none
 | _,_=>none
def yd (au:Nat->Option (List az))(bP:Nat->Option Nat)(ax:fA)(E:Nat->aj):List (Nat×jH)->Option (List (Nat×aj)×List Prop)
 | []=>some ([],[])
 | (t,c)::l=>match mi au bP ax kR c (E t),yd au bP ax E l with
  | some (v,bT),some (env,a2)=>some ((t,v)::env,bT++a2)
  | _,_=>none
def ye (ax:List Nat)(m:Nat):Bool:=(List.range m).all fun j=>ax[j]? == some j
def A0 (m:Nat)(s:S)(ax:List Nat)(cf:List gM)(mF:List (Nat×jH)):Option (S×Nat×List Prop) :=
 if decide ax.Nodup && ye ax m then
  match re s.au (c4 ax) (ly ax) ax cf,yd s.au (c4 ax) (ly ax) s.E mF with
  | some (T,bT),some (env,a2)=>some (ev env T,T.length,bT++a2)
  | _,_=>none
 else none
section
variable {P:Program} {g:G} {s:S} {ai:el} {a:Act} {w:World}
theorem Du (c3:gK g s ai w){ax:fA}{bP:Nat->Option Nat}{bw:e1->Bool}(H:lg s ax bP bw){c:gM}{r:Nat}{iG:Nat->Nat}{row cU:List az}{ab:List Prop}(cu:∀k I,cB (some row) k=some I->s.ab r (iG k)=some I)
 (h:o3 s.au bP ax bw c row=some (cU,ab)) (aW : ∀p∈ab,p) :
 cU.length=row.length/\ ∀(k:Nat) bD,cB (some cU) k=some bD-> ∃I,cB (some row) k=some I/\mV s ax bw kx I bD:=by
 have hlen : ∀k I,cB (some row) k=some I-> ∀e∈I.es,e.length=I.sz:=by
  intro k I ae;have cS:s.ab r (iG k)=some I:=cu k I ae;have eD:=c3.obj r (iG k) I cS
  cases af:ai r (iG k) with
  | none=>rw[af] at eD;simp only[hl] at eD;rw[eD];simp
  | some q=>rw[af] at eD;obtain⟨_,_,_,_,e,_⟩:=eD;exact e
 have q9:vS row-> ∀(k:Nat) bD,cB (some row) k=some bD-> ∃I,cB (some row) k=some I/\mV s ax bw kx I bD:=by
  intro af
  have o6 : ∀k I,cB (some row) k=some I->I∈row:=by
   intro k I ae;unfold cB at ae;simp only at ae;split at ae
   ·rename_i bD cS
    split at ae
    ·simp at ae
    simp at ae;subst ae;exact dD cS
   simp at ae
  refine fun k I ae=>⟨I,ae,rfl,.inl rfl,rfl,hlen k I ae,fun j x ca U cL=> ?_⟩;rw[U] at cL;simp at cL;subst cL;obtain⟨e,he,pa⟩:=qQ U;exact .pure (af I (o6 k I ae) e he x pa) trivial
 cases c with
 | pure =>
  simp only[o3,dx,dC] at h;obtain⟨rfl,rfl⟩:=h;exact⟨rfl,q9 (aW _ (by simp))⟩
 | du a8 =>
  simp only[o3,dx,dC] at h;obtain⟨rfl,rfl⟩:=h;have e:row=a8:=aW _ (by simp);subst e;exact⟨rfl,q9 (aW _ (by simp))⟩
 | ck a8 =>
  simp only[o3,dx,dC] at h;obtain⟨rfl,rfl⟩:=h;have e:a8=row.map (iZ bP):=aW _ (by simp);subst e;exact⟨by simp,KU c3 H cu (fun _ _ _ _ _ _ _=>trivial)⟩
 | rx a8 =>
  simp only[o3,dx,dC] at h;obtain⟨rfl,rfl⟩:=h;obtain⟨o,J⟩:ss ax row a8:=aW _ (by simp);refine⟨o,fun k bD cS=> ?_⟩;rw[iV] at cS
  cases ls:a8[k]? with
  | none=>rw[ls] at cS;simp at cS
  | some iQ =>
   rw[ls,dB] at cS;split at cS
   ·simp at cS
   rename_i cZ;simp only[dx] at cS;subst cS;have c0:k<row.length:=(by have:=eV ls;omega);have aL:=dw c0;obtain⟨aS,a9,b8,cD,eE⟩:=J k _ _ aL ls;have ae:cB (some row) k=some row[k]:=(by rw[iV,aL,dB,dz (by rw[<- a9];exact cZ)]);refine⟨_,ae,aS,.inl a9,b8,cD,fun j x ca U cL=> ?_⟩;have eD:=c3.obj r (iG k) _ (cu k _ ae)
   cases af:ai r (iG k) with
   | none=>rw[af] at eD;simp only[hl] at eD;rw[eD] at U;simp at U
   | some rJ =>
    obtain⟨b,m⟩:=rJ;rw[af] at eD;obtain⟨c,c9,f1,f2,f3,f4⟩:=eD;obtain⟨u,lf,oJ,fK⟩:=f4 j x U;rcases eE j x ca U cL with ⟨rfl,aZ⟩|⟨bW,hU,bb,len,B2,l6,rfl,hm,rfl⟩|rfl|⟨bW,cq,LG,J,B2,l8,rfl,hm,rfl⟩
    ·exact .pure (fK.wc aZ) trivial
    ·exact .bz bb len hm (by cases fK<;>assumption)
    ·exact .dead _
    exact .hf J hm
 | drop =>
  simp only[o3,dx,dC] at h;obtain⟨rfl,rfl⟩:=h;refine⟨by simp,fun k I ae=> ?_⟩;rw[iV,dI] at ae;cases aL:row[k]? <;> simp[aL,pH] at ae
 | box l =>
  match row,h with
  | [I],h =>
   simp only[o3] at h;split at h;rotate_left
   ·simp at h
   rename_i c gb;split at h;rotate_left
   ·simp at h
   rename_i cX l0 aJ;simp only[dx,dC] at h;obtain⟨rfl,rfl⟩:=h;refine⟨rfl,fun k p af=> ?_⟩;rw[kL] at af;split at af;rotate_left
   ·simp at af
   rename_i tY;obtain⟨rfl,lv⟩:=tY;simp only[dx] at af;subst af;have h0:cB (some [I]) 0=some I:=(by rw[kL];simpa using lv);refine⟨I,h0,?_⟩;have cS:s.ab r (iG 0)=some I:=cu 0 I h0;have eD:=c3.obj r (iG 0) I cS
   cases iY:ai r (iG 0) with
   | none=>rw[iY] at eD;simp only[hl] at eD;rw[gb] at eD;simp at eD
   | some q =>
    obtain⟨b,m⟩:=q;rw[iY] at eD;obtain⟨bO,c9,g1,g2,g3,g4⟩:=eD;have Es:c.length=I.sz:=g3 c (by rw[gb];simp);have h5:I.es.flatten=c:=(by rw[gb];simp);obtain⟨ap,av⟩:=xG (vs:=(List.range c.length).map fun j=>(bO[j]?).getD undef) c3 H (sq _) aJ aW (fun _ _=>trivial) (by simp) (by intro j y u aK hu;have ao:=eV aK;rw[dI,List.getElem?_range ao] at hu;simp only[dN,dx] at hu;obtain⟨oK,lf,-,fK⟩:=g4 j y (by rw[h5];exact aK);rw[lf] at hu;simp at hu;subst hu;exact fK);refine⟨rfl,.inl rfl,by simp[gb],by simp;omega,fun j x ca U cL=> ?_⟩;rw[h5] at U;simp only[dS,List.flatten_nil,List.append_nil] at cL;exact av j x ca U cL
  | [],h=>simp[o3] at h
  | _::_::_,h=>simp[o3] at h
theorem Dv (c3:gK g s ai w){ax:fA}{bP:Nat->Option Nat}(H:lg s ax bP kR): ∀(l:List Nat) (cf:List gM) (T:List (List az)) (ab:List Prop),
 re s.au bP ax l cf=some (T,ab)->(∀p∈ab,p)->T.length=l.length/\ ∀(j:Nat) cU r,T[j]? = some cU->l[j]? = some r-> ∃row,s.au r=some row/\cU.length=row.length /\
  ∀(k:Nat) bD,cB (some cU) k=some bD-> ∃I,cB (some row) k=some I/\mV s ax kR kx I bD
 | [],[],T,ab,h,_=>by simp[re] at h;obtain⟨rfl,rfl⟩:=h;exact⟨rfl,fun j cU r ao=>by simp at ao⟩
 | r::l,c::cf,T,ab,h,aW=>by
  simp only[re] at h;split at h
  ·rename_i row cu
   split at h
   ·rename_i aq bT lE a2 o J
    simp only[dx,dC] at h;obtain⟨rfl,rfl⟩:=h;obtain⟨ap,av⟩:=Dv c3 H l cf lE a2 J (fun p af=>aW p (by simp[af]));have f2:=Du (iG:=id) c3 H (fun k I ae=>by unfold S.ab;rw[cu];exact ae) o (fun p af=>aW p (by simp[af]));refine⟨by simp[ap],fun j cU q ao aU=> ?_⟩
    cases j with
    | zero=>simp at ao aU;subst ao;subst aU;exact⟨row,cu,f2.1,f2.2⟩
    | succ j=>simp at ao aU;exact av j cU q ao aU
   simp at h
  simp at h
 | [],_::_,_,_,h,_=>by simp[re] at h
 | _::_,[],_,_,h,_=>by simp[re] at h
theorem Jl (h:b7 g s ai a w){ax:fA}{bP:Nat->Option Nat}(H:lg s ax bP kR): ∀(l:List (Nat×jH)) (env:List (Nat×aj)) (ab:List Prop),
 yd s.au bP ax s.E l=some (env,ab)->(∀p∈ab,p)-> ∀t,gl s ax kR kx (s.E t) (wK env t)
 | [],env,ab,ah,_=>by simp[yd] at ah;obtain⟨rfl,rfl⟩:=ah;intro t;exact .dead _
 | (u,c)::l,env,ab,ah,aW=>by
  simp only[yd] at ah;split at ah
  ·rename_i v bT Eu a2 o J
   simp only[dx,dC] at ah;obtain⟨rfl,rfl⟩:=ah;have ih:=Jl h H l Eu a2 J (fun p af=>aW p (by simp[af]));intro t;unfold wK;split
   ·rename_i e;subst e;exact xL h.togK H (sq _) o (fun p af=>aW p (by simp[af])) trivial (h.env t)
   exact ih t
  simp at ah
theorem te {l:List Nat}{j i r k:Nat}:ly l j i=some (r,k)↔l[j]? = some r/\i=k:=by unfold ly;cases l[j]? <;> simp
theorem A1 {ax:List Nat}(aZ:ax.Nodup):lg s (ly ax) (c4 ax) kR :=
 ⟨fun _ _ h _=>te.2 ⟨Iq h,rfl⟩,fun _ ah _ _ _ _ _ _ hm=>by rw[Ir aZ (te.1 hm).1] at ah;simp at ah⟩
theorem Kn {ax:List Nat} (hnd:ax.Nodup) {T:List (List az)} (ap:T.length=ax.length) (av : ∀(j:Nat) cU r,T[j]? = some cU->ax[j]? = some r-> ∃row,s.au r=some row/\cU.length=row.length /\
 ∀(k:Nat) bD,cB (some cU) k=some bD-> ∃I,cB (some row) k=some I/\mV s (ly ax) kR kx I bD):ox s (ly ax) kR kx (fun j=>T[j]?):=by
 refine⟨?_,?_,?_⟩
 ·intro j i gF d7 p e dp;obtain⟨r,k⟩:=p;obtain⟨gX,rfl⟩:=te.1 e;obtain⟨i4,rfl⟩:=te.1 dp;exact⟨(List.getElem?_inj (eV gX) hnd).1 (gX.trans i4.symm),rfl⟩
 ·intro j i bD cS
  have cS:cB (T[j]?) i=some bD:=cS
  cases ao:T[j]? with
  | none=>rw[ao] at cS;simp[cB] at cS
  | some cU =>
   rw[ao] at cS;have c0:j<ax.length:=(by have:=eV ao;omega);have aU:=dw c0;obtain⟨row,f1,-,f2⟩:=av j cU _ ao aU;obtain⟨I,g1,g2⟩:=f2 i bD cS;exact⟨_,i,I,te.2 ⟨aU,rfl⟩,by unfold S.ab;rw[f1];exact g1,g2⟩
 intro j i r k e hu;obtain⟨gX,rfl⟩:=te.1 e;have c0:j<T.length:=by have:=eV gX;omega
 obtain⟨row,f1,f2,-⟩:=av j _ r (dw c0) gX;show i<((T[j]?).getD []).length;rw[dw c0];show i<T[j].length;rw[f2];simpa [S.aH,f1] using hu
theorem Jm {ax:List Nat}{g:G}(c3:gK g s ai w)(pU:ye ax g.m=true): ∀j k,g.np j k->ly ax j k=some (j,k):=by intro j k ao;unfold ye at pU;have:=List.all_eq_true.1 pU j (List.mem_range.2 (c3.low j k ao));exact te.2 ⟨by simpa using this,rfl⟩
theorem Rh (h:b7 g s ai a w){ax:List Nat}{cf:List gM}{mF:List (Nat×jH)}{bj:S}{n:Nat}{ab:List Prop}(ah:A0 g.m s ax cf mF=some (bj,n,ab))(aW:∀p∈ab,p):
 bj.ja n/\b7 g bj (ia ai (ly ax)) a w:=by
 unfold A0 at ah;split at ah
 ·rename_i aJ
  simp only[YX,decide_eq_true_eq] at aJ;obtain⟨hnd,pU⟩:=aJ;split at ah
  ·rename_i T bT env a2 o J;simp only[dx,dC] at ah;obtain⟨rfl,rfl,rfl⟩:=ah;refine⟨tb _ _,?_⟩;obtain⟨ap,av⟩:=Dv h.togK (A1 hnd) ax cf T bT o (fun p af=>aW p (by simp[af]));refine h.JR (ax:=ly ax) (q:=kx) (Kn hnd ap av) (Jl h (A1 hnd) mF env a2 J (fun p af=>aW p (by simp[af]))) (Jm h.togK pU)
  simp at ah
 simp at ah
def i1 (l:List kV):fA:=fun j i=>match l[j]? with
 | some ex=>if i<ex.bk.length then ex.bk[i]? else (match ex.jj with
  | some (r,n)=>some (r,i-ex.bk.length+n)
  | none=>none)
 | none=>none
def sj (n:Nat):List kV->Nat->Option Nat
 | [],_=>none
 | ex::l,r=>if ex={bk:=[],jj:=some (r,0)} then some n else sj (n+1) l r
def sb (r k:Nat)(ex:kV):Bool:=ex.bk.contains (r,k) || (match ex.jj with|some (q,n)=>q == r && decide (n<=k)|none=>false)
def DT (ex:kV):Bool:=decide ex.bk.Nodup && ex.bk.all fun p=>match ex.jj with|some (q,n)=> !(q == p.1 && decide (n<=p.2))|none=>true
def Ax (a b:kV):Bool:=(a.bk.all fun p=> !sb p.1 p.2 b) && (b.bk.all fun p=> !sb p.1 p.2 a) && (match a.jj,b.jj with|some (q,_),some (gj,_)=> !(q == gj)|_,_=>true)
def x4:List kV->Bool
 | []=>true
 | a::l=>DT a && l.all (Ax a) && x4 l
def Ko (l:List kV)(m:Nat):Bool:=(List.range m).all fun j=>l[j]? == some {bk:=[],jj:=some (j,0)}
def tz (au:Nat->Option (List az))(bP:Nat->Option Nat)(ax:fA):List (Nat×Nat)->List gM->Option (List az×List Prop)
 | [],[]=>some ([],[])
 | (r,k)::l,c::cf=>match cB (au r) k with
  | some I=>match o3 au bP ax js c [I],tz au bP ax l cf with
   | some ([bD],bT),some (T,a2)=>some (bD::T,bT++a2)
   | _,_=>none
  | none=>none
 | _,_=>none
def wg (au:Nat->Option (List az))(bP:Nat->Option Nat)(ax:fA):Option (Nat×Nat)->Option gM->Option (List az×List Prop)
 | none,none=>some ([],[])
 | some (r,n),some c=>match au r with
  | some row=>o3 au bP ax js c (row.drop n)
  | none=>none
 | _,_=>none
def tA (au:Nat->Option (List az))(bP:Nat->Option Nat)(ax:fA):List kV->List (List gM×Option gM)->Option (List (List az)×List Prop)
 | [],[]=>some ([],[])
 | ex::l,(F4,MD)::cf=>match tz au bP ax ex.bk F4,wg au bP ax ex.jj MD,tA au bP ax l cf with
  | some (a,bT),some (b,a2),some (T,hJ)=>some ((a++b)::T,bT++a2++hJ)
  | _,_,_=>none
 | _,_=>none
def x5 (au:Nat->Option (List az))(bP:Nat->Option Nat)(ax:fA)(E:Nat->aj):List (Nat×jH)->Option (List (Nat×aj)×List Prop)
 | []=>some ([],[])
 | (t,c)::l=>match mi au bP ax js c (E t),x5 au bP ax E l with
  | some (v,bT),some (env,a2)=>some ((t,v)::env,bT++a2)
  | _,_=>none
def AQ (m:Nat)(s:S)(l:List kV)(cf:List (List gM×Option gM))(mF:List (Nat×jH)):Option (S×Nat×List Prop) :=
 if x4 l && Ko l m then
  match tA s.au (sj 0 l) (i1 l) l cf,x5 s.au (sj 0 l) (i1 l) s.E mF with
  | some (T,bT),some (env,a2)=>some (ev env T,T.length,bT++a2)
  | _,_=>none
 else none
theorem DU {l:List kV}{j i r k:Nat}(h:i1 l j i=some (r,k)): ∃ex,l[j]? = some ex/\sb r k ex=true/\(if i<ex.bk.length then ex.bk[i]? = some (r,k) else ∃n,ex.jj=some (r,n)/\k=i-ex.bk.length+n):=by
 unfold i1 at h
 cases ao:l[j]? with
 | none=>rw[ao] at h;simp at h
 | some ex =>
  rw[ao] at h;simp only at h;refine⟨ex,rfl,?_⟩;split at h
  ·rename_i c0;rw[dy c0];exact⟨by unfold sb;simp[dD h],h⟩
  rename_i c0;rw[dz c0];split at h
  ·rename_i dn n b3;simp only[dx,dC] at h;obtain⟨rfl,rfl⟩:=h;exact⟨by unfold sb;simp[b3],n,b3,rfl⟩
  simp at h
theorem IY : ∀ {l:List kV},x4 l=true->(∀(j:Nat) a,l[j]? = some a->DT a=true)/\ ∀(i j:Nat) a b,i<j->l[i]? = some a->l[j]? = some b->Ax a b=true
 | [],_=>⟨fun j a h=>by simp at h,fun i j a b _ h=>by simp at h⟩
 | c::l,h=>by
  simp only[x4,YX] at h;obtain⟨⟨o,J⟩,an⟩:=h;obtain⟨ap,av⟩:=IY an;refine⟨fun j a ao=> ?_,fun i j a b oz bs aE=> ?_⟩
  ·cases j with
   | zero=>simp at ao;subst ao;exact o
   | succ j=>exact ap j a (by simpa using ao)
  cases j with
  | zero=>omega
  | succ j =>
   simp at aE
   cases i with
   | zero=>simp at bs;subst bs;exact List.all_eq_true.1 J b (dD aE)
   | succ i=>exact av i j a b (by omega) (by simpa using bs) aE
theorem H9 {a b:kV}{r k:Nat}(h:Ax a b=true)(bs:sb r k a=true)(aE:sb r k b=true):False:=by
 simp only[Ax,YX,List.all_eq_true] at h;obtain⟨⟨o,J⟩,an⟩:=h;have UQ:=bs;have o9:=aE;simp only[sb,Bool.or_eq_true,List.contains_iff_mem] at bs aE;rcases bs with bs|bs
 ·have:=o _ bs;simp[o9] at this
 rcases aE with aE|aE
 ·have:=J _ aE;simp[UQ] at this
 cases ap:a.jj with
 | none=>rw[ap] at bs;simp at bs
 | some p =>
  obtain⟨q,n⟩:=p
  cases av:b.jj with
  | none=>rw[av] at aE;simp at aE
  | some iQ =>
   obtain⟨gj,lC⟩:=iQ;rw[ap] at bs;rw[av] at aE;rw[ap,av] at an;simp at bs aE an;exact an (bs.1.trans aE.1.symm)
theorem RX {l:List kV}(aw:x4 l=true): ∀j i gF d7 p,i1 l j i=some p->i1 l gF d7=some p->j=gF/\i=d7:=by
 intro j i gF d7 p h bR;obtain⟨r,k⟩:=p;obtain⟨ex,gX,i4,cW⟩:=DU h;obtain⟨BA,gg,hx,lD⟩:=DU bR;obtain⟨ap,av⟩:=IY aw
 have ao:j=gF:=by
  rcases Nat.lt_trichotomy j gF with e|e|e
  ·exact(H9 (av j gF ex BA e gX gg) i4 hx).elim
  ·exact e
  exact(H9 (av gF j BA ex e gg gX) hx i4).elim
 subst ao;rw[gX] at gg;simp at gg;subst gg;refine⟨rfl,?_⟩;have o:=ap j ex gX;simp only[DT,YX,decide_eq_true_eq,List.all_eq_true] at o;obtain⟨gm,iS⟩:=o;split at cW<;>split at lD
 ·exact(List.getElem?_inj (by assumption) gm).1 (cW.trans lD.symm)
 ·obtain⟨n,t1,t2⟩:=lD;have:=iS _ (dD cW);rw[t1] at this;simp at this;omega
 ·obtain⟨n,t1,t2⟩:=cW;have:=iS _ (dD lD);rw[t1] at this;simp at this;omega
 obtain⟨n,t1,t2⟩:=cW;obtain⟨lC,LM,X5⟩:=lD;rw[t1] at LM;simp at LM;omega
theorem IZ : ∀ {l:List kV} {n r j:Nat},sj n l r=some j->n<=j/\l[j-n]? = some {bk:=[],jj:=some (r,0)}
 | [],_,_,_,h=>by simp[sj] at h
 | ex::l,n,r,j,h=>by
  simp only[sj] at h;split at h
  ·rename_i e;simp at h;subst h;exact⟨dF _,by simp[e]⟩
  obtain⟨o,J⟩:=IZ h;exact⟨by omega,by rw[show j-n=(j-(n+1))+1 by omega,List.getElem?_cons_succ];exact J⟩
theorem Lm (l:List kV):lg s (i1 l) (sj 0 l) js:=by refine⟨fun r j ao k=> ?_,fun _ _ _ _ _ bs=>by simp[js] at bs⟩;obtain⟨-,J⟩:=IZ ao;simp only[i1,show l[j]? = some {bk:=[],jj:=some (r,0)} by simpa using J];simp
theorem Jn (c3:gK g s ai w){ax:fA}{bP:Nat->Option Nat}(H:lg s ax bP js): ∀(l:List (Nat×Nat)) (cf:List gM) (T:List az) (ab:List Prop),
 tz s.au bP ax l cf=some (T,ab)->(∀p∈ab,p)->T.length=l.length/\ ∀(i:Nat) bD,cB (some T) i=some bD-> ∃r k I,l[i]? = some (r,k)/\s.ab r k=some I/\mV s ax js kx I bD
 | [],[],T,ab,h,_=>by simp[tz] at h;obtain⟨rfl,rfl⟩:=h;exact⟨rfl,fun i bD ae=>by simp[cB] at ae⟩
 | (r,k)::l,c::cf,T,ab,h,aW=>by
  simp only[tz] at h;split at h;rotate_left
  ·simp at h
  rename_i I ae;split at h;rotate_left
  ·simp at h
  rename_i p bT lE a2 o J;simp only[dx,dC] at h;obtain⟨rfl,rfl⟩:=h;obtain⟨ap,av⟩:=Jn c3 H l cf lE a2 J (fun p af=>aW p (by simp[af]))
  have kp : ∀cA bD,cB (some [I]) cA=some bD->bD=I:=fun cA bD aL=>by
   rw[kL] at aL;split at aL
   ·simp at aL;exact aL.symm
   simp at aL
  have cS:s.ab r k=some I:=ae;obtain⟨f0,f1⟩:=Du (r:=r) (iG:=fun _=>k) c3 H (fun cA bD aL=>by rw[kp cA bD aL];exact cS) o (fun p af=>aW p (by simp[af]));refine⟨by simp[ap],fun i bD ad=> ?_⟩
  cases i with
  | zero =>
   have ad:cB (some [p]) 0=some bD:=(by rw[iV] at ad ⊢;simpa using ad);obtain⟨a2,g1,g2⟩:=f1 0 bD ad;rw[kp 0 a2 g1] at g2;exact⟨r,k,I,rfl,cS,g2⟩
  | succ i =>
   have ad:cB (some lE) i=some bD:=(by rw[iV] at ad ⊢;simpa using ad);obtain⟨dn,cA,a2,g1,g2,g3⟩:=av i bD ad;exact⟨dn,cA,a2,by simpa using g1,g2,g3⟩
 | [],_::_,_,_,h,_=>by simp[tz] at h
 | _::_,[],_,_,h,_=>by simp[tz] at h
theorem Ri (c3:gK g s ai w){ax:fA}{bP:Nat->Option Nat}(H:lg s ax bP js){jj:Option (Nat×Nat)}{cf:Option gM}{T:List az}{ab:List Prop}
 (h:wg s.au bP ax jj cf=some (T,ab)) (aW : ∀p∈ab,p):(∀r n k,jj=some (r,n)->s.aH r (k+n)->k<T.length) /\
   ∀(i:Nat) bD,cB (some T) i=some bD-> ∃r n I,jj=some (r,n)/\s.ab r (i+n)=some I/\mV s ax js kx I bD:=by
 cases jj with
 | none =>
  cases cf with
  | none =>
   simp[wg] at h;obtain⟨rfl,rfl⟩:=h;exact⟨fun r n k e=>by simp at e,fun i bD ae=>by simp[cB] at ae⟩
  | some c=>simp[wg] at h
 | some p =>
  obtain⟨r,n⟩:=p
  cases cf with
  | none=>simp[wg] at h
  | some c =>
   simp only[wg] at h;split at h
   ·rename_i row cu
    have bk : ∀k I,cB (some (row.drop n)) k=some I->s.ab r (k+n)=some I:=fun k I ae=>(by unfold S.ab;rw[cu,iV];rw[iV,Y7] at ae;rw[Nat.add_comm];exact ae);obtain⟨f0,f1⟩:=Du (r:=r) (iG:=fun k=>k+n) c3 H bk h aW;refine⟨fun dn lC k e aL=> ?_,fun i bD ae=> ?_⟩
    ·simp only[dx,dC] at e;obtain⟨rfl,rfl⟩:=e;rw[f0,List.length_drop];simp[S.aH,cu] at aL;omega
    obtain⟨I,g1,g2⟩:=f1 i bD ae;exact⟨r,n,I,rfl,bk i I g1,g2⟩
   simp at h
theorem PA {a b:List az}{i:Nat}:cB (some (a++b)) i=if i<a.length then cB (some a) i else cB (some b) (i-a.length):=by rw[iV,iV,iV,List.getElem?_append];split<;>rfl
theorem Jo (c3:gK g s ai w){ax:fA}{bP:Nat->Option Nat}(H:lg s ax bP js): ∀(l:List kV) (cf:List (List gM×Option gM)) (T:List (List az)) (ab:List Prop),
 tA s.au bP ax l cf=some (T,ab)->(∀p∈ab,p)->T.length=l.length/\ ∀(j:Nat) cU ex,T[j]? = some cU->l[j]? = some ex ->
  (ex.bk.length<=cU.length)/\(∀r n k,ex.jj=some (r,n)->s.aH r (k+n)->k+ex.bk.length<cU.length) /\
  ∀(i:Nat) bD,cB (some cU) i=some bD-> ∃r k I,(if i<ex.bk.length then ex.bk[i]? = some (r,k) else ∃n,ex.jj=some (r,n)/\k=i-ex.bk.length+n)/\s.ab r k=some I/\mV s ax js kx I bD
 | [],[],T,ab,h,_=>by simp[tA] at h;obtain⟨rfl,rfl⟩:=h;exact⟨rfl,fun j cU ex ao=>by simp at ao⟩
 | ex::l,(F4,MD)::cf,T,ab,h,aW=>by
  simp only[tA] at h;split at h;rotate_left
  ·simp at h
  rename_i a bT b a2 lE hJ o J an;simp only[dx,dC] at h;obtain⟨rfl,rfl⟩:=h;obtain⟨ap,av⟩:=Jo c3 H l cf lE hJ an (fun p af=>aW p (by simp[af]));obtain⟨f1,f2⟩:=Jn c3 H ex.bk F4 a bT o (fun p af=>aW p (by simp[af]));obtain⟨g1,g2⟩:=Ri c3 H J (fun p af=>aW p (by simp[af]));refine⟨by simp[ap],fun j cU BA ao pV=> ?_⟩
  cases j with
  | zero =>
   simp at ao pV;subst ao;subst pV;refine⟨by simp[f1],fun r n k e aL=> ?_,fun i bD ae=> ?_⟩
   ·have:=g1 r n k e aL;simp[f1];omega
   rw[PA,f1] at ae;split at ae
   ·rename_i c0;obtain⟨r,k,I,aS,a9,b8⟩:=f2 i bD ae;exact⟨r,k,I,by rw[dy c0];exact aS,a9,b8⟩
   rename_i c0;obtain⟨r,n,I,aS,a9,b8⟩:=g2 _ bD ae;exact⟨r,_,I,by rw[dz c0];exact⟨n,aS,rfl⟩,a9,b8⟩
  | succ j=>simp at ao pV;exact av j cU BA ao pV
 | [],_::_,_,_,h,_=>by simp[tA] at h
 | _::_,[],_,_,h,_=>by simp[tA] at h
theorem I0 (h:b7 g s ai a w){ax:fA}{bP:Nat->Option Nat}(H:lg s ax bP js): ∀(l:List (Nat×jH)) (env:List (Nat×aj)) (ab:List Prop),
 x5 s.au bP ax s.E l=some (env,ab)->(∀p∈ab,p)-> ∀t,gl s ax js kx (s.E t) (wK env t)
 | [],env,ab,ah,_=>by simp[x5] at ah;obtain⟨rfl,rfl⟩:=ah;intro t;exact .dead _
 | (u,c)::l,env,ab,ah,aW=>by
  simp only[x5] at ah;split at ah
  ·rename_i v bT Eu a2 o J
   simp only[dx,dC] at ah;obtain⟨rfl,rfl⟩:=ah;have ih:=I0 h H l Eu a2 J (fun p af=>aW p (by simp[af]));intro t;unfold wK;split
   ·rename_i e;subst e;exact xL h.togK H (sq _) o (fun p af=>aW p (by simp[af])) trivial (h.env t)
   exact ih t
  simp at ah
theorem gl.wide {ax:fA}{bw LN:e1->Bool}{q:aj->Prop}(h:∀k,bw k=true->LN k=true){x ca:aj}(bN:gl s ax bw q x ca):gl s ax LN q x ca:=by
 induction bN with
 | dead x=>exact .dead x
 | pure af aU=>exact .pure af aU
 | eC sz=>exact .eC sz
 | gT sz=>exact .gT sz
 | AW sz=>exact .AW sz
 | iA h ih=>exact .iA ih
 | ref i off hm hu=>exact .ref i off hm hu
 | bz bb len hm hu=>exact .bz bb len hm hu
 | lk r c sz=>exact .lk r c sz
 | mo h ih=>exact .mo ih
 | hf h hm=>exact .hf h hm
 | d4 i off ae bs ah cc af hle aw eP ih=>exact .d4 i off ae (h _ bs) ah cc af hle aw ih
 | isl ae bs ah gQ af hle aw eP ih=>exact .isl ae (h _ bs) ah gQ af hle aw ih
 | agg aw eP ih=>exact .agg aw ih
 | dl aw eP ih=>exact .dl aw ih
 | fn aw eP ih=>exact .fn aw ih
theorem Qv (h:b7 g s ai a w){l:List kV}{cf:List (List gM×Option gM)}{mF:List (Nat×jH)}{bj:S}{n:Nat}{ab:List Prop}(ah:AQ g.m s l cf mF=some (bj,n,ab))(aW:∀p∈ab,p):
 bj.ja n/\b7 g bj (ia ai (i1 l)) a w:=by
 unfold AQ at ah;split at ah;rotate_left
 ·simp at ah
 rename_i aJ;simp only[YX] at aJ;obtain⟨mv,pU⟩:=aJ;split at ah;rotate_left
 ·simp at ah
 rename_i T bT env a2 o J;simp only[dx,dC] at ah;obtain⟨rfl,rfl,rfl⟩:=ah;refine⟨tb _ _,?_⟩;obtain⟨ap,av⟩:=Jo h.togK (Lm l) l cf T bT o (fun p af=>aW p (by simp[af]));have c7:=I0 h (Lm l) mF env a2 J (fun p af=>aW p (by simp[af]));refine h.JR (ax:=i1 l) (q:=kx) ⟨RX mv,?_,?_⟩ (fun t=>(c7 t).wide fun _ bs=>by simp[js] at bs) ?_
 ·intro j i bD cS
  have cS:cB (T[j]?) i=some bD:=cS
  cases ao:T[j]? with
  | none=>rw[ao] at cS;simp[cB] at cS
  | some cU =>
   rw[ao] at cS;have c0:j<l.length:=(by have:=eV ao;omega);have aU:=dw c0;obtain⟨r,k,I,g1,g2,g3⟩:=(av j cU _ ao aU).2.2 i bD cS;refine⟨r,k,I,?_,g2,⟨g3.sz,g3.bV,g3.len,g3.each,fun j x ca U cL=>(g3.at_ j x ca U cL).wide fun _ bs=>by simp[js] at bs⟩⟩;simp only[i1,aU];split at g1
   ·rename_i aw;rw[dy aw];exact g1
   rename_i aw;rw[dz aw];obtain⟨n,t1,t2⟩:=g1;rw[t1,t2]
 ·intro j i r k e hu
  obtain⟨ex,gX,i4,cW⟩:=DU e;have c0:j<T.length:=(by have:=eV gX;omega);obtain⟨gg,hx,-⟩:=av j _ ex (dw c0) gX;show i<((T[j]?).getD []).length;rw[dw c0];show i<T[j].length;split at cW
  ·omega
  rename_i aw;obtain⟨n,t1,t2⟩:=cW;have:=hx r n (i-ex.bk.length) t1 (by rw[<- t2];exact hu);omega
 intro j k ao;unfold Ko at pU;have:=List.all_eq_true.1 pU j (List.mem_range.2 (h.low j k ao));simp only[beq_iff_eq] at this;simp only[i1,this];simp
theorem b7.more (h:b7 g s ai a w){aA:Nat}{row:List az}(dU:s.au aA=none)(cu:∀I∈row,I.es=[]):
 ∃bf,(∀k,bf aA k=none)/\b7 g (s.setRow aA row) bf a w:=by
 let s2:=s.setRow aA row
 let bf:el:=fun q k=>if q=aA then none else ai q k
 have cc : ∀q k,s.aH q k->q≠aA:=by rintro q k aU rfl;exact vq dU k aU
 have cb : ∀q,q≠aA->s2.au q=s.au q:=fun q aU=>by simp[s2,S.setRow,aU]
 have UR:s2.au aA=some row:=by simp[s2,S.setRow]
 have En : ∀k I,s2.ab aA k=some I->I.es=[]:=by
  intro k I ae;unfold S.ab at ae;rw[UR] at ae;unfold cB at ae;simp only at ae;split at ae
  ·rename_i bD cS
   split at ae
   ·simp at ae
   simp at ae;subst ae;exact cu _ (dD cS)
  simp at ae
 have aW : ∀q k,q≠aA->s2.ab q k=s.ab q k:=fun q k aU=>by unfold S.ab;rw[cb q aU]
 have jQ : ∀q k,q≠aA->s2.aP bf q k=s.aP ai q k:=fun q k aU=>by simp[S.aP,aW q k aU,bf,aU]
 have cp:Step g s ai w s2 bf w:=⟨fun q k aU=>by unfold S.aH;rw[cb q (cc q k aU)];exact aU,fun q k aU=> .inl (jQ q k (cc q k aU)),fun b aw=>by
  obtain⟨q,k,I,m,o,J,an⟩:=aw;by_cases e:q=aA
  ·subst e;simp[bf] at an
  rw[aW q k e] at o;simp only[bf,dz e] at an;exact .inl ⟨q,k,I,m,o,J,an⟩,fun _ _ _=>rfl,dF _⟩
 have c3:gK g s2 bf w:=by
  refine⟨?_,?_,?_,h.fU,h.mlt,h.lX,?_,h.low⟩
  ·intro q k I ae
   by_cases e:q=aA
   ·subst e;simp only[bf,if_true,hl];exact En k I ae
   rw[aW q k e] at ae;have:=cp.obj (fun b m _=>rfl) (h.obj q k I ae);simpa [bf,e] using this
  ·intro q k I gj cA bD b m aX o J an aG;have e:q≠aA:=(by rintro rfl;simp[bf] at an);have dp:gj≠aA:=(by rintro rfl;simp[bf] at aG);rw[aW q k e] at o;rw[aW gj cA dp] at J;simp only[bf,dz e] at an;simp only[bf,dz dp] at aG;exact h.inj q k I gj cA bD b m aX o J an aG
  ·intro q k I b m o J;have e:q≠aA:=(by rintro rfl;simp[bf] at J);rw[aW q k e] at o;simp only[bf,dz e] at J;exact h.own q k I b m o J
  intro j k ao;obtain⟨ap,av⟩:=h.stay j k ao;refine⟨by unfold S.aH;rw[cb j (cc j k ap)];exact ap,?_⟩;rw[jQ j k (cc j k ap)];exact av
 exact⟨bf,fun k=>by simp[bf],{togK:=c3,env:=fun u=>cp.rel (h.env u),defers:=h.defers,h9:=h.h9}⟩
theorem b7.SF (h:b7 g s ai a w){r qC:Nat}{bV:e1}{c cX:List aj}(cu:s.au r=some [⟨qC,[c],bV⟩])(aw:cX.length=c.length)
 (aJ : ∀(j:Nat) x ca,c[j]? = some x->cX[j]? = some ca-> ∀v,Rel w (s.ok g ai w) s.aH (s.aP ai) x v->Rel w (s.ok g ai w) s.aH (s.aP ai) ca v) :
 b7 g (s.setRow r [⟨qC,[cX],bV⟩]) ai a w:=by
 let s2:=s.setRow r [⟨qC,[cX],bV⟩]
 have aW : ∀q k,s2.ab q k=if q=r then (s.ab q k).map (fun I=>{I with es:=[cX]}) else s.ab q k:=by
  intro q k;show (s.setRow r _).ab q k=_;rw[j0];split
  ·rename_i e;subst e;unfold S.ab;rw[cu,kL,kL];split<;>rfl
  rfl
 have hP:s2.aH=s.aH:=by
  funext q k;show (s.setRow r _).aH q k=_;refine propext ((lO s r _ q k).trans ?_);split
  ·rename_i e;subst e;simp[S.aH,cu]
  rfl
 have jQ:s2.aP ai=s.aP ai:=by
  funext q k;unfold S.aP;rw[aW];split
  ·cases s.ab q k<;>rfl
  rfl
 have rq:s2.kl ai=s.kl ai:=by
  funext b;unfold S.kl;refine propext ⟨fun ⟨q,k,I,m,o,J,an⟩=> ?_,fun ⟨q,k,I,m,o,J,an⟩=> ?_⟩
  ·rw[aW] at o
   split at o
   ·rw[dL] at o;obtain⟨bD,aG,rfl⟩:=o;exact⟨q,k,bD,m,aG,J,an⟩
   exact⟨q,k,I,m,o,J,an⟩
  by_cases e:q=r
  ·exact⟨q,k,{I with es:=[cX]},m,by rw[aW,dy e,o];rfl,J,an⟩
  exact⟨q,k,I,m,by rw[aW,dz e];exact o,J,an⟩
 have mv:s2.ok g ai w=s.ok g ai w:=by funext b;unfold S.ok;rw[rq]
 have c3:gK g s2 ai w:=by
  refine⟨?_,?_,?_,h.fU,h.mlt,h.lX,?_,h.low⟩
  ·intro q k I ae
   rw[mv,hP,jQ];rw[aW] at ae;split at ae;rotate_left
   ·exact h.obj q k I ae
   rename_i e;subst e;rw[dL] at ae;obtain⟨bD,aG,rfl⟩:=ae;have aN:=h.obj _ k bD aG;have bJ:bD=⟨qC,[c],bV⟩:=(by unfold S.ab at aG;rw[cu,kL] at aG;split at aG<;>simp at aG;exact aG.symm);subst bJ
   cases af:ai q k with
   | none=>rw[af] at aN;simp[hl] at aN
   | some p =>
    rw[af] at aN;obtain⟨Wa,c9,g1,g2,g3,g4⟩:=aN;refine⟨Wa,c9,g1,g2,fun e he=> ?_,fun j x U=> ?_⟩
    ·simp at he;subst he;rw[aw];exact g3 c (by simp)
    simp at U;have ao:=eV U;have my:=dw (show j<c.length by omega);obtain⟨v,v1,v2,v3⟩:=g4 j c[j] (by simp);exact⟨v,v1,v2,aJ j _ _ my U v v3⟩
  ·intro q k I gj cA bD b m aX o J an aG
   have ap : ∃I,s.ab q k=some I:=by
    rw[aW] at o;split at o
    ·rw[dL] at o;obtain⟨bD,aN,-⟩:=o;exact⟨bD,aN⟩
    exact⟨I,o⟩
   have av : ∃I,s.ab gj cA=some I:=by
    rw[aW] at J;split at J
    ·rw[dL] at J;obtain⟨bD,aN,-⟩:=J;exact⟨bD,aN⟩
    exact⟨bD,J⟩
   obtain⟨bT,ap⟩:=ap;obtain⟨a2,av⟩:=av;exact h.inj q k bT gj cA a2 b m aX ap av an aG
  ·intro q k I b m o J
   rw[aW] at o;split at o
   ·rw[dL] at o;obtain⟨bD,aN,-⟩:=o;exact h.own q k bD b m aN J
   exact h.own q k I b m o J
  intro j k ao;rw[hP,jQ];exact h.stay j k ao
 refine {togK:=c3,env:=fun u=> ?_,defers:=h.defers,h9:=h.h9};have:=h.env u;rw[mv,hP,jQ];exact this
theorem b7.Tk (h:b7 g s ai a w){aA r j qC sz:Nat}{bV:e1}{c:List aj}(dU:s.au aA=none)(cu:s.au r=some [⟨qC,[c],bV⟩])(ao:c[j]? = some .eC):
 ∃bf,b7 g ((s.setRow aA [⟨sz,[],.live⟩]).setRow r [⟨qC,[c.set j (.bz aA 0 0 0)],bV⟩]) bf a w:=by
 obtain⟨bf,aZ,bR⟩:=h.more (row:=[⟨sz,[],.live⟩]) dU (fun I ae=>by simp at ae;subst ae;rfl);have cc:r≠aA:=by rintro rfl;rw[cu] at dU;simp at dU
 refine⟨bf,bR.SF (c:=c) (by simp[S.setRow,cc,cu]) (by simp) (fun i x ca U cL v aT=> ?_)⟩;rw[YZ] at cL;split at cL
 ·rename_i e;subst e
  split at cL
  ·simp at cL;subst cL;rw[ao] at U;simp at U;subst U;rw[aT.n8];refine .me (sz:=sz) (by simp[S.aH,S.setRow]) ?_;unfold S.aP S.ab;rw[show (s.setRow aA [⟨sz,[],.live⟩]).au aA=some [⟨sz,[],.live⟩] by simp[S.setRow],kL];simp[aZ]
  simp at cL
 rw[U] at cL;simp at cL;subst cL;exact aT
theorem b7.rj (h:b7 g s ai a w){aA t sz:Nat}(dU:s.au aA=none)(b3:s.E t = .eC):
 ∃bf,b7 g {E:=fun u=>if u=t then .bz aA 0 0 0 else s.E u,au:=(s.setRow aA [⟨sz,[],.live⟩]).au} bf a w:=by
 obtain⟨bf,aZ,bR⟩:=h.more (row:=[⟨sz,[],.live⟩]) dU (fun I ae=>by simp at ae;subst ae;rfl);refine⟨bf,{togK:=bR.togK.congr rfl,env:=fun u=> ?_,defers:=bR.defers,h9:=bR.h9}⟩;have ap : ∀uq:S,uq.au=(s.setRow aA [⟨sz,[],.live⟩]).au->Rel w ((s.setRow aA [⟨sz,[],.live⟩]).ok g bf w) (s.setRow aA [⟨sz,[],.live⟩]).aH ((s.setRow aA [⟨sz,[],.live⟩]).aP bf)=Rel w (uq.ok g bf w) uq.aH (uq.aP bf):=fun uq e=>by rw[xK e,vJ e,vK e]
 refine Eq.mp (congrFun (congrFun (ap {E:=fun u=>if u=t then .bz aA 0 0 0 else s.E u,au:=(s.setRow aA [⟨sz,[],.live⟩]).au} rfl) _) _) ?_;show Rel _ _ _ _ (if u=t then .bz aA 0 0 0 else s.E u) _;split
 ·rename_i e;subst e;have h0:=h.env u;rw[b3] at h0;rw[h0.n8];refine .me (sz:=sz) (by simp[S.aH,S.setRow]) ?_;unfold S.aP S.ab;rw[show (s.setRow aA [⟨sz,[],.live⟩]).au aA=some [⟨sz,[],.live⟩] by simp[S.setRow],kL];simp[aZ]
 exact bR.env u
end
def hR (P:Program)(N m:Nat)(c:Code)(e:Exit)(s bj:S):Prop :=
 ∀(g:G) ai a w,g.N=N->g.m=m->b7 g s ai a w->c.wp P (fun dp cP bc=>dp=e/\ ∃bf,b7 g bj bf cP bc) a w
inductive ur where
 | normal
 | exit (id:Nat)
 | ret
def ur.x:ur->Exit
 | .normal=> .normal
 | .exit id=> .exit id
 | .ret=> .ret
inductive cy where
 | aV (b9:List (d5×Bool))
 | aF (b:Bool)
 | bq (ax:List Nat) (cf:List gM) (mF:List (Nat×jH))
 | y6 (l:List kV) (cf:List (List gM×Option gM)) (mF:List (Nat×jH))
 | h4 (r:Nat)
 | rj (t sz:Nat)
 | y7 (r j sz:Nat)
 | E4
 | sub (e:ur) (env:List (Nat×aj)) (rows:List (List az))
structure ME where
 e:Exit
 s:S
 aA:Nat
 tape:List cy
 ea:List Prop
def kO (m:Nat):List cy->S->Nat->Option (List cy×S×Nat×List Prop)
 | .bq ax cf mF::tape,s,aA=>match A0 m s ax cf mF with
  | some (s1,gm,bT)=>match kO m tape s1 gm with
   | some (t2,s2,iS,a2)=>some (t2,s2,iS,bT++a2)
   | none=>none
  | none=>none
 | .y6 l cf mF::tape,s,aA=>match AQ m s l cf mF with
  | some (s1,gm,bT)=>match kO m tape s1 gm with
   | some (t2,s2,iS,a2)=>some (t2,s2,iS,bT++a2)
   | none=>none
  | none=>none
 | .h4 r::tape,s,aA=>match s.au r with
  | some row=>kO m tape (s.setRow r (km row)) aA
  | none=>none
 | .rj t sz::tape,s,aA=>match s.E t with
  | .eC=>kO m tape {E:=fun u=>if u=t then .bz aA 0 0 0 else s.E u,au:=(s.setRow aA [⟨sz,[],.live⟩]).au} (aA+1)
  | _=>none
 | .y7 r j sz::tape,s,aA=>match s.au r with
  | some [⟨qC,[c],bV⟩]=>match c[j]? with
   | some .eC=>kO m tape ((s.setRow aA [⟨sz,[],.live⟩]).setRow r [⟨qC,[c.set j (.bz aA 0 0 0)],bV⟩]) (aA+1)
   | _=>none
  | _=>none
 | .E4::tape,s,aA=>kO m tape (s.setRow aA []) (aA+1)
 | tape,s,aA=>some (tape,s,aA,[])
def ll (P:Program)(N m:Nat):Code->List cy->S->Nat->Option ME
 | .skip,tape,s,aA=>some ⟨.normal,s,aA,tape,[]⟩
 | .label _,tape,s,aA=>some ⟨.normal,s,aA,tape,[]⟩
 | .exit id,tape,s,aA=>some ⟨.exit id,s,aA,tape,[]⟩
 | .ret,tape,s,aA=>some ⟨.ret,s,aA,tape,[]⟩
 | .seq x y,tape,s,aA=>match ll P N m x tape s aA with
  | some ⟨.normal,s1,gm,t1,bT⟩=>match ll P N m y t1 s1 gm with
   | some ⟨av,s2,iS,t2,a2⟩=>some ⟨av,s2,iS,t2,bT++a2⟩
   | none=>none
  | some r=>some r
  | none=>none
 | .block id c,tape,s,aA=>match ll P N m c tape s aA with
  | some ⟨.exit t8,s1,gm,t1,bT⟩=>some ⟨if t8=id then .normal else .exit t8,s1,gm,t1,bT⟩
  | r=>r
 | .scope c,tape,s,aA=>ll P N m c tape s aA
 | .region _ ops draw,tape,s,aA=>match kO m tape s aA with
  | some (.aV b9::t1,s1,gm,bT)=>match xH P N ops draw b9 s1 gm with
   | some (s2,a2)=>some ⟨.normal,s2,gm+ops.size,t1,bT++a2⟩
   | none=>none
  | _=>none
 | .cond x c d,tape,s,aA=>match kO m tape s aA with
  | some (.sub e env rows::t1,s1,_,bT)=>some ⟨e.x,ev env rows,rows.length,t1,bT++[hR P N m (.cond x c d) e.x s1 (ev env rows)]⟩
  | some (.aF b::t1,s1,gm,bT)=>match dc s1.E x with
   | .b v=>match b with
    | true=>match ll P N m c t1 s1 gm with
     | some ⟨av,s2,iS,t2,a2⟩=>some ⟨av,s2,iS,t2,bT++(v=true)::a2⟩
     | none=>none
    | false=>match ll P N m d t1 s1 gm with
     | some ⟨av,s2,iS,t2,a2⟩=>some ⟨av,s2,iS,t2,bT++(v=false)::a2⟩
     | none=>none
   | _=>none
  | _=>none
 | .loop c,tape,s,aA=>match kO m tape s aA with
  | some (.sub e env rows::t1,s1,_,bT)=>some ⟨e.x,ev env rows,rows.length,t1,bT++[hR P N m (.loop c) e.x s1 (ev env rows)]⟩
  | _=>none
 | _,_,_,_=>none
section
variable {P:Program} {N m:Nat}
theorem hR.intro {c:Code}{e:Exit}{s bj:S}(h:∀(g:G) ai a w,g.N=N->g.m=m->b7 g s ai a w->c.wp P (fun dp cP bc=>dp=e/\ ∃bf,b7 g bj bf cP bc) a w):hR P N m c e s bj:=h
theorem hR.seq {x y:Code}{e:Exit}{s s1 s2:S}(o:hR P N m x .normal s s1)(J:hR P N m y e s1 s2):hR P N m (.seq x y) e s s2:=by intro g ai a w fc hm ah;refine wp_seq (wp_mono (o g ai a w fc hm ah) fun dp cP bc aU=> ?_);obtain⟨rfl,bf,gd⟩:=aU;exact J g bf cP bc fc hm gd
theorem hR.RY {x y:Code}{e:Exit}{s s1:S}(o:hR P N m x e s s1)(he:e≠ .normal):hR P N m (.seq x y) e s s1:=by intro g ai a w fc hm ah;refine wp_seq (wp_mono (o g ai a w fc hm ah) fun dp cP bc aU=> ?_);obtain⟨rfl,gd⟩:=aU;cases dp<;>first|exact absurd rfl he|exact⟨rfl,gd⟩
theorem hR.PY {c:Code}{id t8:Nat}{s s1:S}(o:hR P N m c (.exit t8) s s1):hR P N m (.block id c) (if t8=id then .normal else .exit t8) s s1:=by
 intro g ai a w fc hm ah;refine wp_block (wp_mono (o g ai a w fc hm ah) fun dp cP bc aU=> ?_);obtain⟨rfl,gd⟩:=aU;simp only[Exit.inBlock];split
 ·exact⟨rfl,gd⟩
 exact⟨rfl,gd⟩
theorem hR.block {c:Code}{id:Nat}{e:Exit}{s s1:S}(o:hR P N m c e s s1)(he:∀i,e≠ .exit i):hR P N m (.block id c) e s s1:=by intro g ai a w fc hm ah;refine wp_block (wp_mono (o g ai a w fc hm ah) fun dp cP bc aU=> ?_);obtain⟨rfl,gd⟩:=aU;cases dp<;>first|exact absurd rfl (he _)|exact⟨rfl,gd⟩
theorem hR.scope {c:Code}{e:Exit}{s s1:S}(o:hR P N m c e s s1)(he:∀l,e≠ .goto l):hR P N m (.scope c) e s s1:=by intro g ai a w fc hm ah;refine wp_scope_straight (wp_mono (o g ai a w fc hm ah) fun dp cP bc aU=> ?_);obtain⟨rfl,gd⟩:=aU;cases dp<;>first|exact absurd rfl (he _)|exact⟨rfl,gd⟩
theorem Ia {ops:Array Oper}: ∀(l:List Oper) (b9:List (d5×Bool)) (s bj:S) (aA:Nat) (ab:List Prop),
 oY P N ops l b9 s aA=some (bj,ab)->s.ja aA->bj.ja (aA+l.length)
 | [],[],s,bj,aA,ab,h,bL=>by simp[oY] at h;obtain⟨rfl,rfl⟩:=h;simpa using bL
 | I::l,et::b9,s,bj,aA,ab,h,bL=>by
  simp only[oY] at h;split at h
  ·rename_i a1 ag
   split at h
   ·rename_i s2 y4 J;simp only[dx,dC] at h;obtain⟨rfl,rfl⟩:=h;have:=Ia l b9 (s.ba I a1) s2 (aA+1) y4 J (Ah ag bL);rw[dM];rw[show aA+(l.length+1)=aA+1+l.length by omega];exact this
   simp at h
  simp at h
 | [],_::_,_,_,_,_,h,_=>by simp[oY] at h
 | _::_,[],_,_,_,_,h,_=>by simp[oY] at h
theorem Ib {ops:Array Oper}: ∀(l:List Oper) (b9:List (d5×Bool)) (s bj:S) (aA:Nat) (hY:List Rec),
 oZ P N ops l b9 s aA=some (bj,hY)->s.ja aA->bj.ja (aA+l.length)
 | [],[],s,bj,aA,ab,h,bL=>by simp[oZ] at h;obtain⟨rfl,rfl⟩:=h;simpa using bL
 | I::l,et::b9,s,bj,aA,ab,h,bL=>by
  simp only[oZ] at h;split at h
  ·rename_i a1 ag
   split at h
   ·rename_i s2 y4 J;simp only[dx,dC] at h;obtain⟨rfl,rfl⟩:=h;have:=Ib l b9 (s.ba I a1) s2 (aA+1) y4 J (Ah (Dd ag) bL);rw[dM];rw[show aA+(l.length+1)=aA+1+l.length by omega];exact this
   simp at h
  simp at h
 | [],_::_,_,_,_,_,h,_=>by simp[oZ] at h
 | _::_,[],_,_,_,_,h,_=>by simp[oZ] at h
theorem OT {ops:Array Oper}{draw:Bool}{b9:List (d5×Bool)}{s bj:S}{aA:Nat}{ab:List Prop}
 (h:xH P N ops draw b9 s aA=some (bj,ab)) (bL:s.ja aA):bj.ja (aA+ops.size):=by
 unfold xH at h;split at h
 ·split at h
  ·rename_i s2 fN yE
   split at h
   ·simp only[dx,dC] at h;obtain⟨rfl,rfl⟩:=h;simpa using Ib _ _ _ _ _ _ yE bL
   simp at h
  simp at h
 simpa using Ia _ _ _ _ _ _ h bL
theorem PB {s:S}{n r:Nat}{row:List az}(h:s.ja n)(ah:r<n):(s.setRow r row).ja n:=by
 intro q aU;have:q≠r:=by omega
 simp[S.setRow,this,h q aU]
theorem vw : ∀(tape:List cy) (s:S) (aA:Nat) (cx:List cy) (bj:S) (lC:Nat) (ab:List Prop),kO m tape s aA=some (cx,bj,lC,ab)->(∀p∈ab,p)->s.ja aA ->
 bj.ja lC/\ ∀(g:G) ai a w,g.m=m->b7 g s ai a w-> ∃bf,b7 g bj bf a w:=by
 intro tape
 induction tape with
 | nil =>
  intro s aA cx bj lC ab h aW bL;simp[kO] at h;obtain⟨rfl,rfl,rfl,rfl⟩:=h;exact⟨bL,fun g ai a w _ ah=>⟨ai,ah⟩⟩
 | cons x tape ih =>
  intro s aA cx bj lC ab h aW bL
  cases x with
  | bq ax cf mF =>
   simp only[kO] at h;split at h;rotate_left
   ·simp at h
   rename_i s1 gm bT o;split at h;rotate_left
   ·simp at h
   rename_i t2 s2 iS a2 J;simp only[dx,dC] at h;obtain⟨rfl,rfl,rfl,rfl⟩:=h
   have yf:s1.ja gm:=by
    unfold A0 at o;split at o
    ·split at o
     ·simp only[dx,dC] at o;obtain⟨rfl,rfl,rfl⟩:=o;exact tb _ _
     simp at o
    simp at o
   obtain⟨ap,av⟩:=ih s1 gm t2 s2 iS a2 J (fun p af=>aW p (by simp[af])) yf;refine⟨ap,fun g ai a w hm ah=> ?_⟩;obtain⟨-,f2⟩:=Rh ah (by rw[hm];exact o) (fun p af=>aW p (by simp[af]));exact av g _ a w hm f2
  | y6 l cf mF =>
   simp only[kO] at h;split at h;rotate_left
   ·simp at h
   rename_i s1 gm bT o;split at h;rotate_left
   ·simp at h
   rename_i t2 s2 iS a2 J;simp only[dx,dC] at h;obtain⟨rfl,rfl,rfl,rfl⟩:=h
   have yf:s1.ja gm:=by
    unfold AQ at o;split at o
    ·split at o
     ·simp only[dx,dC] at o;obtain⟨rfl,rfl,rfl⟩:=o;exact tb _ _
     simp at o
    simp at o
   obtain⟨ap,av⟩:=ih s1 gm t2 s2 iS a2 J (fun p af=>aW p (by simp[af])) yf;refine⟨ap,fun g ai a w hm ah=> ?_⟩;obtain⟨-,f2⟩:=Qv ah (by rw[hm];exact o) (fun p af=>aW p (by simp[af]));exact av g _ a w hm f2
  | h4 r =>
   simp only[kO] at h;split at h
   ·rename_i row cu
    have c0:r<aA:=by
     rcases Nat.lt_or_ge r aA with bR|bR
     ·exact bR
     rw[bL r bR] at cu;simp at cu
    obtain⟨ap,av⟩:=ih _ aA cx bj lC ab h aW (PB bL c0);exact⟨ap,fun g ai a w hm ah=>av g ai a w hm (ah.freeze cu)⟩
   simp at h
  | rj t sz =>
   simp only[kO] at h;split at h
   ·rename_i b3;obtain⟨ap,av⟩:=ih _ (aA+1) cx bj lC ab h aW (by intro q aU;have:q≠aA:=(by omega);simp[S.setRow,this,bL q (by omega)]);refine⟨ap,fun g ai a w hm ah=> ?_⟩;obtain⟨bf,gd⟩:=ah.rj (sz:=sz) (bL aA (dF _)) b3;exact av g bf a w hm gd
   simp at h
  | y7 r j sz =>
   simp only[kO] at h;split at h;rotate_left
   ·simp at h
   rename_i qC c bV cu;split at h
   ·rename_i ao
    have c0:r<aA:=by
     rcases Nat.lt_or_ge r aA with bR|bR
     ·exact bR
     rw[bL r bR] at cu;simp at cu
    obtain⟨ap,av⟩:=ih _ (aA+1) cx bj lC ab h aW (by intro q aU;have o:q≠aA:=(by omega);have J:q≠r:=(by omega);simp[S.setRow,o,J,bL q (by omega)]);refine⟨ap,fun g ai a w hm ah=> ?_⟩;obtain⟨bf,gd⟩:=ah.Tk (sz:=sz) (bL aA (dF _)) cu ao;exact av g bf a w hm gd
   simp at h
  | E4 =>
   simp only[kO] at h;obtain⟨ap,av⟩:=ih _ (aA+1) cx bj lC ab h aW (by intro q aU;have:q≠aA:=(by omega);simp[S.setRow,this,bL q (by omega)]);refine⟨ap,fun g ai a w hm ah=> ?_⟩;obtain⟨bf,-,gd⟩:=ah.more (row:=[]) (bL aA (dF _)) (by simp);exact av g bf a w hm gd
  | aV b9=>simp[kO] at h;obtain⟨rfl,rfl,rfl,rfl⟩:=h;exact⟨bL,fun g ai a w _ ah=>⟨ai,ah⟩⟩
  | aF b=>simp[kO] at h;obtain⟨rfl,rfl,rfl,rfl⟩:=h;exact⟨bL,fun g ai a w _ ah=>⟨ai,ah⟩⟩
  | sub e env rows=>simp[kO] at h;obtain⟨rfl,rfl,rfl,rfl⟩:=h;exact⟨bL,fun g ai a w _ ah=>⟨ai,ah⟩⟩
theorem AE {c:Code}{e:Exit}{s bj:S}(h:∀ {Q:Exit->Act->World->Prop} {a w},Q e a w->c.wp P Q a w)(bN:bj=s):hR P N m c e s bj:=by intro g ai a w _ _ ah;exact h ⟨rfl,ai,by rw[bN];exact ah⟩
theorem PZ (oq:P.follows .mixedOrders=true): ∀(c:Code) (tape:List cy) (s:S) (aA:Nat) (r:ME),ll P N m c tape s aA=some r->(∀p∈r.ea,p)->s.ja aA ->
 (r.s.ja r.aA/\(∀l,r.e≠ .goto l))/\hR P N m c r.e s r.s:=by
 intro c
 induction c with
 | skip =>
  intro tape s aA r h aW bL;simp[ll] at h;subst h;exact⟨⟨bL,by simp⟩,AE wp_skip rfl⟩
 | label l =>
  intro tape s aA r h aW bL;simp[ll] at h;subst h;exact⟨⟨bL,by simp⟩,AE wp_label rfl⟩
 | exit id =>
  intro tape s aA r h aW bL;simp[ll] at h;subst h;exact⟨⟨bL,by simp⟩,AE wp_exit rfl⟩
 | ret =>
  intro tape s aA r h aW bL;simp[ll] at h;subst h;exact⟨⟨bL,by simp⟩,AE wp_ret rfl⟩
 | seq x y LO US =>
  intro tape s aA r h aW bL;simp only[ll] at h;split at h
  ·rename_i s1 gm t1 bT o
   split at h
   ·rename_i av s2 iS t2 a2 J;simp only[dx] at h;subst h;obtain⟨⟨f1,-⟩,v1⟩:=LO _ _ _ _ o (fun p af=>aW p (by simp[af])) bL;obtain⟨f2,v2⟩:=US _ _ _ _ J (fun p af=>aW p (by simp[af])) f1;exact⟨f2,v1.seq v2⟩
   simp at h
  ·rename_i ak cc o;simp only[dx] at h;subst h;obtain⟨f1,v1⟩:=LO _ _ _ _ o aW bL;refine⟨f1,v1.RY fun he=> ?_⟩;obtain⟨ap,s1,gm,t1,bT⟩:=ak;simp only at he;subst he;exact cc s1 gm t1 bT rfl
  simp at h
 | block id c ih =>
  intro tape s aA r h aW bL;simp only[ll] at h;split at h
  ·rename_i t8 s1 gm t1 bT o;simp only[dx] at h;subst h;obtain⟨⟨f1,f2⟩,v1⟩:=ih _ _ _ _ o aW bL;exact⟨⟨f1,by intro l;simp only;split<;>simp⟩,v1.PY⟩
  rename_i cc;obtain⟨f1,v1⟩:=ih _ _ _ _ h aW bL;refine⟨f1,v1.block fun i he=> ?_⟩;obtain⟨ap,s1,gm,t1,bT⟩:=r;simp only at he;subst he;exact cc i s1 gm t1 bT h
 | scope c ih =>
  intro tape s aA r h aW bL;simp only[ll] at h;obtain⟨f1,v1⟩:=ih _ _ _ _ h aW bL;exact⟨f1,v1.scope f1.2⟩
 | region id ops draw =>
  intro tape s aA r h aW bL;simp only[ll] at h;split at h
  ·rename_i b9 t1 s1 gm bT o
   split at h
   ·rename_i s2 a2 J;simp only[dx] at h;subst h;obtain⟨f1,v1⟩:=vw _ _ _ _ _ _ _ o (fun p af=>aW p (by simp[af])) bL;refine⟨⟨OT J f1,by simp⟩,?_⟩;intro g ai a w fc hm ah;obtain⟨jx,iB⟩:=v1 g ai a w hm ah;subst fc;exact OG oq J (fun p af=>aW p (by simp[af])) f1 iB id fun bf cP bc bR=>⟨rfl,bf,bR⟩
   simp at h
  simp at h
 | cond x c d UT UU =>
  intro tape s aA r h aW bL;simp only[ll] at h;split at h
  ·rename_i e env rows t1 s1 gm bT o;simp only[dx] at h;subst h;obtain⟨f1,v1⟩:=vw _ _ _ _ _ _ _ o (fun p af=>aW p (by simp[af])) bL;have aT:hR P N m (.cond x c d) e.x s1 (ev env rows):=aW _ (by simp);refine⟨⟨tb _ _,by intro l;cases e<;>simp[ur.x]⟩,fun g ai a w fc hm ah=> ?_⟩;obtain⟨jx,iB⟩:=v1 g ai a w hm ah;exact aT g jx a w fc hm iB
  ·rename_i b t1 s1 gm bT o
   split at h;rotate_left
   ·simp at h
   rename_i v aT;have aJ : ∀(g:G) ai a w,b7 g s1 ai a w->a.eval x = .bool v:=(by intro g ai a w ah;have:=ah.eval x;rw[aT] at this;exact this.sa);split at h
   ·split at h
    ·rename_i av s2 iS t2 a2 J;simp only[dx] at h;subst h;obtain⟨f1,v1⟩:=vw _ _ _ _ _ _ _ o (fun p af=>aW p (by simp[af])) bL;obtain⟨f2,v2⟩:=UT _ _ _ _ J (fun p af=>aW p (by simp[af])) f1;have E5:v=true:=aW _ (by simp);refine⟨f2,fun g ai a w fc hm ah=> ?_⟩;obtain⟨jx,iB⟩:=v1 g ai a w hm ah;exact wp_cond_true (by rw[aJ g jx a w iB,E5]) (v2 g jx a w fc hm iB)
    simp at h
   split at h
   ·rename_i av s2 iS t2 a2 J;simp only[dx] at h;subst h;obtain⟨f1,v1⟩:=vw _ _ _ _ _ _ _ o (fun p af=>aW p (by simp[af])) bL;obtain⟨f2,v2⟩:=UU _ _ _ _ J (fun p af=>aW p (by simp[af])) f1;have E5:v=false:=aW _ (by simp);refine⟨f2,fun g ai a w fc hm ah=> ?_⟩;obtain⟨jx,iB⟩:=v1 g ai a w hm ah;exact wp_cond_false (by rw[aJ g jx a w iB,E5]) (v2 g jx a w fc hm iB)
   simp at h
  simp at h
 | loop c ih =>
  intro tape s aA r h aW bL;simp only[ll] at h;split at h
  ·rename_i e env rows t1 s1 gm bT o;simp only[dx] at h;subst h;obtain⟨f1,v1⟩:=vw _ _ _ _ _ _ _ o (fun p af=>aW p (by simp[af])) bL;have aT:hR P N m (.loop c) e.x s1 (ev env rows):=aW _ (by simp);refine⟨⟨tb _ _,by intro l;cases e<;>simp[ur.x]⟩,fun g ai a w fc hm ah=> ?_⟩;obtain⟨jx,iB⟩:=v1 g ai a w hm ah;exact aT g jx a w fc hm iB
  simp at h
 | _=>intro tape s aA r h;simp[ll] at h
def pI (P:Program)(N m:Nat)(c:Code)(e:Exit)(s bj:S):Prop :=
 ∃n,∀(g:G) ai a w,g.N=N->g.m=m->b7 g s ai a w->Code.rounds P c (fun dp cP bc=>dp=e/\ ∃bf,b7 g bj bf cP bc) n a w
theorem pI.UW {c:Code}{e:Exit}{s bj:S}(h:pI P N m c e s bj):hR P N m (.loop c) e s bj:=by obtain⟨n,h⟩:=h;intro g ai a w fc hm ah;exact wp_loop_rounds n (h g ai a w fc hm ah)
theorem pI.out {c:Code}{e:Exit}{s bj:S}(h:hR P N m c e s bj)(he:e≠ .normal):pI P N m c e s bj:=by refine⟨1,fun g ai a w fc hm ah=> ?_⟩;rw[rounds_succ];refine wp_mono (h g ai a w fc hm ah) fun dp cP bc aU=> ?_;obtain⟨rfl,gd⟩:=aU;cases dp<;>first|exact absurd rfl he|exact⟨rfl,gd⟩
theorem pI.next {c:Code}{e:Exit}{s s1 bj:S}(h:hR P N m c .normal s s1)(J:pI P N m c e s1 bj):pI P N m c e s bj:=by obtain⟨n,J⟩:=J;refine⟨n+1,fun g ai a w fc hm ah=> ?_⟩;rw[rounds_succ];refine wp_mono (h g ai a w fc hm ah) fun dp cP bc aU=> ?_;obtain⟨rfl,bf,gd⟩:=aU;exact J g bf cP bc fc hm gd
inductive cH:List Prop->Prop
 | nil:cH []
 | cons {p:Prop} {l:List Prop} (h:p) (t:cH l):cH (p::l)
theorem cH.c {p:Prop}{l:List Prop}(h:p)(t:cH l):cH (p::l):= .cons h t
theorem cH.ba {l m:List Prop}(h:cH l)(k:cH m):cH (l++m):=by
 induction h with
 | nil=>exact k
 | cons h _ ih=>exact .cons h ih
theorem cH.all {l:List Prop}(h:cH l): ∀p∈l,p:=by
 induction h with
 | nil=>intro p af;simp at af
 | cons h t ih =>
  intro q aU;rw[YW] at aU;rcases aU with rfl|aU
  ·exact h
  exact ih q aU
theorem cH.of : ∀ {l:List Prop},(∀p∈l,p)->cH l
 | [],_=> .nil
 | _::_,h=> .cons (h _ (by simp)) (.of fun p af=>h p (by simp[af]))
def BB (P:Program)(N m:Nat)(c:Code)(tape:List cy)(s:S)(aA:Nat):Option (Exit×S×List Prop) :=
 match ll P N m c tape s aA with
 | some ⟨e,s1,gm,t1,bT⟩=>match kO m t1 s1 gm with
  | some ([],s2,_,a2)=>some (e,s2,bT++a2)
  | _=>none
 | none=>none
theorem I1 (oq:P.follows .mixedOrders=true){c:Code}{tape:List cy}{s bj:S}{aA:Nat}{e:Exit}{ab:List Prop}(h:BB P N m c tape s aA=some (e,bj,ab))(aW:cH ab)(bL:s.ja aA):
 hR P N m c e s bj:=by
 have aW:=aW.all;unfold BB at h;split at h
 ·rename_i ap s1 gm t1 bT o
  split at h
  ·rename_i s2 iS a2 J;simp only[dx,dC] at h;obtain⟨rfl,rfl,rfl⟩:=h;obtain⟨⟨f1,-⟩,v1⟩:=PZ oq c tape s aA _ o (fun p af=>aW p (by simp[af])) bL;obtain⟨-,v2⟩:=vw _ _ _ _ _ _ _ J (fun p af=>aW p (by simp[af])) f1;intro g ai a w fc hm ah;refine wp_mono (v1 g ai a w fc hm ah) fun dp cP bc aU=> ?_;obtain⟨rfl,bf,gd⟩:=aU;exact⟨rfl,v2 g bf cP bc hm gd⟩
  simp at h
 simp at h
end
def q3 (P:Program)(s:S):ResultVar->Option aj
 | .tmp t=>some (s.E t)
 | .cell t c9=>match s.E t with
  | .ref r k i off=>match cB (s.au r) k with
   | some I=>match I.es[i]? with
    | some c=>o0 P c9 c off
    | none=>none
   | none=>none
  | _=>none
def Ev (P:Program)(s:S):List ResultVar->Option aj
 | []=>some (.dl [])
 | [x]=>q3 P s x
 | [x,y]=>match q3 P s x,q3 P s y with
  | some a,some b=>some (.dl [a,b])
  | _,_=>none
 | [x,y,z]=>match q3 P s x,q3 P s y,q3 P s z with
  | some a,some b,some c=>some (.dl [a,b,c])
  | _,_,_=>none
 | _=>none
def DV (tmps:Array Value):ResultVar->Sem Value
 | .tmp t=>pure (tmps.getD t undef)
 | .cell a t=>do loadVar t (<- asAddr (tmps.getD a undef))
theorem PC (fn:Func)(tmps:Array Value):results fn tmps=(do
 let vs <- fn.results.mapM (DV tmps)
 pure (if h:vs.size=1 then vs[0] else .tuple vs)):=rfl
def tn (args:List aj)(T:List (List az)):S:={E:=fun t=>(args[t]?).getD (.dl []),au:=fun r=>T[r]?}
def KX:Exit->Bool
 | .normal=>true
 | .ret=>true
 | _=>false
def yG (P:Program)(f:FuncId)(args:List aj)(T:List (List az))(tape:List cy)(ax:List Nat)(cf:List gM)(ew:jH):Option (aj×List (List az)×List Prop) :=
 match P.funcs[f]? with
 | none=>none
 | some fn=>match fn.body with
  | none=>none
  | some c=>if fn.name == "runtime.NumGoroutine" then none else
   match BB P fn.ntmps T.length c tape (tn args T) T.length with
   | none=>none
   | some (e,s,bT)=>if KX e && decide ax.Nodup && ye ax T.length then
    match Ev P s fn.results.toList with
    | none=>none
    | some r0=>match re s.au (c4 ax) (ly ax) ax cf,mi s.au (c4 ax) (ly ax) kR ew r0 with
     | some (hX,a2),some (r,hJ)=>some (r,hX,bT++a2++hJ)
     | _,_=>none
    else none
section
variable {P:Program}
theorem vx {g:G}{s:S}{ai:el}{a:Act}{w:World}(h:b7 g s ai a w){x:ResultVar}{r0:aj}(ah:q3 P s x=some r0):
 ∃v,(DV a.tmps x).run P w = .ok v w/\Rel w (s.ok g ai w) s.aH (s.aP ai) r0 v:=by
 cases x with
 | tmp t =>
  simp only[q3,dx] at ah;subst ah;exact⟨_,rfl,h.env t⟩
 | cell t c9 =>
  simp only[q3] at ah;have U:=h.env t;split at ah;rotate_left
  ·simp at ah
  rename_i r k i off fx;rw[fx] at U;split at ah;rotate_left
  ·simp at ah
  rename_i I ae;split at ah
  ·rename_i c aJ
   have cS:s.ab r k=some I:=ae;have dY:=h.obj r k I cS;rcases U.td (gu cS) with h0|⟨b,m,af,hval⟩
   ·rw[h0] at dY;simp only[hl] at dY;rw[dY] at aJ;simp at aJ
   rw[af] at dY;obtain⟨u,o,J⟩:=C9 (P:=P) dY.rd aJ ah;refine⟨u,?_,J⟩;rw[dG] at o;simp only[DV,hval,asAddr];simpa [Instr.loadAt,Instr.sureAddr] using o
  simp at ah
theorem P0 {g:G}{s:S}{ai:el}{a:Act}{w:World}(h:b7 g s ai a w){fn:Func}{r0:aj}(ah:Ev P s fn.results.toList=some r0):
 ∃v,(results fn a.tmps).run P w = .ok v w/\Rel w (s.ok g ai w) s.aH (s.aP ai) r0 v:=by
 have Bf : ∀l,fn.results.toList=l->fn.results=l.toArray:=fun l aw=>by rw[<- aw]
 unfold Ev at ah;rw[PC];split at ah
 ·rename_i aw;simp only[dx] at ah;subst ah;rw[Bf _ aw];exact⟨.tuple #[],by simp,.dl [] rfl (by simp)⟩
 ·rename_i x aw;rw[Bf _ aw];obtain⟨v,o,J⟩:=vx h ah;exact⟨v,by simp[o,Sem.run_bind,Result.andThen],J⟩
 ·rename_i x y aw
  rw[Bf _ aw];split at ah
  ·rename_i p q af aU
   simp only[dx] at ah;subst ah;obtain⟨v1,o,J⟩:=vx h af;obtain⟨v2,an,aG⟩:=vx h aU;refine⟨.tuple #[v1,v2],by simp[o,an,Sem.run_bind,Result.andThen],.dl [v1,v2] rfl ?_⟩;intro j x v U aT
   match j,U,aT with
   | 0,U,aT=>obtain rfl:=dH U;obtain rfl:=dH aT;exact J
   | 1,U,aT=>obtain rfl:=dH U;obtain rfl:=dH aT;exact aG
   | j+2,U,aT=>simp at U
  simp at ah
 ·rename_i x y z aw
  rw[Bf _ aw];split at ah
  ·rename_i p q t af aU b3
   simp only[dx] at ah;subst ah;obtain⟨v1,o,J⟩:=vx h af;obtain⟨v2,an,aG⟩:=vx h aU;obtain⟨v3,aN,bJ⟩:=vx h b3;refine⟨.tuple #[v1,v2,v3],by simp[o,an,aN,Sem.run_bind,Result.andThen],.dl [v1,v2,v3] rfl ?_⟩;intro j x v U aT
   match j,U,aT with
   | 0,U,aT=>obtain rfl:=dH U;obtain rfl:=dH aT;exact J
   | 1,U,aT=>obtain rfl:=dH U;obtain rfl:=dH aT;exact aG
   | 2,U,aT=>obtain rfl:=dH U;obtain rfl:=dH aT;exact bJ
   | j+3,U,aT=>simp at U
  simp at ah
 simp at ah
theorem finish {g:G}{s:S}{ai:el}{a:Act}{w:World}(h:b7 g s ai a w){ax:List Nat}{cf:List gM}{ew:jH}{r0 r:aj}{hX:List (List az)}{a2 hJ:List Prop}
 (hnd:ax.Nodup) (pU:ye ax g.m=true) (o:re s.au (c4 ax) (ly ax) ax cf=some (hX,a2)) (J:mi s.au (c4 ax) (ly ax) kR ew r0=some (r,hJ)) (ow : ∀p∈a2,p) (EY : ∀p∈hJ,p)
 {v:Value} (aT:Rel w (s.ok g ai w) s.aH (s.aP ai) r0 v) :
 ∃bf,gK g (d3 hX) bf w/\Rel w ((d3 hX).ok g bf w) (d3 hX).aH ((d3 hX).aP bf) r v:=by
 obtain⟨ap,av⟩:=Dv h.togK (A1 hnd) ax cf hX a2 o ow;have ua:gl s (ly ax) kR kx r0 r:=xL h.togK (A1 hnd) (sq _) J EY trivial aT;have cb:ox s (ly ax) kR kx (d3 hX).au:=Kn hnd ap av;have yz:=Jm h.togK pU;have gH : ∀b,(d3 hX).kl (ia ai (ly ax)) b->s.kl ai b:=fun b aw=>by obtain⟨q,k,I,m,o,J,an,-⟩:=cb.live (bj:=d3 hX) b aw;exact⟨q,k,I,m,o,J,an⟩
 have ya : ∀j k,g.np j k->(d3 hX).aH j k/\((d3 hX).aP (ia ai (ly ax)) j k=g.pP j k\/(d3 hX).aP (ia ai (ly ax)) j k=none):=by
  intro j k ao;obtain⟨ap,av⟩:=h.stay j k ao;refine⟨cb.aH j k j k (yz j k ao) ap,?_⟩;rcases cb.Bt (bj:=d3 hX) (ai:=ai) (yz j k ao) with e|e
  ·rw[e];exact av
  exact .inr e
 obtain⟨f1,f2⟩:=h.togK.F1 (bj:=d3 hX) cb h.fU ya h.low h.mlt h.lX (fun r k I b m _ ae af=>h.own r k I b m ae af)
  (fun b aE=>⟨aE.1,aE.2.1,fun aw=>aE.2.2 (gH b aw)⟩)
  (fun q k I b m ae _ ah af=>by
    have aW:=h.obj q k I ae;rw[af] at aW;obtain⟨c,c9,ap,-⟩:=aW;refine⟨(Y3.1 ap).1,?_,fun aw=> ?_⟩
    ·rcases h.own q k I b m ae af with e|e
     ·exact .inr (.inl e)
     exact .inr (.inr e)
    obtain⟨dn,cA,bD,aX,f1,f2,f3,⟨wZ,rI,f4⟩⟩:=cb.live (bj:=d3 hX) b aw;obtain⟨rfl,rfl⟩:=h.inj q k I dn cA bD b m aX ae f1 af f3;exact ah wZ rI f4)
 exact⟨_,f1,f2 ua aT⟩
theorem Jp (oq:P.follows .mixedOrders=true){f:FuncId}{args:List aj}{T:List (List az)}{tape:List cy}{ax:List Nat}{cf:List gM}{ew:jH}{r:aj}{hX:List (List az)}{ab:List Prop}
 (h:yG P f args T tape ax cf ew=some (r,hX,ab)) (aW:cH ab):Con P f args T r hX:=by
 have aW:=aW.all;unfold yG at h;split at h
 ·simp at h
 rename_i fn LP;split at h
 ·simp at h
 rename_i c aJ;split at h
 ·simp at h
 rename_i Tl;split at h
 ·simp at h
 rename_i e s bT mv;split at h;rotate_left
 ·simp at h
 rename_i KY;simp only[YX,decide_eq_true_eq] at KY;obtain⟨⟨wo,hnd⟩,pU⟩:=KY;split at h
 ·simp at h
 rename_i r0 l1;split at h;rotate_left
 ·simp at h
 rename_i lE a2 bW hJ o J;simp only[dx,dC] at h;obtain⟨rfl,rfl,rfl⟩:=h;refine⟨⟨fn,LP,by simpa using Tl,by simp[aJ]⟩,?_⟩;intro g ai w vs hw hm tV jQ c3 dv hargs;have yf:(tn args T).ja T.length:=by intro q aU;simp[tn,aU]
 have X6:=c3
 let eU:G:={g with N:=fn.ntmps}
 have dY:b7 eU (tn args T) ai {tmps:=vs++Array.replicate (fn.ntmps-vs.size) undef,defers:=[]} w:=by
  have BC:(tn args T).au=(d3 T).au:=rfl;have pe:gK g (tn args T) ai w:=c3.congr BC;have UX:gK eU (tn args T) ai w:=⟨pe.obj,pe.inj,pe.own,⟨pe.fU.os,pe.fU.tape,pe.fU.output,pe.fU.size,pe.fU.block⟩,pe.mlt,pe.lX,pe.stay,pe.low⟩;refine {togK:=UX,env:=fun t=> ?_,defers:=rfl,h9:=by simp[eU];omega}
  have ap:(vs++Array.replicate (fn.ntmps-vs.size) undef).getD t undef=(vs[t]?).getD undef:=by
   rw[YY,Array.getElem?_append];split
   ·rfl
   rename_i c0;rw[Array.getElem?_replicate];have:vs[t]? = none:=(by simp;omega);rw[this];split<;>rfl
  show Rel _ _ _ _ ((args[t]?).getD (.dl [])) _;rw[ap]
  cases U:args[t]? with
  | none =>
   have:vs[t]? = none:=(by rw[List.getElem?_eq_none_iff] at U;simp;omega);rw[this];exact IQ
  | some x =>
   have c0:=eV U;have aT:vs[t]? = some vs[t]:=dO (by omega);rw[aT];have:=hargs t x _ U aT;rw[<- xK BC,<- vJ BC,<- vK BC] at this;exact this
 have aT:=I1 oq mv (by exact cH.of fun p af=>aW p (by simp[af])) yf eU ai _ w rfl hm dY;refine calls_of_wp LP aJ (wp_mono aT fun dp cP bc aU=> ?_);obtain⟨rfl,bf,gd⟩:=aU;obtain⟨v,v1,v2⟩:=P0 (P:=P) gd l1;obtain⟨jV,f1,f2⟩:=finish gd hnd (by rw[show eU.m=T.length from hm];exact pU) o J (fun p af=>aW p (by simp[af])) (fun p af=>aW p (by simp[af])) v2;have Ln:cP.defers=[]/\ ∃v,(results fn cP.tmps).run P bc = .ok v bc/\ ∃LQ bf,Ending.returned v=Ending.returned LQ/\gK g (d3 lE) bf bc/\Rel bc ((d3 lE).ok g bf bc) (d3 lE).aH ((d3 lE).aP bf) bW LQ:=by refine⟨gd.defers,v,v1,v,jV,rfl,?_,f2⟩;exact⟨f1.obj,f1.inj,f1.own,⟨f1.fU.os,f1.fU.tape,f1.fU.output,f1.fU.size,f1.fU.block⟩,f1.mlt,f1.lX,f1.stay,f1.low⟩
 cases dp<;>simp only[KX,Zd] at wo
 ·exact Ln
 exact Ln
theorem Qw (oq:P.follows .mixedOrders=true){f:FuncId}{args:List aj}{tape:List cy}{ew:jH}{r:aj}{ab:List Prop}
 (h:yG P f args [] tape [] [] ew=some (r,[],ab)) (aW:cH ab):Con P f args [] r []:=Jp oq h aW
end
def bZ {α:Type}(I:Option α)(Q:α->Prop):Prop:= ∀r,I=some r->Q r
section
variable {α β:Type} {Q:α->Prop}
theorem bZ.ite {b:Bool}{x y:Option α}(o:b=true->bZ x Q)(J:b=false->bZ y Q):bZ (if b=true then x else y) Q:=by
 cases b
 ·exact J rfl
 exact o rfl
theorem bZ.aI {I:Option β}{f:β->Option α}(h:∀x,I=some x->bZ (f x) Q):bZ (I >>= f) Q:=by
 cases I with
 | none=>intro r ah;simp at ah
 | some x=>exact h x rfl
theorem bZ.bd {p:Prop}[Decidable p] {x:Option α} (h:p->bZ x Q):bZ (if p then x else none) Q:=by
 by_cases af:p
 ·rw[dy af];exact h af
 rw[dz af];intro r ah;simp at ah
theorem bZ.ret {r:α}(h:Q r):bZ (some r) Q:=by intro x U;obtain rfl:=dH U;exact h
end
theorem bZ.LR {α:Type}{Q:α->Prop}:bZ (none:Option α) Q:=by intro r ah;simp at ah
def nodeAt:Code->List Nat->Code
 | c,[]=>c
 | .seq x _,0::l=>nodeAt x l
 | .seq _ y,1::l=>nodeAt y l
 | .cond _ x _,0::l=>nodeAt x l
 | .cond _ _ y,1::l=>nodeAt y l
 | .block _ x,0::l=>nodeAt x l
 | .loop x,0::l=>nodeAt x l
 | .scope x,0::l=>nodeAt x l
 | _,_=> .skip
def DW (P:Program)(f:FuncId):Code :=
 match P.funcs[f]? with
 | some fn=>match fn.body with
  | some c=>c
  | none=> .skip
 | none=> .skip
theorem DI {α β:Type}{f:α->β}{l:List α}{i:Nat}{x:α}(h:l[i]? = some x):(l.map f)[i]? = some (f x):=by rw[dI,h];rfl
theorem JT {α β:Type}{f:α->β}{l:List α}{j:Int}(h:j<l.length):j<((l.map f).length:Nat):=by rw[Zc];exact h
theorem Kp {α β:Type}{f:α->β}{l:List α}{j:Nat}(h:j<l.length):j<(l.map f).length:=by rw[Zc];exact h
def iter {α β:Type}(f:α->Option (α⊕β))(a:α):Option β:=do
 match <- f a with
 | .inl cP=>iter f cP
 | .inr r=>some r
partial_fixpoint
abbrev Wb:d5×Bool:=(.none,true)
abbrev Wc:d5×Bool:=(.none,false)
abbrev ii:jH:= .bG (.cV .id)
abbrev aa (x:Int):Int:=IntKind.wrap .i64 x
section
variable {P:Program} {N m:Nat} {α β:Type}
theorem RZ {c:Code}{f:α->Option (α⊕β)}{head:α->S}{fW:β->Exit}{out:β->S}(hex:∀r,fW r≠ .normal)
 (h : ∀a,bZ (f a) (Sum.elim (fun cP=>hR P N m c .normal (head a) (head cP)) (fun r=>hR P N m c (fW r) (head a) (out r)))) : ∀a r,iter f a=some r->pI P N m c (fW r) (head a) (out r):=by
 apply iter.partial_correctness f (fun a r=>pI P N m c (fW r) (head a) (out r));intro it ih a r ah
 cases bL:f a with
 | none=>rw[bL] at ah;simp at ah
 | some x =>
  have U:=h a x bL;rw[bL] at ah
  cases x with
  | inl cP =>
   have gd:it cP=some r:=ah;exact pI.next U (ih cP r gd)
  | inr dn =>
   have gd:some dn=some r:=ah;obtain rfl:=dH gd;exact pI.out U (hex _)
theorem ft {a:Bool}(h:a=true):(!a)=false:=by rw[h];rfl
theorem fo {a:Bool}(h:a=false):(!a)=true:=by rw[h];rfl
theorem R0 {a4:Type}{raw:List (List aj)}{f:a4->List aj}{l:List a4}(e:raw=l.map f){i:Nat}{x:a4}(h:l[i]? = some x):raw[i]? = some (f x):=by rw[e];exact DI h
theorem Xm {a4:Type}{raw:List (List aj)}{f:a4->List aj}{l:List a4}(e:raw=l.map f){j:Int}(h:j<l.length):j<(raw.length:Nat):=by rw[e];exact JT h
theorem Kq {a4:Type}{raw:List (List aj)}{f:a4->List aj}{l:List a4}(e:raw=l.map f){j:Nat}(h:j<l.length):j<raw.length:=by rw[e];exact Kp h
theorem qn {a4:Type}{raw:List (List aj)}{f:a4->List aj}{l:List a4}(e:raw=l.map f)(i:Nat)(x:a4):raw.set i (f x)=(l.set i x).map f:=by rw[e,List.map_set]
theorem Xn {a4:Type}{raw:List (List aj)}{f:a4->List aj}{l:List a4}(e:raw=l.map f)(x:List a4):raw++x.map f=(l++x).map f:=by rw[e,List.map_append]
theorem mN {a4:Type}(f:a4->List aj)(n:Nat)(x:a4):List.replicate n (f x)=(List.replicate n x).map f:=by rw[List.map_replicate]
theorem oT {a4:Type}{raw:List (List aj)}{f:a4->List aj}{l:List a4}(e:raw=l.map f)(i n:Nat):(raw.drop i).take n=((l.drop i).take n).map f:=by rw[e,List.map_take,List.map_drop]
theorem R1 {a4:Type}{raw:List (List aj)}{f:a4->List aj}{l:List a4}(e:raw=l.map f):raw.length=l.length:=by rw[e,Zc]
theorem Dw {a4:Type}{raw:List (List aj)}{f:a4->List aj}{l:List a4}(e:raw=l.map f)(i n:Nat):((l.drop i).take n).map f=(raw.drop i).take n:=(oT e i n).symm
theorem tf {a4:Type}{raw:List (List aj)}{f:a4->List aj}{l:List a4}(e:raw=l.map f){n:Nat}(h:n<=l.length):n<=raw.length:=by rw[R1 e];exact h
theorem ez {a4:Type}{f:a4->List aj}(bL:∀x,∀v∈f x,Pure v)(l:List a4):hy (l.map f):=by intro e he v aT;rw[List.mem_map] at he;obtain⟨x,-,rfl⟩:=he;exact bL x v aT
theorem R2 {a4:Type}{raw:List (List aj)}{f:a4->List aj}{l:List a4}{sz:Nat}{bV:e1}(e:raw=l.map f):[az.mk sz raw bV]=[az.mk sz (l.map f) bV]:=by rw[e]
theorem Rj {a4:Type}{f:a4->List aj}(bL:∀x,∀v∈f x,Pure v){sz:Nat}{bV:e1}(l:List a4):vS [az.mk sz (l.map f) bV]:=by intro I ae;rw[List.mem_singleton] at ae;subst ae;exact ez bL l
theorem nF {c:List aj}(h:∀v∈c,Pure v):hy [c]:=by intro e he;rw[List.mem_singleton] at he;subst he;exact h
theorem Xe {a4:Type}{raw:List (List aj)}{f:a4->List aj}{l:List a4}(e:raw=l.map f):l.map f=(raw.drop 0).take l.length:=by rw[e,List.drop_zero,Y0 (by simp)]
theorem Xo {a4:Type}{raw:List (List aj)}{f:a4->List aj}{l:List a4}(e:raw=l.map f):0+l.length<=raw.length:=by rw[e];simp
theorem Kr : ∀x∈([]:List aj),cm x:=by simp
theorem tg {x:aj}{l:List aj}(h:cm x)(t:∀y∈l,cm y): ∀y∈x::l,cm y:=by
 intro y aK;rw[YW] at aK;rcases aK with rfl|aK
 ·exact h
 exact t y aK
theorem SG {l:List aj}(h:∀y∈l,cm y):cm (.dl l):= .dl h
def len_ {a4:Type}(f:a4->List aj)(l:List a4):Int:=((l.map f).length:Nat)
theorem h2 {a4:Type}(f:a4->List aj)(l:List a4):len_ f l=(l.length:Nat):=by simp[len_]
def R (x:Int):List aj:=[.n .i64 x]
def eU8 (x:Int):List aj:=[.n .u8 x]
def eI (x:Bool):List aj:=[.b x]
def us (x:ByteArray):List aj:=[.s x]
theorem aB : ∀x,∀v∈R x,Pure v:=by intro x v aT;simp[R] at aT;subst aT;exact .n _ _
theorem Jq : ∀x,∀v∈eU8 x,Pure v:=by intro x v aT;simp[eU8] at aT;subst aT;exact .n _ _
theorem d1 : ∀x,∀v∈eI x,Pure v:=by intro x v aT;simp[eI] at aT;subst aT;exact .b _
theorem JU : ∀x,∀v∈us x,Pure v:=by intro x v aT;simp[us] at aT;subst aT;exact .s _
def ej {a4:Type}(sz:Nat)(f:a4->List aj)(l:List a4):List aj:=[.isl sz (l.map f)]
theorem nH {a4:Type}{sz:Nat}{f:a4->List aj}(bL:∀x,∀v∈f x,Pure v): ∀l,∀v∈ej sz f l,Pure v:=by intro l v aT;simp[ej] at aT;subst aT;exact .isl (ez bL l)
def sF {a4:Type}(sz:Nat)(f:a4->List aj)(x:Option a4):aj:= .iA sz (x.map f)
def B4 {a4:Type}(sz:Nat)(f:a4->List aj)(x:Option a4):List aj:=[sF sz f x]
theorem R3 {a4:Type}{sz:Nat}{f:a4->List aj}(bL:∀x,∀v∈f x,Pure v)(x:Option a4):Pure (sF sz f x):=by
 cases x with
 | none=>exact .nO _
 | some x=>exact .nj (bL x)
theorem Xp {a4:Type}{sz:Nat}{f:a4->List aj}(bL:∀x,∀v∈f x,Pure v): ∀x,∀v∈B4 sz f x,Pure v:=by intro x v aT;simp[B4] at aT;subst aT;exact R3 bL x
theorem R4 {a4:Type}{sz:Nat}{f:a4->List aj}{x:Option a4}(h:x=none):sF sz f x = .iA sz none:=by rw[h];rfl
theorem R5 {a4:Type}{sz:Nat}{f:a4->List aj}{x:Option a4}{y:a4}(h:x=some y):sF sz f x = .iA sz (some (f y)):=by rw[h];rfl
theorem bZ.LS {α a4:Type}{Q:α->Prop}{I:Option a4}{x:Option α}{f:a4->Option α}(o:I=none->bZ x Q)(J:∀y,I=some y->bZ (f y) Q):bZ (I.elim x f) Q:=by
 cases I with
 | none=>exact o rfl
 | some y=>exact J y rfl
theorem bZ.sum {α β a4:Type}{Q:a4->Prop}{s:α⊕β}{f:α->Option a4}{g:β->Option a4}(o:∀a,s = .inl a->bZ (f a) Q)(J:∀b,s = .inr b->bZ (g b) Q):
 bZ (match s with | .inl a=>f a | .inr b=>g b) Q:=by
 cases s with
 | inl a=>exact o a rfl
 | inr b=>exact J b rfl
theorem DJ {a4:Type}{n:Nat}{l:List a4}(h:n=l.length)(i:Nat)(x:a4):n=(l.set i x).length:=by rw[List.length_set];exact h
theorem nb {a4:Type}(n:Nat)(x:a4):n=(List.replicate n x).length:=by rw[List.length_replicate]
theorem DX {a4:Type}{raw:List (List aj)}{f:a4->List aj}{l:List a4}(e:raw=l.map f){n:Nat}(h:n=l.length):(raw.drop 0).take n=l.map f:=by rw[e,h,List.drop_zero,Y0 (by simp)]
theorem mK {a4:Type}{rx i5:List (List aj)}{f:a4->List aj}{xs a3:List a4}(fW:rx=xs.map f){n:Nat}(h:n=xs.length)(hh:i5=a3.map f):rx.take n++i5=(xs++a3).map f:=by rw[fW,hh,h,Y0 (by simp),List.map_append]
theorem Dx {a4:Type}{rx i5:List (List aj)}{f:a4->List aj}{xs a3:List a4}(fW:rx=xs.map f)(n:Nat)(hh:i5=a3.map f):rx.take n++i5=(xs.take n++a3).map f:=by rw[fW,hh,List.map_append,List.map_take]
theorem li {a4:Type}{raw:List (List aj)}{f:a4->List aj}{l:List a4}(e:raw=l.map f){n:Nat}(h:n=l.length):0+n<=raw.length:=by rw[e,h];simp
theorem pC {a4:Type}{raw:List (List aj)}{f:a4->List aj}{l:List a4}(e:raw=l.map f){n:Nat}(h:n=l.length):n<=raw.length:=by rw[e,h];simp
theorem Ks {a4:Type}{raw:List (List aj)}{f:a4->List aj}{l:List a4}(e:raw=l.map f):l.length=raw.length:=by rw[e];simp
theorem qo {a4:Type}{i5:List (List aj)}{f:a4->List aj}{xs a3:List a4}{n:Nat}(h:n=xs.length)(hh:i5=a3.map f):(xs++a3).length=n+i5.length:=by rw[hh,h];simp
theorem Dy {a4:Type}{i5:List (List aj)}{f:a4->List aj}{xs a3:List a4}{n:Nat}(h:n<=xs.length)(hh:i5=a3.map f):(xs.take n++a3).length=n+i5.length:=by rw[hh];simp;omega
theorem kk {a4:Type}{raw:List (List aj)}{f:a4->List aj}{l:List a4}(e:raw=l.map f){n:Nat}(h:n=l.length):l.map f=(raw.drop 0).take n:=(DX e h).symm
theorem Qx {a4:Type}{f:a4->List aj}(bL:∀x,∀v∈f x,Pure v){sz:Nat}(l:List a4):r2 [az.mk sz (l.map f) .live]:=by intro I ae;rw[List.mem_singleton] at ae;subst ae;exact⟨ez bL l,rfl⟩
theorem WL:r2 []:=by intro I ae;simp at ae
theorem qk {a4:Type}{raw:List (List aj)}{f:a4->List aj}{l:List a4}(e:raw=l.map f)(i:Nat){c:List aj}(x:a4)(aJ:c=f x):raw.set i c=(l.set i x).map f:=by rw[e,aJ,List.map_set]
theorem Con.iy {P:Program}{f:FuncId}{sz:Nat}{T:List (List az)}{r:aj}{hX:List (List az)}(o:Con P f [.eC] T r hX)(J:Con P f [.gT] T r hX):Con P f [.isl sz []] T r hX:=by
 refine⟨o.1,?_⟩;intro g ai w vs hw hm tV jQ c3 dv hargs;have h0:0<vs.size:=by rw[dv];simp
 have aT:=hargs 0 (.isl sz []) vs[0] rfl (dO h0)
 have key : ∀y:aj,Rel w ((d3 T).ok g ai w) (d3 T).aH ((d3 T).aP ai) y vs[0]-> ∀(j:Nat) x v,[y][j]? = some x->vs[j]? = some v->Rel w ((d3 T).ok g ai w) (d3 T).aH ((d3 T).aP ai) x v:=by
  intro y aK j x v U aT
  match j,U,aT with
  | 0,U,aT =>
   obtain rfl:=dH U;rw[dO h0] at aT;obtain rfl:=dH aT;exact aK
  | j+1,U,aT=>simp at U
 rcases aT.q1 with ⟨-,a,c,he,bs⟩|⟨cY,off,c,-,he,-⟩
 ·cases a with
  | none =>
   have:=bs rfl;subst this;exact o.2 g ai w vs hw hm tV jQ c3 dv (key .eC (by rw[he];exact .eC))
  | some a=>exact J.2 g ai w vs hw hm tV jQ c3 dv (key .gT (by rw[he];exact .gT a c))
 exact J.2 g ai w vs hw hm tV jQ c3 dv (key .gT (by rw[he];exact .gT _ c))
end
open Go Go.ChangeShapes Go.WideShapes Go.RowKit
def mL (w:World)(c:List aj)(cs:List Value):Prop :=
 cs.length=c.length/\ ∀(j:Nat) x v,c[j]? = some x->cs[j]? = some v->iJ v=true/\Rel w (fun b=>b<w.heap.size) (fun _ _=>False) (fun _ _=>none) x v
theorem mL.nil (w:World):mL w [] []:=⟨rfl,fun j x v U=>by simp at U⟩
theorem mL.one {w:World}{x:aj}{v:Value}(aJ:iJ v=true)(h:Rel w (fun b=>b<w.heap.size) (fun _ _=>False) (fun _ _=>none) x v):mL w [x] [v]:=by
 refine⟨rfl,fun j y u aK hu=> ?_⟩
 match j,aK,hu with
 | 0,aK,hu=>obtain rfl:=dH aK;obtain rfl:=dH hu;exact⟨aJ,h⟩
 | j+1,aK,hu=>simp at aK
structure pJ (P:Program) (w:World) (t:TypeId) {α:Type} (f:α->List aj) (ef:α->Prop):Prop where
 pure : ∀a,∀v∈f a,Pure v
 size : ∀a,(f a).length=P.cellsOf t
 opens : ∀ {H:Type} {enc:TypeId×Value->H} {base:Nat} {spare:Nat->Bool} {held:Bool} {oo:Nat} {cs:List Value} {x:DataW H×List MemPlace},
  DataW.trod enc P w base spare held oo t cs=some x-> ∃a,ef a/\mL w (f a) cs
section
variable {P:Program} {w:World} {t:TypeId}
def wu (x:Int):Prop:=(Lit.int .i64 x).wf=true
theorem W1 (b3:P.underlying t=some (.int .i64))(aJ:P.cellsOf t=1):pJ P w t R wu where
 pure:=aB
 size:=fun a=>aJ.symm
 opens:=fun h=>by obtain⟨n,rfl,-,hw⟩:=DataW.trod_int b3 h;exact⟨n,hw,.one rfl (.n _ _)⟩
theorem WW (b3:P.underlying t=some .bool)(aJ:P.cellsOf t=1):pJ P w t eI (fun _=>True) where
 pure:=d1
 size:=fun a=>aJ.symm
 opens:=fun h=>by obtain⟨n,rfl,-⟩:=DataW.trod_bool b3 h;exact⟨n,trivial,.one rfl (.b _)⟩
theorem WN (b3:P.underlying t=some .string)(aJ:P.cellsOf t=1):pJ P w t us (fun s=>s.size<=maxLen) where
 pure:=JU
 size:=fun a=>aJ.symm
 opens:=fun h=>by obtain⟨n,rfl,-,hw⟩:=DataW.trod_string b3 h;exact⟨n,hw,.one rfl (.s _)⟩
theorem JV {α:Type}{Q:Nat->α->Prop}: ∀(n:Nat),(∀i,i<n-> ∃a,Q i a)-> ∃l:List α,l.length=n/\ ∀(i:Nat) a,l[i]? = some a->Q i a
 | 0,_=>⟨[],rfl,fun i a h=>by simp at h⟩
 | n+1,h=>by
  obtain⟨l,o,J⟩:=JV n fun i ad=>h i (by omega);obtain⟨a,bs⟩:=h n (by omega);refine⟨l++[a],by simp[o],fun i x U=> ?_⟩;rw[List.getElem?_append] at U;split at U
  ·exact J i x U
  have:i=l.length:=(by have:=eV U;simp at this;omega);subst this;simp at U;subst U;rw[o];exact bs
theorem PD {e:TypeId}{α:Type}{f:α->List aj}{ef:α->Prop}{sz:Nat}(b3:P.underlying t=some (.slice e))(aJ:P.cellsOf t=1)(dv:P.cellsOf e=sz)(iz:0<sz)(he:pJ P w e f ef):
 pJ P w t (ej sz f) (fun l=>l.length<=maxLen/\ ∀x∈l,ef x) where
 pure:=nH he.pure
 size:=fun a=>aJ.symm
 opens:=fun h=>by
  rcases DataW.trod_slice b3 h with ⟨rfl,-⟩|⟨a,len,cap,elems,rest,n,_,rfl,rfl,aE,aw,hm,hlen,k4,LD,yN⟩
  ·exact⟨[],⟨by simp,by simp⟩,.one rfl (.iy _ _ _ (fun _=>rfl))⟩
  subst dv;have each : ∀i,i<len-> ∃x,ef x/\ ∀j,j<P.cellsOf e-> ∃y v,(f x)[j]? = some y/\w.cell? ((a.add (i*P.cellsOf e)).add j)=some v/\iJ v=true/\Rel w (fun b=>b<w.heap.size) (fun _ _=>False) (fun _ _=>none) y v:=(by intro i ad;have o:=k4 i ad;rw[dw (by omega),Option.bind_eq_some_iff] at o;obtain⟨jT,J,an⟩:=o;obtain⟨x,aG,aN,bJ⟩:=he.opens an;refine⟨x,aG,fun j ao=> ?_⟩;obtain⟨-,bG,cq⟩:=World.cells?_some J;have aK:(f x)[j]? = some (f x)[j]:=dw (by rw[he.size];exact ao);have aT:jT[j]? = some jT[j]:=dw (by omega);obtain⟨sD,pr⟩:=bJ j _ _ aK aT;exact⟨_,_,aK,by rw[cq j ao,aT],sD,pr⟩);obtain⟨l,mE,po⟩:=JV len each;refine⟨l,⟨by omega,fun x U=> ?_⟩,.one rfl ?_⟩
  ·obtain⟨i,ad⟩:=Y2 U;exact(po i x ad).1
  rcases Nat.eq_zero_or_pos len with h0|h0
  ·subst h0;have:l=[]:=dJ.1 mE;subst this;exact .iy _ _ _ (by simp)
  obtain⟨cY,off,spot⟩:=a
  have Tm:spot=none/\cY<w.heap.size:=by
   obtain⟨x,-,J⟩:=each 0 h0;obtain⟨y,v,-,an,-⟩:=J 0 iz;simp only[Nat.zero_mul,Addr.add,if_true] at an;unfold World.cell? at an
   cases eP:w.heap[cY]? with
   | none=>simp[eP] at an
   | some I =>
    have c0:=(Y3.1 eP).1;refine⟨?_,c0⟩;simp only[eP] at an;cases I<;>simp at an
    cases spot with
    | none=>rfl
    | some _=>simp at an
  obtain⟨rfl,rf⟩:=Tm;have gU:m1 w (fun b=>b<w.heap.size) (fun _ _=>False) (fun _ _=>none) cY off (P.cellsOf e) (l.map f):=(by have hle : ∀z∈l.map f,z.length=P.cellsOf e:=(by intro z bY;rw[List.mem_map] at bY;obtain⟨x,-,rfl⟩:=bY;exact he.size x);refine⟨hle,fun j x U=> ?_⟩;have ao:j<len*P.cellsOf e:=(by have:=eV U;rw[qg _ hle,Zc,mE] at this;exact this);have ad:j / P.cellsOf e<len:=Nat.div_lt_of_lt_mul (by rw[Nat.mul_comm];exact ao);have ah:j % P.cellsOf e<P.cellsOf e:=Nat.mod_lt _ iz;have pb:j=j / P.cellsOf e*P.cellsOf e+j % P.cellsOf e:=(by rw[Nat.mul_comm];exact(Nat.div_add_mod j _).symm);have LU:l[j / P.cellsOf e]? = some (l[j / P.cellsOf e]'(by omega)):=dw _;have UY:(l.map f)[j / P.cellsOf e]? = some (f (l[j / P.cellsOf e]'(by omega))):=DI LU;obtain⟨y,v,ap,av,bS,dj⟩:=(po _ _ LU).2 _ ah;have h5:=xz hle UY ah;rw[<- pb,U,ap] at h5;obtain rfl:=dH h5;refine⟨v,?_,bS,dj⟩;rw[pz,pz] at av;rw[pb];rw[Nat.add_assoc] at av;exact av);have:=gU.isl (c:=cap) ⟨rf,ez he.pure l⟩ (by rw[Zc];omega);rw[Zc,mE] at this;exact this
theorem mL.ba {bG cq:List aj}{cs:List Value}{I n:Nat}(o:mL w bG ((cs.drop I).take n))(J:mL w cq (cs.drop (I+n)))(aZ:bG.length=n):mL w (bG++cq) (cs.drop I):=by
 obtain⟨ap,av⟩:=o;obtain⟨f1,f2⟩:=J;have SH:cs.drop I=(cs.drop I).take n++cs.drop (I+n):=by rw[<- List.drop_drop,List.take_append_drop]
 rw[SH];refine⟨by rw[dE,dE,ap,f1],fun j x v U aT=> ?_⟩;rw[List.getElem?_append] at U aT;rw[ap] at aT;split at U
 ·rename_i ao;rw[dy ao] at aT;exact av j x v U aT
 rename_i ao;rw[dz ao] at aT;exact f2 _ x v U aT
theorem WO {jk:Array Field}(b3:P.underlying t=some (.struct jk)){H:Type}{enc:TypeId×Value->H}{base:Nat}{spare:Nat->Bool}{held:Bool}{oo:Nat}{cs:List Value}{x:DataW H×List MemPlace}
 (h:DataW.trod enc P w base spare held oo t cs=some x) :
 cs.length=P.cellsOf t/\ ∀(i:Nat) (fd:Field),jk[i]? = some fd-> ∀ {α:Type} {f:α->List aj} {ef:α->Prop},pJ P w fd.type f ef-> ∃a,ef a/\mL w (f a) ((cs.drop fd.offset).take (P.cellsOf fd.type)):=by
 obtain⟨xs,n,-,-,o,J,an⟩:=DataW.trod_struct b3 h;refine⟨o,fun i fd sn α f ef ae=> ?_⟩;have ad:i<xs.length:=by rw[J];exact(Y3.1 sn).1
 have aG:=an i fd sn;rw[dw ad] at aG;exact ae.opens aG
theorem Xf {jk:Array Field}{cs:List Value}
 (h : ∀(i:Nat) (fd:Field),jk[i]? = some fd-> ∀ {α:Type} {f:α->List aj} {ef:α->Prop},pJ P w fd.type f ef-> ∃a,ef a/\mL w (f a) ((cs.drop fd.offset).take (P.cellsOf fd.type)))
 (i off n:Nat) {fd:Field} (sn:jk[i]? = some fd) (ae:fd.offset=off) (aZ:P.cellsOf fd.type=n) {α:Type} {f:α->List aj} {ef:α->Prop} (I:pJ P w fd.type f ef) : ∃a,ef a/\mL w (f a) ((cs.drop off).take n):=by
 subst ae;subst aZ;exact h i fd sn I
theorem mL.end_ {cs:List Value}{n:Nat}(h:cs.length<=n):mL w [] (cs.drop n):=by rw[List.drop_of_length_le h];exact .nil w
theorem Pd {x:aj}{v:Value}(h:mL w [x] v.cells.toList)(aT:∀cs,v≠ .agg cs):Rel w (fun b=>b<w.heap.size) (fun _ _=>False) (fun _ _=>none) x v:=by
 have aJ:v.cells.toList=[v]:=by cases v<;>first|rfl|exact absurd rfl (aT _)
 rw[aJ] at h;exact(h.2 0 x v rfl rfl).2
theorem P1 {c:List aj}{cs:Array Value}(h:mL w c (Value.agg cs).cells.toList):Rel w (fun b=>b<w.heap.size) (fun _ _=>False) (fun _ _=>none) (.agg c) (.agg cs):=by have aJ:(Value.agg cs).cells.toList=cs.toList:=rfl;rw[aJ] at h;have J:=Rel.agg (c:=c) cs.toList h.1 (fun j v aT=>by have ao:=eV aT;have U:c[j]? = some (c[j]'(by rw[<- h.1];exact ao)):=dw _;exact(h.2 j _ v U aT).1) (fun j x v U aT=>(h.2 j x v U aT).2);simpa using J
theorem arg_one {α:Type}{f:α->aj}{F:α->List aj}{ef:α->Prop}(ae:pJ P w t F ef)(zz:∀a,F a=[f a]){H:Type}{enc:TypeId×Value->H}{base:Nat}{spare:Nat->Bool}{held:Bool}{v:Value}{d:DataW H}{hT:List MemPlace}
 (h:DataW.Trod enc P w base spare held t v d hT) (aT : ∀cs,v≠ .agg cs) : ∃a,ef a/\Rel w (fun b=>b<w.heap.size) (fun _ _=>False) (fun _ _=>none) (f a) v:=by
 obtain⟨oo,bL⟩:=h;obtain⟨a,o,J⟩:=ae.opens bL;rw[zz] at J;exact⟨a,o,Pd J aT⟩
theorem Xq {α:Type}{F:α->List aj}{ef:α->Prop}(ae:pJ P w t F ef){H:Type}{enc:TypeId×Value->H}{base:Nat}{spare:Nat->Bool}{held:Bool}{cs:Array Value}{d:DataW H}{hT:List MemPlace}
 (h:DataW.Trod enc P w base spare held t (.agg cs) d hT) : ∃a,ef a/\Rel w (fun b=>b<w.heap.size) (fun _ _=>False) (fun _ _=>none) (.agg (F a)) (.agg cs):=by
 obtain⟨oo,bL⟩:=h;obtain⟨a,o,J⟩:=ae.opens bL;exact⟨a,o,P1 J⟩
def vT (w:World)(args:List aj)(vs:List Value):Prop :=
 vs.length=args.length/\ ∀(j:Nat) x v,args[j]? = some x->vs[j]? = some v->Rel w (fun b=>b<w.heap.size) (fun _ _=>False) (fun _ _=>none) x v
theorem vT.nil:vT w [] []:=⟨rfl,fun j x v U=>by simp at U⟩
theorem vT.cons {x:aj}{v:Value}{args:List aj}{vs:List Value}(h:Rel w (fun b=>b<w.heap.size) (fun _ _=>False) (fun _ _=>none) x v)(t:vT w args vs):vT w (x::args) (v::vs):=by
 refine⟨by simp[t.1],fun j y u aK hu=> ?_⟩
 match j,aK,hu with
 | 0,aK,hu=>obtain rfl:=dH aK;obtain rfl:=dH hu;exact h
 | j+1,aK,hu=>exact t.2 j y u (by simpa using aK) (by simpa using hu)
theorem trod_lt' {H:Type}{enc:TypeId×Value->H}{base:Nat}{spare:Nat->Bool}{held:Bool}{v:Value}{d:DataW H}{hT:List MemPlace}(h:DataW.Trod enc P w base spare held t v d hT): ∀p∈hT,p.block<w.heap.size:=by obtain⟨oo,bL⟩:=h;exact DataW.trod_lt oo t v.cells.toList (d,hT) bL
theorem Con.row {f:FuncId}{args:List aj}{b:Bool}(h:Con P f args [] (.b b) []){vs:List Value}(bs:vT w args vs):
 Calls P f vs.toArray w fun e bc=>e = .returned (.bool b)/\Below w.heap.size w bc:=by
 let g:G:={lc:=w,A:=fun b=>b<w.heap.size,nX:=fun _=>False,N:=0,m:=0,np:=(d3 []).aH,pP:=(d3 []).aP fun _ _=>none}
 have aW : ∀r k,(d3 []).ab r k=none:=by intro r k;simp[S.ab,d3,cB]
 have c3:gK g (d3 []) (fun _ _=>none) w:=by
  have hP : ∀j k,¬(d3 []).aH j k:=fun j k ao=>(by simp[S.aH,d3] at ao);refine⟨?_,?_,?_,⟨rfl,rfl,rfl,dF _,fun _ _ _=>rfl⟩,?_,?_,?_,?_⟩
  ·intro r k I ae;rw[aW] at ae;simp at ae
  ·intro r k I dn cA bD b m aX ae;rw[aW] at ae;simp at ae
  ·intro r k I b m ae;rw[aW] at ae;simp at ae
  ·intro b aE;exact aE.elim
  ·intro b aE;exact aE
  ·intro j k ao;exact absurd ao (hP j k)
  intro j k ao;exact absurd ao (hP j k)
 have aJ:=h.2 g (fun _ _=>none) w vs.toArray rfl rfl rfl rfl c3 (by simpa using bs.1) (fun j x v U aT=>(bs.2 j x v U (by simpa using aT)).mono
  (fun b aE=>⟨aE,.inl aE,fun aw=>by obtain⟨r,k,I,m,o,-⟩:=aw;rw[aW] at o;simp at o⟩) (fun _ _=>rfl) (fun r k ah=>ah.elim) (fun r k ah=>ah.elim))
 refine aJ.mono fun e bc aU=> ?_;obtain⟨v,bf,rfl,o,J⟩:=aU;have aT:=J.sa;subst aT;exact⟨rfl,o.fU.os,o.fU.tape,o.fU.output,o.fU.size,fun k aL=>o.fU.block k aL id⟩
end
abbrev YN:az:=⟨0,[],.gone⟩
abbrev cr:=Option (Nat×Nat)
abbrev lG (dd c sz:Nat)(h:cr):aj:= .hf dd c sz h
def cl (dd c sz:Nat)(h:cr):List aj:=[lG dd c sz h]
theorem Xr {dd c sz:Nat}{h:cr}(e:h=none):jt (lG dd c sz h) (.isl sz []):=by rw[e];exact .gm _ _ _
theorem nI {dd c sz:Nat}{h:cr}{p:Nat×Nat}(e:h=some p):jt (lG dd c sz h) (.bz dd (p.1+c) 0 p.2):=by rw[e];exact .s1 _ _ _ _ _
theorem KZ {x v:aj}(e:x=v):jt x v:=e▸ .refl x
def wM:List aj->List aj->Prop
 | [],[]=>True
 | a::l,b::m=>jt a b/\wM l m
 | _,_=>False
theorem wM.at_ : ∀ {l m:List aj},wM l m->m.length=l.length/\ ∀(j:Nat) x ca,l[j]? = some x->m[j]? = some ca->jt x ca
 | [],[],_=>⟨rfl,fun j x ca h=>by simp at h⟩
 | a::l,b::m,h=>⟨by simp[(wM.at_ h.2).1],fun j x ca U cL=>by
  cases j with
  | zero=>simp at U cL;subst U;subst cL;exact h.1
  | succ j=>exact(wM.at_ h.2).2 j x ca (by simpa using U) (by simpa using cL)⟩
 | [],_::_,h=>h.elim
 | _::_,[],h=>h.elim
theorem Xx {l m:List aj}(h:wM l m):jt (.agg l) (.agg m):= .agg h.at_.1 h.at_.2
theorem Tn {bP:Nat->Option Nat}{dd pf c sz:Nat}(b3:bP dd=some pf)(h:cr):mz bP (lG dd c sz h)=lG pf c sz h:=by simp only[lG,mz,b3]
theorem To {ax:fA}{dd pf c cX sz:Nat}(hm:∀k,ax pf (k+cX)=some (dd,k+c))(h:cr):wL ax (lG dd c sz h) (lG pf cX sz h):= .inr (.inr (.inr ⟨dd,c,sz,h,pf,cX,rfl,hm,rfl⟩))
theorem Tp (dd c sz:Nat)(h:cr):cm (lG dd c sz h):= .hf _ _ _ _
def ij {α:Type}(bV:e1)(sz:Nat)(f:α->List aj)(l:List α):az:=⟨sz,l.map f,bV⟩
section
variable {α:Type} {sz:Nat} {bV:e1} {f:α->List aj} {P:List (List α)} {raw:List az}
theorem kS (e:raw=P.map (ij bV sz f))(aL:bV≠ .gone){k:Nat}{l:List α}(h:P[k]? = some l):cB (some raw) k=some (az.mk sz (l.map f) bV):=by rw[e,iV,dI,h];exact dz aL
theorem kg:e1.live≠ .gone:=by simp
theorem YO:e1.h4≠ .gone:=by simp
theorem Xy (e:raw=P.map (ij .live sz f)):km raw=P.map (ij .h4 sz f):=by rw[e];unfold km;rw[List.map_map];rfl
theorem Xz (P:List (List α)):P.map (ij bV sz f)=P.map (ij bV sz f):=rfl
theorem qq (e:raw=P.map (ij bV sz f))(k:Nat){l:List α}{es:List (List aj)}(aw:es=l.map f):raw.set k (az.mk sz es bV)=(P.set k l).map (ij bV sz f):=by rw[e,aw,List.map_set];rfl
theorem SI (bV:e1)(sz:Nat)(f:α->List aj):([]:List az)=([]:List (List α)).map (ij bV sz f):=rfl
theorem SJ (e:raw=P.map (ij bV sz f)){n:Nat}(h:n=P.length):raw.length=n:=by rw[e,h,Zc]
theorem Rk (a b n:Nat): ∀ {x:aj},Pure x->je a b n x=x:=by
 intro x h;have aw : ∀c:List aj,(∀x∈c,je a b n x=x)->je.wF a b n c=c:=by intro c aJ;rw[AN];exact(Y8 aJ).trans (List.map_id _)
 induction h with
 | agg h ih=>rw[je,aw _ ih]
 | dl h ih=>rw[je,aw _ ih]
 | _=>rfl
theorem Rl (af:∀x,∀v∈f x,Pure v)(a b n:Nat){es:List (List aj)}{l:List α}(e:es=l.map f):es.map (fun e=>e.map (je a b n))=l.map f:=by rw[e,List.map_map];refine Y8 fun x _=> ?_;exact(Y8 fun v aT=>Rk a b n (af x v aT)).trans (List.map_id _)
theorem Kt (e:raw=P.map (ij bV sz f)){Q:List (List α)}{bW:List az}(h:bW=Q.map (ij bV sz f)):raw++bW=(P++Q).map (ij bV sz f):=by rw[e,h,List.map_append]
theorem K0 (af:∀x,∀v∈f x,Pure v)(a b n:Nat){es:List (List aj)}{l:List α}(h:es=l.map f){bW:List az}{Q:List (List α)}(t:bW.map (kX a b n)=Q.map (ij bV sz f)):
 (az.mk sz es bV::bW).map (kX a b n)=(l::Q).map (ij bV sz f):=by
 simp only[List.map_cons,t,kX,Rl af a b n h];rfl
theorem K1 (a b n:Nat):([]:List az).map (kX a b n)=([]:List (List α)).map (ij bV sz f):=rfl
def k6 (P:List (List α)):cr->List α
 | none=>[]
 | some (k,n)=>(P.getD k []).take n
def ub (P:List (List α)):cr->Bool
 | none=>true
 | some (k,n)=>decide (k<P.length) && decide (n<=(P.getD k []).length)
def wN (dd:Nat)(il:List az)(bw:e1->Bool):List aj->List aj->Prop
 | [],[]=>True
 | a::l,b::m=>yW dd il bw a b/\wN dd il bw l m
 | _,_=>False
theorem JW {dd:Nat}{il:List az}{bw:e1->Bool}: ∀ {l m:List aj},wN dd il bw l m->m.length=l.length
 | [],[],_=>rfl
 | _::_,_::_,h=>by simp[JW h.2]
 | [],_::_,h=>h.elim
 | _::_,[],h=>h.elim
theorem Ku {dd:Nat}{il:List az}{bw:e1->Bool}: ∀ {l m:List aj},wN dd il bw l m-> ∀(j:Nat) x ca,l[j]? = some x->m[j]? = some ca->yW dd il bw x ca
 | _::_,_::_,h,0,x,ca,o,J=>by simp at o J;subst o;subst J;exact h.1
 | _::_,_::_,h,j+1,x,ca,o,J=>Ku h.2 j x ca (by simpa using o) (by simpa using J)
 | [],_,_,_,_,_,o,_=>by simp at o
theorem XA {dd:Nat}{il:List az}{bw:e1->Bool}{x:aj}(h:x.hk=true):yW dd il bw x x:= .inl ⟨rfl,h⟩
theorem Tq {dd c:Nat}{sc:List az}{bw:e1->Bool}(e:raw=P.map (ij bV sz f))(af:∀x,∀v∈f x,Pure v)(aJ:sc.length=c)(aL:bV≠ .gone)(bs:bw bV=true): ∀ {h:cr},ub P h=true ->
 yW dd (sc++raw) bw (lG dd c sz h) (.isl sz ((k6 P h).map f))
 | none,_=> .inr (.inl ⟨c,sz,rfl,rfl⟩)
 | some (k,n),jS=>by
  simp only[ub,YX,decide_eq_true_eq] at jS;obtain⟨o,J⟩:=jS;have LV:P[k]? = some P[k]:=dw o;have cZ:P.getD k []=P[k]:=(by simp[List.getD,LV]);rw[cZ] at J;refine .inr (.inr ⟨k+c,0,n,az.mk sz (P[k].map f) bV,.inr ⟨c,sz,k,rfl,rfl,rfl⟩,?_,bs,by simpa using J,?_,?_⟩)
  ·have:=kS e aL LV;rw[iV] at this ⊢;rw[Y6 (by omega),aJ,show k+c-c=k by omega];exact this
  ·intro e he x U;rw[List.drop_zero] at he;have he:=List.mem_of_mem_take he;rw[List.mem_map] at he;obtain⟨y,-,rfl⟩:=he;exact af y x U
  simp only[k6,cZ,List.drop_zero,List.map_take]
end
theorem AR {α β:Type}{f:α->List aj}{g:β->List aj}{v:α->β}{dd:Nat}{il:List az}{bw:e1->Bool}{sz:Nat}{raw:List (List aj)}{xs:List α}(e:raw=xs.map f)(cZ:∀y,(g y).length=sz)
 (h : ∀x∈xs,wN dd il bw (f x) (g (v x))) {n:Nat} (aZ:n=xs.length):zy dd il bw sz ((raw.drop 0).take n) ((xs.map v).map g):=by
 have e0:(raw.drop 0).take n=xs.map f:=by rw[List.drop_zero,aZ,e,Y0 (by simp)]
 rw[e0];have bL : ∀x∈xs,(f x).length=sz:=fun x U=>by rw[<- JW (h x U),cZ]
 refine⟨by simp,fun e he=> ?_,fun j x ca U cL=> ?_⟩
 ·rw[List.mem_map] at he;obtain⟨y,-,rfl⟩:=he;exact cZ y
 rcases Nat.eq_zero_or_pos sz with h0|bN
 ·have : ∀l:List α,(∀x∈l,(f x).length=sz)->(l.map f).flatten=[]:=by
   intro l aw
   induction l with
   | nil=>rfl
   | cons a l ih =>
    have o:=aw a (by simp);rw[h0] at o;rw[List.map_cons,dS,ih fun x U=>aw x (by simp[U]),dJ.1 o];rfl
  rw[this xs bL] at U;simp at U
 rw[nD bN _ (by intro e he;rw[List.mem_map] at he;obtain⟨y,aK,rfl⟩:=he;exact bL y aK)] at U;rw[nD bN _ (by intro e he;rw[List.mem_map] at he;obtain⟨y,-,rfl⟩:=he;exact cZ y)] at cL;rw[dI,dI] at cL;rw[dI] at U
 cases aK:xs[j / sz]? with
 | none=>rw[aK] at U;simp at U
 | some y =>
  rw[aK] at U cL;simp only[dN,dB] at U cL;exact Ku (h y (dD aK)) _ x ca U cL
theorem Xs {dd:Nat}{il:List az}{bw:e1->Bool}{sz:Nat}{α:Type}{f:α->List aj}{raw:List (List aj)}{l:List α}(e:raw=l.map f)(aw:∀x,(f x).length=sz)(aZ:∀x,∀v∈f x,v.hk=true){bb n:Nat}(gQ:bb+n<=raw.length):
 zy dd il bw sz ((raw.drop bb).take n) (((l.drop bb).take n).map f):=by
 have ap:(raw.drop bb).take n=((l.drop bb).take n).map f:=by rw[e,List.map_take,List.map_drop]
 rw[ap];refine⟨rfl,fun e he=> ?_,fun j x ca U cL=> ?_⟩
 ·rw[List.mem_map] at he;obtain⟨y,-,rfl⟩:=he;exact aw y
 rw[U] at cL;simp at cL;subst cL;obtain⟨e,he,pa⟩:=qQ U;rw[List.mem_map] at he;obtain⟨y,-,rfl⟩:=he;exact .inl ⟨rfl,aZ y x pa⟩
section
variable {bP:Nat->Option Nat}
theorem q4:([]:List az)=([]:List az).map (iZ bP):=rfl
theorem j1 {I bD:az}{l ff:List az}(h:bD=iZ bP I)(t:ff=l.map (iZ bP)):bD::ff=(I::l).map (iZ bP):=by rw[h,t];rfl
theorem K2 {α:Type}{sz:Nat}{bV:e1}{f iT:α->List aj}{raw:List (List aj)}{xs:List α}(e:raw=xs.map f)(h:∀x,(f x).map (mz bP)=iT x):az.mk sz (xs.map iT) bV=iZ bP (az.mk sz raw bV):=by simp only[iZ,e,List.map_map,az.mk.injEq,true_and,and_true];exact Y8 fun x _=>(h x).symm
theorem oU {α:Type}{bV:e1}{sz:Nat}{f:α->List aj}{raw:List az}{P:List (List α)}(e:raw=P.map (ij bV sz f))(h:∀x,(f x).map (mz bP)=f x):P.map (ij bV sz f)=raw.map (iZ bP):=by rw[e,List.map_map];refine Y8 fun l _=> ?_;exact K2 rfl h
theorem XI {α:Type}(sz:Nat)(f:α->List aj)(I:Option α):mz bP (sF sz f I)=sF sz f I:=by cases I<;>rfl
theorem Jr:oe []:=fun I h=>by simp at h
theorem r1 {I:az}{l:List az}(h:I.bV = .live)(t:oe l):oe (I::l):=fun p af=>by
 rcases YW.1 af with e|e
 ·rw[e];exact .inl h
 exact t p e
theorem W2 {I:az}{l:List az}(h:I.bV = .gone)(t:oe l):oe (I::l):=fun p af=>by
 rcases YW.1 af with e|e
 ·rw[e];exact .inr h
 exact t p e
theorem I2 {α:Type}{sz:Nat}{f:α->List aj}{raw:List az}{P:List (List α)}(e:raw=P.map (ij .live sz f)):oe raw:=fun I ae=>by rw[e,List.mem_map] at ae;obtain⟨l,-,rfl⟩:=ae;exact .inl rfl
end
section
variable {ax:fA}
theorem SK:ss ax [] []:=⟨rfl,fun k I bD h=>by simp at h⟩
def LW (ax:fA)(I bD:az):Prop:=bD.sz=I.sz/\bD.bV=I.bV/\bD.es.length=I.es.length/\(∀e∈bD.es,e.length=I.sz) /\
 ∀(j:Nat) x ca,I.es.flatten[j]? = some x->bD.es.flatten[j]? = some ca->wL ax x ca
theorem R6 {I bD:az}{l ff:List az}(h:LW ax I bD)(t:ss ax l ff):ss ax (I::l) (bD::ff):=by
 refine⟨by simp[t.1],fun k p iQ af kw=> ?_⟩
 cases k with
 | zero=>simp at af kw;subst af;subst kw;exact h
 | succ k=>exact t.2 k p iQ (by simpa using af) (by simpa using kw)
def wO (ax:fA):List aj->List aj->Prop
 | [],[]=>True
 | a::l,b::m=>wL ax a b/\wO ax l m
 | _,_=>False
theorem JX : ∀ {l m:List aj},wO ax l m->m.length=l.length
 | [],[],_=>rfl
 | _::_,_::_,h=>by simp[JX h.2]
 | [],_::_,h=>h.elim
 | _::_,[],h=>h.elim
theorem Kv : ∀ {l m:List aj},wO ax l m-> ∀(j:Nat) x ca,l[j]? = some x->m[j]? = some ca->wL ax x ca
 | _::_,_::_,h,0,x,ca,o,J=>by simp at o J;subst o;subst J;exact h.1
 | _::_,_::_,h,j+1,x,ca,o,J=>Kv h.2 j x ca (by simpa using o) (by simpa using J)
 | [],_,_,_,_,_,o,_=>by simp at o
theorem XB {x:aj}(h:x.hk=true):wL ax x x:= .inl ⟨rfl,h⟩
theorem K3 {α:Type}{sz:Nat}{bV:e1}{f iT:α->List aj}{raw:List (List aj)}{xs:List α}(e:raw=xs.map f)(aw:∀x,(iT x).length=sz)(h:∀x,wO ax (f x) (iT x)):LW ax (az.mk sz raw bV) (az.mk sz (xs.map iT) bV):=by
 subst e;refine⟨rfl,rfl,by simp,fun e he=> ?_,fun j x ca U cL=> ?_⟩
 ·simp only[List.mem_map] at he;obtain⟨y,-,rfl⟩:=he;exact aw y
 simp only at U cL;rcases Nat.eq_zero_or_pos sz with h0|bN
 ·have:(xs.map iT).flatten=[]:=by
   induction xs with
   | nil=>rfl
   | cons a l ih =>
    have o:=aw a;rw[h0] at o
    have J:(l.map iT).flatten=[]:=by
     clear ih U cL
     induction l with
     | nil=>rfl
     | cons b l ih =>
      have o:=aw b;rw[h0] at o;rw[List.map_cons,dS,ih,dJ.1 o];rfl
    rw[List.map_cons,dS,J,dJ.1 o];rfl
  rw[this] at cL;simp at cL
 have UZ : ∀x,(f x).length=sz:=fun x=>by rw[<- JX (h x),aw]
 rw[nD bN _ (by intro e he;rw[List.mem_map] at he;obtain⟨y,-,rfl⟩:=he;exact UZ y)] at U;rw[nD bN _ (by intro e he;rw[List.mem_map] at he;obtain⟨y,-,rfl⟩:=he;exact aw y)] at cL;rw[dI] at U cL
 cases aK:xs[j / sz]? with
 | none=>rw[aK] at U;simp at U
 | some y =>
  rw[aK] at U cL;simp only[dN,dB] at U cL;exact Kv (h y) _ x ca U cL
theorem Rm {l:List aj}(h:∀v∈l,v.hk=true):wO ax l l:=by
 induction l with
 | nil=>trivial
 | cons a l ih=>exact⟨.inl ⟨rfl,h a (by simp)⟩,ih fun v aT=>h v (by simp[aT])⟩
theorem R7 {α:Type}{bV:e1}{sz:Nat}{f:α->List aj}{raw:List az}{P:List (List α)}(e:raw=P.map (ij bV sz f))(aw:∀x,(f x).length=sz)(aZ:∀x,∀v∈f x,v.hk=true):ss ax raw (P.map (ij bV sz f)):=by subst e;refine⟨rfl,fun k I bD ae cS=> ?_⟩;rw[ae] at cS;simp at cS;subst cS;rw[dI,dL] at ae;obtain⟨l,-,rfl⟩:=ae;exact K3 rfl aw fun x=>Rm (aZ x)
end
theorem JY:tZ []:=fun row h=>by simp at h
theorem Js {row:List az}{T:List (List az)}(h:∀I∈row,∀e∈I.es,∀x∈e,cm x)(t:tZ T):tZ (row::T):=fun r ah=>by
 rcases YW.1 ah with e|e
 ·rw[e];exact h
 exact t r e
theorem JZ : ∀I∈([]:List az),∀e∈I.es,∀x∈e,cm x:=fun I h=>by simp at h
theorem Ay {I:az}{row:List az}(h:∀e∈I.es,∀x∈e,cm x)(t:∀I∈row,∀e∈I.es,∀x∈e,cm x): ∀p∈I::row,∀e∈p.es,∀x∈e,cm x:=fun p af=>by
 rcases YW.1 af with e|e
 ·rw[e];exact h
 exact t p e
theorem x6 {α:Type}{sz:Nat}{bV:e1}{f:α->List aj}{xs:List α}(h:∀x,∀v∈f x,cm v): ∀e∈(az.mk sz (xs.map f) bV).es,∀x∈e,cm x:=fun e he x U=>by simp only[List.mem_map] at he;obtain⟨y,-,rfl⟩:=he;exact h y x U
theorem Xg {α:Type}{bV:e1}{sz:Nat}{f:α->List aj}{P:List (List α)}(h:∀x,∀v∈f x,cm v): ∀I∈P.map (ij bV sz f),∀e∈I.es,∀x∈e,cm x:=fun I ae=>by rw[List.mem_map] at ae;obtain⟨l,-,rfl⟩:=ae;exact x6 h
theorem A2 : ∀x,∀v∈R x,cm v:=fun x v h=>by simp[R] at h;subst h;exact .n _ _
theorem XJ : ∀x,∀v∈eI x,cm v:=fun x v h=>by simp[eI] at h;subst h;exact .b _
theorem XK : ∀x,∀v∈us x,cm v:=fun x v h=>by simp[us] at h;subst h;exact .s _
theorem qu : ∀x,∀v∈R x,v.hk=true:=fun x v h=>by simp[R] at h;subst h;rfl
theorem K4 : ∀x,∀v∈eI x,v.hk=true:=fun x v h=>by simp[eI] at h;subst h;rfl
theorem XL : ∀x,∀v∈us x,v.hk=true:=fun x v h=>by simp[us] at h;subst h;rfl
theorem Xt {l:List aj}(h:∀x∈l,cm x):cm (.dl l):= .dl h
theorem DK : ∀x∈([]:List aj),cm x:=fun x h=>by simp at h
theorem qY {a:aj}{l:List aj}(h:cm a)(t:∀x∈l,cm x): ∀x∈a::l,cm x:=fun x U=>by
 rcases YW.1 U with e|e
 ·rw[e];exact h
 exact t x e
theorem yg {bP:Nat->Option Nat}{dd pf c sz:Nat}(b3:bP dd=some pf)(h:cr):(cl dd c sz h).map (mz bP)=cl pf c sz h:=by simp only[cl,List.map_cons,List.map_nil,Tn b3]
theorem Tr {ax:fA}{dd pf c cX sz:Nat}(hm:∀k,ax pf (k+cX)=some (dd,k+c))(h:cr):wO ax (cl dd c sz h) (cl pf cX sz h):=⟨To hm h,trivial⟩
theorem XM (dd c sz:Nat): ∀x,∀v∈cl dd c sz x,cm v:=fun x v h=>by simp[cl] at h;subst h;exact Tp _ _ _ x
theorem E6 {α:Type}{sz:Nat}{bV:e1}{f:α->List aj}{P:List (List α)}{raw:List az}{dd c:Nat}{sc:List az}{bw:e1->Bool}(e:raw=P.map (ij bV sz f))(af:∀x,∀v∈f x,Pure v)(aJ:sc.length=c)(aL:bV≠ .gone)(bs:bw bV=true)
 {h:cr} (ad:ub P h=true):wN dd (sc++raw) bw (cl dd c sz h) (ej sz f (k6 P h)):=⟨Tq e af aJ aL bs ad,trivial⟩
theorem DY {α:Type}{p:α->Bool}{l:List α}(h:l.all p=true): ∀x∈l,p x=true:=List.all_eq_true.1 h
theorem XN {a4:Type}{sz:Nat}{f:a4->List aj}: ∀l,∀v∈ej sz f l,v.hk=true:=fun l v h=>by simp[ej] at h;subst h;rfl
theorem XO {a4:Type}{sz:Nat}{f:a4->List aj}: ∀l,∀v∈B4 sz f l,v.hk=true:=fun l v h=>by simp[B4] at h;subst h;rfl
theorem og {α:Type}{f:α->List aj}(h:∀x,∀v∈f x,v.hk=true){bP:Nat->Option Nat}(x:α):(f x).map (mz bP)=f x:=by refine(Y8 fun v aT=> ?_).trans (List.map_id _);have:=h x v aT;cases v<;>simp[aj.hk] at this<;>simp[mz,aj.hk]
theorem XC : ∀x,∀v∈eU8 x,v.hk=true:=fun x v h=>by simp[eU8] at h;subst h;rfl
def aQ:Nat->List (d5×Bool)->List (d5×Bool)
 | 0,l=>l
 | n+1,l=>Wb::aQ n l
def eL:Nat->List (d5×Bool)->List (d5×Bool)
 | 0,l=>l
 | n+1,l=>Wc::eL n l
def aO (a:d5)(l:List (d5×Bool)):List (d5×Bool):=(a,true)::l
def nZ (n:Nat)(r:aj)(de:Bool)(dm:List Nat:=[]):d5:= .call {ac:=List.replicate n ii,r:=r,de:=de,dm:=dm}
def b0:List Nat->List (Nat×jH)
 | []=>[]
 | n::l=>(n,ii)::b0 l
def U0 (n:Nat):jH:= .bG (.cV (.len n))
structure oL where
 x:Option Nat
 env:List (Nat×aj)
 rows:List (List az)
def oL.e (I:oL):ur:=match I.x with
 | some i=> .exit i
 | none=> .ret
def oL.cp (I:oL):S:=ev I.env I.rows
def oL.Wd (I:oL):cy:= .sub I.e I.env I.rows
theorem oL.ne (I:oL):I.e.x≠ .normal:=by unfold oL.e;split<;>simp[ur.x]
section
variable {P:Program} {N m:Nat} {α β:Type}
def MF (P:Program)(N m f:Nat)(p:List Nat)(s:S)(head:α->S)(out:β->oL):α⊕β->Prop
 | .inl a=>hR P N m (nodeAt (DW P f) p) .normal s (head a)
 | .inr r=>hR P N m (nodeAt (DW P f) p) (out r).e.x s (out r).cp
def MG (P:Program)(N m f:Nat)(p:List Nat)(head:α->S)(out:β->oL)(a:α)(r:β):Prop :=
 hR P N m (.loop (nodeAt (DW P f) p)) (out r).e.x (head a) (out r).cp
theorem Rn {f:Nat}{p:List Nat}{b:α->Option (α⊕β)}{head:α->S}{out:β->oL}(h:∀a,bZ (b a) (MF P N m f p (head a) head out)){a:α}{r:β}(ah:iter b a=some r):MG P N m f p head out a r :=
 (RZ (head:=head) (fW:=fun r=>(out r).e.x) (out:=fun r=>(out r).cp) (fun r=>(out r).ne) (fun a r ah=>by
   have:=h a r ah
   cases r with
   | inl cP=>exact this
   | inr dn=>exact this) a r ah).UW
end
theorem Kw {a b c:Nat}(h:a+b<=c):a<=c:=by omega
theorem Kx {a4:Type}{rx i5:List (List aj)}{f:a4->List aj}{xs a3:List a4}(fW:rx=xs.map f)(hh:i5=a3.map f){n:Nat}(h:n+a3.length<=xs.length):n+i5.length<=rx.length:=by rw[fW,hh];simpa using h
theorem Jt {a4:Type}{i5:List (List aj)}{f:a4->List aj}{a3:List a4}(hh:i5=a3.map f){b c:Nat}(h:a3.length*b<=c):i5.length*b<=c:=by rw[hh];simpa using h
theorem XD {a4:Type}{rx i5:List (List aj)}{f:a4->List aj}{xs a3:List a4}(fW:rx=xs.map f)(n:Nat)(hh:i5=a3.map f):rx.take n++i5++rx.drop (n+i5.length)=(xs.take n++a3++xs.drop (n+a3.length)).map f:=by rw[fW,hh];simp
theorem Xu {a4:Type}{rx:List (List aj)}{f:a4->List aj}{xs:List a4}(fW:rx=xs.map f)(bb n:Nat)(z:a4):rx.take bb++List.replicate n (f z)++rx.drop (bb+n)=(xs.take bb++List.replicate n z++xs.drop (bb+n)).map f:=by rw[fW];simp
theorem XE {a4:Type}{rx i5:List (List aj)}{f:a4->List aj}{xs a3:List a4}(fW:rx=xs.map f)(hh:i5=a3.map f):i5++rx.drop i5.length=(a3++xs.drop a3.length).map f:=by rw[fW,hh];simp
theorem XP {a4:Type}{i5:List (List aj)}{f:a4->List aj}{a3:List a4}(hh:i5=a3.map f){n:Nat}(h:a3.length<=n):i5.length<=n:=by rw[hh];simpa using h
theorem XF {a4:Type}{xs a3:List a4}{n m:Nat}(aZ:n=xs.length)(hm:m<=n)(h:a3.length<=m):n=(a3++xs.drop a3.length).length:=by simp;omega
theorem XG {a4:Type}(f:a4->List aj)(n:Nat)(z:a4):List.replicate n (f z)=(List.replicate n z).map f:=by simp
theorem XH {a4:Type}{rx:List (List aj)}{f:a4->List aj}{xs:List a4}(fW:rx=xs.map f){n:Nat}(h:n=xs.length):rx.length=n:=by rw[fW];simp[h]
section
variable {a b c d e f g h i j:Prop} {l:List Prop}
theorem cH.ap (fr:a):cH [a]:= .c fr .nil
theorem cH.cq (fr:a)(eu:b)(t:cH l):cH (a::b::l):= .c fr (.c eu t)
theorem cH.av (fr:a)(eu:b):cH [a,b]:= .cq fr eu .nil
theorem cH.l8 (fr:a)(eu:b)(aY:c)(t:cH l):cH (a::b::c::l):= .c fr (.cq eu aY t)
theorem cH.bS (fr:a)(eu:b)(aY:c):cH [a,b,c]:= .l8 fr eu aY .nil
theorem cH.pq (fr:a)(eu:b)(aY:c)(fz:d)(t:cH l):cH (a::b::c::d::l):= .c fr (.l8 eu aY fz t)
theorem cH.dj (fr:a)(eu:b)(aY:c)(fz:d):cH [a,b,c,d]:= .pq fr eu aY fz .nil
theorem cH.l9 (fr:a)(eu:b)(aY:c)(fz:d)(lH:e)(t:cH l):cH (a::b::c::d::e::l):= .c fr (.pq eu aY fz lH t)
theorem cH.eh (fr:a)(eu:b)(aY:c)(fz:d)(lH:e):cH [a,b,c,d,e]:= .l9 fr eu aY fz lH .nil
theorem cH.rH (fr:a)(eu:b)(aY:c)(fz:d)(lH:e)(cN:f)(t:cH l):cH (a::b::c::d::e::f::l):= .c fr (.l9 eu aY fz lH cN t)
theorem cH.e6 (fr:a)(eu:b)(aY:c)(fz:d)(lH:e)(cN:f):cH [a,b,c,d,e,f]:= .rH fr eu aY fz lH cN .nil
theorem cH.bx (fr:a)(eu:b)(aY:c)(fz:d)(lH:e)(cN:f)(gA:g)(m2:h)(t:cH l):cH (a::b::c::d::e::f::g::h::l):= .cq fr eu (.rH aY fz lH cN gA m2 t)
theorem cH.fg (fr:a)(eu:b)(aY:c)(fz:d)(lH:e)(cN:f)(gA:g):cH [a,b,c,d,e,f,g]:= .c fr (.e6 eu aY fz lH cN gA)
theorem cH.h1 (fr:a)(eu:b)(aY:c)(fz:d)(lH:e)(cN:f)(gA:g)(m2:h):cH [a,b,c,d,e,f,g,h]:= .cq fr eu (.e6 aY fz lH cN gA m2)
end
section
variable {α a4:Type}
theorem fQ (f:a4->List aj)(l:List a4):l.map f=l.map f:=rfl
theorem fR (l:List a4):l.length=l.length:=rfl
theorem MH (bV:e1)(sz:Nat)(f:a4->List aj)(P:List (List a4)):P.map (ij bV sz f)=P.map (ij bV sz f):=rfl
theorem hL (x:α):x=x:=rfl
theorem eQ:true=true:=rfl
theorem fS:false=false:=rfl
theorem cw (f:a4->List aj){l:List a4}{i:Nat}{x:a4}(h:l[i]? = some x):(l.map f)[i]? = some (f x):=DI h
theorem eJ (f:a4->List aj){l:List a4}{j:Int}(h:j<l.length):j<((l.map f).length:Nat):=JT h
theorem h8 (f:a4->List aj){l:List a4}{j:Nat}(h:j<l.length):j<(l.map f).length:=Kp h
theorem We (sz:Nat)(bV:e1){raw:List (List aj)}{f:a4->List aj}{l:List a4}(e:raw=l.map f):[az.mk sz raw bV]=[az.mk sz (l.map f) bV]:=R2 e
theorem qI (sz:Nat)(bV:e1){f:a4->List aj}(bL:∀x,∀v∈f x,Pure v)(l:List a4):vS [az.mk sz (l.map f) bV]:=Rj bL l
theorem fT (sz:Nat){f:a4->List aj}(bL:∀x,∀v∈f x,Pure v)(l:List a4):r2 [az.mk sz (l.map f) .live]:=Qx bL l
theorem Xv {β:Type}{f:α->List aj}{g:β->List aj}{v:α->β}{dd:Nat}{il:List az}{bw:e1->Bool}{sz:Nat}{raw:List (List aj)}{l:List α}(e:raw=l.map f)(cZ:∀y,(g y).length=sz)(bb n:Nat)
 (h : ∀x∈(l.drop bb).take n,wN dd il bw (f x) (g (v x))):zy dd il bw sz ((raw.drop bb).take n) ((((l.drop bb).take n).map v).map g):=by
 have J:=AR (dd:=dd) (il:=il) (bw:=bw) (raw:=(raw.drop bb).take n) (xs:=(l.drop bb).take n) (f:=f) (oT e bb n) cZ h rfl;rw[List.drop_zero,Y0 (by rw[oT e bb n,Zc];exact dF _)] at J;exact J
theorem X7 {sz:Nat}{f:a4->List aj}{x:Option a4}(h:x=none):jt (sF sz f x) (.iA sz none):=KZ (R4 h)
theorem X8 {sz:Nat}{f:a4->List aj}{x:Option a4}{y:a4}(h:x=some y):jt (sF sz f x) (.iA sz (some (f y))):=KZ (R5 h)
theorem w0 {bP:Nat->Option Nat}(sz:Nat)(bV:e1){f:a4->List aj}(iT:a4->List aj){raw:List (List aj)}{xs:List a4}(e:raw=xs.map f)(h:∀x,(f x).map (mz bP)=iT x):az.mk sz (xs.map iT) bV=iZ bP (az.mk sz raw bV):=K2 e h
end
def aR {a4:Type}(s:Nat)(f:a4->List aj)(l:List a4):List az:=[az.mk s (l.map f) .live]
def ey {a4:Type}(s:Nat)(f:a4->List aj)(l:List a4):az:=az.mk s (l.map f) .live
def eK {a4:Type}(s:Nat)(f:a4->List aj)(P:List (List a4)):List az:=P.map (ij .live s f)
def al (n:Nat):cy:= .aV (aQ n [])
def cI (a:Nat)(x:d5)(b:Nat):List (d5×Bool):=aQ a (aO x (aQ b []))
def pW:List Nat->List Src
 | []=>[]
 | n::l=> .row n::pW l
def uu (l:List Nat):Nat->Option Nat:=nk 0 (pW l)
def p7 (l:List Nat):Nat->Option Nat:=rb (pW l)
section
variable {a4:Type}
theorem F5 (T:Nat->Option Nat)(a d b c:Nat)(h:T d=some a)(au:List cr):az.mk 1 (au.map (cl a b c)) .live=iZ T (az.mk 1 (au.map (cl d b c)) .live):=w0 1 .live (cl a b c) (fQ (cl d b c) au) (yg h)
theorem pt (T:Nat->Option Nat)(s:Nat){f:a4->List aj}(g:∀x,∀v∈f x,v.hk=true)(au:List a4):az.mk s (au.map f) .live=iZ T (az.mk s (au.map f) .live):=w0 s .live f (fQ f au) (og g)
theorem eF (T:Nat->Option Nat)(a d b c:Nat)(h:T d=some a)(au:List cr):[az.mk 1 (au.map (cl a b c)) .live]=[az.mk 1 (au.map (cl d b c)) .live].map (iZ T):=j1 (F5 T a d b c h au) q4
theorem eM (T:Nat->Option Nat)(s:Nat){f:a4->List aj}(g:∀x,∀v∈f x,v.hk=true)(P:List (List a4)):P.map (ij .live s f)=(P.map (ij .live s f)).map (iZ T):=oU (MH .live s f P) (og g)
theorem kh (T:Nat->Option Nat)(s:Nat)(v w:List (List aj))(h:az.mk s v .live=iZ T (az.mk s w .live)):[az.mk s v .live]=[az.mk s w .live].map (iZ T):=j1 h q4
theorem sG (s:Nat)(f:a4->List aj)(P:List (List a4)):oe (P.map (ij .live s f)):=I2 (MH .live s f P)
theorem k0 (s:Nat)(v:List (List aj)):oe [az.mk s v .live]:=r1 rfl Jr
theorem jm (f:a4->List aj)(l:List a4):l.map f=((l.map f).drop 0).take l.length:=kk (fQ f l) (fR l)
theorem iF (f:a4->List aj)(l:List a4):0+l.length<=(l.map f).length:=li (fQ f l) (fR l)
theorem nz (f:a4->List aj)(l:List a4):l.length<=(l.map f).length:=pC (fQ f l) (fR l)
theorem iU (a4:Type):0=([]:List a4).length:=rfl
theorem jn (f:a4->List aj):([]:List (List aj))=([]:List a4).map f:=rfl
theorem YP (f:a4->List aj)(x:a4):1<=[f x].length:=dF _
theorem n1 (f:a4->List aj)(x:a4):([f x].drop 0).take 1=[x].map f:=rfl
theorem jX (f:a4->List aj)(x:a4):0+1<=[f x].length:=dF _
theorem lI (f:a4->List aj)(l:List a4)(x:a4):(l++([x]:List a4)).length=l.length+(([f x].drop 0).take 1).length:=qo (fR l) (n1 f x)
theorem U1 (f:a4->List aj){l:List a4}{n:Nat}(h:n<=l.length)(x:a4):(l.take n++([x]:List a4)).length=n+(([f x].drop 0).take 1).length:=Dy h (n1 f x)
theorem m3 (f:a4->List aj)(l:List a4)(x:a4):(l.map f).take l.length++([f x].drop 0).take 1=(l++[x]).map f:=mK (fQ f l) (fR l) (n1 f x)
end
structure eZ (α β:Type) where
 h:α->S
 I:β->oL
section
variable {P:Program} {N m:Nat} {α β:Type}
def eZ.t (x:eZ α β)(r:β):cy:=(x.I r).Wd
abbrev e3 (P:Program)(N m f:Nat)(p:List Nat)(x:eZ α β)(a:α):α⊕β->Prop:=MF P N m f p (x.h a) x.h x.I
theorem eo {f:Nat}{p:List Nat}{b:α->Option (α⊕β)}{x:eZ α β}{a:α}{r:β}(ah:iter b a=some r)(h:∀ {a},bZ (b a) (e3 P N m f p x a)):MG P N m f p x.h x.I a r:=Rn (fun _=>h) ah
end
def _root_.List.bC {a4:Type}(a b:List a4):List a4:=a.append b
def gI:List p6:=[.id,.id,.id,.id,.id]
def i2:List p6:=[.id,.id,.id,.id,.id,.id]
def y8 (a b:Nat):kV:={jj:=some (a,b)}
def st (l:List (Nat×Nat)):kV:={bk:=l}
def U2 (l:List (Nat×Nat))(a b:Nat):kV:={bk:=l,jj:=some (a,b)}
theorem oA:(1000000000:Int)≠0:=by decide
theorem wP {a4:Type}(f:a4->List aj)(l:List a4):(([]:List (List aj)).take 0)++l.map f=([]++l).map f:=mK (jn f) (iU a4) (fQ f l)
theorem aD (s:Nat){a4:Type}{f:a4->List aj}(bL:∀x,∀v∈f x,Pure v)(l:List a4):vS [az.mk s (l.map f) .live]:=qI s .live bL l
theorem eg (s:Nat){a4:Type}{raw:List (List aj)}{f:a4->List aj}{l:List a4}(e:raw=l.map f):[az.mk s raw .live]=[az.mk s (l.map f) .live]:=We s .live e
theorem ib (s:Nat){a4:Type}(f:a4->List aj)(P:List (List a4)):P.map (ij .live s f)=P.map (ij .live s f):=rfl
theorem X9 (s:Nat){a4:Type}(f:a4->List aj)(l:List a4)(i:Int)(x:a4):[az.mk s ((l.map f).set (0+i.toNat) (f x)) .live]=[az.mk s ((l.set (0+i.toNat) x).map f) .live]:=eg s (qn (fQ f l) (0+i.toNat) x)
theorem ic {a4:Type}(f:a4->List aj)(l:List a4)(i:Int)(x:a4):(l.map f).set (0+i.toNat) (f x)=(l.set (0+i.toNat) x).map f:=qn (fQ f l) (0+i.toNat) x
theorem h6 {a4:Type}(l:List a4)(i:Int)(x:a4):l.length=(l.set (0+i.toNat) x).length:=DJ (fR l) (0+i.toNat) x
def pg (n:Nat)(l:ar):d5:=nZ n (.isl 1 (l.map R)) false
def lz (n:Nat)(x:Int):d5:=nZ n (.n .i64 x) true
def gi (n:Nat)(x:Bool):d5:=nZ n (.b x) true
theorem LX {a4:Type}(l:List a4):cm (.bz 0 0 0 l.length):=cm.bz 0 0 0 l.length
theorem E7 (T:Nat->Option Nat)(a b:ar):[az.mk 1 (a.map R) .live,az.mk 1 (b.map R) .live]=[az.mk 1 (a.map R) .live,az.mk 1 (b.map R) .live].map (iZ T):=j1 (pt T 1 qu a) (j1 (pt T 1 qu b) (q4 (bP:=T)))
theorem Ya (T:Nat->Option Nat)(a b c:ar):[az.mk 1 (a.map R) .live,az.mk 1 (b.map R) .live,az.mk 1 (c.map R) .live]=[az.mk 1 (a.map R) .live,az.mk 1 (b.map R) .live,az.mk 1 (c.map R) .live].map (iZ T):=j1 (pt T 1 qu a) (j1 (pt T 1 qu b) (j1 (pt T 1 qu c) (q4 (bP:=T))))
def fp (n:Nat)(l:ar):Nat×aj:=(n,.isl 1 (l.map R))
def gY {a4:Type}(n:Nat)(l:List a4):Nat×aj:=(n,.bz 0 0 0 l.length)
def bt (n:Nat)(x:Int):Nat×aj:=(n,.n .i64 x)
def su (a b:ar):List aj:=[.isl 1 (a.map R),.isl 1 (b.map R)]
def Yb (l:ar):wX:={ax:=[],cf:=[],ac:=[ii],r:= .bz 0 0 0 l.length,c1:=[aR 1 R l],ew:=ii,e2:=[.pure],dm:=[],de:=true}
def qD (n m:Nat):List (d5×Bool):=aQ n (eL m (aO (.aF true) []))
def sv (n:Nat):List (d5×Bool):=aQ n (aO (.aF false) [])
def Yc (n m:Nat):List (d5×Bool):=eL n (aO (.aF false) (aQ m []))
def nr (n:Nat):List (d5×Bool):=aO (.aF false) (aQ n [])
def pX (n m:Nat):List cy:=[.aF true,al n,.bq [] [] (b0 [m])]
def rr (n r m:Nat):List cy:=[al n,.aF false,.bq [r] [.pure] (b0 [m])]
def sw (n:Nat):List cy:=[al n,.aF false,.bq [] [] []]
def E8 (n m:Nat):List cy:=[al n,.aF false,.bq [] [] (b0 [m])]
def ky {a4:Type}(a:Nat)(l:List a4)(b:Nat):List (d5×Bool):=cI a (.ba l.length) b
def hS (a:Nat)(x:Int)(b:Nat):List (d5×Bool):=cI a (.ee (R x)) b
theorem E9 (l:ar):tZ [aR 1 R l]:=Js (Ay (x6 A2) JZ) JY
def hp {a4:Type}(n:Nat)(g:List a4):Nat×jH:=(n,U0 g.length)
theorem Yd (n:Int):([n]:ar).map R=(([[.n .i64 n]]:List (List aj)).drop 0).take 1:=kk (show [[.n .i64 n]]=([n]:ar).map R from rfl) (show 1=([n]:ar).length from rfl)
theorem Ro {P:Program}{t:TypeId}{w:World}(b3:P.underlying t=some (.int .u8))(aJ:P.cellsOf t=1):pJ P w t eU8 (fun _=>True) where
 pure:=Jq
 size:=fun a=>aJ.symm
 opens:=fun h=>by obtain⟨n,rfl,-,hw⟩:=DataW.trod_int b3 h;exact⟨n,trivial,.one rfl (.n _ _)⟩
theorem cQ {x:Int}(o:-9223372036854775808<=x)(J:x<9223372036854775808):aa x=x:=by
 simp only[aa,IntKind.wrap,IntKind.signed,IntKind.bits];have:((2:Int) ^ 64)=18446744073709551616:=by decide
 have tS:((2:Int) ^ 63)=9223372036854775808:=by decide
 simp;omega
theorem qZ {x:Int}:wu x↔ -9223372036854775808<=x/\x<9223372036854775808:=by
 have o:IntKind.min .i64 = -9223372036854775808:=by decide
 have J:IntKind.max .i64=9223372036854775807:=by decide
 simp only[wu,Lit.wf,o,J,YX,decide_eq_true_eq];omega
theorem Rp {α β:Type}{f:α->Option (α⊕β)}{s:Nat->α}{r:β}(n:Nat): ∀(k:Nat),(∀i,k<=i->i<k+n->f (s i)=some (.inl (s (i+1))))->f (s (k+n))=some (.inr r)->iter f (s k)=some r:=by
 induction n with
 | zero =>
  intro k _ h;rw[iter];simp at h;simp[h]
 | succ n ih =>
  intro k o J;rw[iter,o k (dF _) (by omega)];simp;exact ih (k+1) (fun i an aG=>o i (by omega) (by omega)) (by rw[show k+1+n=k+(n+1) by omega];exact J)
def scan {α β:Type}(t:Nat->α->Option β):Nat->List α->Option β
 | _,[]=>none
 | n,x::xs=>match t n x with
  | some b=>some b
  | none=>scan t (n+1) xs
theorem Qy {α β:Type}{f:Int->Option (Int⊕β)}{t:Nat->α->Option β}{e:β}: ∀(xs:List α) (k:Nat),
 (∀n x,xs[n]? = some x->f ((k+n:Nat):Int)=some (match t (k+n) x with|some b=> .inr b|none=> .inl ((k+n+1:Nat):Int)))->f ((k+xs.length:Nat):Int)=some (.inr e)->iter f (k:Int)=some ((scan t k xs).getD e)
 | [],k,_,h=>by rw[iter];simp at h;simp[h,scan]
 | x::xs,k,o,J=>by
  have an:=o 0 x rfl;simp only[Nat.add_zero] at an;rw[iter,an];simp only[scan]
  cases b3:t k x with
  | some b=>simp
  | none =>
   simp only[dK,dB];refine Qy xs (k+1) (fun n y aK=> ?_) ?_
   ·have:=o (n+1) y (by simpa using aK);rw[show k+(n+1)=k+1+n by omega] at this;exact this
   rw[show k+1+xs.length=k+(x::xs).length by simp;omega];exact J
theorem mc {α β:Type}{f:α->Option (α⊕β)}(ef:α->Prop)(m:α->Nat)(Q:β->Prop)
 (h : ∀a,ef a->(∃cP,f a=some (.inl cP)/\ef cP/\m cP<m a)\/ ∃r,f a=some (.inr r)/\Q r) : ∀a,ef a-> ∃r,iter f a=some r/\Q r:=by
 have key : ∀n a,m a<=n->ef a-> ∃r,iter f a=some r/\Q r:=by
  intro n
  induction n with
  | zero =>
   intro a hm cE;rcases h a cE with ⟨cP,-,-,an⟩|⟨r,o,J⟩
   ·omega
   exact⟨r,by rw[iter,o];rfl,J⟩
  | succ n ih =>
   intro a hm cE;rcases h a cE with ⟨cP,o,J,an⟩|⟨r,o,J⟩
   ·obtain⟨r,ak,bW⟩:=ih cP (by omega) J;exact⟨r,by rw[iter,o];exact ak,bW⟩
   exact⟨r,by rw[iter,o];rfl,J⟩
 exact fun a cE=>key (m a) a (dF _) cE
theorem W3 {α:Type}{f:Int×List α->Option ((Int×List α)⊕List α)}(xs aC:List α)(h0:aC.length=xs.length)
 (Eb : ∀(n:Nat) x row,xs[n]? = some x->row.length=xs.length->f ((n:Int),row)=some (.inl (((n+1:Nat):Int),row.set n x)))
 (wo : ∀row,f ((xs.length:Int),row)=some (.inr row)):iter f (0,aC)=some xs:=by
 have h:=Rp (f:=f) (s:=fun n=>((n:Int),xs.take n++aC.drop n)) (r:=xs) xs.length 0 (fun i _ ad=> ?_) ?_
 ·simpa using h
 ·have hE:i<xs.length:=by omega
  rw[Eb i xs[i] _ (dw hE) (by simp;omega)];congr 3;apply Zb;intro j;rw[YZ];simp only[dE,List.length_take,List.length_drop,List.getElem?_append,dR,Y7];by_cases ao:i=j
  ·subst ao;have ap:min (i+1) xs.length=i+1:=(by omega);simp[ap,hE];omega
  rw[dz ao];by_cases c0:j<i
  ·have ap:j<min i xs.length:=(by omega);have av:j<min (i+1) xs.length:=(by omega);rw[dy ap,dy av,dy c0,dy (by omega)]
  have ap : ¬j<min i xs.length:=(by omega);have av : ¬j<min (i+1) xs.length:=(by omega);rw[dz ap,dz av];congr 1;omega
 simp only[dG];rw[wo];simp[h0]
theorem W4 {α β:Type}{f:α->Option (α⊕β)}(Q:β->Prop)(h:∀a r,f a=some (.inr r)->Q r): ∀a r,iter f a=some r->Q r:=by
 apply iter.partial_correctness f (fun _ r=>Q r);intro it ih a r ah
 cases bL:f a with
 | none=>rw[bL] at ah;simp at ah
 | some x =>
  rw[bL] at ah
  cases x with
  | inl cP=>exact ih cP r ah
  | inr dn =>
   have gd:some dn=some r:=ah;obtain rfl:=dH gd;exact h a _ bL
theorem Xh {α β a4:Type}{f:α->Option (α⊕β)}{g:α->Option (α⊕a4)}(h:β->a4)(ef:α->Prop)(cE:∀a cP,ef a->f a=some (.inl cP)->ef cP)(U3:∀a,ef a->g a=(f a).map (Sum.map id h)):
 ∀a r,iter f a=some r->ef a->iter g a=some (h r):=by
 apply iter.partial_correctness f (fun a r=>ef a->iter g a=some (h r));intro it ih a r ah bs;have cZ:=U3 a bs
 cases bL:f a with
 | none=>rw[bL] at ah;simp at ah
 | some x =>
  rw[bL] at ah cZ
  cases x with
  | inl cP =>
   rw[iter,cZ];exact ih cP r ah (cE a cP bs bL)
  | inr dn =>
   have gd:some dn=some r:=ah;obtain rfl:=dH gd;rw[iter,cZ];rfl
def rk {α fC β:Type}(g:Nat->fC->α->fC⊕β)(e:fC->β):List α->Nat->fC->β
 | [],_,s=>e s
 | x::xs,n,s=>match g n s x with
  | .inl bj=>rk g e xs (n+1) bj
  | .inr b=>b
theorem I3 {α fC lM β:Type}{f:lM->Option (lM⊕β)}(cp:Nat->fC->lM)(g:Nat->fC->α->fC⊕β)(e:fC->β)(ef:Nat->fC->Prop)(a3:List α)
 (h : ∀n s x,ef n s->a3[n]? = some x->f (cp n s)=some (match g n s x with | .inl bj=> .inl (cp (n+1) bj) | .inr b=> .inr b)/\ ∀bj,g n s x = .inl bj->ef (n+1) bj)
 (he : ∀s,ef a3.length s->f (cp a3.length s)=some (.inr (e s))) : ∀(xs:List α) (n:Nat) (s:fC),a3.drop n=xs->n<=a3.length->ef n s->iter f (cp n s)=some (rk g e xs n s)
 | [],n,s,bk,aZ,cE=>by have:n=a3.length:=(by have:=congrArg List.length bk;simp at this;omega);subst this;rw[iter,he s cE];rfl
 | x::xs,n,s,bk,aZ,cE=>by
  have U:a3[n]? = some x:=(by have:=congrArg (·[0]?) bk;simpa using this);have c0:=eV U;obtain⟨o,J⟩:=h n s x cE U;rw[iter,o];simp only[rk]
  cases cZ:g n s x with
  | inr b=>rfl
  | inl bj =>
   simp only[dK,dB];refine I3 cp g e ef a3 h he xs (n+1) bj ?_ (by omega) (J bj cZ);rw[<- List.drop_drop,bk];rfl
theorem IB {α fC lM β:Type}{f:lM->Option (lM⊕β)}(cp:Nat->fC->lM)(g:Nat->fC->α->fC⊕β)(e:fC->β)(a3:List α)
 (h : ∀n s x,a3[n]? = some x->f (cp n s)=some (match g n s x with | .inl bj=> .inl (cp (n+1) bj) | .inr b=> .inr b))
 (he : ∀s,f (cp a3.length s)=some (.inr (e s))) (s:fC):iter f (cp 0 s)=some (rk g e a3 0 s) :=
 I3 cp g e (fun _ _=>True) a3 (fun n s x _ U=>⟨h n s x U,fun _ _=>trivial⟩) (fun s _=>he s) a3 0 s rfl (Nat.zero_le _) trivial
theorem Xi {α:Type}{f:Int->Option (Int⊕(Unit⊕Unit))}(xs:List α)(p:α->Bool)
 (h : ∀(n:Nat) x,xs[n]? = some x->f n=some (if p x then .inl ((n+1:Nat):Int) else .inr (.inr ()))) (he:f xs.length=some (.inr (.inl ()))) :
 iter f 0=some (if xs.all p then .inl () else .inr ()):=by
 have:=IB (f:=f) (fC:=Unit) (fun n _=>(n:Int)) (fun _ _ x=>if p x then .inl () else .inr (.inr ())) (fun _=> .inl ()) xs (fun n _ x U=>by rw[h n x U];cases p x<;>rfl) (fun _=>he) ();rw[show ((0:Nat):Int)=0 from rfl] at this;rw[this];congr 1
 have key : ∀(a3:List α) (n:Nat),rk (fun (_:Nat) (_:Unit) x=>if p x then Sum.inl () else Sum.inr (Sum.inr ())) (fun _=>(Sum.inl ():Unit⊕Unit)) a3 n ()=if a3.all p then .inl () else .inr ():=by
  intro a3
  induction a3 with
  | nil=>intro n;rfl
  | cons y a3 ih =>
   intro n;simp only[rk,List.all_cons];by_cases af:p y=true
   ·simpa [af] using ih (n+1)
   simp[af]
 exact key xs 0
theorem Qz {α:Type}{f:Int->Option (Int⊕(Unit⊕Int))}(xs:List α)(p:α->Bool)
 (h : ∀(n:Nat) x,xs[n]? = some x->f n=some (if p x then .inr (.inr (n:Int)) else .inl ((n+1:Nat):Int))) (he:f xs.length=some (.inr (.inl ()))) :
 ∃r,iter f 0=some r/\((∃k:Int,r = .inr k/\0<=k/\xs.any p=true)\/(r = .inl ()/\xs.any p=false)):=by
 have:=IB (f:=f) (fC:=Unit) (fun n _=>(n:Int)) (fun n _ x=>if p x then .inr (.inr (n:Int)) else .inl ()) (fun _=> .inl ()) xs (fun n _ x U=>by rw[h n x U];cases p x<;>rfl) (fun _=>he) ();rw[show ((0:Nat):Int)=0 from rfl] at this;refine⟨_,this,?_⟩
 have key : ∀(a3:List α) (n:Nat),(∃k:Int,rk (fun (n:Nat) (_:Unit) x=>if p x then Sum.inr (Sum.inr (n:Int)) else Sum.inl ()) (fun _=>(Sum.inl ():Unit⊕Int)) a3 n () = .inr k/\0<=k/\a3.any p=true) \/
  (rk (fun (n:Nat) (_:Unit) x=>if p x then Sum.inr (Sum.inr (n:Int)) else Sum.inl ()) (fun _=>(Sum.inl ():Unit⊕Int)) a3 n () = .inl ()/\a3.any p=false):=by
  intro a3
  induction a3 with
  | nil=>intro n;exact .inr ⟨rfl,rfl⟩
  | cons y a3 ih =>
   intro n;simp only[rk,List.any_cons];by_cases af:p y=true
   ·exact .inl ⟨n,by simp[af],by omega,by simp[af]⟩
   simpa [af] using ih (n+1)
 exact key xs 0
theorem nA {n:Nat}(h:(n:Int)<9223372036854775807):aa ((n:Int)+1)=((n+1:Nat):Int):=by rw[cQ (by omega) (by omega)];rfl
def V:ar->Int
 | []=>0
 | x::xs=>x+1000000000*V xs
def ct (l:ar):Prop:= ∀x∈l,0<=x/\x<1000000000
abbrev B (n:Nat):Int:=(1000000000:Int) ^ n
theorem nJ (n:Nat):B (n+1)=1000000000*B n:=by rw[B,B,Int.pow_succ];exact Int.mul_comm _ _
theorem sd (n:Nat):1<=B n:=by
 induction n with
 | zero=>simp[B]
 | succ n ih=>rw[nJ];omega
theorem A3 (m n:Nat):B (m+n)=B m*B n:=by rw[B,B,B,Int.pow_add]
theorem DZ {m n:Nat}(h:m<=n):B m<=B n:=by
 induction n with
 | zero =>
  have:m=0:=(by omega);subst this;exact Int.le_refl _
 | succ n ih =>
  by_cases hm:m=n+1
  ·subst hm;exact Int.le_refl _
  have o:=ih (by omega);have J:=sd n;rw[nJ];omega
theorem ct.tail {x:Int}{l:ar}(h:ct (x::l)):ct l:=fun y aK=>h y (by simp[aK])
theorem ct.head {x:Int}{l:ar}(h:ct (x::l)):0<=x/\x<1000000000:=h x (by simp)
theorem ct.nil:ct []:=fun _ h=>by simp at h
theorem ct.cons {x:Int}{l:ar}(h:0<=x/\x<1000000000)(aw:ct l):ct (x::l):=fun y aK=>by
 rcases YW.mp aK with rfl|o
 ·exact h
 exact aw y o
theorem ct.get {l:ar}(h:ct l){n:Nat}{x:Int}(U:l[n]? = some x):0<=x/\x<1000000000:=h x (dD U)
theorem ct.take {l:ar}(h:ct l)(n:Nat):ct (l.take n):=fun x U=>h x (List.mem_of_mem_take U)
theorem ct.drop {l:ar}(h:ct l)(n:Nat):ct (l.drop n):=fun x U=>h x (List.mem_of_mem_drop U)
theorem ct.append {l m:ar}(h:ct l)(bR:ct m):ct (l++m):=fun x U=>by
 rcases List.mem_append.mp U with o|o
 ·exact h x o
 exact bR x o
theorem ct.set {l:ar}(h:ct l){n:Nat}{x:Int}(U:0<=x/\x<1000000000):ct (l.set n x):=fun y aK=>by
 rcases List.mem_or_eq_of_mem_set aK with o|rfl
 ·exact h y o
 exact U
theorem ct.Fa (n:Nat):ct (List.replicate n 0):=fun x U=>by have:=(List.mem_replicate.mp U).2;omega
theorem Ts:V []=0:=rfl
theorem lR (x:Int)(l:ar):V (x::l)=x+1000000000*V l:=rfl
theorem ql {l:ar}(h:ct l):0<=V l:=by
 induction l with
 | nil=>simp[V]
 | cons x l ih =>
  have o:=ih h.tail;have J:=h.head;rw[lR];omega
theorem qx {l:ar}(h:ct l):V l<B l.length:=by
 induction l with
 | nil=>simp[V,B]
 | cons x l ih =>
  have o:=ih h.tail;have J:=h.head;rw[lR,dM,nJ];omega
theorem Az (a b:ar):V (a++b)=V a+B a.length*V b:=by
 induction a with
 | nil=>simp[V,B]
 | cons x a ih =>
  rw[List.cons_append,lR,lR,dM,nJ,ih];grind
theorem Ec (n:Nat):V (List.replicate n 0)=0:=by
 induction n with
 | zero=>rfl
 | succ n ih=>rw[List.replicate_succ,lR,ih];rfl
theorem qv {l:ar}{n:Nat}{x y:Int}(h:l[n]? = some y):V (l.set n x)=V l+(x-y)*B n:=by
 induction l generalizing n with
 | nil=>simp at h
 | cons z l ih =>
  cases n with
  | zero =>
   simp at h;subst h;rw[List.set_cons_zero,lR,lR];simp[B];omega
  | succ n =>
   rw[List.set_cons_succ,lR,lR,ih (by simpa using h),nJ];grind
theorem vU {l:ar}{n:Nat}(h:n<=l.length):V l=V (l.take n)+B n*V (l.drop n):=by have:=Az (l.take n) (l.drop n);rw[List.take_append_drop] at this;rw[this,List.length_take,Nat.min_eq_left h]
theorem th {l:ar}{n:Nat}{x:Int}(h:l[n]? = some x):V (l.take (n+1))=V (l.take n)+B n*x:=by
 have aZ:=eV h;have:l.take (n+1)=l.take n++[x]:=by rw[List.take_add_one,h];rfl
 rw[this,Az,List.length_take,Nat.min_eq_left (by omega)];simp[V]
theorem Ju {α:Type}{l:List α}{n:Nat}{x:α}(h:l[n]? = some x):l.drop n=x::l.drop (n+1):=by have aZ:=eV h;rw[dw aZ] at h;rw[List.drop_eq_getElem_cons aZ];simp at h;rw[h]
theorem oV {l:ar}{n:Nat}{x:Int}(h:l[n]? = some x):V (l.drop n)=x+1000000000*V (l.drop (n+1)):=by rw[Ju h,lR]
def gn (l:ar):Prop:=ct l/\ ∀x,l.getLast? = some x->x≠0
theorem gn.Ye {l:ar}(h:gn l):ct l:=h.1
theorem gn.nil:gn []:=⟨ct.nil,fun _ h=>by simp at h⟩
theorem gn.tail {x:Int}{l:ar}(h:gn (x::l)):gn l:=⟨h.1.tail,fun y aK=>h.2 y (by
 cases l with
 | nil=>simp at aK
 | cons z l=>simpa using aK)⟩
theorem A4 {l:ar}(h:gn l)(aw:l≠[]):0<V l:=by
 induction l with
 | nil=>exact absurd rfl aw
 | cons x l ih =>
  have o:=h.1.head;by_cases J:l=[]
  ·subst J;have:=h.2 x (by simp);simp[V];omega
  have:=ih h.tail J;rw[lR];omega
theorem Bg {l:ar}(h:gn l)(aw:l≠[]):B (l.length-1)<=V l:=by
 induction l with
 | nil=>exact absurd rfl aw
 | cons x l ih =>
  have o:=h.1.head;by_cases J:l=[]
  ·subst J;have:=h.2 x (by simp);simp[V,B];omega
  have an:=ih h.tail J;have aG:(x::l).length-1=(l.length-1)+1:=(by have:=Zf.mpr J;simp;omega);rw[lR,aG,nJ];omega
def sH (n:Nat):ar:=if h:n=0 then [] else ((n % 1000000000:Nat):Int)::sH (n / 1000000000)
decreasing_by exact Nat.div_lt_self (Nat.pos_of_ne_zero h) (by decide)
def L (n:Int):ar:=sH n.toNat
theorem Ky (n:Nat):gn (sH n)/\V (sH n)=n:=by
 induction n using Nat.strongRecOn with
 | ind n ih =>
  rw[sH];by_cases h:n=0
  ·subst h;simp[V,gn.nil]
  rw[dif_neg h];obtain⟨o,J⟩:=ih (n / 1000000000) (Nat.div_lt_self (Nat.pos_of_ne_zero h) (by decide));refine⟨⟨ct.cons (by omega) o.1,fun x U=> ?_⟩,?_⟩
  ·by_cases an:sH (n / 1000000000)=[]
   ·rw[an] at U J;simp[V] at U J;omega
   refine o.2 x ?_
   cases aG:sH (n / 1000000000) with
   | nil=>exact absurd aG an
   | cons z l=>rw[aG] at U;simpa using U
  rw[lR,J];omega
theorem o4 (n:Int):gn (L n):=(Ky _).1
theorem nM (n:Int):ct (L n):=(o4 n).1
theorem iO {n:Int}(h:0<=n):V (L n)=n:=by rw[L,(Ky _).2];omega
theorem Tt {a b:ar}(bs:gn a)(aE:gn b)(h:V a=V b):a=b:=by
 induction a generalizing b with
 | nil =>
  by_cases o:b=[]
  ·exact o.symm
  have:=A4 aE o;simp[V] at h;omega
 | cons x a ih =>
  cases b with
  | nil =>
   have:=A4 bs (by simp);rw[h] at this;simp[V] at this
  | cons y b =>
   have o:=bs.1.head;have J:=aE.1.head;rw[lR,lR] at h;have an:x=y:=(by omega);have aG:=ih bs.tail aE.tail (by omega);rw[an,aG]
theorem Fb {l:ar}(h:gn l):L (V l)=l:=Tt (o4 _) h (iO (ql h.1))
theorem Bh {l:ar}{n:Int}(h:gn l)(aT:V l=n):l=L n:=by rw[<- aT,Fb h]
theorem r6:L 0=[]:=by rw[L,sH];rfl
theorem Tu {n:Int}(h:n<=0):L n=[]:=by rw[L,Int.toNat_eq_zero.mpr h];exact r6
theorem se {n:Int}{k:Nat}(h:0<=n):(L n).length<=k↔n<B k:=by
 constructor
 ·intro o;have J:=qx (nM n);rw[iO h] at J;have:=DZ o;omega
 intro o;by_cases J:L n=[]
 ·rw[J];simp
 have an:=Bg (o4 n) J;rw[iO h] at an;have aG:=Zf.mpr J;apply Nat.le_of_not_lt;intro aN;have:=DZ (m:=k) (n:=(L n).length-1) (by omega);omega
theorem gn.len {l:ar}(h:gn l){k:Nat}:l.length<=k↔V l<B k:=by
 have:=se (n:=V l) (k:=k) (ql h.1)
 rwa [Fb h] at this
theorem yh {n:Int}:L n=[]↔n<=0:=by
 constructor
 ·intro h;apply Int.not_lt.mp;intro o;have:=iO (n:=n) (by omega);rw[h] at this;simp[V] at this;omega
 exact Tu
theorem gn.pos {l:ar}(h:gn l):0<V l↔l≠[]:=by
 constructor
 ·intro o J;subst J;simp[V] at o
 exact A4 h
theorem gn.J0 {l:ar}(aw:ct l)(n:Nat)(h:∀x,l[n]? = some x->x≠0):gn (l.take (n+1))\/l.length<=n:=by
 by_cases aZ:n<l.length
 ·refine .inl ⟨aw.take _,fun x U=>h x ?_⟩;rw[List.take_add_one,dw aZ,show (some l[n]).toList=[l[n]] from rfl,List.getLast?_append] at U;rw[dw aZ];exact U
 exact .inr (by omega)
theorem gn.one {x:Int}(h:0<x/\x<1000000000):gn [x]:=⟨ct.cons (by omega) ct.nil,fun y aK=>by simp at aK;omega⟩
theorem Xw {x:Int}(h:0<x/\x<1000000000):L x=[x]:=(Bh (gn.one h) (by simp[V])).symm
def nR (a b:Int):Int:=if a<b then -1 else if b<a then 1 else 0
theorem DL {a b:ar}(bs:gn a)(aE:gn b)(h:a.length<b.length):V a<V b:=by
 have o:=qx bs.1;have pY:b≠[]:=by intro J;rw[J] at h;simp at h
 have J:=Bg aE pY;have:=DZ (m:=a.length) (n:=b.length-1) (by omega);omega
theorem J1 {a b:ar}(bs:ct a)(aE:ct b){n:Nat}{x y:Int}(U:a[n]? = some x)(aK:b[n]? = some y)(h:V (a.drop (n+1))=V (b.drop (n+1)))(Fc:x<y):V a<V b:=by
 have o:=vU (Nat.le_of_lt (eV U));have J:=vU (Nat.le_of_lt (eV aK));rw[oV U] at o;rw[oV aK,<- h] at J;have an:=qx (bs.take n);have aG:=ql (aE.take n);rw[List.length_take,Nat.min_eq_left (Nat.le_of_lt (eV U))] at an;have aN:=sd n;rw[o,J];generalize V (a.drop (n+1))=t at *;generalize V (a.take n)=p at *;generalize V (b.take n)=q at *;generalize B n=w at *;have:w*(x+1000000000*t)+w<=w*(y+1000000000*t):=by have bJ:w*(x+1000000000*t+1)<=w*(y+1000000000*t):=dQ (by omega) (by omega);rw[Int.mul_add,Int.mul_one] at bJ;exact bJ
 omega
theorem Jv {α:Type}{a3:List α}{p:α->Bool}{n:Nat}{y:α}(aK:a3[n]? = some y)(h:(a3.take n).all p=true)(af:p y=true):(a3.take (n+1)).all p=true:=by rw[List.take_add_one,aK,List.all_append,h];simp[af]
theorem Kz {α:Type}{a3:List α}{p:α->Bool}{n:Nat}{y:α}(aK:a3[n]? = some y)(af:p y=false):a3.all p=false:=by rw[List.all_eq_false];exact⟨y,dD aK,by simp[af]⟩
theorem Xj {α β:Type}{f:Int×List β->Option ((Int×List β)⊕(List β⊕Unit))}(a3:List α)(ok:α->Bool)(h:α->β)
 (bN : ∀(n:Nat) y row,a3[n]? = some y->row.length=n->f ((n:Int),row)=some (if ok y then .inl (((n+1:Nat):Int),row++[h y]) else .inr (.inr ())))
 (he : ∀row,f ((a3.length:Int),row)=some (.inr (.inl row))):iter f (0,[])=some (if a3.all ok then .inl (a3.map h) else .inr ()):=by
 obtain⟨r,ah,rfl⟩:=mc (f:=f) (ef:=fun w=> ∃n:Nat,w.1=n/\n<=a3.length/\w.2=(a3.take n).map h/\(a3.take n).all ok=true) (m:=fun w=>a3.length-w.1.toNat) (fun r=>r=if a3.all ok then .inl (a3.map h) else .inr ()) (by
  rintro⟨i,row⟩ ⟨n,o,aZ,J,an⟩;simp only at o J;subst o J;by_cases aw:n=a3.length
  ·subst aw;refine .inr ⟨_,he _,?_⟩;rw[List.take_length] at an ⊢;rw[an];rfl
  have aK:=dw (show n<a3.length by omega);have cu:((a3.take n).map h).length=n:=(by simp;omega);rw[bN n _ _ aK cu];by_cases ae:ok a3[n]=true
  ·refine .inl ⟨_,by rw[dy ae],⟨n+1,rfl,by omega,?_,Jv aK an ae⟩,by simp;omega⟩;simp only;rw[List.take_add_one,aK,show (some a3[n]).toList=[a3[n]] from rfl,List.map_append];rfl
  refine .inr ⟨_,by rw[dz ae],?_⟩;rw[Kz aK (by simpa using ae)];rfl) (0,[]) ⟨0,rfl,by omega,by simp,by simp⟩
 exact ah
theorem W5 {α β:Type}{f:Int×List β->Option ((Int×List β)⊕(List β⊕Unit))}(a3:List α)(ok:α->Bool)(h:α->β)(aC:List β)(h0:aC.length=a3.length)
 (bN : ∀(n:Nat) y row,a3[n]? = some y->row.length=a3.length->f ((n:Int),row)=some (if ok y then .inl (((n+1:Nat):Int),row.set n (h y)) else .inr (.inr ())))
 (he : ∀row,f ((a3.length:Int),row)=some (.inr (.inl row))):iter f (0,aC)=some (if a3.all ok then .inl (a3.map h) else .inr ()):=by
 obtain⟨r,ah,rfl⟩:=mc (f:=f) (ef:=fun w=> ∃n:Nat,w.1=n/\n<=a3.length/\w.2.length=a3.length/\w.2.take n=(a3.take n).map h/\(a3.take n).all ok=true) (m:=fun w=>a3.length-w.1.toNat) (fun r=>r=if a3.all ok then .inl (a3.map h) else .inr ()) (by
  rintro⟨i,row⟩ ⟨n,o,aZ,hlen,J,an⟩;simp only at o hlen J;subst o;by_cases aw:n=a3.length
  ·subst aw;refine .inr ⟨_,he _,?_⟩;rw[List.take_length] at an J;rw[Y0 (by omega)] at J;rw[an,J];rfl
  have aK:=dw (show n<a3.length by omega);rw[bN n _ _ aK hlen];by_cases ae:ok a3[n]=true
  ·refine .inl ⟨_,by rw[dy ae],⟨n+1,rfl,by omega,by simpa using hlen,?_,Jv aK an ae⟩,by simp;omega⟩;simp only;rw[List.take_add_one,List.take_add_one,aK,YZ,dy rfl,dy (by omega),List.take_set_of_le (by omega),J,show (some a3[n]).toList=[a3[n]] from rfl,List.map_append];rfl
  refine .inr ⟨_,by rw[dz ae],?_⟩;rw[Kz aK (by simpa using ae)];rfl) (0,aC) ⟨0,rfl,by omega,h0,by simp,by simp⟩
 exact ah
theorem QA {α:Type}{P:Nat->α->Prop}: ∀(n:Nat),(∀k,k<n-> ∃y,P k y)-> ∃a3:List α,a3.length=n/\ ∀k y,a3[k]? = some y->P k y
 | 0,_=>⟨[],rfl,fun k y h=>by simp at h⟩
 | n+1,h=>by
  obtain⟨a3,o,J⟩:=QA n (fun k aL=>h k (by omega));obtain⟨y,aK⟩:=h n (by omega);refine⟨a3++[y],by simp[o],fun k z bY=> ?_⟩;by_cases aL:k<a3.length
  ·rw[Y1 aL] at bY;exact J k z bY
  rw[Y6 (by omega)] at bY;have:k-a3.length=0:=(by have:=eV bY;simp at this;omega);rw[this] at bY;simp at bY;have:k=n:=(by omega);subst this;rw[<- bY];exact aK
theorem W6 {α fC lM β:Type}{f:lM->Option (lM⊕β)}(cp:Nat->fC->lM)(g:fC->α->fC)(e:fC->β)(ef:Nat->fC->Prop)(a3:List α)
 (h : ∀n s x,ef n s->a3[n]? = some x->f (cp n s)=some (.inl (cp (n+1) (g s x)))/\ef (n+1) (g s x))
 (he : ∀s,ef a3.length s->f (cp a3.length s)=some (.inr (e s))) (hZ:fC) (h0:ef 0 hZ):iter f (cp 0 hZ)=some (e (a3.foldl g hZ))/\ef a3.length (a3.foldl g hZ):=by
 have key : ∀(xs:List α) (n:Nat) (s:fC),a3.drop n=xs->n<=a3.length->ef n s->iter f (cp n s)=some (e (xs.foldl g s))/\ef a3.length (xs.foldl g s):=by
  intro xs
  induction xs with
  | nil =>
   intro n s bk aZ cE;have:n=a3.length:=(by have:=congrArg List.length bk;simp at this;omega);subst this;rw[iter,he s cE];exact⟨rfl,cE⟩
  | cons x xs ih =>
   intro n s bk aZ cE;have U:a3[n]? = some x:=(by have:=congrArg (·[0]?) bk;simpa using this);have c0:=eV U;obtain⟨o,J⟩:=h n s x cE U;rw[iter,o];exact ih (n+1) (g s x) (by rw[<- List.drop_drop,bk];rfl) (by omega) J
 exact key a3 0 hZ rfl (Nat.zero_le _) h0
theorem W7 {Ce n k:Nat}(h:(List.range Ce)[n]? = some k):n=k/\k<Ce:=by have aZ:=eV h;rw[List.length_range] at aZ;rw[List.getElem?_range aZ] at h;have:=dH h;omega
section
variable {α β a4:Type}
theorem aM {I:Option β}{f:β->Option α}{x:β}{r:Option α}(h:I=some x)(k:f x=r):(I >>= f)=r:=by rw[h];exact k
theorem df {p:Prop}[Decidable p] {x r:Option α} (h:p) (k:x=r):(if p then x else none)=r:=by rw[dy h];exact k
theorem e7 {b:Bool}{x y r:α}(h:b=true)(k:x=r):(if b=true then x else y)=r:=by rw[dy h];exact k
theorem gJ {b:Bool}{x y r:α}(h:b=false)(k:y=r):(if b=true then x else y)=r:=by rw[dz (by rw[h];exact Bool.false_ne_true)];exact k
theorem jY {p:Prop}[Decidable p] {x y r:α} (h:p) (k:x=r):(if decide p=true then x else y)=r:=by rw[dy (decide_eq_true h)];exact k
theorem jL {p:Prop}[Decidable p] {x y r:α} (h : ¬p) (k:y=r):(if decide p=true then x else y)=r:=by rw[dz (by simpa using h)];exact k
theorem zA {b:Bool}{x y r:α}(o:b=true->x=r)(J:b=false->y=r):(if b=true then x else y)=r:=by
 cases b
 ·exact J rfl
 exact o rfl
theorem YQ {I:Option a4}{x r:α}{f:a4->α}(h:I=none)(k:x=r):I.elim x f=r:=by rw[h];exact k
theorem YR {I:Option a4}{y:a4}{x r:α}{f:a4->α}(h:I=some y)(k:f y=r):I.elim x f=r:=by rw[h];exact k
theorem gt {l:List α}{i:Int}{n:Nat}{x:α}(e:i=n)(h:l[n]? = some x):l[i.toNat]? = some x:=by rw[e,dA];exact h
theorem Yf {l:List α}{i:Int}{n:Nat}(e:i=n)(h:n<l.length):0<=i/\i<(l.length:Nat):=by omega
theorem BD {a b:Int}(h:a=b):(a == b)=true:=by simp[h]
theorem y9 {a b:Int}(h:a≠b):(a == b)=false:=by simp[h]
theorem BE {a b:Int}(h:a≠b):(a != b)=true:=by simp[h]
theorem BF {a b:Int}(h:a=b):(a != b)=false:=by simp[h]
theorem pB {fC lM:Type}{f:lM->Option (lM⊕β)}(cp:Nat->fC->lM)(N:Nat)(ef:Nat->fC->Prop)(Q:β->Prop)
 (h : ∀n,n<N-> ∀s,ef n s->(∃bj,f (cp n s)=some (.inl (cp (n+1) bj))/\ef (n+1) bj)\/(∃r,f (cp n s)=some (.inr r)/\Q r))
 (he : ∀s,ef N s-> ∃r,f (cp N s)=some (.inr r)/\Q r) (hZ:fC) (h0:ef 0 hZ) : ∃r,iter f (cp 0 hZ)=some r/\Q r:=by
 have key : ∀(d n:Nat) (s:fC),n+d=N->ef n s-> ∃r,iter f (cp n s)=some r/\Q r:=by
  intro d
  induction d with
  | zero =>
   intro n s aZ cE;obtain rfl:n=N:=(by omega);obtain⟨r,o,J⟩:=he s cE;exact⟨r,by rw[iter,o];rfl,J⟩
  | succ d ih =>
   intro n s aZ cE;rcases h n (by omega) s cE with ⟨bj,o,J⟩|⟨r,o,J⟩
   ·obtain⟨r,an,aG⟩:=ih (n+1) bj (by omega) J;exact⟨r,by rw[iter,o];exact an,aG⟩
   exact⟨r,by rw[iter,o];rfl,J⟩
 exact key N 0 hZ (by omega) h0
theorem jq {fC lM:Type}{f:lM->Option (lM⊕β)}(cp:Nat->fC->lM)(N:Nat)(ef:Nat->fC->Prop)(e:fC->β)
 (h : ∀n,n<N-> ∀s,ef n s-> ∃bj,f (cp n s)=some (.inl (cp (n+1) bj))/\ef (n+1) bj)
 (he : ∀s,ef N s->f (cp N s)=some (.inr (e s))) (hZ:fC) (h0:ef 0 hZ) : ∃s,iter f (cp 0 hZ)=some (e s)/\ef N s:=by
 obtain⟨r,o,s,rfl,J⟩:=pB cp N ef (fun r=> ∃s,r=e s/\ef N s) (fun n aZ s cE=> .inl (h n aZ s cE)) (fun s cE=>⟨_,he s cE,s,rfl,cE⟩) hZ h0;exact⟨s,o,J⟩
end
def bQ:Nat->(Nat->Rat)->Rat
 | 0,_=>0
 | n+1,f=>bQ n f+f n
theorem en {f g:Nat->Rat}: ∀ {n:Nat},(∀i,i<n->f i=g i)->bQ n f=bQ n g
 | 0,_=>rfl
 | n+1,h=>by rw[bQ,bQ,en fun i ad=>h i (Nat.lt_succ_of_lt ad),h n (Nat.lt_succ_self n)]
theorem mI : ∀ {n:Nat} {f:Nat->Rat},(∀i,i<n->f i=0)->bQ n f=0
 | 0,_,_=>rfl
 | n+1,f,h=>by rw[bQ,mI fun i ad=>h i (Nat.lt_succ_of_lt ad),h n (Nat.lt_succ_self n)];grind
theorem s7 (f g:Nat->Rat): ∀n,bQ n (fun i=>f i+g i)=bQ n f+bQ n g
 | 0=>by simp only[bQ];grind
 | n+1=>by simp only[bQ,s7 f g n];grind
theorem py (f g:Nat->Rat): ∀n,bQ n (fun i=>f i-g i)=bQ n f-bQ n g
 | 0=>by simp only[bQ];grind
 | n+1=>by simp only[bQ,py f g n];grind
theorem hj (c:Rat)(f:Nat->Rat): ∀n,bQ n (fun i=>c*f i)=c*bQ n f
 | 0=>by simp only[bQ];grind
 | n+1=>by simp only[bQ,hj c f n];grind
theorem rX (c:Rat)(f:Nat->Rat)(n:Nat):bQ n (fun i=>f i*c)=bQ n f*c:=by rw[en (g:=fun i=>c*f i) (fun i _=>Rat.mul_comm _ _),hj,Rat.mul_comm]
theorem m7 (f:Nat->Nat->Rat)(m:Nat): ∀n,bQ n (fun i=>bQ m (f i))=bQ m (fun j=>bQ n (fun i=>f i j))
 | 0=>by simp only[bQ];exact(mI fun _ _=>rfl).symm
 | n+1=>by simp only[bQ,m7 f m n];rw[<- s7]
theorem i9 {n k:Nat}(aL:k<n){f:Nat->Rat}(h:∀i,i<n->i≠k->f i=0):bQ n f=f k:=by
 induction n with
 | zero=>omega
 | succ n ih =>
  rw[bQ];by_cases e:k=n
  ·subst e;rw[mI fun i ad=>h i (by omega) (by omega)];grind
  rw[ih (by omega) fun i ad cc=>h i (by omega) cc,h n (by omega) (by omega)];grind
theorem oR {f:Nat->Rat}: ∀ {n:Nat},(∀i,i<n->0<=f i)->0<=bQ n f
 | 0,_=>by simp only[bQ];grind
 | n+1,h=>by have o:=oR (n:=n) fun i ad=>h i (Nat.lt_succ_of_lt ad);have J:=h n (Nat.lt_succ_self n);simp only[bQ];grind
theorem Jw {f g:Nat->Rat}{n:Nat}(h:∀i,i<n->f i<=g i):bQ n f<=bQ n g:=by
 have:=oR (n:=n) (f:=fun i=>g i-f i) fun i ad=>by have:=h i ad;grind
 rw[py] at this;grind
theorem CV {f:Nat->Rat}: ∀ {n:Nat},(∀i,i<n->0<=f i)->bQ n f=0-> ∀i,i<n->f i=0
 | 0,_,_,i,ad=>by omega
 | n+1,h,bN,i,ad=>by
  have o:=oR (n:=n) fun i ad=>h i (Nat.lt_succ_of_lt ad);have J:=h n (Nat.lt_succ_self n);simp only[bQ] at bN;by_cases e:i=n
  ·subst e;grind
  exact CV (n:=n) (fun i ad=>h i (by omega)) (by grind) i (by omega)
theorem Ae (m:Nat)(f:Nat->Rat): ∀n,bQ (m+n) f=bQ m f+bQ n (fun i=>f (m+i))
 | 0=>by simp only[bQ,Nat.add_zero];grind
 | n+1=>by rw[<- Nat.add_assoc,bQ,bQ,Ae m f n];grind
def gr (K:Nat)(g:Nat->Rat):Prop:= ∃l,l<K/\0<g l/\ ∀ff,ff<l->g ff=0
def xS (K:Nat)(g:Nat->Rat):Prop:= ∀l,l<K->g l=0
theorem gr.congr {K:Nat}{g eU:Nat->Rat}(h:gr K g)(e:∀l,l<K->g l=eU l):gr K eU:=by obtain⟨l,o,J,an⟩:=h;exact⟨l,o,by rw[<- e l o];exact J,fun ff aw=>by rw[<- e ff (by omega)];exact an ff aw⟩
theorem gr.not_zero {K:Nat}{g:Nat->Rat}(h:gr K g)(z:xS K g):False:=by obtain⟨l,o,J,an⟩:=h;have:=z l o;grind
theorem An (K:Nat)(g:Nat->Rat):gr K g\/xS K g\/gr K (fun l=> - g l):=by
 induction K with
 | zero=>exact .inr (.inl fun l aw=>by omega)
 | succ K ih =>
  rcases ih with ⟨l,o,J,an⟩|h|⟨l,o,J,an⟩
  ·exact .inl ⟨l,by omega,J,an⟩
  ·by_cases c:g K=0
   ·exact .inr (.inl fun l aw=>if e:l=K then e▸c else h l (by omega))
   by_cases p:0<g K
   ·exact .inl ⟨K,by omega,p,h⟩
   exact .inr (.inr ⟨K,by omega,by grind,fun ff aw=>by have:=h ff aw;grind⟩)
  exact .inr (.inr ⟨l,by omega,J,an⟩)
theorem gr.not_neg {K:Nat}{g:Nat->Rat}(h:gr K g)(bR:gr K (fun l=> - g l)):False:=by
 obtain⟨l,o,J,an⟩:=h;obtain⟨k,jK,hU,kf⟩:=bR;rcases Nat.lt_trichotomy l k with c|c|c
 ·have:=kf l c;grind
 ·subst c;grind
 have:=an k c;grind
theorem gr.add {K:Nat}{g eU:Nat->Rat}(h:gr K g)(bR:gr K eU):gr K (fun l=>g l+eU l):=by
 obtain⟨l,o,J,an⟩:=h;obtain⟨k,jK,hU,kf⟩:=bR;rcases Nat.lt_trichotomy l k with c|c|c
 ·exact⟨l,o,by have:=kf l c;grind,fun ff aw=>by have:=an ff aw;have:=kf ff (by omega);grind⟩
 ·subst c;exact⟨l,o,by grind,fun ff aw=>by have:=an ff aw;have:=kf ff aw;grind⟩
 exact⟨k,jK,by have:=an k c;grind,fun ff aw=>by have:=an ff (by omega);have:=kf ff aw;grind⟩
theorem gr.add_zero {K:Nat}{g eU:Nat->Rat}(h:gr K g)(bR:xS K eU):gr K (fun l=>g l+eU l) :=
 h.congr fun l aw=>by have:=bR l aw;grind
theorem gr.mul {K:Nat}{g:Nat->Rat}(h:gr K g){c:Rat}(aJ:0<c):gr K (fun l=>c*g l):=by obtain⟨l,o,J,an⟩:=h;exact⟨l,o,Rat.mul_pos aJ J,fun ff aw=>by have:=an ff aw;grind⟩
theorem gr.KA {K:Nat}{g:Nat->Rat}{c:Rat}(h:gr K (fun l=>c*g l)):(0<c/\gr K g)\/(c<0/\gr K (fun l=> - g l)):=by
 rcases An K g with p|p|p
 ·by_cases aJ:0<c
  ·exact .inl ⟨aJ,p⟩
  by_cases h0:c=0
  ·exact(h.not_zero fun l _=>by grind).elim
  exact(h.not_neg ((p.mul (c:= -c) (by grind)).congr fun l _=>by grind)).elim
 ·exact(h.not_zero fun l aw=>by have:=p l aw;grind).elim
 by_cases aJ:c<0
 ·exact .inr ⟨aJ,p⟩
 by_cases h0:c=0
 ·exact(h.not_zero fun l _=>by grind).elim
 exact(h.not_neg ((p.mul (c:=c) (by grind)).congr fun l _=>by grind)).elim
theorem gr.D0 {K:Nat}{v:Nat->Nat->Rat}: ∀ {n:Nat},gr K (fun l=>bQ n (fun j=>v j l))-> ∃j,j<n/\gr K (v j)
 | 0,h=>(h.not_zero fun l _=>rfl).elim
 | n+1,h=>by
  by_cases c:gr K (v n)
  ·exact⟨n,by omega,c⟩
  have:gr K (fun l=>bQ n (fun j=>v j l)):=by
   rcases An K (fun l=>bQ n (fun j=>v j l)) with p|p|p
   ·exact p
   ·exact(c (h.congr fun l aw=>by have:=p l aw;simp only[bQ];grind)).elim
   rcases An K (v n) with q|q|q
   ·exact(c q).elim
   ·exact(h.not_neg (p.congr fun l aw=>by have:=q l aw;simp only[bQ];grind)).elim
   exact(h.not_neg ((p.add q).congr fun l aw=>by simp only[bQ];grind)).elim
  obtain⟨j,o,J⟩:=gr.D0 this;exact⟨j,by omega,J⟩
structure b1 where
 T:Nat->Nat->Rat
 B:Nat->Nat
structure e4 (da m N:Nat) (A:Nat->Nat->Rat) (t:b1):Prop where
 pZ : ∀c,c<da-> ∀j,j<=N->A c j=bQ m (fun i=>A c (t.B i)*t.T i j)
 row : ∃W:Nat->Nat->Rat,∀i,i<m-> ∀j,j<=N->t.T i j=bQ da (fun c=>W i c*A c j)
 unit : ∀i,i<m-> ∀k,k<m->t.T i (t.B k)=if i=k then 1 else 0
 jU : ∀i,i<m->t.B i<N
def b1.ch (t:b1)(r k:Nat):b1 where
 T:=fun i j=>if i=r then t.T r j / t.T r k else t.T i j-t.T i k*(t.T r j / t.T r k)
 B:=fun i=>if i=r then k else t.B i
def b1.cK (m:Nat)(obj:Nat->Rat)(t:b1)(j:Nat):Rat:=obj j-bQ m (fun i=>obj (t.B i)*t.T i j)
section
variable {da m N:Nat} {A:Nat->Nat->Rat} {t:b1}
theorem e4.inj (h:e4 da m N A t){i k:Nat}(ad:i<m)(aL:k<m)(e:t.B i=t.B k):i=k:=by
 have o:=h.unit i ad k aL;rw[<- e,h.unit i ad i ad,dy rfl] at o;by_cases c:i=k
 ·exact c
 rw[dz c] at o;grind
theorem e4.ch (h:e4 da m N A t){r k:Nat}(ah:r<m)(aL:k<N)(af:t.T r k≠0):e4 da m N A (t.ch r k) where
 pZ:=by
  intro c aJ j ao;rw[h.pZ c aJ j ao];have ls:=h.pZ c aJ k (by omega)
  have e:bQ m (fun i=>A c ((t.ch r k).B i)*(t.ch r k).T i j)=bQ m (fun i=>A c (t.B i)*t.T i j)+(t.T r j / t.T r k)*(A c k-bQ m (fun i=>A c (t.B i)*t.T i k)):=by
   have ap : ∀i,i<m->A c ((t.ch r k).B i)*(t.ch r k).T i j=(A c (t.B i)*t.T i j-(t.T r j / t.T r k)*(A c (t.B i)*t.T i k))+(if i=r then (t.T r j / t.T r k)*A c k else 0):=by
    intro i ad;simp only[b1.ch];by_cases e:i=r
    ·subst e;simp only[if_true];grind
    simp only[dz e];grind
   rw[en ap,s7,py,hj,i9 ah (f:=fun i=>if i=r then (t.T r j / t.T r k)*A c k else 0) (fun i _ cc=>dz cc),dy rfl];grind
  rw[e,<- ls];grind
 row:=by
  obtain⟨W,hW⟩:=h.row;refine⟨fun i c=>if i=r then W r c / t.T r k else W i c-t.T i k*(W r c / t.T r k),fun i ad j ao=> ?_⟩;simp only[b1.ch];by_cases e:i=r
  ·subst e;simp only[if_true];rw[en (f:=fun c=>W i c / t.T i k*A c j) (g:=fun c=>(1 / t.T i k)*(W i c*A c j)) (fun c _=>by grind),hj,<- hW i ad j ao];grind
  simp only[dz e];rw[en (f:=fun c=>(W i c-t.T i k*(W r c / t.T r k))*A c j) (g:=fun c=>W i c*A c j-(t.T i k / t.T r k)*(W r c*A c j)) (fun c _=>by grind),py,hj,<- hW i ad j ao,<- hW r ah j ao];grind
 unit:=by
  intro i ad cA ls;simp only[b1.ch];by_cases e:i=r
  ·subst e
   simp only[if_true];by_cases dp:cA=i
   ·subst dp;simp only[if_true];grind
   simp only[dz dp];rw[h.unit i ad cA ls,dz (fun x=>dp x.symm)];grind
  simp only[dz e];by_cases dp:cA=r
  ·subst dp;simp only[if_true,dz e];grind
  simp only[dz dp];rw[h.unit i ad cA ls,h.unit r ah cA ls,dz (c:=r=cA) (fun x=>dp x.symm)];grind
 jU:=fun i ad=>by
  simp only[b1.ch];split
  ·exact aL
  exact h.jU i ad
theorem e4.xE (h:e4 da m N A t)(obj:Nat->Rat){i:Nat}(ad:i<m):t.cK m obj (t.B i)=0:=by unfold b1.cK;rw[i9 ad (f:=fun d7=>obj (t.B d7)*t.T d7 (t.B i)) (fun k aL cc=>by rw[h.unit k aL i ad,dz cc];grind),h.unit i ad i ad,dy rfl];grind
theorem e4.Rq (h:e4 da m N A t)(obj:Nat->Rat){r k:Nat}(ah:r<m)(aL:k<N)(af:t.T r k≠0)(j:Nat):
 (t.ch r k).cK m obj j=t.cK m obj j-t.cK m obj k*(t.T r j / t.T r k):=by
 unfold b1.cK
 have ap : ∀i,i<m->obj ((t.ch r k).B i)*(t.ch r k).T i j=(obj (t.B i)*t.T i j-(t.T r j / t.T r k)*(obj (t.B i)*t.T i k))+(if i=r then (t.T r j / t.T r k)*obj k else 0):=by
  intro i ad;simp only[b1.ch];by_cases e:i=r
  ·subst e;simp only[if_true];grind
  simp only[dz e];grind
 rw[en ap,s7,py,hj,i9 ah (f:=fun i=>if i=r then (t.T r j / t.T r k)*obj k else 0) (fun i _ cc=>dz cc),dy rfl];grind
theorem e4.Rr (h:e4 da m N A t){z:Nat->Rat}(bY:∀c,c<da->bQ N (fun j=>A c j*z j)=0){i:Nat}(ad:i<m):bQ N (fun j=>t.T i j*z j)=0:=by obtain⟨W,hW⟩:=h.row;rw[en (g:=fun j=>bQ da (fun c=>W i c*(A c j*z j))) (fun j ao=>by rw[hW i ad j (by omega),<- rX];exact en fun c _=>by grind),m7];exact mI fun c aJ=>by rw[hj,bY c aJ];grind
theorem e4.Rs (h:e4 da m N A t)(obj:Nat->Rat){z:Nat->Rat}(bY:∀c,c<da->bQ N (fun j=>A c j*z j)=0):
 bQ N (fun j=>z j*t.cK m obj j)=bQ N (fun j=>obj j*z j):=by
 unfold b1.cK;rw[en (g:=fun j=>obj j*z j-bQ m (fun i=>obj (t.B i)*(t.T i j*z j))) (fun j _=>by rw[en (f:=fun i=>obj (t.B i)*(t.T i j*z j)) (g:=fun i=>z j*(obj (t.B i)*t.T i j)) (fun i _=>by grind),hj];grind),py,m7];rw[mI (n:=m) fun i ad=>by rw[hj,h.Rr bY ad];grind];grind
def b1.dir (m:Nat)(t:b1)(s j:Nat):Rat:=(if j=s then 1 else 0)-bQ m (fun i=>if t.B i=j then t.T i s else 0)
theorem e4.J2 (h:e4 da m N A t){s:Nat}(bN:s<N)(f:Nat->Rat):bQ N (fun j=>f j*t.dir m s j)=f s-bQ m (fun i=>f (t.B i)*t.T i s):=by unfold b1.dir;rw[en (g:=fun j=>(if j=s then f s else 0)-bQ m (fun i=>if t.B i=j then f (t.B i)*t.T i s else 0)) (fun j _=>by have e:bQ m (fun i=>if t.B i=j then f (t.B i)*t.T i s else 0)=f j*bQ m (fun i=>if t.B i=j then t.T i s else 0):=(by rw[<- hj];exact en fun i _=>by split<;>grind);rw[e];split<;>grind),py,i9 bN (f:=fun j=>if j=s then f s else 0) (fun i _ cc=>dz cc),dy rfl,m7];congr 1;exact en fun i ad=>by rw[i9 (h.jU i ad) (f:=fun j=>if t.B i=j then f (t.B i)*t.T i s else 0) (fun j _ cc=>dz fun x=>cc x.symm),dy rfl]
theorem e4.Rt (h:e4 da m N A t){s:Nat}(bN:s<N): ∀c,c<da->bQ N (fun j=>A c j*t.dir m s j)=0:=by intro c aJ;rw[h.J2 bN,<- h.pZ c aJ s (by omega)];grind
theorem e4.Ru (h:e4 da m N A t){s:Nat}(bN:s<N)(obj:Nat->Rat):bQ N (fun j=>obj j*t.dir m s j)=t.cK m obj s:=h.J2 bN obj
theorem e4.same {cx:b1}(h:e4 da m N A t)(bR:e4 da m N A cx)(e:∀i,i<m->t.B i=cx.B i){i:Nat}(ad:i<m){j:Nat}(ao:j<=N):t.T i j=cx.T i j:=by obtain⟨W,hW⟩:=h.row;rw[hW i ad j ao,en (g:=fun c=>bQ m (fun k=>W i c*(A c (cx.B k)*cx.T k j))) (fun c aJ=>by rw[bR.pZ c aJ j ao,hj]),m7];rw[en (g:=fun k=>(if i=k then cx.T k j else 0)) (fun k aL=>by rw[en (g:=fun c=>(W i c*A c (cx.B k))*cx.T k j) (fun c _=>by grind),rX,<- e k aL,<- hW i ad (t.B k) (Nat.le_of_lt (h.jU k aL)),h.unit i ad k aL];split<;>grind)];rw[i9 ad (f:=fun k=>if i=k then cx.T k j else 0) (fun k _ cc=>dz fun x=>cc x.symm),dy rfl]
end
def b1.jP (m N:Nat)(t:b1):Prop:= ∀i,i<m->0<=t.T i N
def b1.B5 (m K:Nat)(obj:Nat->Nat->Rat)(t:b1)(j:Nat):Prop:=gr K (fun l=>t.cK m (obj l) j)
structure nN (m N K:Nat) (obj:Nat->Nat->Rat) (bw:Nat->Prop) (t:b1) (r s:Nat):Prop where
 bN:s<N
 BG:bw s
 gs:t.B5 m K obj s
 least : ∀j,j<s->bw j-> ¬t.B5 m K obj j
 ah:r<m
 pos:0<t.T r s
 ratio : ∀i,i<m->0<t.T i s->t.T r N*t.T i s<=t.T i N*t.T r s
 tie : ∀i,i<m->0<t.T i s->t.T r N*t.T i s=t.T i N*t.T r s->t.B r<=t.B i
section
variable {da m N K:Nat} {A obj:Nat->Nat->Rat} {bw:Nat->Prop}
theorem nN.ok {t:b1}{r s:Nat}(b:nN m N K obj bw t r s)(h:e4 da m N A t):e4 da m N A (t.ch r s):=h.ch b.ah b.bN (by have:=b.pos;grind)
theorem nN.yH {t:b1}{r s:Nat}(b:nN m N K obj bw t r s)(h:t.jP m N):(t.ch r s).jP m N:=by
 intro i ad;have af:=b.pos;have U4:=h r b.ah;have aU:0<=t.T r N / t.T r s:=by rw[Rat.div_def];exact Ze U4 (Rat.le_of_lt (Rat.inv_pos.2 af))
 simp only[b1.ch];split
 ·exact aU
 by_cases c:0<t.T i s
 ·have o:=b.ratio i ad c;have J:t.T i s*(t.T r N / t.T r s)<=t.T i N:=(by have e:t.T i s*(t.T r N / t.T r s)=(t.T r N*t.T i s)*(1 / t.T r s):=(by grind);have av:t.T i N=(t.T i N*t.T r s)*(1 / t.T r s):=(by grind);rw[e,av];exact Rat.mul_le_mul_of_nonneg_right o (by rw[Rat.div_def,Rat.one_mul];exact Rat.le_of_lt (Rat.inv_pos.2 af)));grind
 have o:=h i ad;have J:0<=(- t.T i s)*(t.T r N / t.T r s):=Ze (by grind) aU;grind
theorem IC (f:Nat->Nat): ∀p,0<p-> ∃b,b<p/\ ∀k,k<p->f k<=f b
 | 0,h=>by omega
 | 1,_=>⟨0,by omega,fun k aL=>by rw[show k=0 by omega];exact dF _⟩
 | p+2,_=>by
  obtain⟨b,o,J⟩:=IC f (p+1) (by omega);by_cases c:f (p+1)<=f b
  ·exact⟨b,by omega,fun k aL=>if e:k=p+1 then e▸c else J k (by omega)⟩
  exact⟨p+1,by omega,fun k aL=>if e:k=p+1 then e▸dF _ else Nat.le_trans (J k (by omega)) (by omega)⟩
theorem Rv {t:Nat->b1}{r s:Nat->Nat}{p:Nat}(af:0<p)(h0:e4 da m N A (t 0))(f0:(t 0).jP m N)
 (cp : ∀n,n<p->nN m N K obj bw (t n) (r n) (s n)) (p8 : ∀n,n<p->t (n+1)=(t n).ch (r n) (s n)) (back : ∀i,i<m->(t p).B i=(t 0).B i):False:=by
 have ok : ∀n,n<=p->e4 da m N A (t n)/\(t n).jP m N:=by
  intro n
  induction n with
  | zero=>intro _;exact⟨h0,f0⟩
  | succ n ih =>
   intro aZ;obtain⟨a,b⟩:=ih (by omega);rw[p8 n (by omega)];exact⟨(cp n (by omega)).ok a,(cp n (by omega)).yH b⟩
 have Wf : ∀n,n<p->0<=(t n).T (r n) N / (t n).T (r n) (s n):=fun n aZ=>by rw[Rat.div_def];exact Ze ((ok n (by omega)).2 _ (cp n aZ).ah) (Rat.le_of_lt (Rat.inv_pos.2 (cp n aZ).pos))
 have gR : ∀n,n<=p->gr K (fun l=>(t 0).cK m (obj l) N-(t n).cK m (obj l) N)\/(xS K (fun l=>(t 0).cK m (obj l) N-(t n).cK m (obj l) N)/\ ∀k,k<n->(t k).T (r k) N=0):=by
  intro n
  induction n with
  | zero=>intro _;exact .inr ⟨fun l _=>by grind,fun k aL=>by omega⟩
  | succ n ih =>
   intro aZ;have b:=cp n (by omega);have iz:=b.pos;have e : ∀l,(t 0).cK m (obj l) N-(t (n+1)).cK m (obj l) N=((t n).T (r n) N / (t n).T (r n) (s n))*(t n).cK m (obj l) (s n)+((t 0).cK m (obj l) N-(t n).cK m (obj l) N):=fun l=>(by rw[p8 n (by omega),(ok n (by omega)).1.Rq (obj l) b.ah b.bN (by grind)];grind);by_cases c:(t n).T (r n) N=0
   ·have z : ∀l,(t 0).cK m (obj l) N-(t (n+1)).cK m (obj l) N=(t 0).cK m (obj l) N-(t n).cK m (obj l) N:=fun l=>by rw[e,c];grind
    rcases ih (by omega) with h|⟨o,J⟩
    ·exact .inl (h.congr fun l _=>(z l).symm)
    refine .inr ⟨fun l aw=>by have:=o l aw;simp only at this ⊢;rw[z l];exact this,fun k aL=> ?_⟩;by_cases Wg:k=n
    ·rw[Wg];exact c
    exact J k (by omega)
   have F6:0<(t n).T (r n) N / (t n).T (r n) (s n):=(by have o:=Wf n (by omega);have J:(t n).T (r n) N / (t n).T (r n) (s n)≠0:=fun x=>c (by grind);grind);have g1:gr K (fun l=>((t n).T (r n) N / (t n).T (r n) (s n))*(t n).cK m (obj l) (s n)):=gr.mul b.gs F6;left;rcases ih (by omega) with h|⟨o,-⟩
   ·exact(g1.add h).congr fun l _=>(e l).symm
   exact(g1.add_zero o).congr fun l _=>(e l).symm
 have zero : ∀k,k<p->(t k).T (r k) N=0:=by
  rcases gR p (dF _) with h|h
  ·refine(h.not_zero fun l _=> ?_).elim;unfold b1.cK;rw[en (f:=fun i=>obj l ((t p).B i)*(t p).T i N) (g:=fun i=>obj l ((t 0).B i)*(t 0).T i N) fun i ad=>by rw[back i ad,(ok p (dF _)).1.same (ok 0 (by omega)).1 back ad (dF _)]];grind
  exact h.2
 have const : ∀n,n<=p-> ∀i,i<m->(t n).T i N=(t 0).T i N:=by
  intro n
  induction n with
  | zero=>intros;rfl
  | succ n ih =>
   intro aZ i ad;rw[<- ih (by omega) i ad,p8 n (by omega)];simp only[b1.ch];have:=zero n (by omega);split
   ·rename_i e;rw[e,this];grind
   rw[this];grind
 have Fe : ∀n,n<p-> ∀i,i<m->(t n).B i≠s n:=fun n aZ i ad e=>by refine gr.not_zero (cp n aZ).gs fun l _=> ?_;rw[<- e];exact(ok n (by omega)).1.xE (obj l) ad
 have MI : ∀d n,n+d<=p-> ∀j,(∀i,i<m->(t n).B i≠j)->(∀k,n<=k->k<n+d->s k≠j)-> ∀i,i<m->(t (n+d)).B i≠j:=by
  intro d
  induction d with
  | zero=>intro n aZ j o J;exact o
  | succ d ih =>
   intro n aZ j o J i ad;rw[<- Nat.add_assoc,p8 (n+d) (by omega)];simp only[b1.ch];split
   ·exact J (n+d) (by omega) (by omega)
   exact ih n (by omega) j o (fun k a b=>J k a (by omega)) i ad
 have MJ : ∀d n,n+d<=p-> ∀i,i<m->(∀k,n<=k->k<n+d->r k≠i)->(t (n+d)).B i=(t n).B i:=by
  intro d
  induction d with
  | zero=>intros;rfl
  | succ d ih =>
   intro n aZ i ad J;rw[<- Nat.add_assoc,p8 (n+d) (by omega)];simp only[b1.ch];rw[dz fun e=>J (n+d) (by omega) (by omega) e.symm];exact ih n (by omega) i ad (fun k a b=>J k a (by omega))
 have MK : ∀d n,n+d<=p-> ∀i,i<m-> ∀q,(t n).B i=q->(∀k,n<=k->k<n+d->(t k).B (r k)≠q)->(t (n+d)).B i=q:=by
  intro d
  induction d with
  | zero=>intro n aZ i ad q o J;exact o
  | succ d ih =>
   intro n aZ i ad q o J;have an:=ih n (by omega) i ad q o (fun k a b=>J k a (by omega));rw[<- Nat.add_assoc,p8 (n+d) (by omega)];simp only[b1.ch];rw[dz fun e=>J (n+d) (by omega) (by omega) (by rw[<- e];exact an)];exact an
 obtain⟨b,aE,Lo⟩:=IC s p af;have uv:=cp b aE;have Wh : ∃a,a<p/\(t a).B (r a)=s b:=by apply Classical.byContradiction;intro cc;have mr : ∀a,a<p->(t a).B (r a)≠s b:=fun a bs e=>cc ⟨a,bs,e⟩;have ap:(t (b+1)).B (r b)=s b:=(by rw[p8 b aE];simp[b1.ch]);have av:=MK (p-(b+1)) (b+1) (by omega) (r b) uv.ah (s b) ap (fun k _ aL=>mr k (by omega));rw[show b+1+(p-(b+1))=p by omega,back _ uv.ah] at av;have bS:=MK b 0 (by omega) (r b) uv.ah (s b) av (fun k _ aL=>mr k (by omega));rw[dG] at bS;exact Fe b aE _ uv.ah bS
 obtain⟨a,bs,aU⟩:=Wh;have sI:=cp a bs;have B6:=(ok a (by omega)).1;have LY:=(ok b (by omega)).1;have U5:s a<s b:=by have o:=Lo a bs;have J:s a≠s b:=fun e=>Fe a bs (r a) sI.ah (aU.trans e.symm);omega
 have TT:gr K (fun l=>bQ N (fun j=>(t a).dir m (s a) j*(t b).cK m (obj l) j)) :=
  gr.congr sI.gs fun l _=>by rw[LY.Rs (obj l) (B6.Rt sI.bN),B6.Ru sI.bN]
 obtain⟨j,ao,TU⟩:=gr.D0 (v:=fun j l=>(t a).dir m (s a) j*(t b).cK m (obj l) j) TT;have hmul:=TU.KA;by_cases zB:j=s a
 ·have bk:(t a).dir m (s a) j=1:=by
   unfold b1.dir;rw[dy zB,mI fun i ad=>dz (by rw[zB];exact Fe a bs i ad)];grind
  rw[bk] at hmul;rcases hmul with ⟨-,h⟩|⟨h,-⟩
  ·rw[zB] at h;exact uv.least (s a) U5 sI.BG h
  grind
 by_cases Lp : ∃i,i<m/\(t a).B i=j;rotate_left
 ·have bk:(t a).dir m (s a) j=0:=by
   unfold b1.dir;rw[dz zB,mI fun i ad=>dz fun e=>Lp ⟨i,ad,e⟩];grind
  rw[bk] at hmul;rcases hmul with ⟨h,-⟩|⟨h,-⟩<;>grind
 obtain⟨i,ad,oz⟩:=Lp;have bk:(t a).dir m (s a) j = - (t a).T i (s a):=by unfold b1.dir;rw[dz zB,i9 ad (fun k aL cc=>dz fun e=>cc (B6.inj aL ad (e.trans oz.symm))),dy oz];grind
 rw[bk] at hmul
 have LZ : ∀k,k<m->(t b).B k≠j:=fun k aL e=>by
  have z:xS K (fun l=>(t b).cK m (obj l) j):=fun l _=>(by rw[<- e];exact LY.xE (obj l) aL);rcases hmul with ⟨-,h⟩|⟨-,h⟩
  ·exact h.not_zero z
  exact h.not_zero fun l aw=>by have:=z l aw;simp only at this ⊢;grind
 have U6 : ∃k,k<p/\s k=j:=by apply Classical.byContradiction;intro cc;have mr : ∀k,k<p->s k≠j:=fun k aL e=>cc ⟨k,aL,e⟩;have ap:=MI (p-b) b (by omega) j LZ (fun k _ aL=>mr k (by omega));rw[show b+(p-b)=p by omega] at ap;have av:=MI a 0 (by omega) j (fun k aL=>by rw[<- back k aL];exact ap k aL) (fun k _ aL=>mr k (by omega));rw[dG] at av;exact av i ad oz
 obtain⟨k,aL,y5⟩:=U6;have Yg:j<=s b:=by rw[<- y5];exact Lo k aL
 have U7:bw j:=by rw[<- y5];exact(cp k aL).BG
 have TV : ∃k,k<p/\r k=i:=by apply Classical.byContradiction;intro cc;have mr : ∀k,k<p->r k≠i:=fun k aL e=>cc ⟨k,aL,e⟩;have ap:=MJ a 0 (by omega) i ad (fun k _ aL=>mr k (by omega));have av:=MJ b 0 (by omega) i ad (fun k _ aL=>mr k (by omega));rw[dG] at ap av;exact LZ i ad (by rw[av,<- ap];exact oz)
 obtain⟨hU,uc,TW⟩:=TV;have bY:(t a).T i N=0:=by rw[const a (by omega) i ad,<- const hU (by omega) i ad,<- TW];exact zero hU uc
 rcases hmul with ⟨o,J⟩|⟨o,J⟩
 ·have U8:j≠s b:=fun e=>by
   have:i=r a:=B6.inj ad sI.ah (by rw[oz,aU,e]);have af:=sI.pos;rw[<- this] at af;grind
  exact uv.least j (by omega) U7 J
 have U8:j≠s b:=fun e=>by rw[e] at J;exact gr.not_neg uv.gs J
 have iz:0<(t a).T i (s a):=by grind
 have:=sI.tie i ad iz (by rw[bY,zero a bs];grind);rw[aU,oz] at this;omega
end
theorem D1 : ∀(M p:Nat) (f:Nat->Nat),(∀n,n<p->f n<M)->(∀a b,a<p->b<p->f a=f b->a=b)->p<=M
 | 0,p,f,h,_=>by
  cases p with
  | zero=>exact dF _
  | succ p=>have:=h 0 (by omega);omega
 | M+1,p,f,h,ad=>by
  by_cases c : ∃n,n<p/\f n=M
  ·obtain⟨n0,h0,e0⟩:=c
   have:=D1 M (p-1) (fun n=>f (if n<n0 then n else n+1)) (fun n aZ=>by
    have o:=h (if n<n0 then n else n+1) (by split<;>omega);have J:f (if n<n0 then n else n+1)≠M:=fun e=>(by have:=ad _ _ (by split<;>omega) h0 (e.trans e0.symm);split at this<;>omega);omega) (fun a b bs aE e=>by
    have:=ad _ _ (by split<;>omega) (by split<;>omega) e;split at this<;>split at this<;>omega)
   omega
  have:=D1 M p f (fun n aZ=>by have o:=h n aZ;have J:f n≠M:=fun e=>c ⟨n,aZ,e⟩;omega) ad;omega
def code (N:Nat)(B:Nat->Nat):Nat->Nat
 | 0=>0
 | m+1=>code N B m+B m*N ^ m
theorem AF {N:Nat}{B:Nat->Nat}: ∀ {m:Nat},(∀i,i<m->B i<N)->code N B m<N ^ m
 | 0,_=>by simp[code]
 | m+1,h=>by have o:=AF (m:=m) fun i ad=>h i (by omega);have J:=h m (by omega);have an:(B m+1)*N ^ m<=N*N ^ m:=Y5 _ J;rw[Nat.add_mul] at an;rw[code,Nat.pow_succ,Nat.mul_comm (N ^ m) N];omega
theorem Jx {N:Nat}{B uw:Nat->Nat}: ∀ {m:Nat},(∀i,i<m->B i<N)->(∀i,i<m->uw i<N)->code N B m=code N uw m-> ∀i,i<m->B i=uw i
 | 0,_,_,_,i,ad=>by omega
 | m+1,h,bR,e,i,ad=>by
  have o:=AF (m:=m) fun i ad=>h i (by omega);have J:=AF (m:=m) fun i ad=>bR i (by omega);rw[code,code] at e;have iz:0<N ^ m:=(by omega);have ap:B m=uw m:=(by have gX:(code N B m+B m*N ^ m) / N ^ m=B m:=(by rw[Nat.add_mul_div_right _ _ iz,Nat.div_eq_of_lt o];omega);have i4:(code N uw m+uw m*N ^ m) / N ^ m=uw m:=(by rw[Nat.add_mul_div_right _ _ iz,Nat.div_eq_of_lt J];omega);rw[<- gX,<- i4,e]);rw[ap] at e;by_cases c:i=m
  ·rw[c];exact ap
  exact Jx (m:=m) (fun i ad=>h i (by omega)) (fun i ad=>bR i (by omega)) (by omega) i (by omega)
section
variable {da m N K:Nat} {A obj:Nat->Nat->Rat} {bw:Nat->Prop}
structure yI (m N K:Nat) (obj:Nat->Nat->Rat) (bw:Nat->Prop) (t:Nat->b1) (r s:Nat->Nat) (p:Nat):Prop where
 cp : ∀n,n<p->nN m N K obj bw (t n) (r n) (s n)
 p8 : ∀n,n<p->t (n+1)=(t n).ch (r n) (s n)
theorem yI.ok {t:Nat->b1}{r s:Nat->Nat}{p:Nat}(h:yI m N K obj bw t r s p)(h0:e4 da m N A (t 0))(f0:(t 0).jP m N): ∀n,n<=p->e4 da m N A (t n)/\(t n).jP m N:=by
 intro n
 induction n with
 | zero=>intro _;exact⟨h0,f0⟩
 | succ n ih =>
  intro aZ;obtain⟨a,b⟩:=ih (by omega);rw[h.p8 n (by omega)];exact⟨(h.cp n (by omega)).ok a,(h.cp n (by omega)).yH b⟩
theorem yI.short {t:Nat->b1}{r s:Nat->Nat}{p:Nat}(h:yI m N K obj bw t r s p)(h0:e4 da m N A (t 0))(f0:(t 0).jP m N):p+1<=N ^ m:=by
 have ok:=h.ok h0 f0;refine D1 (N ^ m) (p+1) (fun n=>code N (t n).B m) (fun n aZ=>AF (ok n (by omega)).1.jU) fun a b bs aE e=> ?_
 have key : ∀a b,a<b->b<=p->code N (t a).B m=code N (t b).B m->False:=fun a b qE aE e=>by
  have gN:=Jx (ok a (by omega)).1.jU (ok b aE).1.jU e
  exact Rv (t:=fun n=>t (a+n)) (r:=fun n=>r (a+n)) (s:=fun n=>s (a+n)) (p:=b-a) (by omega) (ok a (by omega)).1 (ok a (by omega)).2
   (fun n aZ=>h.cp (a+n) (by omega)) (fun n aZ=>h.p8 (a+n) (by omega)) (fun i ad=>by show (t (a+(b-a))).B i=(t a).B i;rw[show a+(b-a)=b by omega];exact(gN i ad).symm)
 rcases Nat.lt_trichotomy a b with c|c|c
 ·exact(key a b c (by omega) e).elim
 ·exact c
 exact(key b a c (by omega) e.symm).elim
theorem P2 {fC MZ:Type}{f:fC->Option (fC⊕MZ)}(au:fC->b1->Prop)(E:fC->MZ->b1->Prop)
 (step : ∀a t,au a t->e4 da m N A t->t.jP m N->(∃x,f a=some (.inr x)/\E a x t)\/ ∃cP r s,f a=some (.inl cP)/\nN m N K obj bw t r s/\au cP (t.ch r s))
 {a:fC} {t:b1} (cb:au a t) (h0:e4 da m N A t) (f0:t.jP m N) : ∃x cP cx,iter f a=some x/\au cP cx/\e4 da m N A cx/\cx.jP m N/\E cP x cx:=by
 have key : ∀k p (T:Nat->b1) (r s:Nat->Nat),N ^ m<=p+k->yI m N K obj bw T r s p->e4 da m N A (T 0)->(T 0).jP m N-> ∀a,au a (T p)-> ∃x cP cx,iter f a=some x/\au cP cx/\e4 da m N A cx/\cx.jP m N/\E cP x cx:=by
  intro k
  induction k with
  | zero =>
   intro p T r s aL h h0 f0 a cb;have:=h.short h0 f0;omega
  | succ k ih =>
   intro p T r s aL h h0 f0 a cb;obtain⟨ok,kF⟩:=h.ok h0 f0 p (dF _);rcases step a (T p) cb ok kF with ⟨x,U,he⟩|⟨cP,dn,bj,bL,aE,U9⟩
   ·exact⟨x,a,T p,by rw[iter,U];rfl,cb,ok,kF,he⟩
   obtain⟨x,i4,t2,ap,av⟩:=ih (p+1) (fun n=>if n<=p then T n else (T p).ch dn bj) (fun n=>if n<p then r n else dn) (fun n=>if n<p then s n else bj) (by omega)
    ⟨fun n aZ=>by
     by_cases c:n<p
     ·rw[dy (by omega),dy c,dy c];exact h.cp n c
     ·rw[dy (by omega),dz c,dz c,show n=p by omega];exact aE,
     fun n aZ=>by
      by_cases c:n<p
      ·rw[dy (by omega),dy (by omega),dy c,dy c];exact h.p8 n c
      rw[dz (by omega),dy (by omega),dz c,dz c,show n=p by omega]⟩ (by simpa using h0) (by simpa using f0) cP (by rw[dz (by omega)];exact U9)
   exact⟨x,i4,t2,by rw[iter,bL];exact ap,av⟩
 exact key (N ^ m) 0 (fun _=>t) (fun _=>0) (fun _=>0) (by omega) ⟨fun n aZ=>by omega,fun n aZ=>by omega⟩ h0 f0 a cb
theorem e4.value {t:b1}(h:e4 da m N A t)(I:Nat->Rat){z:Nat->Rat}(bY:∀c,c<da->bQ N (fun j=>A c j*z j)=A c N):
 bQ N (fun j=>I j*z j)=bQ m (fun i=>I (t.B i)*t.T i N)+bQ N (fun j=>z j*t.cK m I j):=by
 obtain⟨W,hW⟩:=h.row;have ah : ∀i,i<m->bQ N (fun j=>t.T i j*z j)=t.T i N:=fun i ad=>by rw[en (g:=fun j=>bQ da (fun c=>W i c*(A c j*z j))) (fun j ao=>by rw[hW i ad j (by omega),<- rX];exact en fun c _=>by grind),m7,hW i ad N (dF _)];exact en fun c aJ=>by rw[hj,bY c aJ]
 unfold b1.cK;rw[en (f:=fun j=>z j*(I j-bQ m fun i=>I (t.B i)*t.T i j)) (g:=fun j=>I j*z j-bQ m (fun i=>I (t.B i)*(t.T i j*z j))) (fun j _=>by rw[en (f:=fun i=>I (t.B i)*(t.T i j*z j)) (g:=fun i=>z j*(I (t.B i)*t.T i j)) (fun i _=>by grind),hj];grind),py,m7];rw[en (f:=fun i=>bQ N fun j=>I (t.B i)*(t.T i j*z j)) (g:=fun i=>I (t.B i)*t.T i N) fun i ad=>by rw[hj,ah i ad]];grind
def b1.hg (m N:Nat)(t:b1)(j:Nat):Rat:=bQ m (fun i=>if t.B i=j then t.T i N else 0)
theorem e4.AG {t:b1}(h:e4 da m N A t)(f:Nat->Rat):bQ N (fun j=>f j*t.hg m N j)=bQ m (fun i=>f (t.B i)*t.T i N):=by unfold b1.hg;rw[en (g:=fun j=>bQ m (fun i=>if t.B i=j then f (t.B i)*t.T i N else 0)) (fun j _=>by rw[<- hj];exact en fun i _=>by split<;>grind),m7];exact en fun i ad=>by rw[i9 (h.jU i ad) (f:=fun j=>if t.B i=j then f (t.B i)*t.T i N else 0) (fun j _ cc=>dz fun x=>cc x.symm),dy rfl]
theorem e4.SL {t:b1}(h:e4 da m N A t): ∀c,c<da->bQ N (fun j=>A c j*t.hg m N j)=A c N:=fun c aJ=>by rw[h.AG,<- h.pZ c aJ N (dF _)]
theorem b1.jP.hg {t:b1}(h:t.jP m N)(j:Nat):0<=t.hg m N j:=oR fun i ad=>by split;exact h i ad;exact Rat.le_refl
theorem e4.W8 {t:b1}(h:e4 da m N A t){i:Nat}(ad:i<m):t.hg m N (t.B i)=t.T i N:=by unfold b1.hg;rw[i9 ad (fun k aL cc=>dz fun e=>cc (h.inj aL ad e)),dy rfl]
theorem b1.Pe {t:b1}{j:Nat}(h:∀i,i<m->t.B i≠j):t.hg m N j=0:=mI fun i ad=>dz (h i ad)
end
def skip {α:Type}(i:Nat)(f:Nat->α)(k:Nat):α:=f (if k<i then k else k+1)
def fe {α:Type}(M:Nat->α)(k:Nat)(v:α)(i:Nat):α:=if i=k then v else M i
def p1 (n:Nat):Rat:=if n % 2=0 then 1 else -1
theorem Rw (n:Nat):p1 (n+1) = - p1 n:=by
 unfold p1;by_cases h:n % 2=0
 ·rw[dy h,dz (by omega)]
 rw[dz h,dy (by omega)];grind
def gL:Nat->(Nat->Nat->Rat)->Rat
 | 0,_=>1
 | n+1,M=>bQ (n+1) (fun i=>p1 (i+n)*M i n*gL n (skip i M))
theorem Ao : ∀ {n:Nat} {M w1:Nat->Nat->Rat},(∀i,i<n-> ∀c,c<n->M i c=w1 i c)->gL n M=gL n w1
 | 0,_,_,_=>rfl
 | n+1,M,w1,h=>by rw[gL,gL];exact en fun i ad=>by rw[h i ad n (by omega),Ao (M:=skip i M) (w1:=skip i w1) fun k aL c aJ=> ?_];simp only[skip];exact h _ (by split<;>omega) c (by omega)
theorem CW {α:Type}(M:Nat->α)(k:Nat)(v:α):skip k (fe M k v)=skip k M:=by funext i;simp only[skip,fe];rw[dz];split<;>omega
theorem C5 {α:Type}(M:Nat->α){i k:Nat}(v:α)(h:k<i):skip i (fe M k v)=fe (skip i M) k v:=by
 funext j;simp only[skip,fe];by_cases c:j=k
 ·subst c;rw[dy h,dy rfl]
 rw[dz c,dz];split<;>omega
theorem C6 {α:Type}(M:Nat->α){i k:Nat}(v:α)(h:i<k):skip i (fe M k v)=fe (skip i M) (k-1) v:=by
 funext j;simp only[skip,fe];by_cases c:j=k-1
 ·rw[dy c,dy (by split<;>omega)]
 rw[dz c,dz];split<;>omega
theorem vV : ∀ {n k:Nat} (M:Nat->Nat->Rat) (a b:Rat) (u v:Nat->Rat),k<n ->
 gL n (fe M k (fun c=>a*u c+b*v c))=a*gL n (fe M k u)+b*gL n (fe M k v)
 | 0,k,_,_,_,_,_,h=>by omega
 | n+1,k,M,a,b,u,v,aL=>by
  rw[gL,gL,gL,<- hj,<- hj,<- s7];refine en fun i ad=> ?_;rcases Nat.lt_trichotomy i k with c|c|c
  ·rw[C6 _ _ c,C6 _ _ c,C6 _ _ c,vV (skip i M) a b u v (by omega)];simp only[fe,dz (Nat.ne_of_lt c)];grind
  ·subst c;rw[CW,CW,CW];simp only[fe,if_true];grind
  rw[C5 _ _ c,C5 _ _ c,C5 _ _ c,vV (skip i M) a b u v (by omega)];simp only[fe,dz (Nat.ne_of_gt c)];grind
theorem Dk {α:Type}(M:Nat->α)(k:Nat):fe M k (M k)=M:=by
 funext i;simp only[fe];split
 ·rename_i e;rw[e]
 rfl
theorem J3 {n k:Nat}(aL:k<n)(M:Nat->Nat->Rat)(x:Nat->Rat)(V:Nat->Nat->Rat): ∀m,gL n (fe M k (fun c=>bQ m (fun i=>x i*V i c)))=bQ m (fun i=>x i*gL n (fe M k (V i)))
 | 0=>by have:=vV M 0 0 (fun _=>0) (fun _=>0) aL;simp only[bQ];rw[show (fun c=>(0:Rat))=(fun c:Nat=>0*(0:Rat)+0*0) from by funext c;grind,this];grind
 | m+1=>by have o:=vV M 1 (x m) (fun c=>bQ m (fun i=>x i*V i c)) (V m) aL;simp only[bQ];rw[show (fun c=>(bQ m fun i=>x i*V i c)+x m*V m c)=(fun c=>1*(bQ m fun i=>x i*V i c)+x m*V m c) from by funext c;grind,o,J3 aL M x V m];grind
theorem AH : ∀ {n k:Nat} (M:Nat->Nat->Rat),k+1<n->M k=M (k+1)->gL n M=0
 | 0,k,_,h,_=>by omega
 | n+1,k,M,h,e=>by
  rw[gL]
  have bN:skip k M=skip (k+1) M:=by
   funext i;simp only[skip];by_cases c:i=k
   ·subst c;rw[dz (by omega),dy (by omega)];exact e.symm
   congr 1;split<;>split<;>omega
  have h0 : ∀i,i<n+1->i≠k->i≠k+1->p1 (i+n)*M i n*gL n (skip i M)=0:=by
   intro i ad o J
   have:gL n (skip i M)=0:=by
    by_cases c:i<k
    ·exact AH (k:=k-1) _ (by omega) (by simp only[skip];rw[dz (by omega),dz (by omega),show k-1+1=k by omega];exact e)
    exact AH (k:=k) _ (by omega) (by simp only[skip];rw[dy (by omega),dy (by omega)];exact e)
   rw[this];grind
  have av : ∀i,i<n+1->p1 (i+n)*M i n*gL n (skip i M)=(if i=k then p1 (k+n)*M k n*gL n (skip k M) else 0)+(if i=k+1 then p1 (k+1+n)*M (k+1) n*gL n (skip (k+1) M) else 0):=by
   intro i ad;by_cases bG:i=k
   ·rw[dy bG,dz (by omega),bG];grind
   by_cases cq:i=k+1
   ·rw[dz bG,dy cq,cq];grind
   rw[dz bG,dz cq,h0 i ad bG cq];grind
  rw[en av,s7,i9 (k:=k) (by omega) (fun i _ cc=>dz cc),i9 (k:=k+1) (by omega) (fun i _ cc=>dz cc),dy rfl,dy rfl,<- bN,<- e,show k+1+n=k+n+1 by omega,Rw];grind
def yi {α:Type}(M:Nat->α)(k i:Nat):α:=if i=k then M (k+1) else if i=k+1 then M k else M i
theorem Rx {n k:Nat}(M:Nat->Nat->Rat)(h:k+1<n):gL n (yi M k) = - gL n M:=by
 have two : ∀u v:Nat->Rat,gL n (fe (fe M k u) (k+1) v) = - gL n (fe (fe M k v) (k+1) u):=by
  intro u v;have h0 : ∀w:Nat->Rat,gL n (fe (fe M k w) (k+1) w)=0:=fun w=>AH (k:=k) _ h (by funext c;simp[fe])
  have comm : ∀u v:Nat->Rat,fe (fe M k u) (k+1) v=fe (fe M (k+1) v) k u:=by
   intro u v;funext i;simp only[fe];by_cases bG:i=k
   ·subst bG;simp
   simp[bG]
  have mE : ∀w u v:Nat->Rat,gL n (fe (fe M k w) (k+1) (fun c=>1*u c+1*v c))=1*gL n (fe (fe M k w) (k+1) u)+1*gL n (fe (fe M k w) (k+1) v):=fun w u v=>vV (fe M k w) 1 1 u v h;have po : ∀w u v:Nat->Rat,gL n (fe (fe M k (fun c=>1*u c+1*v c)) (k+1) w)=1*gL n (fe (fe M k u) (k+1) w)+1*gL n (fe (fe M k v) (k+1) w):=fun w u v=>(by rw[comm,comm,comm];exact vV (fe M (k+1) w) 1 1 u v (by omega));have:=h0 (fun c=>1*u c+1*v c);rw[mE,po,po,h0,h0] at this;grind
 have ap:yi M k=fe (fe M k (M (k+1))) (k+1) (M k):=by
  funext i;simp only[yi,fe];by_cases bG:i=k
  ·subst bG;simp
  simp[bG]
 have av:fe (fe M k (M k)) (k+1) (M (k+1))=M:=by rw[Dk,Dk]
 rw[ap,two,av]
theorem D2 : ∀(d:Nat) {n a:Nat} (M:Nat->Nat->Rat),a+d+1<n->M a=M (a+d+1)->gL n M=0
 | 0,n,a,M,h,e=>AH M h e
 | d+1,n,a,M,h,e=>by have o:=D2 d (n:=n) (a:=a) (yi M (a+d+1)) (by omega) (by simp only[yi];rw[dz (by omega),dz (by omega)];rw[dy trivial];exact e);rw[Rx M (by omega)] at o;grind
theorem R8 {n a b:Nat}(M:Nat->Nat->Rat)(bs:a<n)(aE:b<n)(qE:a≠b)(e:M a=M b):gL n M=0:=by
 rcases Nat.lt_or_gt_of_ne qE with c|c
 ·exact D2 (b-a-1) M (a:=a) (by omega) (by rw[show a+(b-a-1)+1=b by omega];exact e)
 exact D2 (a-b-1) M (a:=b) (by omega) (by rw[show b+(a-b-1)+1=a by omega];exact e.symm)
def d2 (K:Nat)(x:Rat):Prop:= ∃z:Int,x=z/\z.natAbs<=K
theorem d2.mono {K p9:Nat}{x:Rat}(h:d2 K x)(aL:K<=p9):d2 p9 x:=by obtain⟨z,e,h⟩:=h;exact⟨z,e,Nat.le_trans h aL⟩
theorem d2.add {K p9:Nat}{x y:Rat}(h:d2 K x)(bR:d2 p9 y):d2 (K+p9) (x+y):=by obtain⟨a,rfl,bs⟩:=h;obtain⟨b,rfl,aE⟩:=bR;exact⟨a+b,by rw[Rat.intCast_add],by omega⟩
theorem d2.neg {K:Nat}{x:Rat}(h:d2 K x):d2 K (-x):=by obtain⟨a,rfl,bs⟩:=h;exact⟨-a,by rw[Rat.intCast_neg],by omega⟩
theorem d2.sub {K p9:Nat}{x y:Rat}(h:d2 K x)(bR:d2 p9 y):d2 (K+p9) (x-y):=by have:=h.add bR.neg;rw[show x + -y=x-y by grind] at this;exact this
theorem d2.mul {K p9:Nat}{x y:Rat}(h:d2 K x)(bR:d2 p9 y):d2 (K*p9) (x*y):=by obtain⟨a,rfl,bs⟩:=h;obtain⟨b,rfl,aE⟩:=bR;exact⟨a*b,by rw[Zg],by rw[Int.natAbs_mul];exact Nat.mul_le_mul bs aE⟩
theorem d2.sum {K:Nat}{f:Nat->Rat}: ∀ {n:Nat},(∀i,i<n->d2 K (f i))->d2 (n*K) (bQ n f)
 | 0,_=>⟨0,rfl,by simp⟩
 | n+1,h=>by have:=(d2.sum (n:=n) fun i ad=>h i (by omega)).add (h n (by omega));rw[<- Nat.succ_mul] at this;exact this
theorem SM (n:Nat):d2 1 (p1 n):=by
 unfold p1;split
 ·exact⟨1,rfl,by omega⟩
 exact⟨-1,rfl,by omega⟩
def ph (K:Nat):Nat->Nat
 | 0=>1
 | n+1=>(n+1)*(K*ph K n)
theorem AS {K:Nat}: ∀ {n:Nat} {M:Nat->Nat->Rat},(∀i,i<n-> ∀c,c<n->d2 K (M i c))->d2 (ph K n) (gL n M)
 | 0,_,_=>⟨1,rfl,by simp[ph]⟩
 | n+1,M,h=>d2.sum fun i ad=>by have:=((SM (i+n)).mul (h i ad n (by omega))).mul (AS (n:=n) (M:=skip i M) fun k aL c aJ=>h _ (by split<;>omega) c (by omega));rw[Nat.one_mul] at this;exact this
theorem AA {K:Nat}(gG:0<K): ∀ {n k:Nat},n<=k->ph K n<=ph K k
 | n,0,h=>by rw[show n=0 by omega];exact dF _
 | n,k+1,h=>by
  by_cases c:n=k+1
  ·rw[c];exact dF _
  refine Nat.le_trans (AA gG (k:=k) (by omega)) ?_;rw[ph];have:1*ph K k<=K*ph K k:=Y5 _ gG;have J:1*(K*ph K k)<=(k+1)*(K*ph K k):=Y5 _ (by omega);omega
section
variable {m N:Nat} {A:Nat->Nat->Rat} {t:b1}
def b1.D (m:Nat)(A:Nat->Nat->Rat)(t:b1):Rat:=gL m (fun i c=>A c (t.B i))
def b1.w2 (m:Nat)(A:Nat->Nat->Rat)(t:b1)(i j:Nat):Rat:=gL m (fe (fun i c=>A c (t.B i)) i (fun c=>A c j))
theorem e4.w2 (h:e4 m m N A t){i j:Nat}(ad:i<m)(ao:j<=N):t.w2 m A i j=t.T i j*t.D m A:=by
 have e:t.w2 m A i j=gL m (fe (fun i c=>A c (t.B i)) i (fun c=>bQ m (fun k=>t.T k j*(fun i c=>A c (t.B i)) k c))):=by
  refine Ao fun k aL c aJ=> ?_;simp only[fe];split
  ·show A c j=_;rw[h.pZ c aJ j ao];exact en fun k _=>Rat.mul_comm _ _
  rfl
 rw[e,J3 ad,i9 ad fun k aL cc=>by rw[R8 _ ad aL (fun x=>cc x.symm) (by simp only[fe,if_true];rw[dz cc])];grind];rw[Dk (fun i c=>A c (t.B i)) i];rfl
theorem e4.yj (h:e4 m m N A t){r k:Nat}(ah:r<m)(aL:k<N):(t.ch r k).D m A=t.T r k*t.D m A:=by rw[<- h.w2 ah (by omega:k<=N)];refine Ao fun i ad c aJ=> ?_;simp only[b1.ch,fe];split<;>rfl
end
def bl {α:Type}(n:Nat)(f:Nat->α):List α:=(List.range n).map f
theorem fm {α:Type}(n:Nat)(f:Nat->α):(bl n f).length=n:=by simp[bl]
theorem iH {α:Type}{n:Nat}{f:Nat->α}{i:Nat}(h:i<n):(bl n f)[i]? = some (f i):=by simp[bl,h]
theorem jM {α:Type}{n:Nat}{f:Nat->α}{i:Nat}(h:i<n):(bl n f)[0+i]? = some (f i):=by rw[dG];exact iH h
theorem fF {α:Type}{n:Nat}{f g:Nat->α}(h:∀i,i<n->f i=g i):bl n f=bl n g :=
 Y8 fun i ad=>h i (List.mem_range.1 ad)
theorem mO {α:Type}(n:Nat)(f:Nat->α)(i:Nat)(v:α):(bl n f).set i v=bl n (fun k=>if k=i then v else f k):=by
 apply Zb;intro k;rw[YZ];simp only[bl,Zc,List.length_range,dI];by_cases h:i=k
 ·subst h
  by_cases c:i<n
  ·simp[c]
  simp[c]
 rw[dz h];by_cases c:k<n
 ·simp[c,Ne.symm h]
 simp[c]
theorem R9 {α:Type}{n:Nat}{f:Nat->α}{x:α}:x∈bl n f↔ ∃i,i<n/\f i=x:=by simp[bl]
theorem Sa {α β:Type}(n:Nat)(f:Nat->α)(g:α->β):(bl n f).map g=bl n (fun i=>g (f i)):=by simp[bl]
theorem xM {α:Type}(n:Nat)(f:Nat->α):bl (n+1) f=bl n f++[f n]:=by simp[bl,List.range_succ]
theorem f6 {n:Nat}(h:n<1000000):aa ((n:Int)+1)=((n+1:Nat):Int):=by rw[cQ (by omega) (by omega)];omega
theorem dh {α:Type}{p:Prop}[Decidable p] {x r:Option α} (k:x=r) (h:p:=by first|omega|(simp only;omega)|(rw[fm];omega)|(rw[fm,dA];omega)|(rw[fm];simp only;omega)|(simp only;rw[fm];omega)):(if p then x else none)=r:=df h k
theorem eS {α:Type}{p:Prop}[Decidable p] {x y r:α} (k:x=r) (h:p:=by first|omega|(simp only;omega)):(if decide p=true then x else y)=r:=jY h k
theorem f8 {α:Type}{p:Prop}[Decidable p] {x y r:α} (k:y=r) (h : ¬p:=by first|omega|(simp only;omega)|(simp;done)):(if decide p=true then x else y)=r:=jL h k
def kz (x:Int):Int:=if x<0 then -1 else 1
def mG (m n:Nat)(a:Nat->Nat->Int)(b:Nat->Int)(i j:Nat):Int :=
 if j<n then kz (b i)*a i j else if j=n+m then kz (b i)*b i else if j=n+i then 1 else 0
def dg (m n:Nat)(a:Nat->Nat->Int)(b:Nat->Int)(i j:Nat):Rat:=(mG m n a b i j:Rat)
def nl (m n:Nat)(a:Nat->Nat->Int)(b:Nat->Int):b1:=⟨dg m n a b,fun i=>n+i⟩
def gR (m n j:Nat):Rat:=if n<=j/\j<n+m then -1 else 0
def pN (m n:Nat)(a:Nat->Nat->Int)(b:Nat->Int):Prop:= ∃x:Nat->Rat,(∀j,j<n->0<=x j)/\ ∀i,i<m->bQ n (fun j=>(a i j:Rat)*x j)=(b i:Rat)
section
variable {m n:Nat} {a:Nat->Nat->Int} {b:Nat->Int}
theorem KB (x:Int):((kz x:Int):Rat)≠0:=by unfold kz;split<;>simp<;>decide
theorem Sb (x:Int):0<=kz x*x:=by unfold kz;split<;>omega
theorem tp {i k:Nat}(aL:k<m):dg m n a b i (n+k)=if k=i then 1 else 0:=by
 unfold dg mG;rw[dz (by omega),dz (by omega)];by_cases c:k=i
 ·rw[dy c,dy (by omega)];rfl
 rw[dz c,dz (by omega)];rfl
theorem D3 {i j:Nat}(ao:j<n):dg m n a b i j=((kz (b i):Int):Rat)*(a i j:Rat):=by unfold dg mG;rw[dy ao,Zg]
theorem AU {i:Nat}:dg m n a b i (n+m)=((kz (b i):Int):Rat)*(b i:Rat):=by unfold dg mG;rw[dz (by omega),dy rfl,Zg]
theorem SN {i:Nat}:0<=dg m n a b i (n+m):=by unfold dg mG;rw[dz (by omega),dy rfl];have:=Sb (b i);exact Rat.intCast_nonneg.2 this
theorem Sc:e4 m m (n+m) (dg m n a b) (nl m n a b) where
 pZ:=fun c aJ j _=>by rw[i9 aJ (f:=fun i=>dg m n a b c ((nl m n a b).B i)*(nl m n a b).T i j) (fun i ad cc=>by show dg m n a b c (n+i)*_=0;rw[tp ad,dz cc];grind)];show _=dg m n a b c (n+c)*dg m n a b c j;rw[tp aJ,dy rfl];grind
 row:=⟨fun i c=>if i=c then 1 else 0,fun i ad j _=>by rw[i9 ad (f:=fun c=>(if i=c then (1:Rat) else 0)*dg m n a b c j) (fun c _ cc=>by rw[dz (Ne.symm cc)];grind),dy rfl];show dg m n a b i j=_;grind⟩
 unit:=fun i _ k aL=>by
  show dg m n a b i (n+k)=_;rw[tp aL];by_cases c:k=i
  ·rw[dy c,dy c.symm]
  rw[dz c,dz (Ne.symm c)]
 jU:=fun i ad=>by show n+i<n+m;omega
theorem QB:(nl m n a b).jP m (n+m):=fun i ad=>SN
theorem W9 (j:Nat):(nl m n a b).cK m (gR m n) j=gR m n j+bQ m (fun i=>dg m n a b i j):=by unfold b1.cK;rw[en (g:=fun i=>(-1)*dg m n a b i j) (fun i ad=>by show gR m n (n+i)*dg m n a b i j=_;unfold gR;rw[dy (by omega)]),hj];grind
theorem KC:(nl m n a b).D m (dg m n a b)=1:=by
 have key : ∀k,k<=m->gL k (fun i c=>dg m n a b c (n+i))=1:=by
  intro k
  induction k with
  | zero=>intro _;rfl
  | succ k ih =>
   intro aL;rw[gL,i9 (k:=k) (by omega) (fun i ad cc=>by rw[tp (by omega),dz cc];grind)];rw[tp (by omega),dy rfl,Ao (w1:=fun i c=>dg m n a b c (n+i)) (fun i ad c aJ=>by simp only[skip];rw[dy ad]),ih (by omega)];unfold p1;rw[dy (by omega)];grind
 show gL m _=1;rw[show (fun i c=>dg m n a b c ((nl m n a b).B i))=fun i c=>dg m n a b c (n+i) from rfl,key m (dF _)]
theorem Ry:(nl m n a b).D m (dg m n a b)≠0:=by rw[KC];grind
variable {t:b1}
theorem Af (j:Nat):gR m n j<=0:=by unfold gR;split<;>grind
theorem O2 (f:t.jP m (n+m)):0<=t.cK m (gR m n) (n+m):=by
 unfold b1.cK;have o:gR m n (n+m)=0:=by unfold gR;rw[dz (by omega)]
 have J:0<=bQ m (fun i=> -(gR m n (t.B i))*t.T i (n+m)):=oR fun i ad=>Ze (by have:= @Af m n (t.B i);grind) (f i ad);rw[en (g:=fun i=>(-1)*(gR m n (t.B i)*t.T i (n+m))) (fun i _=>by grind),hj] at J;grind
theorem PE (ok:e4 m m (n+m) (dg m n a b) t)(f:t.jP m (n+m))(h:∀i,i<m->n<=t.B i->t.T i (n+m)=0):pN m n a b:=by
 refine⟨t.hg m (n+m),fun j _=>f.hg j,fun i ad=> ?_⟩;have bN:=ok.SL i ad;rw[Ae,AU] at bN
 have bY:bQ m (fun k=>dg m n a b i (n+k)*t.hg m (n+m) (n+k))=0:=mI fun k aL=>by
  have:t.hg m (n+m) (n+k)=0:=mI fun d7 hE=>by
   split
   ·rename_i e;exact h d7 hE (by omega)
   rfl
  rw[this];grind
 rw[bY,en (g:=fun j=>((kz (b i):Int):Rat)*((a i j:Rat)*t.hg m (n+m) j)) (fun j ao=>by rw[D3 ao];grind),hj] at bN;have:=KB (b i);grind
theorem PF (f:t.jP m (n+m))(h:t.cK m (gR m n) (n+m)=0)(aE:∀i,i<m->t.B i<n+m): ∀i,i<m->n<=t.B i->t.T i (n+m)=0:=by
 unfold b1.cK at h;have o:gR m n (n+m)=0:=by unfold gR;rw[dz (by omega)]
 have J:bQ m (fun i=> -(gR m n (t.B i))*t.T i (n+m))=0:=by rw[en (g:=fun i=>(-1)*(gR m n (t.B i)*t.T i (n+m))) (fun i _=>by grind),hj];grind
 intro i ad aZ;have an:=CV (n:=m) (fun i ad=>Ze (by have:= @Af m n (t.B i);grind) (f i ad)) J i ad;have aG:gR m n (t.B i) = -1:=by unfold gR;rw[dy ⟨aZ,aE i ad⟩]
 rw[aG] at an;grind
theorem P3 (ok:e4 m m (n+m) (dg m n a b) t)(f:t.jP m (n+m))(h:∀j,j<n->t.cK m (gR m n) j<=0)(bN:pN m n a b):t.cK m (gR m n) (n+m)=0:=by
 obtain⟨x,U,hA⟩:=bN;have bY : ∀c,c<m->bQ (n+m) (fun j=>dg m n a b c j*(if j<n then x j else 0))=dg m n a b c (n+m):=fun c aJ=>by rw[Ae,mI (n:=m) (fun k aL=>by rw[dz (by omega)];grind),AU,<- hA c aJ,<- hj];rw[en (g:=fun j=>((kz (b c):Int):Rat)*((a c j:Rat)*x j)) (fun j ao=>by rw[D3 ao,dy ao];grind)];grind
 have aT:=ok.value (gR m n) bY
 rw[mI (n:=n+m) (f:=fun j=>gR m n j*(if j<n then x j else 0)) (fun j ao=>by
  by_cases c:j<n
  ·unfold gR;rw[dz (by omega)];grind
  rw[dz c];grind)] at aT
 have o:bQ (n+m) (fun j=>(if j<n then x j else 0)*t.cK m (gR m n) j)<=bQ (n+m) (fun _=>(0:Rat)):=Jw fun j ao=>by
  by_cases c:j<n
  ·rw[dy c];have:=Ze (U j c) (show 0<= -(t.cK m (gR m n) j) by have:=h j c;grind);grind
  rw[dz c];grind
 rw[mI (n:=n+m) (f:=fun _=>(0:Rat)) fun _ _=>rfl] at o;have J:=O2 (m:=m) (n:=n) f;have an:t.cK m (gR m n) (n+m) = - bQ m (fun i=>gR m n (t.B i)*t.T i (n+m)):=by unfold b1.cK;have:gR m n (n+m)=0:=(by unfold gR;rw[dz (by omega)]);rw[this];grind
 grind
theorem Pf (ok:e4 m m (n+m) (dg m n a b) t){s:Nat}(bN:s<n+m)(cZ:0<t.cK m (gR m n) s): ∃i,i<m/\0<t.T i s:=by
 apply Classical.byContradiction;intro cc;have o:bQ m (fun i=>gR m n (t.B i)*t.T i s)>=0:=oR fun i ad=>by have J : ¬0<t.T i s:=fun c=>cc ⟨i,ad,c⟩;have:=Ze (show 0<= -(gR m n (t.B i)) by have:= @Af m n (t.B i);grind) (show 0<= -(t.T i s) by grind);grind
 unfold b1.cK at cZ;have:= @Af m n s;grind
end
def pi (m n:Nat)(a:Nat->Nat->Int)(b:Nat->Int)(x:Nat->Rat):Prop:=(∀j,j<n->0<=x j)/\ ∀i,i<m->bQ n (fun j=>(a i j:Rat)*x j)=(b i:Rat)
def val (n:Nat)(I x:Nat->Rat):Rat:=bQ n (fun j=>I j*x j)
def hF (c:Nat->Rat)(l j:Nat):Rat:=match l with
 | 0=>c j
 | l+1=>if j=l then -1 else 0
def tq (m n:Nat)(a:Nat->Nat->Int)(b:Nat->Int)(c x:Nat->Rat):Prop :=
 pi m n a b x/\ ∀y,pi m n a b y-> ¬gr (n+1) (fun l=>val n (hF c l) y-val n (hF c l) x)
def Bounded (m n:Nat)(a:Nat->Nat->Int)(b:Nat->Int)(c:Nat->Rat):Prop:= ∃V,∀y,pi m n a b y->val n c y<=V
section
variable {m n:Nat} {a:Nat->Nat->Int} {b:Nat->Int} {c:Nat->Rat}
theorem Rz {x:Nat->Rat}{j:Nat}(ao:j<n):val n (hF c (j+1)) x = - x j:=by unfold val;rw[i9 ao (f:=fun i=>hF c (j+1) i*x i) (fun i ad cc=>by simp only[hF];rw[dz cc];grind)];simp only[hF,if_true];grind
theorem tq.unique {x y:Nat->Rat}(U:tq m n a b c x)(aK:tq m n a b c y):(∀j,j<n->x j=y j)/\val n c x=val n c y:=by
 rcases An (n+1) (fun l=>val n (hF c l) y-val n (hF c l) x) with h|h|h
 ·exact(U.2 y aK.1 h).elim
 ·refine⟨fun j ao=> ?_,?_⟩
  ·have:=h (j+1) (by omega);simp only[Rz ao] at this;grind
  have:=h 0 (by omega);simp only at this;have e:hF c 0=c:=rfl;rw[e] at this;grind
 exact(aK.2 x U.1 (h.congr fun l _=>by grind)).elim
theorem tq.XR {x y:Nat->Rat}(U:tq m n a b c x)(aK:pi m n a b y):val n c y<=val n c x:=by apply Classical.byContradiction;intro h;refine U.2 y aK ⟨0,by omega,?_,fun l aw=>by omega⟩;have e:hF c 0=c:=rfl;simp only[e];grind
structure LT (m n:Nat) (a:Nat->Nat->Int) (b:Nat->Int) (aX N:Nat) (u:b1):Prop where
 eqv : ∀x:Nat->Rat,(∀i,i<m->bQ n (fun j=>(a i j:Rat)*x j)=(b i:Rat))↔ ∀i,i<aX->bQ n (fun j=>u.T i j*x j)=u.T i N
 unit : ∀i,i<aX-> ∀k,k<aX->u.T i (u.B k)=if i=k then 1 else 0
 jU : ∀i,i<aX->u.B i<n
 kF:u.jP aX N
 F7:n<=N
variable {aX N:Nat} {u:b1}
theorem LT.AG (h:LT m n a b aX N u)(f:Nat->Rat):bQ n (fun j=>f j*u.hg aX N j)=bQ aX (fun i=>f (u.B i)*u.T i N):=by unfold b1.hg;rw[en (g:=fun j=>bQ aX (fun i=>if u.B i=j then f (u.B i)*u.T i N else 0)) (fun j _=>by rw[<- hj];exact en fun i _=>by split<;>grind),m7];exact en fun i ad=>by rw[i9 (h.jU i ad) (f:=fun j=>if u.B i=j then f (u.B i)*u.T i N else 0) (fun j _ cc=>dz fun x=>cc x.symm),dy rfl]
theorem LT.hg (h:LT m n a b aX N u):pi m n a b (u.hg aX N):=by refine⟨fun j _=>h.kF.hg j,(h.eqv _).2 fun i ad=> ?_⟩;rw[h.AG,i9 ad (f:=fun k=>u.T i (u.B k)*u.T k N) (fun k aL cc=>by rw[h.unit i ad k aL,dz (fun e=>cc e.symm)];grind),h.unit i ad i ad,dy rfl];grind
theorem LT.Dz (h:LT m n a b aX N u)(I:Nat->Rat){x:Nat->Rat}(U:pi m n a b x):bQ n (fun j=>u.cK aX I j*x j)=val n I x-val n I (u.hg aX N):=by have ah:=(h.eqv x).1 U.2;unfold val b1.cK;rw[h.AG I,en (g:=fun j=>I j*x j-bQ aX (fun i=>I (u.B i)*(u.T i j*x j))) (fun j _=>by rw[en (f:=fun i=>I (u.B i)*(u.T i j*x j)) (g:=fun i=>x j*(I (u.B i)*u.T i j)) (fun i _=>by grind),hj];grind),py,m7];congr 1;exact en fun i ad=>by rw[hj,ah i ad]
theorem LT.xE (h:LT m n a b aX N u)(I:Nat->Rat){i:Nat}(ad:i<aX):u.cK aX I (u.B i)=0:=by unfold b1.cK;rw[i9 ad (f:=fun k=>I (u.B k)*u.T k (u.B i)) (fun k aL cc=>by rw[h.unit k aL i ad,dz cc];grind),h.unit i ad i ad,dy rfl];grind
theorem LT.LS (h:LT m n a b aX N u)(cZ:∀j,j<n-> ¬u.B5 aX (n+1) (hF c) j):tq m n a b c (u.hg aX N):=by
 refine⟨h.hg,fun y aK aw=> ?_⟩;have BH:gr (n+1) (fun l=>bQ n (fun j=>u.cK aX (hF c l) j*y j)):=aw.congr fun l _=>(h.Dz (hF c l) aK).symm;obtain⟨j,ao,af⟩:=gr.D0 (v:=fun j l=>u.cK aX (hF c l) j*y j) BH;rcases(af.congr (eU:=fun l=>y j*u.cK aX (hF c l) j) fun l _=>Rat.mul_comm _ _).KA with ⟨-,J⟩|⟨J,-⟩
 ·exact cZ j ao J
 have:=aK.1 j ao;grind
theorem LT.L0 (h:LT m n a b aX N u)(I:Nat->Rat){s:Nat}(bN:s<n)(cZ:0<u.cK aX I s)(hv:∀i,i<aX-> ¬0<u.T i s): ¬Bounded m n a b I:=by
 rintro⟨V,hV⟩;have bk : ∀f:Nat->Rat,bQ n (fun j=>f j*u.dir aX s j)=f s-bQ aX (fun i=>f (u.B i)*u.T i s):=fun f=>by unfold b1.dir;rw[en (g:=fun j=>(if j=s then f s else 0)-bQ aX (fun i=>if u.B i=j then f (u.B i)*u.T i s else 0)) (fun j _=>by have e:bQ aX (fun i=>if u.B i=j then f (u.B i)*u.T i s else 0)=f j*bQ aX (fun i=>if u.B i=j then u.T i s else 0):=(by rw[<- hj];exact en fun i _=>by split<;>grind);rw[e];split<;>grind),py,i9 bN (f:=fun j=>if j=s then f s else 0) (fun i _ cc=>dz cc),dy rfl,m7];congr 1;exact en fun i ad=>by rw[i9 (h.jU i ad) (f:=fun j=>if u.B i=j then f (u.B i)*u.T i s else 0) (fun j _ cc=>dz fun x=>cc x.symm),dy rfl]
 have pos : ∀j,0<=u.dir aX s j:=fun j=>by unfold b1.dir;have o:0<=bQ aX (fun i=> -(if u.B i=j then u.T i s else 0)):=oR fun i ad=>(by have:=hv i ad;split<;>grind);rw[en (g:=fun i=>(-1)*(if u.B i=j then u.T i s else 0)) (fun i _=>by grind),hj] at o;split<;>grind
 have L0 : ∀uC:Rat,0<=uC->pi m n a b (fun j=>u.hg aX N j+uC*u.dir aX s j)/\val n I (fun j=>u.hg aX N j+uC*u.dir aX s j)=val n I (u.hg aX N)+uC*u.cK aX I s:=fun uC F6=>by
  have L1 : ∀f:Nat->Rat,bQ n (fun j=>f j*(u.hg aX N j+uC*u.dir aX s j))=bQ n (fun j=>f j*u.hg aX N j)+uC*(f s-bQ aX (fun i=>f (u.B i)*u.T i s)):=fun f=>(by rw[<- bk f,<- hj,<- s7];exact en fun j _=>by grind);refine⟨⟨fun j _=> ?_,(h.eqv _).2 fun i ad=> ?_⟩,L1 I⟩
  ·have o:=h.kF.hg (m:=aX) (N:=N) j;have J:=Ze F6 (pos j);grind
  rw[L1 (u.T i),(h.eqv _).1 h.hg.2 i ad,i9 ad (f:=fun k=>u.T i (u.B k)*u.T k s) (fun k aL cc=>by rw[h.unit i ad k aL,dz (fun e=>cc e.symm)];grind),h.unit i ad i ad,dy rfl];grind
 have Yh:=hV _ h.hg;have cc:u.cK aX I s≠0:=by grind
 obtain⟨ak,bW⟩:=L0 ((V-val n I (u.hg aX N)+1) / u.cK aX I s) (by rw[Rat.div_def];exact Ze (by grind) (Rat.le_of_lt (Rat.inv_pos.2 cZ)));have an:=hV _ ak;rw[bW] at an;have:(V-val n I (u.hg aX N)+1) / u.cK aX I s*u.cK aX I s=V-val n I (u.hg aX N)+1:=by grind
 grind
theorem LT.ch (h:LT m n a b aX N u){r k:Nat}(ah:r<aX)(aL:k<n)(af:u.T r k≠0)(bL:(u.ch r k).jP aX N):LT m n a b aX N (u.ch r k) where
 eqv:=fun x=>by
  rw[h.eqv x];have ap:bQ n (fun j=>(u.ch r k).T r j*x j)=(1 / u.T r k)*bQ n (fun j=>u.T r j*x j):=(by rw[<- hj];exact en fun j _=>by simp only[b1.ch,if_true];grind);have av : ∀i,i≠r->bQ n (fun j=>(u.ch r k).T i j*x j)=bQ n (fun j=>u.T i j*x j)-(u.T i k / u.T r k)*bQ n (fun j=>u.T r j*x j):=fun i ad=>(by rw[<- hj,<- py];exact en fun j _=>by simp only[b1.ch,dz ad];grind);have gm:(u.ch r k).T r N=(1 / u.T r k)*u.T r N:=(by simp only[b1.ch,if_true];grind);have iS : ∀i,i≠r->(u.ch r k).T i N=u.T i N-(u.T i k / u.T r k)*u.T r N:=fun i ad=>(by simp only[b1.ch,dz ad];grind);constructor
  ·intro U i ad
   by_cases c:i=r
   ·rw[c,ap,gm,U r ah]
   rw[av i c,iS i c,U i ad,U r ah]
  intro U;have L2:bQ n (fun j=>u.T r j*x j)=u.T r N:=(by have:=U r ah;rw[ap,gm] at this;have J:u.T r k*((1 / u.T r k)*bQ n (fun j=>u.T r j*x j))=u.T r k*((1 / u.T r k)*u.T r N):=(by rw[this]);grind);intro i ad;by_cases c:i=r
  ·rw[c];exact L2
  have:=U i ad;rw[av i c,iS i c,L2] at this;grind
 unit:=by
  intro i ad cA ls;simp only[b1.ch];by_cases e:i=r
  ·subst e
   simp only[if_true];by_cases dp:cA=i
   ·subst dp;simp only[if_true];grind
   simp only[dz dp];rw[h.unit i ad cA ls,dz (fun x=>dp x.symm)];grind
  simp only[dz e];by_cases dp:cA=r
  ·subst dp;simp only[if_true,dz e];grind
  simp only[dz dp];rw[h.unit i ad cA ls,h.unit r ah cA ls,dz (c:=r=cA) (fun x=>dp x.symm)];grind
 jU:=fun i ad=>by
  simp only[b1.ch];split
  ·exact aL
  exact h.jU i ad
 kF:=bL
 F7:=h.F7
theorem LT.tok (h:LT m n a b aX N u)(aZ:n<=N)(fc:0<N):e4 aX aX N u.T u where
 pZ:=fun c aJ j _=>by rw[i9 aJ (f:=fun i=>u.T c (u.B i)*u.T i j) (fun i ad cc=>by rw[h.unit c aJ i ad,dz (fun e=>cc e.symm)];grind),h.unit c aJ c aJ,dy rfl];grind
 row:=⟨fun i c=>if i=c then 1 else 0,fun i ad j _=>by rw[i9 ad (f:=fun c=>(if i=c then (1:Rat) else 0)*u.T c j) (fun c _ cc=>by rw[dz (Ne.symm cc)];grind),dy rfl];grind⟩
 unit:=h.unit
 jU:=fun i ad=>Nat.lt_of_lt_of_le (h.jU i ad) aZ
def sk (n:Nat)(dW:Nat->Bool)(x:Nat->Rat):Prop:= ∀j,j<n->dW j=false->x j=0
structure ud (m n:Nat) (a:Nat->Nat->Int) (b:Nat->Int) (c:Nat->Rat) (l:Nat) (dW:Nat->Bool) (V:Nat->Rat):Prop where
 low : ∀y,pi m n a b y->sk n dW y-> ∀k,k<l->val n (hF c k) y=V k
 up : ∀y,pi m n a b y-> ¬sk n dW y-> ∃k,k<l/\val n (hF c k) y<V k/\ ∀q,q<k->val n (hF c q) y=V q
theorem ud.zero {dW:Nat->Bool}(h:∀j,j<n->dW j=true)(V:Nat->Rat):ud m n a b c 0 dW V where
 low:=fun y _ _ k aL=>by omega
 up:=fun y _ bL=>(bL fun j ao e=>by rw[h j ao] at e;cases e).elim
theorem ud.next (h:LT m n a b aX N u){l:Nat}{dW ns:Nat->Bool}{V:Nat->Rat}(s:ud m n a b c l dW V)(cZ:∀j,j<n->dW j=true-> ¬0<u.cK aX (hF c l) j)
 (za : ∀j,j<n->ns j=(dW j && !decide (u.cK aX (hF c l) j<0))) : ∃Wi,ud m n a b c (l+1) ns Wi:=by
 have sub : ∀y,sk n ns y->sk n dW y:=fun y aK j ao e=>aK j ao (by rw[za j ao,e];rfl)
 have neg : ∀y,pi m n a b y->sk n dW y-> ∀j,j<n->0<= -(u.cK aX (hF c l) j*y j):=fun y aK bL j ao=>by
  cases e:dW j with
  | false=>rw[bL j ao e];grind
  | true =>
   have:=Ze (show 0<= -(u.cK aX (hF c l) j) by have:=cZ j ao e;grind) (aK.1 j ao);grind
 refine⟨fun k=>if k=l then val n (hF c l) (u.hg aX N) else V k,fun y aK bL k aL=> ?_,fun y aK bL=> ?_⟩
 ·by_cases e:k=l
  ·rw[dy e,e]
   have bY:bQ n (fun j=>u.cK aX (hF c l) j*y j)=0:=mI fun j ao=>by
    cases e:ns j with
    | false=>rw[bL j ao e];grind
    | true =>
     rw[za j ao,YX] at e;have o:=cZ j ao e.1;have J : ¬u.cK aX (hF c l) j<0:=(by simpa using e.2);have:u.cK aX (hF c l) j=0:=(by grind);rw[this];grind
   rw[h.Dz _ aK] at bY;grind
  rw[dz e];exact s.low y aK (sub y bL) k (by omega)
 by_cases g:sk n dW y;rotate_left
 ·obtain⟨k,jK,hU,kf⟩:=s.up y aK g;exact⟨k,by omega,by rw[dz (by omega)];exact hU,fun q aU=>by rw[dz (by omega)];exact kf q aU⟩
 refine⟨l,by omega,?_,fun q aU=>by rw[dz (by omega)];exact s.low y aK g q aU⟩;rw[dy rfl];have o:=h.Dz (hF c l) aK;have J:=neg y aK g;have an:=oR J
 have aG:bQ n (fun j=> -(u.cK aX (hF c l) j*y j))≠0:=fun e=>bL fun j ao ML=>by
  have:=CV J e j ao
  cases ap:dW j with
  | false=>exact g j ao ap
  | true =>
   rw[za j ao,ap,Bool.true_and] at ML;have aN:u.cK aX (hF c l) j<0:=(by simpa using ML);grind
 rw[en (g:=fun j=>(-1)*(u.cK aX (hF c l) j*y j)) (fun j _=>by grind),hj,o] at an aG;grind
theorem ud.LS (h:LT m n a b aX N u){dW:Nat->Bool}{V:Nat->Rat}(s:ud m n a b c (n+1) dW V)(aE:∀i,i<aX->dW (u.B i)=true):tq m n a b c (u.hg aX N):=by
 have U:sk n dW (u.hg aX N):=fun j ao e=>b1.Pe fun i ad av=>by have:=aE i ad;rw[av,e] at this;cases this
 have aT:=s.low _ h.hg U;refine⟨h.hg,fun y aK ⟨l,mE,po,F8⟩=> ?_⟩;by_cases g:sk n dW y
 ·have:=s.low y aK g l mE;have:=aT l mE;grind
 obtain⟨k,jK,hU,kf⟩:=s.up y aK g;rcases Nat.lt_trichotomy l k with e|e|e
 ·have:=kf l e;have:=aT l mE;grind
 ·subst e;have:=aT l mE;grind
 have:=F8 k e;have:=aT k jK;grind
theorem LT.Xa (h:LT m n a b aX N u){k s:Nat}(cZ:0<u.cK aX (hF c (k+1)) s): ∃i,i<aX/\0<u.T i s:=by
 apply Classical.byContradiction;intro cc;have o:0<=bQ aX (fun i=>hF c (k+1) (u.B i)*u.T i s):=oR fun i ad=>by have J : ¬0<u.T i s:=fun e=>cc ⟨i,ad,e⟩;simp only[hF];split<;>grind
 unfold b1.cK at cZ;have an:hF c (k+1) s<=0:=by simp only[hF];split<;>grind
 grind
end
end Go.VL
namespace Go.Proofs.Ytopadgleejacdaa
set_option linter.unusedVariables false
set_option linter.unusedSimpArgs false
open Go Go.VL
structure a6 where
 mj:ByteArray
 kG:Int
 kH:Int
 mP:Bool
 deriving DecidableEq
structure bu where
 gp:Int
 gq:Int
 hM:Int
 deriving DecidableEq
structure cj where
 b5:(List a6)
 bm:(List bu)
 deriving DecidableEq
structure RA where
 lJ:ar
 Wj:Int
 Wk:Int
 deriving DecidableEq
structure nG where
 lT:Int
 j6:Int
 gp:ar
 gq:ar
 m4:ar
 deriving DecidableEq
structure eA where
 oW:Int
 oh:Int
 deriving DecidableEq
structure br where
 c5:Bool
 c2:ar
 deriving DecidableEq
structure qW where
 A5:(List (List br))
 ue:br
 AV:ar
 Ed:Int
 Ee:(List Bool)
 deriving DecidableEq
def cz (x:a6):List aj:=[.s x.mj,.n .i64 x.kG,.n .i64 x.kH,.b x.mP]
theorem WX : ∀x,∀v∈cz x,v.hk=true:=by intro x v aT;simp only[cz,YW,Y9,or_false] at aT;rcases aT with rfl|rfl|rfl|rfl<;>rfl
theorem WY : ∀x,∀v∈cz x,cm v:=fun x=>(qY (.s _) (qY (.n _ _) (qY (.n _ _) (qY (.b _) DK))))
theorem qT : ∀x,∀v∈cz x,Pure v:=by
 intro x v aT;simp only[cz,YW,Y9,or_false] at aT;rcases aT with rfl|rfl|rfl|rfl
 ·exact .s _
 ·exact .n _ _
 ·exact .n _ _
 exact .b _
def cR (x:bu):List aj:=[.n .i64 x.gp,.n .i64 x.gq,.n .i64 x.hM]
theorem WU : ∀x,∀v∈cR x,v.hk=true:=by intro x v aT;simp only[cR,YW,Y9,or_false] at aT;rcases aT with rfl|rfl|rfl<;>rfl
theorem WV : ∀x,∀v∈cR x,cm v:=fun x=>(qY (.n _ _) (qY (.n _ _) (qY (.n _ _) DK)))
theorem oQ : ∀x,∀v∈cR x,Pure v:=by
 intro x v aT;simp only[cR,YW,Y9,or_false] at aT;rcases aT with rfl|rfl|rfl
 ·exact .n _ _
 ·exact .n _ _
 exact .n _ _
def gB (x:cj):List aj:=[.isl 4 (x.b5.map cz),.isl 3 (x.bm.map cR)]
theorem WI : ∀x,∀v∈gB x,v.hk=true:=by intro x v aT;simp only[gB,YW,Y9,or_false] at aT;rcases aT with rfl|rfl<;>rfl
theorem qN : ∀x,∀v∈gB x,Pure v:=by
 intro x v aT;simp only[gB,YW,Y9,or_false] at aT;rcases aT with rfl|rfl
 ·exact .isl (ez qT _)
 exact .isl (ez oQ _)
def Ap (x:RA):List aj:=[.isl 1 (x.lJ.map eU8),.n .i64 x.Wj,.n .i64 x.Wk]
theorem WQ : ∀x,∀v∈Ap x,v.hk=true:=by intro x v aT;simp only[Ap,YW,Y9,or_false] at aT;rcases aT with rfl|rfl|rfl<;>rfl
theorem WJ : ∀x,∀v∈Ap x,Pure v:=by
 intro x v aT;simp only[Ap,YW,Y9,or_false] at aT;rcases aT with rfl|rfl|rfl
 ·exact .isl (ez Jq _)
 ·exact .n _ _
 exact .n _ _
def Aq (x:nG):List aj:=[.n .i64 x.lT,.n .i64 x.j6,.isl 1 (x.gp.map R),.isl 1 (x.gq.map R),.isl 1 (x.m4.map R)]
theorem WR : ∀x,∀v∈Aq x,v.hk=true:=by intro x v aT;simp only[Aq,YW,Y9,or_false] at aT;rcases aT with rfl|rfl|rfl|rfl|rfl<;>rfl
theorem WK : ∀x,∀v∈Aq x,Pure v:=by
 intro x v aT;simp only[Aq,YW,Y9,or_false] at aT;rcases aT with rfl|rfl|rfl|rfl|rfl
 ·exact .n _ _
 ·exact .n _ _
 ·exact .isl (ez aB _)
 ·exact .isl (ez aB _)
 exact .isl (ez aB _)
def fl (x:eA):List aj:=[.n .i64 x.oW,.n .i64 x.oh]
theorem WS : ∀x,∀v∈fl x,v.hk=true:=by intro x v aT;simp only[fl,YW,Y9,or_false] at aT;rcases aT with rfl|rfl<;>rfl
theorem WT : ∀x,∀v∈fl x,cm v:=fun x=>(qY (.n _ _) (qY (.n _ _) DK))
theorem sY : ∀x,∀v∈fl x,Pure v:=by
 intro x v aT;simp only[fl,YW,Y9,or_false] at aT;rcases aT with rfl|rfl
 ·exact .n _ _
 exact .n _ _
def a0 (x:br):List aj:=[.b x.c5,.isl 1 (x.c2.map R)]
theorem d8 : ∀x,∀v∈a0 x,v.hk=true:=by intro x v aT;simp only[a0,YW,Y9,or_false] at aT;rcases aT with rfl|rfl<;>rfl
theorem qS : ∀x,∀v∈a0 x,Pure v:=by
 intro x v aT;simp only[a0,YW,Y9,or_false] at aT;rcases aT with rfl|rfl
 ·exact .b _
 exact .isl (ez aB _)
def vD (x:qW):List aj:=[.isl 1 (x.A5.map (ej 2 a0)),.b x.ue.c5,.isl 1 (x.ue.c2.map R),.isl 1 (x.AV.map R),.n .i64 x.Ed,.isl 1 (x.Ee.map eI)]
theorem WM : ∀x,∀v∈vD x,v.hk=true:=by intro x v aT;simp only[vD,YW,Y9,or_false] at aT;rcases aT with rfl|rfl|rfl|rfl|rfl|rfl<;>rfl
theorem CH : ∀x,∀v∈vD x,Pure v:=by
 intro x v aT;simp only[vD,YW,Y9,or_false] at aT;rcases aT with rfl|rfl|rfl|rfl|rfl|rfl
 ·exact .isl (ez (nH (sz:=2) qS) _)
 ·exact .b _
 ·exact .isl (ez aB _)
 ·exact .isl (ez aB _)
 ·exact .n _ _
 exact .isl (ez d1 _)
noncomputable abbrev b4:Program:=Go.Proofs.Try.prog
theorem oq:b4.follows .mixedOrders=true:=Go.Proofs.Try.checked.mixed
theorem bK {N m:Nat}{c:Code}{E:List (Nat×aj)}{rows:List (List az)}(tape:List cy){e:Exit}{s:S}{ab:List Prop}(aW:cH ab)
 (h:BB b4 N m c tape (ev E rows) rows.length=some (e,s,ab):=by kernel_rfl):hR b4 N m c e (ev E rows) s:=I1 oq h aW (tb _ _)
theorem cn {f:FuncId}{args:List aj}{r:aj}{ab:List Prop}(tape:List cy)(aW:cH ab)(ew:jH:=ii)
 (h:yG b4 f args [] tape [] [] ew=some (r,[],ab):=by kernel_rfl):Con b4 f args [] r []:=Qw oq h aW
theorem iC {f:FuncId}{args:List aj}{T hX:List (List az)}{r:aj}{ab:List Prop}(tape:List cy)(ax:List Nat)(cf:List gM)(aW:cH ab)(ew:jH:=ii)
 (h:yG b4 f args T tape ax cf ew=some (r,hX,ab):=by kernel_rfl):Con b4 f args T r hX:=Jp oq h aW
def qF (oI gX:Int)(i4 cW g7 fv n2 F9 Ga Gb Ff Fg Fh rs:Nat):List aj:=[.n .i64 oI,.n .i64 gX,.bz i4 cW g7 fv,.bz n2 F9 Ga Gb,.bz Ff Fg Fh rs]
def Va (oI gX i4 cW:Nat)(g7:ar)(fv:Int):List aj:=[.bz oI gX i4 cW,.isl 1 (g7.map R),.n .i64 fv]
def jf (oI gX i4 cW:Nat)(g7:Bool)(fv:ar)(n2 F9 Ga Gb:Nat)(Ff:Int)(Fg Fh rs Vb:Nat):List aj:=[.bz oI gX i4 cW,.b g7,.isl 1 (fv.map R),.bz n2 F9 Ga Gb,.n .i64 Ff,.bz Fg Fh rs Vb]
def jc (i j k:Nat)(a b:Int)(c d e:ar):List az:=[az.mk 5 [[.n .i64 a,.n .i64 b,.bz i 0 0 c.length,.bz j 0 0 d.length,.bz k 0 0 e.length]] .live]
def ju (i j k:Nat)(c:List cr)(a:Bool)(b d:ar)(e:Int)(f:List Bool):List az:=[az.mk 6 [[.bz i 0 0 c.length,.b a,.isl 1 (b.map R),.bz j 0 0 d.length,.n .i64 e,.bz k 0 0 f.length]] .live]
abbrev BI:br:=⟨false,[]⟩
def nt (c:List cr)(a:Bool)(b d:ar)(e:Int)(f:List Bool)(g:List (List br)):List (List az):=[ju 1 3 4 c a b d e f,aR 1 (cl 2 0 2) c,eK 2 a0 g,aR 1 R d,aR 1 eI f]
def nS (c:List cr)(a:Bool)(b d:ar)(e:Int)(f:List Bool)(g:List (List br))(z:List az):List (List az):=[ju 1 3 4 c a b d e f,aR 1 (cl 2 0 2) c,eK 2 a0 g,aR 1 R d,aR 1 eI f,z]
def wQ:List az:=[az.mk 5 [[.n .i64 0,.n .i64 0,.eC,.eC,.eC]] .live]
def ru (a b:Int)(c d e:ar):List (List az):=[jc 1 2 3 a b c d e,aR 1 R c,aR 1 R d,aR 1 R e]
def mX (c:List cr)(g:List (List br)):List gM:=[.box i2,.ck (aR 1 (cl 2 0 2) c),.ck (eK 2 a0 g),.pure,.pure,.pure]
def oB (c:List cr)(g:List (List br)):List gM:=[.box i2,.ck (aR 1 (cl 2 0 2) c),.ck (eK 2 a0 g),.pure,.pure]
def zb (a:List a6)(b:List bu):List az:=[az.mk 2 [[.isl 4 (a.map cz),.isl 3 (b.map cR)]] .live]
def sx (n:Nat)(a:List a6)(b:List bu):Nat×aj:=(n,.d4 2 [[.isl 4 (a.map cz),.isl 3 (b.map cR)]] 0 0)
def ie (n:Nat)(x:br):d5:=nZ n (.agg (a0 x)) false
abbrev Zh:=List br
abbrev Zi:=List Zh
abbrev Zj:=List a6
abbrev Zk:=List Bool
abbrev Zl:=List bu
abbrev Zm:=List cy
abbrev Zn:=List cr
abbrev Zo:=Option Bool
abbrev Zp:=List eA
abbrev Zq:=List ar
abbrev Zr:=Option Int
abbrev Zs:=Option ar
end Go.Proofs.Ytopadgleejacdaa
