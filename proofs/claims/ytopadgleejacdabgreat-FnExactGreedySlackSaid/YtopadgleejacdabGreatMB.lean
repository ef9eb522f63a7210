/- Lemmas, plain functions of the program, and what they answer. No condition. -/
import Derived.Carry
import Derived.ChangeOld
import Derived.ChangeSlices
import Derived.LoopN
import Derived.OwnWalk
import Derived.Scope
import Derived.Test.YtopadgleejacdabGreatChecked
import Derived.Test.YtopadgleejacdabGreatMA
namespace Go.VL
set_option linter.unusedVariables false
set_option linter.unusedSimpArgs false
open Go
def AH (P:Program)(s:S)(aT:Nat)(I:Oper)(cE:fc):Option hk :=
 match cE with
 | .call cf=>match I.op with
  | .call {callee:= .value f,args,..}=>match eD s.E f with
   | .fn id cap=>AR P s.aM aT id (args.toList.map (eD s.E)++cap) cf
   | _=>none
  | _=>none
 | fD=>A9 P s.E s.aM aT I fD
def Bc:List (Nat×List aU)->(Nat->Option (List aU))->Nat->Option (List aU)
 | [],aM,q=>aM q
 | (r,row)::u,aM,q=>Bc u (fun x=>if x=r then some row else aM x) q
theorem Jq : ∀(u:List (Nat×List aU)) (s:S) (q:Nat),(s.iA u).aM q=Bc u s.aM q
 | [],_,_=>rfl
 | (r,row)::u,s,q=>Jq u (s.setRow r row) q
def w7 (aM:Nat->Option (List aU))(aT r n:Nat)(bq:hk):Option hk :=
 match Bc bq.fU aM aT,Bc bq.fU aM r with
 | some fC,some l=>if aT=r then none else
  some {val:=lc aT r n bq.val,fU:=bq.fU++[(aT,fC.map sb),(r,l++fC.map (m8 aT r n))],fu:=bq.fu++[l.length=n]}
 | _,_=>none
def RO (I:Oper)(t:Nat):Bool:=I.op.operands.toList.any fun | .tmp u=>u == t|_=>false
inductive kR:ay->ay->Prop
 | refl (x:ay):kR x x
 | n1 (r c sz:Nat):kR (.jj r c sz none) (.isl sz [])
 | kL (r c sz:Nat):kR (.isl sz []) (.jj r c sz none)
 | s1 (r c sz k n:Nat):kR (.jj r c sz (some (k,n))) (.bu r (k+c) 0 n)
 | s2 (r c sz k n:Nat):kR (.bu r (k+c) 0 n) (.jj r c sz (some (k,n)))
 | agg {c d6:List ay} (aO:d6.length=c.length) (h : ∀(j:Nat) x cN,c[j]? = some x->d6[j]? = some cN->kR x cN):kR (.agg c) (.agg d6)
theorem kR.symm {x v:ay}(h:kR x v):kR v x:=by
 induction h with
 | refl x=>exact .refl x
 | n1 r c sz=>exact .kL r c sz
 | kL r c sz=>exact .n1 r c sz
 | s1 r c sz k n=>exact .s2 r c sz k n
 | s2 r c sz k n=>exact .s1 r c sz k n
 | agg aO h ih=>exact .agg aO.symm fun j x cN U dY=>ih j cN x dY U
theorem kR.rel {x v:ay}(h:kR x v){w:World}{ok:Nat->Prop}{a3:jH}{bd:jx}: ∀ {u:Value},Rel w ok a3 bd x u->Rel w ok a3 bd v u:=by
 induction h with
 | refl x=>exact fun h=>h
 | n1 r c sz=>intro u h;cases h with|nC h=>exact h
 | kL r c sz=>exact fun h=> .nC h
 | s1 r c sz k n=>intro u h;cases h with|oF h=>exact h
 | s2 r c sz k n=>exact fun h=> .oF h
 | @agg c d6 aO h ih =>
  intro u hu;obtain⟨vs,rfl,h1,o,aa⟩:=hu.Au;refine .agg vs (by omega) o fun j cN u dY hu=> ?_;have dZ:j<c.length:=(by have:=gi dY;omega);exact ih j _ cN (dx dZ) dY (aa j _ u (dx dZ) hu)
def kz (P:Program)(aT:Nat)(I:Oper):fc->S->Option hk
 | .kJ t v fD,s=>if RO I t then
  match kz P aT I fD {E:=fun u=>if u=t then v else s.E u,aM:=s.aM} with
  | some r=>some {r with fu:=kR (s.E t) v::r.fu}
  | none=>none
  else none
 | .uH r fD,s=>match s.aM r with
  | some row=>match kz P aT I fD (s.setRow r (my row)) with
   | some bq=>some {bq with fU:=(r,my row)::bq.fU}
   | none=>none
  | none=>none
 | .yc r n fD,s=>match kz P aT I fD s with
  | some bq=>w7 s.aM aT r n bq
  | none=>none
 | fD,s=>AH P s aT I fD
def Ga (P:Program)(s:S)(aT:Nat)(I:Oper)(cE:fc):Option hk:=kz P aT I cE s
def ud (P:Program)(s:S)(aT:Nat)(I:Oper)(cE:fc):Option hk :=
 match Ga P s aT I cE with
 | some r=>if r.fU.all (fun p=>decide (p.1=aT) || (s.aM p.1).isSome) then some r else none
 | none=>none
def Sm (N:Nat)(I:Oper):Bool :=
 match I.dst with
 | some d=>decide (d<N)
 | none=>true
def rq (P:Program)(N:Nat)(ops:Array Oper)(s:S)(aT:Nat)(I:Oper)(fD:fc×Bool):Option hk :=
 if Sm N I=false then none else
 match I.guard with
 | none=>ud P s aT I fD.1
 | some (j,want)=>match (ops[j]?).bind (·.dst) with
  | none=>none
  | some d=>match s.E d with
   | .b x=>if fD.2 then (match ud P s aT I fD.1 with
    | some r=>some {r with fu:=(x=want)::r.fu}
    | none=>none)
    else some {val:= .d9 [],fu:=[x = !want]}
   | .d9 []=>some {val:= .d9 []}
   | _=>none
def S.aH (s:S)(I:Oper)(r:hk):S:=(s.iA r.fU).put I.dst r.val
section
variable {P:Program} {g:G} {s:S} {ax:fz} {a:Act} {w:World}
theorem Z7 {I:Oper}{bq:hk}(h:Fin P g s a w I bq)(bF:∀d,I.dst=some d->d<g.N){K:Act->World->Prop}{Q:Exit->Act->World->Prop}
 (h8 : ∀bL dU bJ,cB g (s.aH I bq) bL dU bJ->K dU bJ):I.wp P a w K Q:=by
 obtain⟨v,bJ,bL,ju,bX,ai⟩:=h;unfold Oper.wp;rcases ju with ju|⟨ju,rfl⟩
 ·rw[ju];exact h8 bL _ _ (bX.put I.dst bF ai)
 rw[ju];exact h8 bL _ _ (bX.put I.dst bF ai)
theorem Zs {I:Oper}{f:Operand}{args:Array Operand}{nV:Array TypeId}(ah:I.op = .call ⟨.value f,args,nV⟩){id:Nat}{cap:List Value}(b5:a.eval f = .func (.func id) #[] cap.toArray)
 (a8:FP P id) {K:Act->World->Prop} {Q:Exit->Act->World->Prop}
 (h:Calls P id (args.toList.map a.eval++cap).toArray w fun
   | .returned v,KZ=>K (a.put I.dst v) KZ
   | .panicked chain,KZ=>Q (.panic chain) a KZ
   | .outgrown,_=>LetsOut Q):I.wp P a w K Q:=by
 obtain⟨fn,h1,o,aa⟩:=a8;have e:args.map a.eval++cap.toArray=(args.toList.map a.eval++cap).toArray:=by apply Array.ext';simp
 have ju:(execOp a.eval I).run P w = .ok (.enter id (args.toList.map a.eval++cap).toArray) w:=by have aX:fn.name ≠ "runtime.NumGoroutine" := (by simpa using o);have qi:fn.body≠none:=(by intro e;simp[e] at aa);simp only[execOp,ah,resolve,b5,Deferred.ofValue,invoke,callFunc];simp[h1,aX,qi,e]
 unfold Oper.wp;rw[ju];exact h
theorem u2 (h:cB g s ax a w){aT:Nat}(e4:s.aM aT=none){I:Oper}{cE:fc}{bq:hk}(ap:AH P s aT I cE=some bq)(cd:∀p∈bq.fu,p)
 (bF : ∀d,I.dst=some d->d<g.N) {K:Act->World->Prop} {Q:Exit->Act->World->Prop} (h8 : ∀bL dU bJ,cB g (s.aH I bq) bL dU bJ->K dU bJ):I.wp P a w K Q:=by
 unfold AH at ap;split at ap;rotate_left
 ·exact Z7 (Z6 h e4 ap cd) bF h8
 rename_i cf;split at ap;rotate_left
 ·simp at ap
 rename_i f args nV ah;split at ap;rotate_left
 ·simp at ap
 rename_i id cap gX;have b5:=h.eval f;rw[gX] at b5;obtain⟨vs,hval,aO,ai⟩:=b5.F7
 obtain⟨a8,acz⟩:=YY (vs:=args.toList.map a.eval++vs) h e4 ap cd (by simp[aO]) (by
  intro j x v U bb;rw[List.getElem?_append] at U bb;simp only[ah8] at U bb;split at U
  ·rename_i au;rw[dw au] at bb;rw[dK,dO] at U bb;obtain⟨p,ae,rfl⟩:=U;obtain⟨q,a1,rfl⟩:=bb;rw[ae] at a1;simp at a1;subst a1;exact h.eval p
  rename_i au;rw[dA au] at bb;exact ai _ x v U bb)
 refine Zs ah hval a8 (acz.mono fun e bJ hw=> ?_);obtain⟨v,bL,rfl,h1,o⟩:=hw;exact h8 bL _ _ (h1.put I.dst bF o)
theorem cB.J8 {s:S}(h:cB g s ax a w)(dst:Option Tmp){x:ay}(ai:∀d,dst=some d->Rel w (s.ok g ax w) s.a3 (s.bd ax) x (a.tmps.getD d undef)):cB g (s.put dst x) ax a w where
 toiK:=h.toiK.congr (S.vl s dst x)
 env:=by
  have e:=S.vl s dst x;rw[CR e,An e,Ao e];intro t
  cases dst with
  | none=>simpa [S.put] using h.env t
  | some d =>
   simp only[S.put];by_cases e:t=d
   ·subst e;simpa using ai t rfl
   rw[dA e];exact h.env t
 defers:=h.defers
 j9:=h.j9
theorem Rm (s:S)(dst:Option Tmp)(x y:ay):(s.put dst x).put dst y=s.put dst y:=by
 cases dst with
 | none=>rfl
 | some d =>
  simp only[S.put,S.mk.injEq,and_true];funext u;split<;>rfl
theorem PT (s:S)(dst:Option Tmp)(x:ay)(r:Nat)(row:List aU):(s.put dst x).setRow r row=(s.setRow r row).put dst x:=by cases dst<;>rfl
theorem Db : ∀(u:List (Nat×List aU)) (s:S),(s.iA u).E=s.E
 | [],_=>rfl
 | (r,row)::u,s=>Db u (s.setRow r row)
theorem FQ : ∀(u:List (Nat×List aU)) (s:S) (dst:Option Tmp) (x:ay),(s.put dst x).iA u=(s.iA u).put dst x
 | [],_,_,_=>rfl
 | (r,row)::u,s,dst,x=>by show ((s.put dst x).setRow r row).iA u=_;rw[PT,FQ u];rfl
theorem YZ {s:S}{aT r n:Nat}{I:Oper}{bq qf:hk}(hm:w7 s.aM aT r n bq=some qf)(cd:∀p∈qf.fu,p){ax:fz}{a:Act}{w:World}(h:cB g (s.aH I bq) ax a w):
 ∃bL,cB g (s.aH I qf) bL a w:=by
 unfold w7 at hm;split at hm;rotate_left
 ·simp at hm
 rename_i fC l h1 o;split at hm
 ·simp at hm
 rename_i cU;simp only[dz] at hm;subst hm;have aX:l.length=n:=cd _ (by simp);subst aX;have e1:(s.aH I bq).aM aT=some fC:=by rw[S.aH,S.vl,Jq];exact h1
 have aD:(s.aH I bq).aM r=some l:=by rw[S.aH,S.vl,Jq];exact o
 obtain⟨bL,f1,f2⟩:=h.merge aD e1 cU;refine⟨bL,?_⟩;have:=f1.J8 I.dst (x:=lc aT r l.length bq.val) (fun d bF=>f2 _ _ (by have:=h.env d;simpa [S.aH,S.put,bF] using this))
 have he:s.aH I {val:=lc aT r l.length bq.val,fU:=bq.fU++[(aT,fC.map sb),(r,l++fC.map (m8 aT r l.length))],fu:=bq.fu++[l.length=l.length]} =
  ((s.aH I bq).setRow aT (fC.map sb) |>.setRow r (l++fC.map (m8 aT r l.length))).put I.dst (lc aT r l.length bq.val):=by
  simp only[S.aH,PT,Rm];simp only[S.iA,List.foldl_append,List.foldl_cons,List.foldl_nil]
 rw[he];exact this
theorem Fx {aT:Nat}{I:Oper}(bF:∀d,I.dst=some d->d<g.N){K:Act->World->Prop}{Q:Exit->Act->World->Prop}:
 ∀(cE:fc) (s:S) (h:cB g s ax a w) (e4:s.aM aT=none) (bq:hk),kz P aT I cE s=some bq->(∀p∈bq.fu,p)->(∀bL dU bJ,cB g (s.aH I bq) bL dU bJ->K dU bJ)->I.wp P a w K Q
 | .uH r fD,s,h,e4,bq,ap,cd,h8=>by
  unfold kz at ap;split at ap
  ·rename_i row dh
   split at ap
   ·rename_i qf ai;simp only[dz] at ap;subst ap;have cU:aT≠r:=(by rintro rfl;rw[e4] at dh;simp at dh);exact Fx bF fD (s.setRow r (my row)) (h.freeze dh) (by simp[S.setRow,cU,e4]) qf ai cd h8
   simp at ap
  simp at ap
 | .kJ t v fD,s,h,e4,bq,ap,cd,h8=>by
  unfold kz at ap;split at ap;rotate_left
  ·simp at ap
  split at ap;rotate_left
  ·simp at ap
  rename_i r ai;simp only[dz] at ap;subst ap;have e:kR (s.E t) v:=cd _ (by simp);have bb:Rel w (s.ok g ax w) s.a3 (s.bd ax) v (a.tmps.getD t undef):=(by exact e.rel (h.env t));have o:=h.J8 (some t) (x:=v) (fun d bF=>by simp at bF;subst bF;exact bb);refine Fx bF fD (s.put (some t) v) o e4 r ai (fun p ae=>cd p (by simp[ae])) fun bL dU bJ bX=>h8 bL dU bJ ?_;have U:Rel bJ (((s.put (some t) v).aH I r).ok g bL bJ) ((s.put (some t) v).aH I r).a3 (((s.put (some t) v).aH I r).bd bL) v (dU.tmps.getD t undef)->Rel bJ (((s.put (some t) v).aH I r).ok g bL bJ) ((s.put (some t) v).aH I r).a3 (((s.put (some t) v).aH I r).bd bL) (s.E t) (dU.tmps.getD t undef):=(by exact fun h0=>e.symm.rel h0);by_cases K0:I.dst=some t
  ·have:s.aH I {r with fu:=kR (s.E t) v::r.fu}=(s.put (some t) v).aH I r:=by
    simp only[S.aH,FQ,K0,Rm]
   rw[this];exact bX
  have en:((s.put (some t) v).aH I r).E t=v:=by
   simp only[S.aH,FQ]
   cases Eh:I.dst with
   | none=>simp[S.put]
   | some d =>
    have:t≠d:=(by rintro rfl;exact K0 Eh);simp[S.put,this]
  have:s.aH I {r with fu:=kR (s.E t) v::r.fu}=((s.put (some t) v).aH I r).put (some t) (s.E t):=by
   simp only[S.aH,FQ]
   cases Eh:I.dst with
   | none =>
    have key : ∀(s1:S) (x y:ay),s1.E t=y->s1=(s1.put (some t) x).put (some t) y:=by
     intro s1 x y aR
     cases s1 with
     | mk E aM =>
      simp only[S.put,S.mk.injEq,and_true];funext u;split
      ·rename_i hu;rw[hu];exact aR
      rfl
    exact key (s.iA r.fU) v _ (by rw[Db])
   | some d =>
    have:t≠d:=(by rintro rfl;exact K0 Eh);simp only[S.put,S.mk.injEq,and_true];funext u;by_cases h1:u=t
    ·subst h1;simp[this,Db]
    simp[h1]
  rw[this];exact bX.J8 (some t) (fun d bF=>by simp at bF;subst bF;exact U (by have:=bX.env t;rw[en] at this;exact this))
 | .yc r n fD,s,h,e4,bq,ap,cd,h8=>by
  unfold kz at ap;split at ap
  ·rename_i qf ai
   refine Fx bF fD s h e4 qf ai (fun p ae=>cd p ?_) fun bL dU bJ bX=> ?_
   ·unfold w7 at ap
    split at ap
    ·split at ap
     ·simp at ap
     simp only[dz] at ap;subst ap;simp[ae]
    simp at ap
   obtain⟨l5,o⟩:=YZ ap cd bX;exact h8 l5 dU bJ o
  simp at ap
 | .none,s,h,e4,bq,ap,cd,h8=>u2 h e4 (by unfold kz at ap;exact ap) cd bF h8
 | .ad b,s,h,e4,bq,ap,cd,h8=>u2 h e4 (by unfold kz at ap;exact ap) cd bF h8
 | .cJ c,s,h,e4,bq,ap,cd,h8=>u2 h e4 (by unfold kz at ap;exact ap) cd bF h8
 | .gJ af c,s,h,e4,bq,ap,cd,h8=>u2 h e4 (by unfold kz at ap;exact ap) cd bF h8
 | .gp,s,h,e4,bq,ap,cd,h8=>u2 h e4 (by unfold kz at ap;exact ap) cd bF h8
 | .EL,s,h,e4,bq,ap,cd,h8=>u2 h e4 (by unfold kz at ap;exact ap) cd bF h8
 | .call c,s,h,e4,bq,ap,cd,h8=>u2 h e4 (by unfold kz at ap;exact ap) cd bF h8
 | .aH m b3,s,h,e4,bq,ap,cd,h8=>u2 h e4 (by unfold kz at ap;exact ap) cd bF h8
theorem YA (h:cB g s ax a w){aT:Nat}(e4:s.aM aT=none){I:Oper}{cE:fc}{bq:hk}(ap:Ga P s aT I cE=some bq)(cd:∀p∈bq.fu,p)
 (bF : ∀d,I.dst=some d->d<g.N) {K:Act->World->Prop} {Q:Exit->Act->World->Prop} (h8 : ∀bL dU bJ,cB g (s.aH I bq) bL dU bJ->K dU bJ):I.wp P a w K Q :=
 Fx bF cE s h e4 bq ap cd h8
theorem Py (h:cB g s ax a w){aT:Nat}(e4:s.aM aT=none){I:Oper}{cE:fc}{bq:hk}(ap:ud P s aT I cE=some bq)(cd:∀p∈bq.fu,p)
 (bF : ∀d,I.dst=some d->d<g.N) {K:Act->World->Prop} {Q:Exit->Act->World->Prop} (h8 : ∀bL dU bJ,cB g (s.aH I bq) bL dU bJ->K dU bJ):I.wp P a w K Q:=by
 unfold ud at ap;split at ap
 ·rename_i r ai
  split at ap
  ·simp only[dz] at ap;subst ap;exact YA h e4 ai cd bF h8
  simp at ap
 simp at ap
theorem Qk {ok:Nat->Prop}{a3:jH}{bd:jx}:Rel w ok a3 bd (.d9 []) undef:=by have:=Rel.d9 (w:=w) (ok:=ok) (a3:=a3) (bd:=bd) (c:=[]) [] rfl (by simp);exact this
theorem Pz (h:cB g s ax a w){ops:Array Oper}{i aT:Nat}(e4:s.aM aT=none){I:Oper}(ab:ops[i]? = some I){fD:fc×Bool}{bq:hk}(ap:rq P g.N ops s aT I fD=some bq)
 (cd : ∀p∈bq.fu,p) {K:Act->World->Prop} {Q:Exit->Act->World->Prop} (h8 : ∀bL dU bJ,cB g (s.aH I bq) bL dU bJ->K dU bJ):wpOp P ops Q i K a w:=by
 unfold rq at ap;split at ap
 ·simp at ap
 rename_i DP;have bF : ∀d,I.dst=some d->d<g.N:=by intro d bF;unfold Sm at DP;rw[bF] at DP;simpa using DP
 unfold wpOp;simp only[ab];have SH : ∀r:hk,r={val:= .d9 [],fu:=r.fu}->(∀bL dU bJ,cB g (s.aH I r) bL dU bJ->K dU bJ)->K (a.put I.dst undef) w:=by intro r ai aen;refine aen ax _ _ ?_;rw[ai];exact h.put I.dst bF Qk
 split at ap
 ·rename_i dj;have hw:Region.wanted I (yielded ops a.tmps)=true:=(by simp[Region.wanted,dj]);rw[dw hw];exact .inl (Py h e4 ap cd bF h8)
 rename_i j want dj;split at ap
 ·simp at ap
 rename_i d Td;have hval:=h.env d;split at ap
 ·rename_i x U
  rw[U] at hval;have bb:=hval.vm
  have dZ:d<a.tmps.size:=by
   rcases Nat.lt_or_ge d a.tmps.size with cF|cF
   ·exact cF
   rw[ah0,Array.getElem?_eq_none cF] at bb;simp[undef] at bb
  have aR:yielded ops a.tmps j=some x:=(by unfold yielded;rw[Td];rw[ah0,dS dZ] at bb;simp only[Option.getD_some] at bb;simp[dS dZ,bb]);split at ap
  ·split at ap
   ·rename_i r ai;simp only[dz] at ap;subst ap;have K1:x=want:=cd _ (by simp);have hw:Region.wanted I (yielded ops a.tmps)=true:=(by simp[Region.wanted,dj,aR,K1]);rw[dw hw];exact .inl (Py h e4 ai (fun p ae=>cd p (by simp[ae])) bF h8)
   simp at ap
  simp only[dz] at ap;subst ap;have K1:x = !want:=cd _ (by simp);have hw:Region.wanted I (yielded ops a.tmps)=false:=(by simp[Region.wanted,dj,aR,K1]);rw[hw];exact SH _ rfl h8
 ·rename_i U
  simp only[dz] at ap;subst ap;rw[U] at hval;obtain⟨vs,bb,aO,-⟩:=hval.Av;have:vs=[]:=dL.1 (by simpa using aO);subst this
  have aR:yielded ops a.tmps j=none:=by
   unfold yielded;rw[Td];rw[ah0] at bb
   cases a1:a.tmps[d]? with
   | none=>simp[a1]
   | some v=>rw[a1] at bb;simp only[Option.getD_some] at bb;simp[a1,bb]
  have hw:Region.wanted I (yielded ops a.tmps)=false:=(by simp[Region.wanted,dj,aR]);rw[hw];exact SH _ rfl h8
 simp at ap
end
def rj (P:Program)(N:Nat)(ops:Array Oper):List Oper->List (fc×Bool)->S->Nat->Option (S×List Prop)
 | [],[],s,_=>some (s,[])
 | I::l,fD::cE,s,aT=>match rq P N ops s aT I fD with
  | some bq=>match rj P N ops l cE (s.aH I bq) (aT+1) with
   | some (bS,af)=>some (bS,bq.fu++af)
   | none=>none
  | none=>none
 | _,_,_,_=>none
def S.k5 (s:S)(n:Nat):Prop:= ∀r,n<=r->s.aM r=none
theorem Ql : ∀(u:List (Nat×List aU)) (s:S) (q:Nat),(∀p∈u,p.1≠q)->(s.iA u).aM q=s.aM q
 | [],s,q,_=>rfl
 | (r,row)::u,s,q,h=>by show ((s.setRow r row).iA u).aM q=_;rw[Ql u (s.setRow r row) q fun p ae=>h p (by simp[ae])];have:=h (r,row) (by simp);simp[S.setRow,Ne.symm this]
theorem FB {P:Program}{N:Nat}{ops:Array Oper}{s:S}{aT:Nat}{I:Oper}{fD:fc×Bool}{bq:hk}(h:rq P N ops s aT I fD=some bq)(b5:s.k5 aT):(s.aH I bq).k5 (aT+1):=by
 have key : ∀r,(∀p∈r.fU,p.1=aT\/(s.aM p.1).isSome=true)->(s.aH I r).k5 (aT+1):=by
  intro r ai q a1;unfold S.aH;rw[S.vl,Ql]
  ·exact b5 q (by omega)
  rintro p ae rfl;rcases ai p ae with e|e
  ·omega
  rw[b5 _ (by omega)] at e;simp at e
 have Te : ∀r,ud P s aT I fD.1=some r-> ∀p∈r.fU,p.1=aT\/(s.aM p.1).isSome=true:=by
  intro r ai;unfold ud at ai;split at ai
  ·split at ai
   ·rename_i a8;simp only[dz] at ai;subst ai;intro p ae;have:=List.all_eq_true.1 a8 p ae;simpa using this
   simp at ai
  simp at ai
 unfold rq at h;split at h
 ·simp at h
 split at h
 ·exact key bq (Te bq h)
 split at h
 ·simp at h
 split at h
 ·split at h
  ·split at h
   ·rename_i r ai;simp only[dz] at h;subst h;exact key _ (Te r ai)
   simp at h
  simp only[dz] at h;subst h;exact key _ (by simp)
 ·simp only[dz] at h;subst h;exact key _ (by simp)
 simp at h
theorem Pl {P:Program}{ops:Array Oper}{Q:Exit->Act->World->Prop}{g:G}: ∀(l:List Oper) (cE:List (fc×Bool)) (s bS:S) (aT i:Nat) (af:List Prop),
 (∀j I,l[j]? = some I->ops[i+j]? = some I)->rj P g.N ops l cE s aT=some (bS,af)->(∀p∈af,p)->s.k5 aT ->
 (∀bL dU bJ,cB g bS bL dU bJ->Q .normal dU bJ)-> ∀ax a w,cB g s ax a w->wpOps P ops Q ((List.range l.length).map (i + ·)) a w
 | [],[],s,bS,aT,i,af,_,h,_,_,vW,ax,a,w,ai=>by simp[rj] at h;obtain⟨rfl,rfl⟩:=h;exact vW ax a w ai
 | I::l,fD::cE,s,bS,aT,i,af,aO,h,bm,b5,vW,ax,a,w,ai=>by
  simp only[rj] at h;split at h;rotate_left
  ·simp at h
  rename_i bq ap;split at h
  ·rename_i s2 Ei o
   simp only[dz,dD] at h;obtain⟨rfl,rfl⟩:=h;have e:(List.range (I::l).length).map (i + ·)=i::(List.range l.length).map (i+1 + ·):=(by rw[dI,List.range_succ_eq_map,List.map_cons,List.map_map];congr 1;apply ah9;intro x _;simp[Function.comp];omega);rw[e,wpOps_cons];refine Pz ai (b5 aT (dG _)) (by simpa using aO 0 I rfl) ap (fun p ae=>bm p (by simp[ae])) fun bL dU bJ hv=> ?_
   exact Pl l cE (s.aH I bq) s2 (aT+1) (i+1) Ei (fun j b3 au=>by rw[show i+1+j=i+(j+1) by omega];exact aO (j+1) b3 (by simpa using au)) o (fun p ae=>bm p (by simp[ae]))
    (FB ap b5) vW bL dU bJ hv
  simp at h
 | [],_::_,_,_,_,_,_,_,h,_,_,_,_,_,_,_=>by simp[rj] at h
 | _::_,[],_,_,_,_,_,_,h,_,_,_,_,_,_,_=>by simp[rj] at h
theorem u9 {α β:Type}{f ku:α->β->Option (β×List Prop)}(b5:∀a b z,ku a b=some z->f a b=some z): ∀ {l:List α} {m:List β} {z:List β×List Prop},me ku l m=some z->me f l m=some z
 | [],[],z,h=>h
 | [],_::_,z,h=>by simp[me] at h
 | _::_,[],z,h=>by simp[me] at h
 | a::l,b::m,z,h=>by
  simp only[me] at h ⊢;split at h
  ·rename_i kk bY bi aN h1 o;rw[b5 _ _ _ h1,u9 b5 o];exact h
  simp at h
section
variable {aM gQ:Nat->Option (List aU)} (cH : ∀r row,gQ r=some row->aM r=some row)
include cH
theorem FF {r k:Nat}{I:aU}(h:df (gQ r) k=some I):df (aM r) k=some I:=by
 cases ai:gQ r with
 | none=>rw[ai] at h;simp[df] at h
 | some row=>rw[cH r row ai];rw[ai] at h;exact h
theorem Jb {r k:Nat}{cE:fc}{z:aU×List Prop}(h:oG (gQ r) k cE=some z):oG (aM r) k cE=some z:=by
 cases ai:gQ r with
 | none=>rw[ai] at h;unfold oG at h;split at h<;>simp[df] at h
 | some row=>rw[cH r row ai];rw[ai] at h;exact h
theorem Ac {b4:Nat->Option Nat}{aW:g9}{bU:gB->Bool}{c:sx}{x:ay}{z:ay×List Prop}(h:mc gQ b4 aW bU c x=some z):mc aM b4 aW bU c x=some z:=by
 cases c with
 | id =>
  simp only[mc] at h ⊢;exact h
 | i3 sz=>cases x<;>exact h
 | jS=>exact h
 | cw y=>exact h
 | LI sz=>exact h
 | len n=>cases x<;>exact h
 | at_ j i n=>cases x<;>exact h
 | view eb I es =>
  cases x<;>simp only[mc,reduceCtorEq] at h ⊢;split at h
  ·rename_i row jO h1 o;rw[cH _ _ h1,cH _ _ o];exact h
  simp at h
 | dv es =>
  cases x<;>simp only[mc,reduceCtorEq] at h ⊢;split at h
  ·rename_i I ah;rw[FF cH ah];exact h
  simp at h
theorem I2 {b4:Nat->Option Nat}{aW:g9}{bU:gB->Bool}{c:Bu}{x:ay}{z:ay×List Prop}(h:o5 gQ b4 aW bU c x=some z):o5 aM b4 aW bU c x=some z:=by
 cases c with
 | cW c =>
  simp only[o5] at h ⊢;split at h
  ·rename_i aX
   rw[dw aX];split at h
   ·exact h
   ·exact h
   ·exact h
   exact Ac cH h
  rename_i aX;rw[dA aX];exact Ac cH h
 | agg l =>
  cases x<;>simp only[o5,reduceCtorEq] at h ⊢;split at h
  ·rename_i d6 af a8;rw[u9 (fun a b z h=>Ac cH h) a8];exact h
  simp at h
 | ptr l =>
  cases x<;>simp only[o5,reduceCtorEq] at h ⊢;split at h;rotate_left
  ·simp at h
  rename_i I ah;rw[FF cH ah];simp only;split at h
  ·rename_i c h5
   split at h
   ·rename_i a8
    rw[dw a8];split at h
    ·rename_i d6 af i6;rw[u9 (fun a b z h=>Ac cH h) i6];exact h
    simp at h
   simp at h
  simp at h
 | Kl l =>
  simp only[o5] at h ⊢;split at h;rotate_left
  ·simp at h
  split at h;rotate_left
  ·simp at h
  rename_i I ah;rw[FF cH ah];simp only;split at h
  ·rename_i c h5
   split at h
   ·rename_i a8
    rw[dw a8];split at h
    ·rename_i d6 af i6;rw[u9 (fun a b z h=>Ac cH h) i6];exact h
    simp at h
   simp at h
  simp at h
theorem PU {b4:Nat->Option Nat}{aW:g9}{bU:gB->Bool}{c:lI}{x:ay}{z:ay×List Prop}(h:oB gQ b4 aW bU c x=some z):oB aM b4 aW bU c x=some z:=by
 cases c with
 | bl c =>
  simp only[oB] at h ⊢;split at h
  ·rename_i aX
   rw[dw aX];split at h
   ·exact h
   exact I2 cH h
  rename_i aX;rw[dA aX];exact I2 cH h
 | comp l =>
  cases x<;>simp only[oB,reduceCtorEq] at h ⊢
  all_goals
   split at h
   ·rename_i d6 af a8;rw[u9 (fun a b z h=>I2 cH h) a8];exact h
   simp at h
theorem PV {b4:Nat->Option Nat}{aW:g9}{bU:gB->Bool}{c:iO}{row:List aU}{z:List aU×List Prop}(h:jC gQ b4 aW bU c row=some z):jC aM b4 aW bU c row=some z:=by
 cases c with
 | pure=>exact h
 | cw dV=>exact h
 | b0 aJ=>exact h
 | rx aJ=>cases row with
  | nil=>simp[jC] at h
  | cons I l=>cases l<;>simp[jC] at h
 | drop=>cases row with
  | nil=>simp[jC] at h
  | cons I l=>cases l<;>simp[jC] at h
 | box l =>
  match row,h with
  | [I],h =>
   simp only[jC] at h ⊢;split at h
   ·rename_i c h5
    split at h
    ·rename_i aZ
     rw[dw aZ];split at h
     ·rename_i d6 af a8;rw[u9 (fun a b z h=>Ac cH h) a8];exact h
     simp at h
    simp at h
   simp at h
  | [],h=>simp[jC] at h
  | _::_::_,h=>simp[jC] at h
theorem IR {b4:Nat->Option Nat}{aW:g9}: ∀ {l:List Src} {dd:List iO} {z:List (List aU)×List Prop},mV gQ b4 aW l dd=some z->mV aM b4 aW l dd=some z
 | [],[],z,h=>h
 | .row r::l,c::dd,z,h=>by
  simp only[mV] at h ⊢;split at h
  ·rename_i row dh
   rw[cH r row dh];simp only;split at h
   ·rename_i dV bY T aN h1 o;rw[PV cH h1,IR o];exact h
   simp at h
  simp at h
 | .af r k I::l,c::dd,z,h=>by
  simp only[mV] at h ⊢;split at h
  ·rename_i row dh
   rw[cH r row dh];simp only;split at h
   ·rename_i dV bY T aN h1 o;rw[PV cH h1,IR o];exact h
   simp at h
  simp at h
 | [],_::_,z,h=>by simp[mV] at h
 | .row _::_,[],z,h=>by simp[mV] at h
 | .af .. :: _,[],z,h=>by simp[mV] at h
omit cH in
theorem Ft {yg:Nat->Option (List aU)}{b4:Nat->Option Nat}{lg:g9}: ∀ {l:List Src} {dd:List iO} {T:List (List aU)} {aM gQ:Nat->Option (List aU)} {z:List (Nat×List aU)×List Prop},
 (∀r row,gQ r=some row->aM r=some row)->lv yg b4 lg gQ l dd T=some z->lv yg b4 lg aM l dd T=some z
 | [],[],[],aM,gQ,z,_,h=>h
 | .row q::l,c::dd,row::T,aM,gQ,z,cH,h=>by
  simp only[lv] at h ⊢;split at h
  ·rename_i dV bY h1
   split at h
   ·rename_i u aN o;rw[Ft (fun r row ai=>by split at ai<;>rename_i e<;>simp only[e,if_true,if_false]<;>first|exact ai|exact cH _ _ ai) o];exact h
   simp at h
  simp at h
 | .af q k I::l,c::dd,row::T,aM,gQ,z,cH,h=>by
  simp only[lv] at h ⊢;split at h
  ·rename_i ml a8
   rw[cH _ _ a8];simp only;split at h
   ·rename_i b3 bY h1
    split at h
    ·rename_i u aN o;rw[Ft (fun r row ai=>by split at ai<;>rename_i e<;>simp only[e,if_true,if_false]<;>first|exact ai|exact cH _ _ ai) o];exact h
    simp at h
   simp at h
  simp at h
 | [],[],_::_,_,_,_,_,h=>by simp[lv] at h
 | [],_::_,_,_,_,_,_,h=>by simp[lv] at h
 | .row _::_,[],_,_,_,_,_,h=>by simp[lv] at h
 | .af .. :: _,[],_,_,_,_,_,h=>by simp[lv] at h
 | .row _::_,_::_,[],_,_,_,_,h=>by simp[lv] at h
 | .af .. :: _,_::_,[],_,_,_,_,h=>by simp[lv] at h
omit cH in
theorem Jr : ∀ {u:List (Nat×List aU)} {aM gQ:Nat->Option (List aU)} {q:Nat} {row:List aU},(∀r row,gQ r=some row->aM r=some row)->Bc u gQ q=some row->Bc u aM q=some row
 | [],_,_,_,_,cH,h=>cH _ _ h
 | (r,ag)::u,aM,gQ,q,row,cH,h=>Jr (u:=u) (fun r row ai=>by split at ai<;>rename_i e<;>simp only[e,if_true,if_false]<;>first|exact ai|exact cH _ _ ai) h
theorem Yf {aT r n:Nat}{bq qf:hk}(h:w7 gQ aT r n bq=some qf):w7 aM aT r n bq=some qf:=by
 unfold w7 at h ⊢;split at h
 ·rename_i fC l h1 o;rw[Jr cH h1,Jr cH o];exact h
 simp at h
theorem Zt {P:Program}{aT:Nat}{f:FuncId}{args:List ay}{cf:yb}{bq:hk}(h:AR P gQ aT f args cf=some bq):AR P aM aT f args cf=some bq:=by
 unfold AR at h ⊢;simp only at h ⊢;split at h
 ·simp at h
 rename_i l7 h0;split at h
 ·simp at h
 rename_i xO;rw[dA xO];split at h
 ·rename_i Eg
  rw[dw Eg];split at h
  ·rename_i vL
   split at h
   ·rename_i rp bY eQ fA u ew h1 aa ao;rw[u9 (fun a b z h=>PU cH h) h1,aa,Ft cH ao];exact h
   simp at h
  simp at h
 rename_i Eg;rw[dA Eg];split at h
 ·rename_i rp bY T aN eQ fA u ew h1 o aa ao;rw[u9 (fun a b z h=>PU cH h) h1,IR cH o,aa,Ft cH ao];exact h
 simp at h
end
theorem mapM_congr {α β:Type}{f ku:α->Option β}: ∀ {l:List α},(∀x∈l,ku x=f x)->l.mapM ku=l.mapM f
 | [],_=>rfl
 | x::l,h=>by rw[List.mapM_cons,List.mapM_cons,h x (by simp),mapM_congr fun y aR=>h y (by simp[aR])]
theorem Zu {P:Program}{aM gQ:Nat->Option (List aU)}{t:TypeId}{x kK:ay}{cE:fc}{bq:hk}(cH:∀r row,gQ r=some row->aM r=some row)(h:AN P gQ t x kK cE=some bq):AN P aM t x kK cE=some bq:=by
 unfold AN at h ⊢;split at h
 ·split at h
  ·rename_i a1;rw[Jb cH a1];exact h
  simp at h
 simp at h
theorem FR {P:Program}{E mN:Nat->ay}{aM gQ:Nat->Option (List aU)}{aT:Nat}{I:Oper}{cE:fc}{bq:hk}
 (en : ∀x∈I.op.operands,eD mN x=eD E x) (cH : ∀r row,gQ r=some row->aM r=some row) (h:eU P mN gQ aT I cE=some bq):eU P E aM aT I cE=some bq:=by
 have bm : ∀ {r k:Nat} {z:aU×List Prop},oG (gQ r) k cE=some z->oG (aM r) k cE=some z:=fun h=>Jb cH h
 cases ah:I.op with
 | move x=>simp only[eU,ah] at h ⊢;rw[<- en x (by simp[ah,Op.operands])];exact h
 | assign x=>simp only[eU,ah] at h ⊢;rw[<- en x (by simp[ah,Op.operands])];exact h
 | pick c x y =>
  simp only[eU,ah] at h ⊢;rw[<- en c (by simp[ah,Op.operands]),<- en x (by simp[ah,Op.operands]),<- en y (by simp[ah,Op.operands])];exact h
 | alloc t=>simp only[eU,ah] at h ⊢;exact h
 | box t x=>simp only[eU,ah] at h ⊢;rw[<- en x (by simp[ah,Op.operands])];exact h
 | load t x =>
  simp only[eU,ah] at h ⊢;rw[<- en x (by simp[ah,Op.operands])];split at h
  ·split at h
   ·rename_i a1;rw[bm a1];exact h
   simp at h
  ·exact h
  simp at h
 | store t x y =>
  simp only[eU,ah] at h ⊢;rw[<- en x (by simp[ah,Op.operands]),<- en y (by simp[ah,Op.operands])];split at h
  ·split at h
   ·simp at h
   rename_i row dh;rw[cH _ row dh];exact h
  simp at h
 | nilCheck x =>
  simp only[eU,ah] at h ⊢;rw[<- en x (by simp[ah,Op.operands])];split at h
  ·split at h
   ·rename_i a1;rw[bm a1];exact h
   simp at h
  ·exact h
  ·exact h
  simp at h
 | binOp op t x y c2 =>
  simp only[eU,ah] at h ⊢;rw[<- en x (by simp[ah,Op.operands]),<- en y (by simp[ah,Op.operands])];exact h
 | unOp op t x=>simp only[eU,ah] at h ⊢;rw[<- en x (by simp[ah,Op.operands])];exact h
 | convert t c2 x =>
  simp only[eU,ah] at h ⊢;rw[<- en x (by simp[ah,Op.operands])];split at h
  ·exact h
  ·rename_i r k bE len h1 o
   split at h
   ·rename_i af aa ao;rw[FF cH ao,aa];exact h
   simp at h
  simp at h
 | makeFunc f EN cf =>
  cases f with
  | func n =>
   simp only[eU,ah] at h ⊢;have:cf.toList.map (eD mN)=cf.toList.map (eD E):=ah9 fun x U=>en x (by simp[ah,Op.operands];right;simpa using U);rw[<- this];exact h
  | _=>simp[eU,ah] at h
 | makeSlice t x y =>
  simp only[eU,ah] at h ⊢;rw[<- en x (by simp[ah,Op.operands]),<- en y (by simp[ah,Op.operands])];exact h
 | fieldAddr t x f =>
  simp only[eU,ah] at h ⊢;rw[<- en x (by simp[ah,Op.operands])];split at h
  ·split at h
   ·split at h
    ·simp at h
    rename_i cj;rw[dA cj];split at h
    ·split at h
     ·rename_i a1;rw[bm a1];exact h
     simp at h
    ·exact h
    simp at h
   simp at h
  simp at h
 | field t x f=>simp only[eU,ah] at h ⊢;rw[<- en x (by simp[ah,Op.operands])];exact h
 | indexAddr t x y =>
  simp only[eU,ah] at h ⊢;rw[<- en x (by simp[ah,Op.operands]),<- en y (by simp[ah,Op.operands])];split at h
  ·split at h
   ·exact h
   ·split at h
    ·rename_i row dh;rw[cH _ row dh];exact h
    simp at h
   simp at h
  exact Zu cH h
 | index t x y =>
  simp only[eU,ah] at h ⊢;rw[<- en x (by simp[ah,Op.operands]),<- en y (by simp[ah,Op.operands])];exact h
 | extract x i=>simp only[eU,ah] at h ⊢;rw[<- en x (by simp[ah,Op.operands])];exact h
 | slice t x bE ab uJ =>
  cases uJ with
  | none =>
   simp only[eU,ah] at h ⊢
   have e1:bE.map (eD mN)=bE.map (eD E):=by
    cases bE with
    | none=>rfl
    | some y=>simp only[dR];rw[en y (by simp[ah,Op.operands])]
   have aD:ab.map (eD mN)=ab.map (eD E):=by
    cases ab with
    | none=>rfl
    | some y=>simp only[dR];rw[en y (by simp[ah,Op.operands])]
   rw[<- en x (by simp[ah,Op.operands]),<- e1,<- aD];split at h
   ·exact h
   ·split at h
    ·simp at h
    rename_i row dh;rw[cH _ row dh];exact h
   ·exact h
   simp at h
  | some m =>
   cases ab with
   | none=>simp[eU,ah] at h
   | some ab =>
    simp only[eU,ah] at h ⊢
    have e1:bE.map (eD mN)=bE.map (eD E):=by
     cases bE with
     | none=>rfl
     | some y=>simp only[dR];rw[en y (by simp[ah,Op.operands])]
    have aD:(some ab).map (eD mN)=(some ab).map (eD E):=(by simp only[dR];rw[en ab (by simp[ah,Op.operands])]);have bH:(some m).map (eD mN)=(some m).map (eD E):=(by simp only[dR];rw[en m (by simp[ah,Op.operands])]);rw[<- en x (by simp[ah,Op.operands]),<- e1,<- aD,<- bH];split at h
    ·split at h
     ·simp at h
     rename_i row dh;rw[cH _ row dh];exact h
    simp at h
 | build t jS =>
  simp only[eU,ah] at h ⊢;have ae : ∀p∈jS.toList,eD mN p.2=eD E p.2:=fun p ae=>en p.2 (by simp only[ah,Op.operands];rw[<- Array.mem_toList_iff];simp only[List.mem_map];exact⟨p,ae,rfl⟩);split at h
  ·rename_i lf z _ _
   split at h
   ·simp at h
   rename_i a1;rw[dA a1]
   have e:(jS.toList.mapM fun (p:Nat×Operand)=>(lf[p.1]?).map fun fd=>(fd.offset,P.cellsOf fd.type,eD mN p.2)) =
    jS.toList.mapM fun (p:Nat×Operand)=>(lf[p.1]?).map fun fd=>(fd.offset,P.cellsOf fd.type,eD E p.2):=mapM_congr fun p lE=>by rw[ae p lE]
   rw[<- e];exact h
  rw[<- (ah9 fun p lE=>by rw[ae p lE]:(jS.toList.map fun p=>(p.1,eD mN p.2))=jS.toList.map fun p=>(p.1,eD E p.2))];exact h
 | buildSlice t n jS =>
  simp only[eU,ah] at h ⊢;have ae : ∀p∈jS.toList,eD mN p.2=eD E p.2:=fun p ae=>en p.2 (by simp only[ah,Op.operands];rw[<- Array.mem_toList_iff];simp only[List.mem_map];exact⟨p,ae,rfl⟩);have e:(jS.toList.map fun p=>(p.1,eD mN p.2))=jS.toList.map fun p=>(p.1,eD E p.2):=ah9 fun p lE=>(by rw[ae p lE]);rw[<- e];exact h
 | call c =>
  obtain⟨GM,args,m7⟩:=c
  cases GM with
  | builtin b =>
   cases b<;>first
    | (simp only[eU,ah] at h ⊢
       have e:args.toList.map (eD mN)=args.toList.map (eD E):=ah9 fun x U=>en x (by simp only[ah,Op.operands,Call.operands];simpa using U);rw[<- e];split at h
       ·exact h
       ·split at h
        ·rename_i row dh;rw[cH _ row dh];exact h
        simp at h
       ·exact h
       ·exact h
       simp at h)
    | simp[eU,ah] at h
  | value f=>simp[eU,ah] at h
  | invoke r m=>simp[eU,ah] at h
 | _=>simp[eU,ah] at h
theorem PW {aM gQ:Nat->Option (List aU)}(cH:∀r row,gQ r=some row->aM r=some row){sz:Nat}{x:ay}{fD:fc}{z:List (List ay)×List Prop}(h:r9 sz gQ fD x=some z):r9 sz aM fD x=some z:=by
 cases x with
 | bu r k bE len =>
  simp only[r9] at h ⊢;split at h
  ·rename_i af bY bm;rw[Jb cH bm];exact h
  simp at h
 | _=>exact h
theorem PA {P:Program}{aM gQ:Nat->Option (List aU)}(cH:∀r row,gQ r=some row->aM r=some row){sz:Nat}{z:List ay}{t c2:TypeId}{x:ay}{fD:fc}{y:List (List ay)×List Prop}(h:xh P sz z gQ fD t c2 x=some y):xh P sz z aM fD t c2 x=some y:=by
 unfold xh at h ⊢;split at h
 ·rename_i e;rw[dw e];exact PW cH h
 rename_i e;rw[dA e];exact h
theorem Qm {uK:Bool}{P:Program}{aM gQ:Nat->Option (List aU)}{x y:ay}{t c2:TypeId}{bq:hk}
 (cH : ∀r row,gQ r=some row->aM r=some row) (h:uj uK P gQ x y t c2=some bq):uj uK P aM x y t c2=some bq:=by
 unfold uj at h ⊢;split at h
 ·simp at h
 split at h;rotate_left
 ·simp at h
 split at h
 ·simp at h
 rename_i a8;rw[dA a8];split at h
 ·simp at h
 rename_i bz bY sg;rw[PA cH sg];simp only;split at h
 ·split at h
  ·simp at h
  rename_i row dh;rw[cH _ row dh];exact h
 simp at h
theorem Zv {P:Program}{aM gQ:Nat->Option (List aU)}{r k bE len:Nat}{t:TypeId}{bq:hk}
 (cH : ∀r row,gQ r=some row->aM r=some row) (h:xq P gQ r k bE len t=some bq):xq P aM r k bE len t=some bq:=by
 unfold xq at h ⊢;split at h
 ·simp at h
 split at h
 ·split at h
  ·simp at h
  rename_i row dh;rw[cH _ row dh];exact h
 simp at h
theorem Z8 {P:Program}{aM gQ:Nat->Option (List aU)}{r k len:Nat}{t:TypeId}{bq:hk}
 (cH : ∀r row,gQ r=some row->aM r=some row) (h:xC P gQ r k len t=some bq):xC P aM r k len t=some bq:=by
 unfold xC at h ⊢;split at h
 ·simp at h
 split at h
 ·split at h
  ·simp at h
  rename_i row dh;rw[cH _ row dh];exact h
 simp at h
theorem aa3 {P:Program}{E mN:Nat->ay}{aM gQ:Nat->Option (List aU)}{aT:Nat}{b:Builtin}{args:List ay}{m7:List TypeId}{cE:fc}{bq:hk}
 (cH : ∀r row,gQ r=some row->aM r=some row) (h:sk P mN gQ aT b args m7 cE=some bq):sk P E aM aT b args m7 cE=some bq:=by
 unfold sk at h ⊢;split at h
 ·split at h
  ·simp at h
  split at h;rotate_left
  ·simp at h
  split at h
  ·simp at h
  rename_i a8;rw[dA a8];split at h
  ·simp at h
  rename_i bz bY sg;rw[PA cH sg];simp only;split at h
  ·exact h
  ·split at h
   ·simp at h
   rename_i row dh;rw[cH _ row dh];exact h
  simp at h
 ·exact Qm cH h
 ·exact Qm cH h
 ·split at h
  ·simp at h
  split at h
  ·simp at h
  split at h
  ·simp at h
  rename_i bz bY sg;rw[PW cH sg];simp only;split at h
  ·simp at h
  rename_i row dh;rw[cH _ row dh];exact h
 ·exact Zv cH h
 ·exact Z8 cH h
 ·exact h
 simp at h
theorem aa4 {P:Program}{E mN:Nat->ay}{aM gQ:Nat->Option (List aU)}{aT:Nat}{I:Oper}{cE:fc}{bq:hk}
 (en : ∀x∈I.op.operands,eD mN x=eD E x) (cH : ∀r row,gQ r=some row->aM r=some row) (h:A9 P mN gQ aT I cE=some bq):A9 P E aM aT I cE=some bq:=by
 unfold A9 at h ⊢;split at h
 ·rename_i b args m7 ah
  split at h
  ·exact FR en cH h
  have e:args.toList.map (eD mN)=args.toList.map (eD E):=ah9 fun x U=>en x (by simp only[ah,Op.operands,Call.operands];simpa using U);rw[<- e];exact aa3 cH h
 ·rename_i op t x y c2 ah
  have hY:=en x (by simp[ah,Op.operands]);have ja:=en y (by simp[ah,Op.operands]);rw[<- hY,<- ja];split at h
  ·exact h
  ·exact h
  ·exact h
  ·exact h
  ·exact h
  ·exact h
  ·simp at h
  exact FR en cH h
 ·rename_i x ah
  have hY:=en x (by simp[ah,Op.operands]);rw[<- hY];split at h
  ·exact h
  ·simp at h
  exact FR en cH h
 exact FR en cH h
theorem u3 {P:Program}{s bS:S}{aT:Nat}{I:Oper}{cE:fc}{bq:hk}
 (en : ∀x∈I.op.operands,eD bS.E x=eD s.E x) (cH : ∀r row,bS.aM r=some row->s.aM r=some row) (ai:AH P bS aT I cE=some bq):AH P s aT I cE=some bq:=by
 unfold AH at ai ⊢;split at ai
 ·rename_i cf
  split at ai
  ·rename_i f args nV ah
   simp only[ah] at ai en ⊢;have b5:=en f (by simp[Op.operands,Call.operands]);have bC:args.toList.map (eD bS.E)=args.toList.map (eD s.E):=ah9 fun x U=>en x (by simp only[Op.operands,Call.operands];simp only[Array.mem_append];right;simpa using U);rw[b5,bC] at ai;split at ai
   ·exact Zt cH ai
   simp at ai
  simp at ai
 exact aa4 en cH ai
theorem FC {P:Program}{aT:Nat}{I:Oper}: ∀(cE:fc) (s bS:S) (bq:hk),(∀x∈I.op.operands,eD bS.E x=eD s.E x)->(∀r row,bS.aM r=some row->s.aM r=some row) ->
 kz P aT I cE bS=some bq->kz P aT I cE s=some bq
 | .kJ t v fD,s,bS,bq,en,cH,h=>by
  unfold kz at h ⊢;split at h;rotate_left
  ·simp at h
  rename_i iX;rw[dw iX]
  have mG:Operand.tmp t∈I.op.operands:=by
   unfold RO at iX;rw[List.any_eq_true] at iX;obtain⟨x,U,a1⟩:=iX
   cases x with
   | tmp u =>
    have:u=t:=(by simpa using a1);subst this;simpa using U
   | _=>simp at a1
  have het:bS.E t=s.E t:=en _ mG;split at h
  ·rename_i r ai
   have:=FC fD {E:=fun u=>if u=t then v else s.E u,aM:=s.aM} {E:=fun u=>if u=t then v else bS.E u,aM:=bS.aM} r (fun x U=>by
    cases x with
    | tmp u =>
     show (if u=t then v else bS.E u)=(if u=t then v else s.E u);split
     ·rfl
     exact en (.tmp u) U
    | _=>rfl) cH ai
   rw[this];simp only;rw[<- het];exact h
  simp at h
 | .uH r fD,s,bS,bq,en,cH,h=>by
  unfold kz at h ⊢;split at h
  ·rename_i row dh
   rw[cH r row dh];simp only;split at h
   ·rename_i qf ai
    have:=FC fD (s.setRow r (my row)) (bS.setRow r (my row)) qf en (fun q dV a1=>by
     simp only[S.setRow] at a1 ⊢;split at a1
     ·rename_i e;rw[dw e];exact a1
     rename_i e;rw[dA e];exact cH q dV a1) ai
    rw[this];exact h
   simp at h
  simp at h
 | .yc r n fD,s,bS,bq,en,cH,h=>by
  unfold kz at h ⊢;split at h
  ·rename_i qf ai;rw[FC fD s bS qf en cH ai];exact Yf cH h
  simp at h
 | .none,s,bS,bq,en,cH,h=>by unfold kz at h ⊢;exact u3 en cH h
 | .ad b,s,bS,bq,en,cH,h=>by unfold kz at h ⊢;exact u3 en cH h
 | .cJ c,s,bS,bq,en,cH,h=>by unfold kz at h ⊢;exact u3 en cH h
 | .gJ af c,s,bS,bq,en,cH,h=>by unfold kz at h ⊢;exact u3 en cH h
 | .gp,s,bS,bq,en,cH,h=>by unfold kz at h ⊢;exact u3 en cH h
 | .EL,s,bS,bq,en,cH,h=>by unfold kz at h ⊢;exact u3 en cH h
 | .call c,s,bS,bq,en,cH,h=>by unfold kz at h ⊢;exact u3 en cH h
 | .aH m b3,s,bS,bq,en,cH,h=>by unfold kz at h ⊢;exact u3 en cH h
def tmpsOf (I:Oper):List Nat:=I.op.operands.toList.filterMap fun | .tmp t=>some t|_=>none
def acA:ay->List Nat
 | .ref r _ _ _=>[r]
 | .bu r _ _ _=>[r]
 | .jj r _ _ _=>[r]
 | _=>[]
def pc (ops:Array Oper)(I:Oper):List Nat :=
 tmpsOf I++(match I.guard with
  | some (j,_)=>((ops[j]?).bind (·.dst)).toList
  | none=>[])
def Bd (s:S)(I:Oper):fc->List Nat
 | .call cf=>cf.eM
 | .kJ t v fD=>Bd {E:=fun u=>if u=t then v else s.E u,aM:=s.aM} I fD
 | .uH r fD=>r::Bd s I fD
 | .yc r _ fD=>r::Bd s I fD
 | _=>match I.op with
  | .move _=>[]
  | _=>(tmpsOf I).flatMap fun t=>acA (s.E t)
def S.only (s:S)(nV jT:List Nat):S:={E:=fun t=>if nV.contains t then s.E t else .dead,aM:=fun r=>if jT.contains r then s.aM r else none}
theorem I3 {P:Program}{N:Nat}{ops:Array Oper}{s:S}{aT:Nat}{I:Oper}{fD:fc×Bool}{bq:hk}{jT:List Nat}
 (h:rq P N ops (s.only (pc ops I) jT) aT I fD=some bq):rq P N ops s aT I fD=some bq:=by
 have en : ∀x∈I.op.operands,eD (s.only (pc ops I) jT).E x=eD s.E x:=by
  intro x U
  cases x with
  | tmp t =>
   have:t∈pc ops I:=(by unfold pc;rw[List.mem_append];left;unfold tmpsOf;rw[List.mem_filterMap];exact⟨.tmp t,by simpa using U,rfl⟩);simp[eD,S.only,this]
  | _=>rfl
 have cH : ∀r row,(s.only (pc ops I) jT).aM r=some row->s.aM r=some row:=by
  intro r row ai;simp only[S.only] at ai;split at ai
  ·exact ai
  simp at ai
 have h0 : ∀r,Ga P (s.only (pc ops I) jT) aT I fD.1=some r->Ga P s aT I fD.1=some r:=fun r ai=>FC fD.1 s _ r en cH ai
 have h1 : ∀r,ud P (s.only (pc ops I) jT) aT I fD.1=some r->ud P s aT I fD.1=some r:=by
  intro r ai;unfold ud at ai ⊢;split at ai;rotate_left
  ·simp at ai
  rename_i eQ hv;rw[h0 eQ hv];simp only;split at ai
  ·rename_i a8
   rw[dw]
   ·exact ai
   rw[List.all_eq_true] at a8 ⊢;intro p ae;have:=a8 p ae;simp only[Bool.or_eq_true,decide_eq_true_eq] at this ⊢;rcases this with e|e
   ·exact .inl e
   right
   cases a1:(s.only (pc ops I) jT).aM p.1 with
   | none=>rw[a1] at e;simp at e
   | some row=>rw[cH _ row a1];rfl
  simp at ai
 unfold rq at h ⊢;split at h
 ·simp at h
 rename_i DP;rw[dA DP];split at h
 ·exact h1 _ h
 rename_i j want dj;split at h
 ·simp at h
 rename_i d bF;have mG:d∈pc ops I:=by unfold pc;rw[List.mem_append];right;simp[dj,bF]
 have he:(s.only (pc ops I) jT).E d=s.E d:=by simp[S.only,mG]
 rw[he] at h;split at h
 ·split at h
  ·rename_i aL
   rw[dw aL];split at h
   ·rename_i r ai;rw[h1 r ai];exact h
   simp at h
  rename_i aL;rw[dA aL];exact h
 ·exact h
 simp at h
structure Rec where
 I:Oper
 fD:fc×Bool
 nV:List Nat
 jT:List Nat
 bq:hk
def rk (P:Program)(N:Nat)(ops:Array Oper):List Oper->List (fc×Bool)->S->Nat->Option (S×List Rec)
 | [],[],s,_=>some (s,[])
 | I::l,fD::cE,s,aT =>
  match rq P N ops (s.only (pc ops I) (aT::Bd s I fD.1)) aT I fD with
  | some bq=>match rk P N ops l cE (s.aH I bq) (aT+1) with
   | some (bS,rec)=>some (bS,⟨I,fD,pc ops I,aT::Bd s I fD.1,bq⟩::rec)
   | none=>none
  | none=>none
 | _,_,_,_=>none
def meets (a b:List Nat):Bool:=a.any fun x=>b.contains x
def qI (x y:Rec):Bool :=
 meets x.I.dst.toList (y.nV++y.I.dst.toList) || meets x.nV y.I.dst.toList ||
 meets (x.bq.fU.map (·.1)) (y.jT++y.bq.fU.map (·.1)) || meets x.jT (y.bq.fU.map (·.1))
def S.ls (s:S):Nat⊕Nat->ay⊕Option (List aU)
 | .inl t=> .inl (s.E t)
 | .inr r=> .inr (s.aM r)
theorem S.RP {s bS:S}(h:∀L,s.ls L=bS.ls L):s=bS:=by
 obtain⟨E,aM⟩:=s;obtain⟨mN,gQ⟩:=bS;have h1:E=mN:=funext fun t=>by have:=h (.inl t);simpa [S.ls] using this
 have o:aM=gQ:=funext fun r=>by have:=h (.inr r);simpa [S.ls] using this
 rw[h1,o]
def qA:List (Nat×List aU)->Nat->Option (List aU)
 | [],_=>none
 | (r,row)::u,q=>match qA u q with
  | some x=>some x
  | none=>if r=q then some row else none
theorem Qn : ∀(u:List (Nat×List aU)) (s:S) (q:Nat),(s.iA u).aM q=match qA u q with|some x=>some x|none=>s.aM q
 | [],s,q=>rfl
 | (r,row)::u,s,q=>by
  show ((s.setRow r row).iA u).aM q=_;rw[Qn u (s.setRow r row) q];simp only[qA]
  cases qA u q with
  | some x=>rfl
  | none =>
   simp only[S.setRow];by_cases h:r=q
   ·subst h;simp
   rw[dA (Ne.symm h),dA h]
theorem CB : ∀(u:List (Nat×List aU)) (q:Nat),qA u q≠none->q∈u.map (·.1)
 | [],q,h=>by simp[qA] at h
 | (r,row)::u,q,h=>by
  simp only[qA] at h
  cases a1:qA u q with
  | some x=>simp[CB u q (by rw[a1];simp)]
  | none =>
   rw[a1] at h;simp only at h;by_cases e:r=q
   ·simp[e]
   rw[dA e] at h;simp at h
def nO (x:Rec):Nat⊕Nat->Option (ay⊕Option (List aU))
 | .inl t=>if x.I.dst=some t then some (.inl x.bq.val) else none
 | .inr r=>(qA x.bq.fU r).map fun row=> .inr (some row)
theorem Dc (s:S)(x:Rec)(L:Nat⊕Nat):(s.aH x.I x.bq).ls L=(nO x L).getD (s.ls L):=by
 cases L with
 | inl t =>
  simp only[S.ls,nO,S.aH]
  cases bF:x.I.dst with
  | none=>simp[S.put,Db]
  | some d =>
   simp only[S.put,dz];by_cases h:t=d
   ·subst h;simp
   rw[dA h,dA (Ne.symm h),Db];rfl
 | inr r =>
  simp only[S.ls,nO,S.aH,S.vl];rw[Qn];cases qA x.bq.fU r<;>rfl
def hZ:List Rec->(Nat->Bool)->Nat->S->S
 | [],_,_,s=>s
 | x::l,f,n,s=>hZ l f (n+1) (if f n then s.aH x.I x.bq else s)
theorem IU (L:Nat⊕Nat): ∀(l:List Rec) (f ku:Nat->Bool) (n:Nat) (s bS:S),s.ls L=bS.ls L ->
 (∀(i:Nat) x,l[i]? = some x->nO x L≠none->f (n+i)=ku (n+i))->(hZ l f n s).ls L=(hZ l ku n bS).ls L
 | [],_,_,_,_,_,h,_=>h
 | x::l,f,ku,n,s,bS,h,b5=>by
  simp only[hZ];refine IU L l f ku (n+1) _ _ ?_ fun i y aR he=>by have:=b5 (i+1) y (by simpa using aR) he;rw[show n+1+i=n+(i+1) by omega];exact this
  cases he:nO x L with
  | none =>
   have e : ∀(b:Bool) (s:S),(if b then s.aH x.I x.bq else s).ls L=s.ls L:=by
    intro b s;cases b
    ·rfl
    simp[Dc,he]
   rw[e,e,h]
  | some c =>
   have:=b5 0 x rfl (by rw[he];simp);simp only[Nat.add_zero] at this;rw[this];cases ku n
   ·exact h
   simp[Dc,he]
theorem PX (L:Nat⊕Nat): ∀(l:List Rec) (f:Nat->Bool) (n:Nat) (s:S),(∀(i:Nat) x,l[i]? = some x->f (n+i)=true->nO x L=none)->(hZ l f n s).ls L=s.ls L
 | [],_,_,_,_=>rfl
 | x::l,f,n,s,h=>by
  simp only[hZ];rw[PX L l f (n+1) _ fun i y aR b5=>h (i+1) y (by simpa using aR) (by rw[show n+(i+1)=n+1+i by omega];exact b5)];cases b5:f n
  ·rfl
  have:=h 0 x rfl (by simpa using b5);simp[Dc,this]
theorem PY (L:Nat⊕Nat): ∀(l:List Rec) (f:Nat->Bool) (n j:Nat) (s:S) (x:Rec) (c:ay⊕Option (List aU)),l[j]? = some x->f (n+j)=true->nO x L=some c ->
 (∀(i:Nat) y,l[i]? = some y->j<i->f (n+i)=true->nO y L=none)->(hZ l f n s).ls L=c
 | [],_,_,_,_,_,_,h,_,_,_=>by simp at h
 | y::l,f,n,0,s,x,c,h,b5,he,aZ=>by simp at h;subst h;simp only[hZ];rw[PX L l f (n+1) _ fun i z cj hfz=>aZ (i+1) z (by simpa using cj) (by omega) (by rw[show n+(i+1)=n+1+i by omega];exact hfz)];simp only[Nat.add_zero] at b5;simp[b5,Dc,he]
 | y::l,f,n,j+1,s,x,c,h,b5,he,aZ=>by
  simp only[hZ]
  exact PY L l f (n+1) j _ x c (by simpa using h) (by rw[show n+1+j=n+(j+1) by omega];exact b5) he fun i z cj rE hfz =>
   aZ (i+1) z (by simpa using cj) (by omega) (by rw[show n+(i+1)=n+1+i by omega];exact hfz)
theorem CC : ∀(l:List Rec) (f ku:Nat->Bool) (n:Nat) (s:S),(∀i,i<l.length->f (n+i)=ku (n+i))->hZ l f n s=hZ l ku n s
 | [],_,_,_,_,_=>rfl
 | x::l,f,ku,n,s,h=>by simp only[hZ];have h0:=h 0 (by simp);simp only[Nat.add_zero] at h0;rw[h0];exact CC l f ku (n+1) _ fun i ab=>by rw[show n+1+i=n+(i+1) by omega];exact h (i+1) (by simpa using ab)
theorem PB {P:Program}{N:Nat}{ops:Array Oper}: ∀(l:List Oper) (cE:List (fc×Bool)) (s bS:S) (aT:Nat) (jT:List Rec),rk P N ops l cE s aT=some (bS,jT)->s.k5 aT ->
 jT.length=l.length/\bS=hZ jT (fun _=>true) 0 s/\ ∀(i:Nat) x,jT[i]? = some x->l[i]? = some x.I/\x.nV=pc ops x.I /\
  aT+i∈x.jT/\rq P N ops ((hZ (jT.take i) (fun _=>true) 0 s).only x.nV x.jT) (aT+i) x.I x.fD=some x.bq/\(hZ (jT.take i) (fun _=>true) 0 s).k5 (aT+i)
 | [],[],s,bS,aT,jT,h,b5=>by simp[rk] at h;obtain⟨rfl,rfl⟩:=h;exact⟨rfl,rfl,fun i x U=>by simp at U⟩
 | I::l,fD::cE,s,bS,aT,jT,h,b5=>by
  simp only[rk] at h;split at h;rotate_left
  ·simp at h
  rename_i bq ap;split at h;rotate_left
  ·simp at h
  rename_i s2 K2 o;simp only[dz,dD] at h;obtain⟨rfl,rfl⟩:=h
  have D9 : ∀(l:List Rec) (n:Nat) (s:S),hZ l (fun _=>true) (n+1) s=hZ l (fun _=>true) n s:=by
   intro l
   induction l with
   | nil=>intro n s;rfl
   | cons x l ih=>intro n s;simp only[hZ];exact ih (n+1) _
  obtain⟨e1,aD,bH⟩:=PB l cE (s.aH I bq) s2 (aT+1) K2 o (FB (I3 ap) b5);refine⟨by simp[e1],?_,fun i x U=> ?_⟩
  ·simp only[hZ,if_true];rw[D9];exact aD
  cases i with
  | zero =>
   simp at U;subst U;exact⟨rfl,rfl,by simp,ap,b5⟩
  | succ i =>
   simp at U;obtain⟨f1,f2,f0,f3,f4⟩:=bH i x U;have e:hZ ((⟨I,fD,pc ops I,aT::Bd s I fD.1,bq⟩::K2).take (i+1)) (fun _=>true) 0 s=hZ (K2.take i) (fun _=>true) 0 (s.aH I bq):=(by simp only[List.take_succ_cons,hZ,if_true];rw[D9]);rw[e,show aT+(i+1)=aT+1+i by omega];exact⟨by simpa using f1,f2,f0,f3,f4⟩
 | [],_::_,_,_,_,_,h,_=>by simp[rk] at h
 | _::_,[],_,_,_,_,h,_=>by simp[rk] at h
inductive rF (ops:Array Oper):Nat->Nat->Prop
 | one {i j:Nat} {I:Oper} {e:Edge} (ah:ops[j]? = some I) (he:e∈I.after) (aL:Region.binds .any e=true) (h:e.on=i):rF ops i j
 | step {i j k:Nat} {I:Oper} {e:Edge} (ah:ops[j]? = some I) (he:e∈I.after) (aL:Region.binds .any e=true) (h:e.on=k) (aZ:rF ops i k):rF ops i j
def Dm:List Oper->List Nat->List Nat
 | [],acc=>acc
 | I::l,acc=>Dm l (acc++[I.after.toList.foldl (fun m e=>if Region.binds .any e then m ||| (1 <<< e.on) ||| (acc.getD e.on 0) else m) 0])
theorem Qo {ops:Array Oper}{j:Nat}{I:Oper}(ah:ops[j]? = some I){acc:List Nat}(SI:∀k i,(acc.getD k 0).testBit i=true->rF ops i k): ∀(es:List Edge) (m:Nat),(∀e∈es,e∈I.after) ->
 (∀i,m.testBit i=true->rF ops i j)-> ∀i,(es.foldl (fun m e=>if Region.binds .any e then m ||| (1 <<< e.on) ||| (acc.getD e.on 0) else m) m).testBit i=true->rF ops i j
 | [],m,_,hm,i,h=>hm i h
 | e::es,m,h5,hm,i,h=>by
  simp only[List.foldl_cons] at h;refine Qo ah SI es _ (fun ez mE=>h5 ez (by simp[mE])) ?_ i h;intro i ab;split at ab
  ·rename_i aL
   rw[Nat.testBit_or,Nat.testBit_or,Bool.or_eq_true,Bool.or_eq_true] at ab;rcases ab with (ab|ab)|ab
   ·exact hm i ab
   ·rw[Nat.testBit_shiftLeft] at ab
    simp only[ahU,decide_eq_true_eq] at ab
    have:i-e.on=0:=by
     have:=ab.2;rcases Nat.eq_zero_or_pos (i-e.on) with h0|h0
     ·exact h0
     rw[Nat.testBit_one_eq_true_iff_self_eq_zero] at this;exact this
    exact .one ah (h5 e (by simp)) aL (by omega)
   exact .step ah (h5 e (by simp)) aL rfl (SI _ _ ab)
  exact hm i ab
theorem Qp {ops:Array Oper}: ∀(l:List Oper) (acc:List Nat),(∀(i:Nat) I,l[i]? = some I->ops[acc.length+i]? = some I)->(∀k i,(acc.getD k 0).testBit i=true->rF ops i k) ->
 ∀k i,((Dm l acc).getD k 0).testBit i=true->rF ops i k
 | [],acc,_,h,k,i,aZ=>h k i aZ
 | I::l,acc,aO,h,k,i,aZ=>by
  simp only[Dm] at aZ;refine Qp l _ (fun i b3 ea=>by have:=aO (i+1) b3 (by simpa using ea);simp only[dE,dI,dM];rw[show acc.length+(0+1)+i=acc.length+(i+1) by omega];exact this) ?_ k i aZ;intro k i aZ;rw[ahX,List.getElem?_append] at aZ;split at aZ
  ·exact h k i (by rw[ahX];exact aZ)
  rename_i dZ;by_cases e:k=acc.length
  ·subst e;simp only[Nat.sub_self,List.getElem?_cons_zero,Option.getD_some] at aZ;exact Qo (aO 0 I rfl) h _ 0 (fun e he=>by simpa using he) (fun i ab=>by simp at ab) i aZ
  rw[dP (by simp;omega)] at aZ;simp at aZ
def CZ (m:Nat)(y:Rec):List Rec->Nat->Bool
 | [],_=>true
 | x::l,i=>(!qI x y || m.testBit i) && CZ m y l (i+1)
def Gl (hC:List Rec):List Rec->List Nat->Nat->Bool
 | [],_,_=>true
 | y::l,ee,j=>CZ (ee.headD 0) y (hC.take j) 0 && y.I.after.toList.all (fun e=> !Region.binds .any e || decide (e.on<j)) && Gl hC l ee.tail (j+1)
theorem PZ {m:Nat}{y:Rec}: ∀(l:List Rec) (n:Nat),CZ m y l n=true-> ∀(i:Nat) x,l[i]? = some x->qI x y=true->m.testBit (n+i)=true
 | [],_,_,i,x,U,_=>by simp at U
 | z::l,n,h,i,x,U,a8=>by
  simp only[CZ,ahU,Bool.or_eq_true,Bool.not_eq_true'] at h
  cases i with
  | zero =>
   simp at U;subst U;rcases h.1 with e|e
   ·rw[e] at a8;simp at a8
   simpa using e
  | succ i =>
   have:=PZ l (n+1) h.2 i x (by simpa using U) a8;rw[show n+(i+1)=n+1+i by omega];exact this
theorem QM {hC:List Rec}: ∀(l:List Rec) (ee:List Nat) (j:Nat),Gl hC l ee j=true-> ∀(i:Nat) y,l[i]? = some y ->
 CZ (ee.getD i 0) y (hC.take (j+i)) 0=true/\ ∀e∈y.I.after,Region.binds .any e=true->e.on<j+i
 | [],_,_,_,i,y,aR=>by simp at aR
 | z::l,ee,j,h,i,y,aR=>by
  simp only[Gl,ahU] at h
  cases i with
  | zero =>
   simp at aR;subst aR;refine⟨?_,fun e he aL=> ?_⟩
   ·have:ee.getD 0 0=ee.headD 0:=(by cases ee<;>rfl);rw[this];exact h.1.1
   have:=List.all_eq_true.1 h.1.2 e (by simpa using he);simpa [aL] using this
  | succ i =>
   obtain⟨e1,aD⟩:=QM l ee.tail (j+1) h.2 i y (by simpa using aR);refine⟨?_,fun e he aL=> ?_⟩
   ·have:ee.getD (i+1) 0=ee.tail.getD i 0:=(by cases ee<;>rfl);rw[this,show j+(i+1)=j+1+i by omega];exact e1
   have:=aD e he aL;omega
theorem Ag {a b:List Nat}{x:Nat}(bC:x∈a)(aL:x∈b):meets a b=true:=by unfold meets;rw[List.any_eq_true];exact⟨x,bC,by simpa using aL⟩
theorem Y0 {x y:Rec}(h:qI x y=false){L:Nat⊕Nat}(U:nO x L≠none):nO y L=none:=by
 simp only[qI,Bool.or_eq_false_iff] at h
 cases L with
 | inl t =>
  simp only[nO] at U ⊢;by_cases h1:x.I.dst=some t
  ·by_cases o:y.I.dst=some t
   ·have:=Ag (a:=x.I.dst.toList) (b:=y.nV++y.I.dst.toList) (x:=t) (by simp[h1]) (by simp[o]);rw[h.1.1.1] at this;simp at this
   simp[o]
  simp[h1] at U
 | inr r =>
  simp only[nO] at U ⊢
  cases o:qA y.bq.fU r with
  | none=>rfl
  | some row =>
   have iN:r∈x.bq.fU.map (·.1):=CB _ _ (by intro e;simp[e] at U);have hG:r∈y.bq.fU.map (·.1):=CB _ _ (by rw[o];simp);have:=Ag iN (b:=y.jT++y.bq.fU.map (·.1)) (by simp only[List.mem_append];exact .inr hG);rw[h.1.2] at this;simp at this
def Rec.Gx (x:Rec):Nat⊕Nat->Prop
 | .inl t=>t∈x.nV
 | .inr r=>r∈x.jT
theorem Y1 {x y:Rec}(h:qI x y=false){L:Nat⊕Nat}(aR:y.Gx L):nO x L=none:=by
 simp only[qI,Bool.or_eq_false_iff] at h
 cases L with
 | inl t =>
  simp only[nO];by_cases h1:x.I.dst=some t
  ·have:=Ag (a:=x.I.dst.toList) (b:=y.nV++y.I.dst.toList) (x:=t) (by simp[h1]) (by simp only[List.mem_append];exact .inl aR);rw[h.1.1.1] at this;simp at this
  simp[h1]
 | inr r =>
  simp only[nO]
  cases o:qA x.bq.fU r with
  | none=>rfl
  | some row =>
   have iN:r∈x.bq.fU.map (·.1):=CB _ _ (by rw[o];simp);have:=Ag iN (b:=y.jT++y.bq.fU.map (·.1)) (by simp only[List.mem_append];exact .inl aR);rw[h.1.2] at this;simp at this
theorem Y2 {x y:Rec}(h:qI x y=false){L:Nat⊕Nat}(U:x.Gx L):nO y L=none:=by
 simp only[qI,Bool.or_eq_false_iff] at h
 cases L with
 | inl t =>
  simp only[nO];by_cases h1:y.I.dst=some t
  ·have:=Ag (a:=x.nV) (b:=y.I.dst.toList) (x:=t) U (by simp[h1]);rw[h.1.1.2] at this;simp at this
  simp[h1]
 | inr r =>
  simp only[nO]
  cases o:qA y.bq.fU r with
  | none=>rfl
  | some row =>
   have iN:r∈y.bq.fU.map (·.1):=CB _ _ (by rw[o];simp);have:=Ag (a:=x.jT) U iN;rw[h.2] at this;simp at this
theorem Zw {s bS:S}{x:Rec}(h:∀L,x.Gx L->s.ls L=bS.ls L):s.only x.nV x.jT=bS.only x.nV x.jT:=by
 apply S.RP;intro L
 cases L with
 | inl t =>
  simp only[S.ls,S.only];by_cases cb:t∈x.nV
  ·have:=h (.inl t) cb;simp only[S.ls,Sum.inl.injEq] at this;simp[cb,this]
  simp[cb]
 | inr r =>
  simp only[S.ls,S.only];by_cases ai:r∈x.jT
  ·have:=h (.inr r) ai;simp only[S.ls,Sum.inr.injEq] at this;simp[ai,this]
  simp[ai]
theorem P0 : ∀(l:List Rec) (i n:Nat) (s:S),hZ (l.take i) (fun _=>true) n s=hZ l (fun k=>decide (k<n+i)) n s
 | [],i,n,s=>by simp[hZ]
 | x::l,0,n,s=>by
  simp only[List.take_zero,hZ,Nat.add_zero];rw[dA (by simp)];have:=CC l (fun k=>decide (k<n)) (fun _=>false) (n+1) s (fun i _=>by simp;omega);rw[this]
  have cj : ∀(l:List Rec) (n:Nat),hZ l (fun _=>false) n s=s:=by
   intro l
   induction l with
   | nil=>intro n;rfl
   | cons x l ih=>intro n;simp only[hZ,ah2,if_false];exact ih _
  rw[cj]
 | x::l,i+1,n,s=>by simp only[List.take_succ_cons,hZ,if_true];rw[dw (by simp),P0 l i (n+1)];exact CC l _ _ (n+1) _ fun j _=>by congr 1;apply propext;omega
def wZ (l:List Bool):Nat:=l.countP (fun b=> !b)
section
variable {P:Program} {ops:Array Oper} {Q:Exit->Act->World->Prop} {g:G} {jU:S} {l3:Nat} {hC:List Rec}
theorem FG {gx:Array Bool}(e3:gx.size=ops.size){i:Nat}:i∈Region.ready .any ops gx↔i<ops.size/\gx.getD i false=false/\ ∀I,ops[i]? = some I-> ∀e∈I.after,Region.binds .any e=true->gx.getD e.on false=true:=by
 unfold Region.ready;rw[List.mem_filter,List.mem_range];constructor
 ·rintro⟨h1,o⟩
  simp only[ahU,Bool.not_eq_true'] at o;have aO:i<gx.size:=(by omega);refine⟨h1,?_,fun I ah e he aL=> ?_⟩
  ·have:=o.1;rw[ah0,dS aO] at this ⊢;simpa using this
  have aa:=o.2;rw[ah] at aa;simp only[dR,Option.getD_some] at aa;rw[Array.all_eq_true_iff_forall_mem] at aa;have:=aa e he;simpa [aL] using this
 rintro⟨h1,o,aa⟩;refine⟨h1,?_⟩;have aO:i<gx.size:=by omega
 have ah:ops[i]? = some ops[i]:=dS h1;simp only[ahU,Bool.not_eq_true'];refine⟨?_,?_⟩
 ·rw[ah0,dS aO] at o ⊢;simpa using o
 rw[ah];simp only[dR,Option.getD_some];rw[Array.all_eq_true_iff_forall_mem];intro e he
 cases aL:Region.binds .any e with
 | false=>rfl
 | true=>simp[aa _ ah e he aL]
theorem Z9 (hlen:hC.length=ops.size) (DQ : ∀(i:Nat) x,hC[i]? = some x->ops[i]? = some x.I/\x.nV=pc ops x.I/\l3+i∈x.jT /\
 rq P g.N ops ((hZ (hC.take i) (fun _=>true) 0 jU).only x.nV x.jT) (l3+i) x.I x.fD=some x.bq/\(hZ (hC.take i) (fun _=>true) 0 jU).k5 (l3+i))
 (cd : ∀x∈hC,∀p∈x.bq.fu,p)
 (Gy : ∀(i j:Nat) x y,i<j->hC[i]? = some x->hC[j]? = some y->qI x y=true->rF ops i j)
 (Dl : ∀(i:Nat) I,ops[i]? = some I-> ∀e∈I.after,Region.binds .any e=true->e.on<i)
 (vW : ∀bL dU bJ,cB g (hZ hC (fun _=>true) 0 jU) bL dU bJ->Q .normal dU bJ) :
 ∀(qJ:Nat) (gx:Array Bool) (ax:fz) (a:Act) (w:World),gx.size=ops.size->wZ gx.toList<=qJ ->
  (∀i j,gx.getD j false=true->rF ops i j->gx.getD i false=true) ->
  cB g (hZ hC (fun i=>gx.getD i false) 0 jU) ax a w->wpAny P .any ops Q qJ gx a w:=by
 have Sn : ∀(gx:Array Bool) (ax:fz) (a:Act) (w:World),gx.size=ops.size->Region.ready .any ops gx=[] ->
  cB g (hZ hC (fun i=>gx.getD i false) 0 jU) ax a w->Q .normal a w:=by
  intro gx ax a w e3 ai h
  have oH : ∀i,i<ops.size->gx.getD i false=true:=by
   intro i
   induction i using Nat.strongRecOn with
   | _ i ih =>
    intro ab
    cases aO:gx.getD i false with
    | true=>rfl
    | false =>
     exfalso;have:i∈Region.ready .any ops gx:=(FG e3).2 ⟨ab,aO,fun I ah e he aL=>by have dZ:=Dl i I ah e he aL;exact ih e.on dZ (by omega)⟩;rw[ai] at this;simp at this
  have e:=CC hC (fun i=>gx.getD i false) (fun _=>true) 0 jU (fun i ab=>by simpa using oH i (by omega));rw[e] at h;exact vW ax a w h
 have J9 : ∀(gx:Array Bool) (ax:fz) (a:Act) (w:World),gx.size=ops.size->(∀i j,gx.getD j false=true->rF ops i j->gx.getD i false=true) ->
  cB g (hZ hC (fun i=>gx.getD i false) 0 jU) ax a w-> ∀i∈Region.ready .any ops gx,∀K:Act->World->Prop,
  (∀bL dU bJ,cB g (hZ hC (fun k=>(gx.setIfInBounds i true).getD k false) 0 jU) bL dU bJ->K dU bJ)->wpOp P ops Q i K a w:=by
  intro gx ax a w e3 xr h i ab K h8;obtain⟨Ej,GY,Tf⟩:=(FG e3).1 ab;have xP:hC[i]? = some (hC[i]'(by omega)):=dx _;generalize hC[i]'(by omega)=x at xP;obtain⟨r1,bM,r0,bj,a6⟩:=DQ i x xP
  have Ks : ∀j,rF ops j i->gx.getD j false=true:=by
   intro j au
   cases au with
   | one ah he aL qN =>
    rw[r1] at ah;simp at ah;subst ah;rw[<- qN];exact Tf _ r1 _ he aL
   | step ah he aL qN aZ =>
    rw[r1] at ah;simp at ah;subst ah;have:=Tf _ r1 _ he aL;rw[qN] at this;exact xr _ _ this aZ
  have dZ : ∀j y,hC[j]? = some y->j<i->gx.getD j false=false->qI y x=false:=by
   intro j y aR rE b5
   cases a8:qI y x with
   | false=>rfl
   | true=>have:=Ks j (Gy j i y x rE aR xP a8);rw[b5] at this;simp at this
  have GZ : ∀j y,hC[j]? = some y->i<j->gx.getD j false=true->qI x y=false:=by
   intro j y aR qQ b5
   cases a8:qI x y with
   | false=>rfl
   | true=>have:=xr i j b5 (Gy i j x y qQ xP aR a8);rw[GY] at this;simp at this
  have SJ : ∀L,x.Gx L->(hZ (hC.take i) (fun _=>true) 0 jU).ls L=(hZ hC (fun i=>gx.getD i false) 0 jU).ls L:=by
   intro L vX;rw[P0];refine IU L hC _ _ 0 jU jU rfl fun j y aR he=> ?_;simp only[dF];rcases Nat.lt_trichotomy j i with rE|rE|rE
   ·cases b5:gx.getD j false with
    | true=>simpa using rE
    | false=>exact absurd (Y1 (dZ j y aR rE b5) vX) he
   ·subst rE;simpa using GY.symm
   cases b5:gx.getD j false with
   | false=>simp;omega
   | true=>exact absurd (Y2 (GZ j y aR rE b5) vX) he
  have ap:rq P g.N ops (hZ hC (fun i=>gx.getD i false) 0 jU) (l3+i) x.I x.fD=some x.bq:=(by rw[Zw SJ,bM] at bj;exact I3 bj);have e4:(hZ hC (fun i=>gx.getD i false) 0 jU).aM (l3+i)=none:=(by have e1:=SJ (.inr (l3+i)) r0;simp only[S.ls,Sum.inr.injEq] at e1;rw[<- e1];exact a6 _ (dG _));refine Pz h e4 r1 ap (cd x (dH xP)) fun bL dU bJ cF=>h8 bL dU bJ ?_
  have DR : ∀k,(gx.setIfInBounds i true).getD k false=if k=i then true else gx.getD k false:=by
   intro k;simp only[ah0,Array.getElem?_setIfInBounds];by_cases e:i=k
   ·subst e;simp[e3,Ej]
   rw[dA e,dA (Ne.symm e)]
  have A3:(hZ hC (fun i=>gx.getD i false) 0 jU).aH x.I x.bq=hZ hC (fun k=>(gx.setIfInBounds i true).getD k false) 0 jU:=by
   apply S.RP;intro L;rw[Dc]
   cases he:nO x L with
   | none =>
    refine IU L hC _ _ 0 jU jU rfl fun j y aR Eb=> ?_;simp only[dF,DR];by_cases e:j=i
    ·subst e;rw[xP] at aR;simp at aR;subst aR;exact absurd he Eb
    rw[dA e]
   | some c =>
    symm
    refine PY L hC _ 0 i jU x c xP (by simp[DR]) he fun j y aR qQ b5=> ?_;simp only[dF,DR] at b5;rw[dA (by omega)] at b5;exact Y0 (GZ j y aR qQ b5) (by rw[he];simp)
  rw[A3] at cF;exact cF
 intro qJ
 induction qJ with
 | zero =>
  intro gx ax a w e3 DJ xr h
  have ai:Region.ready .any ops gx=[]:=by
   cases ai:Region.ready .any ops gx with
   | nil=>rfl
   | cons i l =>
    exfalso;have ab:i∈Region.ready .any ops gx:=(by rw[ai];simp);obtain⟨h1,o,-⟩:=(FG e3).1 ab;have h0:wZ gx.toList=0:=(by omega);unfold wZ at h0;rw[List.countP_eq_zero] at h0;have xH:i<gx.size:=(by omega);have:=h0 (gx[i]) (by simp);rw[ah0,dS xH] at o;simp at o this;rw[o] at this;simp at this
  exact⟨ai,Sn gx ax a w e3 ai h⟩
 | succ qJ ih =>
  intro gx ax a w e3 DJ xr h;refine⟨fun ai=>Sn gx ax a w e3 ai h,fun i ab=> ?_⟩;refine J9 gx ax a w e3 xr h i ab _ fun bL dU bJ cF=> ?_;obtain⟨h1,o,aa⟩:=(FG e3).1 ab;have xH:i<gx.size:=by omega
  have DR : ∀k,(gx.setIfInBounds i true).getD k false=if k=i then true else gx.getD k false:=by
   intro k;simp only[ah0,Array.getElem?_setIfInBounds];by_cases e:i=k
   ·subst e;simp[xH]
   rw[dA e,dA (Ne.symm e)]
  refine ih _ bL dU bJ (by simpa using e3) ?_ ?_ cF
  ·have b5:gx[i]=false:=by
    rw[ah0,dS xH] at o;simpa using o
   have a8:wZ (gx.setIfInBounds i true).toList+1<=wZ gx.toList:=by
    unfold wZ;rw[Array.toList_setIfInBounds]
    have key : ∀(l:List Bool) (i:Nat),l[i]? = some false->(l.set i true).countP (fun b=> !b)+1=l.countP (fun b=> !b):=by
     intro l
     induction l with
     | nil=>intro i ab;simp at ab
     | cons b l ih =>
      intro i ab
      cases i with
      | zero=>simp at ab;subst ab;simp
      | succ i =>
       simp at ab;simp only[List.set_cons_succ,List.countP_cons];have:=ih i ab;omega
    rw[key gx.toList i (by rw[Array.getElem?_toList,dS xH,b5])];exact dG _
   omega
  intro k j au Ek;rw[DR] at au ⊢;by_cases e:k=i
  ·rw[dw e]
  rw[dA e];by_cases aD:j=i
  ·subst aD
   cases Ek with
   | one ah he aL qN=>rw[<- qN];exact aa _ ah _ he aL
   | step ah he aL qN aZ =>
    have:=aa _ ah _ he aL;rw[qN] at this;exact xr _ _ this aZ
  rw[dA aD] at au;exact xr k j au Ek
end
def CP (P:Program)(N:Nat)(ops:Array Oper)(draw:Bool)(cE:List (fc×Bool))(s:S)(aT:Nat):Option (S×List Prop) :=
 if draw then
  match rk P N ops ops.toList cE s aT with
  | some (bS,hC)=>if Gl hC hC (Dm ops.toList []) 0 then some (bS,hC.flatMap (·.bq.fu)) else none
  | none=>none
 else rj P N ops ops.toList cE s aT
theorem Xy {P:Program}(qK:P.follows .mixedOrders=true){g:G}{ops:Array Oper}{draw:Bool}{cE:List (fc×Bool)}{s bS:S}{aT:Nat}{af:List Prop}
 (h:CP P g.N ops draw cE s aT=some (bS,af)) (bm : ∀p∈af,p) (b5:s.k5 aT) {ax:fz} {a:Act} {w:World} (ai:cB g s ax a w) (id:Nat) {Q:Exit->Act->World->Prop}
 (vW : ∀bL dU bJ,cB g bS bL dU bJ->Q .normal dU bJ):(Code.region id ops draw).wp P Q a w:=by
 unfold CP at h
 cases draw with
 | false =>
  simp only[ah2,if_false] at h;refine wp_region ?_;have:=Pl (Q:=Q) (i:=0) ops.toList cE s bS aT af (fun j I ah=>by simpa using ah) h bm b5 vW ax a w ai;have e:(List.range ops.toList.length).map (0 + ·)=List.range ops.size:=(by simp);rw[e] at this;exact this
 | true =>
  simp only[if_true] at h;split at h;rotate_left
  ·simp at h
  rename_i s2 hC DQ;split at h;rotate_left
  ·simp at h
  rename_i Gy;simp only[dz,dD] at h;obtain⟨rfl,rfl⟩:=h;obtain⟨e1,aD,bH⟩:=PB ops.toList cE s s2 aT hC DQ b5;have Ks:=Qp (ops:=ops) ops.toList [] (fun i I ah=>by simpa using ah) (fun k i aZ=>by simp at aZ);have nJ:=QM hC (Dm ops.toList []) 0 Gy;refine wp_region_any qK ?_
  refine Z9 (jU:=s) (l3:=aT) (hC:=hC) (by simpa using e1) (fun i x U=>by
   obtain⟨f1,f2,f0,f3,f4⟩:=bH i x U;exact⟨by simpa using f1,f2,f0,f3,f4⟩) (fun x U p ae=>bm p (by rw[List.mem_flatMap];exact⟨x,U,ae⟩)) (fun i j x y qQ U aR a8=> ?_) (fun i I ah e he aL=> ?_) (fun bL dU bJ cF=>vW bL dU bJ (by rw[aD];exact cF))
   ops.size _ ax a _ (by simp) ?_ ?_ ?_
  ·obtain⟨f1,-⟩:=nJ j y aR;have dY:(hC.take (0+j))[i]? = some x:=(by rw[ahZ,dw (by omega)];exact U);have:=PZ _ 0 f1 i x dY a8;rw[dF] at this;exact Ks j i this
  ·have ab:i<hC.length:=by
    rw[e1];have:=(ah3.1 ah).1;simpa using this
   have U:=dx ab;obtain⟨f1,-⟩:=bH i _ U;have Bb:ops[i]? = some (hC[i]).I:=(by simpa using f1);rw[ah] at Bb;simp at Bb;obtain⟨-,f2⟩:=nJ i _ U;have:=f2 e (by rw[<- Bb];exact he) aL;omega
  ·unfold wZ;have:(Array.replicate ops.size false).toList=List.replicate ops.size false:=(by simp);rw[this,List.countP_replicate];simp
  ·intro i j au;simp[ah0,Array.getElem?_replicate] at au;split at au<;>simp at au
  have e:hZ hC (fun i=>(Array.replicate ops.size false).getD i false) 0 s=s:=by
   rw[CC hC _ (fun _=>false) 0 s (fun i _=>by simp[ah0,Array.getElem?_replicate];split<;>simp)]
   have cj : ∀(l:List Rec) (n:Nat),hZ l (fun _=>false) n s=s:=by
    intro l
    induction l with
    | nil=>intro n;rfl
    | cons x l ih=>intro n;simp only[hZ,ah2,if_false];exact ih _
   exact cj _ _
  rw[e];exact ai.drew
def Be:List (Nat×ay)->Nat->ay
 | [],_=> .dead
 | (u,v)::l,t=>if t=u then v else Be l t
def db (env:List (Nat×ay))(rows:List (List aU)):S:={E:=Be env,aM:=fun r=>rows[r]?}
theorem w8 (env:List (Nat×ay))(rows:List (List aU)):(db env rows).k5 rows.length:=by intro r ai;simp[db,ai]
def Ax (row:List aU):Prop:= ∀I∈row,jA I.es
def nP (l:List Nat):g9:=fun j i=>match l[j]? with
 | some r=>some (r,i)
 | none=>none
def Bf (aW:g9)(x cN:ay):Prop :=
 (cN=x/\x.jg=true)\/(∃r k bE len j i,x = .bu r k bE len/\aW j i=some (r,k)/\cN = .bu j i bE len)\/cN = .dead \/
   ∃r c sz h j d6,x = .jj r c sz h/\(∀k,aW j (k+d6)=some (r,k+c))/\cN = .jj j d6 sz h
def td (aW:g9)(row dV:List aU):Prop :=
 dV.length=row.length/\ ∀(k:Nat) I b3,row[k]? = some I->dV[k]? = some b3->b3.sz=I.sz/\b3.cl=I.cl/\b3.es.length=I.es.length/\(∀e∈b3.es,e.length=I.sz) /\
  ∀(j:Nat) x cN,I.es.flatten[j]? = some x->b3.es.flatten[j]? = some cN->Bf aW x cN
def rr (aM:Nat->Option (List aU))(b4:Nat->Option Nat)(aW:g9)(bU:gB->Bool):iO->List aU->Option (List aU×List Prop)
 | .pure,row=>some (row,[Ax row])
 | .cw dV,row=>some (dV,[row=dV,Ax dV])
 | .b0 dV,row=>some (dV,[dV=row.map (j1 b4)])
 | .rx dV,row=>some (dV,[td aW row dV])
 | .drop,row=>some (row.map sb,[])
 | .box l,[I]=>match I.es with
  | [c]=>match me (mc aM b4 aW bU) l c with
   | some (d6,af)=>some ([{I with es:=[d6]}],af)
   | none=>none
  | _=>none
 | _,_=>none
def ue (aM:Nat->Option (List aU))(b4:Nat->Option Nat)(aW:g9):List Nat->List iO->Option (List (List aU)×List Prop)
 | [],[]=>some ([],[])
 | r::l,c::dd=>match aM r with
  | some row=>match rr aM b4 aW k9 c row,ue aM b4 aW l dd with
   | some (dV,bY),some (T,aN)=>some (dV::T,bY++aN)
   | _,_=>none
  | none=>none
 | _,_=>none
def Dn (aM:Nat->Option (List aU))(b4:Nat->Option Nat)(aW:g9)(E:Nat->ay):List (Nat×lI)->Option (List (Nat×ay)×List Prop)
 | []=>some ([],[])
 | (t,c)::l=>match oB aM b4 aW k9 c (E t),Dn aM b4 aW E l with
  | some (v,bY),some (env,aN)=>some ((t,v)::env,bY++aN)
  | _,_=>none
def Dp (aW:List Nat)(m:Nat):Bool:=(List.range m).all fun j=>aW[j]? == some j
def Gm (m:Nat)(s:S)(aW:List Nat)(dd:List iO)(oT:List (Nat×lI)):Option (S×Nat×List Prop) :=
 if decide aW.Nodup && Dp aW m then
  match ue s.aM (cK aW) (nP aW) aW dd,Dn s.aM (cK aW) (nP aW) s.E oT with
  | some (T,bY),some (env,aN)=>some (db env T,T.length,bY++aN)
  | _,_=>none
 else none
section
variable {P:Program} {g:G} {s:S} {ax:fz} {a:Act} {w:World}
theorem Js (er:iK g s ax w){aW:g9}{b4:Nat->Option Nat}{bU:gB->Bool}(H:ns s aW b4 bU){c:iO}{r:Nat}{kw:Nat->Nat}{row dV:List aU}{af:List Prop}(dh:∀k I,df (some row) k=some I->s.af r (kw k)=some I)
 (h:rr s.aM b4 aW bU c row=some (dV,af)) (bm : ∀p∈af,p) :
 dV.length=row.length/\ ∀(k:Nat) b3,df (some dV) k=some b3-> ∃I,df (some row) k=some I/\pb s aW bU mJ I b3:=by
 have hlen : ∀k I,df (some row) k=some I-> ∀e∈I.es,e.length=I.sz:=by
  intro k I ah;have ea:s.af r (kw k)=some I:=dh k I ah;have fP:=er.obj r (kw k) I ea
  cases ae:ax r (kw k) with
  | none=>rw[ae] at fP;simp only[jr] at fP;rw[fP];simp
  | some q=>rw[ae] at fP;obtain⟨_,_,_,_,e,_⟩:=fP;exact e
 have ua:Ax row-> ∀(k:Nat) b3,df (some row) k=some b3-> ∃I,df (some row) k=some I/\pb s aW bU mJ I b3:=by
  intro ae
  have ry : ∀k I,df (some row) k=some I->I∈row:=by
   intro k I ah;unfold df at ah;simp only at ah;split at ah
   ·rename_i b3 ea
    split at ah
    ·simp at ah
    simp at ah;subst ah;exact dH ea
   simp at ah
  refine fun k I ah=>⟨I,ah,rfl,.inl rfl,rfl,hlen k I ah,fun j x cN U dY=> ?_⟩;rw[U] at dY;simp at dY;subst dY;obtain⟨e,he,rD⟩:=tH U;exact .pure (ae I (ry k I ah) e he x rD) trivial
 cases c with
 | pure =>
  simp only[rr,dz,dD] at h;obtain⟨rfl,rfl⟩:=h;exact⟨rfl,ua (bm _ (by simp))⟩
 | cw aJ =>
  simp only[rr,dz,dD] at h;obtain⟨rfl,rfl⟩:=h;have e:row=aJ:=bm _ (by simp);subst e;exact⟨rfl,ua (bm _ (by simp))⟩
 | b0 aJ =>
  simp only[rr,dz,dD] at h;obtain⟨rfl,rfl⟩:=h;have e:aJ=row.map (j1 b4):=bm _ (by simp);subst e;exact⟨by simp,Sl er H dh (fun _ _ _ _ _ _ _=>trivial)⟩
 | rx aJ =>
  simp only[rr,dz,dD] at h;obtain⟨rfl,rfl⟩:=h;obtain⟨h1,o⟩:td aW row aJ:=bm _ (by simp);refine⟨h1,fun k b3 ea=> ?_⟩;rw[kP] at ea
  cases nL:aJ[k]? with
  | none=>rw[nL] at ea;simp at ea
  | some kI =>
   rw[nL,dB] at ea;split at ea
   ·simp at ea
   rename_i dj;simp only[dz] at ea;subst ea;have dZ:k<row.length:=(by have:=gi nL;omega);have aZ:=dx dZ;obtain⟨q1,a0,bQ,cr,dk⟩:=o k _ _ aZ nL;have ah:df (some row) k=some row[k]:=(by rw[kP,aZ,dB,dA (by rw[<- a0];exact dj)]);refine⟨_,ah,q1,.inl a0,bQ,cr,fun j x cN U dY=> ?_⟩;have fP:=er.obj r (kw k) _ (dh k _ ah)
   cases ae:ax r (kw k) with
   | none=>rw[ae] at fP;simp only[jr] at fP;rw[fP] at U;simp at U
   | some uN =>
    obtain⟨b,m⟩:=uN;rw[ae] at fP;obtain⟨c,eB,f1,f2,f3,f4⟩:=fP;obtain⟨u,l6,oS,hp⟩:=f4 j x U;rcases dk j x cN U dY with ⟨rfl,aX⟩|⟨bM,i4,bE,len,yf,qo,rfl,hm,rfl⟩|rfl|⟨bM,b8,S8,o,yf,jI,rfl,hm,rfl⟩
    ·exact .pure (hp.AQ aX) trivial
    ·exact .bu bE len hm (by cases hp<;>assumption)
    ·exact .dead _
    exact .jj o hm
 | drop =>
  simp only[rr,dz,dD] at h;obtain⟨rfl,rfl⟩:=h;refine⟨by simp,fun k I ah=> ?_⟩;rw[kP,dK] at ah;cases aZ:row[k]? <;> simp[aZ,sb] at ah
 | box l =>
  match row,h with
  | [I],h =>
   simp only[rr] at h;split at h;rotate_left
   ·simp at h
   rename_i c h5;split at h;rotate_left
   ·simp at h
   rename_i d6 oi a8;simp only[dz,dD] at h;obtain⟨rfl,rfl⟩:=h;refine⟨rfl,fun k p ae=> ?_⟩;rw[mR] at ae;split at ae;rotate_left
   ·simp at ae
   rename_i uu;obtain⟨rfl,nN⟩:=uu;simp only[dz] at ae;subst ae;have h0:df (some [I]) 0=some I:=(by rw[mR];simpa using nN);refine⟨I,h0,?_⟩;have ea:s.af r (kw 0)=some I:=dh 0 I h0;have fP:=er.obj r (kw 0) I ea
   cases kS:ax r (kw 0) with
   | none=>rw[kS] at fP;simp only[jr] at fP;rw[h5] at fP;simp at fP
   | some q =>
    obtain⟨b,m⟩:=q;rw[kS] at fP;obtain⟨cf,eB,g1,g2,g3,g4⟩:=fP;have Kr:c.length=I.sz:=g3 c (by rw[h5];simp);have j0:I.es.flatten=c:=(by rw[h5];simp);obtain⟨e1,aD⟩:=CO (vs:=(List.range c.length).map fun j=>(cf[j]?).getD undef) er H (vK _) a8 bm (fun _ _=>trivial) (by simp) (by intro j y u aR hu;have au:=gi aR;rw[dK,List.getElem?_range au] at hu;simp only[dR,dz] at hu;obtain⟨q3,l6,-,hp⟩:=g4 j y (by rw[j0];exact aR);rw[l6] at hu;simp at hu;subst hu;exact hp);refine⟨rfl,.inl rfl,by simp[h5],by simp;omega,fun j x cN U dY=> ?_⟩;rw[j0] at U;simp only[ahW,List.flatten_nil,List.append_nil] at dY;exact aD j x cN U dY
  | [],h=>simp[rr] at h
  | _::_::_,h=>simp[rr] at h
theorem Jt (er:iK g s ax w){aW:g9}{b4:Nat->Option Nat}(H:ns s aW b4 k9): ∀(l:List Nat) (dd:List iO) (T:List (List aU)) (af:List Prop),
 ue s.aM b4 aW l dd=some (T,af)->(∀p∈af,p)->T.length=l.length/\ ∀(j:Nat) dV r,T[j]? = some dV->l[j]? = some r-> ∃row,s.aM r=some row/\dV.length=row.length /\
  ∀(k:Nat) b3,df (some dV) k=some b3-> ∃I,df (some row) k=some I/\pb s aW k9 mJ I b3
 | [],[],T,af,h,_=>by simp[ue] at h;obtain⟨rfl,rfl⟩:=h;exact⟨rfl,fun j dV r au=>by simp at au⟩
 | r::l,c::dd,T,af,h,bm=>by
  simp only[ue] at h;split at h
  ·rename_i row dh
   split at h
   ·rename_i aA bY nU aN h1 o
    simp only[dz,dD] at h;obtain⟨rfl,rfl⟩:=h;obtain⟨e1,aD⟩:=Jt er H l dd nU aN o (fun p ae=>bm p (by simp[ae]));have f2:=Js (kw:=id) er H (fun k I ah=>by unfold S.af;rw[dh];exact ah) h1 (fun p ae=>bm p (by simp[ae]));refine⟨by simp[e1],fun j dV q au a1=> ?_⟩
    cases j with
    | zero=>simp at au a1;subst au;subst a1;exact⟨row,dh,f2.1,f2.2⟩
    | succ j=>simp at au a1;exact aD j dV q au a1
   simp at h
  simp at h
 | [],_::_,_,_,h,_=>by simp[ue] at h
 | _::_,[],_,_,h,_=>by simp[ue] at h
theorem QN (h:cB g s ax a w){aW:g9}{b4:Nat->Option Nat}(H:ns s aW b4 k9): ∀(l:List (Nat×lI)) (env:List (Nat×ay)) (af:List Prop),
 Dn s.aM b4 aW s.E l=some (env,af)->(∀p∈af,p)-> ∀t,im s aW k9 mJ (s.E t) (Be env t)
 | [],env,af,ai,_=>by simp[Dn] at ai;obtain⟨rfl,rfl⟩:=ai;intro t;exact .dead _
 | (u,c)::l,env,af,ai,bm=>by
  simp only[Dn] at ai;split at ai
  ·rename_i v bY Kt aN h1 o
   simp only[dz,dD] at ai;obtain⟨rfl,rfl⟩:=ai;have ih:=QN h H l Kt aN o (fun p ae=>bm p (by simp[ae]));intro t;unfold Be;split
   ·rename_i e;subst e;exact CS h.toiK H (vK _) h1 (fun p ae=>bm p (by simp[ae])) trivial (h.env t)
   exact ih t
  simp at ai
theorem xb {l:List Nat}{j i r k:Nat}:nP l j i=some (r,k)↔l[j]? = some r/\i=k:=by unfold nP;cases l[j]? <;> simp
theorem Gn {aW:List Nat}(aX:aW.Nodup):ns s (nP aW) (cK aW) k9 :=
 ⟨fun _ _ h _=>xb.2 ⟨PQ h,rfl⟩,fun _ ai _ _ _ _ _ _ hm=>by rw[PR aX (xb.1 hm).1] at ai;simp at ai⟩
theorem RQ {aW:List Nat} (hnd:aW.Nodup) {T:List (List aU)} (e1:T.length=aW.length) (aD : ∀(j:Nat) dV r,T[j]? = some dV->aW[j]? = some r-> ∃row,s.aM r=some row/\dV.length=row.length /\
 ∀(k:Nat) b3,df (some dV) k=some b3-> ∃I,df (some row) k=some I/\pb s (nP aW) k9 mJ I b3):qP s (nP aW) k9 mJ (fun j=>T[j]?):=by
 refine⟨?_,?_,?_⟩
 ·intro j i iC eG p e ez;obtain⟨r,k⟩:=p;obtain⟨gU,rfl⟩:=xb.1 e;obtain⟨h7,rfl⟩:=xb.1 ez;exact⟨(List.getElem?_inj (gi gU) hnd).1 (gU.trans h7.symm),rfl⟩
 ·intro j i b3 ea
  have ea:df (T[j]?) i=some b3:=ea
  cases au:T[j]? with
  | none=>rw[au] at ea;simp[df] at ea
  | some dV =>
   rw[au] at ea;have dZ:j<aW.length:=(by have:=gi au;omega);have a1:=dx dZ;obtain⟨row,f1,-,f2⟩:=aD j dV _ au a1;obtain⟨I,g1,g2⟩:=f2 i b3 ea;exact⟨_,i,I,xb.2 ⟨a1,rfl⟩,by unfold S.af;rw[f1];exact g1,g2⟩
 intro j i r k e hu;obtain⟨gU,rfl⟩:=xb.1 e;have dZ:j<T.length:=by have:=gi gU;omega
 obtain⟨row,f1,f2,-⟩:=aD j _ r (dx dZ) gU;show i<((T[j]?).getD []).length;rw[dx dZ];show i<T[j].length;rw[f2];simpa [S.a3,f1] using hu
theorem QO {aW:List Nat}{g:G}(er:iK g s ax w)(sn:Dp aW g.m=true): ∀j k,g.pJ j k->nP aW j k=some (j,k):=by intro j k au;unfold Dp at sn;have:=List.all_eq_true.1 sn j (List.mem_range.2 (er.low j k au));exact xb.2 ⟨by simpa using this,rfl⟩
theorem aa5 (h:cB g s ax a w){aW:List Nat}{dd:List iO}{oT:List (Nat×lI)}{bS:S}{n:Nat}{af:List Prop}(ai:Gm g.m s aW dd oT=some (bS,n,af))(bm:∀p∈af,p):
 bS.k5 n/\cB g bS (ka ax (nP aW)) a w:=by
 unfold Gm at ai;split at ai
 ·rename_i a8
  simp only[ahU,decide_eq_true_eq] at a8;obtain⟨hnd,sn⟩:=a8;split at ai
  ·rename_i T bY env aN h1 o;simp only[dz,dD] at ai;obtain⟨rfl,rfl,rfl⟩:=ai;refine⟨w8 _ _,?_⟩;obtain⟨e1,aD⟩:=Jt h.toiK (Gn hnd) aW dd T bY h1 (fun p ae=>bm p (by simp[ae]));refine h.Rl (aW:=nP aW) (q:=mJ) (RQ hnd e1 aD) (QN h (Gn hnd) oT env aN o (fun p ae=>bm p (by simp[ae]))) (QO h.toiK sn)
  simp at ai
 simp at ai
def jl (l:List m6):g9:=fun j i=>match l[j]? with
 | some ev=>if i<ev.bF.length then ev.bF[i]? else (match ev.kl with
  | some (r,n)=>some (r,i-ev.bF.length+n)
  | none=>none)
 | none=>none
def vx (n:Nat):List m6->Nat->Option Nat
 | [],_=>none
 | ev::l,r=>if ev={bF:=[],kl:=some (r,0)} then some n else vx (n+1) l r
def vn (r k:Nat)(ev:m6):Bool:=ev.bF.contains (r,k) || (match ev.kl with|some (q,n)=>q == r && decide (n<=k)|none=>false)
def JR (ev:m6):Bool:=decide ev.bF.Nodup && ev.bF.all fun p=>match ev.kl with|some (q,n)=> !(q == p.1 && decide (n<=p.2))|none=>true
def FT (a b:m6):Bool:=(a.bF.all fun p=> !vn p.1 p.2 b) && (b.bF.all fun p=> !vn p.1 p.2 a) && (match a.kl,b.kl with|some (q,_),some (il,_)=> !(q == il)|_,_=>true)
def Dd:List m6->Bool
 | []=>true
 | a::l=>JR a && l.all (FT a) && Dd l
def RR (l:List m6)(m:Nat):Bool:=(List.range m).all fun j=>l[j]? == some {bF:=[],kl:=some (j,0)}
def xt (aM:Nat->Option (List aU))(b4:Nat->Option Nat)(aW:g9):List (Nat×Nat)->List iO->Option (List aU×List Prop)
 | [],[]=>some ([],[])
 | (r,k)::l,c::dd=>match df (aM r) k with
  | some I=>match rr aM b4 aW lk c [I],xt aM b4 aW l dd with
   | some ([b3],bY),some (T,aN)=>some (b3::T,bY++aN)
   | _,_=>none
  | none=>none
 | _,_=>none
def AS (aM:Nat->Option (List aU))(b4:Nat->Option Nat)(aW:g9):Option (Nat×Nat)->Option iO->Option (List aU×List Prop)
 | none,none=>some ([],[])
 | some (r,n),some c=>match aM r with
  | some row=>rr aM b4 aW lk c (row.drop n)
  | none=>none
 | _,_=>none
def xu (aM:Nat->Option (List aU))(b4:Nat->Option Nat)(aW:g9):List m6->List (List iO×Option iO)->Option (List (List aU)×List Prop)
 | [],[]=>some ([],[])
 | ev::l,(LO,Ub)::dd=>match xt aM b4 aW ev.bF LO,AS aM b4 aW ev.kl Ub,xu aM b4 aW l dd with
  | some (a,bY),some (b,aN),some (T,fA)=>some ((a++b)::T,bY++aN++fA)
  | _,_,_=>none
 | _,_=>none
def De (aM:Nat->Option (List aU))(b4:Nat->Option Nat)(aW:g9)(E:Nat->ay):List (Nat×lI)->Option (List (Nat×ay)×List Prop)
 | []=>some ([],[])
 | (t,c)::l=>match oB aM b4 aW lk c (E t),De aM b4 aW E l with
  | some (v,bY),some (env,aN)=>some ((t,v)::env,bY++aN)
  | _,_=>none
def Gb (m:Nat)(s:S)(l:List m6)(dd:List (List iO×Option iO))(oT:List (Nat×lI)):Option (S×Nat×List Prop) :=
 if Dd l && RR l m then
  match xu s.aM (vx 0 l) (jl l) l dd,De s.aM (vx 0 l) (jl l) s.E oT with
  | some (T,bY),some (env,aN)=>some (db env T,T.length,bY++aN)
  | _,_=>none
 else none
theorem JS {l:List m6}{j i r k:Nat}(h:jl l j i=some (r,k)): ∃ev,l[j]? = some ev/\vn r k ev=true/\(if i<ev.bF.length then ev.bF[i]? = some (r,k) else ∃n,ev.kl=some (r,n)/\k=i-ev.bF.length+n):=by
 unfold jl at h
 cases au:l[j]? with
 | none=>rw[au] at h;simp at h
 | some ev =>
  rw[au] at h;simp only at h;refine⟨ev,rfl,?_⟩;split at h
  ·rename_i dZ;rw[dw dZ];exact⟨by unfold vn;simp[dH h],h⟩
  rename_i dZ;rw[dA dZ];split at h
  ·rename_i eQ n cb;simp only[dz,dD] at h;obtain⟨rfl,rfl⟩:=h;exact⟨by unfold vn;simp[cb],n,cb,rfl⟩
  simp at h
theorem Qq : ∀ {l:List m6},Dd l=true->(∀(j:Nat) a,l[j]? = some a->JR a=true)/\ ∀(i j:Nat) a b,i<j->l[i]? = some a->l[j]? = some b->FT a b=true
 | [],_=>⟨fun j a h=>by simp at h,fun i j a b _ h=>by simp at h⟩
 | c::l,h=>by
  simp only[Dd,ahU] at h;obtain⟨⟨h1,o⟩,aa⟩:=h;obtain⟨e1,aD⟩:=Qq aa;refine⟨fun j a au=> ?_,fun i j a b qQ bC aL=> ?_⟩
  ·cases j with
   | zero=>simp at au;subst au;exact h1
   | succ j=>exact e1 j a (by simpa using au)
  cases j with
  | zero=>omega
  | succ j =>
   simp at aL
   cases i with
   | zero=>simp at bC;subst bC;exact List.all_eq_true.1 o b (dH aL)
   | succ i=>exact aD i j a b (by omega) (by simpa using bC) aL
theorem PC {a b:m6}{r k:Nat}(h:FT a b=true)(bC:vn r k a=true)(aL:vn r k b=true):False:=by
 simp only[FT,ahU,List.all_eq_true] at h;obtain⟨⟨h1,o⟩,aa⟩:=h;have Tg:=bC;have qi:=aL;simp only[vn,Bool.or_eq_true,List.contains_iff_mem] at bC aL;rcases bC with bC|bC
 ·have:=h1 _ bC;simp[qi] at this
 rcases aL with aL|aL
 ·have:=o _ aL;simp[Tg] at this
 cases e1:a.kl with
 | none=>rw[e1] at bC;simp at bC
 | some p =>
  obtain⟨q,n⟩:=p
  cases aD:b.kl with
  | none=>rw[aD] at aL;simp at aL
  | some kI =>
   obtain⟨il,nT⟩:=kI;rw[e1] at bC;rw[aD] at aL;rw[e1,aD] at aa;simp at bC aL aa;exact aa (bC.1.trans aL.1.symm)
theorem abU {l:List m6}(aO:Dd l=true): ∀j i iC eG p,jl l j i=some p->jl l iC eG=some p->j=iC/\i=eG:=by
 intro j i iC eG p h cF;obtain⟨r,k⟩:=p;obtain⟨ev,gU,h7,c0⟩:=JS h;obtain⟨G0,jo,ks,ye⟩:=JS cF;obtain⟨e1,aD⟩:=Qq aO
 have au:j=iC:=by
  rcases Nat.lt_trichotomy j iC with e|e|e
  ·exact(PC (aD j iC ev G0 e gU jo) h7 ks).elim
  ·exact e
  exact(PC (aD iC j G0 ev e jo gU) ks h7).elim
 subst au;rw[gU] at jo;simp at jo;subst jo;refine⟨rfl,?_⟩;have h1:=e1 j ev gU;simp only[JR,ahU,decide_eq_true_eq,List.all_eq_true] at h1;obtain⟨n1,kL⟩:=h1;split at c0<;>split at ye
 ·exact(List.getElem?_inj (by assumption) n1).1 (c0.trans ye.symm)
 ·obtain⟨n,t1,t2⟩:=ye;have:=kL _ (dH c0);rw[t1] at this;simp at this;omega
 ·obtain⟨n,t1,t2⟩:=c0;have:=kL _ (dH ye);rw[t1] at this;simp at this;omega
 obtain⟨n,t1,t2⟩:=c0;obtain⟨nT,Th,ag4⟩:=ye;rw[t1] at Th;simp at Th;omega
theorem Qr : ∀ {l:List m6} {n r j:Nat},vx n l r=some j->n<=j/\l[j-n]? = some {bF:=[],kl:=some (r,0)}
 | [],_,_,_,h=>by simp[vx] at h
 | ev::l,n,r,j,h=>by
  simp only[vx] at h;split at h
  ·rename_i e;simp at h;subst h;exact⟨dG _,by simp[e]⟩
  obtain⟨h1,o⟩:=Qr h;exact⟨by omega,by rw[show j-n=(j-(n+1))+1 by omega,List.getElem?_cons_succ];exact o⟩
theorem SK (l:List m6):ns s (jl l) (vx 0 l) lk:=by refine⟨fun r j au k=> ?_,fun _ _ _ _ _ bC=>by simp[lk] at bC⟩;obtain⟨-,o⟩:=Qr au;simp only[jl,show l[j]? = some {bF:=[],kl:=some (r,0)} by simpa using o];simp
theorem QP (er:iK g s ax w){aW:g9}{b4:Nat->Option Nat}(H:ns s aW b4 lk): ∀(l:List (Nat×Nat)) (dd:List iO) (T:List aU) (af:List Prop),
 xt s.aM b4 aW l dd=some (T,af)->(∀p∈af,p)->T.length=l.length/\ ∀(i:Nat) b3,df (some T) i=some b3-> ∃r k I,l[i]? = some (r,k)/\s.af r k=some I/\pb s aW lk mJ I b3
 | [],[],T,af,h,_=>by simp[xt] at h;obtain⟨rfl,rfl⟩:=h;exact⟨rfl,fun i b3 ah=>by simp[df] at ah⟩
 | (r,k)::l,c::dd,T,af,h,bm=>by
  simp only[xt] at h;split at h;rotate_left
  ·simp at h
  rename_i I ah;split at h;rotate_left
  ·simp at h
  rename_i p bY nU aN h1 o;simp only[dz,dD] at h;obtain⟨rfl,rfl⟩:=h;obtain⟨e1,aD⟩:=QP er H l dd nU aN o (fun p ae=>bm p (by simp[ae]))
  have mB : ∀dc b3,df (some [I]) dc=some b3->b3=I:=fun dc b3 aZ=>by
   rw[mR] at aZ;split at aZ
   ·simp at aZ;exact aZ.symm
   simp at aZ
  have ea:s.af r k=some I:=ah;obtain⟨f0,f1⟩:=Js (r:=r) (kw:=fun _=>k) er H (fun dc b3 aZ=>by rw[mB dc b3 aZ];exact ea) h1 (fun p ae=>bm p (by simp[ae]));refine⟨by simp[e1],fun i b3 ab=> ?_⟩
  cases i with
  | zero =>
   have ab:df (some [p]) 0=some b3:=(by rw[kP] at ab ⊢;simpa using ab);obtain⟨aN,g1,g2⟩:=f1 0 b3 ab;rw[mB 0 aN g1] at g2;exact⟨r,k,I,rfl,ea,g2⟩
  | succ i =>
   have ab:df (some nU) i=some b3:=(by rw[kP] at ab ⊢;simpa using ab);obtain⟨eQ,dc,aN,g1,g2,g3⟩:=aD i b3 ab;exact⟨eQ,dc,aN,by simpa using g1,g2,g3⟩
 | [],_::_,_,_,h,_=>by simp[xt] at h
 | _::_,[],_,_,h,_=>by simp[xt] at h
theorem aa6 (er:iK g s ax w){aW:g9}{b4:Nat->Option Nat}(H:ns s aW b4 lk){kl:Option (Nat×Nat)}{dd:Option iO}{T:List aU}{af:List Prop}
 (h:AS s.aM b4 aW kl dd=some (T,af)) (bm : ∀p∈af,p):(∀r n k,kl=some (r,n)->s.a3 r (k+n)->k<T.length) /\
   ∀(i:Nat) b3,df (some T) i=some b3-> ∃r n I,kl=some (r,n)/\s.af r (i+n)=some I/\pb s aW lk mJ I b3:=by
 cases kl with
 | none =>
  cases dd with
  | none =>
   simp[AS] at h;obtain⟨rfl,rfl⟩:=h;exact⟨fun r n k e=>by simp at e,fun i b3 ah=>by simp[df] at ah⟩
  | some c=>simp[AS] at h
 | some p =>
  obtain⟨r,n⟩:=p
  cases dd with
  | none=>simp[AS] at h
  | some c =>
   simp only[AS] at h;split at h
   ·rename_i row dh
    have bF : ∀k I,df (some (row.drop n)) k=some I->s.af r (k+n)=some I:=fun k I ah=>(by unfold S.af;rw[dh,kP];rw[kP,ah5] at ah;rw[Nat.add_comm];exact ah);obtain⟨f0,f1⟩:=Js (r:=r) (kw:=fun k=>k+n) er H bF h bm;refine⟨fun eQ nT k e aZ=> ?_,fun i b3 ah=> ?_⟩
    ·simp only[dz,dD] at e;obtain⟨rfl,rfl⟩:=e;rw[f0,List.length_drop];simp[S.a3,dh] at aZ;omega
    obtain⟨I,g1,g2⟩:=f1 i b3 ah;exact⟨r,n,I,rfl,bF i I g1,g2⟩
   simp at h
theorem Y3 {a b:List aU}{i:Nat}:df (some (a++b)) i=if i<a.length then df (some a) i else df (some b) (i-a.length):=by rw[kP,kP,kP,List.getElem?_append];split<;>rfl
theorem QQ (er:iK g s ax w){aW:g9}{b4:Nat->Option Nat}(H:ns s aW b4 lk): ∀(l:List m6) (dd:List (List iO×Option iO)) (T:List (List aU)) (af:List Prop),
 xu s.aM b4 aW l dd=some (T,af)->(∀p∈af,p)->T.length=l.length/\ ∀(j:Nat) dV ev,T[j]? = some dV->l[j]? = some ev ->
  (ev.bF.length<=dV.length)/\(∀r n k,ev.kl=some (r,n)->s.a3 r (k+n)->k+ev.bF.length<dV.length) /\
  ∀(i:Nat) b3,df (some dV) i=some b3-> ∃r k I,(if i<ev.bF.length then ev.bF[i]? = some (r,k) else ∃n,ev.kl=some (r,n)/\k=i-ev.bF.length+n)/\s.af r k=some I/\pb s aW lk mJ I b3
 | [],[],T,af,h,_=>by simp[xu] at h;obtain⟨rfl,rfl⟩:=h;exact⟨rfl,fun j dV ev au=>by simp at au⟩
 | ev::l,(LO,Ub)::dd,T,af,h,bm=>by
  simp only[xu] at h;split at h;rotate_left
  ·simp at h
  rename_i a bY b aN nU fA h1 o aa;simp only[dz,dD] at h;obtain⟨rfl,rfl⟩:=h;obtain⟨e1,aD⟩:=QQ er H l dd nU fA aa (fun p ae=>bm p (by simp[ae]));obtain⟨f1,f2⟩:=QP er H ev.bF LO a bY h1 (fun p ae=>bm p (by simp[ae]));obtain⟨g1,g2⟩:=aa6 er H o (fun p ae=>bm p (by simp[ae]));refine⟨by simp[e1],fun j dV G0 au qR=> ?_⟩
  cases j with
  | zero =>
   simp at au qR;subst au;subst qR;refine⟨by simp[f1],fun r n k e aZ=> ?_,fun i b3 ah=> ?_⟩
   ·have:=g1 r n k e aZ;simp[f1];omega
   rw[Y3,f1] at ah;split at ah
   ·rename_i dZ;obtain⟨r,k,I,q1,a0,bQ⟩:=f2 i b3 ah;exact⟨r,k,I,by rw[dw dZ];exact q1,a0,bQ⟩
   rename_i dZ;obtain⟨r,n,I,q1,a0,bQ⟩:=g2 _ b3 ah;exact⟨r,_,I,by rw[dA dZ];exact⟨n,q1,rfl⟩,a0,bQ⟩
  | succ j=>simp at au qR;exact aD j dV G0 au qR
 | [],_::_,_,_,h,_=>by simp[xu] at h
 | _::_,[],_,_,h,_=>by simp[xu] at h
theorem Qs (h:cB g s ax a w){aW:g9}{b4:Nat->Option Nat}(H:ns s aW b4 lk): ∀(l:List (Nat×lI)) (env:List (Nat×ay)) (af:List Prop),
 De s.aM b4 aW s.E l=some (env,af)->(∀p∈af,p)-> ∀t,im s aW lk mJ (s.E t) (Be env t)
 | [],env,af,ai,_=>by simp[De] at ai;obtain⟨rfl,rfl⟩:=ai;intro t;exact .dead _
 | (u,c)::l,env,af,ai,bm=>by
  simp only[De] at ai;split at ai
  ·rename_i v bY Kt aN h1 o
   simp only[dz,dD] at ai;obtain⟨rfl,rfl⟩:=ai;have ih:=Qs h H l Kt aN o (fun p ae=>bm p (by simp[ae]));intro t;unfold Be;split
   ·rename_i e;subst e;exact CS h.toiK H (vK _) h1 (fun p ae=>bm p (by simp[ae])) trivial (h.env t)
   exact ih t
  simp at ai
theorem im.wide {aW:g9}{bU Ti:gB->Bool}{q:ay->Prop}(h:∀k,bU k=true->Ti k=true){x cN:ay}(bX:im s aW bU q x cN):im s aW Ti q x cN:=by
 induction bX with
 | dead x=>exact .dead x
 | pure ae a1=>exact .pure ae a1
 | fs sz=>exact .fs sz
 | iV sz=>exact .iV sz
 | Gi sz=>exact .Gi sz
 | kr h ih=>exact .kr ih
 | ref i off hm hu=>exact .ref i off hm hu
 | bu bE len hm hu=>exact .bu bE len hm hu
 | nC r c sz=>exact .nC r c sz
 | oF h ih=>exact .oF ih
 | jj h hm=>exact .jj h hm
 | fi i off ah bC ai cU ae hle aO gf ih=>exact .fi i off ah (h _ bC) ai cU ae hle aO ih
 | isl ah bC ai iS ae hle aO gf ih=>exact .isl ah (h _ bC) ai iS ae hle aO ih
 | agg aO gf ih=>exact .agg aO ih
 | d9 aO gf ih=>exact .d9 aO ih
 | fn aO gf ih=>exact .fn aO ih
theorem aaa (h:cB g s ax a w){l:List m6}{dd:List (List iO×Option iO)}{oT:List (Nat×lI)}{bS:S}{n:Nat}{af:List Prop}(ai:Gb g.m s l dd oT=some (bS,n,af))(bm:∀p∈af,p):
 bS.k5 n/\cB g bS (ka ax (jl l)) a w:=by
 unfold Gb at ai;split at ai;rotate_left
 ·simp at ai
 rename_i a8;simp only[ahU] at a8;obtain⟨nJ,sn⟩:=a8;split at ai;rotate_left
 ·simp at ai
 rename_i T bY env aN h1 o;simp only[dz,dD] at ai;obtain⟨rfl,rfl,rfl⟩:=ai;refine⟨w8 _ _,?_⟩;obtain⟨e1,aD⟩:=QQ h.toiK (SK l) l dd T bY h1 (fun p ae=>bm p (by simp[ae]));have en:=Qs h (SK l) oT env aN o (fun p ae=>bm p (by simp[ae]));refine h.Rl (aW:=jl l) (q:=mJ) ⟨abU nJ,?_,?_⟩ (fun t=>(en t).wide fun _ bC=>by simp[lk] at bC) ?_
 ·intro j i b3 ea
  have ea:df (T[j]?) i=some b3:=ea
  cases au:T[j]? with
  | none=>rw[au] at ea;simp[df] at ea
  | some dV =>
   rw[au] at ea;have dZ:j<l.length:=(by have:=gi au;omega);have a1:=dx dZ;obtain⟨r,k,I,g1,g2,g3⟩:=(aD j dV _ au a1).2.2 i b3 ea;refine⟨r,k,I,?_,g2,⟨g3.sz,g3.cl,g3.len,g3.each,fun j x cN U dY=>(g3.at_ j x cN U dY).wide fun _ bC=>by simp[lk] at bC⟩⟩;simp only[jl,a1];split at g1
   ·rename_i aO;rw[dw aO];exact g1
   rename_i aO;rw[dA aO];obtain⟨n,t1,t2⟩:=g1;rw[t1,t2]
 ·intro j i r k e hu
  obtain⟨ev,gU,h7,c0⟩:=JS e;have dZ:j<T.length:=(by have:=gi gU;omega);obtain⟨jo,ks,-⟩:=aD j _ ev (dx dZ) gU;show i<((T[j]?).getD []).length;rw[dx dZ];show i<T[j].length;split at c0
  ·omega
  rename_i aO;obtain⟨n,t1,t2⟩:=c0;have:=ks r n (i-ev.bF.length) t1 (by rw[<- t2];exact hu);omega
 intro j k au;unfold RR at sn;have:=List.all_eq_true.1 sn j (List.mem_range.2 (h.low j k au));simp only[beq_iff_eq] at this;simp only[jl,this];simp
theorem cB.more (h:cB g s ax a w){aT:Nat}{row:List aU}(e4:s.aM aT=none)(dh:∀I∈row,I.es=[]):
 ∃bL,(∀k,bL aT k=none)/\cB g (s.setRow aT row) bL a w:=by
 let s2:=s.setRow aT row
 let bL:fz:=fun q k=>if q=aT then none else ax q k
 have cU : ∀q k,s.a3 q k->q≠aT:=by rintro q k a1 rfl;exact zW e4 k a1
 have cH : ∀q,q≠aT->s2.aM q=s.aM q:=fun q a1=>by simp[s2,S.setRow,a1]
 have aeo:s2.aM aT=some row:=by simp[s2,S.setRow]
 have Kn : ∀k I,s2.af aT k=some I->I.es=[]:=by
  intro k I ah;unfold S.af at ah;rw[aeo] at ah;unfold df at ah;simp only at ah;split at ah
  ·rename_i b3 ea
   split at ah
   ·simp at ah
   simp at ah;subst ah;exact dh _ (dH ea)
  simp at ah
 have bm : ∀q k,q≠aT->s2.af q k=s.af q k:=fun q k a1=>by unfold S.af;rw[cH q a1]
 have lV : ∀q k,q≠aT->s2.bd bL q k=s.bd ax q k:=fun q k a1=>by simp[S.bd,bm q k a1,bL,a1]
 have c3:Step g s ax w s2 bL w:=⟨fun q k a1=>by unfold S.a3;rw[cH q (cU q k a1)];exact a1,fun q k a1=> .inl (lV q k (cU q k a1)),fun b aO=>by
  obtain⟨q,k,I,m,h1,o,aa⟩:=aO;by_cases e:q=aT
  ·subst e;simp[bL] at aa
  rw[bm q k e] at h1;simp only[bL,dA e] at aa;exact .inl ⟨q,k,I,m,h1,o,aa⟩,fun _ _ _=>rfl,dG _⟩
 have er:iK g s2 bL w:=by
  refine⟨?_,?_,?_,h.gW,h.mlt,h.oe,?_,h.low⟩
  ·intro q k I ah
   by_cases e:q=aT
   ·subst e;simp only[bL,if_true,jr];exact Kn k I ah
   rw[bm q k e] at ah;have:=c3.obj (fun b m _=>rfl) (h.obj q k I ah);simpa [bL,e] using this
  ·intro q k I il dc b3 b m bi h1 o aa ao;have e:q≠aT:=(by rintro rfl;simp[bL] at aa);have ez:il≠aT:=(by rintro rfl;simp[bL] at ao);rw[bm q k e] at h1;rw[bm il dc ez] at o;simp only[bL,dA e] at aa;simp only[bL,dA ez] at ao;exact h.inj q k I il dc b3 b m bi h1 o aa ao
  ·intro q k I b m h1 o;have e:q≠aT:=(by rintro rfl;simp[bL] at o);rw[bm q k e] at h1;simp only[bL,dA e] at o;exact h.own q k I b m h1 o
  intro j k au;obtain⟨e1,aD⟩:=h.stay j k au;refine⟨by unfold S.a3;rw[cH j (cU j k e1)];exact e1,?_⟩;rw[lV j k (cU j k e1)];exact aD
 exact⟨bL,fun k=>by simp[bL],{toiK:=er,env:=fun u=>c3.rel (h.env u),defers:=h.defers,j9:=h.j9}⟩
theorem cB.acB (h:cB g s ax a w){r te:Nat}{cl:gB}{c d6:List ay}(dh:s.aM r=some [⟨te,[c],cl⟩])(aO:d6.length=c.length)
 (a8 : ∀(j:Nat) x cN,c[j]? = some x->d6[j]? = some cN-> ∀v,Rel w (s.ok g ax w) s.a3 (s.bd ax) x v->Rel w (s.ok g ax w) s.a3 (s.bd ax) cN v) :
 cB g (s.setRow r [⟨te,[d6],cl⟩]) ax a w:=by
 let s2:=s.setRow r [⟨te,[d6],cl⟩]
 have bm : ∀q k,s2.af q k=if q=r then (s.af q k).map (fun I=>{I with es:=[d6]}) else s.af q k:=by
  intro q k;show (s.setRow r _).af q k=_;rw[l9];split
  ·rename_i e;subst e;unfold S.af;rw[dh,mR,mR];split<;>rfl
  rfl
 have jP:s2.a3=s.a3:=by
  funext q k;show (s.setRow r _).a3 q k=_;refine propext ((n2 s r _ q k).trans ?_);split
  ·rename_i e;subst e;simp[S.a3,dh]
  rfl
 have lV:s2.bd ax=s.bd ax:=by
  funext q k;unfold S.bd;rw[bm];split
  ·cases s.af q k<;>rfl
  rfl
 have so:s2.mx ax=s.mx ax:=by
  funext b;unfold S.mx;refine propext ⟨fun ⟨q,k,I,m,h1,o,aa⟩=> ?_,fun ⟨q,k,I,m,h1,o,aa⟩=> ?_⟩
  ·rw[bm] at h1
   split at h1
   ·rw[dO] at h1;obtain⟨b3,ao,rfl⟩:=h1;exact⟨q,k,b3,m,ao,o,aa⟩
   exact⟨q,k,I,m,h1,o,aa⟩
  by_cases e:q=r
  ·exact⟨q,k,{I with es:=[d6]},m,by rw[bm,dw e,h1];rfl,o,aa⟩
  exact⟨q,k,I,m,by rw[bm,dA e];exact h1,o,aa⟩
 have nJ:s2.ok g ax w=s.ok g ax w:=by funext b;unfold S.ok;rw[so]
 have er:iK g s2 ax w:=by
  refine⟨?_,?_,?_,h.gW,h.mlt,h.oe,?_,h.low⟩
  ·intro q k I ah
   rw[nJ,jP,lV];rw[bm] at ah;split at ah;rotate_left
   ·exact h.obj q k I ah
   rename_i e;subst e;rw[dO] at ah;obtain⟨b3,ao,rfl⟩:=ah;have aC:=h.obj _ k b3 ao;have aS:b3=⟨te,[c],cl⟩:=(by unfold S.af at ao;rw[dh,mR] at ao;split at ao<;>simp at ao;exact ao.symm);subst aS
   cases ae:ax q k with
   | none=>rw[ae] at aC;simp[jr] at aC
   | some p =>
    rw[ae] at aC;obtain⟨afr,eB,g1,g2,g3,g4⟩:=aC;refine⟨afr,eB,g1,g2,fun e he=> ?_,fun j x U=> ?_⟩
    ·simp at he;subst he;rw[aO];exact g3 c (by simp)
    simp at U;have au:=gi U;have kT:=dx (show j<c.length by omega);obtain⟨v,v1,v2,v3⟩:=g4 j c[j] (by simp);exact⟨v,v1,v2,a8 j _ _ kT U v v3⟩
  ·intro q k I il dc b3 b m bi h1 o aa ao
   have e1 : ∃I,s.af q k=some I:=by
    rw[bm] at h1;split at h1
    ·rw[dO] at h1;obtain⟨b3,aC,-⟩:=h1;exact⟨b3,aC⟩
    exact⟨I,h1⟩
   have aD : ∃I,s.af il dc=some I:=by
    rw[bm] at o;split at o
    ·rw[dO] at o;obtain⟨b3,aC,-⟩:=o;exact⟨b3,aC⟩
    exact⟨b3,o⟩
   obtain⟨bY,e1⟩:=e1;obtain⟨aN,aD⟩:=aD;exact h.inj q k bY il dc aN b m bi e1 aD aa ao
  ·intro q k I b m h1 o
   rw[bm] at h1;split at h1
   ·rw[dO] at h1;obtain⟨b3,aC,-⟩:=h1;exact h.own q k b3 b m aC o
   exact h.own q k I b m h1 o
  intro j k au;rw[jP,lV];exact h.stay j k au
 refine {toiK:=er,env:=fun u=> ?_,defers:=h.defers,j9:=h.j9};have:=h.env u;rw[nJ,jP,lV];exact this
theorem cB.ada (h:cB g s ax a w){aT r j te sz:Nat}{cl:gB}{c:List ay}(e4:s.aM aT=none)(dh:s.aM r=some [⟨te,[c],cl⟩])(au:c[j]? = some .fs):
 ∃bL,cB g ((s.setRow aT [⟨sz,[],.live⟩]).setRow r [⟨te,[c.set j (.bu aT 0 0 0)],cl⟩]) bL a w:=by
 obtain⟨bL,aX,cF⟩:=h.more (row:=[⟨sz,[],.live⟩]) e4 (fun I ah=>by simp at ah;subst ah;rfl);have cU:r≠aT:=by rintro rfl;rw[dh] at e4;simp at e4
 refine⟨bL,cF.acB (c:=c) (by simp[S.setRow,cU,dh]) (by simp) (fun i x cN U dY v bb=> ?_)⟩;rw[ah1] at dY;split at dY
 ·rename_i e;subst e
  split at dY
  ·simp at dY;subst dY;rw[au] at U;simp at U;subst U;rw[bb.qx];refine .ox (sz:=sz) (by simp[S.a3,S.setRow]) ?_;unfold S.bd S.af;rw[show (s.setRow aT [⟨sz,[],.live⟩]).aM aT=some [⟨sz,[],.live⟩] by simp[S.setRow],mR];simp[aX]
  simp at dY
 rw[U] at dY;simp at dY;subst dY;exact bb
theorem cB.vy (h:cB g s ax a w){aT t sz:Nat}(e4:s.aM aT=none)(cb:s.E t = .fs):
 ∃bL,cB g {E:=fun u=>if u=t then .bu aT 0 0 0 else s.E u,aM:=(s.setRow aT [⟨sz,[],.live⟩]).aM} bL a w:=by
 obtain⟨bL,aX,cF⟩:=h.more (row:=[⟨sz,[],.live⟩]) e4 (fun I ah=>by simp at ah;subst ah;rfl);refine⟨bL,{toiK:=cF.toiK.congr rfl,env:=fun u=> ?_,defers:=cF.defers,j9:=cF.j9}⟩;have e1 : ∀yh:S,yh.aM=(s.setRow aT [⟨sz,[],.live⟩]).aM->Rel w ((s.setRow aT [⟨sz,[],.live⟩]).ok g bL w) (s.setRow aT [⟨sz,[],.live⟩]).a3 ((s.setRow aT [⟨sz,[],.live⟩]).bd bL)=Rel w (yh.ok g bL w) yh.a3 (yh.bd bL):=fun yh e=>by rw[CR e,An e,Ao e]
 refine Eq.mp (congrFun (congrFun (e1 {E:=fun u=>if u=t then .bu aT 0 0 0 else s.E u,aM:=(s.setRow aT [⟨sz,[],.live⟩]).aM} rfl) _) _) ?_;show Rel _ _ _ _ (if u=t then .bu aT 0 0 0 else s.E u) _;split
 ·rename_i e;subst e;have h0:=h.env u;rw[cb] at h0;rw[h0.qx];refine .ox (sz:=sz) (by simp[S.a3,S.setRow]) ?_;unfold S.bd S.af;rw[show (s.setRow aT [⟨sz,[],.live⟩]).aM aT=some [⟨sz,[],.live⟩] by simp[S.setRow],mR];simp[aX]
 exact cF.env u
end
def jR (P:Program)(N m:Nat)(c:Code)(e:Exit)(s bS:S):Prop :=
 ∀(g:G) ax a w,g.N=N->g.m=m->cB g s ax a w->c.wp P (fun ez dU bJ=>ez=e/\ ∃bL,cB g bS bL dU bJ) a w
inductive yi where
 | normal
 | exit (id:Nat)
 | ret
def yi.x:yi->Exit
 | .normal=> .normal
 | .exit id=> .exit id
 | .ret=> .ret
inductive bO where
 | aq (cE:List (fc×Bool))
 | ad (b:Bool)
 | aV (aW:List Nat) (dd:List iO) (oT:List (Nat×lI))
 | xQ (l:List m6) (dd:List (List iO×Option iO)) (oT:List (Nat×lI))
 | jF (r:Nat)
 | vy (t sz:Nat)
 | tf (r j sz:Nat)
 | G1
 | sub (e:yi) (env:List (Nat×ay)) (rows:List (List aU))
structure Uc where
 e:Exit
 s:S
 aT:Nat
 tape:List bO
 fu:List Prop
def mW (m:Nat):List bO->S->Nat->Option (List bO×S×Nat×List Prop)
 | .aV aW dd oT::tape,s,aT=>match Gm m s aW dd oT with
  | some (s1,n1,bY)=>match mW m tape s1 n1 with
   | some (t2,s2,kL,aN)=>some (t2,s2,kL,bY++aN)
   | none=>none
  | none=>none
 | .xQ l dd oT::tape,s,aT=>match Gb m s l dd oT with
  | some (s1,n1,bY)=>match mW m tape s1 n1 with
   | some (t2,s2,kL,aN)=>some (t2,s2,kL,bY++aN)
   | none=>none
  | none=>none
 | .jF r::tape,s,aT=>match s.aM r with
  | some row=>mW m tape (s.setRow r (my row)) aT
  | none=>none
 | .vy t sz::tape,s,aT=>match s.E t with
  | .fs=>mW m tape {E:=fun u=>if u=t then .bu aT 0 0 0 else s.E u,aM:=(s.setRow aT [⟨sz,[],.live⟩]).aM} (aT+1)
  | _=>none
 | .tf r j sz::tape,s,aT=>match s.aM r with
  | some [⟨te,[c],cl⟩]=>match c[j]? with
   | some .fs=>mW m tape ((s.setRow aT [⟨sz,[],.live⟩]).setRow r [⟨te,[c.set j (.bu aT 0 0 0)],cl⟩]) (aT+1)
   | _=>none
  | _=>none
 | .G1::tape,s,aT=>mW m tape (s.setRow aT []) (aT+1)
 | tape,s,aT=>some (tape,s,aT,[])
def nD (P:Program)(N m:Nat):Code->List bO->S->Nat->Option Uc
 | .skip,tape,s,aT=>some ⟨.normal,s,aT,tape,[]⟩
 | .label _,tape,s,aT=>some ⟨.normal,s,aT,tape,[]⟩
 | .exit id,tape,s,aT=>some ⟨.exit id,s,aT,tape,[]⟩
 | .ret,tape,s,aT=>some ⟨.ret,s,aT,tape,[]⟩
 | .seq x y,tape,s,aT=>match nD P N m x tape s aT with
  | some ⟨.normal,s1,n1,t1,bY⟩=>match nD P N m y t1 s1 n1 with
   | some ⟨aD,s2,kL,t2,aN⟩=>some ⟨aD,s2,kL,t2,bY++aN⟩
   | none=>none
  | some r=>some r
  | none=>none
 | .block id c,tape,s,aT=>match nD P N m c tape s aT with
  | some ⟨.exit xR,s1,n1,t1,bY⟩=>some ⟨if xR=id then .normal else .exit xR,s1,n1,t1,bY⟩
  | r=>r
 | .scope c,tape,s,aT=>nD P N m c tape s aT
 | .region _ ops draw,tape,s,aT=>match mW m tape s aT with
  | some (.aq cE::t1,s1,n1,bY)=>match CP P N ops draw cE s1 n1 with
   | some (s2,aN)=>some ⟨.normal,s2,n1+ops.size,t1,bY++aN⟩
   | none=>none
  | _=>none
 | .cond x c d,tape,s,aT=>match mW m tape s aT with
  | some (.sub e env rows::t1,s1,_,bY)=>some ⟨e.x,db env rows,rows.length,t1,bY++[jR P N m (.cond x c d) e.x s1 (db env rows)]⟩
  | some (.ad b::t1,s1,n1,bY)=>match eD s1.E x with
   | .b v=>match b with
    | true=>match nD P N m c t1 s1 n1 with
     | some ⟨aD,s2,kL,t2,aN⟩=>some ⟨aD,s2,kL,t2,bY++(v=true)::aN⟩
     | none=>none
    | false=>match nD P N m d t1 s1 n1 with
     | some ⟨aD,s2,kL,t2,aN⟩=>some ⟨aD,s2,kL,t2,bY++(v=false)::aN⟩
     | none=>none
   | _=>none
  | _=>none
 | .loop c,tape,s,aT=>match mW m tape s aT with
  | some (.sub e env rows::t1,s1,_,bY)=>some ⟨e.x,db env rows,rows.length,t1,bY++[jR P N m (.loop c) e.x s1 (db env rows)]⟩
  | _=>none
 | _,_,_,_=>none
section
variable {P:Program} {N m:Nat}
theorem jR.intro {c:Code}{e:Exit}{s bS:S}(h:∀(g:G) ax a w,g.N=N->g.m=m->cB g s ax a w->c.wp P (fun ez dU bJ=>ez=e/\ ∃bL,cB g bS bL dU bJ) a w):jR P N m c e s bS:=h
theorem jR.seq {x y:Code}{e:Exit}{s s1 s2:S}(h1:jR P N m x .normal s s1)(o:jR P N m y e s1 s2):jR P N m (.seq x y) e s s2:=by intro g ax a w fV hm ai;refine wp_seq (wp_mono (h1 g ax a w fV hm ai) fun ez dU bJ a1=> ?_);obtain⟨rfl,bL,hv⟩:=a1;exact o g bL dU bJ fV hm hv
theorem jR.abV {x y:Code}{e:Exit}{s s1:S}(h1:jR P N m x e s s1)(he:e≠ .normal):jR P N m (.seq x y) e s s1:=by intro g ax a w fV hm ai;refine wp_seq (wp_mono (h1 g ax a w fV hm ai) fun ez dU bJ a1=> ?_);obtain⟨rfl,hv⟩:=a1;cases ez<;>first|exact absurd rfl he|exact⟨rfl,hv⟩
theorem jR.Zx {c:Code}{id xR:Nat}{s s1:S}(h1:jR P N m c (.exit xR) s s1):jR P N m (.block id c) (if xR=id then .normal else .exit xR) s s1:=by
 intro g ax a w fV hm ai;refine wp_block (wp_mono (h1 g ax a w fV hm ai) fun ez dU bJ a1=> ?_);obtain⟨rfl,hv⟩:=a1;simp only[Exit.inBlock];split
 ·exact⟨rfl,hv⟩
 exact⟨rfl,hv⟩
theorem jR.block {c:Code}{id:Nat}{e:Exit}{s s1:S}(h1:jR P N m c e s s1)(he:∀i,e≠ .exit i):jR P N m (.block id c) e s s1:=by intro g ax a w fV hm ai;refine wp_block (wp_mono (h1 g ax a w fV hm ai) fun ez dU bJ a1=> ?_);obtain⟨rfl,hv⟩:=a1;cases ez<;>first|exact absurd rfl (he _)|exact⟨rfl,hv⟩
theorem jR.scope {c:Code}{e:Exit}{s s1:S}(h1:jR P N m c e s s1)(he:∀l,e≠ .goto l):jR P N m (.scope c) e s s1:=by intro g ax a w fV hm ai;refine wp_scope_straight (wp_mono (h1 g ax a w fV hm ai) fun ez dU bJ a1=> ?_);obtain⟨rfl,hv⟩:=a1;cases ez<;>first|exact absurd rfl (he _)|exact⟨rfl,hv⟩
theorem PD {ops:Array Oper}: ∀(l:List Oper) (cE:List (fc×Bool)) (s bS:S) (aT:Nat) (af:List Prop),
 rj P N ops l cE s aT=some (bS,af)->s.k5 aT->bS.k5 (aT+l.length)
 | [],[],s,bS,aT,af,h,b5=>by simp[rj] at h;obtain⟨rfl,rfl⟩:=h;simpa using b5
 | I::l,fD::cE,s,bS,aT,af,h,b5=>by
  simp only[rj] at h;split at h
  ·rename_i bq ap
   split at h
   ·rename_i s2 Ei o;simp only[dz,dD] at h;obtain⟨rfl,rfl⟩:=h;have:=PD l cE (s.aH I bq) s2 (aT+1) Ei o (FB ap b5);rw[dI];rw[show aT+(l.length+1)=aT+1+l.length by omega];exact this
   simp at h
  simp at h
 | [],_::_,_,_,_,_,h,_=>by simp[rj] at h
 | _::_,[],_,_,_,_,h,_=>by simp[rj] at h
theorem PE {ops:Array Oper}: ∀(l:List Oper) (cE:List (fc×Bool)) (s bS:S) (aT:Nat) (jT:List Rec),
 rk P N ops l cE s aT=some (bS,jT)->s.k5 aT->bS.k5 (aT+l.length)
 | [],[],s,bS,aT,af,h,b5=>by simp[rk] at h;obtain⟨rfl,rfl⟩:=h;simpa using b5
 | I::l,fD::cE,s,bS,aT,af,h,b5=>by
  simp only[rk] at h;split at h
  ·rename_i bq ap
   split at h
   ·rename_i s2 Ei o;simp only[dz,dD] at h;obtain⟨rfl,rfl⟩:=h;have:=PE l cE (s.aH I bq) s2 (aT+1) Ei o (FB (I3 ap) b5);rw[dI];rw[show aT+(l.length+1)=aT+1+l.length by omega];exact this
   simp at h
  simp at h
 | [],_::_,_,_,_,_,h,_=>by simp[rk] at h
 | _::_,[],_,_,_,_,h,_=>by simp[rk] at h
theorem XX {ops:Array Oper}{draw:Bool}{cE:List (fc×Bool)}{s bS:S}{aT:Nat}{af:List Prop}
 (h:CP P N ops draw cE s aT=some (bS,af)) (b5:s.k5 aT):bS.k5 (aT+ops.size):=by
 unfold CP at h;split at h
 ·split at h
  ·rename_i s2 hC DQ
   split at h
   ·simp only[dz,dD] at h;obtain⟨rfl,rfl⟩:=h;simpa using PE _ _ _ _ _ _ DQ b5
   simp at h
  simp at h
 simpa using PD _ _ _ _ _ _ h b5
theorem Y4 {s:S}{n r:Nat}{row:List aU}(h:s.k5 n)(ai:r<n):(s.setRow r row).k5 n:=by
 intro q a1;have:q≠r:=by omega
 simp[S.setRow,this,h q a1]
theorem z2 : ∀(tape:List bO) (s:S) (aT:Nat) (c2:List bO) (bS:S) (nT:Nat) (af:List Prop),mW m tape s aT=some (c2,bS,nT,af)->(∀p∈af,p)->s.k5 aT ->
 bS.k5 nT/\ ∀(g:G) ax a w,g.m=m->cB g s ax a w-> ∃bL,cB g bS bL a w:=by
 intro tape
 induction tape with
 | nil =>
  intro s aT c2 bS nT af h bm b5;simp[mW] at h;obtain⟨rfl,rfl,rfl,rfl⟩:=h;exact⟨b5,fun g ax a w _ ai=>⟨ax,ai⟩⟩
 | cons x tape ih =>
  intro s aT c2 bS nT af h bm b5
  cases x with
  | aV aW dd oT =>
   simp only[mW] at h;split at h;rotate_left
   ·simp at h
   rename_i s1 n1 bY h1;split at h;rotate_left
   ·simp at h
   rename_i t2 s2 kL aN o;simp only[dz,dD] at h;obtain⟨rfl,rfl,rfl,rfl⟩:=h
   have Dq:s1.k5 n1:=by
    unfold Gm at h1;split at h1
    ·split at h1
     ·simp only[dz,dD] at h1;obtain⟨rfl,rfl,rfl⟩:=h1;exact w8 _ _
     simp at h1
    simp at h1
   obtain⟨e1,aD⟩:=ih s1 n1 t2 s2 kL aN o (fun p ae=>bm p (by simp[ae])) Dq;refine⟨e1,fun g ax a w hm ai=> ?_⟩;obtain⟨-,f2⟩:=aa5 ai (by rw[hm];exact h1) (fun p ae=>bm p (by simp[ae]));exact aD g _ a w hm f2
  | xQ l dd oT =>
   simp only[mW] at h;split at h;rotate_left
   ·simp at h
   rename_i s1 n1 bY h1;split at h;rotate_left
   ·simp at h
   rename_i t2 s2 kL aN o;simp only[dz,dD] at h;obtain⟨rfl,rfl,rfl,rfl⟩:=h
   have Dq:s1.k5 n1:=by
    unfold Gb at h1;split at h1
    ·split at h1
     ·simp only[dz,dD] at h1;obtain⟨rfl,rfl,rfl⟩:=h1;exact w8 _ _
     simp at h1
    simp at h1
   obtain⟨e1,aD⟩:=ih s1 n1 t2 s2 kL aN o (fun p ae=>bm p (by simp[ae])) Dq;refine⟨e1,fun g ax a w hm ai=> ?_⟩;obtain⟨-,f2⟩:=aaa ai (by rw[hm];exact h1) (fun p ae=>bm p (by simp[ae]));exact aD g _ a w hm f2
  | jF r =>
   simp only[mW] at h;split at h
   ·rename_i row dh
    have dZ:r<aT:=by
     rcases Nat.lt_or_ge r aT with cF|cF
     ·exact cF
     rw[b5 r cF] at dh;simp at dh
    obtain⟨e1,aD⟩:=ih _ aT c2 bS nT af h bm (Y4 b5 dZ);exact⟨e1,fun g ax a w hm ai=>aD g ax a w hm (ai.freeze dh)⟩
   simp at h
  | vy t sz =>
   simp only[mW] at h;split at h
   ·rename_i cb;obtain⟨e1,aD⟩:=ih _ (aT+1) c2 bS nT af h bm (by intro q a1;have:q≠aT:=(by omega);simp[S.setRow,this,b5 q (by omega)]);refine⟨e1,fun g ax a w hm ai=> ?_⟩;obtain⟨bL,hv⟩:=ai.vy (sz:=sz) (b5 aT (dG _)) cb;exact aD g bL a w hm hv
   simp at h
  | tf r j sz =>
   simp only[mW] at h;split at h;rotate_left
   ·simp at h
   rename_i te c cl dh;split at h
   ·rename_i au
    have dZ:r<aT:=by
     rcases Nat.lt_or_ge r aT with cF|cF
     ·exact cF
     rw[b5 r cF] at dh;simp at dh
    obtain⟨e1,aD⟩:=ih _ (aT+1) c2 bS nT af h bm (by intro q a1;have h1:q≠aT:=(by omega);have o:q≠r:=(by omega);simp[S.setRow,h1,o,b5 q (by omega)]);refine⟨e1,fun g ax a w hm ai=> ?_⟩;obtain⟨bL,hv⟩:=ai.ada (sz:=sz) (b5 aT (dG _)) dh au;exact aD g bL a w hm hv
   simp at h
  | G1 =>
   simp only[mW] at h;obtain⟨e1,aD⟩:=ih _ (aT+1) c2 bS nT af h bm (by intro q a1;have:q≠aT:=(by omega);simp[S.setRow,this,b5 q (by omega)]);refine⟨e1,fun g ax a w hm ai=> ?_⟩;obtain⟨bL,-,hv⟩:=ai.more (row:=[]) (b5 aT (dG _)) (by simp);exact aD g bL a w hm hv
  | aq cE=>simp[mW] at h;obtain⟨rfl,rfl,rfl,rfl⟩:=h;exact⟨b5,fun g ax a w _ ai=>⟨ax,ai⟩⟩
  | ad b=>simp[mW] at h;obtain⟨rfl,rfl,rfl,rfl⟩:=h;exact⟨b5,fun g ax a w _ ai=>⟨ax,ai⟩⟩
  | sub e env rows=>simp[mW] at h;obtain⟨rfl,rfl,rfl,rfl⟩:=h;exact⟨b5,fun g ax a w _ ai=>⟨ax,ai⟩⟩
theorem FZ {c:Code}{e:Exit}{s bS:S}(h:∀ {Q:Exit->Act->World->Prop} {a w},Q e a w->c.wp P Q a w)(bX:bS=s):jR P N m c e s bS:=by intro g ax a w _ _ ai;exact h ⟨rfl,ax,by rw[bX];exact ai⟩
theorem Zy (qK:P.follows .mixedOrders=true): ∀(c:Code) (tape:List bO) (s:S) (aT:Nat) (r:Uc),nD P N m c tape s aT=some r->(∀p∈r.fu,p)->s.k5 aT ->
 (r.s.k5 r.aT/\(∀l,r.e≠ .goto l))/\jR P N m c r.e s r.s:=by
 intro c
 induction c with
 | skip =>
  intro tape s aT r h bm b5;simp[nD] at h;subst h;exact⟨⟨b5,by simp⟩,FZ wp_skip rfl⟩
 | label l =>
  intro tape s aT r h bm b5;simp[nD] at h;subst h;exact⟨⟨b5,by simp⟩,FZ wp_label rfl⟩
 | exit id =>
  intro tape s aT r h bm b5;simp[nD] at h;subst h;exact⟨⟨b5,by simp⟩,FZ wp_exit rfl⟩
 | ret =>
  intro tape s aT r h bm b5;simp[nD] at h;subst h;exact⟨⟨b5,by simp⟩,FZ wp_ret rfl⟩
 | seq x y Tj aep =>
  intro tape s aT r h bm b5;simp only[nD] at h;split at h
  ·rename_i s1 n1 t1 bY h1
   split at h
   ·rename_i aD s2 kL t2 aN o;simp only[dz] at h;subst h;obtain⟨⟨f1,-⟩,v1⟩:=Tj _ _ _ _ h1 (fun p ae=>bm p (by simp[ae])) b5;obtain⟨f2,v2⟩:=aep _ _ _ _ o (fun p ae=>bm p (by simp[ae])) f1;exact⟨f2,v1.seq v2⟩
   simp at h
  ·rename_i r1 cU h1;simp only[dz] at h;subst h;obtain⟨f1,v1⟩:=Tj _ _ _ _ h1 bm b5;refine⟨f1,v1.abV fun he=> ?_⟩;obtain⟨e1,s1,n1,t1,bY⟩:=r1;simp only at he;subst he;exact cU s1 n1 t1 bY rfl
  simp at h
 | block id c ih =>
  intro tape s aT r h bm b5;simp only[nD] at h;split at h
  ·rename_i xR s1 n1 t1 bY h1;simp only[dz] at h;subst h;obtain⟨⟨f1,f2⟩,v1⟩:=ih _ _ _ _ h1 bm b5;exact⟨⟨f1,by intro l;simp only;split<;>simp⟩,v1.Zx⟩
  rename_i cU;obtain⟨f1,v1⟩:=ih _ _ _ _ h bm b5;refine⟨f1,v1.block fun i he=> ?_⟩;obtain⟨e1,s1,n1,t1,bY⟩:=r;simp only at he;subst he;exact cU i s1 n1 t1 bY h
 | scope c ih =>
  intro tape s aT r h bm b5;simp only[nD] at h;obtain⟨f1,v1⟩:=ih _ _ _ _ h bm b5;exact⟨f1,v1.scope f1.2⟩
 | region id ops draw =>
  intro tape s aT r h bm b5;simp only[nD] at h;split at h
  ·rename_i cE t1 s1 n1 bY h1
   split at h
   ·rename_i s2 aN o;simp only[dz] at h;subst h;obtain⟨f1,v1⟩:=z2 _ _ _ _ _ _ _ h1 (fun p ae=>bm p (by simp[ae])) b5;refine⟨⟨XX o f1,by simp⟩,?_⟩;intro g ax a w fV hm ai;obtain⟨lr,iF⟩:=v1 g ax a w hm ai;subst fV;exact Xy qK o (fun p ae=>bm p (by simp[ae])) f1 iF id fun bL dU bJ cF=>⟨rfl,bL,cF⟩
   simp at h
  simp at h
 | cond x c d aeq aer =>
  intro tape s aT r h bm b5;simp only[nD] at h;split at h
  ·rename_i e env rows t1 s1 n1 bY h1;simp only[dz] at h;subst h;obtain⟨f1,v1⟩:=z2 _ _ _ _ _ _ _ h1 (fun p ae=>bm p (by simp[ae])) b5;have bb:jR P N m (.cond x c d) e.x s1 (db env rows):=bm _ (by simp);refine⟨⟨w8 _ _,by intro l;cases e<;>simp[yi.x]⟩,fun g ax a w fV hm ai=> ?_⟩;obtain⟨lr,iF⟩:=v1 g ax a w hm ai;exact bb g lr a w fV hm iF
  ·rename_i b t1 s1 n1 bY h1
   split at h;rotate_left
   ·simp at h
   rename_i v bb;have a8 : ∀(g:G) ax a w,cB g s1 ax a w->a.eval x = .bool v:=(by intro g ax a w ai;have:=ai.eval x;rw[bb] at this;exact this.vm);split at h
   ·split at h
    ·rename_i aD s2 kL t2 aN o;simp only[dz] at h;subst h;obtain⟨f1,v1⟩:=z2 _ _ _ _ _ _ _ h1 (fun p ae=>bm p (by simp[ae])) b5;obtain⟨f2,v2⟩:=aeq _ _ _ _ o (fun p ae=>bm p (by simp[ae])) f1;have K3:v=true:=bm _ (by simp);refine⟨f2,fun g ax a w fV hm ai=> ?_⟩;obtain⟨lr,iF⟩:=v1 g ax a w hm ai;exact wp_cond_true (by rw[a8 g lr a w iF,K3]) (v2 g lr a w fV hm iF)
    simp at h
   split at h
   ·rename_i aD s2 kL t2 aN o;simp only[dz] at h;subst h;obtain⟨f1,v1⟩:=z2 _ _ _ _ _ _ _ h1 (fun p ae=>bm p (by simp[ae])) b5;obtain⟨f2,v2⟩:=aer _ _ _ _ o (fun p ae=>bm p (by simp[ae])) f1;have K3:v=false:=bm _ (by simp);refine⟨f2,fun g ax a w fV hm ai=> ?_⟩;obtain⟨lr,iF⟩:=v1 g ax a w hm ai;exact wp_cond_false (by rw[a8 g lr a w iF,K3]) (v2 g lr a w fV hm iF)
   simp at h
  simp at h
 | loop c ih =>
  intro tape s aT r h bm b5;simp only[nD] at h;split at h
  ·rename_i e env rows t1 s1 n1 bY h1;simp only[dz] at h;subst h;obtain⟨f1,v1⟩:=z2 _ _ _ _ _ _ _ h1 (fun p ae=>bm p (by simp[ae])) b5;have bb:jR P N m (.loop c) e.x s1 (db env rows):=bm _ (by simp);refine⟨⟨w8 _ _,by intro l;cases e<;>simp[yi.x]⟩,fun g ax a w fV hm ai=> ?_⟩;obtain⟨lr,iF⟩:=v1 g ax a w hm ai;exact bb g lr a w fV hm iF
  simp at h
 | _=>intro tape s aT r h;simp[nD] at h
def sc (P:Program)(N m:Nat)(c:Code)(e:Exit)(s bS:S):Prop :=
 ∃n,∀(g:G) ax a w,g.N=N->g.m=m->cB g s ax a w->Code.rounds P c (fun ez dU bJ=>ez=e/\ ∃bL,cB g bS bL dU bJ) n a w
theorem sc.aes {c:Code}{e:Exit}{s bS:S}(h:sc P N m c e s bS):jR P N m (.loop c) e s bS:=by obtain⟨n,h⟩:=h;intro g ax a w fV hm ai;exact wp_loop_rounds n (h g ax a w fV hm ai)
theorem sc.out {c:Code}{e:Exit}{s bS:S}(h:jR P N m c e s bS)(he:e≠ .normal):sc P N m c e s bS:=by refine⟨1,fun g ax a w fV hm ai=> ?_⟩;rw[rounds_succ];refine wp_mono (h g ax a w fV hm ai) fun ez dU bJ a1=> ?_;obtain⟨rfl,hv⟩:=a1;cases ez<;>first|exact absurd rfl he|exact⟨rfl,hv⟩
theorem sc.next {c:Code}{e:Exit}{s s1 bS:S}(h:jR P N m c .normal s s1)(o:sc P N m c e s1 bS):sc P N m c e s bS:=by obtain⟨n,o⟩:=o;refine⟨n+1,fun g ax a w fV hm ai=> ?_⟩;rw[rounds_succ];refine wp_mono (h g ax a w fV hm ai) fun ez dU bJ a1=> ?_;obtain⟨rfl,bL,hv⟩:=a1;exact o g bL dU bJ fV hm hv
inductive cp:List Prop->Prop
 | nil:cp []
 | cons {p:Prop} {l:List Prop} (h:p) (t:cp l):cp (p::l)
theorem cp.c {p:Prop}{l:List Prop}(h:p)(t:cp l):cp (p::l):= .cons h t
theorem cp.aH {l m:List Prop}(h:cp l)(k:cp m):cp (l++m):=by
 induction h with
 | nil=>exact k
 | cons h _ ih=>exact .cons h ih
theorem cp.all {l:List Prop}(h:cp l): ∀p∈l,p:=by
 induction h with
 | nil=>intro p ae;simp at ae
 | cons h t ih =>
  intro q a1;rw[dT] at a1;rcases a1 with rfl|a1
  ·exact h
  exact ih q a1
theorem cp.of : ∀ {l:List Prop},(∀p∈l,p)->cp l
 | [],_=> .nil
 | _::_,h=> .cons (h _ (by simp)) (.of fun p ae=>h p (by simp[ae]))
def G2 (P:Program)(N m:Nat)(c:Code)(tape:List bO)(s:S)(aT:Nat):Option (Exit×S×List Prop) :=
 match nD P N m c tape s aT with
 | some ⟨e,s1,n1,t1,bY⟩=>match mW m t1 s1 n1 with
  | some ([],s2,_,aN)=>some (e,s2,bY++aN)
  | _=>none
 | none=>none
theorem Qt (qK:P.follows .mixedOrders=true){c:Code}{tape:List bO}{s bS:S}{aT:Nat}{e:Exit}{af:List Prop}(h:G2 P N m c tape s aT=some (e,bS,af))(bm:cp af)(b5:s.k5 aT):
 jR P N m c e s bS:=by
 have bm:=bm.all;unfold G2 at h;split at h
 ·rename_i e1 s1 n1 t1 bY h1
  split at h
  ·rename_i s2 kL aN o;simp only[dz,dD] at h;obtain⟨rfl,rfl,rfl⟩:=h;obtain⟨⟨f1,-⟩,v1⟩:=Zy qK c tape s aT _ h1 (fun p ae=>bm p (by simp[ae])) b5;obtain⟨-,v2⟩:=z2 _ _ _ _ _ _ _ o (fun p ae=>bm p (by simp[ae])) f1;intro g ax a w fV hm ai;refine wp_mono (v1 g ax a w fV hm ai) fun ez dU bJ a1=> ?_;obtain⟨rfl,bL,hv⟩:=a1;exact⟨rfl,v2 g bL dU bJ hm hv⟩
  simp at h
 simp at h
end
def tV (P:Program)(s:S):ResultVar->Option ay
 | .tmp t=>some (s.E t)
 | .cell t eB=>match s.E t with
  | .ref r k i off=>match df (s.aM r) k with
   | some I=>match I.es[i]? with
    | some c=>rn P eB c off
    | none=>none
   | none=>none
  | _=>none
def Ku (P:Program)(s:S):List ResultVar->Option ay
 | []=>some (.d9 [])
 | [x]=>tV P s x
 | [x,y]=>match tV P s x,tV P s y with
  | some a,some b=>some (.d9 [a,b])
  | _,_=>none
 | [x,y,z]=>match tV P s x,tV P s y,tV P s z with
  | some a,some b,some c=>some (.d9 [a,b,c])
  | _,_,_=>none
 | _=>none
def JT (tmps:Array Value):ResultVar->Sem Value
 | .tmp t=>pure (tmps.getD t undef)
 | .cell a t=>do loadVar t (<- asAddr (tmps.getD a undef))
theorem Y5 (fn:Func)(tmps:Array Value):results fn tmps=(do
 let vs <- fn.results.mapM (JT tmps)
 pure (if h:vs.size=1 then vs[0] else .tuple vs)):=rfl
def xi (args:List ay)(T:List (List aU)):S:={E:=fun t=>(args[t]?).getD (.d9 []),aM:=fun r=>T[r]?}
def So:Exit->Bool
 | .normal=>true
 | .ret=>true
 | _=>false
def DS (P:Program)(f:FuncId)(args:List ay)(T:List (List aU))(tape:List bO)(aW:List Nat)(dd:List iO)(ho:lI):Option (ay×List (List aU)×List Prop) :=
 match P.funcs[f]? with
 | none=>none
 | some fn=>match fn.body with
  | none=>none
  | some c=>if fn.name == "runtime.NumGoroutine" then none else
   match G2 P fn.ntmps T.length c tape (xi args T) T.length with
   | none=>none
   | some (e,s,bY)=>if So e && decide aW.Nodup && Dp aW T.length then
    match Ku P s fn.results.toList with
    | none=>none
    | some r0=>match ue s.aM (cK aW) (nP aW) aW dd,oB s.aM (cK aW) (nP aW) k9 ho r0 with
     | some (iP,aN),some (r,fA)=>some (r,iP,bY++aN++fA)
     | _,_=>none
    else none
section
variable {P:Program}
theorem z3 {g:G}{s:S}{ax:fz}{a:Act}{w:World}(h:cB g s ax a w){x:ResultVar}{r0:ay}(ai:tV P s x=some r0):
 ∃v,(JT a.tmps x).run P w = .ok v w/\Rel w (s.ok g ax w) s.a3 (s.bd ax) r0 v:=by
 cases x with
 | tmp t =>
  simp only[tV,dz] at ai;subst ai;exact⟨_,rfl,h.env t⟩
 | cell t eB =>
  simp only[tV] at ai;have U:=h.env t;split at ai;rotate_left
  ·simp at ai
  rename_i r k i off gX;rw[gX] at U;split at ai;rotate_left
  ·simp at ai
  rename_i I ah;split at ai
  ·rename_i c a8
   have ea:s.af r k=some I:=ah;have e9:=h.obj r k I ea;rcases U.xa (ir ea) with h0|⟨b,m,ae,hval⟩
   ·rw[h0] at e9;simp only[jr] at e9;rw[e9] at a8;simp at a8
   rw[ae] at e9;obtain⟨u,h1,o⟩:=IZ (P:=P) e9.rd a8 ai;refine⟨u,?_,o⟩;rw[dF] at h1;simp only[JT,hval,asAddr];simpa [Instr.loadAt,Instr.sureAddr] using h1
  simp at ai
theorem Zz {g:G}{s:S}{ax:fz}{a:Act}{w:World}(h:cB g s ax a w){fn:Func}{r0:ay}(ai:Ku P s fn.results.toList=some r0):
 ∃v,(results fn a.tmps).run P w = .ok v w/\Rel w (s.ok g ax w) s.a3 (s.bd ax) r0 v:=by
 have Gz : ∀l,fn.results.toList=l->fn.results=l.toArray:=fun l aO=>by rw[<- aO]
 unfold Ku at ai;rw[Y5];split at ai
 ·rename_i aO;simp only[dz] at ai;subst ai;rw[Gz _ aO];exact⟨.tuple #[],by simp,.d9 [] rfl (by simp)⟩
 ·rename_i x aO;rw[Gz _ aO];obtain⟨v,h1,o⟩:=z3 h ai;exact⟨v,by simp[h1,Sem.run_bind,Result.andThen],o⟩
 ·rename_i x y aO
  rw[Gz _ aO];split at ai
  ·rename_i p q ae a1
   simp only[dz] at ai;subst ai;obtain⟨v1,h1,o⟩:=z3 h ae;obtain⟨v2,aa,ao⟩:=z3 h a1;refine⟨.tuple #[v1,v2],by simp[h1,aa,Sem.run_bind,Result.andThen],.d9 [v1,v2] rfl ?_⟩;intro j x v U bb
   match j,U,bb with
   | 0,U,bb=>obtain rfl:=dJ U;obtain rfl:=dJ bb;exact o
   | 1,U,bb=>obtain rfl:=dJ U;obtain rfl:=dJ bb;exact ao
   | j+2,U,bb=>simp at U
  simp at ai
 ·rename_i x y z aO
  rw[Gz _ aO];split at ai
  ·rename_i p q t ae a1 cb
   simp only[dz] at ai;subst ai;obtain⟨v1,h1,o⟩:=z3 h ae;obtain⟨v2,aa,ao⟩:=z3 h a1;obtain⟨v3,aC,aS⟩:=z3 h cb;refine⟨.tuple #[v1,v2,v3],by simp[h1,aa,aC,Sem.run_bind,Result.andThen],.d9 [v1,v2,v3] rfl ?_⟩;intro j x v U bb
   match j,U,bb with
   | 0,U,bb=>obtain rfl:=dJ U;obtain rfl:=dJ bb;exact o
   | 1,U,bb=>obtain rfl:=dJ U;obtain rfl:=dJ bb;exact ao
   | 2,U,bb=>obtain rfl:=dJ U;obtain rfl:=dJ bb;exact aS
   | j+3,U,bb=>simp at U
  simp at ai
 simp at ai
theorem finish {g:G}{s:S}{ax:fz}{a:Act}{w:World}(h:cB g s ax a w){aW:List Nat}{dd:List iO}{ho:lI}{r0 r:ay}{iP:List (List aU)}{aN fA:List Prop}
 (hnd:aW.Nodup) (sn:Dp aW g.m=true) (h1:ue s.aM (cK aW) (nP aW) aW dd=some (iP,aN)) (o:oB s.aM (cK aW) (nP aW) k9 ho r0=some (r,fA)) (qO : ∀p∈aN,p) (KX : ∀p∈fA,p)
 {v:Value} (bb:Rel w (s.ok g ax w) s.a3 (s.bd ax) r0 v) :
 ∃bL,iK g (fg iP) bL w/\Rel w ((fg iP).ok g bL w) (fg iP).a3 ((fg iP).bd bL) r v:=by
 obtain⟨e1,aD⟩:=Jt h.toiK (Gn hnd) aW dd iP aN h1 qO;have xS:im s (nP aW) k9 mJ r0 r:=CS h.toiK (Gn hnd) (vK _) o KX trivial bb;have cH:qP s (nP aW) k9 mJ (fg iP).aM:=RQ hnd e1 aD;have DL:=QO h.toiK sn;have h4 : ∀b,(fg iP).mx (ka ax (nP aW)) b->s.mx ax b:=fun b aO=>by obtain⟨q,k,I,m,h1,o,aa,-⟩:=cH.live (bS:=fg iP) b aO;exact⟨q,k,I,m,h1,o,aa⟩
 have Dk : ∀j k,g.pJ j k->(fg iP).a3 j k/\((fg iP).bd (ka ax (nP aW)) j k=g.si j k\/(fg iP).bd (ka ax (nP aW)) j k=none):=by
  intro j k au;obtain⟨e1,aD⟩:=h.stay j k au;refine⟨cH.a3 j k j k (DL j k au) e1,?_⟩;rcases cH.GU (bS:=fg iP) (ax:=ax) (DL j k au) with e|e
  ·rw[e];exact aD
  exact .inr e
 obtain⟨f1,f2⟩:=h.toiK.LL (bS:=fg iP) cH h.gW Dk h.low h.mlt h.oe (fun r k I b m _ ah ae=>h.own r k I b m ah ae)
  (fun b aL=>⟨aL.1,aL.2.1,fun aO=>aL.2.2 (h4 b aO)⟩)
  (fun q k I b m ah _ ai ae=>by
    have bm:=h.obj q k I ah;rw[ae] at bm;obtain⟨c,eB,e1,-⟩:=bm;refine⟨(ah3.1 e1).1,?_,fun aO=> ?_⟩
    ·rcases h.own q k I b m ah ae with e|e
     ·exact .inr (.inl e)
     exact .inr (.inr e)
    obtain⟨eQ,dc,b3,bi,f1,f2,f3,⟨Bw,EQ,f4⟩⟩:=cH.live (bS:=fg iP) b aO;obtain⟨rfl,rfl⟩:=h.inj q k I eQ dc b3 b m bi ah f1 ae f3;exact ai Bw EQ f4)
 exact⟨_,f1,f2 xS bb⟩
theorem QR (qK:P.follows .mixedOrders=true){f:FuncId}{args:List ay}{T:List (List aU)}{tape:List bO}{aW:List Nat}{dd:List iO}{ho:lI}{r:ay}{iP:List (List aU)}{af:List Prop}
 (h:DS P f args T tape aW dd ho=some (r,iP,af)) (bm:cp af):Con P f args T r iP:=by
 have bm:=bm.all;unfold DS at h;split at h
 ·simp at h
 rename_i fn Tk;split at h
 ·simp at h
 rename_i c a8;split at h
 ·simp at h
 rename_i adb;split at h
 ·simp at h
 rename_i e s bY nJ;split at h;rotate_left
 ·simp at h
 rename_i Sp;simp only[ahU,decide_eq_true_eq] at Sp;obtain⟨⟨AX,hnd⟩,sn⟩:=Sp;split at h
 ·simp at h
 rename_i r0 lZ;split at h;rotate_left
 ·simp at h
 rename_i nU aN bM fA h1 o;simp only[dz,dD] at h;obtain⟨rfl,rfl,rfl⟩:=h;refine⟨⟨fn,Tk,by simpa using adb,by simp[a8]⟩,?_⟩;intro g ax w vs hw hm xM lV er e3 hargs;have Dq:(xi args T).k5 T.length:=by intro q a1;simp[xi,a1]
 have ag5:=er
 let gq:G:={g with N:=fn.ntmps}
 have e9:cB gq (xi args T) ax {tmps:=vs++Array.replicate (fn.ntmps-vs.size) undef,defers:=[]} w:=by
  have G3:(xi args T).aM=(fg T).aM:=rfl;have rG:iK g (xi args T) ax w:=er.congr G3;have aet:iK gq (xi args T) ax w:=⟨rG.obj,rG.inj,rG.own,⟨rG.gW.os,rG.gW.tape,rG.gW.output,rG.gW.size,rG.gW.block⟩,rG.mlt,rG.oe,rG.stay,rG.low⟩;refine {toiK:=aet,env:=fun t=> ?_,defers:=rfl,j9:=by simp[gq];omega}
  have e1:(vs++Array.replicate (fn.ntmps-vs.size) undef).getD t undef=(vs[t]?).getD undef:=by
   rw[ah0,Array.getElem?_append];split
   ·rfl
   rename_i dZ;rw[Array.getElem?_replicate];have:vs[t]? = none:=(by simp;omega);rw[this];split<;>rfl
  show Rel _ _ _ _ ((args[t]?).getD (.d9 [])) _;rw[e1]
  cases U:args[t]? with
  | none =>
   have:vs[t]? = none:=(by rw[List.getElem?_eq_none_iff] at U;simp;omega);rw[this];exact Qk
  | some x =>
   have dZ:=gi U;have bb:vs[t]? = some vs[t]:=dS (by omega);rw[bb];have:=hargs t x _ U bb;rw[<- CR G3,<- An G3,<- Ao G3] at this;exact this
 have bb:=Qt qK nJ (by exact cp.of fun p ae=>bm p (by simp[ae])) Dq gq ax _ w rfl hm e9;refine calls_of_wp Tk a8 (wp_mono bb fun ez dU bJ a1=> ?_);obtain⟨rfl,bL,hv⟩:=a1;obtain⟨v,v1,v2⟩:=Zz (P:=P) hv lZ;obtain⟨l5,f1,f2⟩:=finish hv hnd (by rw[show gq.m=T.length from hm];exact sn) h1 o (fun p ae=>bm p (by simp[ae])) (fun p ae=>bm p (by simp[ae])) v2;have SL:dU.defers=[]/\ ∃v,(results fn dU.tmps).run P bJ = .ok v bJ/\ ∃Tl bL,Ending.returned v=Ending.returned Tl/\iK g (fg nU) bL bJ/\Rel bJ ((fg nU).ok g bL bJ) (fg nU).a3 ((fg nU).bd bL) bM Tl:=by refine⟨hv.defers,v,v1,v,l5,rfl,?_,f2⟩;exact⟨f1.obj,f1.inj,f1.own,⟨f1.gW.os,f1.gW.tape,f1.gW.output,f1.gW.size,f1.gW.block⟩,f1.mlt,f1.oe,f1.stay,f1.low⟩
 cases ez<;>simp only[So,ah2] at AX
 ·exact SL
 exact SL
theorem aab (qK:P.follows .mixedOrders=true){f:FuncId}{args:List ay}{tape:List bO}{ho:lI}{r:ay}{af:List Prop}
 (h:DS P f args [] tape [] [] ho=some (r,[],af)) (bm:cp af):Con P f args [] r []:=QR qK h bm
end
def bs {α:Type}(I:Option α)(Q:α->Prop):Prop:= ∀r,I=some r->Q r
section
variable {α β:Type} {Q:α->Prop}
theorem bs.ite {b:Bool}{x y:Option α}(h1:b=true->bs x Q)(o:b=false->bs y Q):bs (if b=true then x else y) Q:=by
 cases b
 ·exact o rfl
 exact h1 rfl
theorem bs.al {I:Option β}{f:β->Option α}(h:∀x,I=some x->bs (f x) Q):bs (I >>= f) Q:=by
 cases I with
 | none=>intro r ai;simp at ai
 | some x=>exact h x rfl
theorem bs.aK {p:Prop}[Decidable p] {x:Option α} (h:p->bs x Q):bs (if p then x else none) Q:=by
 by_cases ae:p
 ·rw[dw ae];exact h ae
 rw[dA ae];intro r ai;simp at ai
theorem bs.ret {r:α}(h:Q r):bs (some r) Q:=by intro x U;obtain rfl:=dJ U;exact h
end
theorem bs.K4 {α:Type}{Q:α->Prop}:bs (none:Option α) Q:=by intro r ai;simp at ai
def nodeAt:Code->List Nat->Code
 | c,[]=>c
 | .seq x _,0::l=>nodeAt x l
 | .seq _ y,1::l=>nodeAt y l
 | .cond _ x _,0::l=>nodeAt x l
 | .cond _ _ y,1::l=>nodeAt y l
 | .block _ x,0::l=>nodeAt x l
 | .loop x,0::l=>nodeAt x l
 | .scope x,0::l=>nodeAt x l
 | _,_=> .skip
def JU (P:Program)(f:FuncId):Code :=
 match P.funcs[f]? with
 | some fn=>match fn.body with
  | some c=>c
  | none=> .skip
 | none=> .skip
theorem JF {α β:Type}{f:α->β}{l:List α}{i:Nat}{x:α}(h:l[i]? = some x):(l.map f)[i]? = some (f x):=by rw[dK,h];rfl
theorem Rn {α β:Type}{f:α->β}{l:List α}{j:Int}(h:j<l.length):j<((l.map f).length:Nat):=by rw[ah8];exact h
theorem RS {α β:Type}{f:α->β}{l:List α}{j:Nat}(h:j<l.length):j<(l.map f).length:=by rw[ah8];exact h
def iter {α β:Type}(f:α->Option (α⊕β))(a:α):Option β:=do
 match <- f a with
 | .inl dU=>iter f dU
 | .inr r=>some r
partial_fixpoint
abbrev afs:fc×Bool:=(.none,true)
abbrev aft:fc×Bool:=(.none,false)
abbrev ii:lI:= .bl (.cW .id)
abbrev R (x:Int):Int:=IntKind.wrap .i64 x
section
variable {P:Program} {N m:Nat} {α β:Type}
theorem abW {c:Code}{f:α->Option (α⊕β)}{head:α->S}{hY:β->Exit}{out:β->S}(hex:∀r,hY r≠ .normal)
 (h : ∀a,bs (f a) (Sum.elim (fun dU=>jR P N m c .normal (head a) (head dU)) (fun r=>jR P N m c (hY r) (head a) (out r)))) : ∀a r,iter f a=some r->sc P N m c (hY r) (head a) (out r):=by
 apply iter.partial_correctness f (fun a r=>sc P N m c (hY r) (head a) (out r));intro it ih a r ai
 cases b5:f a with
 | none=>rw[b5] at ai;simp at ai
 | some x =>
  have U:=h a x b5;rw[b5] at ai
  cases x with
  | inl dU =>
   have hv:it dU=some r:=ai;exact sc.next U (ih dU r hv)
  | inr eQ =>
   have hv:some eQ=some r:=ai;obtain rfl:=dJ hv;exact sc.out U (hex _)
theorem cL {a:Bool}(h:a=true):(!a)=false:=by rw[h];rfl
theorem cM {a:Bool}(h:a=false):(!a)=true:=by rw[h];rfl
theorem rY {bA:Type}{raw:List (List ay)}{f:bA->List ay}{l:List bA}(e:raw=l.map f){i:Nat}{x:bA}(h:l[i]? = some x):raw[i]? = some (f x):=by rw[e];exact JF h
theorem agm {bA:Type}{raw:List (List ay)}{f:bA->List ay}{l:List bA}(e:raw=l.map f){j:Int}(h:j<l.length):j<(raw.length:Nat):=by rw[e];exact Rn h
theorem acC {bA:Type}{raw:List (List ay)}{f:bA->List ay}{l:List bA}(e:raw=l.map f){j:Nat}(h:j<l.length):j<raw.length:=by rw[e];exact RS h
theorem sX {bA:Type}{raw:List (List ay)}{f:bA->List ay}{l:List bA}(e:raw=l.map f)(i:Nat)(x:bA):raw.set i (f x)=(l.set i x).map f:=by rw[e,List.map_set]
theorem agn {bA:Type}{raw:List (List ay)}{f:bA->List ay}{l:List bA}(e:raw=l.map f)(x:List bA):raw++x.map f=(l++x).map f:=by rw[e,List.map_append]
theorem mw {bA:Type}(f:bA->List ay)(n:Nat)(x:bA):List.replicate n (f x)=(List.replicate n x).map f:=by rw[List.map_replicate]
theorem p6 {bA:Type}{raw:List (List ay)}{f:bA->List ay}{l:List bA}(e:raw=l.map f)(i n:Nat):(raw.drop i).take n=((l.drop i).take n).map f:=by rw[e,List.map_take,List.map_drop]
theorem abX {bA:Type}{raw:List (List ay)}{f:bA->List ay}{l:List bA}(e:raw=l.map f):raw.length=l.length:=by rw[e,ah8]
theorem CT {bA:Type}{raw:List (List ay)}{f:bA->List ay}{l:List bA}(e:raw=l.map f)(i n:Nat):((l.drop i).take n).map f=(raw.drop i).take n:=(p6 e i n).symm
theorem rZ {bA:Type}{raw:List (List ay)}{f:bA->List ay}{l:List bA}(e:raw=l.map f){n:Nat}(h:n<=l.length):n<=raw.length:=by rw[abX e];exact h
theorem c9 {bA:Type}{f:bA->List ay}(b5:∀x,∀v∈f x,Pure v)(l:List bA):jA (l.map f):=by intro e he v bb;rw[List.mem_map] at he;obtain⟨x,-,rfl⟩:=he;exact b5 x v bb
theorem abY {bA:Type}{raw:List (List ay)}{f:bA->List ay}{l:List bA}{sz:Nat}{cl:gB}(e:raw=l.map f):[aU.mk sz raw cl]=[aU.mk sz (l.map f) cl]:=by rw[e]
theorem aa7 {bA:Type}{f:bA->List ay}(b5:∀x,∀v∈f x,Pure v){sz:Nat}{cl:gB}(l:List bA):Ax [aU.mk sz (l.map f) cl]:=by intro I ah;rw[List.mem_singleton] at ah;subst ah;exact c9 b5 l
theorem p5 {c:List ay}(h:∀v∈c,Pure v):jA [c]:=by intro e he;rw[List.mem_singleton] at he;subst he;exact h
theorem agf {bA:Type}{raw:List (List ay)}{f:bA->List ay}{l:List bA}(e:raw=l.map f):l.map f=(raw.drop 0).take l.length:=by rw[e,List.drop_zero,dQ (by simp)]
theorem ago {bA:Type}{raw:List (List ay)}{f:bA->List ay}{l:List bA}(e:raw=l.map f):0+l.length<=raw.length:=by rw[e];simp
theorem r6 : ∀x∈([]:List ay),bT x:=by simp
theorem lx {x:ay}{l:List ay}(h:bT x)(t:∀y∈l,bT y): ∀y∈x::l,bT y:=by
 intro y aR;rw[dT] at aR;rcases aR with rfl|aR
 ·exact h
 exact t y aR
theorem Gc {l:List ay}(h:∀y∈l,bT y):bT (.d9 l):= .d9 h
def len_ {bA:Type}(f:bA->List ay)(l:List bA):Int:=((l.map f).length:Nat)
theorem ff {bA:Type}(f:bA->List ay)(l:List bA):len_ f l=(l.length:Nat):=by simp[len_]
def eI (x:Int):List ay:=[.n .i64 x]
def El (x:Int):List ay:=[.n .u8 x]
def fW (x:Bool):List ay:=[.b x]
def yj (x:ByteArray):List ay:=[.s x]
theorem aE : ∀x,∀v∈eI x,Pure v:=by intro x v bb;simp[eI] at bb;subst bb;exact .n _ _
theorem aa8 : ∀x,∀v∈El x,Pure v:=by intro x v bb;simp[El] at bb;subst bb;exact .n _ _
theorem fa : ∀x,∀v∈fW x,Pure v:=by intro x v bb;simp[fW] at bb;subst bb;exact .b _
theorem Ro : ∀x,∀v∈yj x,Pure v:=by intro x v bb;simp[yj] at bb;subst bb;exact .s _
def eH {bA:Type}(sz:Nat)(f:bA->List ay)(l:List bA):List ay:=[.isl sz (l.map f)]
theorem oy {bA:Type}{sz:Nat}{f:bA->List ay}(b5:∀x,∀v∈f x,Pure v): ∀l,∀v∈eH sz f l,Pure v:=by intro l v bb;simp[eH] at bb;subst bb;exact .isl (c9 b5 l)
def vY {bA:Type}(sz:Nat)(f:bA->List ay)(x:Option bA):ay:= .kr sz (x.map f)
def Hu {bA:Type}(sz:Nat)(f:bA->List ay)(x:Option bA):List ay:=[vY sz f x]
theorem abZ {bA:Type}{sz:Nat}{f:bA->List ay}(b5:∀x,∀v∈f x,Pure v)(x:Option bA):Pure (vY sz f x):=by
 cases x with
 | none=>exact .qd _
 | some x=>exact .pD (b5 x)
theorem agp {bA:Type}{sz:Nat}{f:bA->List ay}(b5:∀x,∀v∈f x,Pure v): ∀x,∀v∈Hu sz f x,Pure v:=by intro x v bb;simp[Hu] at bb;subst bb;exact abZ b5 x
theorem ab0 {bA:Type}{sz:Nat}{f:bA->List ay}{x:Option bA}(h:x=none):vY sz f x = .kr sz none:=by rw[h];rfl
theorem ab1 {bA:Type}{sz:Nat}{f:bA->List ay}{x:Option bA}{y:bA}(h:x=some y):vY sz f x = .kr sz (some (f y)):=by rw[h];rfl
theorem bs.Tm {α bA:Type}{Q:α->Prop}{I:Option bA}{x:Option α}{f:bA->Option α}(h1:I=none->bs x Q)(o:∀y,I=some y->bs (f y) Q):bs (I.elim x f) Q:=by
 cases I with
 | none=>exact h1 rfl
 | some y=>exact o y rfl
theorem bs.sum {α β bA:Type}{Q:bA->Prop}{s:α⊕β}{f:α->Option bA}{g:β->Option bA}(h1:∀a,s = .inl a->bs (f a) Q)(o:∀b,s = .inr b->bs (g b) Q):
 bs (match s with | .inl a=>f a | .inr b=>g b) Q:=by
 cases s with
 | inl a=>exact h1 a rfl
 | inr b=>exact o b rfl
theorem xc {bA:Type}{n:Nat}{l:List bA}(h:n=l.length)(i:Nat)(x:bA):n=(l.set i x).length:=by rw[List.length_set];exact h
theorem mS {bA:Type}(n:Nat)(x:bA):n=(List.replicate n x).length:=by rw[List.length_replicate]
theorem mX {bA:Type}{raw:List (List ay)}{f:bA->List ay}{l:List bA}(e:raw=l.map f){n:Nat}(h:n=l.length):(raw.drop 0).take n=l.map f:=by rw[e,h,List.drop_zero,dQ (by simp)]
theorem kx {bA:Type}{rx kY:List (List ay)}{f:bA->List ay}{xs bz:List bA}(hY:rx=xs.map f){n:Nat}(h:n=xs.length)(ja:kY=bz.map f):rx.take n++kY=(xs++bz).map f:=by rw[hY,ja,h,dQ (by simp),List.map_append]
theorem Ju {bA:Type}{rx kY:List (List ay)}{f:bA->List ay}{xs bz:List bA}(hY:rx=xs.map f)(n:Nat)(ja:kY=bz.map f):rx.take n++kY=(xs.take n++bz).map f:=by rw[hY,ja,List.map_append,List.map_take]
theorem k6 {bA:Type}{raw:List (List ay)}{f:bA->List ay}{l:List bA}(e:raw=l.map f){n:Nat}(h:n=l.length):0+n<=raw.length:=by rw[e,h];simp
theorem mT {bA:Type}{raw:List (List ay)}{f:bA->List ay}{l:List bA}(e:raw=l.map f){n:Nat}(h:n=l.length):n<=raw.length:=by rw[e,h];simp
theorem RT {bA:Type}{raw:List (List ay)}{f:bA->List ay}{l:List bA}(e:raw=l.map f):l.length=raw.length:=by rw[e];simp
theorem lO {bA:Type}{kY:List (List ay)}{f:bA->List ay}{xs bz:List bA}{n:Nat}(h:n=xs.length)(ja:kY=bz.map f):(xs++bz).length=n+kY.length:=by rw[ja,h];simp
theorem Jv {bA:Type}{kY:List (List ay)}{f:bA->List ay}{xs bz:List bA}{n:Nat}(h:n<=xs.length)(ja:kY=bz.map f):(xs.take n++bz).length=n+kY.length:=by rw[ja];simp;omega
theorem lu {bA:Type}{raw:List (List ay)}{f:bA->List ay}{l:List bA}(e:raw=l.map f){n:Nat}(h:n=l.length):l.map f=(raw.drop 0).take n:=(mX e h).symm
theorem aac {bA:Type}{f:bA->List ay}(b5:∀x,∀v∈f x,Pure v){sz:Nat}(l:List bA):vd [aU.mk sz (l.map f) .live]:=by intro I ah;rw[List.mem_singleton] at ah;subst ah;exact⟨c9 b5 l,rfl⟩
theorem afX:vd []:=by intro I ah;simp at ah
theorem n3 {bA:Type}{raw:List (List ay)}{f:bA->List ay}{l:List bA}(e:raw=l.map f)(i:Nat){c:List ay}(x:bA)(a8:c=f x):raw.set i c=(l.set i x).map f:=by rw[e,a8,List.map_set]
theorem Con.kp {P:Program}{f:FuncId}{sz:Nat}{T:List (List aU)}{r:ay}{iP:List (List aU)}(h1:Con P f [.fs] T r iP)(o:Con P f [.iV] T r iP):Con P f [.isl sz []] T r iP:=by
 refine⟨h1.1,?_⟩;intro g ax w vs hw hm xM lV er e3 hargs;have h0:0<vs.size:=by rw[e3];simp
 have bb:=hargs 0 (.isl sz []) vs[0] rfl (dS h0)
 have key : ∀y:ay,Rel w ((fg T).ok g ax w) (fg T).a3 ((fg T).bd ax) y vs[0]-> ∀(j:Nat) x v,[y][j]? = some x->vs[j]? = some v->Rel w ((fg T).ok g ax w) (fg T).a3 ((fg T).bd ax) x v:=by
  intro y aR j x v U bb
  match j,U,bb with
  | 0,U,bb =>
   obtain rfl:=dJ U;rw[dS h0] at bb;obtain rfl:=dJ bb;exact aR
  | j+1,U,bb=>simp at U
 rcases bb.tS with ⟨-,a,c,he,bC⟩|⟨ek,off,c,-,he,-⟩
 ·cases a with
  | none =>
   have:=bC rfl;subst this;exact h1.2 g ax w vs hw hm xM lV er e3 (key .fs (by rw[he];exact .fs))
  | some a=>exact o.2 g ax w vs hw hm xM lV er e3 (key .iV (by rw[he];exact .iV a c))
 exact o.2 g ax w vs hw hm xM lV er e3 (key .iV (by rw[he];exact .iV _ c))
end
open Go Go.ChangeShapes Go.WideShapes Go.RowKit
def kO (w:World)(c:List ay)(cs:List Value):Prop :=
 cs.length=c.length/\ ∀(j:Nat) x v,c[j]? = some x->cs[j]? = some v->ky v=true/\Rel w (fun b=>b<w.heap.size) (fun _ _=>False) (fun _ _=>none) x v
theorem kO.nil (w:World):kO w [] []:=⟨rfl,fun j x v U=>by simp at U⟩
theorem kO.one {w:World}{x:ay}{v:Value}(a8:ky v=true)(h:Rel w (fun b=>b<w.heap.size) (fun _ _=>False) (fun _ _=>none) x v):kO w [x] [v]:=by
 refine⟨rfl,fun j y u aR hu=> ?_⟩
 match j,aR,hu with
 | 0,aR,hu=>obtain rfl:=dJ aR;obtain rfl:=dJ hu;exact⟨a8,h⟩
 | j+1,aR,hu=>simp at aR
structure qa (P:Program) (w:World) (t:TypeId) {α:Type} (f:α->List ay) (eS:α->Prop):Prop where
 pure : ∀a,∀v∈f a,Pure v
 size : ∀a,(f a).length=P.cellsOf t
 opens : ∀ {H:Type} {enc:TypeId×Value->H} {base:Nat} {spare:Nat->Bool} {held:Bool} {qJ:Nat} {cs:List Value} {x:DataW H×List MemPlace},
  DataW.trod enc P w base spare held qJ t cs=some x-> ∃a,eS a/\kO w (f a) cs
section
variable {P:Program} {w:World} {t:TypeId}
def pF (x:Int):Prop:=(Lit.int .i64 x).wf=true
theorem Ah (cb:P.underlying t=some (.int .i64))(a8:P.cellsOf t=1):qa P w t eI pF where
 pure:=aE
 size:=fun a=>a8.symm
 opens:=fun h=>by obtain⟨n,rfl,-,hw⟩:=DataW.trod_int cb h;exact⟨n,hw,.one rfl (.n _ _)⟩
theorem ZA (cb:P.underlying t=some .bool)(a8:P.cellsOf t=1):qa P w t fW (fun _=>True) where
 pure:=fa
 size:=fun a=>a8.symm
 opens:=fun h=>by obtain⟨n,rfl,-⟩:=DataW.trod_bool cb h;exact⟨n,trivial,.one rfl (.b _)⟩
theorem YB (cb:P.underlying t=some .string)(a8:P.cellsOf t=1):qa P w t yj (fun s=>s.size<=maxLen) where
 pure:=Ro
 size:=fun a=>a8.symm
 opens:=fun h=>by obtain⟨n,rfl,-,hw⟩:=DataW.trod_string cb h;exact⟨n,hw,.one rfl (.s _)⟩
theorem Rp {α:Type}{Q:Nat->α->Prop}: ∀(n:Nat),(∀i,i<n-> ∃a,Q i a)-> ∃l:List α,l.length=n/\ ∀(i:Nat) a,l[i]? = some a->Q i a
 | 0,_=>⟨[],rfl,fun i a h=>by simp at h⟩
 | n+1,h=>by
  obtain⟨l,h1,o⟩:=Rp n fun i ab=>h i (by omega);obtain⟨a,bC⟩:=h n (by omega);refine⟨l++[a],by simp[h1],fun i x U=> ?_⟩;rw[List.getElem?_append] at U;split at U
  ·exact o i x U
  have:i=l.length:=(by have:=gi U;simp at this;omega);subst this;simp at U;subst U;rw[h1];exact bC
theorem IV {e:TypeId}{α:Type}{f:α->List ay}{eS:α->Prop}{sz:Nat}(cb:P.underlying t=some (.slice e))(a8:P.cellsOf t=1)(e3:P.cellsOf e=sz)(jZ:0<sz)(he:qa P w e f eS):
 qa P w t (eH sz f) (fun l=>l.length<=maxLen/\ ∀x∈l,eS x) where
 pure:=oy he.pure
 size:=fun a=>a8.symm
 opens:=fun h=>by
  rcases DataW.trod_slice cb h with ⟨rfl,-⟩|⟨a,len,cap,elems,rest,n,_,rfl,rfl,aL,aO,hm,hlen,nl,S6,D2⟩
  ·exact⟨[],⟨by simp,by simp⟩,.one rfl (.kp _ _ _ (fun _=>rfl))⟩
  subst e3;have each : ∀i,i<len-> ∃x,eS x/\ ∀j,j<P.cellsOf e-> ∃y v,(f x)[j]? = some y/\w.cell? ((a.add (i*P.cellsOf e)).add j)=some v/\ky v=true/\Rel w (fun b=>b<w.heap.size) (fun _ _=>False) (fun _ _=>none) y v:=(by intro i ab;have h1:=nl i ab;rw[dx (by omega),Option.bind_eq_some_iff] at h1;obtain⟨lY,o,aa⟩:=h1;obtain⟨x,ao,aC,aS⟩:=he.opens aa;refine⟨x,ao,fun j au=> ?_⟩;obtain⟨-,bl,b8⟩:=World.cells?_some o;have aR:(f x)[j]? = some (f x)[j]:=dx (by rw[he.size];exact au);have bb:lY[j]? = some lY[j]:=dx (by omega);obtain⟨d1,d2⟩:=aS j _ _ aR bb;exact⟨_,_,aR,by rw[b8 j au,bb],d1,d2⟩);obtain⟨l,oq,rP⟩:=Rp len each;refine⟨l,⟨by omega,fun x U=> ?_⟩,.one rfl ?_⟩
  ·obtain⟨i,ab⟩:=aia U;exact(rP i x ab).1
  rcases Nat.eq_zero_or_pos len with h0|h0
  ·subst h0;have:l=[]:=dL.1 oq;subst this;exact .kp _ _ _ (by simp)
  obtain⟨ek,off,spot⟩:=a
  have ade:spot=none/\ek<w.heap.size:=by
   obtain⟨x,-,o⟩:=each 0 h0;obtain⟨y,v,-,aa,-⟩:=o 0 jZ;simp only[Nat.zero_mul,Addr.add,if_true] at aa;unfold World.cell? at aa
   cases gf:w.heap[ek]? with
   | none=>simp[gf] at aa
   | some I =>
    have dZ:=(ah3.1 gf).1;refine⟨?_,dZ⟩;simp only[gf] at aa;cases I<;>simp at aa
    cases spot with
    | none=>rfl
    | some _=>simp at aa
  obtain⟨rfl,uh⟩:=ade;have iX:pi w (fun b=>b<w.heap.size) (fun _ _=>False) (fun _ _=>none) ek off (P.cellsOf e) (l.map f):=(by have hle : ∀z∈l.map f,z.length=P.cellsOf e:=(by intro z cj;rw[List.mem_map] at cj;obtain⟨x,-,rfl⟩:=cj;exact he.size x);refine⟨hle,fun j x U=> ?_⟩;have au:j<len*P.cellsOf e:=(by have:=gi U;rw[sI _ hle,ah8,oq] at this;exact this);have ab:j / P.cellsOf e<len:=Nat.div_lt_of_lt_mul (by rw[Nat.mul_comm];exact au);have ai:j % P.cellsOf e<P.cellsOf e:=Nat.mod_lt _ jZ;have rE:j=j / P.cellsOf e*P.cellsOf e+j % P.cellsOf e:=(by rw[Nat.mul_comm];exact(Nat.div_add_mod j _).symm);have Tn:l[j / P.cellsOf e]? = some (l[j / P.cellsOf e]'(by omega)):=dx _;have aeu:(l.map f)[j / P.cellsOf e]? = some (f (l[j / P.cellsOf e]'(by omega))):=JF Tn;obtain⟨y,v,e1,aD,bH,cX⟩:=(rP _ _ Tn).2 _ ai;have j0:=CI hle aeu ai;rw[<- rE,U,e1] at j0;obtain rfl:=dJ j0;refine⟨v,?_,bH,cX⟩;rw[rV,rV] at aD;rw[rE];rw[Nat.add_assoc] at aD;exact aD);have:=iX.isl (c:=cap) ⟨uh,c9 he.pure l⟩ (by rw[ah8];omega);rw[ah8,oq] at this;exact this
theorem kO.aH {bl b8:List ay}{cs:List Value}{I n:Nat}(h1:kO w bl ((cs.drop I).take n))(o:kO w b8 (cs.drop (I+n)))(aX:bl.length=n):kO w (bl++b8) (cs.drop I):=by
 obtain⟨e1,aD⟩:=h1;obtain⟨f1,f2⟩:=o;have acD:cs.drop I=(cs.drop I).take n++cs.drop (I+n):=by rw[<- List.drop_drop,List.take_append_drop]
 rw[acD];refine⟨by rw[dE,dE,e1,f1],fun j x v U bb=> ?_⟩;rw[List.getElem?_append] at U bb;rw[e1] at bb;split at U
 ·rename_i au;rw[dw au] at bb;exact aD j x v U bb
 rename_i au;rw[dA au] at bb;exact f2 _ x v U bb
theorem IK {lf:Array Field}(cb:P.underlying t=some (.struct lf)){H:Type}{enc:TypeId×Value->H}{base:Nat}{spare:Nat->Bool}{held:Bool}{qJ:Nat}{cs:List Value}{x:DataW H×List MemPlace}
 (h:DataW.trod enc P w base spare held qJ t cs=some x) :
 cs.length=P.cellsOf t/\ ∀(i:Nat) (fd:Field),lf[i]? = some fd-> ∀ {α:Type} {f:α->List ay} {eS:α->Prop},qa P w fd.type f eS-> ∃a,eS a/\kO w (f a) ((cs.drop fd.offset).take (P.cellsOf fd.type)):=by
 obtain⟨xs,n,-,-,h1,o,aa⟩:=DataW.trod_struct cb h;refine⟨h1,fun i fd vH α f eS ah=> ?_⟩;have ab:i<xs.length:=by rw[o];exact(ah3.1 vH).1
 have ao:=aa i fd vH;rw[dx ab] at ao;exact ah.opens ao
theorem tQ {lf:Array Field}{cs:List Value}
 (h : ∀(i:Nat) (fd:Field),lf[i]? = some fd-> ∀ {α:Type} {f:α->List ay} {eS:α->Prop},qa P w fd.type f eS-> ∃a,eS a/\kO w (f a) ((cs.drop fd.offset).take (P.cellsOf fd.type)))
 (i off n:Nat) {fd:Field} (vH:lf[i]? = some fd) (ah:fd.offset=off) (aX:P.cellsOf fd.type=n) {α:Type} {f:α->List ay} {eS:α->Prop} (I:qa P w fd.type f eS) : ∃a,eS a/\kO w (f a) ((cs.drop off).take n):=by
 subst ah;subst aX;exact h i fd vH I
theorem kO.end_ {cs:List Value}{n:Nat}(h:cs.length<=n):kO w [] (cs.drop n):=by rw[List.drop_of_length_le h];exact .nil w
theorem YC {x:ay}{v:Value}(h:kO w [x] v.cells.toList)(bb:∀cs,v≠ .agg cs):Rel w (fun b=>b<w.heap.size) (fun _ _=>False) (fun _ _=>none) x v:=by
 have a8:v.cells.toList=[v]:=by cases v<;>first|rfl|exact absurd rfl (bb _)
 rw[a8] at h;exact(h.2 0 x v rfl rfl).2
theorem ZB {c:List ay}{cs:Array Value}(h:kO w c (Value.agg cs).cells.toList):Rel w (fun b=>b<w.heap.size) (fun _ _=>False) (fun _ _=>none) (.agg c) (.agg cs):=by have a8:(Value.agg cs).cells.toList=cs.toList:=rfl;rw[a8] at h;have o:=Rel.agg (c:=c) cs.toList h.1 (fun j v bb=>by have au:=gi bb;have U:c[j]? = some (c[j]'(by rw[<- h.1];exact au)):=dx _;exact(h.2 j _ v U bb).1) (fun j x v U bb=>(h.2 j x v U bb).2);simpa using o
theorem arg_one {α:Type}{f:α->ay}{F:α->List ay}{eS:α->Prop}(ah:qa P w t F eS)(vZ:∀a,F a=[f a]){H:Type}{enc:TypeId×Value->H}{base:Nat}{spare:Nat->Bool}{held:Bool}{v:Value}{d:DataW H}{jS:List MemPlace}
 (h:DataW.Trod enc P w base spare held t v d jS) (bb : ∀cs,v≠ .agg cs) : ∃a,eS a/\Rel w (fun b=>b<w.heap.size) (fun _ _=>False) (fun _ _=>none) (f a) v:=by
 obtain⟨qJ,b5⟩:=h;obtain⟨a,h1,o⟩:=ah.opens b5;rw[vZ] at o;exact⟨a,h1,YC o bb⟩
theorem arg_agg {α:Type}{F:α->List ay}{eS:α->Prop}(ah:qa P w t F eS){H:Type}{enc:TypeId×Value->H}{base:Nat}{spare:Nat->Bool}{held:Bool}{cs:Array Value}{d:DataW H}{jS:List MemPlace}
 (h:DataW.Trod enc P w base spare held t (.agg cs) d jS) : ∃a,eS a/\Rel w (fun b=>b<w.heap.size) (fun _ _=>False) (fun _ _=>none) (.agg (F a)) (.agg cs):=by
 obtain⟨qJ,b5⟩:=h;obtain⟨a,h1,o⟩:=ah.opens b5;exact⟨a,h1,ZB o⟩
def Ay (w:World)(args:List ay)(vs:List Value):Prop :=
 vs.length=args.length/\ ∀(j:Nat) x v,args[j]? = some x->vs[j]? = some v->Rel w (fun b=>b<w.heap.size) (fun _ _=>False) (fun _ _=>none) x v
theorem Ay.nil:Ay w [] []:=⟨rfl,fun j x v U=>by simp at U⟩
theorem Ay.cons {x:ay}{v:Value}{args:List ay}{vs:List Value}(h:Rel w (fun b=>b<w.heap.size) (fun _ _=>False) (fun _ _=>none) x v)(t:Ay w args vs):Ay w (x::args) (v::vs):=by
 refine⟨by simp[t.1],fun j y u aR hu=> ?_⟩
 match j,aR,hu with
 | 0,aR,hu=>obtain rfl:=dJ aR;obtain rfl:=dJ hu;exact h
 | j+1,aR,hu=>exact t.2 j y u (by simpa using aR) (by simpa using hu)
theorem trod_lt' {H:Type}{enc:TypeId×Value->H}{base:Nat}{spare:Nat->Bool}{held:Bool}{v:Value}{d:DataW H}{jS:List MemPlace}(h:DataW.Trod enc P w base spare held t v d jS): ∀p∈jS,p.block<w.heap.size:=by obtain⟨qJ,b5⟩:=h;exact DataW.trod_lt qJ t v.cells.toList (d,jS) b5
theorem Con.row {f:FuncId}{args:List ay}{b:Bool}(h:Con P f args [] (.b b) []){vs:List Value}(bC:Ay w args vs):
 Calls P f vs.toArray w fun e bJ=>e = .returned (.bool b)/\Below w.heap.size w bJ:=by
 let g:G:={nr:=w,A:=fun b=>b<w.heap.size,qn:=fun _=>False,N:=0,m:=0,pJ:=(fg []).a3,si:=(fg []).bd fun _ _=>none}
 have bm : ∀r k,(fg []).af r k=none:=by intro r k;simp[S.af,fg,df]
 have er:iK g (fg []) (fun _ _=>none) w:=by
  have jP : ∀j k,¬(fg []).a3 j k:=fun j k au=>(by simp[S.a3,fg] at au);refine⟨?_,?_,?_,⟨rfl,rfl,rfl,dG _,fun _ _ _=>rfl⟩,?_,?_,?_,?_⟩
  ·intro r k I ah;rw[bm] at ah;simp at ah
  ·intro r k I eQ dc b3 b m bi ah;rw[bm] at ah;simp at ah
  ·intro r k I b m ah;rw[bm] at ah;simp at ah
  ·intro b aL;exact aL.elim
  ·intro b aL;exact aL
  ·intro j k au;exact absurd au (jP j k)
  intro j k au;exact absurd au (jP j k)
 have a8:=h.2 g (fun _ _=>none) w vs.toArray rfl rfl rfl rfl er (by simpa using bC.1) (fun j x v U bb=>(bC.2 j x v U (by simpa using bb)).mono
  (fun b aL=>⟨aL,.inl aL,fun aO=>by obtain⟨r,k,I,m,h1,-⟩:=aO;rw[bm] at h1;simp at h1⟩) (fun _ _=>rfl) (fun r k ai=>ai.elim) (fun r k ai=>ai.elim))
 refine a8.mono fun e bJ a1=> ?_;obtain⟨v,bL,rfl,h1,o⟩:=a1;have bb:=o.vm;subst bb;exact⟨rfl,h1.gW.os,h1.gW.tape,h1.gW.output,h1.gW.size,fun k aZ=>h1.gW.block k aZ id⟩
end
abbrev ahN:aU:=⟨0,[],.gone⟩
abbrev b9:=Option (Nat×Nat)
abbrev mq (eb c sz:Nat)(h:b9):ay:= .jj eb c sz h
def bZ (eb c sz:Nat)(h:b9):List ay:=[mq eb c sz h]
theorem agq {eb c sz:Nat}{h:b9}(e:h=none):kR (mq eb c sz h) (.isl sz []):=by rw[e];exact .n1 _ _ _
theorem mU {eb c sz:Nat}{h:b9}{p:Nat×Nat}(e:h=some p):kR (mq eb c sz h) (.bu eb (p.1+c) 0 p.2):=by rw[e];exact .s1 _ _ _ _ _
theorem Sq {x v:ay}(e:x=v):kR x v:=e▸ .refl x
def Bg:List ay->List ay->Prop
 | [],[]=>True
 | a::l,b::m=>kR a b/\Bg l m
 | _,_=>False
theorem Bg.at_ : ∀ {l m:List ay},Bg l m->m.length=l.length/\ ∀(j:Nat) x cN,l[j]? = some x->m[j]? = some cN->kR x cN
 | [],[],_=>⟨rfl,fun j x cN h=>by simp at h⟩
 | a::l,b::m,h=>⟨by simp[(Bg.at_ h.2).1],fun j x cN U dY=>by
  cases j with
  | zero=>simp at U dY;subst U;subst dY;exact h.1
  | succ j=>exact(Bg.at_ h.2).2 j x cN (by simpa using U) (by simpa using dY)⟩
 | [],_::_,h=>h.elim
 | _::_,[],h=>h.elim
theorem agv {l m:List ay}(h:Bg l m):kR (.agg l) (.agg m):= .agg h.at_.1 h.at_.2
theorem adf {b4:Nat->Option Nat}{eb rH c sz:Nat}(cb:b4 eb=some rH)(h:b9):oM b4 (mq eb c sz h)=mq rH c sz h:=by simp only[mq,oM,cb]
theorem adg {aW:g9}{eb rH c d6 sz:Nat}(hm:∀k,aW rH (k+d6)=some (eb,k+c))(h:b9):Bf aW (mq eb c sz h) (mq rH d6 sz h):= .inr (.inr (.inr ⟨eb,c,sz,h,rH,d6,rfl,hm,rfl⟩))
theorem adh (eb c sz:Nat)(h:b9):bT (mq eb c sz h):= .jj _ _ _ _
def kf {α:Type}(cl:gB)(sz:Nat)(f:α->List ay)(l:List α):aU:=⟨sz,l.map f,cl⟩
section
variable {α:Type} {sz:Nat} {cl:gB} {f:α->List ay} {P:List (List α)} {raw:List aU}
theorem ko (e:raw=P.map (kf cl sz f))(aZ:cl≠ .gone){k:Nat}{l:List α}(h:P[k]? = some l):df (some raw) k=some (aU.mk sz (l.map f) cl):=by rw[e,kP,dK,h];exact dA aZ
theorem jK:gB.live≠ .gone:=by simp
theorem ahO:gB.jF≠ .gone:=by simp
theorem agw (e:raw=P.map (kf .live sz f)):my raw=P.map (kf .jF sz f):=by rw[e];unfold my;rw[List.map_map];rfl
theorem agx (P:List (List α)):P.map (kf cl sz f)=P.map (kf cl sz f):=rfl
theorem p7 (e:raw=P.map (kf cl sz f))(k:Nat){l:List α}{es:List (List ay)}(aO:es=l.map f):raw.set k (aU.mk sz es cl)=(P.set k l).map (kf cl sz f):=by rw[e,aO,List.map_set];rfl
theorem RU (cl:gB)(sz:Nat)(f:α->List ay):([]:List aU)=([]:List (List α)).map (kf cl sz f):=rfl
theorem JV (e:raw=P.map (kf cl sz f)){n:Nat}(h:n=P.length):raw.length=n:=by rw[e,h,ah8]
theorem aa9 (a b n:Nat): ∀ {x:ay},Pure x->lc a b n x=x:=by
 intro x h;have aO : ∀c:List ay,(∀x∈c,lc a b n x=x)->lc.Ba a b n c=c:=by intro c a8;rw[F8];exact(ah9 a8).trans (List.map_id _)
 induction h with
 | agg h ih=>rw[lc,aO _ ih]
 | d9 h ih=>rw[lc,aO _ ih]
 | _=>rfl
theorem aba (ae:∀x,∀v∈f x,Pure v)(a b n:Nat){es:List (List ay)}{l:List α}(e:es=l.map f):es.map (fun e=>e.map (lc a b n))=l.map f:=by rw[e,List.map_map];refine ah9 fun x _=> ?_;exact(ah9 fun v bb=>aa9 a b n (ae x v bb)).trans (List.map_id _)
theorem Gd (e:raw=P.map (kf cl sz f)){Q:List (List α)}{bM:List aU}(h:bM=Q.map (kf cl sz f)):raw++bM=(P++Q).map (kf cl sz f):=by rw[e,h,List.map_append]
theorem Gp (ae:∀x,∀v∈f x,Pure v)(a b n:Nat){es:List (List ay)}{l:List α}(h:es=l.map f){bM:List aU}{Q:List (List α)}(t:bM.map (m8 a b n)=Q.map (kf cl sz f)):
 (aU.mk sz es cl::bM).map (m8 a b n)=(l::Q).map (kf cl sz f):=by
 simp only[List.map_cons,t,m8,aba ae a b n h];rfl
theorem Gq (a b n:Nat):([]:List aU).map (m8 a b n)=([]:List (List α)).map (kf cl sz f):=rfl
def i7 (P:List (List α)):b9->List α
 | none=>[]
 | some (k,n)=>(P.getD k []).take n
def sq (P:List (List α)):b9->Bool
 | none=>true
 | some (k,n)=>decide (k<P.length) && decide (n<=(P.getD k []).length)
def Bh (eb:Nat)(jO:List aU)(bU:gB->Bool):List ay->List ay->Prop
 | [],[]=>True
 | a::l,b::m=>Ea eb jO bU a b/\Bh eb jO bU l m
 | _,_=>False
theorem Rq {eb:Nat}{jO:List aU}{bU:gB->Bool}: ∀ {l m:List ay},Bh eb jO bU l m->m.length=l.length
 | [],[],_=>rfl
 | _::_,_::_,h=>by simp[Rq h.2]
 | [],_::_,h=>h.elim
 | _::_,[],h=>h.elim
theorem RV {eb:Nat}{jO:List aU}{bU:gB->Bool}: ∀ {l m:List ay},Bh eb jO bU l m-> ∀(j:Nat) x cN,l[j]? = some x->m[j]? = some cN->Ea eb jO bU x cN
 | _::_,_::_,h,0,x,cN,h1,o=>by simp at h1 o;subst h1;subst o;exact h.1
 | _::_,_::_,h,j+1,x,cN,h1,o=>RV h.2 j x cN (by simpa using h1) (by simpa using o)
 | [],_,_,_,_,_,h1,_=>by simp at h1
theorem agy {eb:Nat}{jO:List aU}{bU:gB->Bool}{x:ay}(h:x.jg=true):Ea eb jO bU x x:= .inl ⟨rfl,h⟩
theorem adi {eb c:Nat}{sd:List aU}{bU:gB->Bool}(e:raw=P.map (kf cl sz f))(ae:∀x,∀v∈f x,Pure v)(a8:sd.length=c)(aZ:cl≠ .gone)(bC:bU cl=true): ∀ {h:b9},sq P h=true ->
 Ea eb (sd++raw) bU (mq eb c sz h) (.isl sz ((i7 P h).map f))
 | none,_=> .inr (.inl ⟨c,sz,rfl,rfl⟩)
 | some (k,n),mG=>by
  simp only[sq,ahU,decide_eq_true_eq] at mG;obtain⟨h1,o⟩:=mG;have To:P[k]? = some P[k]:=dx h1;have dj:P.getD k []=P[k]:=(by simp[List.getD,To]);rw[dj] at o;refine .inr (.inr ⟨k+c,0,n,aU.mk sz (P[k].map f) cl,.inr ⟨c,sz,k,rfl,rfl,rfl⟩,?_,bC,by simpa using o,?_,?_⟩)
  ·have:=ko e aZ To;rw[kP] at this ⊢;rw[aib (by omega),a8,show k+c-c=k by omega];exact this
  ·intro e he x U;rw[List.drop_zero] at he;have he:=List.mem_of_mem_take he;rw[List.mem_map] at he;obtain⟨y,-,rfl⟩:=he;exact ae y x U
  simp only[i7,dj,List.drop_zero,List.map_take]
end
theorem xj {α β:Type}{f:α->List ay}{g:β->List ay}{v:α->β}{eb:Nat}{jO:List aU}{bU:gB->Bool}{sz:Nat}{raw:List (List ay)}{xs:List α}(e:raw=xs.map f)(dj:∀y,(g y).length=sz)
 (h : ∀x∈xs,Bh eb jO bU (f x) (g (v x))) {n:Nat} (aX:n=xs.length):ER eb jO bU sz ((raw.drop 0).take n) ((xs.map v).map g):=by
 have e0:(raw.drop 0).take n=xs.map f:=by rw[List.drop_zero,aX,e,dQ (by simp)]
 rw[e0];have b5 : ∀x∈xs,(f x).length=sz:=fun x U=>by rw[<- Rq (h x U),dj]
 refine⟨by simp,fun e he=> ?_,fun j x cN U dY=> ?_⟩
 ·rw[List.mem_map] at he;obtain⟨y,-,rfl⟩:=he;exact dj y
 rcases Nat.eq_zero_or_pos sz with h0|bX
 ·have : ∀l:List α,(∀x∈l,(f x).length=sz)->(l.map f).flatten=[]:=by
   intro l aO
   induction l with
   | nil=>rfl
   | cons a l ih =>
    have h1:=aO a (by simp);rw[h0] at h1;rw[List.map_cons,ahW,ih fun x U=>aO x (by simp[U]),dL.1 h1];rfl
  rw[this xs b5] at U;simp at U
 rw[p2 bX _ (by intro e he;rw[List.mem_map] at he;obtain⟨y,aR,rfl⟩:=he;exact b5 y aR)] at U;rw[p2 bX _ (by intro e he;rw[List.mem_map] at he;obtain⟨y,-,rfl⟩:=he;exact dj y)] at dY;rw[dK,dK] at dY;rw[dK] at U
 cases aR:xs[j / sz]? with
 | none=>rw[aR] at U;simp at U
 | some y =>
  rw[aR] at U dY;simp only[dR,dB] at U dY;exact RV (h y (dH aR)) _ x cN U dY
theorem agr {eb:Nat}{jO:List aU}{bU:gB->Bool}{sz:Nat}{α:Type}{f:α->List ay}{raw:List (List ay)}{l:List α}(e:raw=l.map f)(aO:∀x,(f x).length=sz)(aX:∀x,∀v∈f x,v.jg=true){bE n:Nat}(iS:bE+n<=raw.length):
 ER eb jO bU sz ((raw.drop bE).take n) (((l.drop bE).take n).map f):=by
 have e1:(raw.drop bE).take n=((l.drop bE).take n).map f:=by rw[e,List.map_take,List.map_drop]
 rw[e1];refine⟨rfl,fun e he=> ?_,fun j x cN U dY=> ?_⟩
 ·rw[List.mem_map] at he;obtain⟨y,-,rfl⟩:=he;exact aO y
 rw[U] at dY;simp at dY;subst dY;obtain⟨e,he,rD⟩:=tH U;rw[List.mem_map] at he;obtain⟨y,-,rfl⟩:=he;exact .inl ⟨rfl,aX y x rD⟩
section
variable {b4:Nat->Option Nat}
theorem nA:([]:List aU)=([]:List aU).map (j1 b4):=rfl
theorem gG {I b3:aU}{l fC:List aU}(h:b3=j1 b4 I)(t:fC=l.map (j1 b4)):b3::fC=(I::l).map (j1 b4):=by rw[h,t];rfl
theorem Sr {α:Type}{sz:Nat}{cl:gB}{f ku:α->List ay}{raw:List (List ay)}{xs:List α}(e:raw=xs.map f)(h:∀x,(f x).map (oM b4)=ku x):aU.mk sz (xs.map ku) cl=j1 b4 (aU.mk sz raw cl):=by simp only[j1,e,List.map_map,aU.mk.injEq,true_and,and_true];exact ah9 fun x _=>(h x).symm
theorem n6 {α:Type}{cl:gB}{sz:Nat}{f:α->List ay}{raw:List aU}{P:List (List α)}(e:raw=P.map (kf cl sz f))(h:∀x,(f x).map (oM b4)=f x):P.map (kf cl sz f)=raw.map (j1 b4):=by rw[e,List.map_map];refine ah9 fun l _=> ?_;exact Sr rfl h
theorem agG {α:Type}(sz:Nat)(f:α->List ay)(I:Option α):oM b4 (vY sz f I)=vY sz f I:=by cases I<;>rfl
theorem ve:nj []:=fun I h=>by simp at h
theorem lM {I:aU}{l:List aU}(h:I.cl = .live)(t:nj l):nj (I::l):=fun p ae=>by
 rcases dT.1 ae with e|e
 ·rw[e];exact .inl h
 exact t p e
theorem af5 {I:aU}{l:List aU}(h:I.cl = .gone)(t:nj l):nj (I::l):=fun p ae=>by
 rcases dT.1 ae with e|e
 ·rw[e];exact .inr h
 exact t p e
theorem Jc {α:Type}{sz:Nat}{f:α->List ay}{raw:List aU}{P:List (List α)}(e:raw=P.map (kf .live sz f)):nj raw:=fun I ah=>by rw[e,List.mem_map] at ah;obtain⟨l,-,rfl⟩:=ah;exact .inl rfl
end
section
variable {aW:g9}
theorem RW:td aW [] []:=⟨rfl,fun k I b3 h=>by simp at h⟩
def Tp (aW:g9)(I b3:aU):Prop:=b3.sz=I.sz/\b3.cl=I.cl/\b3.es.length=I.es.length/\(∀e∈b3.es,e.length=I.sz) /\
 ∀(j:Nat) x cN,I.es.flatten[j]? = some x->b3.es.flatten[j]? = some cN->Bf aW x cN
theorem Rr {I b3:aU}{l fC:List aU}(h:Tp aW I b3)(t:td aW l fC):td aW (I::l) (b3::fC):=by
 refine⟨by simp[t.1],fun k p kI ae lE=> ?_⟩
 cases k with
 | zero=>simp at ae lE;subst ae;subst lE;exact h
 | succ k=>exact t.2 k p kI (by simpa using ae) (by simpa using lE)
def Bi (aW:g9):List ay->List ay->Prop
 | [],[]=>True
 | a::l,b::m=>Bf aW a b/\Bi aW l m
 | _,_=>False
theorem Rs : ∀ {l m:List ay},Bi aW l m->m.length=l.length
 | [],[],_=>rfl
 | _::_,_::_,h=>by simp[Rs h.2]
 | [],_::_,h=>h.elim
 | _::_,[],h=>h.elim
theorem RX : ∀ {l m:List ay},Bi aW l m-> ∀(j:Nat) x cN,l[j]? = some x->m[j]? = some cN->Bf aW x cN
 | _::_,_::_,h,0,x,cN,h1,o=>by simp at h1 o;subst h1;subst o;exact h.1
 | _::_,_::_,h,j+1,x,cN,h1,o=>RX h.2 j x cN (by simpa using h1) (by simpa using o)
 | [],_,_,_,_,_,h1,_=>by simp at h1
theorem agz {x:ay}(h:x.jg=true):Bf aW x x:= .inl ⟨rfl,h⟩
theorem Ka {α:Type}{sz:Nat}{cl:gB}{f ku:α->List ay}{raw:List (List ay)}{xs:List α}(e:raw=xs.map f)(aO:∀x,(ku x).length=sz)(h:∀x,Bi aW (f x) (ku x)):Tp aW (aU.mk sz raw cl) (aU.mk sz (xs.map ku) cl):=by
 subst e;refine⟨rfl,rfl,by simp,fun e he=> ?_,fun j x cN U dY=> ?_⟩
 ·simp only[List.mem_map] at he;obtain⟨y,-,rfl⟩:=he;exact aO y
 simp only at U dY;rcases Nat.eq_zero_or_pos sz with h0|bX
 ·have:(xs.map ku).flatten=[]:=by
   induction xs with
   | nil=>rfl
   | cons a l ih =>
    have h1:=aO a;rw[h0] at h1
    have o:(l.map ku).flatten=[]:=by
     clear ih U dY
     induction l with
     | nil=>rfl
     | cons b l ih =>
      have h1:=aO b;rw[h0] at h1;rw[List.map_cons,ahW,ih,dL.1 h1];rfl
    rw[List.map_cons,ahW,o,dL.1 h1];rfl
  rw[this] at dY;simp at dY
 have aev : ∀x,(f x).length=sz:=fun x=>by rw[<- Rs (h x),aO]
 rw[p2 bX _ (by intro e he;rw[List.mem_map] at he;obtain⟨y,-,rfl⟩:=he;exact aev y)] at U;rw[p2 bX _ (by intro e he;rw[List.mem_map] at he;obtain⟨y,-,rfl⟩:=he;exact aO y)] at dY;rw[dK] at U dY
 cases aR:xs[j / sz]? with
 | none=>rw[aR] at U;simp at U
 | some y =>
  rw[aR] at U dY;simp only[dR,dB] at U dY;exact RX (h y) _ x cN U dY
theorem abb {l:List ay}(h:∀v∈l,v.jg=true):Bi aW l l:=by
 induction l with
 | nil=>trivial
 | cons a l ih=>exact⟨.inl ⟨rfl,h a (by simp)⟩,ih fun v bb=>h v (by simp[bb])⟩
theorem Rt {α:Type}{cl:gB}{sz:Nat}{f:α->List ay}{raw:List aU}{P:List (List α)}(e:raw=P.map (kf cl sz f))(aO:∀x,(f x).length=sz)(aX:∀x,∀v∈f x,v.jg=true):td aW raw (P.map (kf cl sz f)):=by subst e;refine⟨rfl,fun k I b3 ah ea=> ?_⟩;rw[ah] at ea;simp at ea;subst ea;rw[dK,dO] at ah;obtain⟨l,-,rfl⟩:=ah;exact Ka rfl aO fun x=>abb (aX x)
end
theorem sY:pK []:=fun row h=>by simp at h
theorem sT {row:List aU}{T:List (List aU)}(h:∀I∈row,∀e∈I.es,∀x∈e,bT x)(t:pK T):pK (row::T):=fun r ai=>by
 rcases dT.1 ai with e|e
 ·rw[e];exact h
 exact t r e
theorem sZ : ∀I∈([]:List aU),∀e∈I.es,∀x∈e,bT x:=fun I h=>by simp at h
theorem n4 {I:aU}{row:List aU}(h:∀e∈I.es,∀x∈e,bT x)(t:∀I∈row,∀e∈I.es,∀x∈e,bT x): ∀p∈I::row,∀e∈p.es,∀x∈e,bT x:=fun p ae=>by
 rcases dT.1 ae with e|e
 ·rw[e];exact h
 exact t p e
theorem nB {α:Type}{sz:Nat}{cl:gB}{f:α->List ay}{xs:List α}(h:∀x,∀v∈f x,bT v): ∀e∈(aU.mk sz (xs.map f) cl).es,∀x∈e,bT x:=fun e he x U=>by simp only[List.mem_map] at he;obtain⟨y,-,rfl⟩:=he;exact h y x U
theorem agh {α:Type}{cl:gB}{sz:Nat}{f:α->List ay}{P:List (List α)}(h:∀x,∀v∈f x,bT v): ∀I∈P.map (kf cl sz f),∀e∈I.es,∀x∈e,bT x:=fun I ah=>by rw[List.mem_map] at ah;obtain⟨l,-,rfl⟩:=ah;exact nB h
theorem Gr : ∀x,∀v∈eI x,bT v:=fun x v h=>by simp[eI] at h;subst h;exact .n _ _
theorem agH : ∀x,∀v∈fW x,bT v:=fun x v h=>by simp[fW] at h;subst h;exact .b _
theorem agI : ∀x,∀v∈yj x,bT v:=fun x v h=>by simp[yj] at h;subst h;exact .s _
theorem qb : ∀x,∀v∈eI x,v.jg=true:=fun x v h=>by simp[eI] at h;subst h;rfl
theorem Ss : ∀x,∀v∈fW x,v.jg=true:=fun x v h=>by simp[fW] at h;subst h;rfl
theorem agJ : ∀x,∀v∈yj x,v.jg=true:=fun x v h=>by simp[yj] at h;subst h;rfl
theorem ags {l:List ay}(h:∀x∈l,bT x):bT (.d9 l):= .d9 h
theorem JG : ∀x∈([]:List ay),bT x:=fun x h=>by simp at h
theorem tR {a:ay}{l:List ay}(h:bT a)(t:∀x∈l,bT x): ∀x∈a::l,bT x:=fun x U=>by
 rcases dT.1 U with e|e
 ·rw[e];exact h
 exact t x e
theorem vo {b4:Nat->Option Nat}{eb rH c sz:Nat}(cb:b4 eb=some rH)(h:b9):(bZ eb c sz h).map (oM b4)=bZ rH c sz h:=by simp only[bZ,List.map_cons,List.map_nil,adf cb]
theorem St {aW:g9}{eb rH c d6 sz:Nat}(hm:∀k,aW rH (k+d6)=some (eb,k+c))(h:b9):Bi aW (bZ eb c sz h) (bZ rH d6 sz h):=⟨adg hm h,trivial⟩
theorem agK (eb c sz:Nat): ∀x,∀v∈bZ eb c sz x,bT v:=fun x v h=>by simp[bZ] at h;subst h;exact adh _ _ _ x
theorem Bj {α:Type}{sz:Nat}{cl:gB}{f:α->List ay}{P:List (List α)}{raw:List aU}{eb c:Nat}{sd:List aU}{bU:gB->Bool}(e:raw=P.map (kf cl sz f))(ae:∀x,∀v∈f x,Pure v)(a8:sd.length=c)(aZ:cl≠ .gone)(bC:bU cl=true)
 {h:b9} (ab:sq P h=true):Bh eb (sd++raw) bU (bZ eb c sz h) (eH sz f (i7 P h)):=⟨adi e ae a8 aZ bC ab,trivial⟩
theorem AJ {α:Type}{p:α->Bool}{l:List α}(h:l.all p=true): ∀x∈l,p x=true:=List.all_eq_true.1 h
theorem agL {bA:Type}{sz:Nat}{f:bA->List ay}: ∀l,∀v∈eH sz f l,v.jg=true:=fun l v h=>by simp[eH] at h;subst h;rfl
theorem agM {bA:Type}{sz:Nat}{f:bA->List ay}: ∀l,∀v∈Hu sz f l,v.jg=true:=fun l v h=>by simp[Hu] at h;subst h;rfl
theorem nk {α:Type}{f:α->List ay}(h:∀x,∀v∈f x,v.jg=true){b4:Nat->Option Nat}(x:α):(f x).map (oM b4)=f x:=by refine(ah9 fun v bb=> ?_).trans (List.map_id _);have:=h x v bb;cases v<;>simp[ay.jg] at this<;>simp[oM,ay.jg]
theorem agA : ∀x,∀v∈El x,v.jg=true:=fun x v h=>by simp[El] at h;subst h;rfl
def aj:Nat->List (fc×Bool)->List (fc×Bool)
 | 0,l=>l
 | n+1,l=>afs::aj n l
def cQ:Nat->List (fc×Bool)->List (fc×Bool)
 | 0,l=>l
 | n+1,l=>aft::cQ n l
def ak (a:fc)(l:List (fc×Bool)):List (fc×Bool):=(a,true)::l
def kZ (n:Nat)(r:ay)(eu:Bool)(eM:List Nat:=[]):fc:= .call {ac:=List.replicate n ii,r:=r,eu:=eu,eM:=eM}
def bk:List Nat->List (Nat×lI)
 | []=>[]
 | n::l=>(n,ii)::bk l
def aew (n:Nat):lI:= .bl (.cW (.len n))
structure q4 where
 x:Option Nat
 env:List (Nat×ay)
 rows:List (List aU)
def q4.e (I:q4):yi:=match I.x with
 | some i=> .exit i
 | none=> .ret
def q4.c3 (I:q4):S:=db I.env I.rows
def q4.afu (I:q4):bO:= .sub I.e I.env I.rows
theorem q4.ne (I:q4):I.e.x≠ .normal:=by unfold q4.e;split<;>simp[yi.x]
section
variable {P:Program} {N m:Nat} {α β:Type}
def Ud (P:Program)(N m f:Nat)(p:List Nat)(s:S)(head:α->S)(out:β->q4):α⊕β->Prop
 | .inl a=>jR P N m (nodeAt (JU P f) p) .normal s (head a)
 | .inr r=>jR P N m (nodeAt (JU P f) p) (out r).e.x s (out r).c3
def Ue (P:Program)(N m f:Nat)(p:List Nat)(head:α->S)(out:β->q4)(a:α)(r:β):Prop :=
 jR P N m (.loop (nodeAt (JU P f) p)) (out r).e.x (head a) (out r).c3
theorem abc {f:Nat}{p:List Nat}{b:α->Option (α⊕β)}{head:α->S}{out:β->q4}(h:∀a,bs (b a) (Ud P N m f p (head a) head out)){a:α}{r:β}(ai:iter b a=some r):Ue P N m f p head out a r :=
 (abW (head:=head) (hY:=fun r=>(out r).e.x) (out:=fun r=>(out r).c3) (fun r=>(out r).ne) (fun a r ai=>by
   have:=h a r ai
   cases r with
   | inl dU=>exact this
   | inr eQ=>exact this) a r ai).aes
end
theorem RY {a b c:Nat}(h:a+b<=c):a<=c:=by omega
theorem RZ {bA:Type}{rx kY:List (List ay)}{f:bA->List ay}{xs bz:List bA}(hY:rx=xs.map f)(ja:kY=bz.map f){n:Nat}(h:n+bz.length<=xs.length):n+kY.length<=rx.length:=by rw[hY,ja];simpa using h
theorem QS {bA:Type}{kY:List (List ay)}{f:bA->List ay}{bz:List bA}(ja:kY=bz.map f){b c:Nat}(h:bz.length*b<=c):kY.length*b<=c:=by rw[ja];simpa using h
theorem agB {bA:Type}{rx kY:List (List ay)}{f:bA->List ay}{xs bz:List bA}(hY:rx=xs.map f)(n:Nat)(ja:kY=bz.map f):rx.take n++kY++rx.drop (n+kY.length)=(xs.take n++bz++xs.drop (n+bz.length)).map f:=by rw[hY,ja];simp
theorem agt {bA:Type}{rx:List (List ay)}{f:bA->List ay}{xs:List bA}(hY:rx=xs.map f)(bE n:Nat)(z:bA):rx.take bE++List.replicate n (f z)++rx.drop (bE+n)=(xs.take bE++List.replicate n z++xs.drop (bE+n)).map f:=by rw[hY];simp
theorem agC {bA:Type}{rx kY:List (List ay)}{f:bA->List ay}{xs bz:List bA}(hY:rx=xs.map f)(ja:kY=bz.map f):kY++rx.drop kY.length=(bz++xs.drop bz.length).map f:=by rw[hY,ja];simp
theorem agN {bA:Type}{kY:List (List ay)}{f:bA->List ay}{bz:List bA}(ja:kY=bz.map f){n:Nat}(h:bz.length<=n):kY.length<=n:=by rw[ja];simpa using h
theorem agD {bA:Type}{xs bz:List bA}{n m:Nat}(aX:n=xs.length)(hm:m<=n)(h:bz.length<=m):n=(bz++xs.drop bz.length).length:=by simp;omega
theorem agE {bA:Type}(f:bA->List ay)(n:Nat)(z:bA):List.replicate n (f z)=(List.replicate n z).map f:=by simp
theorem agF {bA:Type}{rx:List (List ay)}{f:bA->List ay}{xs:List bA}(hY:rx=xs.map f){n:Nat}(h:n=xs.length):rx.length=n:=by rw[hY];simp[h]
section
variable {a b c d e f g h i j:Prop} {l:List Prop}
theorem cp.e1 (x1:a):cp [a]:= .c x1 .nil
theorem cp.b8 (x1:a)(ej:b)(t:cp l):cp (a::b::l):= .c x1 (.c ej t)
theorem cp.aD (x1:a)(ej:b):cp [a,b]:= .b8 x1 ej .nil
theorem cp.jI (x1:a)(ej:b)(az:c)(t:cp l):cp (a::b::c::l):= .c x1 (.b8 ej az t)
theorem cp.bH (x1:a)(ej:b)(az:c):cp [a,b,c]:= .jI x1 ej az .nil
theorem cp.pU (x1:a)(ej:b)(az:c)(fE:d)(t:cp l):cp (a::b::c::d::l):= .c x1 (.jI ej az fE t)
theorem cp.cX (x1:a)(ej:b)(az:c)(fE:d):cp [a,b,c,d]:= .pU x1 ej az fE .nil
theorem cp.ou (x1:a)(ej:b)(az:c)(fE:d)(e5:e)(t:cp l):cp (a::b::c::d::e::l):= .c x1 (.pU ej az fE e5 t)
theorem cp.di (x1:a)(ej:b)(az:c)(fE:d)(e5:e):cp [a,b,c,d,e]:= .ou x1 ej az fE e5 .nil
theorem cp.uM (x1:a)(ej:b)(az:c)(fE:d)(e5:e)(ck:f)(t:cp l):cp (a::b::c::d::e::f::l):= .c x1 (.ou ej az fE e5 ck t)
theorem cp.d5 (x1:a)(ej:b)(az:c)(fE:d)(e5:e)(ck:f):cp [a,b,c,d,e,f]:= .uM x1 ej az fE e5 ck .nil
theorem cp.a5 (x1:a)(ej:b)(az:c)(fE:d)(e5:e)(ck:f)(c1:g)(nc:h)(t:cp l):cp (a::b::c::d::e::f::g::h::l):= .b8 x1 ej (.uM az fE e5 ck c1 nc t)
theorem cp.eP (x1:a)(ej:b)(az:c)(fE:d)(e5:e)(ck:f)(c1:g):cp [a,b,c,d,e,f,g]:= .c x1 (.d5 ej az fE e5 ck c1)
theorem cp.gg (x1:a)(ej:b)(az:c)(fE:d)(e5:e)(ck:f)(c1:g)(nc:h):cp [a,b,c,d,e,f,g,h]:= .b8 x1 ej (.d5 az fE e5 ck c1 nc)
end
section
variable {α bA:Type}
theorem eJ (f:bA->List ay)(l:List bA):l.map f=l.map f:=rfl
theorem d7 (l:List bA):l.length=l.length:=rfl
theorem LP (cl:gB)(sz:Nat)(f:bA->List ay)(P:List (List bA)):P.map (kf cl sz f)=P.map (kf cl sz f):=rfl
theorem h9 (x:α):x=x:=rfl
theorem cO:true=true:=rfl
theorem cC:false=false:=rfl
theorem bV (f:bA->List ay){l:List bA}{i:Nat}{x:bA}(h:l[i]? = some x):(l.map f)[i]? = some (f x):=JF h
theorem cY (f:bA->List ay){l:List bA}{j:Int}(h:j<l.length):j<((l.map f).length:Nat):=Rn h
theorem iq (f:bA->List ay){l:List bA}{j:Nat}(h:j<l.length):j<(l.map f).length:=RS h
theorem afv (sz:Nat)(cl:gB){raw:List (List ay)}{f:bA->List ay}{l:List bA}(e:raw=l.map f):[aU.mk sz raw cl]=[aU.mk sz (l.map f) cl]:=abY e
theorem tv (sz:Nat)(cl:gB){f:bA->List ay}(b5:∀x,∀v∈f x,Pure v)(l:List bA):Ax [aU.mk sz (l.map f) cl]:=aa7 b5 l
theorem e6 (sz:Nat){f:bA->List ay}(b5:∀x,∀v∈f x,Pure v)(l:List bA):vd [aU.mk sz (l.map f) .live]:=aac b5 l
theorem agu {β:Type}{f:α->List ay}{g:β->List ay}{v:α->β}{eb:Nat}{jO:List aU}{bU:gB->Bool}{sz:Nat}{raw:List (List ay)}{l:List α}(e:raw=l.map f)(dj:∀y,(g y).length=sz)(bE n:Nat)
 (h : ∀x∈(l.drop bE).take n,Bh eb jO bU (f x) (g (v x))):ER eb jO bU sz ((raw.drop bE).take n) ((((l.drop bE).take n).map v).map g):=by
 have o:=xj (eb:=eb) (jO:=jO) (bU:=bU) (raw:=(raw.drop bE).take n) (xs:=(l.drop bE).take n) (f:=f) (p6 e bE n) dj h rfl;rw[List.drop_zero,dQ (by rw[p6 e bE n,ah8];exact dG _)] at o;exact o
theorem ag6 {sz:Nat}{f:bA->List ay}{x:Option bA}(h:x=none):kR (vY sz f x) (.kr sz none):=Sq (ab0 h)
theorem ag7 {sz:Nat}{f:bA->List ay}{x:Option bA}{y:bA}(h:x=some y):kR (vY sz f x) (.kr sz (some (f y))):=Sq (ab1 h)
theorem tw {b4:Nat->Option Nat}(sz:Nat)(cl:gB){f:bA->List ay}(ku:bA->List ay){raw:List (List ay)}{xs:List bA}(e:raw=xs.map f)(h:∀x,(f x).map (oM b4)=ku x):aU.mk sz (xs.map ku) cl=j1 b4 (aU.mk sz raw cl):=Sr e h
end
def aF {bA:Type}(s:Nat)(f:bA->List ay)(l:List bA):List aU:=[aU.mk s (l.map f) .live]
def ct {bA:Type}(s:Nat)(f:bA->List ay)(l:List bA):aU:=aU.mk s (l.map f) .live
def ef {bA:Type}(s:Nat)(f:bA->List ay)(P:List (List bA)):List aU:=P.map (kf .live s f)
def J (n:Nat):bO:= .aq (aj n [])
def b6 (a:Nat)(x:fc)(b:Nat):List (fc×Bool):=aj a (ak x (aj b []))
def sr:List Nat->List Src
 | []=>[]
 | n::l=> .row n::sr l
def uP (l:List Nat):Nat->Option Nat:=pE 0 (sr l)
def ke (l:List Nat):Nat->Option Nat:=uc (sr l)
section
variable {bA:Type}
theorem yk (T:Nat->Option Nat)(a d b c:Nat)(h:T d=some a)(aM:List b9):aU.mk 1 (aM.map (bZ a b c)) .live=j1 T (aU.mk 1 (aM.map (bZ d b c)) .live):=tw 1 .live (bZ a b c) (eJ (bZ d b c) aM) (vo h)
theorem j3 (T:Nat->Option Nat)(s:Nat){f:bA->List ay}(g:∀x,∀v∈f x,v.jg=true)(aM:List bA):aU.mk s (aM.map f) .live=j1 T (aU.mk s (aM.map f) .live):=tw s .live f (eJ f aM) (nk g)
theorem eL (T:Nat->Option Nat)(a d b c:Nat)(h:T d=some a)(aM:List b9):[aU.mk 1 (aM.map (bZ a b c)) .live]=[aU.mk 1 (aM.map (bZ d b c)) .live].map (j1 T):=gG (yk T a d b c h aM) nA
theorem eR (T:Nat->Option Nat)(s:Nat){f:bA->List ay}(g:∀x,∀v∈f x,v.jg=true)(P:List (List bA)):P.map (kf .live s f)=(P.map (kf .live s f)).map (j1 T):=n6 (LP .live s f P) (nk g)
theorem mr (T:Nat->Option Nat)(s:Nat)(v w:List (List ay))(h:aU.mk s v .live=j1 T (aU.mk s w .live)):[aU.mk s v .live]=[aU.mk s w .live].map (j1 T):=gG h nA
theorem v5 (s:Nat)(f:bA->List ay)(P:List (List bA)):nj (P.map (kf .live s f)):=Jc (LP .live s f P)
theorem nd (s:Nat)(v:List (List ay)):nj [aU.mk s v .live]:=lM rfl ve
theorem fF (f:bA->List ay)(l:List bA):l.map f=((l.map f).drop 0).take l.length:=lu (eJ f l) (d7 l)
theorem fk (f:bA->List ay)(l:List bA):0+l.length<=(l.map f).length:=k6 (eJ f l) (d7 l)
theorem hq (f:bA->List ay)(l:List bA):l.length<=(l.map f).length:=mT (eJ f l) (d7 l)
theorem fG (bA:Type):0=([]:List bA).length:=rfl
theorem gA (f:bA->List ay):([]:List (List ay))=([]:List bA).map f:=rfl
theorem afw (f:bA->List ay)(x:bA):1<=[f x].length:=dG _
theorem pV (f:bA->List ay)(x:bA):([f x].drop 0).take 1=[x].map f:=rfl
theorem gS (f:bA->List ay)(x:bA):0+1<=[f x].length:=dG _
theorem gM (f:bA->List ay)(l:List bA)(x:bA):(l++([x]:List bA)).length=l.length+(([f x].drop 0).take 1).length:=lO (d7 l) (pV f x)
theorem aex (f:bA->List ay){l:List bA}{n:Nat}(h:n<=l.length)(x:bA):(l.take n++([x]:List bA)).length=n+(([f x].drop 0).take 1).length:=Jv h (pV f x)
theorem hr (f:bA->List ay)(l:List bA)(x:bA):(l.map f).take l.length++([f x].drop 0).take 1=(l++[x]).map f:=kx (eJ f l) (d7 l) (pV f x)
end
structure dm (α β:Type) where
 h:α->S
 I:β->q4
section
variable {P:Program} {N m:Nat} {α β:Type}
def dm.t (x:dm α β)(r:β):bO:=(x.I r).afu
abbrev dp (P:Program)(N m f:Nat)(p:List Nat)(x:dm α β)(a:α):α⊕β->Prop:=Ud P N m f p (x.h a) x.h x.I
theorem cP {f:Nat}{p:List Nat}{b:α->Option (α⊕β)}{x:dm α β}{a:α}{r:β}(ai:iter b a=some r)(h:∀ {a},bs (b a) (dp P N m f p x a)):Ue P N m f p x.h x.I a r:=abc (fun _=>h) ai
end
def _root_.List.aQ {bA:Type}(a b:List bA):List bA:=a.append b
def fp:List sx:=[.id,.id,.id,.id,.id]
def kV:List sx:=[.id,.id,.id,.id,.id,.id]
def Em (a b:Nat):m6:={kl:=some (a,b)}
def rI (l:List (Nat×Nat)):m6:={bF:=l}
def Tq (l:List (Nat×Nat))(a b:Nat):m6:={bF:=l,kl:=some (a,b)}
theorem lG:(1000000000:Int)≠0:=by decide
theorem nQ {bA:Type}(f:bA->List ay)(l:List bA):(([]:List (List ay)).take 0)++l.map f=([]++l).map f:=kx (gA f) (fG bA) (eJ f l)
theorem aw (s:Nat){bA:Type}{f:bA->List ay}(b5:∀x,∀v∈f x,Pure v)(l:List bA):Ax [aU.mk s (l.map f) .live]:=tv s .live b5 l
theorem cT (s:Nat){bA:Type}{raw:List (List ay)}{f:bA->List ay}{l:List bA}(e:raw=l.map f):[aU.mk s raw .live]=[aU.mk s (l.map f) .live]:=afv s .live e
theorem hl (s:Nat){bA:Type}(f:bA->List ay)(P:List (List bA)):P.map (kf .live s f)=P.map (kf .live s f):=rfl
theorem ag8 (s:Nat){bA:Type}(f:bA->List ay)(l:List bA)(i:Int)(x:bA):[aU.mk s ((l.map f).set (0+i.toNat) (f x)) .live]=[aU.mk s ((l.set (0+i.toNat) x).map f) .live]:=cT s (sX (eJ f l) (0+i.toNat) x)
theorem iG {bA:Type}(f:bA->List ay)(l:List bA)(i:Int)(x:bA):(l.map f).set (0+i.toNat) (f x)=(l.set (0+i.toNat) x).map f:=sX (eJ f l) (0+i.toNat) x
theorem ie {bA:Type}(l:List bA)(i:Int)(x:bA):l.length=(l.set (0+i.toNat) x).length:=xc (d7 l) (0+i.toNat) x
def hE (n:Nat)(l:ar):fc:=kZ n (.isl 1 (l.map eI)) false
def ig (n:Nat)(x:Int):fc:=kZ n (.n .i64 x) true
def dt (n:Nat)(x:Bool):fc:=kZ n (.b x) true
theorem oj {bA:Type}(l:List bA):bT (.bu 0 0 0 l.length):=bT.bu 0 0 0 l.length
theorem K5 (T:Nat->Option Nat)(a b:ar):[aU.mk 1 (a.map eI) .live,aU.mk 1 (b.map eI) .live]=[aU.mk 1 (a.map eI) .live,aU.mk 1 (b.map eI) .live].map (j1 T):=gG (j3 T 1 qb a) (gG (j3 T 1 qb b) (nA (b4:=T)))
theorem ag9 (T:Nat->Option Nat)(a b c:ar):[aU.mk 1 (a.map eI) .live,aU.mk 1 (b.map eI) .live,aU.mk 1 (c.map eI) .live]=[aU.mk 1 (a.map eI) .live,aU.mk 1 (b.map eI) .live,aU.mk 1 (c.map eI) .live].map (j1 T):=gG (j3 T 1 qb a) (gG (j3 T 1 qb b) (gG (j3 T 1 qb c) (nA (b4:=T))))
def du (n:Nat)(l:ar):Nat×ay:=(n,.isl 1 (l.map eI))
def fQ {bA:Type}(n:Nat)(l:List bA):Nat×ay:=(n,.bu 0 0 0 l.length)
def aY (n:Nat)(x:Int):Nat×ay:=(n,.n .i64 x)
def mm (a b:ar):List ay:=[.isl 1 (a.map eI),.isl 1 (b.map eI)]
def Bk (l:ar):yb:={aW:=[],dd:=[],ac:=[ii],r:= .bu 0 0 0 l.length,fm:=[aF 1 eI l],ho:=ii,iW:=[.pure],eM:=[],eu:=true}
def lo (n m:Nat):List (fc×Bool):=aj n (cQ m (ak (.ad true) []))
def mn (n:Nat):List (fc×Bool):=aj n (ak (.ad false) [])
def aha (n m:Nat):List (fc×Bool):=cQ n (ak (.ad false) (aj m []))
def lp (n:Nat):List (fc×Bool):=ak (.ad false) (aj n [])
def kD (n m:Nat):List bO:=[.ad true,J n,.aV [] [] (bk [m])]
def m9 (n r m:Nat):List bO:=[J n,.ad false,.aV [r] [.pure] (bk [m])]
def oO (n:Nat):List bO:=[J n,.ad false,.aV [] [] []]
def qk (n m:Nat):List bO:=[J n,.ad false,.aV [] [] (bk [m])]
def gl {bA:Type}(a:Nat)(l:List bA)(b:Nat):List (fc×Bool):=b6 a (.aH l.length) b
def f9 (a:Nat)(x:Int)(b:Nat):List (fc×Bool):=b6 a (.cJ (eI x)) b
theorem ss (l:ar):pK [aF 1 eI l]:=sT (n4 (nB Gr) sZ) sY
def gm {bA:Type}(n:Nat)(g:List bA):Nat×lI:=(n,aew g.length)
theorem Tr (n:Int):([n]:ar).map eI=(([[.n .i64 n]]:List (List ay)).drop 0).take 1:=lu (show [[.n .i64 n]]=([n]:ar).map eI from rfl) (show 1=([n]:ar).length from rfl)
theorem agi {P:Program}{t:TypeId}{w:World}(cb:P.underlying t=some (.int .u8))(a8:P.cellsOf t=1):qa P w t El (fun _=>True) where
 pure:=aa8
 size:=fun a=>a8.symm
 opens:=fun h=>by obtain⟨n,rfl,-,hw⟩:=DataW.trod_int cb h;exact⟨n,trivial,.one rfl (.n _ _)⟩
theorem ch {x:Int}(h1:-9223372036854775808<=x)(o:x<9223372036854775808):R x=x:=by
 simp only[R,IntKind.wrap,IntKind.signed,IntKind.bits];have:((2:Int) ^ 64)=18446744073709551616:=by decide
 have xJ:((2:Int) ^ 63)=9223372036854775808:=by decide
 simp;omega
theorem nw {x:Int}:pF x↔ -9223372036854775808<=x/\x<9223372036854775808:=by
 have h1:IntKind.min .i64 = -9223372036854775808:=by decide
 have o:IntKind.max .i64=9223372036854775807:=by decide
 simp only[pF,Lit.wf,h1,o,ahU,decide_eq_true_eq];omega
theorem Jw {α β:Type}{f:α->Option (α⊕β)}{s:Nat->α}{r:β}(n:Nat): ∀(k:Nat),(∀i,k<=i->i<k+n->f (s i)=some (.inl (s (i+1))))->f (s (k+n))=some (.inr r)->iter f (s k)=some r:=by
 induction n with
 | zero =>
  intro k _ h;rw[iter];simp at h;simp[h]
 | succ n ih =>
  intro k h1 o;rw[iter,h1 k (dG _) (by omega)];simp;exact ih (k+1) (fun i aa ao=>h1 i (by omega) (by omega)) (by rw[show k+1+n=k+(n+1) by omega];exact o)
def scan {α β:Type}(t:Nat->α->Option β):Nat->List α->Option β
 | _,[]=>none
 | n,x::xs=>match t n x with
  | some b=>some b
  | none=>scan t (n+1) xs
theorem FH {α β:Type}{f:Int->Option (Int⊕β)}{t:Nat->α->Option β}{e:β}: ∀(xs:List α) (k:Nat),
 (∀n x,xs[n]? = some x->f ((k+n:Nat):Int)=some (match t (k+n) x with|some b=> .inr b|none=> .inl ((k+n+1:Nat):Int)))->f ((k+xs.length:Nat):Int)=some (.inr e)->iter f (k:Int)=some ((scan t k xs).getD e)
 | [],k,_,h=>by rw[iter];simp at h;simp[h,scan]
 | x::xs,k,h1,o=>by
  have aa:=h1 0 x rfl;simp only[Nat.add_zero] at aa;rw[iter,aa];simp only[scan]
  cases cb:t k x with
  | some b=>simp
  | none =>
   simp only[dC,dB];refine FH xs (k+1) (fun n y aR=> ?_) ?_
   ·have:=h1 (n+1) y (by simpa using aR);rw[show k+(n+1)=k+1+n by omega] at this;exact this
   rw[show k+1+xs.length=k+(x::xs).length by simp;omega];exact o
theorem jz {α β:Type}{f:α->Option (α⊕β)}(eS:α->Prop)(m:α->Nat)(Q:β->Prop)
 (h : ∀a,eS a->(∃dU,f a=some (.inl dU)/\eS dU/\m dU<m a)\/ ∃r,f a=some (.inr r)/\Q r) : ∀a,eS a-> ∃r,iter f a=some r/\Q r:=by
 have key : ∀n a,m a<=n->eS a-> ∃r,iter f a=some r/\Q r:=by
  intro n
  induction n with
  | zero =>
   intro a hm cA;rcases h a cA with ⟨dU,-,-,aa⟩|⟨r,h1,o⟩
   ·omega
   exact⟨r,by rw[iter,h1];rfl,o⟩
  | succ n ih =>
   intro a hm cA;rcases h a cA with ⟨dU,h1,o,aa⟩|⟨r,h1,o⟩
   ·obtain⟨r,r1,bM⟩:=ih dU (by omega) o;exact⟨r,by rw[iter,h1];exact r1,bM⟩
   exact⟨r,by rw[iter,h1];rfl,o⟩
 exact fun a cA=>key (m a) a (dG _) cA
theorem Jd {α:Type}{f:Int×List α->Option ((Int×List α)⊕List α)}(xs ag:List α)(h0:ag.length=xs.length)
 (J9 : ∀(n:Nat) x row,xs[n]? = some x->row.length=xs.length->f ((n:Int),row)=some (.inl (((n+1:Nat):Int),row.set n x)))
 (AX : ∀row,f ((xs.length:Int),row)=some (.inr row)):iter f (0,ag)=some xs:=by
 have h:=Jw (f:=f) (s:=fun n=>((n:Int),xs.take n++ag.drop n)) (r:=xs) xs.length 0 (fun i _ ab=> ?_) ?_
 ·simpa using h
 ·have jk:i<xs.length:=by omega
  rw[J9 i xs[i] _ (dx jk) (by simp;omega)];congr 3;apply ah7;intro j;rw[ah1];simp only[dE,List.length_take,List.length_drop,List.getElem?_append,ahZ,ah5];by_cases au:i=j
  ·subst au;have e1:min (i+1) xs.length=i+1:=(by omega);simp[e1,jk];omega
  rw[dA au];by_cases dZ:j<i
  ·have e1:j<min i xs.length:=(by omega);have aD:j<min (i+1) xs.length:=(by omega);rw[dw e1,dw aD,dw dZ,dw (by omega)]
  have e1 : ¬j<min i xs.length:=(by omega);have aD : ¬j<min (i+1) xs.length:=(by omega);rw[dA e1,dA aD];congr 1;omega
 simp only[dF];rw[AX];simp[h0]
theorem af6 {α β:Type}{f:α->Option (α⊕β)}(Q:β->Prop)(h:∀a r,f a=some (.inr r)->Q r): ∀a r,iter f a=some r->Q r:=by
 apply iter.partial_correctness f (fun _ r=>Q r);intro it ih a r ai
 cases b5:f a with
 | none=>rw[b5] at ai;simp at ai
 | some x =>
  rw[b5] at ai
  cases x with
  | inl dU=>exact ih dU r ai
  | inr eQ =>
   have hv:some eQ=some r:=ai;obtain rfl:=dJ hv;exact h a _ b5
theorem QT {α β bA:Type}{f:α->Option (α⊕β)}{g:α->Option (α⊕bA)}(h:β->bA)(eS:α->Prop)(cA:∀a dU,eS a->f a=some (.inl dU)->eS dU)(aey:∀a,eS a->g a=(f a).map (Sum.map id h)):
 ∀a r,iter f a=some r->eS a->iter g a=some (h r):=by
 apply iter.partial_correctness f (fun a r=>eS a->iter g a=some (h r));intro it ih a r ai bC;have dj:=aey a bC
 cases b5:f a with
 | none=>rw[b5] at ai;simp at ai
 | some x =>
  rw[b5] at ai dj
  cases x with
  | inl dU =>
   rw[iter,dj];exact ih dU r ai (cA a dU bC b5)
  | inr eQ =>
   have hv:some eQ=some r:=ai;obtain rfl:=dJ hv;rw[iter,dj];rfl
def uk {α iu β:Type}(g:Nat->iu->α->iu⊕β)(e:iu->β):List α->Nat->iu->β
 | [],_,s=>e s
 | x::xs,n,s=>match g n s x with
  | .inl bS=>uk g e xs (n+1) bS
  | .inr b=>b
theorem Qu {α iu nY β:Type}{f:nY->Option (nY⊕β)}(c3:Nat->iu->nY)(g:Nat->iu->α->iu⊕β)(e:iu->β)(eS:Nat->iu->Prop)(bz:List α)
 (h : ∀n s x,eS n s->bz[n]? = some x->f (c3 n s)=some (match g n s x with | .inl bS=> .inl (c3 (n+1) bS) | .inr b=> .inr b)/\ ∀bS,g n s x = .inl bS->eS (n+1) bS)
 (he : ∀s,eS bz.length s->f (c3 bz.length s)=some (.inr (e s))) : ∀(xs:List α) (n:Nat) (s:iu),bz.drop n=xs->n<=bz.length->eS n s->iter f (c3 n s)=some (uk g e xs n s)
 | [],n,s,bF,aX,cA=>by have:n=bz.length:=(by have:=congrArg List.length bF;simp at this;omega);subst this;rw[iter,he s cA];rfl
 | x::xs,n,s,bF,aX,cA=>by
  have U:bz[n]? = some x:=(by have:=congrArg (·[0]?) bF;simpa using this);have dZ:=gi U;obtain⟨h1,o⟩:=h n s x cA U;rw[iter,h1];simp only[uk]
  cases dj:g n s x with
  | inr b=>rfl
  | inl bS =>
   simp only[dC,dB];refine Qu c3 g e eS bz h he xs (n+1) bS ?_ (by omega) (o bS dj);rw[<- List.drop_drop,bF];rfl
theorem P1 {α iu nY β:Type}{f:nY->Option (nY⊕β)}(c3:Nat->iu->nY)(g:Nat->iu->α->iu⊕β)(e:iu->β)(bz:List α)
 (h : ∀n s x,bz[n]? = some x->f (c3 n s)=some (match g n s x with | .inl bS=> .inl (c3 (n+1) bS) | .inr b=> .inr b))
 (he : ∀s,f (c3 bz.length s)=some (.inr (e s))) (s:iu):iter f (c3 0 s)=some (uk g e bz 0 s) :=
 Qu c3 g e (fun _ _=>True) bz (fun n s x _ U=>⟨h n s x U,fun _ _=>trivial⟩) (fun s _=>he s) bz 0 s rfl (Nat.zero_le _) trivial
theorem QU {α:Type}{f:Int->Option (Int⊕(Unit⊕Unit))}(xs:List α)(p:α->Bool)
 (h : ∀(n:Nat) x,xs[n]? = some x->f n=some (if p x then .inl ((n+1:Nat):Int) else .inr (.inr ()))) (he:f xs.length=some (.inr (.inl ()))) :
 iter f 0=some (if xs.all p then .inl () else .inr ()):=by
 have:=P1 (f:=f) (iu:=Unit) (fun n _=>(n:Int)) (fun _ _ x=>if p x then .inl () else .inr (.inr ())) (fun _=> .inl ()) xs (fun n _ x U=>by rw[h n x U];cases p x<;>rfl) (fun _=>he) ();rw[show ((0:Nat):Int)=0 from rfl] at this;rw[this];congr 1
 have key : ∀(bz:List α) (n:Nat),uk (fun (_:Nat) (_:Unit) x=>if p x then Sum.inl () else Sum.inr (Sum.inr ())) (fun _=>(Sum.inl ():Unit⊕Unit)) bz n ()=if bz.all p then .inl () else .inr ():=by
  intro bz
  induction bz with
  | nil=>intro n;rfl
  | cons y bz ih =>
   intro n;simp only[uk,List.all_cons];by_cases ae:p y=true
   ·simpa [ae] using ih (n+1)
   simp[ae]
 exact key xs 0
theorem aad {α:Type}{f:Int->Option (Int⊕(Unit⊕Int))}(xs:List α)(p:α->Bool)
 (h : ∀(n:Nat) x,xs[n]? = some x->f n=some (if p x then .inr (.inr (n:Int)) else .inl ((n+1:Nat):Int))) (he:f xs.length=some (.inr (.inl ()))) :
 ∃r,iter f 0=some r/\((∃k:Int,r = .inr k/\0<=k/\xs.any p=true)\/(r = .inl ()/\xs.any p=false)):=by
 have:=P1 (f:=f) (iu:=Unit) (fun n _=>(n:Int)) (fun n _ x=>if p x then .inr (.inr (n:Int)) else .inl ()) (fun _=> .inl ()) xs (fun n _ x U=>by rw[h n x U];cases p x<;>rfl) (fun _=>he) ();rw[show ((0:Nat):Int)=0 from rfl] at this;refine⟨_,this,?_⟩
 have key : ∀(bz:List α) (n:Nat),(∃k:Int,uk (fun (n:Nat) (_:Unit) x=>if p x then Sum.inr (Sum.inr (n:Int)) else Sum.inl ()) (fun _=>(Sum.inl ():Unit⊕Int)) bz n () = .inr k/\0<=k/\bz.any p=true) \/
  (uk (fun (n:Nat) (_:Unit) x=>if p x then Sum.inr (Sum.inr (n:Int)) else Sum.inl ()) (fun _=>(Sum.inl ():Unit⊕Int)) bz n () = .inl ()/\bz.any p=false):=by
  intro bz
  induction bz with
  | nil=>intro n;exact .inr ⟨rfl,rfl⟩
  | cons y bz ih =>
   intro n;simp only[uk,List.any_cons];by_cases ae:p y=true
   ·exact .inl ⟨n,by simp[ae],by omega,by simp[ae]⟩
   simpa [ae] using ih (n+1)
 exact key xs 0
theorem i1 {n:Nat}(h:(n:Int)<9223372036854775807):R ((n:Int)+1)=((n+1:Nat):Int):=by rw[ch (by omega) (by omega)];rfl
def V:ar->Int
 | []=>0
 | x::xs=>x+1000000000*V xs
def cu (l:ar):Prop:= ∀x∈l,0<=x/\x<1000000000
abbrev B (n:Nat):Int:=(1000000000:Int) ^ n
theorem mY (n:Nat):B (n+1)=1000000000*B n:=by rw[B,B,Int.pow_succ];exact Int.mul_comm _ _
theorem py (n:Nat):1<=B n:=by
 induction n with
 | zero=>simp[B]
 | succ n ih=>rw[mY];omega
theorem Dr (m n:Nat):B (m+n)=B m*B n:=by rw[B,B,B,Int.pow_add]
theorem r7 {m n:Nat}(h:m<=n):B m<=B n:=by
 induction n with
 | zero =>
  have:m=0:=(by omega);subst this;exact Int.le_refl _
 | succ n ih =>
  by_cases hm:m=n+1
  ·subst hm;exact Int.le_refl _
  have h1:=ih (by omega);have o:=py n;rw[mY];omega
theorem cu.tail {x:Int}{l:ar}(h:cu (x::l)):cu l:=fun y aR=>h y (by simp[aR])
theorem cu.head {x:Int}{l:ar}(h:cu (x::l)):0<=x/\x<1000000000:=h x (by simp)
theorem cu.nil:cu []:=fun _ h=>by simp at h
theorem cu.cons {x:Int}{l:ar}(h:0<=x/\x<1000000000)(aO:cu l):cu (x::l):=fun y aR=>by
 rcases dT.mp aR with rfl|h1
 ·exact h
 exact aO y h1
theorem cu.get {l:ar}(h:cu l){n:Nat}{x:Int}(U:l[n]? = some x):0<=x/\x<1000000000:=h x (dH U)
theorem cu.take {l:ar}(h:cu l)(n:Nat):cu (l.take n):=fun x U=>h x (List.mem_of_mem_take U)
theorem cu.drop {l:ar}(h:cu l)(n:Nat):cu (l.drop n):=fun x U=>h x (List.mem_of_mem_drop U)
theorem cu.append {l m:ar}(h:cu l)(cF:cu m):cu (l++m):=fun x U=>by
 rcases List.mem_append.mp U with h1|h1
 ·exact h x h1
 exact cF x h1
theorem cu.set {l:ar}(h:cu l){n:Nat}{x:Int}(U:0<=x/\x<1000000000):cu (l.set n x):=fun y aR=>by
 rcases List.mem_or_eq_of_mem_set aR with h1|rfl
 ·exact h y h1
 exact U
theorem cu.K6 (n:Nat):cu (List.replicate n 0):=fun x U=>by have:=(List.mem_replicate.mp U).2;omega
theorem Ds:V []=0:=rfl
theorem lP (x:Int)(l:ar):V (x::l)=x+1000000000*V l:=rfl
theorem nx {l:ar}(h:cu l):0<=V l:=by
 induction l with
 | nil=>simp[V]
 | cons x l ih =>
  have h1:=ih h.tail;have o:=h.head;rw[lP];omega
theorem od {l:ar}(h:cu l):V l<B l.length:=by
 induction l with
 | nil=>simp[V,B]
 | cons x l ih =>
  have h1:=ih h.tail;have o:=h.head;rw[lP,dI,mY];omega
theorem w9 (a b:ar):V (a++b)=V a+B a.length*V b:=by
 induction a with
 | nil=>simp[V,B]
 | cons x a ih =>
  rw[List.cons_append,lP,lP,dI,mY,ih];grind
theorem Kb (n:Nat):V (List.replicate n 0)=0:=by
 induction n with
 | zero=>rfl
 | succ n ih=>rw[List.replicate_succ,lP,ih];rfl
theorem s5 {l:ar}{n:Nat}{x y:Int}(h:l[n]? = some y):V (l.set n x)=V l+(x-y)*B n:=by
 induction l generalizing n with
 | nil=>simp at h
 | cons z l ih =>
  cases n with
  | zero =>
   simp at h;subst h;rw[List.set_cons_zero,lP,lP];simp[B];omega
  | succ n =>
   rw[List.set_cons_succ,lP,lP,ih (by simpa using h),mY];grind
theorem xd {l:ar}{n:Nat}(h:n<=l.length):V l=V (l.take n)+B n*V (l.drop n):=by have:=w9 (l.take n) (l.drop n);rw[List.take_append_drop] at this;rw[this,List.length_take,Nat.min_eq_left h]
theorem tT {l:ar}{n:Nat}{x:Int}(h:l[n]? = some x):V (l.take (n+1))=V (l.take n)+B n*x:=by
 have aX:=gi h;have:l.take (n+1)=l.take n++[x]:=by rw[List.take_add_one,h];rfl
 rw[this,w9,List.length_take,Nat.min_eq_left (by omega)];simp[V]
theorem QV {α:Type}{l:List α}{n:Nat}{x:α}(h:l[n]? = some x):l.drop n=x::l.drop (n+1):=by have aX:=gi h;rw[dx aX] at h;rw[List.drop_eq_getElem_cons aX];simp at h;rw[h]
theorem pq {l:ar}{n:Nat}{x:Int}(h:l[n]? = some x):V (l.drop n)=x+1000000000*V (l.drop (n+1)):=by rw[QV h,lP]
def fZ (l:ar):Prop:=cu l/\ ∀x,l.getLast? = some x->x≠0
theorem fZ.ahb {l:ar}(h:fZ l):cu l:=h.1
theorem fZ.nil:fZ []:=⟨cu.nil,fun _ h=>by simp at h⟩
theorem fZ.tail {x:Int}{l:ar}(h:fZ (x::l)):fZ l:=⟨h.1.tail,fun y aR=>h.2 y (by
 cases l with
 | nil=>simp at aR
 | cons z l=>simpa using aR)⟩
theorem vp {l:ar}(h:fZ l)(aO:l≠[]):0<V l:=by
 induction l with
 | nil=>exact absurd rfl aO
 | cons x l ih =>
  have h1:=h.1.head;by_cases o:l=[]
  ·subst o;have:=h.2 x (by simp);simp[V];omega
  have:=ih h.tail o;rw[lP];omega
theorem GA {l:ar}(h:fZ l)(aO:l≠[]):B (l.length-1)<=V l:=by
 induction l with
 | nil=>exact absurd rfl aO
 | cons x l ih =>
  have h1:=h.1.head;by_cases o:l=[]
  ·subst o;have:=h.2 x (by simp);simp[V,B];omega
  have aa:=ih h.tail o;have ao:(x::l).length-1=(l.length-1)+1:=(by have:=aic.mpr o;simp;omega);rw[lP,ao,mY];omega
def v7 (n:Nat):ar:=if h:n=0 then [] else ((n % 1000000000:Nat):Int)::v7 (n / 1000000000)
decreasing_by exact Nat.div_lt_self (Nat.pos_of_ne_zero h) (by decide)
def L (n:Int):ar:=v7 n.toNat
theorem R0 (n:Nat):fZ (v7 n)/\V (v7 n)=n:=by
 induction n using Nat.strongRecOn with
 | ind n ih =>
  rw[v7];by_cases h:n=0
  ·subst h;simp[V,fZ.nil]
  rw[dif_neg h];obtain⟨h1,o⟩:=ih (n / 1000000000) (Nat.div_lt_self (Nat.pos_of_ne_zero h) (by decide));refine⟨⟨cu.cons (by omega) h1.1,fun x U=> ?_⟩,?_⟩
  ·by_cases aa:v7 (n / 1000000000)=[]
   ·rw[aa] at U o;simp[V] at U o;omega
   refine h1.2 x ?_
   cases ao:v7 (n / 1000000000) with
   | nil=>exact absurd ao aa
   | cons z l=>rw[ao] at U;simpa using U
  rw[lP,o];omega
theorem jN (n:Int):fZ (L n):=(R0 _).1
theorem hK (n:Int):cu (L n):=(jN n).1
theorem ey {n:Int}(h:0<=n):V (L n)=n:=by rw[L,(R0 _).2];omega
theorem adj {a b:ar}(bC:fZ a)(aL:fZ b)(h:V a=V b):a=b:=by
 induction a generalizing b with
 | nil =>
  by_cases h1:b=[]
  ·exact h1.symm
  have:=vp aL h1;simp[V] at h;omega
 | cons x a ih =>
  cases b with
  | nil =>
   have:=vp bC (by simp);rw[h] at this;simp[V] at this
  | cons y b =>
   have h1:=bC.1.head;have o:=aL.1.head;rw[lP,lP] at h;have aa:x=y:=(by omega);have ao:=ih bC.tail aL.tail (by omega);rw[aa,ao]
theorem G4 {l:ar}(h:fZ l):L (V l)=l:=adj (jN _) h (ey (nx h.1))
theorem vz {l:ar}{n:Int}(h:fZ l)(bb:V l=n):l=L n:=by rw[<- bb,G4 h]
theorem r8:L 0=[]:=by rw[L,v7];rfl
theorem Su {n:Int}(h:n<=0):L n=[]:=by rw[L,Int.toNat_eq_zero.mpr h];exact r8
theorem jD {n:Int}{k:Nat}(h:0<=n):(L n).length<=k↔n<B k:=by
 constructor
 ·intro h1;have o:=od (hK n);rw[ey h] at o;have:=r7 h1;omega
 intro h1;by_cases o:L n=[]
 ·rw[o];simp
 have aa:=GA (jN n) o;rw[ey h] at aa;have ao:=aic.mpr o;apply Nat.le_of_not_lt;intro aC;have:=r7 (m:=k) (n:=(L n).length-1) (by omega);omega
theorem fZ.len {l:ar}(h:fZ l){k:Nat}:l.length<=k↔V l<B k:=by
 have:=jD (n:=V l) (k:=k) (nx h.1)
 rwa [G4 h] at this
theorem vq {n:Int}:L n=[]↔n<=0:=by
 constructor
 ·intro h;apply Int.not_lt.mp;intro h1;have:=ey (n:=n) (by omega);rw[h] at this;simp[V] at this;omega
 exact Su
theorem fZ.pos {l:ar}(h:fZ l):0<V l↔l≠[]:=by
 constructor
 ·intro h1 o;subst o;simp[V] at h1
 exact vp h
theorem fZ.JH {l:ar}(aO:cu l)(n:Nat)(h:∀x,l[n]? = some x->x≠0):fZ (l.take (n+1))\/l.length<=n:=by
 by_cases aX:n<l.length
 ·refine .inl ⟨aO.take _,fun x U=>h x ?_⟩;rw[List.take_add_one,dx aX,show (some l[n]).toList=[l[n]] from rfl,List.getLast?_append] at U;rw[dx aX];exact U
 exact .inr (by omega)
theorem fZ.one {x:Int}(h:0<x/\x<1000000000):fZ [x]:=⟨cu.cons (by omega) cu.nil,fun y aR=>by simp at aR;omega⟩
theorem JI {x:Int}(h:0<x/\x<1000000000):L x=[x]:=(vz (fZ.one h) (by simp[V])).symm
def lB (a b:Int):Int:=if a<b then -1 else if b<a then 1 else 0
theorem F0 {a b:ar}(bC:fZ a)(aL:fZ b)(h:a.length<b.length):V a<V b:=by
 have h1:=od bC.1;have l0:b≠[]:=by intro o;rw[o] at h;simp at h
 have o:=GA aL l0;have:=r7 (m:=a.length) (n:=b.length-1) (by omega);omega
theorem Ru {a b:ar}(bC:cu a)(aL:cu b){n:Nat}{x y:Int}(U:a[n]? = some x)(aR:b[n]? = some y)(h:V (a.drop (n+1))=V (b.drop (n+1)))(K7:x<y):V a<V b:=by
 have h1:=xd (Nat.le_of_lt (gi U));have o:=xd (Nat.le_of_lt (gi aR));rw[pq U] at h1;rw[pq aR,<- h] at o;have aa:=od (bC.take n);have ao:=nx (aL.take n);rw[List.length_take,Nat.min_eq_left (Nat.le_of_lt (gi U))] at aa;have aC:=py n;rw[h1,o];generalize V (a.drop (n+1))=t at *;generalize V (a.take n)=p at *;generalize V (b.take n)=q at *;generalize B n=w at *;have:w*(x+1000000000*t)+w<=w*(y+1000000000*t):=by have aS:w*(x+1000000000*t+1)<=w*(y+1000000000*t):=dN (by omega) (by omega);rw[Int.mul_add,Int.mul_one] at aS;exact aS
 omega
theorem QW {α:Type}{bz:List α}{p:α->Bool}{n:Nat}{y:α}(aR:bz[n]? = some y)(h:(bz.take n).all p=true)(ae:p y=true):(bz.take (n+1)).all p=true:=by rw[List.take_add_one,aR,List.all_append,h];simp[ae]
theorem R1 {α:Type}{bz:List α}{p:α->Bool}{n:Nat}{y:α}(aR:bz[n]? = some y)(ae:p y=false):bz.all p=false:=by rw[List.all_eq_false];exact⟨y,dH aR,by simp[ae]⟩
theorem agj {α β:Type}{f:Int×List β->Option ((Int×List β)⊕(List β⊕Unit))}(bz:List α)(ok:α->Bool)(h:α->β)
 (bX : ∀(n:Nat) y row,bz[n]? = some y->row.length=n->f ((n:Int),row)=some (if ok y then .inl (((n+1:Nat):Int),row++[h y]) else .inr (.inr ())))
 (he : ∀row,f ((bz.length:Int),row)=some (.inr (.inl row))):iter f (0,[])=some (if bz.all ok then .inl (bz.map h) else .inr ()):=by
 obtain⟨r,ai,rfl⟩:=jz (f:=f) (eS:=fun w=> ∃n:Nat,w.1=n/\n<=bz.length/\w.2=(bz.take n).map h/\(bz.take n).all ok=true) (m:=fun w=>bz.length-w.1.toNat) (fun r=>r=if bz.all ok then .inl (bz.map h) else .inr ()) (by
  rintro⟨i,row⟩ ⟨n,h1,aX,o,aa⟩;simp only at h1 o;subst h1 o;by_cases aO:n=bz.length
  ·subst aO;refine .inr ⟨_,he _,?_⟩;rw[List.take_length] at aa ⊢;rw[aa];rfl
  have aR:=dx (show n<bz.length by omega);have dh:((bz.take n).map h).length=n:=(by simp;omega);rw[bX n _ _ aR dh];by_cases ah:ok bz[n]=true
  ·refine .inl ⟨_,by rw[dw ah],⟨n+1,rfl,by omega,?_,QW aR aa ah⟩,by simp;omega⟩;simp only;rw[List.take_add_one,aR,show (some bz[n]).toList=[bz[n]] from rfl,List.map_append];rfl
  refine .inr ⟨_,by rw[dA ah],?_⟩;rw[R1 aR (by simpa using ah)];rfl) (0,[]) ⟨0,rfl,by omega,by simp,by simp⟩
 exact ai
theorem af7 {α β:Type}{f:Int×List β->Option ((Int×List β)⊕(List β⊕Unit))}(bz:List α)(ok:α->Bool)(h:α->β)(ag:List β)(h0:ag.length=bz.length)
 (bX : ∀(n:Nat) y row,bz[n]? = some y->row.length=bz.length->f ((n:Int),row)=some (if ok y then .inl (((n+1:Nat):Int),row.set n (h y)) else .inr (.inr ())))
 (he : ∀row,f ((bz.length:Int),row)=some (.inr (.inl row))):iter f (0,ag)=some (if bz.all ok then .inl (bz.map h) else .inr ()):=by
 obtain⟨r,ai,rfl⟩:=jz (f:=f) (eS:=fun w=> ∃n:Nat,w.1=n/\n<=bz.length/\w.2.length=bz.length/\w.2.take n=(bz.take n).map h/\(bz.take n).all ok=true) (m:=fun w=>bz.length-w.1.toNat) (fun r=>r=if bz.all ok then .inl (bz.map h) else .inr ()) (by
  rintro⟨i,row⟩ ⟨n,h1,aX,hlen,o,aa⟩;simp only at h1 hlen o;subst h1;by_cases aO:n=bz.length
  ·subst aO;refine .inr ⟨_,he _,?_⟩;rw[List.take_length] at aa o;rw[dQ (by omega)] at o;rw[aa,o];rfl
  have aR:=dx (show n<bz.length by omega);rw[bX n _ _ aR hlen];by_cases ah:ok bz[n]=true
  ·refine .inl ⟨_,by rw[dw ah],⟨n+1,rfl,by omega,by simpa using hlen,?_,QW aR aa ah⟩,by simp;omega⟩;simp only;rw[List.take_add_one,List.take_add_one,aR,ah1,dw rfl,dw (by omega),List.take_set_of_le (by omega),o,show (some bz[n]).toList=[bz[n]] from rfl,List.map_append];rfl
  refine .inr ⟨_,by rw[dA ah],?_⟩;rw[R1 aR (by simpa using ah)];rfl) (0,ag) ⟨0,rfl,by omega,h0,by simp,by simp⟩
 exact ai
theorem aae {α:Type}{P:Nat->α->Prop}: ∀(n:Nat),(∀k,k<n-> ∃y,P k y)-> ∃bz:List α,bz.length=n/\ ∀k y,bz[k]? = some y->P k y
 | 0,_=>⟨[],rfl,fun k y h=>by simp at h⟩
 | n+1,h=>by
  obtain⟨bz,h1,o⟩:=aae n (fun k aZ=>h k (by omega));obtain⟨y,aR⟩:=h n (by omega);refine⟨bz++[y],by simp[h1],fun k z cj=> ?_⟩;by_cases aZ:k<bz.length
  ·rw[ah4 aZ] at cj;exact o k z cj
  rw[aib (by omega)] at cj;have:k-bz.length=0:=(by have:=gi cj;simp at this;omega);rw[this] at cj;simp at cj;have:k=n:=(by omega);subst this;rw[<- cj];exact aR
theorem af8 {α iu nY β:Type}{f:nY->Option (nY⊕β)}(c3:Nat->iu->nY)(g:iu->α->iu)(e:iu->β)(eS:Nat->iu->Prop)(bz:List α)
 (h : ∀n s x,eS n s->bz[n]? = some x->f (c3 n s)=some (.inl (c3 (n+1) (g s x)))/\eS (n+1) (g s x))
 (he : ∀s,eS bz.length s->f (c3 bz.length s)=some (.inr (e s))) (jU:iu) (h0:eS 0 jU):iter f (c3 0 jU)=some (e (bz.foldl g jU))/\eS bz.length (bz.foldl g jU):=by
 have key : ∀(xs:List α) (n:Nat) (s:iu),bz.drop n=xs->n<=bz.length->eS n s->iter f (c3 n s)=some (e (xs.foldl g s))/\eS bz.length (xs.foldl g s):=by
  intro xs
  induction xs with
  | nil =>
   intro n s bF aX cA;have:n=bz.length:=(by have:=congrArg List.length bF;simp at this;omega);subst this;rw[iter,he s cA];exact⟨rfl,cA⟩
  | cons x xs ih =>
   intro n s bF aX cA;have U:bz[n]? = some x:=(by have:=congrArg (·[0]?) bF;simpa using this);have dZ:=gi U;obtain⟨h1,o⟩:=h n s x cA U;rw[iter,h1];exact ih (n+1) (g s x) (by rw[<- List.drop_drop,bF];rfl) (by omega) o
 exact key bz 0 jU rfl (Nat.zero_le _) h0
theorem af9 {yw n k:Nat}(h:(List.range yw)[n]? = some k):n=k/\k<yw:=by have aX:=gi h;rw[List.length_range] at aX;rw[List.getElem?_range aX] at h;have:=dJ h;omega
section
variable {α β bA:Type}
theorem aI {I:Option β}{f:β->Option α}{x:β}{r:Option α}(h:I=some x)(k:f x=r):(I >>= f)=r:=by rw[h];exact k
theorem cy {p:Prop}[Decidable p] {x r:Option α} (h:p) (k:x=r):(if p then x else none)=r:=by rw[dw h];exact k
theorem fK {b:Bool}{x y r:α}(h:b=true)(k:x=r):(if b=true then x else y)=r:=by rw[dw h];exact k
theorem hI {b:Bool}{x y r:α}(h:b=false)(k:y=r):(if b=true then x else y)=r:=by rw[dA (by rw[h];exact Bool.false_ne_true)];exact k
theorem k0 {p:Prop}[Decidable p] {x y r:α} (h:p) (k:x=r):(if decide p=true then x else y)=r:=by rw[dw (decide_eq_true h)];exact k
theorem k1 {p:Prop}[Decidable p] {x y r:α} (h : ¬p) (k:y=r):(if decide p=true then x else y)=r:=by rw[dA (by simpa using h)];exact k
theorem pj {b:Bool}{x y r:α}(h1:b=true->x=r)(o:b=false->y=r):(if b=true then x else y)=r:=by
 cases b
 ·exact o rfl
 exact h1 rfl
theorem ahP {I:Option bA}{x r:α}{f:bA->α}(h:I=none)(k:x=r):I.elim x f=r:=by rw[h];exact k
theorem ahQ {I:Option bA}{y:bA}{x r:α}{f:bA->α}(h:I=some y)(k:f y=r):I.elim x f=r:=by rw[h];exact k
theorem gt {l:List α}{i:Int}{n:Nat}{x:α}(e:i=n)(h:l[n]? = some x):l[i.toNat]? = some x:=by rw[e,dy];exact h
theorem ahc {l:List α}{i:Int}{n:Nat}(e:i=n)(h:n<l.length):0<=i/\i<(l.length:Nat):=by omega
theorem tg {a b:Int}(h:a=b):(a == b)=true:=by simp[h]
theorem uw {a b:Int}(h:a≠b):(a == b)=false:=by simp[h]
theorem vM {a b:Int}(h:a≠b):(a != b)=true:=by simp[h]
theorem xT {a b:Int}(h:a=b):(a != b)=false:=by simp[h]
theorem qy {iu nY:Type}{f:nY->Option (nY⊕β)}(c3:Nat->iu->nY)(N:Nat)(eS:Nat->iu->Prop)(Q:β->Prop)
 (h : ∀n,n<N-> ∀s,eS n s->(∃bS,f (c3 n s)=some (.inl (c3 (n+1) bS))/\eS (n+1) bS)\/(∃r,f (c3 n s)=some (.inr r)/\Q r))
 (he : ∀s,eS N s-> ∃r,f (c3 N s)=some (.inr r)/\Q r) (jU:iu) (h0:eS 0 jU) : ∃r,iter f (c3 0 jU)=some r/\Q r:=by
 have key : ∀(d n:Nat) (s:iu),n+d=N->eS n s-> ∃r,iter f (c3 n s)=some r/\Q r:=by
  intro d
  induction d with
  | zero =>
   intro n s aX cA;obtain rfl:n=N:=(by omega);obtain⟨r,h1,o⟩:=he s cA;exact⟨r,by rw[iter,h1];rfl,o⟩
  | succ d ih =>
   intro n s aX cA;rcases h n (by omega) s cA with ⟨bS,h1,o⟩|⟨r,h1,o⟩
   ·obtain⟨r,aa,ao⟩:=ih (n+1) bS (by omega) o;exact⟨r,by rw[iter,h1];exact aa,ao⟩
   exact⟨r,by rw[iter,h1];rfl,o⟩
 exact key N 0 jU (by omega) h0
theorem iE {iu nY:Type}{f:nY->Option (nY⊕β)}(c3:Nat->iu->nY)(N:Nat)(eS:Nat->iu->Prop)(e:iu->β)
 (h : ∀n,n<N-> ∀s,eS n s-> ∃bS,f (c3 n s)=some (.inl (c3 (n+1) bS))/\eS (n+1) bS)
 (he : ∀s,eS N s->f (c3 N s)=some (.inr (e s))) (jU:iu) (h0:eS 0 jU) : ∃s,iter f (c3 0 jU)=some (e s)/\eS N s:=by
 obtain⟨r,h1,s,rfl,o⟩:=qy c3 N eS (fun r=> ∃s,r=e s/\eS N s) (fun n aX s cA=> .inl (h n aX s cA)) (fun s cA=>⟨_,he s cA,s,rfl,cA⟩) jU h0;exact⟨s,h1,o⟩
end
def cq:Nat->(Nat->Rat)->Rat
 | 0,_=>0
 | n+1,f=>cq n f+f n
theorem fX {f g:Nat->Rat}: ∀ {n:Nat},(∀i,i<n->f i=g i)->cq n f=cq n g
 | 0,_=>rfl
 | n+1,h=>by rw[cq,cq,fX fun i ab=>h i (Nat.lt_succ_of_lt ab),h n (Nat.lt_succ_self n)]
theorem o1 : ∀ {n:Nat} {f:Nat->Rat},(∀i,i<n->f i=0)->cq n f=0
 | 0,_,_=>rfl
 | n+1,f,h=>by rw[cq,o1 fun i ab=>h i (Nat.lt_succ_of_lt ab),h n (Nat.lt_succ_self n)];grind
theorem w3 (f g:Nat->Rat): ∀n,cq n (fun i=>f i+g i)=cq n f+cq n g
 | 0=>by simp only[cq];grind
 | n+1=>by simp only[cq,w3 f g n];grind
theorem rU (f g:Nat->Rat): ∀n,cq n (fun i=>f i-g i)=cq n f-cq n g
 | 0=>by simp only[cq];grind
 | n+1=>by simp only[cq,rU f g n];grind
theorem jy (c:Rat)(f:Nat->Rat): ∀n,cq n (fun i=>c*f i)=c*cq n f
 | 0=>by simp only[cq];grind
 | n+1=>by simp only[cq,jy c f n];grind
theorem va (c:Rat)(f:Nat->Rat)(n:Nat):cq n (fun i=>f i*c)=cq n f*c:=by rw[fX (g:=fun i=>c*f i) (fun i _=>Rat.mul_comm _ _),jy,Rat.mul_comm]
theorem p4 (f:Nat->Nat->Rat)(m:Nat): ∀n,cq n (fun i=>cq m (f i))=cq m (fun j=>cq n (fun i=>f i j))
 | 0=>by simp only[cq];exact(o1 fun _ _=>rfl).symm
 | n+1=>by simp only[cq,p4 f m n];rw[<- w3]
theorem k4 {n k:Nat}(aZ:k<n){f:Nat->Rat}(h:∀i,i<n->i≠k->f i=0):cq n f=f k:=by
 induction n with
 | zero=>omega
 | succ n ih =>
  rw[cq];by_cases e:k=n
  ·subst e;rw[o1 fun i ab=>h i (by omega) (by omega)];grind
  rw[ih (by omega) fun i ab cU=>h i (by omega) cU,h n (by omega) (by omega)];grind
theorem tJ {f:Nat->Rat}: ∀ {n:Nat},(∀i,i<n->0<=f i)->0<=cq n f
 | 0,_=>by simp only[cq];grind
 | n+1,h=>by have h1:=tJ (n:=n) fun i ab=>h i (Nat.lt_succ_of_lt ab);have o:=h n (Nat.lt_succ_self n);simp only[cq];grind
theorem abd {f g:Nat->Rat}{n:Nat}(h:∀i,i<n->f i<=g i):cq n f<=cq n g:=by
 have:=tJ (n:=n) (f:=fun i=>g i-f i) fun i ab=>by have:=h i ab;grind
 rw[rU] at this;grind
theorem ID {f:Nat->Rat}: ∀ {n:Nat},(∀i,i<n->0<=f i)->cq n f=0-> ∀i,i<n->f i=0
 | 0,_,_,i,ab=>by omega
 | n+1,h,bX,i,ab=>by
  have h1:=tJ (n:=n) fun i ab=>h i (Nat.lt_succ_of_lt ab);have o:=h n (Nat.lt_succ_self n);simp only[cq] at bX;by_cases e:i=n
  ·subst e;grind
  exact ID (n:=n) (fun i ab=>h i (by omega)) (by grind) i (by omega)
theorem IW (m:Nat)(f:Nat->Rat): ∀n,cq (m+n) f=cq m f+cq n (fun i=>f (m+i))
 | 0=>by simp only[cq,Nat.add_zero];grind
 | n+1=>by rw[<- Nat.add_assoc,cq,cq,IW m f n];grind
def ib (K:Nat)(g:Nat->Rat):Prop:= ∃l,l<K/\0<g l/\ ∀fC,fC<l->g fC=0
def C0 (K:Nat)(g:Nat->Rat):Prop:= ∀l,l<K->g l=0
theorem ib.congr {K:Nat}{g gq:Nat->Rat}(h:ib K g)(e:∀l,l<K->g l=gq l):ib K gq:=by obtain⟨l,h1,o,aa⟩:=h;exact⟨l,h1,by rw[<- e l h1];exact o,fun fC aO=>by rw[<- e fC (by omega)];exact aa fC aO⟩
theorem ib.not_zero {K:Nat}{g:Nat->Rat}(h:ib K g)(z:C0 K g):False:=by obtain⟨l,h1,o,aa⟩:=h;have:=z l h1;grind
theorem FI (K:Nat)(g:Nat->Rat):ib K g\/C0 K g\/ib K (fun l=> - g l):=by
 induction K with
 | zero=>exact .inr (.inl fun l aO=>by omega)
 | succ K ih =>
  rcases ih with ⟨l,h1,o,aa⟩|h|⟨l,h1,o,aa⟩
  ·exact .inl ⟨l,by omega,o,aa⟩
  ·by_cases c:g K=0
   ·exact .inr (.inl fun l aO=>if e:l=K then e▸c else h l (by omega))
   by_cases p:0<g K
   ·exact .inl ⟨K,by omega,p,h⟩
   exact .inr (.inr ⟨K,by omega,by grind,fun fC aO=>by have:=h fC aO;grind⟩)
  exact .inr (.inr ⟨l,by omega,o,aa⟩)
theorem ib.not_neg {K:Nat}{g:Nat->Rat}(h:ib K g)(cF:ib K (fun l=> - g l)):False:=by
 obtain⟨l,h1,o,aa⟩:=h;obtain⟨k,kX,i4,l4⟩:=cF;rcases Nat.lt_trichotomy l k with c|c|c
 ·have:=l4 l c;grind
 ·subst c;grind
 have:=aa k c;grind
theorem ib.add {K:Nat}{g gq:Nat->Rat}(h:ib K g)(cF:ib K gq):ib K (fun l=>g l+gq l):=by
 obtain⟨l,h1,o,aa⟩:=h;obtain⟨k,kX,i4,l4⟩:=cF;rcases Nat.lt_trichotomy l k with c|c|c
 ·exact⟨l,h1,by have:=l4 l c;grind,fun fC aO=>by have:=aa fC aO;have:=l4 fC (by omega);grind⟩
 ·subst c;exact⟨l,h1,by grind,fun fC aO=>by have:=aa fC aO;have:=l4 fC aO;grind⟩
 exact⟨k,kX,by have:=aa k c;grind,fun fC aO=>by have:=aa fC (by omega);have:=l4 fC aO;grind⟩
theorem ib.add_zero {K:Nat}{g gq:Nat->Rat}(h:ib K g)(cF:C0 K gq):ib K (fun l=>g l+gq l) :=
 h.congr fun l aO=>by have:=cF l aO;grind
theorem ib.mul {K:Nat}{g:Nat->Rat}(h:ib K g){c:Rat}(a8:0<c):ib K (fun l=>c*g l):=by obtain⟨l,h1,o,aa⟩:=h;exact⟨l,h1,Rat.mul_pos a8 o,fun fC aO=>by have:=aa fC aO;grind⟩
theorem ib.R2 {K:Nat}{g:Nat->Rat}{c:Rat}(h:ib K (fun l=>c*g l)):(0<c/\ib K g)\/(c<0/\ib K (fun l=> - g l)):=by
 rcases FI K g with p|p|p
 ·by_cases a8:0<c
  ·exact .inl ⟨a8,p⟩
  by_cases h0:c=0
  ·exact(h.not_zero fun l _=>by grind).elim
  exact(h.not_neg ((p.mul (c:= -c) (by grind)).congr fun l _=>by grind)).elim
 ·exact(h.not_zero fun l aO=>by have:=p l aO;grind).elim
 by_cases a8:c<0
 ·exact .inr ⟨a8,p⟩
 by_cases h0:c=0
 ·exact(h.not_zero fun l _=>by grind).elim
 exact(h.not_neg ((p.mul (c:=c) (by grind)).congr fun l _=>by grind)).elim
theorem ib.JW {K:Nat}{v:Nat->Nat->Rat}: ∀ {n:Nat},ib K (fun l=>cq n (fun j=>v j l))-> ∃j,j<n/\ib K (v j)
 | 0,h=>(h.not_zero fun l _=>rfl).elim
 | n+1,h=>by
  by_cases c:ib K (v n)
  ·exact⟨n,by omega,c⟩
  have:ib K (fun l=>cq n (fun j=>v j l)):=by
   rcases FI K (fun l=>cq n (fun j=>v j l)) with p|p|p
   ·exact p
   ·exact(c (h.congr fun l aO=>by have:=p l aO;simp only[cq];grind)).elim
   rcases FI K (v n) with q|q|q
   ·exact(c q).elim
   ·exact(h.not_neg (p.congr fun l aO=>by have:=q l aO;simp only[cq];grind)).elim
   exact(h.not_neg ((p.add q).congr fun l aO=>by simp only[cq];grind)).elim
  obtain⟨j,h1,o⟩:=ib.JW this;exact⟨j,by omega,o⟩
structure b7 where
 T:Nat->Nat->Rat
 B:Nat->Nat
structure gv (eo m N:Nat) (A:Nat->Nat->Rat) (t:b7):Prop where
 st : ∀c,c<eo-> ∀j,j<=N->A c j=cq m (fun i=>A c (t.B i)*t.T i j)
 row : ∃W:Nat->Nat->Rat,∀i,i<m-> ∀j,j<=N->t.T i j=cq eo (fun c=>W i c*A c j)
 unit : ∀i,i<m-> ∀k,k<m->t.T i (t.B k)=if i=k then 1 else 0
 kb : ∀i,i<m->t.B i<N
def b7.ca (t:b7)(r k:Nat):b7 where
 T:=fun i j=>if i=r then t.T r j / t.T r k else t.T i j-t.T i k*(t.T r j / t.T r k)
 B:=fun i=>if i=r then k else t.B i
def b7.cR (m:Nat)(obj:Nat->Rat)(t:b7)(j:Nat):Rat:=obj j-cq m (fun i=>obj (t.B i)*t.T i j)
section
variable {eo m N:Nat} {A:Nat->Nat->Rat} {t:b7}
theorem gv.inj (h:gv eo m N A t){i k:Nat}(ab:i<m)(aZ:k<m)(e:t.B i=t.B k):i=k:=by
 have h1:=h.unit i ab k aZ;rw[<- e,h.unit i ab i ab,dw rfl] at h1;by_cases c:i=k
 ·exact c
 rw[dA c] at h1;grind
theorem gv.ca (h:gv eo m N A t){r k:Nat}(ai:r<m)(aZ:k<N)(ae:t.T r k≠0):gv eo m N A (t.ca r k) where
 st:=by
  intro c a8 j au;rw[h.st c a8 j au];have nL:=h.st c a8 k (by omega)
  have e:cq m (fun i=>A c ((t.ca r k).B i)*(t.ca r k).T i j)=cq m (fun i=>A c (t.B i)*t.T i j)+(t.T r j / t.T r k)*(A c k-cq m (fun i=>A c (t.B i)*t.T i k)):=by
   have e1 : ∀i,i<m->A c ((t.ca r k).B i)*(t.ca r k).T i j=(A c (t.B i)*t.T i j-(t.T r j / t.T r k)*(A c (t.B i)*t.T i k))+(if i=r then (t.T r j / t.T r k)*A c k else 0):=by
    intro i ab;simp only[b7.ca];by_cases e:i=r
    ·subst e;simp only[if_true];grind
    simp only[dA e];grind
   rw[fX e1,w3,rU,jy,k4 ai (f:=fun i=>if i=r then (t.T r j / t.T r k)*A c k else 0) (fun i _ cU=>dA cU),dw rfl];grind
  rw[e,<- nL];grind
 row:=by
  obtain⟨W,hW⟩:=h.row;refine⟨fun i c=>if i=r then W r c / t.T r k else W i c-t.T i k*(W r c / t.T r k),fun i ab j au=> ?_⟩;simp only[b7.ca];by_cases e:i=r
  ·subst e;simp only[if_true];rw[fX (f:=fun c=>W i c / t.T i k*A c j) (g:=fun c=>(1 / t.T i k)*(W i c*A c j)) (fun c _=>by grind),jy,<- hW i ab j au];grind
  simp only[dA e];rw[fX (f:=fun c=>(W i c-t.T i k*(W r c / t.T r k))*A c j) (g:=fun c=>W i c*A c j-(t.T i k / t.T r k)*(W r c*A c j)) (fun c _=>by grind),rU,jy,<- hW i ab j au,<- hW r ai j au];grind
 unit:=by
  intro i ab dc nL;simp only[b7.ca];by_cases e:i=r
  ·subst e
   simp only[if_true];by_cases ez:dc=i
   ·subst ez;simp only[if_true];grind
   simp only[dA ez];rw[h.unit i ab dc nL,dA (fun x=>ez x.symm)];grind
  simp only[dA e];by_cases ez:dc=r
  ·subst ez;simp only[if_true,dA e];grind
  simp only[dA ez];rw[h.unit i ab dc nL,h.unit r ai dc nL,dA (c:=r=dc) (fun x=>ez x.symm)];grind
 kb:=fun i ab=>by
  simp only[b7.ca];split
  ·exact aZ
  exact h.kb i ab
theorem gv.Ad (h:gv eo m N A t)(obj:Nat->Rat){i:Nat}(ab:i<m):t.cR m obj (t.B i)=0:=by unfold b7.cR;rw[k4 ab (f:=fun eG=>obj (t.B eG)*t.T eG (t.B i)) (fun k aZ cU=>by rw[h.unit k aZ i ab,dA cU];grind),h.unit i ab i ab,dw rfl];grind
theorem gv.Jx (h:gv eo m N A t)(obj:Nat->Rat){r k:Nat}(ai:r<m)(aZ:k<N)(ae:t.T r k≠0)(j:Nat):
 (t.ca r k).cR m obj j=t.cR m obj j-t.cR m obj k*(t.T r j / t.T r k):=by
 unfold b7.cR
 have e1 : ∀i,i<m->obj ((t.ca r k).B i)*(t.ca r k).T i j=(obj (t.B i)*t.T i j-(t.T r j / t.T r k)*(obj (t.B i)*t.T i k))+(if i=r then (t.T r j / t.T r k)*obj k else 0):=by
  intro i ab;simp only[b7.ca];by_cases e:i=r
  ·subst e;simp only[if_true];grind
  simp only[dA e];grind
 rw[fX e1,w3,rU,jy,k4 ai (f:=fun i=>if i=r then (t.T r j / t.T r k)*obj k else 0) (fun i _ cU=>dA cU),dw rfl];grind
theorem gv.abe (h:gv eo m N A t){z:Nat->Rat}(cj:∀c,c<eo->cq N (fun j=>A c j*z j)=0){i:Nat}(ab:i<m):cq N (fun j=>t.T i j*z j)=0:=by obtain⟨W,hW⟩:=h.row;rw[fX (g:=fun j=>cq eo (fun c=>W i c*(A c j*z j))) (fun j au=>by rw[hW i ab j (by omega),<- va];exact fX fun c _=>by grind),p4];exact o1 fun c a8=>by rw[jy,cj c a8];grind
theorem gv.abf (h:gv eo m N A t)(obj:Nat->Rat){z:Nat->Rat}(cj:∀c,c<eo->cq N (fun j=>A c j*z j)=0):
 cq N (fun j=>z j*t.cR m obj j)=cq N (fun j=>obj j*z j):=by
 unfold b7.cR;rw[fX (g:=fun j=>obj j*z j-cq m (fun i=>obj (t.B i)*(t.T i j*z j))) (fun j _=>by rw[fX (f:=fun i=>obj (t.B i)*(t.T i j*z j)) (g:=fun i=>z j*(obj (t.B i)*t.T i j)) (fun i _=>by grind),jy];grind),rU,p4];rw[o1 (n:=m) fun i ab=>by rw[jy,h.abe cj ab];grind];grind
def b7.dir (m:Nat)(t:b7)(s j:Nat):Rat:=(if j=s then 1 else 0)-cq m (fun i=>if t.B i=j then t.T i s else 0)
theorem gv.Rv (h:gv eo m N A t){s:Nat}(bX:s<N)(f:Nat->Rat):cq N (fun j=>f j*t.dir m s j)=f s-cq m (fun i=>f (t.B i)*t.T i s):=by unfold b7.dir;rw[fX (g:=fun j=>(if j=s then f s else 0)-cq m (fun i=>if t.B i=j then f (t.B i)*t.T i s else 0)) (fun j _=>by have e:cq m (fun i=>if t.B i=j then f (t.B i)*t.T i s else 0)=f j*cq m (fun i=>if t.B i=j then t.T i s else 0):=(by rw[<- jy];exact fX fun i _=>by split<;>grind);rw[e];split<;>grind),rU,k4 bX (f:=fun j=>if j=s then f s else 0) (fun i _ cU=>dA cU),dw rfl,p4];congr 1;exact fX fun i ab=>by rw[k4 (h.kb i ab) (f:=fun j=>if t.B i=j then f (t.B i)*t.T i s else 0) (fun j _ cU=>dA fun x=>cU x.symm),dw rfl]
theorem gv.abg (h:gv eo m N A t){s:Nat}(bX:s<N): ∀c,c<eo->cq N (fun j=>A c j*t.dir m s j)=0:=by intro c a8;rw[h.Rv bX,<- h.st c a8 s (by omega)];grind
theorem gv.abh (h:gv eo m N A t){s:Nat}(bX:s<N)(obj:Nat->Rat):cq N (fun j=>obj j*t.dir m s j)=t.cR m obj s:=h.Rv bX obj
theorem gv.same {c2:b7}(h:gv eo m N A t)(cF:gv eo m N A c2)(e:∀i,i<m->t.B i=c2.B i){i:Nat}(ab:i<m){j:Nat}(au:j<=N):t.T i j=c2.T i j:=by obtain⟨W,hW⟩:=h.row;rw[hW i ab j au,fX (g:=fun c=>cq m (fun k=>W i c*(A c (c2.B k)*c2.T k j))) (fun c a8=>by rw[cF.st c a8 j au,jy]),p4];rw[fX (g:=fun k=>(if i=k then c2.T k j else 0)) (fun k aZ=>by rw[fX (g:=fun c=>(W i c*A c (c2.B k))*c2.T k j) (fun c _=>by grind),va,<- e k aZ,<- hW i ab (t.B k) (Nat.le_of_lt (h.kb k aZ)),h.unit i ab k aZ];split<;>grind)];rw[k4 ab (f:=fun k=>if i=k then c2.T k j else 0) (fun k _ cU=>dA fun x=>cU x.symm),dw rfl]
end
def b7.lC (m N:Nat)(t:b7):Prop:= ∀i,i<m->0<=t.T i N
def b7.sy (m K:Nat)(obj:Nat->Nat->Rat)(t:b7)(j:Nat):Prop:=ib K (fun l=>t.cR m (obj l) j)
structure o6 (m N K:Nat) (obj:Nat->Nat->Rat) (bU:Nat->Prop) (t:b7) (r s:Nat):Prop where
 bX:s<N
 G5:bU s
 gs:t.sy m K obj s
 least : ∀j,j<s->bU j-> ¬t.sy m K obj j
 ai:r<m
 pos:0<t.T r s
 ratio : ∀i,i<m->0<t.T i s->t.T r N*t.T i s<=t.T i N*t.T r s
 tie : ∀i,i<m->0<t.T i s->t.T r N*t.T i s=t.T i N*t.T r s->t.B r<=t.B i
section
variable {eo m N K:Nat} {A obj:Nat->Nat->Rat} {bU:Nat->Prop}
theorem o6.ok {t:b7}{r s:Nat}(b:o6 m N K obj bU t r s)(h:gv eo m N A t):gv eo m N A (t.ca r s):=h.ca b.ai b.bX (by have:=b.pos;grind)
theorem o6.DT {t:b7}{r s:Nat}(b:o6 m N K obj bU t r s)(h:t.lC m N):(t.ca r s).lC m N:=by
 intro i ab;have ae:=b.pos;have aez:=h r b.ai;have a1:0<=t.T r N / t.T r s:=by rw[Rat.div_def];exact aie aez (Rat.le_of_lt (Rat.inv_pos.2 ae))
 simp only[b7.ca];split
 ·exact a1
 by_cases c:0<t.T i s
 ·have h1:=b.ratio i ab c;have o:t.T i s*(t.T r N / t.T r s)<=t.T i N:=(by have e:t.T i s*(t.T r N / t.T r s)=(t.T r N*t.T i s)*(1 / t.T r s):=(by grind);have aD:t.T i N=(t.T i N*t.T r s)*(1 / t.T r s):=(by grind);rw[e,aD];exact Rat.mul_le_mul_of_nonneg_right h1 (by rw[Rat.div_def,Rat.one_mul];exact Rat.le_of_lt (Rat.inv_pos.2 ae)));grind
 have h1:=h i ab;have o:0<=(- t.T i s)*(t.T r N / t.T r s):=aie (by grind) a1;grind
theorem P2 (f:Nat->Nat): ∀p,0<p-> ∃b,b<p/\ ∀k,k<p->f k<=f b
 | 0,h=>by omega
 | 1,_=>⟨0,by omega,fun k aZ=>by rw[show k=0 by omega];exact dG _⟩
 | p+2,_=>by
  obtain⟨b,h1,o⟩:=P2 f (p+1) (by omega);by_cases c:f (p+1)<=f b
  ·exact⟨b,by omega,fun k aZ=>if e:k=p+1 then e▸c else o k (by omega)⟩
  exact⟨p+1,by omega,fun k aZ=>if e:k=p+1 then e▸dG _ else Nat.le_trans (o k (by omega)) (by omega)⟩
theorem abi {t:Nat->b7}{r s:Nat->Nat}{p:Nat}(ae:0<p)(h0:gv eo m N A (t 0))(f0:(t 0).lC m N)
 (c3 : ∀n,n<p->o6 m N K obj bU (t n) (r n) (s n)) (sA : ∀n,n<p->t (n+1)=(t n).ca (r n) (s n)) (back : ∀i,i<m->(t p).B i=(t 0).B i):False:=by
 have ok : ∀n,n<=p->gv eo m N A (t n)/\(t n).lC m N:=by
  intro n
  induction n with
  | zero=>intro _;exact⟨h0,f0⟩
  | succ n ih =>
   intro aX;obtain⟨a,b⟩:=ih (by omega);rw[sA n (by omega)];exact⟨(c3 n (by omega)).ok a,(c3 n (by omega)).DT b⟩
 have afx : ∀n,n<p->0<=(t n).T (r n) N / (t n).T (r n) (s n):=fun n aX=>by rw[Rat.div_def];exact aie ((ok n (by omega)).2 _ (c3 n aX).ai) (Rat.le_of_lt (Rat.inv_pos.2 (c3 n aX).pos))
 have hh : ∀n,n<=p->ib K (fun l=>(t 0).cR m (obj l) N-(t n).cR m (obj l) N)\/(C0 K (fun l=>(t 0).cR m (obj l) N-(t n).cR m (obj l) N)/\ ∀k,k<n->(t k).T (r k) N=0):=by
  intro n
  induction n with
  | zero=>intro _;exact .inr ⟨fun l _=>by grind,fun k aZ=>by omega⟩
  | succ n ih =>
   intro aX;have b:=c3 n (by omega);have jZ:=b.pos;have e : ∀l,(t 0).cR m (obj l) N-(t (n+1)).cR m (obj l) N=((t n).T (r n) N / (t n).T (r n) (s n))*(t n).cR m (obj l) (s n)+((t 0).cR m (obj l) N-(t n).cR m (obj l) N):=fun l=>(by rw[sA n (by omega),(ok n (by omega)).1.Jx (obj l) b.ai b.bX (by grind)];grind);by_cases c:(t n).T (r n) N=0
   ·have z : ∀l,(t 0).cR m (obj l) N-(t (n+1)).cR m (obj l) N=(t 0).cR m (obj l) N-(t n).cR m (obj l) N:=fun l=>by rw[e,c];grind
    rcases ih (by omega) with h|⟨h1,o⟩
    ·exact .inl (h.congr fun l _=>(z l).symm)
    refine .inr ⟨fun l aO=>by have:=h1 l aO;simp only at this ⊢;rw[z l];exact this,fun k aZ=> ?_⟩;by_cases tx:k=n
    ·rw[tx];exact c
    exact o k (by omega)
   have LQ:0<(t n).T (r n) N / (t n).T (r n) (s n):=(by have h1:=afx n (by omega);have o:(t n).T (r n) N / (t n).T (r n) (s n)≠0:=fun x=>c (by grind);grind);have g1:ib K (fun l=>((t n).T (r n) N / (t n).T (r n) (s n))*(t n).cR m (obj l) (s n)):=ib.mul b.gs LQ;left;rcases ih (by omega) with h|⟨h1,-⟩
   ·exact(g1.add h).congr fun l _=>(e l).symm
   exact(g1.add_zero h1).congr fun l _=>(e l).symm
 have zero : ∀k,k<p->(t k).T (r k) N=0:=by
  rcases hh p (dG _) with h|h
  ·refine(h.not_zero fun l _=> ?_).elim;unfold b7.cR;rw[fX (f:=fun i=>obj l ((t p).B i)*(t p).T i N) (g:=fun i=>obj l ((t 0).B i)*(t 0).T i N) fun i ab=>by rw[back i ab,(ok p (dG _)).1.same (ok 0 (by omega)).1 back ab (dG _)]];grind
  exact h.2
 have const : ∀n,n<=p-> ∀i,i<m->(t n).T i N=(t 0).T i N:=by
  intro n
  induction n with
  | zero=>intros;rfl
  | succ n ih =>
   intro aX i ab;rw[<- ih (by omega) i ab,sA n (by omega)];simp only[b7.ca];have:=zero n (by omega);split
   ·rename_i e;rw[e,this];grind
   rw[this];grind
 have K8 : ∀n,n<p-> ∀i,i<m->(t n).B i≠s n:=fun n aX i ab e=>by refine ib.not_zero (c3 n aX).gs fun l _=> ?_;rw[<- e];exact(ok n (by omega)).1.Ad (obj l) ab
 have Uf : ∀d n,n+d<=p-> ∀j,(∀i,i<m->(t n).B i≠j)->(∀k,n<=k->k<n+d->s k≠j)-> ∀i,i<m->(t (n+d)).B i≠j:=by
  intro d
  induction d with
  | zero=>intro n aX j h1 o;exact h1
  | succ d ih =>
   intro n aX j h1 o i ab;rw[<- Nat.add_assoc,sA (n+d) (by omega)];simp only[b7.ca];split
   ·exact o (n+d) (by omega) (by omega)
   exact ih n (by omega) j h1 (fun k a b=>o k a (by omega)) i ab
 have Ug : ∀d n,n+d<=p-> ∀i,i<m->(∀k,n<=k->k<n+d->r k≠i)->(t (n+d)).B i=(t n).B i:=by
  intro d
  induction d with
  | zero=>intros;rfl
  | succ d ih =>
   intro n aX i ab o;rw[<- Nat.add_assoc,sA (n+d) (by omega)];simp only[b7.ca];rw[dA fun e=>o (n+d) (by omega) (by omega) e.symm];exact ih n (by omega) i ab (fun k a b=>o k a (by omega))
 have Uh : ∀d n,n+d<=p-> ∀i,i<m-> ∀q,(t n).B i=q->(∀k,n<=k->k<n+d->(t k).B (r k)≠q)->(t (n+d)).B i=q:=by
  intro d
  induction d with
  | zero=>intro n aX i ab q h1 o;exact h1
  | succ d ih =>
   intro n aX i ab q h1 o;have aa:=ih n (by omega) i ab q h1 (fun k a b=>o k a (by omega));rw[<- Nat.add_assoc,sA (n+d) (by omega)];simp only[b7.ca];rw[dA fun e=>o (n+d) (by omega) (by omega) (by rw[<- e];exact aa)];exact aa
 obtain⟨b,aL,SM⟩:=P2 s p ae;have yl:=c3 b aL;have afy : ∃a,a<p/\(t a).B (r a)=s b:=by apply Classical.byContradiction;intro cU;have oH : ∀a,a<p->(t a).B (r a)≠s b:=fun a bC e=>cU ⟨a,bC,e⟩;have e1:(t (b+1)).B (r b)=s b:=(by rw[sA b aL];simp[b7.ca]);have aD:=Uh (p-(b+1)) (b+1) (by omega) (r b) yl.ai (s b) e1 (fun k _ aZ=>oH k (by omega));rw[show b+1+(p-(b+1))=p by omega,back _ yl.ai] at aD;have bH:=Uh b 0 (by omega) (r b) yl.ai (s b) aD (fun k _ aZ=>oH k (by omega));rw[dF] at bH;exact K8 b aL _ yl.ai bH
 obtain⟨a,bC,a1⟩:=afy;have v8:=c3 a bC;have Hv:=(ok a (by omega)).1;have Ts:=(ok b (by omega)).1;have aeA:s a<s b:=by have h1:=SM a bC;have o:s a≠s b:=fun e=>K8 a bC (r a) v8.ai (a1.trans e.symm);omega
 have SN:ib K (fun l=>cq N (fun j=>(t a).dir m (s a) j*(t b).cR m (obj l) j)) :=
  ib.congr v8.gs fun l _=>by rw[Ts.abf (obj l) (Hv.abg v8.bX),Hv.abh v8.bX]
 obtain⟨j,au,adG⟩:=ib.JW (v:=fun j l=>(t a).dir m (s a) j*(t b).cR m (obj l) j) SN;have hmul:=adG.R2;by_cases ES:j=s a
 ·have bF:(t a).dir m (s a) j=1:=by
   unfold b7.dir;rw[dw ES,o1 fun i ab=>dA (by rw[ES];exact K8 a bC i ab)];grind
  rw[bF] at hmul;rcases hmul with ⟨-,h⟩|⟨h,-⟩
  ·rw[ES] at h;exact yl.least (s a) aeA v8.G5 h
  grind
 by_cases SO : ∃i,i<m/\(t a).B i=j;rotate_left
 ·have bF:(t a).dir m (s a) j=0:=by
   unfold b7.dir;rw[dA ES,o1 fun i ab=>dA fun e=>SO ⟨i,ab,e⟩];grind
  rw[bF] at hmul;rcases hmul with ⟨h,-⟩|⟨h,-⟩<;>grind
 obtain⟨i,ab,qQ⟩:=SO;have bF:(t a).dir m (s a) j = - (t a).T i (s a):=by unfold b7.dir;rw[dA ES,k4 ab (fun k aZ cU=>dA fun e=>cU (Hv.inj aZ ab (e.trans qQ.symm))),dw qQ];grind
 rw[bF] at hmul
 have Tt : ∀k,k<m->(t b).B k≠j:=fun k aZ e=>by
  have z:C0 K (fun l=>(t b).cR m (obj l) j):=fun l _=>(by rw[<- e];exact Ts.Ad (obj l) aZ);rcases hmul with ⟨-,h⟩|⟨-,h⟩
  ·exact h.not_zero z
  exact h.not_zero fun l aO=>by have:=z l aO;simp only at this ⊢;grind
 have aeB : ∃k,k<p/\s k=j:=by apply Classical.byContradiction;intro cU;have oH : ∀k,k<p->s k≠j:=fun k aZ e=>cU ⟨k,aZ,e⟩;have e1:=Uf (p-b) b (by omega) j Tt (fun k _ aZ=>oH k (by omega));rw[show b+(p-b)=p by omega] at e1;have aD:=Uf a 0 (by omega) j (fun k aZ=>by rw[<- back k aZ];exact e1 k aZ) (fun k _ aZ=>oH k (by omega));rw[dF] at aD;exact aD i ab qQ
 obtain⟨k,aZ,Ek⟩:=aeB;have ahd:j<=s b:=by rw[<- Ek];exact SM k aZ
 have aeC:bU j:=by rw[<- Ek];exact(c3 k aZ).G5
 have adH : ∃k,k<p/\r k=i:=by apply Classical.byContradiction;intro cU;have oH : ∀k,k<p->r k≠i:=fun k aZ e=>cU ⟨k,aZ,e⟩;have e1:=Ug a 0 (by omega) i ab (fun k _ aZ=>oH k (by omega));have aD:=Ug b 0 (by omega) i ab (fun k _ aZ=>oH k (by omega));rw[dF] at e1 aD;exact Tt i ab (by rw[aD,<- e1];exact qQ)
 obtain⟨i4,G6,adI⟩:=adH;have cj:(t a).T i N=0:=by rw[const a (by omega) i ab,<- const i4 (by omega) i ab,<- adI];exact zero i4 G6
 rcases hmul with ⟨h1,o⟩|⟨h1,o⟩
 ·have aeD:j≠s b:=fun e=>by
   have:i=r a:=Hv.inj ab v8.ai (by rw[qQ,a1,e]);have ae:=v8.pos;rw[<- this] at ae;grind
  exact yl.least j (by omega) aeC o
 have aeD:j≠s b:=fun e=>by rw[e] at o;exact ib.not_neg yl.gs o
 have jZ:0<(t a).T i (s a):=by grind
 have:=v8.tie i ab jZ (by rw[cj,zero a bC];grind);rw[a1,qQ] at this;omega
end
theorem JX : ∀(M p:Nat) (f:Nat->Nat),(∀n,n<p->f n<M)->(∀a b,a<p->b<p->f a=f b->a=b)->p<=M
 | 0,p,f,h,_=>by
  cases p with
  | zero=>exact dG _
  | succ p=>have:=h 0 (by omega);omega
 | M+1,p,f,h,ab=>by
  by_cases c : ∃n,n<p/\f n=M
  ·obtain⟨l3,h0,e0⟩:=c
   have:=JX M (p-1) (fun n=>f (if n<l3 then n else n+1)) (fun n aX=>by
    have h1:=h (if n<l3 then n else n+1) (by split<;>omega);have o:f (if n<l3 then n else n+1)≠M:=fun e=>(by have:=ab _ _ (by split<;>omega) h0 (e.trans e0.symm);split at this<;>omega);omega) (fun a b bC aL e=>by
    have:=ab _ _ (by split<;>omega) (by split<;>omega) e;split at this<;>split at this<;>omega)
   omega
  have:=JX M p f (fun n aX=>by have h1:=h n aX;have o:f n≠M:=fun e=>c ⟨n,aX,e⟩;omega) ab;omega
def code (N:Nat)(B:Nat->Nat):Nat->Nat
 | 0=>0
 | m+1=>code N B m+B m*N ^ m
theorem F1 {N:Nat}{B:Nat->Nat}: ∀ {m:Nat},(∀i,i<m->B i<N)->code N B m<N ^ m
 | 0,_=>by simp[code]
 | m+1,h=>by have h1:=F1 (m:=m) fun i ab=>h i (by omega);have o:=h m (by omega);have aa:(B m+1)*N ^ m<=N*N ^ m:=ahY _ o;rw[Nat.add_mul] at aa;rw[code,Nat.pow_succ,Nat.mul_comm (N ^ m) N];omega
theorem QX {N:Nat}{B ym:Nat->Nat}: ∀ {m:Nat},(∀i,i<m->B i<N)->(∀i,i<m->ym i<N)->code N B m=code N ym m-> ∀i,i<m->B i=ym i
 | 0,_,_,_,i,ab=>by omega
 | m+1,h,cF,e,i,ab=>by
  have h1:=F1 (m:=m) fun i ab=>h i (by omega);have o:=F1 (m:=m) fun i ab=>cF i (by omega);rw[code,code] at e;have jZ:0<N ^ m:=(by omega);have e1:B m=ym m:=(by have gU:(code N B m+B m*N ^ m) / N ^ m=B m:=(by rw[Nat.add_mul_div_right _ _ jZ,Nat.div_eq_of_lt h1];omega);have h7:(code N ym m+ym m*N ^ m) / N ^ m=ym m:=(by rw[Nat.add_mul_div_right _ _ jZ,Nat.div_eq_of_lt o];omega);rw[<- gU,<- h7,e]);rw[e1] at e;by_cases c:i=m
  ·rw[c];exact e1
  exact QX (m:=m) (fun i ab=>h i (by omega)) (fun i ab=>cF i (by omega)) (by omega) i (by omega)
section
variable {eo m N K:Nat} {A obj:Nat->Nat->Rat} {bU:Nat->Prop}
structure DU (m N K:Nat) (obj:Nat->Nat->Rat) (bU:Nat->Prop) (t:Nat->b7) (r s:Nat->Nat) (p:Nat):Prop where
 c3 : ∀n,n<p->o6 m N K obj bU (t n) (r n) (s n)
 sA : ∀n,n<p->t (n+1)=(t n).ca (r n) (s n)
theorem DU.ok {t:Nat->b7}{r s:Nat->Nat}{p:Nat}(h:DU m N K obj bU t r s p)(h0:gv eo m N A (t 0))(f0:(t 0).lC m N): ∀n,n<=p->gv eo m N A (t n)/\(t n).lC m N:=by
 intro n
 induction n with
 | zero=>intro _;exact⟨h0,f0⟩
 | succ n ih =>
  intro aX;obtain⟨a,b⟩:=ih (by omega);rw[h.sA n (by omega)];exact⟨(h.c3 n (by omega)).ok a,(h.c3 n (by omega)).DT b⟩
theorem DU.short {t:Nat->b7}{r s:Nat->Nat}{p:Nat}(h:DU m N K obj bU t r s p)(h0:gv eo m N A (t 0))(f0:(t 0).lC m N):p+1<=N ^ m:=by
 have ok:=h.ok h0 f0;refine JX (N ^ m) (p+1) (fun n=>code N (t n).B m) (fun n aX=>F1 (ok n (by omega)).1.kb) fun a b bC aL e=> ?_
 have key : ∀a b,a<b->b<=p->code N (t a).B m=code N (t b).B m->False:=fun a b vN aL e=>by
  have gP:=QX (ok a (by omega)).1.kb (ok b aL).1.kb e
  exact abi (t:=fun n=>t (a+n)) (r:=fun n=>r (a+n)) (s:=fun n=>s (a+n)) (p:=b-a) (by omega) (ok a (by omega)).1 (ok a (by omega)).2
   (fun n aX=>h.c3 (a+n) (by omega)) (fun n aX=>h.sA (a+n) (by omega)) (fun i ab=>by show (t (a+(b-a))).B i=(t a).B i;rw[show a+(b-a)=b by omega];exact(gP i ab).symm)
 rcases Nat.lt_trichotomy a b with c|c|c
 ·exact(key a b c (by omega) e).elim
 ·exact c
 exact(key b a c (by omega) e.symm).elim
theorem P3 {iu Uu:Type}{f:iu->Option (iu⊕Uu)}(aM:iu->b7->Prop)(E:iu->Uu->b7->Prop)
 (step : ∀a t,aM a t->gv eo m N A t->t.lC m N->(∃x,f a=some (.inr x)/\E a x t)\/ ∃dU r s,f a=some (.inl dU)/\o6 m N K obj bU t r s/\aM dU (t.ca r s))
 {a:iu} {t:b7} (cH:aM a t) (h0:gv eo m N A t) (f0:t.lC m N) : ∃x dU c2,iter f a=some x/\aM dU c2/\gv eo m N A c2/\c2.lC m N/\E dU x c2:=by
 have key : ∀k p (T:Nat->b7) (r s:Nat->Nat),N ^ m<=p+k->DU m N K obj bU T r s p->gv eo m N A (T 0)->(T 0).lC m N-> ∀a,aM a (T p)-> ∃x dU c2,iter f a=some x/\aM dU c2/\gv eo m N A c2/\c2.lC m N/\E dU x c2:=by
  intro k
  induction k with
  | zero =>
   intro p T r s aZ h h0 f0 a cH;have:=h.short h0 f0;omega
  | succ k ih =>
   intro p T r s aZ h h0 f0 a cH;obtain⟨ok,lh⟩:=h.ok h0 f0 p (dG _);rcases step a (T p) cH ok lh with ⟨x,U,he⟩|⟨dU,eQ,bS,b5,aL,aeE⟩
   ·exact⟨x,a,T p,by rw[iter,U];rfl,cH,ok,lh,he⟩
   obtain⟨x,h7,t2,e1,aD⟩:=ih (p+1) (fun n=>if n<=p then T n else (T p).ca eQ bS) (fun n=>if n<p then r n else eQ) (fun n=>if n<p then s n else bS) (by omega)
    ⟨fun n aX=>by
     by_cases c:n<p
     ·rw[dw (by omega),dw c,dw c];exact h.c3 n c
     ·rw[dw (by omega),dA c,dA c,show n=p by omega];exact aL,
     fun n aX=>by
      by_cases c:n<p
      ·rw[dw (by omega),dw (by omega),dw c,dw c];exact h.sA n c
      rw[dA (by omega),dw (by omega),dA c,dA c,show n=p by omega]⟩ (by simpa using h0) (by simpa using f0) dU (by rw[dA (by omega)];exact aeE)
   exact⟨x,h7,t2,by rw[iter,b5];exact e1,aD⟩
 exact key (N ^ m) 0 (fun _=>t) (fun _=>0) (fun _=>0) (by omega) ⟨fun n aX=>by omega,fun n aX=>by omega⟩ h0 f0 a cH
theorem gv.value {t:b7}(h:gv eo m N A t)(I:Nat->Rat){z:Nat->Rat}(cj:∀c,c<eo->cq N (fun j=>A c j*z j)=A c N):
 cq N (fun j=>I j*z j)=cq m (fun i=>I (t.B i)*t.T i N)+cq N (fun j=>z j*t.cR m I j):=by
 obtain⟨W,hW⟩:=h.row;have ai : ∀i,i<m->cq N (fun j=>t.T i j*z j)=t.T i N:=fun i ab=>by rw[fX (g:=fun j=>cq eo (fun c=>W i c*(A c j*z j))) (fun j au=>by rw[hW i ab j (by omega),<- va];exact fX fun c _=>by grind),p4,hW i ab N (dG _)];exact fX fun c a8=>by rw[jy,cj c a8]
 unfold b7.cR;rw[fX (f:=fun j=>z j*(I j-cq m fun i=>I (t.B i)*t.T i j)) (g:=fun j=>I j*z j-cq m (fun i=>I (t.B i)*(t.T i j*z j))) (fun j _=>by rw[fX (f:=fun i=>I (t.B i)*(t.T i j*z j)) (g:=fun i=>z j*(I (t.B i)*t.T i j)) (fun i _=>by grind),jy];grind),rU,p4];rw[fX (f:=fun i=>cq N fun j=>I (t.B i)*(t.T i j*z j)) (g:=fun i=>I (t.B i)*t.T i N) fun i ab=>by rw[jy,ai i ab]];grind
def b7.jm (m N:Nat)(t:b7)(j:Nat):Rat:=cq m (fun i=>if t.B i=j then t.T i N else 0)
theorem gv.F2 {t:b7}(h:gv eo m N A t)(f:Nat->Rat):cq N (fun j=>f j*t.jm m N j)=cq m (fun i=>f (t.B i)*t.T i N):=by unfold b7.jm;rw[fX (g:=fun j=>cq m (fun i=>if t.B i=j then f (t.B i)*t.T i N else 0)) (fun j _=>by rw[<- jy];exact fX fun i _=>by split<;>grind),p4];exact fX fun i ab=>by rw[k4 (h.kb i ab) (f:=fun j=>if t.B i=j then f (t.B i)*t.T i N else 0) (fun j _ cU=>dA fun x=>cU x.symm),dw rfl]
theorem gv.acE {t:b7}(h:gv eo m N A t): ∀c,c<eo->cq N (fun j=>A c j*t.jm m N j)=A c N:=fun c a8=>by rw[h.F2,<- h.st c a8 N (dG _)]
theorem b7.lC.jm {t:b7}(h:t.lC m N)(j:Nat):0<=t.jm m N j:=tJ fun i ab=>by split;exact h i ab;exact Rat.le_refl
theorem gv.aga {t:b7}(h:gv eo m N A t){i:Nat}(ab:i<m):t.jm m N (t.B i)=t.T i N:=by unfold b7.jm;rw[k4 ab (fun k aZ cU=>dA fun e=>cU (h.inj aZ ab e)),dw rfl]
theorem b7.YD {t:b7}{j:Nat}(h:∀i,i<m->t.B i≠j):t.jm m N j=0:=o1 fun i ab=>dA (h i ab)
end
def skip {α:Type}(i:Nat)(f:Nat->α)(k:Nat):α:=f (if k<i then k else k+1)
def gD {α:Type}(M:Nat->α)(k:Nat)(v:α)(i:Nat):α:=if i=k then v else M i
def su (n:Nat):Rat:=if n % 2=0 then 1 else -1
theorem abj (n:Nat):su (n+1) = - su n:=by
 unfold su;by_cases h:n % 2=0
 ·rw[dw h,dA (by omega)]
 rw[dA h,dw (by omega)];grind
def iL:Nat->(Nat->Nat->Rat)->Rat
 | 0,_=>1
 | n+1,M=>cq (n+1) (fun i=>su (i+n)*M i n*iL n (skip i M))
theorem FJ : ∀ {n:Nat} {M Bx:Nat->Nat->Rat},(∀i,i<n-> ∀c,c<n->M i c=Bx i c)->iL n M=iL n Bx
 | 0,_,_,_=>rfl
 | n+1,M,Bx,h=>by rw[iL,iL];exact fX fun i ab=>by rw[h i ab n (by omega),FJ (M:=skip i M) (Bx:=skip i Bx) fun k aZ c a8=> ?_];simp only[skip];exact h _ (by split<;>omega) c (by omega)
theorem IE {α:Type}(M:Nat->α)(k:Nat)(v:α):skip k (gD M k v)=skip k M:=by funext i;simp only[skip,gD];rw[dA];split<;>omega
theorem IX {α:Type}(M:Nat->α){i k:Nat}(v:α)(h:k<i):skip i (gD M k v)=gD (skip i M) k v:=by
 funext j;simp only[skip,gD];by_cases c:j=k
 ·subst c;rw[dw h,dw rfl]
 rw[dA c,dA];split<;>omega
theorem IY {α:Type}(M:Nat->α){i k:Nat}(v:α)(h:i<k):skip i (gD M k v)=gD (skip i M) (k-1) v:=by
 funext j;simp only[skip,gD];by_cases c:j=k-1
 ·rw[dw c,dw (by split<;>omega)]
 rw[dA c,dA];split<;>omega
theorem Az : ∀ {n k:Nat} (M:Nat->Nat->Rat) (a b:Rat) (u v:Nat->Rat),k<n ->
 iL n (gD M k (fun c=>a*u c+b*v c))=a*iL n (gD M k u)+b*iL n (gD M k v)
 | 0,k,_,_,_,_,_,h=>by omega
 | n+1,k,M,a,b,u,v,aZ=>by
  rw[iL,iL,iL,<- jy,<- jy,<- w3];refine fX fun i ab=> ?_;rcases Nat.lt_trichotomy i k with c|c|c
  ·rw[IY _ _ c,IY _ _ c,IY _ _ c,Az (skip i M) a b u v (by omega)];simp only[gD,dA (Nat.ne_of_lt c)];grind
  ·subst c;rw[IE,IE,IE];simp only[gD,if_true];grind
  rw[IX _ _ c,IX _ _ c,IX _ _ c,Az (skip i M) a b u v (by omega)];simp only[gD,dA (Nat.ne_of_gt c)];grind
theorem Je {α:Type}(M:Nat->α)(k:Nat):gD M k (M k)=M:=by
 funext i;simp only[gD];split
 ·rename_i e;rw[e]
 rfl
theorem Rw {n k:Nat}(aZ:k<n)(M:Nat->Nat->Rat)(x:Nat->Rat)(V:Nat->Nat->Rat): ∀m,iL n (gD M k (fun c=>cq m (fun i=>x i*V i c)))=cq m (fun i=>x i*iL n (gD M k (V i)))
 | 0=>by have:=Az M 0 0 (fun _=>0) (fun _=>0) aZ;simp only[cq];rw[show (fun c=>(0:Rat))=(fun c:Nat=>0*(0:Rat)+0*0) from by funext c;grind,this];grind
 | m+1=>by have h1:=Az M 1 (x m) (fun c=>cq m (fun i=>x i*V i c)) (V m) aZ;simp only[cq];rw[show (fun c=>(cq m fun i=>x i*V i c)+x m*V m c)=(fun c=>1*(cq m fun i=>x i*V i c)+x m*V m c) from by funext c;grind,h1,Rw aZ M x V m];grind
theorem F3 : ∀ {n k:Nat} (M:Nat->Nat->Rat),k+1<n->M k=M (k+1)->iL n M=0
 | 0,k,_,h,_=>by omega
 | n+1,k,M,h,e=>by
  rw[iL]
  have bX:skip k M=skip (k+1) M:=by
   funext i;simp only[skip];by_cases c:i=k
   ·subst c;rw[dA (by omega),dw (by omega)];exact e.symm
   congr 1;split<;>split<;>omega
  have h0 : ∀i,i<n+1->i≠k->i≠k+1->su (i+n)*M i n*iL n (skip i M)=0:=by
   intro i ab h1 o
   have:iL n (skip i M)=0:=by
    by_cases c:i<k
    ·exact F3 (k:=k-1) _ (by omega) (by simp only[skip];rw[dA (by omega),dA (by omega),show k-1+1=k by omega];exact e)
    exact F3 (k:=k) _ (by omega) (by simp only[skip];rw[dw (by omega),dw (by omega)];exact e)
   rw[this];grind
  have aD : ∀i,i<n+1->su (i+n)*M i n*iL n (skip i M)=(if i=k then su (k+n)*M k n*iL n (skip k M) else 0)+(if i=k+1 then su (k+1+n)*M (k+1) n*iL n (skip (k+1) M) else 0):=by
   intro i ab;by_cases bl:i=k
   ·rw[dw bl,dA (by omega),bl];grind
   by_cases b8:i=k+1
   ·rw[dA bl,dw b8,b8];grind
   rw[dA bl,dA b8,h0 i ab bl b8];grind
  rw[fX aD,w3,k4 (k:=k) (by omega) (fun i _ cU=>dA cU),k4 (k:=k+1) (by omega) (fun i _ cU=>dA cU),dw rfl,dw rfl,<- bX,<- e,show k+1+n=k+n+1 by omega,abj];grind
def Dt {α:Type}(M:Nat->α)(k i:Nat):α:=if i=k then M (k+1) else if i=k+1 then M k else M i
theorem abk {n k:Nat}(M:Nat->Nat->Rat)(h:k+1<n):iL n (Dt M k) = - iL n M:=by
 have two : ∀u v:Nat->Rat,iL n (gD (gD M k u) (k+1) v) = - iL n (gD (gD M k v) (k+1) u):=by
  intro u v;have h0 : ∀w:Nat->Rat,iL n (gD (gD M k w) (k+1) w)=0:=fun w=>F3 (k:=k) _ h (by funext c;simp[gD])
  have comm : ∀u v:Nat->Rat,gD (gD M k u) (k+1) v=gD (gD M (k+1) v) k u:=by
   intro u v;funext i;simp only[gD];by_cases bl:i=k
   ·subst bl;simp
   simp[bl]
  have oq : ∀w u v:Nat->Rat,iL n (gD (gD M k w) (k+1) (fun c=>1*u c+1*v c))=1*iL n (gD (gD M k w) (k+1) u)+1*iL n (gD (gD M k w) (k+1) v):=fun w u v=>Az (gD M k w) 1 1 u v h;have rP : ∀w u v:Nat->Rat,iL n (gD (gD M k (fun c=>1*u c+1*v c)) (k+1) w)=1*iL n (gD (gD M k u) (k+1) w)+1*iL n (gD (gD M k v) (k+1) w):=fun w u v=>(by rw[comm,comm,comm];exact Az (gD M (k+1) w) 1 1 u v (by omega));have:=h0 (fun c=>1*u c+1*v c);rw[oq,rP,rP,h0,h0] at this;grind
 have e1:Dt M k=gD (gD M k (M (k+1))) (k+1) (M k):=by
  funext i;simp only[Dt,gD];by_cases bl:i=k
  ·subst bl;simp
  simp[bl]
 have aD:gD (gD M k (M k)) (k+1) (M (k+1))=M:=by rw[Je,Je]
 rw[e1,two,aD]
theorem JY : ∀(d:Nat) {n a:Nat} (M:Nat->Nat->Rat),a+d+1<n->M a=M (a+d+1)->iL n M=0
 | 0,n,a,M,h,e=>F3 M h e
 | d+1,n,a,M,h,e=>by have h1:=JY d (n:=n) (a:=a) (Dt M (a+d+1)) (by omega) (by simp only[Dt];rw[dA (by omega),dA (by omega)];rw[dw trivial];exact e);rw[abk M (by omega)] at h1;grind
theorem ab2 {n a b:Nat}(M:Nat->Nat->Rat)(bC:a<n)(aL:b<n)(vN:a≠b)(e:M a=M b):iL n M=0:=by
 rcases Nat.lt_or_gt_of_ne vN with c|c
 ·exact JY (b-a-1) M (a:=a) (by omega) (by rw[show a+(b-a-1)+1=b by omega];exact e)
 exact JY (a-b-1) M (a:=b) (by omega) (by rw[show b+(a-b-1)+1=a by omega];exact e.symm)
def eg (K:Nat)(x:Rat):Prop:= ∃z:Int,x=z/\z.natAbs<=K
theorem eg.mono {K sB:Nat}{x:Rat}(h:eg K x)(aZ:K<=sB):eg sB x:=by obtain⟨z,e,h⟩:=h;exact⟨z,e,Nat.le_trans h aZ⟩
theorem eg.add {K sB:Nat}{x y:Rat}(h:eg K x)(cF:eg sB y):eg (K+sB) (x+y):=by obtain⟨a,rfl,bC⟩:=h;obtain⟨b,rfl,aL⟩:=cF;exact⟨a+b,by rw[Rat.intCast_add],by omega⟩
theorem eg.neg {K:Nat}{x:Rat}(h:eg K x):eg K (-x):=by obtain⟨a,rfl,bC⟩:=h;exact⟨-a,by rw[Rat.intCast_neg],by omega⟩
theorem eg.sub {K sB:Nat}{x y:Rat}(h:eg K x)(cF:eg sB y):eg (K+sB) (x-y):=by have:=h.add cF.neg;rw[show x + -y=x-y by grind] at this;exact this
theorem eg.mul {K sB:Nat}{x y:Rat}(h:eg K x)(cF:eg sB y):eg (K*sB) (x*y):=by obtain⟨a,rfl,bC⟩:=h;obtain⟨b,rfl,aL⟩:=cF;exact⟨a*b,by rw[aid],by rw[Int.natAbs_mul];exact Nat.mul_le_mul bC aL⟩
theorem eg.sum {K:Nat}{f:Nat->Rat}: ∀ {n:Nat},(∀i,i<n->eg K (f i))->eg (n*K) (cq n f)
 | 0,_=>⟨0,rfl,by simp⟩
 | n+1,h=>by have:=(eg.sum (n:=n) fun i ab=>h i (by omega)).add (h n (by omega));rw[<- Nat.succ_mul] at this;exact this
theorem acF (n:Nat):eg 1 (su n):=by
 unfold su;split
 ·exact⟨1,rfl,by omega⟩
 exact⟨-1,rfl,by omega⟩
def rJ (K:Nat):Nat->Nat
 | 0=>1
 | n+1=>(n+1)*(K*rJ K n)
theorem AK {K:Nat}: ∀ {n:Nat} {M:Nat->Nat->Rat},(∀i,i<n-> ∀c,c<n->eg K (M i c))->eg (rJ K n) (iL n M)
 | 0,_,_=>⟨1,rfl,by simp[rJ]⟩
 | n+1,M,h=>eg.sum fun i ab=>by have:=((acF (i+n)).mul (h i ab n (by omega))).mul (AK (n:=n) (M:=skip i M) fun k aZ c a8=>h _ (by split<;>omega) c (by omega));rw[Nat.one_mul] at this;exact this
theorem Ar {K:Nat}(h8:0<K): ∀ {n k:Nat},n<=k->rJ K n<=rJ K k
 | n,0,h=>by rw[show n=0 by omega];exact dG _
 | n,k+1,h=>by
  by_cases c:n=k+1
  ·rw[c];exact dG _
  refine Nat.le_trans (Ar h8 (k:=k) (by omega)) ?_;rw[rJ];have:1*rJ K k<=K*rJ K k:=ahY _ h8;have o:1*(K*rJ K k)<=(k+1)*(K*rJ K k):=ahY _ (by omega);omega
section
variable {m N:Nat} {A:Nat->Nat->Rat} {t:b7}
def b7.D (m:Nat)(A:Nat->Nat->Rat)(t:b7):Rat:=iL m (fun i c=>A c (t.B i))
def b7.yn (m:Nat)(A:Nat->Nat->Rat)(t:b7)(i j:Nat):Rat:=iL m (gD (fun i c=>A c (t.B i)) i (fun c=>A c j))
theorem gv.yn (h:gv m m N A t){i j:Nat}(ab:i<m)(au:j<=N):t.yn m A i j=t.T i j*t.D m A:=by
 have e:t.yn m A i j=iL m (gD (fun i c=>A c (t.B i)) i (fun c=>cq m (fun k=>t.T k j*(fun i c=>A c (t.B i)) k c))):=by
  refine FJ fun k aZ c a8=> ?_;simp only[gD];split
  ·show A c j=_;rw[h.st c a8 j au];exact fX fun k _=>Rat.mul_comm _ _
  rfl
 rw[e,Rw ab,k4 ab fun k aZ cU=>by rw[ab2 _ ab aZ (fun x=>cU x.symm) (by simp only[gD,if_true];rw[dA cU])];grind];rw[Je (fun i c=>A c (t.B i)) i];rfl
theorem gv.xv (h:gv m m N A t){r k:Nat}(ai:r<m)(aZ:k<N):(t.ca r k).D m A=t.T r k*t.D m A:=by rw[<- h.yn ai (by omega:k<=N)];refine FJ fun i ab c a8=> ?_;simp only[b7.ca,gD];split<;>rfl
end
def a2 {α:Type}(n:Nat)(f:Nat->α):List α:=(List.range n).map f
theorem dX {α:Type}(n:Nat)(f:Nat->α):(a2 n f).length=n:=by simp[a2]
theorem gN {α:Type}{n:Nat}{f:Nat->α}{i:Nat}(h:i<n):(a2 n f)[i]? = some (f i):=by simp[a2,h]
theorem iQ {α:Type}{n:Nat}{f:Nat->α}{i:Nat}(h:i<n):(a2 n f)[0+i]? = some (f i):=by rw[dF];exact gN h
theorem eY {α:Type}{n:Nat}{f g:Nat->α}(h:∀i,i<n->f i=g i):a2 n f=a2 n g :=
 ah9 fun i ab=>h i (List.mem_range.1 ab)
theorem ly {α:Type}(n:Nat)(f:Nat->α)(i:Nat)(v:α):(a2 n f).set i v=a2 n (fun k=>if k=i then v else f k):=by
 apply ah7;intro k;rw[ah1];simp only[a2,ah8,List.length_range,dK];by_cases h:i=k
 ·subst h
  by_cases c:i<n
  ·simp[c]
  simp[c]
 rw[dA h];by_cases c:k<n
 ·simp[c,Ne.symm h]
 simp[c]
theorem JJ {α:Type}{n:Nat}{f:Nat->α}{x:α}:x∈a2 n f↔ ∃i,i<n/\f i=x:=by simp[a2]
theorem Rx {α β:Type}(n:Nat)(f:Nat->α)(g:α->β):(a2 n f).map g=a2 n (fun i=>g (f i)):=by simp[a2]
theorem lN {α:Type}(n:Nat)(f:Nat->α):a2 (n+1) f=a2 n f++[f n]:=by simp[a2,List.range_succ]
theorem fy {n:Nat}(h:n<1000000):R ((n:Int)+1)=((n+1:Nat):Int):=by rw[ch (by omega) (by omega)];omega
theorem dn {α:Type}{p:Prop}[Decidable p] {x r:Option α} (k:x=r) (h:p:=by first|omega|(simp only;omega)|(rw[dX];omega)|(rw[dX,dy];omega)|(rw[dX];simp only;omega)|(simp only;rw[dX];omega)):(if p then x else none)=r:=cy h k
theorem eF {α:Type}{p:Prop}[Decidable p] {x y r:α} (k:x=r) (h:p:=by first|omega|(simp only;omega)):(if decide p=true then x else y)=r:=k0 h k
theorem fl {α:Type}{p:Prop}[Decidable p] {x y r:α} (k:y=r) (h : ¬p:=by first|omega|(simp only;omega)|(simp;done)):(if decide p=true then x else y)=r:=k1 h k
def kj (x:Int):Int:=if x<0 then -1 else 1
def kM (m n:Nat)(a:Nat->Nat->Int)(b:Nat->Int)(i j:Nat):Int :=
 if j<n then kj (b i)*a i j else if j=n+m then kj (b i)*b i else if j=n+i then 1 else 0
def c8 (m n:Nat)(a:Nat->Nat->Int)(b:Nat->Int)(i j:Nat):Rat:=(kM m n a b i j:Rat)
def iT (m n:Nat)(a:Nat->Nat->Int)(b:Nat->Int):b7:=⟨c8 m n a b,fun i=>n+i⟩
def hh (m n j:Nat):Rat:=if n<=j/\j<n+m then -1 else 0
def vA (m n:Nat)(a:Nat->Nat->Int)(b:Nat->Int):Prop:= ∃x:Nat->Rat,(∀j,j<n->0<=x j)/\ ∀i,i<m->cq n (fun j=>(a i j:Rat)*x j)=(b i:Rat)
section
variable {m n:Nat} {a:Nat->Nat->Int} {b:Nat->Int}
theorem R3 (x:Int):((kj x:Int):Rat)≠0:=by unfold kj;split<;>simp<;>decide
theorem ab3 (x:Int):0<=kj x*x:=by unfold kj;split<;>omega
theorem tW {i k:Nat}(aZ:k<m):c8 m n a b i (n+k)=if k=i then 1 else 0:=by
 unfold c8 kM;rw[dA (by omega),dA (by omega)];by_cases c:k=i
 ·rw[dw c,dw (by omega)];rfl
 rw[dA c,dA (by omega)];rfl
theorem JZ {i j:Nat}(au:j<n):c8 m n a b i j=((kj (b i):Int):Rat)*(a i j:Rat):=by unfold c8 kM;rw[dw au,aid]
theorem Ge {i:Nat}:c8 m n a b i (n+m)=((kj (b i):Int):Rat)*(b i:Rat):=by unfold c8 kM;rw[dA (by omega),dw rfl,aid]
theorem acG {i:Nat}:0<=c8 m n a b i (n+m):=by unfold c8 kM;rw[dA (by omega),dw rfl];have:=ab3 (b i);exact Rat.intCast_nonneg.2 this
theorem Ry:gv m m (n+m) (c8 m n a b) (iT m n a b) where
 st:=fun c a8 j _=>by rw[k4 a8 (f:=fun i=>c8 m n a b c ((iT m n a b).B i)*(iT m n a b).T i j) (fun i ab cU=>by show c8 m n a b c (n+i)*_=0;rw[tW ab,dA cU];grind)];show _=c8 m n a b c (n+c)*c8 m n a b c j;rw[tW a8,dw rfl];grind
 row:=⟨fun i c=>if i=c then 1 else 0,fun i ab j _=>by rw[k4 ab (f:=fun c=>(if i=c then (1:Rat) else 0)*c8 m n a b c j) (fun c _ cU=>by rw[dA (Ne.symm cU)];grind),dw rfl];show c8 m n a b i j=_;grind⟩
 unit:=fun i _ k aZ=>by
  show c8 m n a b i (n+k)=_;rw[tW aZ];by_cases c:k=i
  ·rw[dw c,dw c.symm]
  rw[dA c,dA (Ne.symm c)]
 kb:=fun i ab=>by show n+i<n+m;omega
theorem Qv:(iT m n a b).lC m (n+m):=fun i ab=>acG
theorem aaf (j:Nat):(iT m n a b).cR m (hh m n) j=hh m n j+cq m (fun i=>c8 m n a b i j):=by unfold b7.cR;rw[fX (g:=fun i=>(-1)*c8 m n a b i j) (fun i ab=>by show hh m n (n+i)*c8 m n a b i j=_;unfold hh;rw[dw (by omega)]),jy];grind
theorem R4:(iT m n a b).D m (c8 m n a b)=1:=by
 have key : ∀k,k<=m->iL k (fun i c=>c8 m n a b c (n+i))=1:=by
  intro k
  induction k with
  | zero=>intro _;rfl
  | succ k ih =>
   intro aZ;rw[iL,k4 (k:=k) (by omega) (fun i ab cU=>by rw[tW (by omega),dA cU];grind)];rw[tW (by omega),dw rfl,FJ (Bx:=fun i c=>c8 m n a b c (n+i)) (fun i ab c a8=>by simp only[skip];rw[dw ab]),ih (by omega)];unfold su;rw[dw (by omega)];grind
 show iL m _=1;rw[show (fun i c=>c8 m n a b c ((iT m n a b).B i))=fun i c=>c8 m n a b c (n+i) from rfl,key m (dG _)]
theorem QY:(iT m n a b).D m (c8 m n a b)≠0:=by rw[R4];grind
variable {t:b7}
theorem Fy (j:Nat):hh m n j<=0:=by unfold hh;split<;>grind
theorem Yg (f:t.lC m (n+m)):0<=t.cR m (hh m n) (n+m):=by
 unfold b7.cR;have h1:hh m n (n+m)=0:=by unfold hh;rw[dA (by omega)]
 have o:0<=cq m (fun i=> -(hh m n (t.B i))*t.T i (n+m)):=tJ fun i ab=>aie (by have:= @Fy m n (t.B i);grind) (f i ab);rw[fX (g:=fun i=>(-1)*(hh m n (t.B i)*t.T i (n+m))) (fun i _=>by grind),jy] at o;grind
theorem PF (ok:gv m m (n+m) (c8 m n a b) t)(f:t.lC m (n+m))(h:∀i,i<m->n<=t.B i->t.T i (n+m)=0):vA m n a b:=by
 refine⟨t.jm m (n+m),fun j _=>f.jm j,fun i ab=> ?_⟩;have bX:=ok.acE i ab;rw[IW,Ge] at bX
 have cj:cq m (fun k=>c8 m n a b i (n+k)*t.jm m (n+m) (n+k))=0:=o1 fun k aZ=>by
  have:t.jm m (n+m) (n+k)=0:=o1 fun eG jk=>by
   split
   ·rename_i e;exact h eG jk (by omega)
   rfl
  rw[this];grind
 rw[cj,fX (g:=fun j=>((kj (b i):Int):Rat)*((a i j:Rat)*t.jm m (n+m) j)) (fun j au=>by rw[JZ au];grind),jy] at bX;have:=R3 (b i);grind
theorem PG (f:t.lC m (n+m))(h:t.cR m (hh m n) (n+m)=0)(aL:∀i,i<m->t.B i<n+m): ∀i,i<m->n<=t.B i->t.T i (n+m)=0:=by
 unfold b7.cR at h;have h1:hh m n (n+m)=0:=by unfold hh;rw[dA (by omega)]
 have o:cq m (fun i=> -(hh m n (t.B i))*t.T i (n+m))=0:=by rw[fX (g:=fun i=>(-1)*(hh m n (t.B i)*t.T i (n+m))) (fun i _=>by grind),jy];grind
 intro i ab aX;have aa:=ID (n:=m) (fun i ab=>aie (by have:= @Fy m n (t.B i);grind) (f i ab)) o i ab;have ao:hh m n (t.B i) = -1:=by unfold hh;rw[dw ⟨aX,aL i ab⟩]
 rw[ao] at aa;grind
theorem P4 (ok:gv m m (n+m) (c8 m n a b) t)(f:t.lC m (n+m))(h:∀j,j<n->t.cR m (hh m n) j<=0)(bX:vA m n a b):t.cR m (hh m n) (n+m)=0:=by
 obtain⟨x,U,hA⟩:=bX;have cj : ∀c,c<m->cq (n+m) (fun j=>c8 m n a b c j*(if j<n then x j else 0))=c8 m n a b c (n+m):=fun c a8=>by rw[IW,o1 (n:=m) (fun k aZ=>by rw[dA (by omega)];grind),Ge,<- hA c a8,<- jy];rw[fX (g:=fun j=>((kj (b c):Int):Rat)*((a c j:Rat)*x j)) (fun j au=>by rw[JZ au,dw au];grind)];grind
 have bb:=ok.value (hh m n) cj
 rw[o1 (n:=n+m) (f:=fun j=>hh m n j*(if j<n then x j else 0)) (fun j au=>by
  by_cases c:j<n
  ·unfold hh;rw[dA (by omega)];grind
  rw[dA c];grind)] at bb
 have h1:cq (n+m) (fun j=>(if j<n then x j else 0)*t.cR m (hh m n) j)<=cq (n+m) (fun _=>(0:Rat)):=abd fun j au=>by
  by_cases c:j<n
  ·rw[dw c];have:=aie (U j c) (show 0<= -(t.cR m (hh m n) j) by have:=h j c;grind);grind
  rw[dA c];grind
 rw[o1 (n:=n+m) (f:=fun _=>(0:Rat)) fun _ _=>rfl] at h1;have o:=Yg (m:=m) (n:=n) f;have aa:t.cR m (hh m n) (n+m) = - cq m (fun i=>hh m n (t.B i)*t.T i (n+m)):=by unfold b7.cR;have:hh m n (n+m)=0:=(by unfold hh;rw[dA (by omega)]);rw[this];grind
 grind
theorem Pm (ok:gv m m (n+m) (c8 m n a b) t){s:Nat}(bX:s<n+m)(dj:0<t.cR m (hh m n) s): ∃i,i<m/\0<t.T i s:=by
 apply Classical.byContradiction;intro cU;have h1:cq m (fun i=>hh m n (t.B i)*t.T i s)>=0:=tJ fun i ab=>by have o : ¬0<t.T i s:=fun c=>cU ⟨i,ab,c⟩;have:=aie (show 0<= -(hh m n (t.B i)) by have:= @Fy m n (t.B i);grind) (show 0<= -(t.T i s) by grind);grind
 unfold b7.cR at dj;have:= @Fy m n s;grind
end
def th (m n:Nat)(a:Nat->Nat->Int)(b:Nat->Int)(x:Nat->Rat):Prop:=(∀j,j<n->0<=x j)/\ ∀i,i<m->cq n (fun j=>(a i j:Rat)*x j)=(b i:Rat)
def val (n:Nat)(I x:Nat->Rat):Rat:=cq n (fun j=>I j*x j)
def jG (c:Nat->Rat)(l j:Nat):Rat:=match l with
 | 0=>c j
 | l+1=>if j=l then -1 else 0
def xk (m n:Nat)(a:Nat->Nat->Int)(b:Nat->Int)(c x:Nat->Rat):Prop :=
 th m n a b x/\ ∀y,th m n a b y-> ¬ib (n+1) (fun l=>val n (jG c l) y-val n (jG c l) x)
def Bounded (m n:Nat)(a:Nat->Nat->Int)(b:Nat->Int)(c:Nat->Rat):Prop:= ∃V,∀y,th m n a b y->val n c y<=V
section
variable {m n:Nat} {a:Nat->Nat->Int} {b:Nat->Int} {c:Nat->Rat}
theorem abl {x:Nat->Rat}{j:Nat}(au:j<n):val n (jG c (j+1)) x = - x j:=by unfold val;rw[k4 au (f:=fun i=>jG c (j+1) i*x i) (fun i ab cU=>by simp only[jG];rw[dA cU];grind)];simp only[jG,if_true];grind
theorem xk.unique {x y:Nat->Rat}(U:xk m n a b c x)(aR:xk m n a b c y):(∀j,j<n->x j=y j)/\val n c x=val n c y:=by
 rcases FI (n+1) (fun l=>val n (jG c l) y-val n (jG c l) x) with h|h|h
 ·exact(U.2 y aR.1 h).elim
 ·refine⟨fun j au=> ?_,?_⟩
  ·have:=h (j+1) (by omega);simp only[abl au] at this;grind
  have:=h 0 (by omega);simp only at this;have e:jG c 0=c:=rfl;rw[e] at this;grind
 exact(aR.2 x U.1 (h.congr fun l _=>by grind)).elim
theorem xk.agR {x y:Nat->Rat}(U:xk m n a b c x)(aR:th m n a b y):val n c y<=val n c x:=by apply Classical.byContradiction;intro h;refine U.2 y aR ⟨0,by omega,?_,fun l aO=>by omega⟩;have e:jG c 0=c:=rfl;simp only[e];grind
structure LT (m n:Nat) (a:Nat->Nat->Int) (b:Nat->Int) (bi N:Nat) (u:b7):Prop where
 eqv : ∀x:Nat->Rat,(∀i,i<m->cq n (fun j=>(a i j:Rat)*x j)=(b i:Rat))↔ ∀i,i<bi->cq n (fun j=>u.T i j*x j)=u.T i N
 unit : ∀i,i<bi-> ∀k,k<bi->u.T i (u.B k)=if i=k then 1 else 0
 kb : ∀i,i<bi->u.B i<n
 lh:u.lC bi N
 LR:n<=N
variable {bi N:Nat} {u:b7}
theorem LT.F2 (h:LT m n a b bi N u)(f:Nat->Rat):cq n (fun j=>f j*u.jm bi N j)=cq bi (fun i=>f (u.B i)*u.T i N):=by unfold b7.jm;rw[fX (g:=fun j=>cq bi (fun i=>if u.B i=j then f (u.B i)*u.T i N else 0)) (fun j _=>by rw[<- jy];exact fX fun i _=>by split<;>grind),p4];exact fX fun i ab=>by rw[k4 (h.kb i ab) (f:=fun j=>if u.B i=j then f (u.B i)*u.T i N else 0) (fun j _ cU=>dA fun x=>cU x.symm),dw rfl]
theorem LT.jm (h:LT m n a b bi N u):th m n a b (u.jm bi N):=by refine⟨fun j _=>h.lh.jm j,(h.eqv _).2 fun i ab=> ?_⟩;rw[h.F2,k4 ab (f:=fun k=>u.T i (u.B k)*u.T k N) (fun k aZ cU=>by rw[h.unit i ab k aZ,dA (fun e=>cU e.symm)];grind),h.unit i ab i ab,dw rfl];grind
theorem LT.Jy (h:LT m n a b bi N u)(I:Nat->Rat){x:Nat->Rat}(U:th m n a b x):cq n (fun j=>u.cR bi I j*x j)=val n I x-val n I (u.jm bi N):=by have ai:=(h.eqv x).1 U.2;unfold val b7.cR;rw[h.F2 I,fX (g:=fun j=>I j*x j-cq bi (fun i=>I (u.B i)*(u.T i j*x j))) (fun j _=>by rw[fX (f:=fun i=>I (u.B i)*(u.T i j*x j)) (g:=fun i=>x j*(I (u.B i)*u.T i j)) (fun i _=>by grind),jy];grind),rU,p4];congr 1;exact fX fun i ab=>by rw[jy,ai i ab]
theorem LT.Ad (h:LT m n a b bi N u)(I:Nat->Rat){i:Nat}(ab:i<bi):u.cR bi I (u.B i)=0:=by unfold b7.cR;rw[k4 ab (f:=fun k=>I (u.B k)*u.T k (u.B i)) (fun k aZ cU=>by rw[h.unit k aZ i ab,dA cU];grind),h.unit i ab i ab,dw rfl];grind
theorem LT.Tm (h:LT m n a b bi N u)(dj:∀j,j<n-> ¬u.sy bi (n+1) (jG c) j):xk m n a b c (u.jm bi N):=by
 refine⟨h.jm,fun y aR aO=> ?_⟩;have En:ib (n+1) (fun l=>cq n (fun j=>u.cR bi (jG c l) j*y j)):=aO.congr fun l _=>(h.Jy (jG c l) aR).symm;obtain⟨j,au,ae⟩:=ib.JW (v:=fun j l=>u.cR bi (jG c l) j*y j) En;rcases(ae.congr (gq:=fun l=>y j*u.cR bi (jG c l) j) fun l _=>Rat.mul_comm _ _).R2 with ⟨-,o⟩|⟨o,-⟩
 ·exact dj j au o
 have:=aR.1 j au;grind
theorem LT.Tu (h:LT m n a b bi N u)(I:Nat->Rat){s:Nat}(bX:s<n)(dj:0<u.cR bi I s)(hN:∀i,i<bi-> ¬0<u.T i s): ¬Bounded m n a b I:=by
 rintro⟨V,hV⟩;have bF : ∀f:Nat->Rat,cq n (fun j=>f j*u.dir bi s j)=f s-cq bi (fun i=>f (u.B i)*u.T i s):=fun f=>by unfold b7.dir;rw[fX (g:=fun j=>(if j=s then f s else 0)-cq bi (fun i=>if u.B i=j then f (u.B i)*u.T i s else 0)) (fun j _=>by have e:cq bi (fun i=>if u.B i=j then f (u.B i)*u.T i s else 0)=f j*cq bi (fun i=>if u.B i=j then u.T i s else 0):=(by rw[<- jy];exact fX fun i _=>by split<;>grind);rw[e];split<;>grind),rU,k4 bX (f:=fun j=>if j=s then f s else 0) (fun i _ cU=>dA cU),dw rfl,p4];congr 1;exact fX fun i ab=>by rw[k4 (h.kb i ab) (f:=fun j=>if u.B i=j then f (u.B i)*u.T i s else 0) (fun j _ cU=>dA fun x=>cU x.symm),dw rfl]
 have pos : ∀j,0<=u.dir bi s j:=fun j=>by unfold b7.dir;have h1:0<=cq bi (fun i=> -(if u.B i=j then u.T i s else 0)):=tJ fun i ab=>(by have:=hN i ab;split<;>grind);rw[fX (g:=fun i=>(-1)*(if u.B i=j then u.T i s else 0)) (fun i _=>by grind),jy] at h1;split<;>grind
 have Tu : ∀yx:Rat,0<=yx->th m n a b (fun j=>u.jm bi N j+yx*u.dir bi s j)/\val n I (fun j=>u.jm bi N j+yx*u.dir bi s j)=val n I (u.jm bi N)+yx*u.cR bi I s:=fun yx LQ=>by
  have Tv : ∀f:Nat->Rat,cq n (fun j=>f j*(u.jm bi N j+yx*u.dir bi s j))=cq n (fun j=>f j*u.jm bi N j)+yx*(f s-cq bi (fun i=>f (u.B i)*u.T i s)):=fun f=>(by rw[<- bF f,<- jy,<- w3];exact fX fun j _=>by grind);refine⟨⟨fun j _=> ?_,(h.eqv _).2 fun i ab=> ?_⟩,Tv I⟩
  ·have h1:=h.lh.jm (m:=bi) (N:=N) j;have o:=aie LQ (pos j);grind
  rw[Tv (u.T i),(h.eqv _).1 h.jm.2 i ab,k4 ab (f:=fun k=>u.T i (u.B k)*u.T k s) (fun k aZ cU=>by rw[h.unit i ab k aZ,dA (fun e=>cU e.symm)];grind),h.unit i ab i ab,dw rfl];grind
 have Tw:=hV _ h.jm;have cU:u.cR bi I s≠0:=by grind
 obtain⟨r1,bM⟩:=Tu ((V-val n I (u.jm bi N)+1) / u.cR bi I s) (by rw[Rat.div_def];exact aie (by grind) (Rat.le_of_lt (Rat.inv_pos.2 dj)));have aa:=hV _ r1;rw[bM] at aa;have:(V-val n I (u.jm bi N)+1) / u.cR bi I s*u.cR bi I s=V-val n I (u.jm bi N)+1:=by grind
 grind
theorem LT.ca (h:LT m n a b bi N u){r k:Nat}(ai:r<bi)(aZ:k<n)(ae:u.T r k≠0)(b5:(u.ca r k).lC bi N):LT m n a b bi N (u.ca r k) where
 eqv:=fun x=>by
  rw[h.eqv x];have e1:cq n (fun j=>(u.ca r k).T r j*x j)=(1 / u.T r k)*cq n (fun j=>u.T r j*x j):=(by rw[<- jy];exact fX fun j _=>by simp only[b7.ca,if_true];grind);have aD : ∀i,i≠r->cq n (fun j=>(u.ca r k).T i j*x j)=cq n (fun j=>u.T i j*x j)-(u.T i k / u.T r k)*cq n (fun j=>u.T r j*x j):=fun i ab=>(by rw[<- jy,<- rU];exact fX fun j _=>by simp only[b7.ca,dA ab];grind);have n1:(u.ca r k).T r N=(1 / u.T r k)*u.T r N:=(by simp only[b7.ca,if_true];grind);have kL : ∀i,i≠r->(u.ca r k).T i N=u.T i N-(u.T i k / u.T r k)*u.T r N:=fun i ab=>(by simp only[b7.ca,dA ab];grind);constructor
  ·intro U i ab
   by_cases c:i=r
   ·rw[c,e1,n1,U r ai]
   rw[aD i c,kL i c,U i ab,U r ai]
  intro U;have Tx:cq n (fun j=>u.T r j*x j)=u.T r N:=(by have:=U r ai;rw[e1,n1] at this;have o:u.T r k*((1 / u.T r k)*cq n (fun j=>u.T r j*x j))=u.T r k*((1 / u.T r k)*u.T r N):=(by rw[this]);grind);intro i ab;by_cases c:i=r
  ·rw[c];exact Tx
  have:=U i ab;rw[aD i c,kL i c,Tx] at this;grind
 unit:=by
  intro i ab dc nL;simp only[b7.ca];by_cases e:i=r
  ·subst e
   simp only[if_true];by_cases ez:dc=i
   ·subst ez;simp only[if_true];grind
   simp only[dA ez];rw[h.unit i ab dc nL,dA (fun x=>ez x.symm)];grind
  simp only[dA e];by_cases ez:dc=r
  ·subst ez;simp only[if_true,dA e];grind
  simp only[dA ez];rw[h.unit i ab dc nL,h.unit r ai dc nL,dA (c:=r=dc) (fun x=>ez x.symm)];grind
 kb:=fun i ab=>by
  simp only[b7.ca];split
  ·exact aZ
  exact h.kb i ab
 lh:=b5
 LR:=h.LR
theorem LT.tok (h:LT m n a b bi N u)(aX:n<=N)(fV:0<N):gv bi bi N u.T u where
 st:=fun c a8 j _=>by rw[k4 a8 (f:=fun i=>u.T c (u.B i)*u.T i j) (fun i ab cU=>by rw[h.unit c a8 i ab,dA (fun e=>cU e.symm)];grind),h.unit c a8 c a8,dw rfl];grind
 row:=⟨fun i c=>if i=c then 1 else 0,fun i ab j _=>by rw[k4 ab (f:=fun c=>(if i=c then (1:Rat) else 0)*u.T c j) (fun c _ cU=>by rw[dA (Ne.symm cU)];grind),dw rfl];grind⟩
 unit:=h.unit
 kb:=fun i ab=>Nat.lt_of_lt_of_le (h.kb i ab) aX
def vB (n:Nat)(dW:Nat->Bool)(x:Nat->Rat):Prop:= ∀j,j<n->dW j=false->x j=0
structure xU (m n:Nat) (a:Nat->Nat->Int) (b:Nat->Int) (c:Nat->Rat) (l:Nat) (dW:Nat->Bool) (V:Nat->Rat):Prop where
 low : ∀y,th m n a b y->vB n dW y-> ∀k,k<l->val n (jG c k) y=V k
 up : ∀y,th m n a b y-> ¬vB n dW y-> ∃k,k<l/\val n (jG c k) y<V k/\ ∀q,q<k->val n (jG c q) y=V q
theorem xU.zero {dW:Nat->Bool}(h:∀j,j<n->dW j=true)(V:Nat->Rat):xU m n a b c 0 dW V where
 low:=fun y _ _ k aZ=>by omega
 up:=fun y _ b5=>(b5 fun j au e=>by rw[h j au] at e;cases e).elim
theorem xU.next (h:LT m n a b bi N u){l:Nat}{dW pL:Nat->Bool}{V:Nat->Rat}(s:xU m n a b c l dW V)(dj:∀j,j<n->dW j=true-> ¬0<u.cR bi (jG c l) j)
 (Eo : ∀j,j<n->pL j=(dW j && !decide (u.cR bi (jG c l) j<0))) : ∃afz,xU m n a b c (l+1) pL afz:=by
 have sub : ∀y,vB n pL y->vB n dW y:=fun y aR j au e=>aR j au (by rw[Eo j au,e];rfl)
 have neg : ∀y,th m n a b y->vB n dW y-> ∀j,j<n->0<= -(u.cR bi (jG c l) j*y j):=fun y aR b5 j au=>by
  cases e:dW j with
  | false=>rw[b5 j au e];grind
  | true =>
   have:=aie (show 0<= -(u.cR bi (jG c l) j) by have:=dj j au e;grind) (aR.1 j au);grind
 refine⟨fun k=>if k=l then val n (jG c l) (u.jm bi N) else V k,fun y aR b5 k aZ=> ?_,fun y aR b5=> ?_⟩
 ·by_cases e:k=l
  ·rw[dw e,e]
   have cj:cq n (fun j=>u.cR bi (jG c l) j*y j)=0:=o1 fun j au=>by
    cases e:pL j with
    | false=>rw[b5 j au e];grind
    | true =>
     rw[Eo j au,ahU] at e;have h1:=dj j au e.1;have o : ¬u.cR bi (jG c l) j<0:=(by simpa using e.2);have:u.cR bi (jG c l) j=0:=(by grind);rw[this];grind
   rw[h.Jy _ aR] at cj;grind
  rw[dA e];exact s.low y aR (sub y b5) k (by omega)
 by_cases g:vB n dW y;rotate_left
 ·obtain⟨k,kX,i4,l4⟩:=s.up y aR g;exact⟨k,by omega,by rw[dA (by omega)];exact i4,fun q a1=>by rw[dA (by omega)];exact l4 q a1⟩
 refine⟨l,by omega,?_,fun q a1=>by rw[dA (by omega)];exact s.low y aR g q a1⟩;rw[dw rfl];have h1:=h.Jy (jG c l) aR;have o:=neg y aR g;have aa:=tJ o
 have ao:cq n (fun j=> -(u.cR bi (jG c l) j*y j))≠0:=fun e=>b5 fun j au Ui=>by
  have:=ID o e j au
  cases e1:dW j with
  | false=>exact g j au e1
  | true =>
   rw[Eo j au,e1,Bool.true_and] at Ui;have aC:u.cR bi (jG c l) j<0:=(by simpa using Ui);grind
 rw[fX (g:=fun j=>(-1)*(u.cR bi (jG c l) j*y j)) (fun j _=>by grind),jy,h1] at aa ao;grind
theorem xU.Tm (h:LT m n a b bi N u){dW:Nat->Bool}{V:Nat->Rat}(s:xU m n a b c (n+1) dW V)(aL:∀i,i<bi->dW (u.B i)=true):xk m n a b c (u.jm bi N):=by
 have U:vB n dW (u.jm bi N):=fun j au e=>b7.YD fun i ab aD=>by have:=aL i ab;rw[aD,e] at this;cases this
 have bb:=s.low _ h.jm U;refine⟨h.jm,fun y aR ⟨l,oq,rP,LS⟩=> ?_⟩;by_cases g:vB n dW y
 ·have:=s.low y aR g l oq;have:=bb l oq;grind
 obtain⟨k,kX,i4,l4⟩:=s.up y aR g;rcases Nat.lt_trichotomy l k with e|e|e
 ·have:=l4 l e;have:=bb l oq;grind
 ·subst e;have:=bb l oq;grind
 have:=LS k e;have:=bb k kX;grind
theorem LT.agb (h:LT m n a b bi N u){k s:Nat}(dj:0<u.cR bi (jG c (k+1)) s): ∃i,i<bi/\0<u.T i s:=by
 apply Classical.byContradiction;intro cU;have h1:0<=cq bi (fun i=>jG c (k+1) (u.B i)*u.T i s):=tJ fun i ab=>by have o : ¬0<u.T i s:=fun e=>cU ⟨i,ab,e⟩;simp only[jG];split<;>grind
 unfold b7.cR at dj;have aa:jG c (k+1) s<=0:=by simp only[jG];split<;>grind
 grind
end
end Go.VL
namespace Go.Proofs.YtopadgleejacdabGreat
set_option linter.unusedVariables false
set_option linter.unusedSimpArgs false
open Go Go.VL
structure bN where
 hs:ByteArray
 ga:Int
 f5:Int
 hb:Bool
 deriving DecidableEq
structure b1 where
 dq:Int
 d4:Int
 gy:Int
 deriving DecidableEq
structure cv where
 bP:(List bN)
 bh:(List b1)
 deriving DecidableEq
structure j6 where
 ix:Int
 gz:Int
 dq:ar
 d4:ar
 jb:ar
 deriving DecidableEq
structure bI where
 cS:Bool
 cG:ar
 deriving DecidableEq
structure bc where
 fB:bI
 hS:ar
 deriving DecidableEq
structure sU where
 LU:Int
 uf:(List (List bc))
 s0:ar
 Du:(List bc)
 deriving DecidableEq
structure fe where
 nz:Int
 rs:Int
 deriving DecidableEq
structure tO where
 uf:(List (List bI))
 xV:bI
 s0:ar
 Kc:Int
 Kd:(List Bool)
 deriving DecidableEq
def bw (x:bN):List ay:=[.s x.hs,.n .i64 x.ga,.n .i64 x.f5,.b x.hb]
theorem w0 : ∀x,∀v∈bw x,v.jg=true:=by intro x v bb;simp only[bw,dT,ah6,or_false] at bb;rcases bb with rfl|rfl|rfl|rfl<;>rfl
theorem w1 : ∀x,∀v∈bw x,bT v:=fun x=>(tR (.s _) (tR (.n _ _) (tR (.n _ _) (tR (.b _) JG))))
theorem jM : ∀x,∀v∈bw x,Pure v:=by
 intro x v bb;simp only[bw,dT,ah6,or_false] at bb;rcases bb with rfl|rfl|rfl|rfl
 ·exact .s _
 ·exact .n _ _
 ·exact .n _ _
 exact .b _
def bB (x:b1):List ay:=[.n .i64 x.dq,.n .i64 x.d4,.n .i64 x.gy]
theorem wS : ∀x,∀v∈bB x,v.jg=true:=by intro x v bb;simp only[bB,dT,ah6,or_false] at bb;rcases bb with rfl|rfl|rfl<;>rfl
theorem wT : ∀x,∀v∈bB x,bT v:=fun x=>(tR (.n _ _) (tR (.n _ _) (tR (.n _ _) JG)))
theorem je : ∀x,∀v∈bB x,Pure v:=by
 intro x v bb;simp only[bB,dT,ah6,or_false] at bb;rcases bb with rfl|rfl|rfl
 ·exact .n _ _
 ·exact .n _ _
 exact .n _ _
def gF (x:cv):List ay:=[.isl 4 (x.bP.map bw),.isl 3 (x.bh.map bB)]
theorem afV : ∀x,∀v∈gF x,v.jg=true:=by intro x v bb;simp only[gF,dT,ah6,or_false] at bb;rcases bb with rfl|rfl<;>rfl
theorem uX : ∀x,∀v∈gF x,Pure v:=by
 intro x v bb;simp only[gF,dT,ah6,or_false] at bb;rcases bb with rfl|rfl
 ·exact .isl (c9 jM _)
 exact .isl (c9 je _)
def sQ (x:j6):List ay:=[.n .i64 x.ix,.n .i64 x.gz,.isl 1 (x.dq.map eI),.isl 1 (x.d4.map eI),.isl 1 (x.jb.map eI)]
theorem afZ : ∀x,∀v∈sQ x,v.jg=true:=by intro x v bb;simp only[sQ,dT,ah6,or_false] at bb;rcases bb with rfl|rfl|rfl|rfl|rfl<;>rfl
theorem afW : ∀x,∀v∈sQ x,Pure v:=by
 intro x v bb;simp only[sQ,dT,ah6,or_false] at bb;rcases bb with rfl|rfl|rfl|rfl|rfl
 ·exact .n _ _
 ·exact .n _ _
 ·exact .isl (c9 aE _)
 ·exact .isl (c9 aE _)
 exact .isl (c9 aE _)
def bo (x:bI):List ay:=[.b x.cS,.isl 1 (x.cG.map eI)]
theorem fr : ∀x,∀v∈bo x,v.jg=true:=by intro x v bb;simp only[bo,dT,ah6,or_false] at bb;rcases bb with rfl|rfl<;>rfl
theorem tI : ∀x,∀v∈bo x,Pure v:=by
 intro x v bb;simp only[bo,dT,ah6,or_false] at bb;rcases bb with rfl|rfl
 ·exact .b _
 exact .isl (c9 aE _)
def bn (x:bc):List ay:=[.b x.fB.cS,.isl 1 (x.fB.cG.map eI),.isl 1 (x.hS.map eI)]
theorem jV : ∀x,∀v∈bn x,v.jg=true:=by intro x v bb;simp only[bn,dT,ah6,or_false] at bb;rcases bb with rfl|rfl|rfl<;>rfl
theorem e7 : ∀x,∀v∈bn x,Pure v:=by
 intro x v bb;simp only[bn,dT,ah6,or_false] at bb;rcases bb with rfl|rfl|rfl
 ·exact .b _
 ·exact .isl (c9 aE _)
 exact .isl (c9 aE _)
def w4 (x:sU):List ay:=[.n .i64 x.LU,.isl 1 (x.uf.map (eH 3 bn)),.isl 1 (x.s0.map eI),.isl 3 (x.Du.map bn)]
theorem af0 : ∀x,∀v∈w4 x,v.jg=true:=by intro x v bb;simp only[w4,dT,ah6,or_false] at bb;rcases bb with rfl|rfl|rfl|rfl<;>rfl
theorem Iy : ∀x,∀v∈w4 x,Pure v:=by
 intro x v bb;simp only[w4,dT,ah6,or_false] at bb;rcases bb with rfl|rfl|rfl|rfl
 ·exact .n _ _
 ·exact .isl (c9 (oy (sz:=3) e7) _)
 ·exact .isl (c9 aE _)
 exact .isl (c9 e7 _)
def gT (x:fe):List ay:=[.n .i64 x.nz,.n .i64 x.rs]
theorem af1 : ∀x,∀v∈gT x,v.jg=true:=by intro x v bb;simp only[gT,dT,ah6,or_false] at bb;rcases bb with rfl|rfl<;>rfl
theorem af2 : ∀x,∀v∈gT x,bT v:=fun x=>(tR (.n _ _) (tR (.n _ _) JG))
theorem wM : ∀x,∀v∈gT x,Pure v:=by
 intro x v bb;simp only[gT,dT,ah6,or_false] at bb;rcases bb with rfl|rfl
 ·exact .n _ _
 exact .n _ _
def Ae (x:tO):List ay:=[.isl 1 (x.uf.map (eH 2 bo)),.b x.xV.cS,.isl 1 (x.xV.cG.map eI),.isl 1 (x.s0.map eI),.n .i64 x.Kc,.isl 1 (x.Kd.map fW)]
theorem afY : ∀x,∀v∈Ae x,v.jg=true:=by intro x v bb;simp only[Ae,dT,ah6,or_false] at bb;rcases bb with rfl|rfl|rfl|rfl|rfl|rfl<;>rfl
theorem Im : ∀x,∀v∈Ae x,Pure v:=by
 intro x v bb;simp only[Ae,dT,ah6,or_false] at bb;rcases bb with rfl|rfl|rfl|rfl|rfl|rfl
 ·exact .isl (c9 (oy (sz:=2) tI) _)
 ·exact .b _
 ·exact .isl (c9 aE _)
 ·exact .isl (c9 aE _)
 ·exact .n _ _
 exact .isl (c9 fa _)
noncomputable abbrev bt:Program:=Go.Proofs.Tryz.prog
theorem qK:bt.follows .mixedOrders=true:=Go.Proofs.Tryz.checked.mixed
theorem ba {N m:Nat}{c:Code}{E:List (Nat×ay)}{rows:List (List aU)}(tape:List bO){e:Exit}{s:S}{af:List Prop}(bm:cp af)
 (h:G2 bt N m c tape (db E rows) rows.length=some (e,s,af):=by kernel_rfl):jR bt N m c e (db E rows) s:=Qt qK h bm (w8 _ _)
theorem bp {f:FuncId}{args:List ay}{r:ay}{af:List Prop}(tape:List bO)(bm:cp af)(ho:lI:=ii)
 (h:DS bt f args [] tape [] [] ho=some (r,[],af):=by kernel_rfl):Con bt f args [] r []:=aab qK h bm
theorem kc {f:FuncId}{args:List ay}{T iP:List (List aU)}{r:ay}{af:List Prop}(tape:List bO)(aW:List Nat)(dd:List iO)(bm:cp af)(ho:lI:=ii)
 (h:DS bt f args T tape aW dd ho=some (r,iP,af):=by kernel_rfl):Con bt f args T r iP:=QR qK h bm
def Rz (x:bN):Prop:=(fun s=>s.size<=maxLen) x.hs/\pF x.ga/\pF x.f5/\(fun _=>True) x.hb
theorem Xz (w:World):qa Go.Proofs.Tryz.prog w 55 bw Rz where
 pure:=jM
 size:=fun a=>by kernel_rfl
 opens:=fun h=>by obtain⟨aO,b5⟩:=IK Tryz.underlying55 h;obtain⟨lL,i0,cW⟩:=tQ b5 0 0 1 rfl rfl (by kernel_rfl) (YB Tryz.underlying9 (by kernel_rfl));obtain⟨gU,i1,bl⟩:=tQ b5 1 1 1 rfl rfl (by kernel_rfl) (Ah Tryz.underlying3 (by kernel_rfl));obtain⟨h7,qo,b8⟩:=tQ b5 2 2 1 rfl rfl (by kernel_rfl) (Ah Tryz.underlying3 (by kernel_rfl));obtain⟨c0,LV,jI⟩:=tQ b5 3 3 1 rfl rfl (by kernel_rfl) (ZA Tryz.underlying4 (by kernel_rfl));have aX:Go.Proofs.Tryz.prog.cellsOf 55=4:=(by kernel_rfl);exact⟨⟨lL,gU,h7,c0⟩,⟨i0,i1,qo,LV⟩,(kO.aH cW (kO.aH bl (kO.aH b8 (kO.aH jI (kO.end_ (by omega)) (by rfl)) (by rfl)) (by rfl)) (by rfl))⟩
def QZ (x:b1):Prop:=pF x.dq/\pF x.d4/\pF x.gy
theorem W5 (w:World):qa Go.Proofs.Tryz.prog w 64 bB QZ where
 pure:=je
 size:=fun a=>by kernel_rfl
 opens:=fun h=>by obtain⟨aO,b5⟩:=IK Tryz.underlying64 h;obtain⟨lL,i0,cW⟩:=tQ b5 0 0 1 rfl rfl (by kernel_rfl) (Ah Tryz.underlying3 (by kernel_rfl));obtain⟨gU,i1,bl⟩:=tQ b5 1 1 1 rfl rfl (by kernel_rfl) (Ah Tryz.underlying3 (by kernel_rfl));obtain⟨h7,qo,b8⟩:=tQ b5 2 2 1 rfl rfl (by kernel_rfl) (Ah Tryz.underlying3 (by kernel_rfl));have aX:Go.Proofs.Tryz.prog.cellsOf 64=3:=(by kernel_rfl);exact⟨⟨lL,gU,h7⟩,⟨i0,i1,qo⟩,(kO.aH cW (kO.aH bl (kO.aH b8 (kO.end_ (by omega)) (by rfl)) (by rfl)) (by rfl))⟩
def mv (x:cv):Prop:=(fun l=>l.length<=maxLen/\ ∀x∈l,Rz x) x.bP/\(fun l=>l.length<=maxLen/\ ∀x∈l,QZ x) x.bh
theorem Ws (w:World):qa Go.Proofs.Tryz.prog w 25 gF mv where
 pure:=uX
 size:=fun a=>by kernel_rfl
 opens:=fun h=>by obtain⟨aO,b5⟩:=IK Tryz.underlying25 h;obtain⟨lL,i0,cW⟩:=tQ b5 0 0 1 rfl rfl (by kernel_rfl) (IV (sz:=4) Tryz.underlying22 (by kernel_rfl) (by kernel_rfl) (by decide) (Xz _));obtain⟨gU,i1,bl⟩:=tQ b5 1 1 1 rfl rfl (by kernel_rfl) (IV (sz:=3) Tryz.underlying23 (by kernel_rfl) (by kernel_rfl) (by decide) (W5 _));have aX:Go.Proofs.Tryz.prog.cellsOf 25=2:=(by kernel_rfl);exact⟨⟨lL,gU⟩,⟨i0,i1⟩,(kO.aH cW (kO.aH bl (kO.end_ (by omega)) (by rfl)) (by rfl))⟩
def G7 (lL gU:Int)(h7 c0 gh fS:Nat)(oU:ar)(pW nf yo xW:Nat):List ay:=[.n .i64 lL,.n .i64 gU,.bu h7 c0 gh fS,.isl 1 (oU.map eI),.bu pW nf yo xW]
def Ty (lL gU h7 c0 gh fS oU pW:Nat)(nf:Int):List ay:=[.bu lL gU h7 c0,.bu gh fS oU pW,.n .i64 nf]
def rK (lL:Int)(gU h7 c0 gh fS oU pW nf yo xW Ep Er:Nat):List ay:=[.n .i64 lL,.bu gU h7 c0 gh,.bu fS oU pW nf,.bu yo xW Ep Er]
def ti (lL gU:Int)(h7 c0 gh fS oU pW nf yo xW Ep Er hn:Nat):List ay:=[.n .i64 lL,.n .i64 gU,.bu h7 c0 gh fS,.bu oU pW nf yo,.bu xW Ep Er hn]
def aeF (lL gU h7 c0:Nat)(gh:ar)(fS:Int):List ay:=[.bu lL gU h7 c0,.isl 1 (gh.map eI),.n .i64 fS]
def ld (lL gU h7 c0:Nat)(gh:Bool)(fS:ar)(oU pW nf yo:Nat)(xW:Int)(Ep Er hn aeG:Nat):List ay:=[.bu lL gU h7 c0,.b gh,.isl 1 (fS.map eI),.bu oU pW nf yo,.n .i64 xW,.bu Ep Er hn aeG]
def ij (r:Nat)(a:Int)(c:List b9)(d:ar)(e:List bc)(p:List (List bc)):List aU:=aU.mk 4 [[.n .i64 a,.bu r 1 0 c.length,.bu r 2 0 d.length,.bu r 3 0 e.length]] .live::aU.mk 1 (c.map (bZ r 4 3)) .live::aU.mk 1 (d.map eI) .live::aU.mk 3 (e.map bn) .live::ef 3 bn p
theorem mK (M:Nat->Option Nat)(r s:Nat)(a:Int)(c:List b9)(d:ar)(e:List bc)(p:List (List bc))(h:M s=some r)(k:aU.mk 4 [[.n .i64 a,.bu r 1 0 c.length,.bu r 2 0 d.length,.bu r 3 0 e.length]] .live=j1 M (aU.mk 4 [[.n .i64 a,.bu s 1 0 c.length,.bu s 2 0 d.length,.bu s 3 0 e.length]] .live)):ij r a c d e p=(ij s a c d e p).map (j1 M):=gG k (gG (yk M r s 4 3 h c) (gG (j3 M 1 qb d) (gG (j3 M 3 jV e) (eR M 3 jV p))))
theorem Es (r:Nat)(a:Int)(c:List b9)(d:ar)(e:List bc)(p:List (List bc)):nj (ij r a c d e p):=lM rfl (lM rfl (lM rfl (lM rfl (Jc (LP .live 3 bn p)))))
def lb (i j k:Nat)(a b:Int)(c d e:ar):List aU:=[aU.mk 5 [[.n .i64 a,.n .i64 b,.bu i 0 0 c.length,.bu j 0 0 d.length,.bu k 0 0 e.length]] .live]
def ll (i j k:Nat)(c:List b9)(a:Bool)(b d:ar)(e:Int)(f:List Bool):List aU:=[aU.mk 6 [[.bu i 0 0 c.length,.b a,.isl 1 (b.map eI),.bu j 0 0 d.length,.n .i64 e,.bu k 0 0 f.length]] .live]
def DV (i j k:Nat)(a:Int)(c:List b9)(d:ar)(e:List bc):List aU:=[aU.mk 4 [[.n .i64 a,.bu i 0 0 c.length,.bu j 0 0 d.length,.bu k 0 0 e.length]] .live]
def A0 (a b:Int)(c d e:ar):List aU:=[aU.mk 5 [[.n .i64 a,.n .i64 b,.isl 1 (c.map eI),.isl 1 (d.map eI),.isl 1 (e.map eI)]] .live]
abbrev G8:bI:=⟨false,[]⟩
def pM (c:List b9)(a:Bool)(b d:ar)(e:Int)(f:List Bool)(g:List (List bI)):List (List aU):=[ll 1 3 4 c a b d e f,aF 1 (bZ 2 0 2) c,ef 2 bo g,aF 1 eI d,aF 1 fW f]
def qg (c:List b9)(a:Bool)(b d:ar)(e:Int)(f:List Bool)(g:List (List bI))(z:List aU):List (List aU):=[ll 1 3 4 c a b d e f,aF 1 (bZ 2 0 2) c,ef 2 bo g,aF 1 eI d,aF 1 fW f,z]
def vO (a b:Int)(c d e:ar)(f:Int)(g:List b9)(h:ar)(i j:List bc)(k:List (List bc)):List (List aU):=[A0 a b c d e,DV 3 5 6 f g h i,aF 3 bn j,aF 1 (bZ 4 0 3) g,ef 3 bn k,aF 1 eI h,aF 3 bn i]
def tj:List aU:=[aU.mk 5 [[.n .i64 0,.n .i64 0,.fs,.fs,.fs]] .live]
def ux (a b:Int)(c d e:ar):List (List aU):=[lb 1 2 3 a b c d e,aF 1 eI c,aF 1 eI d,aF 1 eI e]
def pd (c:List b9)(g:List (List bI)):List iO:=[.box kV,.b0 (aF 1 (bZ 2 0 2) c),.b0 (ef 2 bo g),.pure,.pure,.pure]
def qS (c:List b9)(g:List (List bI)):List iO:=[.box kV,.b0 (aF 1 (bZ 2 0 2) c),.b0 (ef 2 bo g),.pure,.pure]
def rL (a:List bN)(b:List b1):List aU:=[aU.mk 2 [[.isl 4 (a.map bw),.isl 3 (b.map bB)]] .live]
def xX (n:Nat)(a:List bN)(b:List b1):Nat×ay:=(n,.fi 2 [[.isl 4 (a.map bw),.isl 3 (b.map bB)]] 0 0)
def hi (n:Nat)(x:bI):fc:=kZ n (.agg (bo x)) false
def mo (n:Nat)(x:bc):fc:=kZ n (.agg (bn x)) false
def Bl (a:List bN)(b:List b1):yb:={aW:=[],dd:=[],ac:=[ii],r:= .agg [.bu 0 0 0 a.length,.bu 0 1 0 b.length],fm:=[[aU.mk 4 (a.map bw) .live,aU.mk 3 (b.map bB) .live]],ho:= .bl (.agg [.id,.id]),iW:=[.b0 [aU.mk 4 (a.map bw) .live,aU.mk 3 (b.map bB) .live]],eM:=[],eu:=true}
abbrev aif:=List bc
abbrev aih:=List bI
abbrev aii:=List aih
abbrev aij:=List bO
abbrev aik:=List b1
abbrev ail:=List bN
abbrev aim:=List b9
abbrev ain:=List Bool
abbrev aio:=List aif
abbrev aip:=Option Bool
abbrev aiq:=Option Int
abbrev air:=List fe
abbrev ais:=List ar
abbrev ait:=Option ar
abbrev aiu:=Option bI
end Go.Proofs.YtopadgleejacdabGreat
