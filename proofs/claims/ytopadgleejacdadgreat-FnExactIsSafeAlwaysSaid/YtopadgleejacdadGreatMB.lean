/- Lemmas, plain functions of the program, and what they answer. No condition. -/
import Derived.Carry
import Derived.ChangeOld
import Derived.ChangeSlices
import Derived.LoopN
import Derived.OwnWalk
import Derived.Scope
import Derived.Test.YtopadgleejacdadGreatChecked
import Derived.Test.YtopadgleejacdadGreatMA
namespace Go.VL
set_option linter.unusedVariables false
set_option linter.unusedSimpArgs false
open Go
def CZ (P:Program)(s:S)(a5:Nat)(o:Oper)(c9:fP):Option iy :=
 match c9 with
 | .call cH=>match o.op with
  | .call {callee:= .value f,args,..}=>match fq s.E f with
   | .fn id cap=>Da P s.aY a5 id (args.toList.map (fq s.E)++cap) cH
   | _=>none
  | _=>none
 | gz=>Dw P s.E s.aY a5 o gz
def DA:List (Nat×List a1)->(Nat->Option (List a1))->Nat->Option (List a1)
 | [],aY,q=>aY q
 | (r,row)::u,aY,q=>DA u (fun x=>if x=r then some row else aY x) q
theorem MX : ∀(u:List (Nat×List a1)) (s:S) (q:Nat),(s.jo u).aY q=DA u s.aY q
 | [],_,_=>rfl
 | (r,row)::u,s,q=>MX u (s.setRow r row) q
def yT (aY:Nat->Option (List a1))(a5 r n:Nat)(bA:iy):Option iy :=
 match DA bA.gM aY a5,DA bA.gM aY r with
 | some hI,some l=>if a5=r then none else
  some {val:=mg a5 r n bA.val,gM:=bA.gM++[(a5,hI.map tU),(r,l++hI.map (n5 a5 r n))],f9:=bA.f9++[l.length=n]}
 | _,_=>none
def WA (o:Oper)(t:Nat):Bool:=o.op.operands.toList.any fun | .tmp u=>u == t|_=>false
inductive lx:aC->aC->Prop
 | refl (x:aC):lx x x
 | n1 (r c sz:Nat):lx (.j9 r c sz none) (.isl sz [])
 | n2 (r c sz:Nat):lx (.isl sz []) (.j9 r c sz none)
 | s1 (r c sz k n:Nat):lx (.j9 r c sz (some (k,n))) (.bu r (k+c) 0 n)
 | s2 (r c sz k n:Nat):lx (.bu r (k+c) 0 n) (.j9 r c sz (some (k,n)))
 | agg {c eQ:List aC} (aT:eQ.length=c.length) (h : ∀(j:Nat) x dc,c[j]? = some x->eQ[j]? = some dc->lx x dc):lx (.agg c) (.agg eQ)
theorem lx.symm {x v:aC}(h:lx x v):lx v x:=by
 induction h with
 | refl x=>exact .refl x
 | n1 r c sz=>exact .n2 r c sz
 | n2 r c sz=>exact .n1 r c sz
 | s1 r c sz k n=>exact .s2 r c sz k n
 | s2 r c sz k n=>exact .s1 r c sz k n
 | agg aT h ih=>exact .agg aT.symm fun j x dc U eC=>ih j dc x eC U
theorem lx.rel {x v:aC}(h:lx x v){w:World}{ok:Nat->Prop}{bd:kt}{bj:kn}: ∀ {u:Value},Rel w ok bd bj x u->Rel w ok bd bj v u:=by
 induction h with
 | refl x=>exact fun h=>h
 | n1 r c sz=>intro u h;cases h with|ou h=>exact h
 | n2 r c sz=>exact fun h=> .ou h
 | s1 r c sz k n=>intro u h;cases h with|py h=>exact h
 | s2 r c sz k n=>exact fun h=> .py h
 | @agg c eQ aT h ih =>
  intro u hu;obtain⟨vs,rfl,h1,h2,J⟩:=hu.CM;refine .agg vs (by omega) h2 fun j dc u eC hu=> ?_;have ez:j<c.length:=(by have:=gm eC;omega);exact ih j _ dc (dz ez) eC (J j _ u (dz ez) hu)
def lI (P:Program)(a5:Nat)(o:Oper):fP->S->Option iy
 | .fZ t v gz,s=>if WA o t then
  match lI P a5 o gz {E:=fun u=>if u=t then v else s.E u,aY:=s.aY} with
  | some r=>some {r with f9:=lx (s.E t) v::r.f9}
  | none=>none
  else none
 | .ts r gz,s=>match s.aY r with
  | some row=>match lI P a5 o gz (s.setRow r (nA row)) with
   | some bA=>some {bA with gM:=(r,nA row)::bA.gM}
   | none=>none
  | none=>none
 | .xP r n gz,s=>match lI P a5 o gz s with
  | some bA=>yT s.aY a5 r n bA
  | none=>none
 | gz,s=>CZ P s a5 o gz
def Jx (P:Program)(s:S)(a5:Nat)(o:Oper)(c9:fP):Option iy:=lI P a5 o c9 s
def v7 (P:Program)(s:S)(a5:Nat)(o:Oper)(c9:fP):Option iy :=
 match Jx P s a5 o c9 with
 | some r=>if r.gM.all (fun p=>decide (p.1=a5) || (s.aY p.1).isSome) then some r else none
 | none=>none
def Xd (N:Nat)(o:Oper):Bool :=
 match o.dst with
 | some d=>decide (d<N)
 | none=>true
def s4 (P:Program)(N:Nat)(ops:Array Oper)(s:S)(a5:Nat)(o:Oper)(gz:fP×Bool):Option iy :=
 if Xd N o=false then none else
 match o.guard with
 | none=>v7 P s a5 o gz.1
 | some (j,want)=>match (ops[j]?).bind (·.dst) with
  | none=>none
  | some d=>match s.E d with
   | .b x=>if gz.2 then (match v7 P s a5 o gz.1 with
    | some r=>some {r with f9:=(x=want)::r.f9}
    | none=>none)
    else some {val:= .dg [],f9:=[x = !want]}
   | .dg []=>some {val:= .dg []}
   | _=>none
def S.aD (s:S)(o:Oper)(r:iy):S:=(s.jo r.gM).put o.dst r.val
section
variable {P:Program} {g:G} {s:S} {aE:gw} {a:Act} {w:World}
theorem afH {o:Oper}{bA:iy}(h:Fin P g s a w o bA)(bC:∀d,o.dst=some d->d<g.N){K:Act->World->Prop}{Q:Exit->Act->World->Prop}
 (iN : ∀bX ew bQ,c7 g (s.aD o bA) bX ew bQ->K ew bQ):o.wp P a w K Q:=by
 obtain⟨v,bQ,bX,ki,bG,ai⟩:=h;unfold Oper.wp;rcases ki with ki|⟨ki,rfl⟩
 ·rw[ki];exact iN bX _ _ (bG.put o.dst bC ai)
 rw[ki];exact iN bX _ _ (bG.put o.dst bC ai)
theorem aeZ {o:Oper}{f:Operand}{args:Array Operand}{oN:Array TypeId}(an:o.op = .call ⟨.value f,args,oN⟩){id:Nat}{cap:List Value}(cq:a.eval f = .func (.func id) #[] cap.toArray)
 (aZ:I0 P id) {K:Act->World->Prop} {Q:Exit->Act->World->Prop}
 (h:Calls P id (args.toList.map a.eval++cap).toArray w fun
   | .returned v,OR=>K (a.put o.dst v) OR
   | .panicked chain,OR=>Q (.panic chain) a OR
   | .outgrown,_=>LetsOut Q):o.wp P a w K Q:=by
 obtain⟨fn,h1,h2,J⟩:=aZ;have e:args.map a.eval++cap.toArray=(args.toList.map a.eval++cap).toArray:=by apply Array.ext';simp
 have ki:(execOp a.eval o).run P w = .ok (.enter id (args.toList.map a.eval++cap).toArray) w:=by have aS:fn.name ≠ "runtime.NumGoroutine" := (by simpa using h2);have o6:fn.body≠none:=(by intro e;simp[e] at J);simp only[execOp,an,resolve,cq,Deferred.ofValue,invoke,callFunc];simp[h1,aS,o6,e]
 unfold Oper.wp;rw[ki];exact h
theorem w1 (h:c7 g s aE a w){a5:Nat}(fI:s.aY a5=none){o:Oper}{c9:fP}{bA:iy}(ay:CZ P s a5 o c9=some bA)(cE:∀p∈bA.f9,p)
 (bC : ∀d,o.dst=some d->d<g.N) {K:Act->World->Prop} {Q:Exit->Act->World->Prop} (iN : ∀bX ew bQ,c7 g (s.aD o bA) bX ew bQ->K ew bQ):o.wp P a w K Q:=by
 unfold CZ at ay;split at ay;rotate_left
 ·exact afH (afG h fI ay cE) bC iN
 rename_i cH;split at ay;rotate_left
 ·simp at ay
 rename_i f args oN an;split at ay;rotate_left
 ·simp at ay
 rename_i id cap h9;have cq:=h.eval f;rw[h9] at cq;obtain⟨vs,hval,aT,ai⟩:=cq.Ju
 obtain⟨aZ,aik⟩:=aet (vs:=args.toList.map a.eval++vs) h fI ay cE (by simp[aT]) (by
  intro j x v U bf;rw[List.getElem?_append] at U bf;simp only[aok] at U bf;split at U
  ·rename_i aq;rw[dw aq] at bf;rw[dK,dO] at U bf;obtain⟨p,af,rfl⟩:=U;obtain⟨q,a0,rfl⟩:=bf;rw[af] at a0;simp at a0;subst a0;exact h.eval p
  rename_i aq;rw[dA aq] at bf;exact ai _ x v U bf)
 refine aeZ an hval aZ (aik.mono fun e bQ hw=> ?_);obtain⟨v,bX,rfl,h1,h2⟩:=hw;exact iN bX _ _ (h1.put o.dst bC h2)
theorem c7.NV {s:S}(h:c7 g s aE a w)(dst:Option Tmp){x:aC}(ai:∀d,dst=some d->Rel w (s.ok g aE w) s.bd (s.bj aE) x (a.tmps.getD d undef)):c7 g (s.put dst x) aE a w where
 tojE:=h.tojE.congr (S.xj s dst x)
 env:=by
  have e:=S.xj s dst x;rw[FB e,CD e,CE e];intro t
  cases dst with
  | none=>simpa [S.put] using h.env t
  | some d =>
   simp only[S.put];by_cases e:t=d
   ·subst e;simpa using ai t rfl
   rw[dA e];exact h.env t
 defers:=h.defers
 k1:=h.k1
theorem V1 (s:S)(dst:Option Tmp)(x y:aC):(s.put dst x).put dst y=s.put dst y:=by
 cases dst with
 | none=>rfl
 | some d =>
  simp only[S.put,S.mk.injEq,and_true];funext u;split<;>rfl
theorem Ul (s:S)(dst:Option Tmp)(x:aC)(r:Nat)(row:List a1):(s.put dst x).setRow r row=(s.setRow r row).put dst x:=by cases dst<;>rfl
theorem FY : ∀(u:List (Nat×List a1)) (s:S),(s.jo u).E=s.E
 | [],_=>rfl
 | (r,row)::u,s=>FY u (s.setRow r row)
theorem I1 : ∀(u:List (Nat×List a1)) (s:S) (dst:Option Tmp) (x:aC),(s.put dst x).jo u=(s.jo u).put dst x
 | [],_,_,_=>rfl
 | (r,row)::u,s,dst,x=>by show ((s.put dst x).setRow r row).jo u=_;rw[Ul,I1 u];rfl
theorem aeu {s:S}{a5 r n:Nat}{o:Oper}{bA ru:iy}(hm:yT s.aY a5 r n bA=some ru)(cE:∀p∈ru.f9,p){aE:gw}{a:Act}{w:World}(h:c7 g (s.aD o bA) aE a w):
 ∃bX,c7 g (s.aD o ru) bX a w:=by
 unfold yT at hm;split at hm;rotate_left
 ·simp at hm
 rename_i hI l h1 h2;split at hm
 ·simp at hm
 rename_i dd;simp only[dB] at hm;subst hm;have aS:l.length=n:=cE _ (by simp);subst aS;have e1:(s.aD o bA).aY a5=some hI:=by rw[S.aD,S.xj,MX];exact h1
 have e2:(s.aD o bA).aY r=some l:=by rw[S.aD,S.xj,MX];exact h2
 obtain⟨bX,f1,f2⟩:=h.merge e2 e1 dd;refine⟨bX,?_⟩;have:=f1.NV o.dst (x:=mg a5 r l.length bA.val) (fun d bC=>f2 _ _ (by have:=h.env d;simpa [S.aD,S.put,bC] using this))
 have he:s.aD o {val:=mg a5 r l.length bA.val,gM:=bA.gM++[(a5,hI.map tU),(r,l++hI.map (n5 a5 r l.length))],f9:=bA.f9++[l.length=l.length]} =
  ((s.aD o bA).setRow a5 (hI.map tU) |>.setRow r (l++hI.map (n5 a5 r l.length))).put o.dst (mg a5 r l.length bA.val):=by
  simp only[S.aD,Ul,V1];simp only[S.jo,List.foldl_append,List.foldl_cons,List.foldl_nil]
 rw[he];exact this
theorem Iv {a5:Nat}{o:Oper}(bC:∀d,o.dst=some d->d<g.N){K:Act->World->Prop}{Q:Exit->Act->World->Prop}:
 ∀(c9:fP) (s:S) (h:c7 g s aE a w) (fI:s.aY a5=none) (bA:iy),lI P a5 o c9 s=some bA->(∀p∈bA.f9,p)->(∀bX ew bQ,c7 g (s.aD o bA) bX ew bQ->K ew bQ)->o.wp P a w K Q
 | .ts r gz,s,h,fI,bA,ay,cE,iN=>by
  unfold lI at ay;split at ay
  ·rename_i row d4
   split at ay
   ·rename_i ru ai;simp only[dB] at ay;subst ay;have dd:a5≠r:=(by rintro rfl;rw[fI] at d4;simp at d4);exact Iv bC gz (s.setRow r (nA row)) (h.freeze d4) (by simp[S.setRow,dd,fI]) ru ai cE iN
   simp at ay
  simp at ay
 | .fZ t v gz,s,h,fI,bA,ay,cE,iN=>by
  unfold lI at ay;split at ay;rotate_left
  ·simp at ay
  split at ay;rotate_left
  ·simp at ay
  rename_i r ai;simp only[dB] at ay;subst ay;have e:lx (s.E t) v:=cE _ (by simp);have bf:Rel w (s.ok g aE w) s.bd (s.bj aE) v (a.tmps.getD t undef):=(by exact e.rel (h.env t));have h2:=h.NV (some t) (x:=v) (fun d bC=>by simp at bC;subst bC;exact bf);refine Iv bC gz (s.put (some t) v) h2 fI r ai (fun p af=>cE p (by simp[af])) fun bX ew bQ bG=>iN bX ew bQ ?_;have U:Rel bQ (((s.put (some t) v).aD o r).ok g bX bQ) ((s.put (some t) v).aD o r).bd (((s.put (some t) v).aD o r).bj bX) v (ew.tmps.getD t undef)->Rel bQ (((s.put (some t) v).aD o r).ok g bX bQ) ((s.put (some t) v).aD o r).bd (((s.put (some t) v).aD o r).bj bX) (s.E t) (ew.tmps.getD t undef):=(by exact fun h0=>e.symm.rel h0);by_cases OS:o.dst=some t
  ·have:s.aD o {r with f9:=lx (s.E t) v::r.f9}=(s.put (some t) v).aD o r:=by
    simp only[S.aD,I1,OS,V1]
   rw[this];exact bG
  have eB:((s.put (some t) v).aD o r).E t=v:=by
   simp only[S.aD,I1]
   cases zV:o.dst with
   | none=>simp[S.put]
   | some d =>
    have:t≠d:=(by rintro rfl;exact OS zV);simp[S.put,this]
  have:s.aD o {r with f9:=lx (s.E t) v::r.f9}=((s.put (some t) v).aD o r).put (some t) (s.E t):=by
   simp only[S.aD,I1]
   cases zV:o.dst with
   | none =>
    have key : ∀(s1:S) (x y:aC),s1.E t=y->s1=(s1.put (some t) x).put (some t) y:=by
     intro s1 x y aV
     cases s1 with
     | mk E aY =>
      simp only[S.put,S.mk.injEq,and_true];funext u;split
      ·rename_i hu;rw[hu];exact aV
      rfl
    exact key (s.jo r.gM) v _ (by rw[FY])
   | some d =>
    have:t≠d:=(by rintro rfl;exact OS zV);simp only[S.put,S.mk.injEq,and_true];funext u;by_cases h1:u=t
    ·subst h1;simp[this,FY]
    simp[h1]
  rw[this];exact bG.NV (some t) (fun d bC=>by simp at bC;subst bC;exact U (by have:=bG.env t;rw[eB] at this;exact this))
 | .xP r n gz,s,h,fI,bA,ay,cE,iN=>by
  unfold lI at ay;split at ay
  ·rename_i ru ai
   refine Iv bC gz s h fI ru ai (fun p af=>cE p ?_) fun bX ew bQ bG=> ?_
   ·unfold yT at ay
    split at ay
    ·split at ay
     ·simp at ay
     simp only[dB] at ay;subst ay;simp[af]
    simp at ay
   obtain⟨nd,h2⟩:=aeu ay cE bG;exact iN nd ew bQ h2
  simp at ay
 | .none,s,h,fI,bA,ay,cE,iN=>w1 h fI (by unfold lI at ay;exact ay) cE bC iN
 | .ab b,s,h,fI,bA,ay,cE,iN=>w1 h fI (by unfold lI at ay;exact ay) cE bC iN
 | .cz c,s,h,fI,bA,ay,cE,iN=>w1 h fI (by unfold lI at ay;exact ay) cE bC iN
 | .gG aj c,s,h,fI,bA,ay,cE,iN=>w1 h fI (by unfold lI at ay;exact ay) cE bC iN
 | .ea,s,h,fI,bA,ay,cE,iN=>w1 h fI (by unfold lI at ay;exact ay) cE bC iN
 | .xO,s,h,fI,bA,ay,cE,iN=>w1 h fI (by unfold lI at ay;exact ay) cE bC iN
 | .call c,s,h,fI,bA,ay,cE,iN=>w1 h fI (by unfold lI at ay;exact ay) cE bC iN
 | .aD m cl,s,h,fI,bA,ay,cE,iN=>w1 h fI (by unfold lI at ay;exact ay) cE bC iN
theorem ad9 (h:c7 g s aE a w){a5:Nat}(fI:s.aY a5=none){o:Oper}{c9:fP}{bA:iy}(ay:Jx P s a5 o c9=some bA)(cE:∀p∈bA.f9,p)
 (bC : ∀d,o.dst=some d->d<g.N) {K:Act->World->Prop} {Q:Exit->Act->World->Prop} (iN : ∀bX ew bQ,c7 g (s.aD o bA) bX ew bQ->K ew bQ):o.wp P a w K Q :=
 Iv bC c9 s h fI bA ay cE iN
theorem TS (h:c7 g s aE a w){a5:Nat}(fI:s.aY a5=none){o:Oper}{c9:fP}{bA:iy}(ay:v7 P s a5 o c9=some bA)(cE:∀p∈bA.f9,p)
 (bC : ∀d,o.dst=some d->d<g.N) {K:Act->World->Prop} {Q:Exit->Act->World->Prop} (iN : ∀bX ew bQ,c7 g (s.aD o bA) bX ew bQ->K ew bQ):o.wp P a w K Q:=by
 unfold v7 at ay;split at ay
 ·rename_i r ai
  split at ay
  ·simp only[dB] at ay;subst ay;exact ad9 h fI ai cE bC iN
  simp at ay
 simp at ay
theorem UO {ok:Nat->Prop}{bd:kt}{bj:kn}:Rel w ok bd bj (.dg []) undef:=by have:=Rel.dg (w:=w) (ok:=ok) (bd:=bd) (bj:=bj) (c:=[]) [] rfl (by simp);exact this
theorem TT (h:c7 g s aE a w){ops:Array Oper}{i a5:Nat}(fI:s.aY a5=none){o:Oper}(aa:ops[i]? = some o){gz:fP×Bool}{bA:iy}(ay:s4 P g.N ops s a5 o gz=some bA)
 (cE : ∀p∈bA.f9,p) {K:Act->World->Prop} {Q:Exit->Act->World->Prop} (iN : ∀bX ew bQ,c7 g (s.aD o bA) bX ew bQ->K ew bQ):wpOp P ops Q i K a w:=by
 unfold s4 at ay;split at ay
 ·simp at ay
 rename_i GG;have bC : ∀d,o.dst=some d->d<g.N:=by intro d bC;unfold Xd at GG;rw[bC] at GG;simpa using GG
 unfold wpOp;simp only[aa];have Xy : ∀r:iy,r={val:= .dg [],f9:=r.f9}->(∀bX ew bQ,c7 g (s.aD o r) bX ew bQ->K ew bQ)->K (a.put o.dst undef) w:=by intro r ai akp;refine akp aE _ _ ?_;rw[ai];exact h.put o.dst bC UO
 split at ay
 ·rename_i dm;have hw:Region.wanted o (yielded ops a.tmps)=true:=(by simp[Region.wanted,dm]);rw[dw hw];exact .inl (TS h fI ay cE bC iN)
 rename_i j want dm;split at ay
 ·simp at ay
 rename_i d X7;have hval:=h.env d;split at ay
 ·rename_i x U
  rw[U] at hval;have bf:=hval.xk
  have ez:d<a.tmps.size:=by
   rcases Nat.lt_or_ge d a.tmps.size with c5|c5
   ·exact c5
   rw[aoi,Array.getElem?_eq_none c5] at bf;simp[undef] at bf
  have aV:yielded ops a.tmps j=some x:=(by unfold yielded;rw[X7];rw[aoi,aoa ez] at bf;simp only[Option.getD_some] at bf;simp[aoa ez,bf]);split at ay
  ·split at ay
   ·rename_i r ai;simp only[dB] at ay;subst ay;have OT:x=want:=cE _ (by simp);have hw:Region.wanted o (yielded ops a.tmps)=true:=(by simp[Region.wanted,dm,aV,OT]);rw[dw hw];exact .inl (TS h fI ai (fun p af=>cE p (by simp[af])) bC iN)
   simp at ay
  simp only[dB] at ay;subst ay;have OT:x = !want:=cE _ (by simp);have hw:Region.wanted o (yielded ops a.tmps)=false:=(by simp[Region.wanted,dm,aV,OT]);rw[hw];exact Xy _ rfl iN
 ·rename_i U
  simp only[dB] at ay;subst ay;rw[U] at hval;obtain⟨vs,bf,aT,-⟩:=hval.CN;have:vs=[]:=dM.1 (by simpa using aT);subst this
  have aV:yielded ops a.tmps j=none:=by
   unfold yielded;rw[X7];rw[aoi] at bf
   cases a0:a.tmps[d]? with
   | none=>simp[a0]
   | some v=>rw[a0] at bf;simp only[Option.getD_some] at bf;simp[a0,bf]
  have hw:Region.wanted o (yielded ops a.tmps)=false:=(by simp[Region.wanted,dm,aV]);rw[hw];exact Xy _ rfl iN
 simp at ay
end
def sU (P:Program)(N:Nat)(ops:Array Oper):List Oper->List (fP×Bool)->S->Nat->Option (S×List Prop)
 | [],[],s,_=>some (s,[])
 | o::l,gz::c9,s,a5=>match s4 P N ops s a5 o gz with
  | some bA=>match sU P N ops l c9 (s.aD o bA) (a5+1) with
   | some (b2,aj)=>some (b2,bA.f9++aj)
   | none=>none
  | none=>none
 | _,_,_,_=>none
def S.l9 (s:S)(n:Nat):Prop:= ∀r,n<=r->s.aY r=none
theorem UP : ∀(u:List (Nat×List a1)) (s:S) (q:Nat),(∀p∈u,p.1≠q)->(s.jo u).aY q=s.aY q
 | [],s,q,_=>rfl
 | (r,row)::u,s,q,h=>by show ((s.setRow r row).jo u).aY q=_;rw[UP u (s.setRow r row) q fun p af=>h p (by simp[af])];have:=h (r,row) (by simp);simp[S.setRow,Ne.symm this]
theorem ID {P:Program}{N:Nat}{ops:Array Oper}{s:S}{a5:Nat}{o:Oper}{gz:fP×Bool}{bA:iy}(h:s4 P N ops s a5 o gz=some bA)(cq:s.l9 a5):(s.aD o bA).l9 (a5+1):=by
 have key : ∀r,(∀p∈r.gM,p.1=a5\/(s.aY p.1).isSome=true)->(s.aD o r).l9 (a5+1):=by
  intro r ai q a0;unfold S.aD;rw[S.xj,UP]
  ·exact cq q (by omega)
  rintro p af rfl;rcases ai p af with e|e
  ·omega
  rw[cq _ (by omega)] at e;simp at e
 have X8 : ∀r,v7 P s a5 o gz.1=some r-> ∀p∈r.gM,p.1=a5\/(s.aY p.1).isSome=true:=by
  intro r ai;unfold v7 at ai;split at ai
  ·split at ai
   ·rename_i aZ;simp only[dB] at ai;subst ai;intro p af;have:=List.all_eq_true.1 aZ p af;simpa using this
   simp at ai
  simp at ai
 unfold s4 at h;split at h
 ·simp at h
 split at h
 ·exact key bA (X8 bA h)
 split at h
 ·simp at h
 split at h
 ·split at h
  ·split at h
   ·rename_i r ai;simp only[dB] at h;subst h;exact key _ (X8 r ai)
   simp at h
  simp only[dB] at h;subst h;exact key _ (by simp)
 ·simp only[dB] at h;subst h;exact key _ (by simp)
 simp at h
theorem TE {P:Program}{ops:Array Oper}{Q:Exit->Act->World->Prop}{g:G}: ∀(l:List Oper) (c9:List (fP×Bool)) (s b2:S) (a5 i:Nat) (aj:List Prop),
 (∀j o,l[j]? = some o->ops[i+j]? = some o)->sU P g.N ops l c9 s a5=some (b2,aj)->(∀p∈aj,p)->s.l9 a5 ->
 (∀bX ew bQ,c7 g b2 bX ew bQ->Q .normal ew bQ)-> ∀aE a w,c7 g s aE a w->wpOps P ops Q ((List.range l.length).map (i + ·)) a w
 | [],[],s,b2,a5,i,aj,_,h,_,_,xQ,aE,a,w,ai=>by simp[sU] at h;obtain⟨rfl,rfl⟩:=h;exact xQ aE a w ai
 | o::l,gz::c9,s,b2,a5,i,aj,aT,h,bo,cq,xQ,aE,a,w,ai=>by
  simp only[sU] at h;split at h;rotate_left
  ·simp at h
  rename_i bA ay;split at h
  ·rename_i s2 G5 h2
   simp only[dB,dF] at h;obtain⟨rfl,rfl⟩:=h;have e:(List.range (o::l).length).map (i + ·)=i::(List.range l.length).map (i+1 + ·):=(by rw[dI,List.range_succ_eq_map,List.map_cons,List.map_map];congr 1;apply aoq;intro x _;simp[Function.comp];omega);rw[e,wpOps_cons];refine TT ai (cq a5 (dE _)) (by simpa using aT 0 o rfl) ay (fun p af=>bo p (by simp[af])) fun bX ew bQ i6=> ?_
   exact TE l c9 (s.aD o bA) s2 (a5+1) (i+1) G5 (fun j cl aq=>by rw[show i+1+j=i+(j+1) by omega];exact aT (j+1) cl (by simpa using aq)) h2 (fun p af=>bo p (by simp[af]))
    (ID ay cq) xQ bX ew bQ i6
  simp at h
 | [],_::_,_,_,_,_,_,_,h,_,_,_,_,_,_,_=>by simp[sU] at h
 | _::_,[],_,_,_,_,_,_,h,_,_,_,_,_,_,_=>by simp[sU] at h
theorem w7 {α β:Type}{f k5:α->β->Option (β×List Prop)}(cq:∀a b z,k5 a b=some z->f a b=some z): ∀ {l:List α} {m:List β} {z:List β×List Prop},nm k5 l m=some z->nm f l m=some z
 | [],[],z,h=>h
 | [],_::_,z,h=>by simp[nm] at h
 | _::_,[],z,h=>by simp[nm] at h
 | a::l,b::m,z,h=>by
  simp only[nm] at h ⊢;split at h
  ·rename_i ll bR aI aL h1 h2;rw[cq _ _ _ h1,w7 cq h2];exact h
  simp at h
section
variable {aY hT:Nat->Option (List a1)} (da : ∀r row,hT r=some row->aY r=some row)
include da
theorem IL {r k:Nat}{o:a1}(h:d6 (hT r) k=some o):d6 (aY r) k=some o:=by
 cases ai:hT r with
 | none=>rw[ai] at h;simp[d6] at h
 | some row=>rw[da r row ai];rw[ai] at h;exact h
theorem MI {r k:Nat}{c9:fP}{z:a1×List Prop}(h:pz (hT r) k c9=some z):pz (aY r) k c9=some z:=by
 cases ai:hT r with
 | none=>rw[ai] at h;unfold pz at h;split at h<;>simp[d6] at h
 | some row=>rw[da r row ai];rw[ai] at h;exact h
theorem Cw {cm:Nat->Option Nat}{a9:ic}{bO:hp->Bool}{c:us}{x:aC}{z:aC×List Prop}(h:nl hT cm a9 bO c x=some z):nl aY cm a9 bO c x=some z:=by
 cases c with
 | id =>
  simp only[nl] at h ⊢;exact h
 | fv sz=>cases x<;>exact h
 | kJ=>exact h
 | cv y=>exact h
 | rG sz=>exact h
 | len n=>cases x<;>exact h
 | at_ j i n=>cases x<;>exact h
 | view eA o es =>
  cases x<;>simp only[nl,reduceCtorEq] at h ⊢;split at h
  ·rename_i row kC h1 h2;rw[da _ _ h1,da _ _ h2];exact h
  simp at h
 | el es =>
  cases x<;>simp only[nl,reduceCtorEq] at h ⊢;split at h
  ·rename_i o an;rw[IL da an];exact h
  simp at h
theorem Mv {cm:Nat->Option Nat}{a9:ic}{bO:hp->Bool}{c:DR}{x:aC}{z:aC×List Prop}(h:p3 hT cm a9 bO c x=some z):p3 aY cm a9 bO c x=some z:=by
 cases c with
 | bY c =>
  simp only[p3] at h ⊢;split at h
  ·rename_i aS
   rw[dw aS];split at h
   ·exact h
   ·exact h
   ·exact h
   exact Cw da h
  rename_i aS;rw[dA aS];exact Cw da h
 | agg l =>
  cases x<;>simp only[p3,reduceCtorEq] at h ⊢;split at h
  ·rename_i eQ aj aZ;rw[w7 (fun a b z h=>Cw da h) aZ];exact h
  simp at h
 | ptr l =>
  cases x<;>simp only[p3,reduceCtorEq] at h ⊢;split at h;rotate_left
  ·simp at h
  rename_i o an;rw[IL da an];simp only;split at h
  ·rename_i c i5
   split at h
   ·rename_i aZ
    rw[dw aZ];split at h
    ·rename_i eQ aj jq;rw[w7 (fun a b z h=>Cw da h) jq];exact h
    simp at h
   simp at h
  simp at h
 | we l =>
  simp only[p3] at h ⊢;split at h;rotate_left
  ·simp at h
  split at h;rotate_left
  ·simp at h
  rename_i o an;rw[IL da an];simp only;split at h
  ·rename_i c i5
   split at h
   ·rename_i aZ
    rw[dw aZ];split at h
    ·rename_i eQ aj jq;rw[w7 (fun a b z h=>Cw da h) jq];exact h
    simp at h
   simp at h
  simp at h
theorem Um {cm:Nat->Option Nat}{a9:ic}{bO:hp->Bool}{c:mQ}{x:aC}{z:aC×List Prop}(h:pq hT cm a9 bO c x=some z):pq aY cm a9 bO c x=some z:=by
 cases c with
 | bh c =>
  simp only[pq] at h ⊢;split at h
  ·rename_i aS
   rw[dw aS];split at h
   ·exact h
   exact Mv da h
  rename_i aS;rw[dA aS];exact Mv da h
 | comp l =>
  cases x<;>simp only[pq,reduceCtorEq] at h ⊢
  all_goals
   split at h
   ·rename_i eQ aj aZ;rw[w7 (fun a b z h=>Mv da h) aZ];exact h
   simp at h
theorem Un {cm:Nat->Option Nat}{a9:ic}{bO:hp->Bool}{c:jJ}{row:List a1}{z:List a1×List Prop}(h:kq hT cm a9 bO c row=some z):kq aY cm a9 bO c row=some z:=by
 cases c with
 | pure=>exact h
 | cv e3=>exact h
 | bw aK=>exact h
 | rx aK=>cases row with
  | nil=>simp[kq] at h
  | cons o l=>cases l<;>simp[kq] at h
 | drop=>cases row with
  | nil=>simp[kq] at h
  | cons o l=>cases l<;>simp[kq] at h
 | box l =>
  match row,h with
  | [o],h =>
   simp only[kq] at h ⊢;split at h
   ·rename_i c i5
    split at h
    ·rename_i aX
     rw[dw aX];split at h
     ·rename_i eQ aj aZ;rw[w7 (fun a b z h=>Cw da h) aZ];exact h
     simp at h
    simp at h
   simp at h
  | [],h=>simp[kq] at h
  | _::_::_,h=>simp[kq] at h
theorem Mm {cm:Nat->Option Nat}{a9:ic}: ∀ {l:List Src} {d5:List jJ} {z:List (List a1)×List Prop},nS hT cm a9 l d5=some z->nS aY cm a9 l d5=some z
 | [],[],z,h=>h
 | .row r::l,c::d5,z,h=>by
  simp only[nS] at h ⊢;split at h
  ·rename_i row d4
   rw[da r row d4];simp only;split at h
   ·rename_i e3 bR T aL h1 h2;rw[Un da h1,Mm h2];exact h
   simp at h
  simp at h
 | .aj r k o::l,c::d5,z,h=>by
  simp only[nS] at h ⊢;split at h
  ·rename_i row d4
   rw[da r row d4];simp only;split at h
   ·rename_i e3 bR T aL h1 h2;rw[Un da h1,Mm h2];exact h
   simp at h
  simp at h
 | [],_::_,z,h=>by simp[nS] at h
 | .row _::_,[],z,h=>by simp[nS] at h
 | .aj .. :: _,[],z,h=>by simp[nS] at h
omit da in
theorem Ip {Ak:Nat->Option (List a1)}{cm:Nat->Option Nat}{mn:ic}: ∀ {l:List Src} {d5:List jJ} {T:List (List a1)} {aY hT:Nat->Option (List a1)} {z:List (Nat×List a1)×List Prop},
 (∀r row,hT r=some row->aY r=some row)->mD Ak cm mn hT l d5 T=some z->mD Ak cm mn aY l d5 T=some z
 | [],[],[],aY,hT,z,_,h=>h
 | .row q::l,c::d5,row::T,aY,hT,z,da,h=>by
  simp only[mD] at h ⊢;split at h
  ·rename_i e3 bR h1
   split at h
   ·rename_i u aL h2;rw[Ip (fun r row ai=>by split at ai<;>rename_i e<;>simp only[e,if_true,if_false]<;>first|exact ai|exact da _ _ ai) h2];exact h
   simp at h
  simp at h
 | .aj q k o::l,c::d5,row::T,aY,hT,z,da,h=>by
  simp only[mD] at h ⊢;split at h
  ·rename_i nt aZ
   rw[da _ _ aZ];simp only;split at h
   ·rename_i cl bR h1
    split at h
    ·rename_i u aL h2;rw[Ip (fun r row ai=>by split at ai<;>rename_i e<;>simp only[e,if_true,if_false]<;>first|exact ai|exact da _ _ ai) h2];exact h
    simp at h
   simp at h
  simp at h
 | [],[],_::_,_,_,_,_,h=>by simp[mD] at h
 | [],_::_,_,_,_,_,_,h=>by simp[mD] at h
 | .row _::_,[],_,_,_,_,_,h=>by simp[mD] at h
 | .aj .. :: _,[],_,_,_,_,_,h=>by simp[mD] at h
 | .row _::_,_::_,[],_,_,_,_,h=>by simp[mD] at h
 | .aj .. :: _,_::_,[],_,_,_,_,h=>by simp[mD] at h
omit da in
theorem MY : ∀ {u:List (Nat×List a1)} {aY hT:Nat->Option (List a1)} {q:Nat} {row:List a1},(∀r row,hT r=some row->aY r=some row)->DA u hT q=some row->DA u aY q=some row
 | [],_,_,_,_,da,h=>da _ _ h
 | (r,ad)::u,aY,hT,q,row,da,h=>MY (u:=u) (fun r row ai=>by split at ai<;>rename_i e<;>simp only[e,if_true,if_false]<;>first|exact ai|exact da _ _ ai) h
theorem adN {a5 r n:Nat}{bA ru:iy}(h:yT hT a5 r n bA=some ru):yT aY a5 r n bA=some ru:=by
 unfold yT at h ⊢;split at h
 ·rename_i hI l h1 h2;rw[MY da h1,MY da h2];exact h
 simp at h
theorem ae0 {P:Program}{a5:Nat}{f:FuncId}{args:List aC}{cH:Ah}{bA:iy}(h:Da P hT a5 f args cH=some bA):Da P aY a5 f args cH=some bA:=by
 unfold Da at h ⊢;simp only at h ⊢;split at h
 ·simp at h
 rename_i ng h0;split at h
 ·simp at h
 rename_i zT;rw[dA zT];split at h
 ·rename_i G4
  rw[dw G4];split at h
  ·rename_i xC
   split at h
   ·rename_i s3 bR fA eH u ee h1 J ak;rw[w7 (fun a b z h=>Um da h) h1,J,Ip da ak];exact h
   simp at h
  simp at h
 rename_i G4;rw[dA G4];split at h
 ·rename_i s3 bR T aL fA eH u ee h1 h2 J ak;rw[w7 (fun a b z h=>Um da h) h1,Mm da h2,J,Ip da ak];exact h
 simp at h
end
theorem mapM_congr {α β:Type}{f k5:α->Option β}: ∀ {l:List α},(∀x∈l,k5 x=f x)->l.mapM k5=l.mapM f
 | [],_=>rfl
 | x::l,h=>by rw[List.mapM_cons,List.mapM_cons,h x (by simp),mapM_congr fun y aV=>h y (by simp[aV])]
theorem ae1 {P:Program}{aY hT:Nat->Option (List a1)}{t:TypeId}{x lS:aC}{c9:fP}{bA:iy}(da:∀r row,hT r=some row->aY r=some row)(h:C6 P hT t x lS c9=some bA):C6 P aY t x lS c9=some bA:=by
 unfold C6 at h ⊢;split at h
 ·split at h
  ·rename_i a0;rw[MI da a0];exact h
  simp at h
 simp at h
theorem I2 {P:Program}{E nN:Nat->aC}{aY hT:Nat->Option (List a1)}{a5:Nat}{o:Oper}{c9:fP}{bA:iy}
 (eB : ∀x∈o.op.operands,fq nN x=fq E x) (da : ∀r row,hT r=some row->aY r=some row) (h:fE P nN hT a5 o c9=some bA):fE P E aY a5 o c9=some bA:=by
 have bo : ∀ {r k:Nat} {z:a1×List Prop},pz (hT r) k c9=some z->pz (aY r) k c9=some z:=fun h=>MI da h
 cases an:o.op with
 | move x=>simp only[fE,an] at h ⊢;rw[<- eB x (by simp[an,Op.operands])];exact h
 | assign x=>simp only[fE,an] at h ⊢;rw[<- eB x (by simp[an,Op.operands])];exact h
 | pick c x y =>
  simp only[fE,an] at h ⊢;rw[<- eB c (by simp[an,Op.operands]),<- eB x (by simp[an,Op.operands]),<- eB y (by simp[an,Op.operands])];exact h
 | alloc t=>simp only[fE,an] at h ⊢;exact h
 | box t x=>simp only[fE,an] at h ⊢;rw[<- eB x (by simp[an,Op.operands])];exact h
 | load t x =>
  simp only[fE,an] at h ⊢;rw[<- eB x (by simp[an,Op.operands])];split at h
  ·split at h
   ·rename_i a0;rw[bo a0];exact h
   simp at h
  ·exact h
  simp at h
 | store t x y =>
  simp only[fE,an] at h ⊢;rw[<- eB x (by simp[an,Op.operands]),<- eB y (by simp[an,Op.operands])];split at h
  ·split at h
   ·simp at h
   rename_i row d4;rw[da _ row d4];exact h
  simp at h
 | nilCheck x =>
  simp only[fE,an] at h ⊢;rw[<- eB x (by simp[an,Op.operands])];split at h
  ·split at h
   ·rename_i a0;rw[bo a0];exact h
   simp at h
  ·exact h
  ·exact h
  simp at h
 | binOp op t x y cw =>
  simp only[fE,an] at h ⊢;rw[<- eB x (by simp[an,Op.operands]),<- eB y (by simp[an,Op.operands])];exact h
 | unOp op t x=>simp only[fE,an] at h ⊢;rw[<- eB x (by simp[an,Op.operands])];exact h
 | convert t cw x =>
  simp only[fE,an] at h ⊢;rw[<- eB x (by simp[an,Op.operands])];split at h
  ·exact h
  ·rename_i r k bL len h1 h2
   split at h
   ·rename_i aj J ak;rw[IL da ak,J];exact h
   simp at h
  simp at h
 | makeFunc f HC cH =>
  cases f with
  | func n =>
   simp only[fE,an] at h ⊢;have:cH.toList.map (fq nN)=cH.toList.map (fq E):=aoq fun x U=>eB x (by simp[an,Op.operands];right;simpa using U);rw[<- this];exact h
  | _=>simp[fE,an] at h
 | makeSlice t x y =>
  simp only[fE,an] at h ⊢;rw[<- eB x (by simp[an,Op.operands]),<- eB y (by simp[an,Op.operands])];exact h
 | fieldAddr t x f =>
  simp only[fE,an] at h ⊢;rw[<- eB x (by simp[an,Op.operands])];split at h
  ·split at h
   ·split at h
    ·simp at h
    rename_i cA;rw[dA cA];split at h
    ·split at h
     ·rename_i a0;rw[bo a0];exact h
     simp at h
    ·exact h
    simp at h
   simp at h
  simp at h
 | field t x f=>simp only[fE,an] at h ⊢;rw[<- eB x (by simp[an,Op.operands])];exact h
 | indexAddr t x y =>
  simp only[fE,an] at h ⊢;rw[<- eB x (by simp[an,Op.operands]),<- eB y (by simp[an,Op.operands])];split at h
  ·split at h
   ·exact h
   ·split at h
    ·rename_i row d4;rw[da _ row d4];exact h
    simp at h
   simp at h
  exact ae1 da h
 | index t x y =>
  simp only[fE,an] at h ⊢;rw[<- eB x (by simp[an,Op.operands]),<- eB y (by simp[an,Op.operands])];exact h
 | extract x i=>simp only[fE,an] at h ⊢;rw[<- eB x (by simp[an,Op.operands])];exact h
 | slice t x bL aa wM =>
  cases wM with
  | none =>
   simp only[fE,an] at h ⊢
   have e1:bL.map (fq nN)=bL.map (fq E):=by
    cases bL with
    | none=>rfl
    | some y=>simp only[dR];rw[eB y (by simp[an,Op.operands])]
   have e2:aa.map (fq nN)=aa.map (fq E):=by
    cases aa with
    | none=>rfl
    | some y=>simp only[dR];rw[eB y (by simp[an,Op.operands])]
   rw[<- eB x (by simp[an,Op.operands]),<- e1,<- e2];split at h
   ·exact h
   ·split at h
    ·simp at h
    rename_i row d4;rw[da _ row d4];exact h
   ·exact h
   simp at h
  | some m =>
   cases aa with
   | none=>simp[fE,an] at h
   | some aa =>
    simp only[fE,an] at h ⊢
    have e1:bL.map (fq nN)=bL.map (fq E):=by
     cases bL with
     | none=>rfl
     | some y=>simp only[dR];rw[eB y (by simp[an,Op.operands])]
    have e2:(some aa).map (fq nN)=(some aa).map (fq E):=(by simp only[dR];rw[eB aa (by simp[an,Op.operands])]);have bJ:(some m).map (fq nN)=(some m).map (fq E):=(by simp only[dR];rw[eB m (by simp[an,Op.operands])]);rw[<- eB x (by simp[an,Op.operands]),<- e1,<- e2,<- bJ];split at h
    ·split at h
     ·simp at h
     rename_i row d4;rw[da _ row d4];exact h
    simp at h
 | build t kJ =>
  simp only[fE,an] at h ⊢;have af : ∀p∈kJ.toList,fq nN p.2=fq E p.2:=fun p af=>eB p.2 (by simp only[an,Op.operands];rw[<- Array.mem_toList_iff];simp only[List.mem_map];exact⟨p,af,rfl⟩);split at h
  ·rename_i mm z _ _
   split at h
   ·simp at h
   rename_i a0;rw[dA a0]
   have e:(kJ.toList.mapM fun (p:Nat×Operand)=>(mm[p.1]?).map fun fd=>(fd.offset,P.cellsOf fd.type,fq nN p.2)) =
    kJ.toList.mapM fun (p:Nat×Operand)=>(mm[p.1]?).map fun fd=>(fd.offset,P.cellsOf fd.type,fq E p.2):=mapM_congr fun p mK=>by rw[af p mK]
   rw[<- e];exact h
  rw[<- (aoq fun p mK=>by rw[af p mK]:(kJ.toList.map fun p=>(p.1,fq nN p.2))=kJ.toList.map fun p=>(p.1,fq E p.2))];exact h
 | buildSlice t n kJ =>
  simp only[fE,an] at h ⊢;have af : ∀p∈kJ.toList,fq nN p.2=fq E p.2:=fun p af=>eB p.2 (by simp only[an,Op.operands];rw[<- Array.mem_toList_iff];simp only[List.mem_map];exact⟨p,af,rfl⟩);have e:(kJ.toList.map fun p=>(p.1,fq nN p.2))=kJ.toList.map fun p=>(p.1,fq E p.2):=aoq fun p mK=>(by rw[af p mK]);rw[<- e];exact h
 | call c =>
  obtain⟨Ka,args,n3⟩:=c
  cases Ka with
  | builtin b =>
   cases b<;>first
    | (simp only[fE,an] at h ⊢
       have e:args.toList.map (fq nN)=args.toList.map (fq E):=aoq fun x U=>eB x (by simp only[an,Op.operands,Call.operands];simpa using U);rw[<- e];split at h
       ·exact h
       ·split at h
        ·rename_i row d4;rw[da _ row d4];exact h
        simp at h
       ·exact h
       ·exact h
       simp at h)
    | simp[fE,an] at h
  | value f=>simp[fE,an] at h
  | invoke r m=>simp[fE,an] at h
 | _=>simp[fE,an] at h
theorem Uo {aY hT:Nat->Option (List a1)}(da:∀r row,hT r=some row->aY r=some row){sz:Nat}{x:aC}{gz:fP}{z:List (List aC)×List Prop}(h:tS sz hT gz x=some z):tS sz aY gz x=some z:=by
 cases x with
 | bu r k bL len =>
  simp only[tS] at h ⊢;split at h
  ·rename_i aj bR bo;rw[MI da bo];exact h
  simp at h
 | _=>exact h
theorem TU {P:Program}{aY hT:Nat->Option (List a1)}(da:∀r row,hT r=some row->aY r=some row){sz:Nat}{z:List aC}{t cw:TypeId}{x:aC}{gz:fP}{y:List (List aC)×List Prop}(h:zb P sz z hT gz t cw x=some y):zb P sz z aY gz t cw x=some y:=by
 unfold zb at h ⊢;split at h
 ·rename_i e;rw[dw e];exact Uo da h
 rename_i e;rw[dA e];exact h
theorem UQ {wN:Bool}{P:Program}{aY hT:Nat->Option (List a1)}{x y:aC}{t cw:TypeId}{bA:iy}
 (da : ∀r row,hT r=some row->aY r=some row) (h:wh wN P hT x y t cw=some bA):wh wN P aY x y t cw=some bA:=by
 unfold wh at h ⊢;split at h
 ·simp at h
 split at h;rotate_left
 ·simp at h
 split at h
 ·simp at h
 rename_i aZ;rw[dA aZ];split at h
 ·simp at h
 rename_i br bR tZ;rw[TU da tZ];simp only;split at h
 ·split at h
  ·simp at h
  rename_i row d4;rw[da _ row d4];exact h
 simp at h
theorem ae2 {P:Program}{aY hT:Nat->Option (List a1)}{r k bL len:Nat}{t:TypeId}{bA:iy}
 (da : ∀r row,hT r=some row->aY r=some row) (h:zp P hT r k bL len t=some bA):zp P aY r k bL len t=some bA:=by
 unfold zp at h ⊢;split at h
 ·simp at h
 split at h
 ·split at h
  ·simp at h
  rename_i row d4;rw[da _ row d4];exact h
 simp at h
theorem afI {P:Program}{aY hT:Nat->Option (List a1)}{r k len:Nat}{t:TypeId}{bA:iy}
 (da : ∀r row,hT r=some row->aY r=some row) (h:zF P hT r k len t=some bA):zF P aY r k len t=some bA:=by
 unfold zF at h ⊢;split at h
 ·simp at h
 split at h
 ·split at h
  ·simp at h
  rename_i row d4;rw[da _ row d4];exact h
 simp at h
theorem agJ {P:Program}{E nN:Nat->aC}{aY hT:Nat->Option (List a1)}{a5:Nat}{b:Builtin}{args:List aC}{n3:List TypeId}{c9:fP}{bA:iy}
 (da : ∀r row,hT r=some row->aY r=some row) (h:ub P nN hT a5 b args n3 c9=some bA):ub P E aY a5 b args n3 c9=some bA:=by
 unfold ub at h ⊢;split at h
 ·split at h
  ·simp at h
  split at h;rotate_left
  ·simp at h
  split at h
  ·simp at h
  rename_i aZ;rw[dA aZ];split at h
  ·simp at h
  rename_i br bR tZ;rw[TU da tZ];simp only;split at h
  ·exact h
  ·split at h
   ·simp at h
   rename_i row d4;rw[da _ row d4];exact h
  simp at h
 ·exact UQ da h
 ·exact UQ da h
 ·split at h
  ·simp at h
  split at h
  ·simp at h
  split at h
  ·simp at h
  rename_i br bR tZ;rw[Uo da tZ];simp only;split at h
  ·simp at h
  rename_i row d4;rw[da _ row d4];exact h
 ·exact ae2 da h
 ·exact afI da h
 ·exact h
 simp at h
theorem agK {P:Program}{E nN:Nat->aC}{aY hT:Nat->Option (List a1)}{a5:Nat}{o:Oper}{c9:fP}{bA:iy}
 (eB : ∀x∈o.op.operands,fq nN x=fq E x) (da : ∀r row,hT r=some row->aY r=some row) (h:Dw P nN hT a5 o c9=some bA):Dw P E aY a5 o c9=some bA:=by
 unfold Dw at h ⊢;split at h
 ·rename_i b args n3 an
  split at h
  ·exact I2 eB da h
  have e:args.toList.map (fq nN)=args.toList.map (fq E):=aoq fun x U=>eB x (by simp only[an,Op.operands,Call.operands];simpa using U);rw[<- e];exact agJ da h
 ·rename_i op t x y cw an
  have iX:=eB x (by simp[an,Op.operands]);have j0:=eB y (by simp[an,Op.operands]);rw[<- iX,<- j0];split at h
  ·exact h
  ·exact h
  ·exact h
  ·exact h
  ·exact h
  ·exact h
  ·simp at h
  exact I2 eB da h
 ·rename_i x an
  have iX:=eB x (by simp[an,Op.operands]);rw[<- iX];split at h
  ·exact h
  ·simp at h
  exact I2 eB da h
 exact I2 eB da h
theorem w3 {P:Program}{s b2:S}{a5:Nat}{o:Oper}{c9:fP}{bA:iy}
 (eB : ∀x∈o.op.operands,fq b2.E x=fq s.E x) (da : ∀r row,b2.aY r=some row->s.aY r=some row) (ai:CZ P b2 a5 o c9=some bA):CZ P s a5 o c9=some bA:=by
 unfold CZ at ai ⊢;split at ai
 ·rename_i cH
  split at ai
  ·rename_i f args oN an
   simp only[an] at ai eB ⊢;have cq:=eB f (by simp[Op.operands,Call.operands]);have bF:args.toList.map (fq b2.E)=args.toList.map (fq s.E):=aoq fun x U=>eB x (by simp only[Op.operands,Call.operands];simp only[Array.mem_append];right;simpa using U);rw[cq,bF] at ai;split at ai
   ·exact ae0 da ai
   simp at ai
  simp at ai
 exact agK eB da ai
theorem IE {P:Program}{a5:Nat}{o:Oper}: ∀(c9:fP) (s b2:S) (bA:iy),(∀x∈o.op.operands,fq b2.E x=fq s.E x)->(∀r row,b2.aY r=some row->s.aY r=some row) ->
 lI P a5 o c9 b2=some bA->lI P a5 o c9 s=some bA
 | .fZ t v gz,s,b2,bA,eB,da,h=>by
  unfold lI at h ⊢;split at h;rotate_left
  ·simp at h
  rename_i jS;rw[dw jS]
  have lA:Operand.tmp t∈o.op.operands:=by
   unfold WA at jS;rw[List.any_eq_true] at jS;obtain⟨x,U,a0⟩:=jS
   cases x with
   | tmp u =>
    have:u=t:=(by simpa using a0);subst this;simpa using U
   | _=>simp at a0
  have het:b2.E t=s.E t:=eB _ lA;split at h
  ·rename_i r ai
   have:=IE gz {E:=fun u=>if u=t then v else s.E u,aY:=s.aY} {E:=fun u=>if u=t then v else b2.E u,aY:=b2.aY} r (fun x U=>by
    cases x with
    | tmp u =>
     show (if u=t then v else b2.E u)=(if u=t then v else s.E u);split
     ·rfl
     exact eB (.tmp u) U
    | _=>rfl) da ai
   rw[this];simp only;rw[<- het];exact h
  simp at h
 | .ts r gz,s,b2,bA,eB,da,h=>by
  unfold lI at h ⊢;split at h
  ·rename_i row d4
   rw[da r row d4];simp only;split at h
   ·rename_i ru ai
    have:=IE gz (s.setRow r (nA row)) (b2.setRow r (nA row)) ru eB (fun q e3 a0=>by
     simp only[S.setRow] at a0 ⊢;split at a0
     ·rename_i e;rw[dw e];exact a0
     rename_i e;rw[dA e];exact da q e3 a0) ai
    rw[this];exact h
   simp at h
  simp at h
 | .xP r n gz,s,b2,bA,eB,da,h=>by
  unfold lI at h ⊢;split at h
  ·rename_i ru ai;rw[IE gz s b2 ru eB da ai];exact adN da h
  simp at h
 | .none,s,b2,bA,eB,da,h=>by unfold lI at h ⊢;exact w3 eB da h
 | .ab b,s,b2,bA,eB,da,h=>by unfold lI at h ⊢;exact w3 eB da h
 | .cz c,s,b2,bA,eB,da,h=>by unfold lI at h ⊢;exact w3 eB da h
 | .gG aj c,s,b2,bA,eB,da,h=>by unfold lI at h ⊢;exact w3 eB da h
 | .ea,s,b2,bA,eB,da,h=>by unfold lI at h ⊢;exact w3 eB da h
 | .xO,s,b2,bA,eB,da,h=>by unfold lI at h ⊢;exact w3 eB da h
 | .call c,s,b2,bA,eB,da,h=>by unfold lI at h ⊢;exact w3 eB da h
 | .aD m cl,s,b2,bA,eB,da,h=>by unfold lI at h ⊢;exact w3 eB da h
def tmpsOf (o:Oper):List Nat:=o.op.operands.toList.filterMap fun | .tmp t=>some t|_=>none
def ail:aC->List Nat
 | .ref r _ _ _=>[r]
 | .bu r _ _ _=>[r]
 | .j9 r _ _ _=>[r]
 | _=>[]
def qe (ops:Array Oper)(o:Oper):List Nat :=
 tmpsOf o++(match o.guard with
  | some (j,_)=>((ops[j]?).bind (·.dst)).toList
  | none=>[])
def DB (s:S)(o:Oper):fP->List Nat
 | .call cH=>cH.fH
 | .fZ t v gz=>DB {E:=fun u=>if u=t then v else s.E u,aY:=s.aY} o gz
 | .ts r gz=>r::DB s o gz
 | .xP r _ gz=>r::DB s o gz
 | _=>match o.op with
  | .move _=>[]
  | _=>(tmpsOf o).flatMap fun t=>ail (s.E t)
def S.only (s:S)(oN kK:List Nat):S:={E:=fun t=>if oN.contains t then s.E t else .dead,aY:=fun r=>if kK.contains r then s.aY r else none}
theorem Mw {P:Program}{N:Nat}{ops:Array Oper}{s:S}{a5:Nat}{o:Oper}{gz:fP×Bool}{bA:iy}{kK:List Nat}
 (h:s4 P N ops (s.only (qe ops o) kK) a5 o gz=some bA):s4 P N ops s a5 o gz=some bA:=by
 have eB : ∀x∈o.op.operands,fq (s.only (qe ops o) kK).E x=fq s.E x:=by
  intro x U
  cases x with
  | tmp t =>
   have:t∈qe ops o:=(by unfold qe;rw[List.mem_append];left;unfold tmpsOf;rw[List.mem_filterMap];exact⟨.tmp t,by simpa using U,rfl⟩);simp[fq,S.only,this]
  | _=>rfl
 have da : ∀r row,(s.only (qe ops o) kK).aY r=some row->s.aY r=some row:=by
  intro r row ai;simp only[S.only] at ai;split at ai
  ·exact ai
  simp at ai
 have h0 : ∀r,Jx P (s.only (qe ops o) kK) a5 o gz.1=some r->Jx P s a5 o gz.1=some r:=fun r ai=>IE gz.1 s _ r eB da ai
 have h1 : ∀r,v7 P (s.only (qe ops o) kK) a5 o gz.1=some r->v7 P s a5 o gz.1=some r:=by
  intro r ai;unfold v7 at ai ⊢;split at ai;rotate_left
  ·simp at ai
  rename_i fA i6;rw[h0 fA i6];simp only;split at ai
  ·rename_i aZ
   rw[dw]
   ·exact ai
   rw[List.all_eq_true] at aZ ⊢;intro p af;have:=aZ p af;simp only[Bool.or_eq_true,decide_eq_true_eq] at this ⊢;rcases this with e|e
   ·exact .inl e
   right
   cases a0:(s.only (qe ops o) kK).aY p.1 with
   | none=>rw[a0] at e;simp at e
   | some row=>rw[da _ row a0];rfl
  simp at ai
 unfold s4 at h ⊢;split at h
 ·simp at h
 rename_i GG;rw[dA GG];split at h
 ·exact h1 _ h
 rename_i j want dm;split at h
 ·simp at h
 rename_i d bC;have lA:d∈qe ops o:=by unfold qe;rw[List.mem_append];right;simp[dm,bC]
 have he:(s.only (qe ops o) kK).E d=s.E d:=by simp[S.only,lA]
 rw[he] at h;split at h
 ·split at h
  ·rename_i aW
   rw[dw aW];split at h
   ·rename_i r ai;rw[h1 r ai];exact h
   simp at h
  rename_i aW;rw[dA aW];exact h
 ·exact h
 simp at h
structure Rec where
 o:Oper
 gz:fP×Bool
 oN:List Nat
 kK:List Nat
 bA:iy
def sV (P:Program)(N:Nat)(ops:Array Oper):List Oper->List (fP×Bool)->S->Nat->Option (S×List Rec)
 | [],[],s,_=>some (s,[])
 | o::l,gz::c9,s,a5 =>
  match s4 P N ops (s.only (qe ops o) (a5::DB s o gz.1)) a5 o gz with
  | some bA=>match sV P N ops l c9 (s.aD o bA) (a5+1) with
   | some (b2,rec)=>some (b2,⟨o,gz,qe ops o,a5::DB s o gz.1,bA⟩::rec)
   | none=>none
  | none=>none
 | _,_,_,_=>none
def meets (a b:List Nat):Bool:=a.any fun x=>b.contains x
def sb (x y:Rec):Bool :=
 meets x.o.dst.toList (y.oN++y.o.dst.toList) || meets x.oN y.o.dst.toList ||
 meets (x.bA.gM.map (·.1)) (y.kK++y.bA.gM.map (·.1)) || meets x.kK (y.bA.gM.map (·.1))
def S.mA (s:S):Nat⊕Nat->aC⊕Option (List a1)
 | .inl t=> .inl (s.E t)
 | .inr r=> .inr (s.aY r)
theorem S.WB {s b2:S}(h:∀L,s.mA L=b2.mA L):s=b2:=by
 obtain⟨E,aY⟩:=s;obtain⟨nN,hT⟩:=b2;have h1:E=nN:=funext fun t=>by have:=h (.inl t);simpa [S.mA] using this
 have h2:aY=hT:=funext fun r=>by have:=h (.inr r);simpa [S.mA] using this
 rw[h1,h2]
def rX:List (Nat×List a1)->Nat->Option (List a1)
 | [],_=>none
 | (r,row)::u,q=>match rX u q with
  | some x=>some x
  | none=>if r=q then some row else none
theorem UR : ∀(u:List (Nat×List a1)) (s:S) (q:Nat),(s.jo u).aY q=match rX u q with|some x=>some x|none=>s.aY q
 | [],s,q=>rfl
 | (r,row)::u,s,q=>by
  show ((s.setRow r row).jo u).aY q=_;rw[UR u (s.setRow r row) q];simp only[rX]
  cases rX u q with
  | some x=>rfl
  | none =>
   simp only[S.setRow];by_cases h:r=q
   ·subst h;simp
   rw[dA (Ne.symm h),dA h]
theorem Fe : ∀(u:List (Nat×List a1)) (q:Nat),rX u q≠none->q∈u.map (·.1)
 | [],q,h=>by simp[rX] at h
 | (r,row)::u,q,h=>by
  simp only[rX] at h
  cases a0:rX u q with
  | some x=>simp[Fe u q (by rw[a0];simp)]
  | none =>
   rw[a0] at h;simp only at h;by_cases e:r=q
   ·simp[e]
   rw[dA e] at h;simp at h
def oF (x:Rec):Nat⊕Nat->Option (aC⊕Option (List a1))
 | .inl t=>if x.o.dst=some t then some (.inl x.bA.val) else none
 | .inr r=>(rX x.bA.gM r).map fun row=> .inr (some row)
theorem FZ (s:S)(x:Rec)(L:Nat⊕Nat):(s.aD x.o x.bA).mA L=(oF x L).getD (s.mA L):=by
 cases L with
 | inl t =>
  simp only[S.mA,oF,S.aD]
  cases bC:x.o.dst with
  | none=>simp[S.put,FY]
  | some d =>
   simp only[S.put,dB];by_cases h:t=d
   ·subst h;simp
   rw[dA h,dA (Ne.symm h),FY];rfl
 | inr r =>
  simp only[S.mA,oF,S.aD,S.xj];rw[UR];cases rX x.bA.gM r<;>rfl
def i3:List Rec->(Nat->Bool)->Nat->S->S
 | [],_,_,s=>s
 | x::l,f,n,s=>i3 l f (n+1) (if f n then s.aD x.o x.bA else s)
theorem Mn (L:Nat⊕Nat): ∀(l:List Rec) (f k5:Nat->Bool) (n:Nat) (s b2:S),s.mA L=b2.mA L ->
 (∀(i:Nat) x,l[i]? = some x->oF x L≠none->f (n+i)=k5 (n+i))->(i3 l f n s).mA L=(i3 l k5 n b2).mA L
 | [],_,_,_,_,_,h,_=>h
 | x::l,f,k5,n,s,b2,h,cq=>by
  simp only[i3];refine Mn L l f k5 (n+1) _ _ ?_ fun i y aV he=>by have:=cq (i+1) y (by simpa using aV) he;rw[show n+1+i=n+(i+1) by omega];exact this
  cases he:oF x L with
  | none =>
   have e : ∀(b:Bool) (s:S),(if b then s.aD x.o x.bA else s).mA L=s.mA L:=by
    intro b s;cases b
    ·rfl
    simp[FZ,he]
   rw[e,e,h]
  | some c =>
   have:=cq 0 x rfl (by rw[he];simp);simp only[Nat.add_zero] at this;rw[this];cases k5 n
   ·exact h
   simp[FZ,he]
theorem Up (L:Nat⊕Nat): ∀(l:List Rec) (f:Nat->Bool) (n:Nat) (s:S),(∀(i:Nat) x,l[i]? = some x->f (n+i)=true->oF x L=none)->(i3 l f n s).mA L=s.mA L
 | [],_,_,_,_=>rfl
 | x::l,f,n,s,h=>by
  simp only[i3];rw[Up L l f (n+1) _ fun i y aV cq=>h (i+1) y (by simpa using aV) (by rw[show n+(i+1)=n+1+i by omega];exact cq)];cases cq:f n
  ·rfl
  have:=h 0 x rfl (by simpa using cq);simp[FZ,this]
theorem Uq (L:Nat⊕Nat): ∀(l:List Rec) (f:Nat->Bool) (n j:Nat) (s:S) (x:Rec) (c:aC⊕Option (List a1)),l[j]? = some x->f (n+j)=true->oF x L=some c ->
 (∀(i:Nat) y,l[i]? = some y->j<i->f (n+i)=true->oF y L=none)->(i3 l f n s).mA L=c
 | [],_,_,_,_,_,_,h,_,_,_=>by simp at h
 | y::l,f,n,0,s,x,c,h,cq,he,aX=>by simp at h;subst h;simp only[i3];rw[Up L l f (n+1) _ fun i z cA hfz=>aX (i+1) z (by simpa using cA) (by omega) (by rw[show n+(i+1)=n+1+i by omega];exact hfz)];simp only[Nat.add_zero] at cq;simp[cq,FZ,he]
 | y::l,f,n,j+1,s,x,c,h,cq,he,aX=>by
  simp only[i3]
  exact Uq L l f (n+1) j _ x c (by simpa using h) (by rw[show n+1+j=n+(j+1) by omega];exact cq) he fun i z cA th hfz =>
   aX (i+1) z (by simpa using cA) (by omega) (by rw[show n+(i+1)=n+1+i by omega];exact hfz)
theorem Ff : ∀(l:List Rec) (f k5:Nat->Bool) (n:Nat) (s:S),(∀i,i<l.length->f (n+i)=k5 (n+i))->i3 l f n s=i3 l k5 n s
 | [],_,_,_,_,_=>rfl
 | x::l,f,k5,n,s,h=>by simp only[i3];have h0:=h 0 (by simp);simp only[Nat.add_zero] at h0;rw[h0];exact Ff l f k5 (n+1) _ fun i aa=>by rw[show n+1+i=n+(i+1) by omega];exact h (i+1) (by simpa using aa)
theorem TV {P:Program}{N:Nat}{ops:Array Oper}: ∀(l:List Oper) (c9:List (fP×Bool)) (s b2:S) (a5:Nat) (kK:List Rec),sV P N ops l c9 s a5=some (b2,kK)->s.l9 a5 ->
 kK.length=l.length/\b2=i3 kK (fun _=>true) 0 s/\ ∀(i:Nat) x,kK[i]? = some x->l[i]? = some x.o/\x.oN=qe ops x.o /\
  a5+i∈x.kK/\s4 P N ops ((i3 (kK.take i) (fun _=>true) 0 s).only x.oN x.kK) (a5+i) x.o x.gz=some x.bA/\(i3 (kK.take i) (fun _=>true) 0 s).l9 (a5+i)
 | [],[],s,b2,a5,kK,h,cq=>by simp[sV] at h;obtain⟨rfl,rfl⟩:=h;exact⟨rfl,rfl,fun i x U=>by simp at U⟩
 | o::l,gz::c9,s,b2,a5,kK,h,cq=>by
  simp only[sV] at h;split at h;rotate_left
  ·simp at h
  rename_i bA ay;split at h;rotate_left
  ·simp at h
  rename_i s2 OU h2;simp only[dB,dF] at h;obtain⟨rfl,rfl⟩:=h
  have GX : ∀(l:List Rec) (n:Nat) (s:S),i3 l (fun _=>true) (n+1) s=i3 l (fun _=>true) n s:=by
   intro l
   induction l with
   | nil=>intro n s;rfl
   | cons x l ih=>intro n s;simp only[i3];exact ih (n+1) _
  obtain⟨e1,e2,bJ⟩:=TV l c9 (s.aD o bA) s2 (a5+1) OU h2 (ID (Mw ay) cq);refine⟨by simp[e1],?_,fun i x U=> ?_⟩
  ·simp only[i3,if_true];rw[GX];exact e2
  cases i with
  | zero =>
   simp at U;subst U;exact⟨rfl,rfl,by simp,ay,cq⟩
  | succ i =>
   simp at U;obtain⟨f1,f2,f0,f3,f4⟩:=bJ i x U;have e:i3 ((⟨o,gz,qe ops o,a5::DB s o gz.1,bA⟩::OU).take (i+1)) (fun _=>true) 0 s=i3 (OU.take i) (fun _=>true) 0 (s.aD o bA):=(by simp only[List.take_succ_cons,i3,if_true];rw[GX]);rw[e,show a5+(i+1)=a5+1+i by omega];exact⟨by simpa using f1,f2,f0,f3,f4⟩
 | [],_::_,_,_,_,_,h,_=>by simp[sV] at h
 | _::_,[],_,_,_,_,h,_=>by simp[sV] at h
inductive ti (ops:Array Oper):Nat->Nat->Prop
 | one {i j:Nat} {o:Oper} {e:Edge} (an:ops[j]? = some o) (he:e∈o.after) (aW:Region.binds .any e=true) (h:e.on=i):ti ops i j
 | step {i j k:Nat} {o:Oper} {e:Edge} (an:ops[j]? = some o) (he:e∈o.after) (aW:Region.binds .any e=true) (h:e.on=k) (aX:ti ops i k):ti ops i j
def Ga:List Oper->List Nat->List Nat
 | [],acc=>acc
 | o::l,acc=>Ga l (acc++[o.after.toList.foldl (fun m e=>if Region.binds .any e then m ||| (1 <<< e.on) ||| (acc.getD e.on 0) else m) 0])
theorem US {ops:Array Oper}{j:Nat}{o:Oper}(an:ops[j]? = some o){acc:List Nat}(Xz:∀k i,(acc.getD k 0).testBit i=true->ti ops i k): ∀(es:List Edge) (m:Nat),(∀e∈es,e∈o.after) ->
 (∀i,m.testBit i=true->ti ops i j)-> ∀i,(es.foldl (fun m e=>if Region.binds .any e then m ||| (1 <<< e.on) ||| (acc.getD e.on 0) else m) m).testBit i=true->ti ops i j
 | [],m,_,hm,i,h=>hm i h
 | e::es,m,i5,hm,i,h=>by
  simp only[List.foldl_cons] at h;refine US an Xz es _ (fun fb nG=>i5 fb (by simp[nG])) ?_ i h;intro i aa;split at aa
  ·rename_i aW
   rw[Nat.testBit_or,Nat.testBit_or,Bool.or_eq_true,Bool.or_eq_true] at aa;rcases aa with (aa|aa)|aa
   ·exact hm i aa
   ·rw[Nat.testBit_shiftLeft] at aa
    simp only[dQ,decide_eq_true_eq] at aa
    have:i-e.on=0:=by
     have:=aa.2;rcases Nat.eq_zero_or_pos (i-e.on) with h0|h0
     ·exact h0
     rw[Nat.testBit_one_eq_true_iff_self_eq_zero] at this;exact this
    exact .one an (i5 e (by simp)) aW (by omega)
   exact .step an (i5 e (by simp)) aW rfl (Xz _ _ aa)
  exact hm i aa
theorem UT {ops:Array Oper}: ∀(l:List Oper) (acc:List Nat),(∀(i:Nat) o,l[i]? = some o->ops[acc.length+i]? = some o)->(∀k i,(acc.getD k 0).testBit i=true->ti ops i k) ->
 ∀k i,((Ga l acc).getD k 0).testBit i=true->ti ops i k
 | [],acc,_,h,k,i,aX=>h k i aX
 | o::l,acc,aT,h,k,i,aX=>by
  simp only[Ga] at aX;refine UT l _ (fun i cl eV=>by have:=aT (i+1) cl (by simpa using eV);simp only[dD,dI,dN];rw[show acc.length+(0+1)+i=acc.length+(i+1) by omega];exact this) ?_ k i aX;intro k i aX;rw[aoc,List.getElem?_append] at aX;split at aX
  ·exact h k i (by rw[aoc];exact aX)
  rename_i ez;by_cases e:k=acc.length
  ·subst e;simp only[Nat.sub_self,List.getElem?_cons_zero,Option.getD_some] at aX;exact US (aT 0 o rfl) h _ 0 (fun e he=>by simpa using he) (fun i aa=>by simp at aa) i aX
  rw[aoe (by simp;omega)] at aX;simp at aX
def FM (m:Nat)(y:Rec):List Rec->Nat->Bool
 | [],_=>true
 | x::l,i=>(!sb x y || m.testBit i) && FM m y l (i+1)
def JJ (iJ:List Rec):List Rec->List Nat->Nat->Bool
 | [],_,_=>true
 | y::l,eP,j=>FM (eP.headD 0) y (iJ.take j) 0 && y.o.after.toList.all (fun e=> !Region.binds .any e || decide (e.on<j)) && JJ iJ l eP.tail (j+1)
theorem Ur {m:Nat}{y:Rec}: ∀(l:List Rec) (n:Nat),FM m y l n=true-> ∀(i:Nat) x,l[i]? = some x->sb x y=true->m.testBit (n+i)=true
 | [],_,_,i,x,U,_=>by simp at U
 | z::l,n,h,i,x,U,aZ=>by
  simp only[FM,dQ,Bool.or_eq_true,Bool.not_eq_true'] at h
  cases i with
  | zero =>
   simp at U;subst U;rcases h.1 with e|e
   ·rw[e] at aZ;simp at aZ
   simpa using e
  | succ i =>
   have:=Ur l (n+1) h.2 i x (by simpa using U) aZ;rw[show n+(i+1)=n+1+i by omega];exact this
theorem Vr {iJ:List Rec}: ∀(l:List Rec) (eP:List Nat) (j:Nat),JJ iJ l eP j=true-> ∀(i:Nat) y,l[i]? = some y ->
 FM (eP.getD i 0) y (iJ.take (j+i)) 0=true/\ ∀e∈y.o.after,Region.binds .any e=true->e.on<j+i
 | [],_,_,_,i,y,aV=>by simp at aV
 | z::l,eP,j,h,i,y,aV=>by
  simp only[JJ,dQ] at h
  cases i with
  | zero =>
   simp at aV;subst aV;refine⟨?_,fun e he aW=> ?_⟩
   ·have:eP.getD 0 0=eP.headD 0:=(by cases eP<;>rfl);rw[this];exact h.1.1
   have:=List.all_eq_true.1 h.1.2 e (by simpa using he);simpa [aW] using this
  | succ i =>
   obtain⟨e1,e2⟩:=Vr l eP.tail (j+1) h.2 i y (by simpa using aV);refine⟨?_,fun e he aW=> ?_⟩
   ·have:eP.getD (i+1) 0=eP.tail.getD i 0:=(by cases eP<;>rfl);rw[this,show j+(i+1)=j+1+i by omega];exact e1
   have:=e2 e he aW;omega
theorem CA {a b:List Nat}{x:Nat}(bF:x∈a)(aW:x∈b):meets a b=true:=by unfold meets;rw[List.any_eq_true];exact⟨x,bF,by simpa using aW⟩
theorem aev {x y:Rec}(h:sb x y=false){L:Nat⊕Nat}(U:oF x L≠none):oF y L=none:=by
 simp only[sb,Bool.or_eq_false_iff] at h
 cases L with
 | inl t =>
  simp only[oF] at U ⊢;by_cases h1:x.o.dst=some t
  ·by_cases h2:y.o.dst=some t
   ·have:=CA (a:=x.o.dst.toList) (b:=y.oN++y.o.dst.toList) (x:=t) (by simp[h1]) (by simp[h2]);rw[h.1.1.1] at this;simp at this
   simp[h2]
  simp[h1] at U
 | inr r =>
  simp only[oF] at U ⊢
  cases h2:rX y.bA.gM r with
  | none=>rfl
  | some row =>
   have jz:r∈x.bA.gM.map (·.1):=Fe _ _ (by intro e;simp[e] at U);have iz:r∈y.bA.gM.map (·.1):=Fe _ _ (by rw[h2];simp);have:=CA jz (b:=y.kK++y.bA.gM.map (·.1)) (by simp only[List.mem_append];exact .inr iz);rw[h.1.2] at this;simp at this
def Rec.JU (x:Rec):Nat⊕Nat->Prop
 | .inl t=>t∈x.oN
 | .inr r=>r∈x.kK
theorem aew {x y:Rec}(h:sb x y=false){L:Nat⊕Nat}(aV:y.JU L):oF x L=none:=by
 simp only[sb,Bool.or_eq_false_iff] at h
 cases L with
 | inl t =>
  simp only[oF];by_cases h1:x.o.dst=some t
  ·have:=CA (a:=x.o.dst.toList) (b:=y.oN++y.o.dst.toList) (x:=t) (by simp[h1]) (by simp only[List.mem_append];exact .inl aV);rw[h.1.1.1] at this;simp at this
  simp[h1]
 | inr r =>
  simp only[oF]
  cases h2:rX x.bA.gM r with
  | none=>rfl
  | some row =>
   have jz:r∈x.bA.gM.map (·.1):=Fe _ _ (by rw[h2];simp);have:=CA jz (b:=y.kK++y.bA.gM.map (·.1)) (by simp only[List.mem_append];exact .inl aV);rw[h.1.2] at this;simp at this
theorem aex {x y:Rec}(h:sb x y=false){L:Nat⊕Nat}(U:x.JU L):oF y L=none:=by
 simp only[sb,Bool.or_eq_false_iff] at h
 cases L with
 | inl t =>
  simp only[oF];by_cases h1:y.o.dst=some t
  ·have:=CA (a:=x.oN) (b:=y.o.dst.toList) (x:=t) U (by simp[h1]);rw[h.1.1.2] at this;simp at this
  simp[h1]
 | inr r =>
  simp only[oF]
  cases h2:rX y.bA.gM r with
  | none=>rfl
  | some row =>
   have jz:r∈y.bA.gM.map (·.1):=Fe _ _ (by rw[h2];simp);have:=CA (a:=x.kK) U jz;rw[h.2] at this;simp at this
theorem ae3 {s b2:S}{x:Rec}(h:∀L,x.JU L->s.mA L=b2.mA L):s.only x.oN x.kK=b2.only x.oN x.kK:=by
 apply S.WB;intro L
 cases L with
 | inl t =>
  simp only[S.mA,S.only];by_cases cj:t∈x.oN
  ·have:=h (.inl t) cj;simp only[S.mA,Sum.inl.injEq] at this;simp[cj,this]
  simp[cj]
 | inr r =>
  simp only[S.mA,S.only];by_cases ai:r∈x.kK
  ·have:=h (.inr r) ai;simp only[S.mA,Sum.inr.injEq] at this;simp[ai,this]
  simp[ai]
theorem Us : ∀(l:List Rec) (i n:Nat) (s:S),i3 (l.take i) (fun _=>true) n s=i3 l (fun k=>decide (k<n+i)) n s
 | [],i,n,s=>by simp[i3]
 | x::l,0,n,s=>by
  simp only[List.take_zero,i3,Nat.add_zero];rw[dA (by simp)];have:=Ff l (fun k=>decide (k<n)) (fun _=>false) (n+1) s (fun i _=>by simp;omega);rw[this]
  have cA : ∀(l:List Rec) (n:Nat),i3 l (fun _=>false) n s=s:=by
   intro l
   induction l with
   | nil=>intro n;rfl
   | cons x l ih=>intro n;simp only[i3,dT,if_false];exact ih _
  rw[cA]
 | x::l,i+1,n,s=>by simp only[List.take_succ_cons,i3,if_true];rw[dw (by simp),Us l i (n+1)];exact Ff l _ _ (n+1) _ fun j _=>by congr 1;apply propext;omega
def yL (l:List Bool):Nat:=l.countP (fun b=> !b)
section
variable {P:Program} {ops:Array Oper} {Q:Exit->Act->World->Prop} {g:G} {kL:S} {nc:Nat} {iJ:List Rec}
theorem IM {hg:Array Bool}(fF:hg.size=ops.size){i:Nat}:i∈Region.ready .any ops hg↔i<ops.size/\hg.getD i false=false/\ ∀o,ops[i]? = some o-> ∀e∈o.after,Region.binds .any e=true->hg.getD e.on false=true:=by
 unfold Region.ready;rw[List.mem_filter,List.mem_range];constructor
 ·rintro⟨h1,h2⟩
  simp only[dQ,Bool.not_eq_true'] at h2;have aT:i<hg.size:=(by omega);refine⟨h1,?_,fun o an e he aW=> ?_⟩
  ·have:=h2.1;rw[aoi,aoa aT] at this ⊢;simpa using this
  have J:=h2.2;rw[an] at J;simp only[dR,Option.getD_some] at J;rw[Array.all_eq_true_iff_forall_mem] at J;have:=J e he;simpa [aW] using this
 rintro⟨h1,h2,J⟩;refine⟨h1,?_⟩;have aT:i<hg.size:=by omega
 have an:ops[i]? = some ops[i]:=aoa h1;simp only[dQ,Bool.not_eq_true'];refine⟨?_,?_⟩
 ·rw[aoi,aoa aT] at h2 ⊢;simpa using h2
 rw[an];simp only[dR,Option.getD_some];rw[Array.all_eq_true_iff_forall_mem];intro e he
 cases aW:Region.binds .any e with
 | false=>rfl
 | true=>simp[J _ an e he aW]
theorem afJ (hlen:iJ.length=ops.size) (GH : ∀(i:Nat) x,iJ[i]? = some x->ops[i]? = some x.o/\x.oN=qe ops x.o/\nc+i∈x.kK /\
 s4 P g.N ops ((i3 (iJ.take i) (fun _=>true) 0 kL).only x.oN x.kK) (nc+i) x.o x.gz=some x.bA/\(i3 (iJ.take i) (fun _=>true) 0 kL).l9 (nc+i))
 (cE : ∀x∈iJ,∀p∈x.bA.f9,p)
 (JV : ∀(i j:Nat) x y,i<j->iJ[i]? = some x->iJ[j]? = some y->sb x y=true->ti ops i j)
 (F9 : ∀(i:Nat) o,ops[i]? = some o-> ∀e∈o.after,Region.binds .any e=true->e.on<i)
 (xQ : ∀bX ew bQ,c7 g (i3 iJ (fun _=>true) 0 kL) bX ew bQ->Q .normal ew bQ) :
 ∀(sc:Nat) (hg:Array Bool) (aE:gw) (a:Act) (w:World),hg.size=ops.size->yL hg.toList<=sc ->
  (∀i j,hg.getD j false=true->ti ops i j->hg.getD i false=true) ->
  c7 g (i3 iJ (fun i=>hg.getD i false) 0 kL) aE a w->wpAny P .any ops Q sc hg a w:=by
 have Xe : ∀(hg:Array Bool) (aE:gw) (a:Act) (w:World),hg.size=ops.size->Region.ready .any ops hg=[] ->
  c7 g (i3 iJ (fun i=>hg.getD i false) 0 kL) aE a w->Q .normal a w:=by
  intro hg aE a w fF ai h
  have kj : ∀i,i<ops.size->hg.getD i false=true:=by
   intro i
   induction i using Nat.strongRecOn with
   | _ i ih =>
    intro aa
    cases aT:hg.getD i false with
    | true=>rfl
    | false =>
     exfalso;have:i∈Region.ready .any ops hg:=(IM fF).2 ⟨aa,aT,fun o an e he aW=>by have ez:=F9 i o an e he aW;exact ih e.on ez (by omega)⟩;rw[ai] at this;simp at this
  have e:=Ff iJ (fun i=>hg.getD i false) (fun _=>true) 0 kL (fun i aa=>by simpa using kj i (by omega));rw[e] at h;exact xQ aE a w h
 have NW : ∀(hg:Array Bool) (aE:gw) (a:Act) (w:World),hg.size=ops.size->(∀i j,hg.getD j false=true->ti ops i j->hg.getD i false=true) ->
  c7 g (i3 iJ (fun i=>hg.getD i false) 0 kL) aE a w-> ∀i∈Region.ready .any ops hg,∀K:Act->World->Prop,
  (∀bX ew bQ,c7 g (i3 iJ (fun k=>(hg.setIfInBounds i true).getD k false) 0 kL) bX ew bQ->K ew bQ)->wpOp P ops Q i K a w:=by
  intro hg aE a w fF zq h i aa K iN;obtain⟨G6,Kl,X9⟩:=(IM fF).1 aa;have zW:iJ[i]? = some (iJ[i]'(by omega)):=dz _;generalize iJ[i]'(by omega)=x at zW;obtain⟨r1,r2,r0,a7,aM⟩:=GH i x zW
  have Od : ∀j,ti ops j i->hg.getD j false=true:=by
   intro j aq
   cases aq with
   | one an he aW si =>
    rw[r1] at an;simp at an;subst an;rw[<- si];exact X9 _ r1 _ he aW
   | step an he aW si aX =>
    rw[r1] at an;simp at an;subst an;have:=X9 _ r1 _ he aW;rw[si] at this;exact zq _ _ this aX
  have ez : ∀j y,iJ[j]? = some y->j<i->hg.getD j false=false->sb y x=false:=by
   intro j y aV th cq
   cases aZ:sb y x with
   | false=>rfl
   | true=>have:=Od j (JV j i y x th aV zW aZ);rw[cq] at this;simp at this
  have Km : ∀j y,iJ[j]? = some y->i<j->hg.getD j false=true->sb x y=false:=by
   intro j y aV sk cq
   cases aZ:sb x y with
   | false=>rfl
   | true=>have:=zq i j cq (JV i j x y sk zW aV aZ);rw[Kl] at this;simp at this
  have XA : ∀L,x.JU L->(i3 (iJ.take i) (fun _=>true) 0 kL).mA L=(i3 iJ (fun i=>hg.getD i false) 0 kL).mA L:=by
   intro L rJ;rw[Us];refine Mn L iJ _ _ 0 kL kL rfl fun j y aV he=> ?_;simp only[dG];rcases Nat.lt_trichotomy j i with th|th|th
   ·cases cq:hg.getD j false with
    | true=>simpa using th
    | false=>exact absurd (aew (ez j y aV th cq) rJ) he
   ·subst th;simpa using Kl.symm
   cases cq:hg.getD j false with
   | false=>simp;omega
   | true=>exact absurd (aex (Km j y aV th cq) rJ) he
  have ay:s4 P g.N ops (i3 iJ (fun i=>hg.getD i false) 0 kL) (nc+i) x.o x.gz=some x.bA:=(by rw[ae3 XA,r2] at a7;exact Mw a7);have fI:(i3 iJ (fun i=>hg.getD i false) 0 kL).aY (nc+i)=none:=(by have e1:=XA (.inr (nc+i)) r0;simp only[S.mA,Sum.inr.injEq] at e1;rw[<- e1];exact aM _ (dE _));refine TT h fI r1 ay (cE x (dH zW)) fun bX ew bQ c5=>iN bX ew bQ ?_
  have GI : ∀k,(hg.setIfInBounds i true).getD k false=if k=i then true else hg.getD k false:=by
   intro k;simp only[aoi,Array.getElem?_setIfInBounds];by_cases e:i=k
   ·subst e;simp[fF,G6]
   rw[dA e,dA (Ne.symm e)]
  have Dq:(i3 iJ (fun i=>hg.getD i false) 0 kL).aD x.o x.bA=i3 iJ (fun k=>(hg.setIfInBounds i true).getD k false) 0 kL:=by
   apply S.WB;intro L;rw[FZ]
   cases he:oF x L with
   | none =>
    refine Mn L iJ _ _ 0 kL kL rfl fun j y aV GZ=> ?_;simp only[dG,GI];by_cases e:j=i
    ·subst e;rw[zW] at aV;simp at aV;subst aV;exact absurd he GZ
    rw[dA e]
   | some c =>
    symm
    refine Uq L iJ _ 0 i kL x c zW (by simp[GI]) he fun j y aV sk cq=> ?_;simp only[dG,GI] at cq;rw[dA (by omega)] at cq;exact aev (Km j y aV sk cq) (by rw[he];simp)
  rw[Dq] at c5;exact c5
 intro sc
 induction sc with
 | zero =>
  intro hg aE a w fF GA zq h
  have ai:Region.ready .any ops hg=[]:=by
   cases ai:Region.ready .any ops hg with
   | nil=>rfl
   | cons i l =>
    exfalso;have aa:i∈Region.ready .any ops hg:=(by rw[ai];simp);obtain⟨h1,h2,-⟩:=(IM fF).1 aa;have h0:yL hg.toList=0:=(by omega);unfold yL at h0;rw[List.countP_eq_zero] at h0;have zN:i<hg.size:=(by omega);have:=h0 (hg[i]) (by simp);rw[aoi,aoa zN] at h2;simp at h2 this;rw[h2] at this;simp at this
  exact⟨ai,Xe hg aE a w fF ai h⟩
 | succ sc ih =>
  intro hg aE a w fF GA zq h;refine⟨fun ai=>Xe hg aE a w fF ai h,fun i aa=> ?_⟩;refine NW hg aE a w fF zq h i aa _ fun bX ew bQ c5=> ?_;obtain⟨h1,h2,J⟩:=(IM fF).1 aa;have zN:i<hg.size:=by omega
  have GI : ∀k,(hg.setIfInBounds i true).getD k false=if k=i then true else hg.getD k false:=by
   intro k;simp only[aoi,Array.getElem?_setIfInBounds];by_cases e:i=k
   ·subst e;simp[zN]
   rw[dA e,dA (Ne.symm e)]
  refine ih _ bX ew bQ (by simpa using fF) ?_ ?_ c5
  ·have cq:hg[i]=false:=by
    rw[aoi,aoa zN] at h2;simpa using h2
   have aZ:yL (hg.setIfInBounds i true).toList+1<=yL hg.toList:=by
    unfold yL;rw[Array.toList_setIfInBounds]
    have key : ∀(l:List Bool) (i:Nat),l[i]? = some false->(l.set i true).countP (fun b=> !b)+1=l.countP (fun b=> !b):=by
     intro l
     induction l with
     | nil=>intro i aa;simp at aa
     | cons b l ih =>
      intro i aa
      cases i with
      | zero=>simp at aa;subst aa;simp
      | succ i =>
       simp at aa;simp only[List.set_cons_succ,List.countP_cons];have:=ih i aa;omega
    rw[key hg.toList i (by rw[Array.getElem?_toList,aoa zN,cq])];exact dE _
   omega
  intro k j aq G7;rw[GI] at aq ⊢;by_cases e:k=i
  ·rw[dw e]
  rw[dA e];by_cases e2:j=i
  ·subst e2
   cases G7 with
   | one an he aW si=>rw[<- si];exact J _ an _ he aW
   | step an he aW si aX =>
    have:=J _ an _ he aW;rw[si] at this;exact zq _ _ this aX
  rw[dA e2] at aq;exact zq k j aq G7
end
def Fx (P:Program)(N:Nat)(ops:Array Oper)(draw:Bool)(c9:List (fP×Bool))(s:S)(a5:Nat):Option (S×List Prop) :=
 if draw then
  match sV P N ops ops.toList c9 s a5 with
  | some (b2,iJ)=>if JJ iJ iJ (Ga ops.toList []) 0 then some (b2,iJ.flatMap (·.bA.f9)) else none
  | none=>none
 else sU P N ops ops.toList c9 s a5
theorem acX {P:Program}(sd:P.follows .mixedOrders=true){g:G}{ops:Array Oper}{draw:Bool}{c9:List (fP×Bool)}{s b2:S}{a5:Nat}{aj:List Prop}
 (h:Fx P g.N ops draw c9 s a5=some (b2,aj)) (bo : ∀p∈aj,p) (cq:s.l9 a5) {aE:gw} {a:Act} {w:World} (ai:c7 g s aE a w) (id:Nat) {Q:Exit->Act->World->Prop}
 (xQ : ∀bX ew bQ,c7 g b2 bX ew bQ->Q .normal ew bQ):(Code.region id ops draw).wp P Q a w:=by
 unfold Fx at h
 cases draw with
 | false =>
  simp only[dT,if_false] at h;refine wp_region ?_;have:=TE (Q:=Q) (i:=0) ops.toList c9 s b2 a5 aj (fun j o an=>by simpa using an) h bo cq xQ aE a w ai;have e:(List.range ops.toList.length).map (0 + ·)=List.range ops.size:=(by simp);rw[e] at this;exact this
 | true =>
  simp only[if_true] at h;split at h;rotate_left
  ·simp at h
  rename_i s2 iJ GH;split at h;rotate_left
  ·simp at h
  rename_i JV;simp only[dB,dF] at h;obtain⟨rfl,rfl⟩:=h;obtain⟨e1,e2,bJ⟩:=TV ops.toList c9 s s2 a5 iJ GH cq;have Od:=UT (ops:=ops) ops.toList [] (fun i o an=>by simpa using an) (fun k i aX=>by simp at aX);have lK:=Vr iJ (Ga ops.toList []) 0 JV;refine wp_region_any sd ?_
  refine afJ (kL:=s) (nc:=a5) (iJ:=iJ) (by simpa using e1) (fun i x U=>by
   obtain⟨f1,f2,f0,f3,f4⟩:=bJ i x U;exact⟨by simpa using f1,f2,f0,f3,f4⟩) (fun x U p af=>bo p (by rw[List.mem_flatMap];exact⟨x,U,af⟩)) (fun i j x y sk U aV aZ=> ?_) (fun i o an e he aW=> ?_) (fun bX ew bQ c5=>xQ bX ew bQ (by rw[e2];exact c5))
   ops.size _ aE a _ (by simp) ?_ ?_ ?_
  ·obtain⟨f1,-⟩:=lK j y aV;have eC:(iJ.take (0+j))[i]? = some x:=(by rw[an9,dw (by omega)];exact U);have:=Ur _ 0 f1 i x eC aZ;rw[dG] at this;exact Od j i this
  ·have aa:i<iJ.length:=by
    rw[e1];have:=(aom.1 an).1;simpa using this
   have U:=dz aa;obtain⟨f1,-⟩:=bJ i _ U;have Dy:ops[i]? = some (iJ[i]).o:=(by simpa using f1);rw[an] at Dy;simp at Dy;obtain⟨-,f2⟩:=lK i _ U;have:=f2 e (by rw[<- Dy];exact he) aW;omega
  ·unfold yL;have:(Array.replicate ops.size false).toList=List.replicate ops.size false:=(by simp);rw[this,List.countP_replicate];simp
  ·intro i j aq;simp[aoi,Array.getElem?_replicate] at aq;split at aq<;>simp at aq
  have e:i3 iJ (fun i=>(Array.replicate ops.size false).getD i false) 0 s=s:=by
   rw[Ff iJ _ (fun _=>false) 0 s (fun i _=>by simp[aoi,Array.getElem?_replicate];split<;>simp)]
   have cA : ∀(l:List Rec) (n:Nat),i3 l (fun _=>false) n s=s:=by
    intro l
    induction l with
    | nil=>intro n;rfl
    | cons x l ih=>intro n;simp only[i3,dT,if_false];exact ih _
   exact cA _ _
  rw[e];exact ai.drew
def DC:List (Nat×aC)->Nat->aC
 | [],_=> .dead
 | (u,v)::l,t=>if t=u then v else DC l t
def dj (env:List (Nat×aC))(rows:List (List a1)):S:={E:=DC env,aY:=fun r=>rows[r]?}
theorem yU (env:List (Nat×aC))(rows:List (List a1)):(dj env rows).l9 rows.length:=by intro r ai;simp[dj,ai]
def CP (row:List a1):Prop:= ∀o∈row,jL o.es
def oG (l:List Nat):ic:=fun j i=>match l[j]? with
 | some r=>some (r,i)
 | none=>none
def DD (a9:ic)(x dc:aC):Prop :=
 (dc=x/\x.jM=true)\/(∃r k bL len j i,x = .bu r k bL len/\a9 j i=some (r,k)/\dc = .bu j i bL len)\/dc = .dead \/
   ∃r c sz h j eQ,x = .j9 r c sz h/\(∀k,a9 j (k+eQ)=some (r,k+c))/\dc = .j9 j eQ sz h
def rB (a9:ic)(row e3:List a1):Prop :=
 e3.length=row.length/\ ∀(k:Nat) o cl,row[k]? = some o->e3[k]? = some cl->cl.sz=o.sz/\cl.cS=o.cS/\cl.es.length=o.es.length/\(∀e∈cl.es,e.length=o.sz) /\
  ∀(j:Nat) x dc,o.es.flatten[j]? = some x->cl.es.flatten[j]? = some dc->DD a9 x dc
def s5 (aY:Nat->Option (List a1))(cm:Nat->Option Nat)(a9:ic)(bO:hp->Bool):jJ->List a1->Option (List a1×List Prop)
 | .pure,row=>some (row,[CP row])
 | .cv e3,row=>some (e3,[row=e3,CP e3])
 | .bw e3,row=>some (e3,[e3=row.map (kE cm)])
 | .rx e3,row=>some (e3,[rB a9 row e3])
 | .drop,row=>some (row.map tU,[])
 | .box l,[o]=>match o.es with
  | [c]=>match nm (nl aY cm a9 bO) l c with
   | some (eQ,aj)=>some ([{o with es:=[eQ]}],aj)
   | none=>none
  | _=>none
 | _,_=>none
def v8 (aY:Nat->Option (List a1))(cm:Nat->Option Nat)(a9:ic):List Nat->List jJ->Option (List (List a1)×List Prop)
 | [],[]=>some ([],[])
 | r::l,c::d5=>match aY r with
  | some row=>match s5 aY cm a9 me c row,v8 aY cm a9 l d5 with
   | some (e3,bR),some (T,aL)=>some (e3::T,bR++aL)
   | _,_=>none
  | none=>none
 | _,_=>none
def Gb (aY:Nat->Option (List a1))(cm:Nat->Option Nat)(a9:ic)(E:Nat->aC):List (Nat×mQ)->Option (List (Nat×aC)×List Prop)
 | []=>some ([],[])
 | (t,c)::l=>match pq aY cm a9 me c (E t),Gb aY cm a9 E l with
  | some (v,bR),some (env,aL)=>some ((t,v)::env,bR++aL)
  | _,_=>none
def Gc (a9:List Nat)(m:Nat):Bool:=(List.range m).all fun j=>a9[j]? == some j
def JK (m:Nat)(s:S)(a9:List Nat)(d5:List jJ)(pK:List (Nat×mQ)):Option (S×Nat×List Prop) :=
 if decide a9.Nodup && Gc a9 m then
  match v8 s.aY (cu a9) (oG a9) a9 d5,Gb s.aY (cu a9) (oG a9) s.E pK with
  | some (T,bR),some (env,aL)=>some (dj env T,T.length,bR++aL)
  | _,_=>none
 else none
section
variable {P:Program} {g:G} {s:S} {aE:gw} {a:Act} {w:World}
theorem MZ (er:jE g s aE w){a9:ic}{cm:Nat->Option Nat}{bO:hp->Bool}(H:ol s a9 cm bO){c:jJ}{r:Nat}{lF:Nat->Nat}{row e3:List a1}{aj:List Prop}(d4:∀k o,d6 (some row) k=some o->s.aj r (lF k)=some o)
 (h:s5 s.aY cm a9 bO c row=some (e3,aj)) (bo : ∀p∈aj,p) :
 e3.length=row.length/\ ∀(k:Nat) cl,d6 (some e3) k=some cl-> ∃o,d6 (some row) k=some o/\qd s a9 bO nJ o cl:=by
 have hlen : ∀k o,d6 (some row) k=some o-> ∀e∈o.es,e.length=o.sz:=by
  intro k o an;have eV:s.aj r (lF k)=some o:=d4 k o an;have gH:=er.obj r (lF k) o eV
  cases af:aE r (lF k) with
  | none=>rw[af] at gH;simp only[ke] at gH;rw[gH];simp
  | some q=>rw[af] at gH;obtain⟨_,_,_,_,e,_⟩:=gH;exact e
 have vY:CP row-> ∀(k:Nat) cl,d6 (some row) k=some cl-> ∃o,d6 (some row) k=some o/\qd s a9 bO nJ o cl:=by
  intro af
  have s8 : ∀k o,d6 (some row) k=some o->o∈row:=by
   intro k o an;unfold d6 at an;simp only at an;split at an
   ·rename_i cl eV
    split at an
    ·simp at an
    simp at an;subst an;exact dH eV
   simp at an
  refine fun k o an=>⟨o,an,rfl,.inl rfl,rfl,hlen k o an,fun j x dc U eC=> ?_⟩;rw[U] at eC;simp at eC;subst eC;obtain⟨e,he,te⟩:=vx U;exact .pure (af o (s8 k o an) e he x te) trivial
 cases c with
 | pure =>
  simp only[s5,dB,dF] at h;obtain⟨rfl,rfl⟩:=h;exact⟨rfl,vY (bo _ (by simp))⟩
 | cv aK =>
  simp only[s5,dB,dF] at h;obtain⟨rfl,rfl⟩:=h;have e:row=aK:=bo _ (by simp);subst e;exact⟨rfl,vY (bo _ (by simp))⟩
 | bw aK =>
  simp only[s5,dB,dF] at h;obtain⟨rfl,rfl⟩:=h;have e:aK=row.map (kE cm):=bo _ (by simp);subst e;exact⟨by simp,Xc er H d4 (fun _ _ _ _ _ _ _=>trivial)⟩
 | rx aK =>
  simp only[s5,dB,dF] at h;obtain⟨rfl,rfl⟩:=h;obtain⟨h1,h2⟩:rB a9 row aK:=bo _ (by simp);refine⟨h1,fun k cl eV=> ?_⟩;rw[lX] at eV
  cases oC:aK[k]? with
  | none=>rw[oC] at eV;simp at eV
  | some lR =>
   rw[oC,dx] at eV;split at eV
   ·simp at eV
   rename_i dm;simp only[dB] at eV;subst eV;have ez:k<row.length:=(by have:=gm oC;omega);have aX:=dz ez;obtain⟨q1,q2,bN,cx,d7⟩:=h2 k _ _ aX oC;have an:d6 (some row) k=some row[k]:=(by rw[lX,aX,dx,dA (by rw[<- q2];exact dm)]);refine⟨_,an,q1,.inl q2,bN,cx,fun j x dc U eC=> ?_⟩;have gH:=er.obj r (lF k) _ (d4 k _ an)
   cases af:aE r (lF k) with
   | none=>rw[af] at gH;simp only[ke] at gH;rw[gH] at U;simp at U
   | some wQ =>
    obtain⟨b,m⟩:=wQ;rw[af] at gH;obtain⟨c,fl,f1,f2,f3,f4⟩:=gH;obtain⟨u,ku,nf,iA⟩:=f4 j x U;rcases d7 j x dc U eC with ⟨rfl,aS⟩|⟨r2,jt,bL,len,Aj,i2,rfl,hm,rfl⟩|rfl|⟨r2,cp,X3,h2,Aj,kc,rfl,hm,rfl⟩
    ·exact .pure (iA.C9 aS) trivial
    ·exact .bu bL len hm (by cases iA<;>assumption)
    ·exact .dead _
    exact .j9 h2 hm
 | drop =>
  simp only[s5,dB,dF] at h;obtain⟨rfl,rfl⟩:=h;refine⟨by simp,fun k o an=> ?_⟩;rw[lX,dK] at an;cases aX:row[k]? <;> simp[aX,tU] at an
 | box l =>
  match row,h with
  | [o],h =>
   simp only[s5] at h;split at h;rotate_left
   ·simp at h
   rename_i c i5;split at h;rotate_left
   ·simp at h
   rename_i eQ o9 aZ;simp only[dB,dF] at h;obtain⟨rfl,rfl⟩:=h;refine⟨rfl,fun k p af=> ?_⟩;rw[nR] at af;split at af;rotate_left
   ·simp at af
   rename_i wx;obtain⟨rfl,oE⟩:=wx;simp only[dB] at af;subst af;have h0:d6 (some [o]) 0=some o:=(by rw[nR];simpa using oE);refine⟨o,h0,?_⟩;have eV:s.aj r (lF 0)=some o:=d4 0 o h0;have gH:=er.obj r (lF 0) o eV
   cases lZ:aE r (lF 0) with
   | none=>rw[lZ] at gH;simp only[ke] at gH;rw[i5] at gH;simp at gH
   | some q =>
    obtain⟨b,m⟩:=q;rw[lZ] at gH;obtain⟨cH,fl,g1,g2,g3,g4⟩:=gH;have Oc:c.length=o.sz:=g3 c (by rw[i5];simp);have kR:o.es.flatten=c:=(by rw[i5];simp);obtain⟨e1,e2⟩:=Fw (vs:=(List.range c.length).map fun j=>(cH[j]?).getD undef) er H (xB _) aZ bo (fun _ _=>trivial) (by simp) (by intro j y u aV hu;have aq:=gm aV;rw[dK,List.getElem?_range aq] at hu;simp only[dR,dB] at hu;obtain⟨mT,ku,-,iA⟩:=g4 j y (by rw[kR];exact aV);rw[ku] at hu;simp at hu;subst hu;exact iA);refine⟨rfl,.inl rfl,by simp[i5],by simp;omega,fun j x dc U eC=> ?_⟩;rw[kR] at U;simp only[aof,List.flatten_nil,List.append_nil] at eC;exact e2 j x dc U eC
  | [],h=>simp[s5] at h
  | _::_::_,h=>simp[s5] at h
theorem M0 (er:jE g s aE w){a9:ic}{cm:Nat->Option Nat}(H:ol s a9 cm me): ∀(l:List Nat) (d5:List jJ) (T:List (List a1)) (aj:List Prop),
 v8 s.aY cm a9 l d5=some (T,aj)->(∀p∈aj,p)->T.length=l.length/\ ∀(j:Nat) e3 r,T[j]? = some e3->l[j]? = some r-> ∃row,s.aY r=some row/\e3.length=row.length /\
  ∀(k:Nat) cl,d6 (some e3) k=some cl-> ∃o,d6 (some row) k=some o/\qd s a9 me nJ o cl
 | [],[],T,aj,h,_=>by simp[v8] at h;obtain⟨rfl,rfl⟩:=h;exact⟨rfl,fun j e3 r aq=>by simp at aq⟩
 | r::l,c::d5,T,aj,h,bo=>by
  simp only[v8] at h;split at h
  ·rename_i row d4
   split at h
   ·rename_i aB bR oM aL h1 h2
    simp only[dB,dF] at h;obtain⟨rfl,rfl⟩:=h;obtain⟨e1,e2⟩:=M0 er H l d5 oM aL h2 (fun p af=>bo p (by simp[af]));have f2:=MZ (lF:=id) er H (fun k o an=>by unfold S.aj;rw[d4];exact an) h1 (fun p af=>bo p (by simp[af]));refine⟨by simp[e1],fun j e3 q aq a0=> ?_⟩
    cases j with
    | zero=>simp at aq a0;subst aq;subst a0;exact⟨row,d4,f2.1,f2.2⟩
    | succ j=>simp at aq a0;exact e2 j e3 q aq a0
   simp at h
  simp at h
 | [],_::_,_,_,h,_=>by simp[v8] at h
 | _::_,[],_,_,h,_=>by simp[v8] at h
theorem Vs (h:c7 g s aE a w){a9:ic}{cm:Nat->Option Nat}(H:ol s a9 cm me): ∀(l:List (Nat×mQ)) (env:List (Nat×aC)) (aj:List Prop),
 Gb s.aY cm a9 s.E l=some (env,aj)->(∀p∈aj,p)-> ∀t,je s a9 me nJ (s.E t) (DC env t)
 | [],env,aj,ai,_=>by simp[Gb] at ai;obtain⟨rfl,rfl⟩:=ai;intro t;exact .dead _
 | (u,c)::l,env,aj,ai,bo=>by
  simp only[Gb] at ai;split at ai
  ·rename_i v bR Oe aL h1 h2
   simp only[dB,dF] at ai;obtain⟨rfl,rfl⟩:=ai;have ih:=Vs h H l Oe aL h2 (fun p af=>bo p (by simp[af]));intro t;unfold DC;split
   ·rename_i e;subst e;exact FC h.tojE H (xB _) h1 (fun p af=>bo p (by simp[af])) trivial (h.env t)
   exact ih t
  simp at ai
theorem y2 {l:List Nat}{j i r k:Nat}:oG l j i=some (r,k)↔l[j]? = some r/\i=k:=by unfold oG;cases l[j]? <;> simp
theorem JL {a9:List Nat}(aS:a9.Nodup):ol s (oG a9) (cu a9) me :=
 ⟨fun _ _ h _=>y2.2 ⟨Ui h,rfl⟩,fun _ ai _ _ _ _ _ _ hm=>by rw[Uj aS (y2.1 hm).1] at ai;simp at ai⟩
theorem WC {a9:List Nat} (hnd:a9.Nodup) {T:List (List a1)} (e1:T.length=a9.length) (e2 : ∀(j:Nat) e3 r,T[j]? = some e3->a9[j]? = some r-> ∃row,s.aY r=some row/\e3.length=row.length /\
 ∀(k:Nat) cl,d6 (some e3) k=some cl-> ∃o,d6 (some row) k=some o/\qd s (oG a9) me nJ o cl):sj s (oG a9) me nJ (fun j=>T[j]?):=by
 refine⟨?_,?_,?_⟩
 ·intro j i js fs p e fb;obtain⟨r,k⟩:=p;obtain⟨hk,rfl⟩:=y2.1 e;obtain⟨hq,rfl⟩:=y2.1 fb;exact⟨(List.getElem?_inj (gm hk) hnd).1 (hk.trans hq.symm),rfl⟩
 ·intro j i cl eV
  have eV:d6 (T[j]?) i=some cl:=eV
  cases aq:T[j]? with
  | none=>rw[aq] at eV;simp[d6] at eV
  | some e3 =>
   rw[aq] at eV;have ez:j<a9.length:=(by have:=gm aq;omega);have a0:=dz ez;obtain⟨row,f1,-,f2⟩:=e2 j e3 _ aq a0;obtain⟨o,g1,g2⟩:=f2 i cl eV;exact⟨_,i,o,y2.2 ⟨a0,rfl⟩,by unfold S.aj;rw[f1];exact g1,g2⟩
 intro j i r k e hu;obtain⟨hk,rfl⟩:=y2.1 e;have ez:j<T.length:=by have:=gm hk;omega
 obtain⟨row,f1,f2,-⟩:=e2 j _ r (dz ez) hk;show i<((T[j]?).getD []).length;rw[dz ez];show i<T[j].length;rw[f2];simpa [S.bd,f1] using hu
theorem Vt {a9:List Nat}{g:G}(er:jE g s aE w)(uf:Gc a9 g.m=true): ∀j k,g.qM j k->oG a9 j k=some (j,k):=by intro j k aq;unfold Gc at uf;have:=List.all_eq_true.1 uf j (List.mem_range.2 (er.low j k aq));exact y2.2 ⟨by simpa using this,rfl⟩
theorem agL (h:c7 g s aE a w){a9:List Nat}{d5:List jJ}{pK:List (Nat×mQ)}{b2:S}{n:Nat}{aj:List Prop}(ai:JK g.m s a9 d5 pK=some (b2,n,aj))(bo:∀p∈aj,p):
 b2.l9 n/\c7 g b2 (k2 aE (oG a9)) a w:=by
 unfold JK at ai;split at ai
 ·rename_i aZ
  simp only[dQ,decide_eq_true_eq] at aZ;obtain⟨hnd,uf⟩:=aZ;split at ai
  ·rename_i T bR env aL h1 h2;simp only[dB,dF] at ai;obtain⟨rfl,rfl,rfl⟩:=ai;refine⟨yU _ _,?_⟩;obtain⟨e1,e2⟩:=M0 h.tojE (JL hnd) a9 d5 T bR h1 (fun p af=>bo p (by simp[af]));refine h.V0 (a9:=oG a9) (q:=nJ) (WC hnd e1 e2) (Vs h (JL hnd) pK env aL h2 (fun p af=>bo p (by simp[af]))) (Vt h.tojE uf)
  simp at ai
 simp at ai
def iW (l:List n0):ic:=fun j i=>match l[j]? with
 | some eX=>if i<eX.bC.length then eX.bC[i]? else (match eX.lm with
  | some (r,n)=>some (r,i-eX.bC.length+n)
  | none=>none)
 | none=>none
def wi (n:Nat):List n0->Nat->Option Nat
 | [],_=>none
 | eX::l,r=>if eX={bC:=[],lm:=some (r,0)} then some n else wi (n+1) l r
def xl (r k:Nat)(eX:n0):Bool:=eX.bC.contains (r,k) || (match eX.lm with|some (q,n)=>q == r && decide (n<=k)|none=>false)
def Ny (eX:n0):Bool:=decide eX.bC.Nodup && eX.bC.all fun p=>match eX.lm with|some (q,n)=> !(q == p.1 && decide (n<=p.2))|none=>true
def I3 (a b:n0):Bool:=(a.bC.all fun p=> !xl p.1 p.2 b) && (b.bC.all fun p=> !xl p.1 p.2 a) && (match a.lm,b.lm with|some (q,_),some (jd,_)=> !(q == jd)|_,_=>true)
def F0:List n0->Bool
 | []=>true
 | a::l=>Ny a && l.all (I3 a) && F0 l
def WD (l:List n0)(m:Nat):Bool:=(List.range m).all fun j=>l[j]? == some {bC:=[],lm:=some (j,0)}
def zr (aY:Nat->Option (List a1))(cm:Nat->Option Nat)(a9:ic):List (Nat×Nat)->List jJ->Option (List a1×List Prop)
 | [],[]=>some ([],[])
 | (r,k)::l,c::d5=>match d6 (aY r) k with
  | some o=>match s5 aY cm a9 mu c [o],zr aY cm a9 l d5 with
   | some ([cl],bR),some (T,aL)=>some (cl::T,bR++aL)
   | _,_=>none
  | none=>none
 | _,_=>none
def Db (aY:Nat->Option (List a1))(cm:Nat->Option Nat)(a9:ic):Option (Nat×Nat)->Option jJ->Option (List a1×List Prop)
 | none,none=>some ([],[])
 | some (r,n),some c=>match aY r with
  | some row=>s5 aY cm a9 mu c (row.drop n)
  | none=>none
 | _,_=>none
def zs (aY:Nat->Option (List a1))(cm:Nat->Option Nat)(a9:ic):List n0->List (List jJ×Option jJ)->Option (List (List a1)×List Prop)
 | [],[]=>some ([],[])
 | eX::l,(PE,Y5)::d5=>match zr aY cm a9 eX.bC PE,Db aY cm a9 eX.lm Y5,zs aY cm a9 l d5 with
  | some (a,bR),some (b,aL),some (T,eH)=>some ((a++b)::T,bR++aL++eH)
  | _,_,_=>none
 | _,_=>none
def F1 (aY:Nat->Option (List a1))(cm:Nat->Option Nat)(a9:ic)(E:Nat->aC):List (Nat×mQ)->Option (List (Nat×aC)×List Prop)
 | []=>some ([],[])
 | (t,c)::l=>match pq aY cm a9 mu c (E t),F1 aY cm a9 E l with
  | some (v,bR),some (env,aL)=>some ((t,v)::env,bR++aL)
  | _,_=>none
def Jy (m:Nat)(s:S)(l:List n0)(d5:List (List jJ×Option jJ))(pK:List (Nat×mQ)):Option (S×Nat×List Prop) :=
 if F0 l && WD l m then
  match zs s.aY (wi 0 l) (iW l) l d5,F1 s.aY (wi 0 l) (iW l) s.E pK with
  | some (T,bR),some (env,aL)=>some (dj env T,T.length,bR++aL)
  | _,_=>none
 else none
theorem Nz {l:List n0}{j i r k:Nat}(h:iW l j i=some (r,k)): ∃eX,l[j]? = some eX/\xl r k eX=true/\(if i<eX.bC.length then eX.bC[i]? = some (r,k) else ∃n,eX.lm=some (r,n)/\k=i-eX.bC.length+n):=by
 unfold iW at h
 cases aq:l[j]? with
 | none=>rw[aq] at h;simp at h
 | some eX =>
  rw[aq] at h;simp only at h;refine⟨eX,rfl,?_⟩;split at h
  ·rename_i ez;rw[dw ez];exact⟨by unfold xl;simp[dH h],h⟩
  rename_i ez;rw[dA ez];split at h
  ·rename_i fA n cj;simp only[dB,dF] at h;obtain⟨rfl,rfl⟩:=h;exact⟨by unfold xl;simp[cj],n,cj,rfl⟩
  simp at h
theorem UU : ∀ {l:List n0},F0 l=true->(∀(j:Nat) a,l[j]? = some a->Ny a=true)/\ ∀(i j:Nat) a b,i<j->l[i]? = some a->l[j]? = some b->I3 a b=true
 | [],_=>⟨fun j a h=>by simp at h,fun i j a b _ h=>by simp at h⟩
 | c::l,h=>by
  simp only[F0,dQ] at h;obtain⟨⟨h1,h2⟩,J⟩:=h;obtain⟨e1,e2⟩:=UU J;refine⟨fun j a aq=> ?_,fun i j a b sk bF aW=> ?_⟩
  ·cases j with
   | zero=>simp at aq;subst aq;exact h1
   | succ j=>exact e1 j a (by simpa using aq)
  cases j with
  | zero=>omega
  | succ j =>
   simp at aW
   cases i with
   | zero=>simp at bF;subst bF;exact List.all_eq_true.1 h2 b (dH aW)
   | succ i=>exact e2 i j a b (by omega) (by simpa using bF) aW
theorem TW {a b:n0}{r k:Nat}(h:I3 a b=true)(bF:xl r k a=true)(aW:xl r k b=true):False:=by
 simp only[I3,dQ,List.all_eq_true] at h;obtain⟨⟨h1,h2⟩,J⟩:=h;have Ya:=bF;have o6:=aW;simp only[xl,Bool.or_eq_true,List.contains_iff_mem] at bF aW;rcases bF with bF|bF
 ·have:=h1 _ bF;simp[o6] at this
 rcases aW with aW|aW
 ·have:=h2 _ aW;simp[Ya] at this
 cases e1:a.lm with
 | none=>rw[e1] at bF;simp at bF
 | some p =>
  obtain⟨q,n⟩:=p
  cases e2:b.lm with
  | none=>rw[e2] at aW;simp at aW
  | some lR =>
   obtain⟨jd,oL⟩:=lR;rw[e1] at bF;rw[e2] at aW;rw[e1,e2] at J;simp at bF aW J;exact J (bF.1.trans aW.1.symm)
theorem ahD {l:List n0}(aT:F0 l=true): ∀j i js fs p,iW l j i=some p->iW l js fs=some p->j=js/\i=fs:=by
 intro j i js fs p h c5;obtain⟨r,k⟩:=p;obtain⟨eX,hk,hq,bx⟩:=Nz h;obtain⟨Kn,i9,j1,rH⟩:=Nz c5;obtain⟨e1,e2⟩:=UU aT
 have aq:j=js:=by
  rcases Nat.lt_trichotomy j js with e|e|e
  ·exact(TW (e2 j js eX Kn e hk i9) hq j1).elim
  ·exact e
  exact(TW (e2 js j Kn eX e i9 hk) j1 hq).elim
 subst aq;rw[hk] at i9;simp at i9;subst i9;refine⟨rfl,?_⟩;have h1:=e1 j eX hk;simp only[Ny,dQ,decide_eq_true_eq,List.all_eq_true] at h1;obtain⟨n1,n2⟩:=h1;split at bx<;>split at rH
 ·exact(List.getElem?_inj (by assumption) n1).1 (bx.trans rH.symm)
 ·obtain⟨n,t1,t2⟩:=rH;have:=n2 _ (dH bx);rw[t1] at this;simp at this;omega
 ·obtain⟨n,t1,t2⟩:=bx;have:=n2 _ (dH rH);rw[t1] at this;simp at this;omega
 obtain⟨n,t1,t2⟩:=bx;obtain⟨oL,Yb,anh⟩:=rH;rw[t1] at Yb;simp at Yb;omega
theorem UW : ∀ {l:List n0} {n r j:Nat},wi n l r=some j->n<=j/\l[j-n]? = some {bC:=[],lm:=some (r,0)}
 | [],_,_,_,h=>by simp[wi] at h
 | eX::l,n,r,j,h=>by
  simp only[wi] at h;split at h
  ·rename_i e;simp at h;subst h;exact⟨dE _,by simp[e]⟩
  obtain⟨h1,h2⟩:=UW h;exact⟨by omega,by rw[show j-n=(j-(n+1))+1 by omega,List.getElem?_cons_succ];exact h2⟩
theorem XB (l:List n0):ol s (iW l) (wi 0 l) mu:=by refine⟨fun r j aq k=> ?_,fun _ _ _ _ _ bF=>by simp[mu] at bF⟩;obtain⟨-,h2⟩:=UW aq;simp only[iW,show l[j]? = some {bC:=[],lm:=some (r,0)} by simpa using h2];simp
theorem Vu (er:jE g s aE w){a9:ic}{cm:Nat->Option Nat}(H:ol s a9 cm mu): ∀(l:List (Nat×Nat)) (d5:List jJ) (T:List a1) (aj:List Prop),
 zr s.aY cm a9 l d5=some (T,aj)->(∀p∈aj,p)->T.length=l.length/\ ∀(i:Nat) cl,d6 (some T) i=some cl-> ∃r k o,l[i]? = some (r,k)/\s.aj r k=some o/\qd s a9 mu nJ o cl
 | [],[],T,aj,h,_=>by simp[zr] at h;obtain⟨rfl,rfl⟩:=h;exact⟨rfl,fun i cl an=>by simp[d6] at an⟩
 | (r,k)::l,c::d5,T,aj,h,bo=>by
  simp only[zr] at h;split at h;rotate_left
  ·simp at h
  rename_i o an;split at h;rotate_left
  ·simp at h
  rename_i p bR oM aL h1 h2;simp only[dB,dF] at h;obtain⟨rfl,rfl⟩:=h;obtain⟨e1,e2⟩:=Vu er H l d5 oM aL h2 (fun p af=>bo p (by simp[af]))
  have nD : ∀eD cl,d6 (some [o]) eD=some cl->cl=o:=fun eD cl aX=>by
   rw[nR] at aX;split at aX
   ·simp at aX;exact aX.symm
   simp at aX
  have eV:s.aj r k=some o:=an;obtain⟨f0,f1⟩:=MZ (r:=r) (lF:=fun _=>k) er H (fun eD cl aX=>by rw[nD eD cl aX];exact eV) h1 (fun p af=>bo p (by simp[af]));refine⟨by simp[e1],fun i cl aa=> ?_⟩
  cases i with
  | zero =>
   have aa:d6 (some [p]) 0=some cl:=(by rw[lX] at aa ⊢;simpa using aa);obtain⟨aL,g1,g2⟩:=f1 0 cl aa;rw[nD 0 aL g1] at g2;exact⟨r,k,o,rfl,eV,g2⟩
  | succ i =>
   have aa:d6 (some oM) i=some cl:=(by rw[lX] at aa ⊢;simpa using aa);obtain⟨fA,eD,aL,g1,g2,g3⟩:=e2 i cl aa;exact⟨fA,eD,aL,by simpa using g1,g2,g3⟩
 | [],_::_,_,_,h,_=>by simp[zr] at h
 | _::_,[],_,_,h,_=>by simp[zr] at h
theorem agM (er:jE g s aE w){a9:ic}{cm:Nat->Option Nat}(H:ol s a9 cm mu){lm:Option (Nat×Nat)}{d5:Option jJ}{T:List a1}{aj:List Prop}
 (h:Db s.aY cm a9 lm d5=some (T,aj)) (bo : ∀p∈aj,p):(∀r n k,lm=some (r,n)->s.bd r (k+n)->k<T.length) /\
   ∀(i:Nat) cl,d6 (some T) i=some cl-> ∃r n o,lm=some (r,n)/\s.aj r (i+n)=some o/\qd s a9 mu nJ o cl:=by
 cases lm with
 | none =>
  cases d5 with
  | none =>
   simp[Db] at h;obtain⟨rfl,rfl⟩:=h;exact⟨fun r n k e=>by simp at e,fun i cl an=>by simp[d6] at an⟩
  | some c=>simp[Db] at h
 | some p =>
  obtain⟨r,n⟩:=p
  cases d5 with
  | none=>simp[Db] at h
  | some c =>
   simp only[Db] at h;split at h
   ·rename_i row d4
    have bC : ∀k o,d6 (some (row.drop n)) k=some o->s.aj r (k+n)=some o:=fun k o an=>(by unfold S.aj;rw[d4,lX];rw[lX,aoo] at an;rw[Nat.add_comm];exact an);obtain⟨f0,f1⟩:=MZ (r:=r) (lF:=fun k=>k+n) er H bC h bo;refine⟨fun fA oL k e aX=> ?_,fun i cl an=> ?_⟩
    ·simp only[dB,dF] at e;obtain⟨rfl,rfl⟩:=e;rw[f0,List.length_drop];simp[S.bd,d4] at aX;omega
    obtain⟨o,g1,g2⟩:=f1 i cl an;exact⟨r,n,o,rfl,bC i o g1,g2⟩
   simp at h
theorem aey {a b:List a1}{i:Nat}:d6 (some (a++b)) i=if i<a.length then d6 (some a) i else d6 (some b) (i-a.length):=by rw[lX,lX,lX,List.getElem?_append];split<;>rfl
theorem Vv (er:jE g s aE w){a9:ic}{cm:Nat->Option Nat}(H:ol s a9 cm mu): ∀(l:List n0) (d5:List (List jJ×Option jJ)) (T:List (List a1)) (aj:List Prop),
 zs s.aY cm a9 l d5=some (T,aj)->(∀p∈aj,p)->T.length=l.length/\ ∀(j:Nat) e3 eX,T[j]? = some e3->l[j]? = some eX ->
  (eX.bC.length<=e3.length)/\(∀r n k,eX.lm=some (r,n)->s.bd r (k+n)->k+eX.bC.length<e3.length) /\
  ∀(i:Nat) cl,d6 (some e3) i=some cl-> ∃r k o,(if i<eX.bC.length then eX.bC[i]? = some (r,k) else ∃n,eX.lm=some (r,n)/\k=i-eX.bC.length+n)/\s.aj r k=some o/\qd s a9 mu nJ o cl
 | [],[],T,aj,h,_=>by simp[zs] at h;obtain⟨rfl,rfl⟩:=h;exact⟨rfl,fun j e3 eX aq=>by simp at aq⟩
 | eX::l,(PE,Y5)::d5,T,aj,h,bo=>by
  simp only[zs] at h;split at h;rotate_left
  ·simp at h
  rename_i a bR b aL oM eH h1 h2 J;simp only[dB,dF] at h;obtain⟨rfl,rfl⟩:=h;obtain⟨e1,e2⟩:=Vv er H l d5 oM eH J (fun p af=>bo p (by simp[af]));obtain⟨f1,f2⟩:=Vu er H eX.bC PE a bR h1 (fun p af=>bo p (by simp[af]));obtain⟨g1,g2⟩:=agM er H h2 (fun p af=>bo p (by simp[af]));refine⟨by simp[e1],fun j e3 Kn aq sl=> ?_⟩
  cases j with
  | zero =>
   simp at aq sl;subst aq;subst sl;refine⟨by simp[f1],fun r n k e aX=> ?_,fun i cl an=> ?_⟩
   ·have:=g1 r n k e aX;simp[f1];omega
   rw[aey,f1] at an;split at an
   ·rename_i ez;obtain⟨r,k,o,q1,q2,bN⟩:=f2 i cl an;exact⟨r,k,o,by rw[dw ez];exact q1,q2,bN⟩
   rename_i ez;obtain⟨r,n,o,q1,q2,bN⟩:=g2 _ cl an;exact⟨r,_,o,by rw[dA ez];exact⟨n,q1,rfl⟩,q2,bN⟩
  | succ j=>simp at aq sl;exact e2 j e3 Kn aq sl
 | [],_::_,_,_,h,_=>by simp[zs] at h
 | _::_,[],_,_,h,_=>by simp[zs] at h
theorem UX (h:c7 g s aE a w){a9:ic}{cm:Nat->Option Nat}(H:ol s a9 cm mu): ∀(l:List (Nat×mQ)) (env:List (Nat×aC)) (aj:List Prop),
 F1 s.aY cm a9 s.E l=some (env,aj)->(∀p∈aj,p)-> ∀t,je s a9 mu nJ (s.E t) (DC env t)
 | [],env,aj,ai,_=>by simp[F1] at ai;obtain⟨rfl,rfl⟩:=ai;intro t;exact .dead _
 | (u,c)::l,env,aj,ai,bo=>by
  simp only[F1] at ai;split at ai
  ·rename_i v bR Oe aL h1 h2
   simp only[dB,dF] at ai;obtain⟨rfl,rfl⟩:=ai;have ih:=UX h H l Oe aL h2 (fun p af=>bo p (by simp[af]));intro t;unfold DC;split
   ·rename_i e;subst e;exact FC h.tojE H (xB _) h1 (fun p af=>bo p (by simp[af])) trivial (h.env t)
   exact ih t
  simp at ai
theorem je.wide {a9:ic}{bO Yc:hp->Bool}{q:aC->Prop}(h:∀k,bO k=true->Yc k=true){x dc:aC}(bG:je s a9 bO q x dc):je s a9 Yc q x dc:=by
 induction bG with
 | dead x=>exact .dead x
 | pure af a0=>exact .pure af a0
 | e8 sz=>exact .e8 sz
 | jR sz=>exact .jR sz
 | JG sz=>exact .JG sz
 | gk h ih=>exact .gk ih
 | ref i off hm hu=>exact .ref i off hm hu
 | bu bL len hm hu=>exact .bu bL len hm hu
 | ou r c sz=>exact .ou r c sz
 | py h ih=>exact .py ih
 | j9 h hm=>exact .j9 h hm
 | fO i off an bF ai dd af hle aT gX ih=>exact .fO i off an (h _ bF) ai dd af hle aT ih
 | isl an bF ai iE af hle aT gX ih=>exact .isl an (h _ bF) ai iE af hle aT ih
 | agg aT gX ih=>exact .agg aT ih
 | dg aT gX ih=>exact .dg aT ih
 | fn aT gX ih=>exact .fn aT ih
theorem afK (h:c7 g s aE a w){l:List n0}{d5:List (List jJ×Option jJ)}{pK:List (Nat×mQ)}{b2:S}{n:Nat}{aj:List Prop}(ai:Jy g.m s l d5 pK=some (b2,n,aj))(bo:∀p∈aj,p):
 b2.l9 n/\c7 g b2 (k2 aE (iW l)) a w:=by
 unfold Jy at ai;split at ai;rotate_left
 ·simp at ai
 rename_i aZ;simp only[dQ] at aZ;obtain⟨lK,uf⟩:=aZ;split at ai;rotate_left
 ·simp at ai
 rename_i T bR env aL h1 h2;simp only[dB,dF] at ai;obtain⟨rfl,rfl,rfl⟩:=ai;refine⟨yU _ _,?_⟩;obtain⟨e1,e2⟩:=Vv h.tojE (XB l) l d5 T bR h1 (fun p af=>bo p (by simp[af]));have eB:=UX h (XB l) pK env aL h2 (fun p af=>bo p (by simp[af]));refine h.V0 (a9:=iW l) (q:=nJ) ⟨ahD lK,?_,?_⟩ (fun t=>(eB t).wide fun _ bF=>by simp[mu] at bF) ?_
 ·intro j i cl eV
  have eV:d6 (T[j]?) i=some cl:=eV
  cases aq:T[j]? with
  | none=>rw[aq] at eV;simp[d6] at eV
  | some e3 =>
   rw[aq] at eV;have ez:j<l.length:=(by have:=gm aq;omega);have a0:=dz ez;obtain⟨r,k,o,g1,g2,g3⟩:=(e2 j e3 _ aq a0).2.2 i cl eV;refine⟨r,k,o,?_,g2,⟨g3.sz,g3.cS,g3.len,g3.each,fun j x dc U eC=>(g3.at_ j x dc U eC).wide fun _ bF=>by simp[mu] at bF⟩⟩;simp only[iW,a0];split at g1
   ·rename_i aT;rw[dw aT];exact g1
   rename_i aT;rw[dA aT];obtain⟨n,t1,t2⟩:=g1;rw[t1,t2]
 ·intro j i r k e hu
  obtain⟨eX,hk,hq,bx⟩:=Nz e;have ez:j<T.length:=(by have:=gm hk;omega);obtain⟨i9,j1,-⟩:=e2 j _ eX (dz ez) hk;show i<((T[j]?).getD []).length;rw[dz ez];show i<T[j].length;split at bx
  ·omega
  rename_i aT;obtain⟨n,t1,t2⟩:=bx;have:=j1 r n (i-eX.bC.length) t1 (by rw[<- t2];exact hu);omega
 intro j k aq;unfold WD at uf;have:=List.all_eq_true.1 uf j (List.mem_range.2 (h.low j k aq));simp only[beq_iff_eq] at this;simp only[iW,this];simp
theorem c7.more (h:c7 g s aE a w){a5:Nat}{row:List a1}(fI:s.aY a5=none)(d4:∀o∈row,o.es=[]):
 ∃bX,(∀k,bX a5 k=none)/\c7 g (s.setRow a5 row) bX a w:=by
 let s2:=s.setRow a5 row
 let bX:gw:=fun q k=>if q=a5 then none else aE q k
 have dd : ∀q k,s.bd q k->q≠a5:=by rintro q k a0 rfl;exact Ca fI k a0
 have da : ∀q,q≠a5->s2.aY q=s.aY q:=fun q a0=>by simp[s2,S.setRow,a0]
 have akq:s2.aY a5=some row:=by simp[s2,S.setRow]
 have N8 : ∀k o,s2.aj a5 k=some o->o.es=[]:=by
  intro k o an;unfold S.aj at an;rw[akq] at an;unfold d6 at an;simp only at an;split at an
  ·rename_i cl eV
   split at an
   ·simp at an
   simp at an;subst an;exact d4 _ (dH eV)
  simp at an
 have bo : ∀q k,q≠a5->s2.aj q k=s.aj q k:=fun q k a0=>by unfold S.aj;rw[da q a0]
 have m1 : ∀q k,q≠a5->s2.bj bX q k=s.bj aE q k:=fun q k a0=>by simp[S.bj,bo q k a0,bX,a0]
 have c8:Step g s aE w s2 bX w:=⟨fun q k a0=>by unfold S.bd;rw[da q (dd q k a0)];exact a0,fun q k a0=> .inl (m1 q k (dd q k a0)),fun b aT=>by
  obtain⟨q,k,o,m,h1,h2,J⟩:=aT;by_cases e:q=a5
  ·subst e;simp[bX] at J
  rw[bo q k e] at h1;simp only[bX,dA e] at J;exact .inl ⟨q,k,o,m,h1,h2,J⟩,fun _ _ _=>rfl,dE _⟩
 have er:jE g s2 bX w:=by
  refine⟨?_,?_,?_,h.ik,h.mlt,h.o5,?_,h.low⟩
  ·intro q k o an
   by_cases e:q=a5
   ·subst e;simp only[bX,if_true,ke];exact N8 k o an
   rw[bo q k e] at an;have:=c8.obj (fun b m _=>rfl) (h.obj q k o an);simpa [bX,e] using this
  ·intro q k o jd eD cl b m aI h1 h2 J ak;have e:q≠a5:=(by rintro rfl;simp[bX] at J);have fb:jd≠a5:=(by rintro rfl;simp[bX] at ak);rw[bo q k e] at h1;rw[bo jd eD fb] at h2;simp only[bX,dA e] at J;simp only[bX,dA fb] at ak;exact h.inj q k o jd eD cl b m aI h1 h2 J ak
  ·intro q k o b m h1 h2;have e:q≠a5:=(by rintro rfl;simp[bX] at h2);rw[bo q k e] at h1;simp only[bX,dA e] at h2;exact h.own q k o b m h1 h2
  intro j k aq;obtain⟨e1,e2⟩:=h.stay j k aq;refine⟨by unfold S.bd;rw[da j (dd j k e1)];exact e1,?_⟩;rw[m1 j k (dd j k e1)];exact e2
 exact⟨bX,fun k=>by simp[bX],{tojE:=er,env:=fun u=>c8.rel (h.env u),defers:=h.defers,k1:=h.k1}⟩
theorem c7.aim (h:c7 g s aE a w){r u6:Nat}{cS:hp}{c eQ:List aC}(d4:s.aY r=some [⟨u6,[c],cS⟩])(aT:eQ.length=c.length)
 (aZ : ∀(j:Nat) x dc,c[j]? = some x->eQ[j]? = some dc-> ∀v,Rel w (s.ok g aE w) s.bd (s.bj aE) x v->Rel w (s.ok g aE w) s.bd (s.bj aE) dc v) :
 c7 g (s.setRow r [⟨u6,[eQ],cS⟩]) aE a w:=by
 let s2:=s.setRow r [⟨u6,[eQ],cS⟩]
 have bo : ∀q k,s2.aj q k=if q=r then (s.aj q k).map (fun o=>{o with es:=[eQ]}) else s.aj q k:=by
  intro q k;show (s.setRow r _).aj q k=_;rw[nj];split
  ·rename_i e;subst e;unfold S.aj;rw[d4,nR,nR];split<;>rfl
  rfl
 have kD:s2.bd=s.bd:=by
  funext q k;show (s.setRow r _).bd q k=_;refine propext ((oR s r _ q k).trans ?_);split
  ·rename_i e;subst e;simp[S.bd,d4]
  rfl
 have m1:s2.bj aE=s.bj aE:=by
  funext q k;unfold S.bj;rw[bo];split
  ·cases s.aj q k<;>rfl
  rfl
 have ug:s2.nz aE=s.nz aE:=by
  funext b;unfold S.nz;refine propext ⟨fun ⟨q,k,o,m,h1,h2,J⟩=> ?_,fun ⟨q,k,o,m,h1,h2,J⟩=> ?_⟩
  ·rw[bo] at h1
   split at h1
   ·rw[dO] at h1;obtain⟨cl,ak,rfl⟩:=h1;exact⟨q,k,cl,m,ak,h2,J⟩
   exact⟨q,k,o,m,h1,h2,J⟩
  by_cases e:q=r
  ·exact⟨q,k,{o with es:=[eQ]},m,by rw[bo,dw e,h1];rfl,h2,J⟩
  exact⟨q,k,o,m,by rw[bo,dA e];exact h1,h2,J⟩
 have lK:s2.ok g aE w=s.ok g aE w:=by funext b;unfold S.ok;rw[ug]
 have er:jE g s2 aE w:=by
  refine⟨?_,?_,?_,h.ik,h.mlt,h.o5,?_,h.low⟩
  ·intro q k o an
   rw[lK,kD,m1];rw[bo] at an;split at an;rotate_left
   ·exact h.obj q k o an
   rename_i e;subst e;rw[dO] at an;obtain⟨cl,ak,rfl⟩:=an;have au:=h.obj _ k cl ak;have aP:cl=⟨u6,[c],cS⟩:=(by unfold S.aj at ak;rw[d4,nR] at ak;split at ak<;>simp at ak;exact ak.symm);subst aP
   cases af:aE q k with
   | none=>rw[af] at au;simp[ke] at au
   | some p =>
    rw[af] at au;obtain⟨alG,fl,g1,g2,g3,g4⟩:=au;refine⟨alG,fl,g1,g2,fun e he=> ?_,fun j x U=> ?_⟩
    ·simp at he;subst he;rw[aT];exact g3 c (by simp)
    simp at U;have aq:=gm U;have kk:=dz (show j<c.length by omega);obtain⟨v,v1,v2,v3⟩:=g4 j c[j] (by simp);exact⟨v,v1,v2,aZ j _ _ kk U v v3⟩
  ·intro q k o jd eD cl b m aI h1 h2 J ak
   have e1 : ∃o,s.aj q k=some o:=by
    rw[bo] at h1;split at h1
    ·rw[dO] at h1;obtain⟨cl,au,-⟩:=h1;exact⟨cl,au⟩
    exact⟨o,h1⟩
   have e2 : ∃o,s.aj jd eD=some o:=by
    rw[bo] at h2;split at h2
    ·rw[dO] at h2;obtain⟨cl,au,-⟩:=h2;exact⟨cl,au⟩
    exact⟨cl,h2⟩
   obtain⟨bR,e1⟩:=e1;obtain⟨aL,e2⟩:=e2;exact h.inj q k bR jd eD aL b m aI e1 e2 J ak
  ·intro q k o b m h1 h2
   rw[bo] at h1;split at h1
   ·rw[dO] at h1;obtain⟨cl,au,-⟩:=h1;exact h.own q k cl b m au h2
   exact h.own q k o b m h1 h2
  intro j k aq;rw[kD,m1];exact h.stay j k aq
 refine {tojE:=er,env:=fun u=> ?_,defers:=h.defers,k1:=h.k1};have:=h.env u;rw[lK,kD,m1];exact this
theorem c7.ai7 (h:c7 g s aE a w){a5 r j u6 sz:Nat}{cS:hp}{c:List aC}(fI:s.aY a5=none)(d4:s.aY r=some [⟨u6,[c],cS⟩])(aq:c[j]? = some .e8):
 ∃bX,c7 g ((s.setRow a5 [⟨sz,[],.live⟩]).setRow r [⟨u6,[c.set j (.bu a5 0 0 0)],cS⟩]) bX a w:=by
 obtain⟨bX,aS,c5⟩:=h.more (row:=[⟨sz,[],.live⟩]) fI (fun o an=>by simp at an;subst an;rfl);have dd:r≠a5:=by rintro rfl;rw[d4] at fI;simp at fI
 refine⟨bX,c5.aim (c:=c) (by simp[S.setRow,dd,d4]) (by simp) (fun i x dc U eC v bf=> ?_)⟩;rw[aog] at eC;split at eC
 ·rename_i e;subst e
  split at eC
  ·simp at eC;subst eC;rw[aq] at U;simp at U;subst U;rw[bf.rV];refine .pk (sz:=sz) (by simp[S.bd,S.setRow]) ?_;unfold S.bj S.aj;rw[show (s.setRow a5 [⟨sz,[],.live⟩]).aY a5=some [⟨sz,[],.live⟩] by simp[S.setRow],nR];simp[aS]
  simp at eC
 rw[U] at eC;simp at eC;subst eC;exact bf
theorem c7.wj (h:c7 g s aE a w){a5 t sz:Nat}(fI:s.aY a5=none)(cj:s.E t = .e8):
 ∃bX,c7 g {E:=fun u=>if u=t then .bu a5 0 0 0 else s.E u,aY:=(s.setRow a5 [⟨sz,[],.live⟩]).aY} bX a w:=by
 obtain⟨bX,aS,c5⟩:=h.more (row:=[⟨sz,[],.live⟩]) fI (fun o an=>by simp at an;subst an;rfl);refine⟨bX,{tojE:=c5.tojE.congr rfl,env:=fun u=> ?_,defers:=c5.defers,k1:=c5.k1}⟩;have e1 : ∀xR:S,xR.aY=(s.setRow a5 [⟨sz,[],.live⟩]).aY->Rel w ((s.setRow a5 [⟨sz,[],.live⟩]).ok g bX w) (s.setRow a5 [⟨sz,[],.live⟩]).bd ((s.setRow a5 [⟨sz,[],.live⟩]).bj bX)=Rel w (xR.ok g bX w) xR.bd (xR.bj bX):=fun xR e=>by rw[FB e,CD e,CE e]
 refine Eq.mp (congrFun (congrFun (e1 {E:=fun u=>if u=t then .bu a5 0 0 0 else s.E u,aY:=(s.setRow a5 [⟨sz,[],.live⟩]).aY} rfl) _) _) ?_;show Rel _ _ _ _ (if u=t then .bu a5 0 0 0 else s.E u) _;split
 ·rename_i e;subst e;have h0:=h.env u;rw[cj] at h0;rw[h0.rV];refine .pk (sz:=sz) (by simp[S.bd,S.setRow]) ?_;unfold S.bj S.aj;rw[show (s.setRow a5 [⟨sz,[],.live⟩]).aY a5=some [⟨sz,[],.live⟩] by simp[S.setRow],nR];simp[aS]
 exact c5.env u
end
def kG (P:Program)(N m:Nat)(c:Code)(e:Exit)(s b2:S):Prop :=
 ∀(g:G) aE a w,g.N=N->g.m=m->c7 g s aE a w->c.wp P (fun fb ew bQ=>fb=e/\ ∃bX,c7 g b2 bX ew bQ) a w
inductive Al where
 | normal
 | exit (id:Nat)
 | ret
def Al.x:Al->Exit
 | .normal=> .normal
 | .exit id=> .exit id
 | .ret=> .ret
inductive bD where
 | al (c9:List (fP×Bool))
 | ab (b:Bool)
 | aU (a9:List Nat) (d5:List jJ) (pK:List (Nat×mQ))
 | xD (l:List n0) (d5:List (List jJ×Option jJ)) (pK:List (Nat×mQ))
 | ka (r:Nat)
 | wj (t sz:Nat)
 | rC (r j sz:Nat)
 | G8
 | sub (e:Al) (env:List (Nat×aC)) (rows:List (List a1))
structure Y6 where
 e:Exit
 s:S
 a5:Nat
 tape:List bD
 f9:List Prop
def nT (m:Nat):List bD->S->Nat->Option (List bD×S×Nat×List Prop)
 | .aU a9 d5 pK::tape,s,a5=>match JK m s a9 d5 pK with
  | some (s1,n1,bR)=>match nT m tape s1 n1 with
   | some (t2,s2,n2,aL)=>some (t2,s2,n2,bR++aL)
   | none=>none
  | none=>none
 | .xD l d5 pK::tape,s,a5=>match Jy m s l d5 pK with
  | some (s1,n1,bR)=>match nT m tape s1 n1 with
   | some (t2,s2,n2,aL)=>some (t2,s2,n2,bR++aL)
   | none=>none
  | none=>none
 | .ka r::tape,s,a5=>match s.aY r with
  | some row=>nT m tape (s.setRow r (nA row)) a5
  | none=>none
 | .wj t sz::tape,s,a5=>match s.E t with
  | .e8=>nT m tape {E:=fun u=>if u=t then .bu a5 0 0 0 else s.E u,aY:=(s.setRow a5 [⟨sz,[],.live⟩]).aY} (a5+1)
  | _=>none
 | .rC r j sz::tape,s,a5=>match s.aY r with
  | some [⟨u6,[c],cS⟩]=>match c[j]? with
   | some .e8=>nT m tape ((s.setRow a5 [⟨sz,[],.live⟩]).setRow r [⟨u6,[c.set j (.bu a5 0 0 0)],cS⟩]) (a5+1)
   | _=>none
  | _=>none
 | .G8::tape,s,a5=>nT m tape (s.setRow a5 []) (a5+1)
 | tape,s,a5=>some (tape,s,a5,[])
def ov (P:Program)(N m:Nat):Code->List bD->S->Nat->Option Y6
 | .skip,tape,s,a5=>some ⟨.normal,s,a5,tape,[]⟩
 | .label _,tape,s,a5=>some ⟨.normal,s,a5,tape,[]⟩
 | .exit id,tape,s,a5=>some ⟨.exit id,s,a5,tape,[]⟩
 | .ret,tape,s,a5=>some ⟨.ret,s,a5,tape,[]⟩
 | .seq x y,tape,s,a5=>match ov P N m x tape s a5 with
  | some ⟨.normal,s1,n1,t1,bR⟩=>match ov P N m y t1 s1 n1 with
   | some ⟨e2,s2,n2,t2,aL⟩=>some ⟨e2,s2,n2,t2,bR++aL⟩
   | none=>none
  | some r=>some r
  | none=>none
 | .block id c,tape,s,a5=>match ov P N m c tape s a5 with
  | some ⟨.exit zX,s1,n1,t1,bR⟩=>some ⟨if zX=id then .normal else .exit zX,s1,n1,t1,bR⟩
  | r=>r
 | .scope c,tape,s,a5=>ov P N m c tape s a5
 | .region _ ops draw,tape,s,a5=>match nT m tape s a5 with
  | some (.al c9::t1,s1,n1,bR)=>match Fx P N ops draw c9 s1 n1 with
   | some (s2,aL)=>some ⟨.normal,s2,n1+ops.size,t1,bR++aL⟩
   | none=>none
  | _=>none
 | .cond x c d,tape,s,a5=>match nT m tape s a5 with
  | some (.sub e env rows::t1,s1,_,bR)=>some ⟨e.x,dj env rows,rows.length,t1,bR++[kG P N m (.cond x c d) e.x s1 (dj env rows)]⟩
  | some (.ab b::t1,s1,n1,bR)=>match fq s1.E x with
   | .b v=>match b with
    | true=>match ov P N m c t1 s1 n1 with
     | some ⟨e2,s2,n2,t2,aL⟩=>some ⟨e2,s2,n2,t2,bR++(v=true)::aL⟩
     | none=>none
    | false=>match ov P N m d t1 s1 n1 with
     | some ⟨e2,s2,n2,t2,aL⟩=>some ⟨e2,s2,n2,t2,bR++(v=false)::aL⟩
     | none=>none
   | _=>none
  | _=>none
 | .loop c,tape,s,a5=>match nT m tape s a5 with
  | some (.sub e env rows::t1,s1,_,bR)=>some ⟨e.x,dj env rows,rows.length,t1,bR++[kG P N m (.loop c) e.x s1 (dj env rows)]⟩
  | _=>none
 | _,_,_,_=>none
section
variable {P:Program} {N m:Nat}
theorem kG.intro {c:Code}{e:Exit}{s b2:S}(h:∀(g:G) aE a w,g.N=N->g.m=m->c7 g s aE a w->c.wp P (fun fb ew bQ=>fb=e/\ ∃bX,c7 g b2 bX ew bQ) a w):kG P N m c e s b2:=h
theorem kG.seq {x y:Code}{e:Exit}{s s1 s2:S}(h1:kG P N m x .normal s s1)(h2:kG P N m y e s1 s2):kG P N m (.seq x y) e s s2:=by intro g aE a w gJ hm ai;refine wp_seq (wp_mono (h1 g aE a w gJ hm ai) fun fb ew bQ a0=> ?_);obtain⟨rfl,bX,i6⟩:=a0;exact h2 g bX ew bQ gJ hm i6
theorem kG.ahE {x y:Code}{e:Exit}{s s1:S}(h1:kG P N m x e s s1)(he:e≠ .normal):kG P N m (.seq x y) e s s1:=by intro g aE a w gJ hm ai;refine wp_seq (wp_mono (h1 g aE a w gJ hm ai) fun fb ew bQ a0=> ?_);obtain⟨rfl,i6⟩:=a0;cases fb<;>first|exact absurd rfl he|exact⟨rfl,i6⟩
theorem kG.ae4 {c:Code}{id zX:Nat}{s s1:S}(h1:kG P N m c (.exit zX) s s1):kG P N m (.block id c) (if zX=id then .normal else .exit zX) s s1:=by
 intro g aE a w gJ hm ai;refine wp_block (wp_mono (h1 g aE a w gJ hm ai) fun fb ew bQ a0=> ?_);obtain⟨rfl,i6⟩:=a0;simp only[Exit.inBlock];split
 ·exact⟨rfl,i6⟩
 exact⟨rfl,i6⟩
theorem kG.block {c:Code}{id:Nat}{e:Exit}{s s1:S}(h1:kG P N m c e s s1)(he:∀i,e≠ .exit i):kG P N m (.block id c) e s s1:=by intro g aE a w gJ hm ai;refine wp_block (wp_mono (h1 g aE a w gJ hm ai) fun fb ew bQ a0=> ?_);obtain⟨rfl,i6⟩:=a0;cases fb<;>first|exact absurd rfl (he _)|exact⟨rfl,i6⟩
theorem kG.scope {c:Code}{e:Exit}{s s1:S}(h1:kG P N m c e s s1)(he:∀l,e≠ .goto l):kG P N m (.scope c) e s s1:=by intro g aE a w gJ hm ai;refine wp_scope_straight (wp_mono (h1 g aE a w gJ hm ai) fun fb ew bQ a0=> ?_);obtain⟨rfl,i6⟩:=a0;cases fb<;>first|exact absurd rfl (he _)|exact⟨rfl,i6⟩
theorem TX {ops:Array Oper}: ∀(l:List Oper) (c9:List (fP×Bool)) (s b2:S) (a5:Nat) (aj:List Prop),
 sU P N ops l c9 s a5=some (b2,aj)->s.l9 a5->b2.l9 (a5+l.length)
 | [],[],s,b2,a5,aj,h,cq=>by simp[sU] at h;obtain⟨rfl,rfl⟩:=h;simpa using cq
 | o::l,gz::c9,s,b2,a5,aj,h,cq=>by
  simp only[sU] at h;split at h
  ·rename_i bA ay
   split at h
   ·rename_i s2 G5 h2;simp only[dB,dF] at h;obtain⟨rfl,rfl⟩:=h;have:=TX l c9 (s.aD o bA) s2 (a5+1) G5 h2 (ID ay cq);rw[dI];rw[show a5+(l.length+1)=a5+1+l.length by omega];exact this
   simp at h
  simp at h
 | [],_::_,_,_,_,_,h,_=>by simp[sU] at h
 | _::_,[],_,_,_,_,h,_=>by simp[sU] at h
theorem TY {ops:Array Oper}: ∀(l:List Oper) (c9:List (fP×Bool)) (s b2:S) (a5:Nat) (kK:List Rec),
 sV P N ops l c9 s a5=some (b2,kK)->s.l9 a5->b2.l9 (a5+l.length)
 | [],[],s,b2,a5,aj,h,cq=>by simp[sV] at h;obtain⟨rfl,rfl⟩:=h;simpa using cq
 | o::l,gz::c9,s,b2,a5,aj,h,cq=>by
  simp only[sV] at h;split at h
  ·rename_i bA ay
   split at h
   ·rename_i s2 G5 h2;simp only[dB,dF] at h;obtain⟨rfl,rfl⟩:=h;have:=TY l c9 (s.aD o bA) s2 (a5+1) G5 h2 (ID (Mw ay) cq);rw[dI];rw[show a5+(l.length+1)=a5+1+l.length by omega];exact this
   simp at h
  simp at h
 | [],_::_,_,_,_,_,h,_=>by simp[sV] at h
 | _::_,[],_,_,_,_,h,_=>by simp[sV] at h
theorem adr {ops:Array Oper}{draw:Bool}{c9:List (fP×Bool)}{s b2:S}{a5:Nat}{aj:List Prop}
 (h:Fx P N ops draw c9 s a5=some (b2,aj)) (cq:s.l9 a5):b2.l9 (a5+ops.size):=by
 unfold Fx at h;split at h
 ·split at h
  ·rename_i s2 iJ GH
   split at h
   ·simp only[dB,dF] at h;obtain⟨rfl,rfl⟩:=h;simpa using TY _ _ _ _ _ _ GH cq
   simp at h
  simp at h
 simpa using TX _ _ _ _ _ _ h cq
theorem aez {s:S}{n r:Nat}{row:List a1}(h:s.l9 n)(ai:r<n):(s.setRow r row).l9 n:=by
 intro q a0;have:q≠r:=by omega
 simp[S.setRow,this,h q a0]
theorem Cj : ∀(tape:List bD) (s:S) (a5:Nat) (cw:List bD) (b2:S) (oL:Nat) (aj:List Prop),nT m tape s a5=some (cw,b2,oL,aj)->(∀p∈aj,p)->s.l9 a5 ->
 b2.l9 oL/\ ∀(g:G) aE a w,g.m=m->c7 g s aE a w-> ∃bX,c7 g b2 bX a w:=by
 intro tape
 induction tape with
 | nil =>
  intro s a5 cw b2 oL aj h bo cq;simp[nT] at h;obtain⟨rfl,rfl,rfl,rfl⟩:=h;exact⟨cq,fun g aE a w _ ai=>⟨aE,ai⟩⟩
 | cons x tape ih =>
  intro s a5 cw b2 oL aj h bo cq
  cases x with
  | aU a9 d5 pK =>
   simp only[nT] at h;split at h;rotate_left
   ·simp at h
   rename_i s1 n1 bR h1;split at h;rotate_left
   ·simp at h
   rename_i t2 s2 n2 aL h2;simp only[dB,dF] at h;obtain⟨rfl,rfl,rfl,rfl⟩:=h
   have Gd:s1.l9 n1:=by
    unfold JK at h1;split at h1
    ·split at h1
     ·simp only[dB,dF] at h1;obtain⟨rfl,rfl,rfl⟩:=h1;exact yU _ _
     simp at h1
    simp at h1
   obtain⟨e1,e2⟩:=ih s1 n1 t2 s2 n2 aL h2 (fun p af=>bo p (by simp[af])) Gd;refine⟨e1,fun g aE a w hm ai=> ?_⟩;obtain⟨-,f2⟩:=agL ai (by rw[hm];exact h1) (fun p af=>bo p (by simp[af]));exact e2 g _ a w hm f2
  | xD l d5 pK =>
   simp only[nT] at h;split at h;rotate_left
   ·simp at h
   rename_i s1 n1 bR h1;split at h;rotate_left
   ·simp at h
   rename_i t2 s2 n2 aL h2;simp only[dB,dF] at h;obtain⟨rfl,rfl,rfl,rfl⟩:=h
   have Gd:s1.l9 n1:=by
    unfold Jy at h1;split at h1
    ·split at h1
     ·simp only[dB,dF] at h1;obtain⟨rfl,rfl,rfl⟩:=h1;exact yU _ _
     simp at h1
    simp at h1
   obtain⟨e1,e2⟩:=ih s1 n1 t2 s2 n2 aL h2 (fun p af=>bo p (by simp[af])) Gd;refine⟨e1,fun g aE a w hm ai=> ?_⟩;obtain⟨-,f2⟩:=afK ai (by rw[hm];exact h1) (fun p af=>bo p (by simp[af]));exact e2 g _ a w hm f2
  | ka r =>
   simp only[nT] at h;split at h
   ·rename_i row d4
    have ez:r<a5:=by
     rcases Nat.lt_or_ge r a5 with c5|c5
     ·exact c5
     rw[cq r c5] at d4;simp at d4
    obtain⟨e1,e2⟩:=ih _ a5 cw b2 oL aj h bo (aez cq ez);exact⟨e1,fun g aE a w hm ai=>e2 g aE a w hm (ai.freeze d4)⟩
   simp at h
  | wj t sz =>
   simp only[nT] at h;split at h
   ·rename_i cj;obtain⟨e1,e2⟩:=ih _ (a5+1) cw b2 oL aj h bo (by intro q a0;have:q≠a5:=(by omega);simp[S.setRow,this,cq q (by omega)]);refine⟨e1,fun g aE a w hm ai=> ?_⟩;obtain⟨bX,i6⟩:=ai.wj (sz:=sz) (cq a5 (dE _)) cj;exact e2 g bX a w hm i6
   simp at h
  | rC r j sz =>
   simp only[nT] at h;split at h;rotate_left
   ·simp at h
   rename_i u6 c cS d4;split at h
   ·rename_i aq
    have ez:r<a5:=by
     rcases Nat.lt_or_ge r a5 with c5|c5
     ·exact c5
     rw[cq r c5] at d4;simp at d4
    obtain⟨e1,e2⟩:=ih _ (a5+1) cw b2 oL aj h bo (by intro q a0;have h1:q≠a5:=(by omega);have h2:q≠r:=(by omega);simp[S.setRow,h1,h2,cq q (by omega)]);refine⟨e1,fun g aE a w hm ai=> ?_⟩;obtain⟨bX,i6⟩:=ai.ai7 (sz:=sz) (cq a5 (dE _)) d4 aq;exact e2 g bX a w hm i6
   simp at h
  | G8 =>
   simp only[nT] at h;obtain⟨e1,e2⟩:=ih _ (a5+1) cw b2 oL aj h bo (by intro q a0;have:q≠a5:=(by omega);simp[S.setRow,this,cq q (by omega)]);refine⟨e1,fun g aE a w hm ai=> ?_⟩;obtain⟨bX,-,i6⟩:=ai.more (row:=[]) (cq a5 (dE _)) (by simp);exact e2 g bX a w hm i6
  | al c9=>simp[nT] at h;obtain⟨rfl,rfl,rfl,rfl⟩:=h;exact⟨cq,fun g aE a w _ ai=>⟨aE,ai⟩⟩
  | ab b=>simp[nT] at h;obtain⟨rfl,rfl,rfl,rfl⟩:=h;exact⟨cq,fun g aE a w _ ai=>⟨aE,ai⟩⟩
  | sub e env rows=>simp[nT] at h;obtain⟨rfl,rfl,rfl,rfl⟩:=h;exact⟨cq,fun g aE a w _ ai=>⟨aE,ai⟩⟩
theorem Je {c:Code}{e:Exit}{s b2:S}(h:∀ {Q:Exit->Act->World->Prop} {a w},Q e a w->c.wp P Q a w)(bG:b2=s):kG P N m c e s b2:=by intro g aE a w _ _ ai;exact h ⟨rfl,aE,by rw[bG];exact ai⟩
theorem ae5 (sd:P.follows .mixedOrders=true): ∀(c:Code) (tape:List bD) (s:S) (a5:Nat) (r:Y6),ov P N m c tape s a5=some r->(∀p∈r.f9,p)->s.l9 a5 ->
 (r.s.l9 r.a5/\(∀l,r.e≠ .goto l))/\kG P N m c r.e s r.s:=by
 intro c
 induction c with
 | skip =>
  intro tape s a5 r h bo cq;simp[ov] at h;subst h;exact⟨⟨cq,by simp⟩,Je wp_skip rfl⟩
 | label l =>
  intro tape s a5 r h bo cq;simp[ov] at h;subst h;exact⟨⟨cq,by simp⟩,Je wp_label rfl⟩
 | exit id =>
  intro tape s a5 r h bo cq;simp[ov] at h;subst h;exact⟨⟨cq,by simp⟩,Je wp_exit rfl⟩
 | ret =>
  intro tape s a5 r h bo cq;simp[ov] at h;subst h;exact⟨⟨cq,by simp⟩,Je wp_ret rfl⟩
 | seq x y Yd akr =>
  intro tape s a5 r h bo cq;simp only[ov] at h;split at h
  ·rename_i s1 n1 t1 bR h1
   split at h
   ·rename_i e2 s2 n2 t2 aL h2;simp only[dB] at h;subst h;obtain⟨⟨f1,-⟩,v1⟩:=Yd _ _ _ _ h1 (fun p af=>bo p (by simp[af])) cq;obtain⟨f2,v2⟩:=akr _ _ _ _ h2 (fun p af=>bo p (by simp[af])) f1;exact⟨f2,v1.seq v2⟩
   simp at h
  ·rename_i r1 dd h1;simp only[dB] at h;subst h;obtain⟨f1,v1⟩:=Yd _ _ _ _ h1 bo cq;refine⟨f1,v1.ahE fun he=> ?_⟩;obtain⟨e1,s1,n1,t1,bR⟩:=r1;simp only at he;subst he;exact dd s1 n1 t1 bR rfl
  simp at h
 | block id c ih =>
  intro tape s a5 r h bo cq;simp only[ov] at h;split at h
  ·rename_i zX s1 n1 t1 bR h1;simp only[dB] at h;subst h;obtain⟨⟨f1,f2⟩,v1⟩:=ih _ _ _ _ h1 bo cq;exact⟨⟨f1,by intro l;simp only;split<;>simp⟩,v1.ae4⟩
  rename_i dd;obtain⟨f1,v1⟩:=ih _ _ _ _ h bo cq;refine⟨f1,v1.block fun i he=> ?_⟩;obtain⟨e1,s1,n1,t1,bR⟩:=r;simp only at he;subst he;exact dd i s1 n1 t1 bR h
 | scope c ih =>
  intro tape s a5 r h bo cq;simp only[ov] at h;obtain⟨f1,v1⟩:=ih _ _ _ _ h bo cq;exact⟨f1,v1.scope f1.2⟩
 | region id ops draw =>
  intro tape s a5 r h bo cq;simp only[ov] at h;split at h
  ·rename_i c9 t1 s1 n1 bR h1
   split at h
   ·rename_i s2 aL h2;simp only[dB] at h;subst h;obtain⟨f1,v1⟩:=Cj _ _ _ _ _ _ _ h1 (fun p af=>bo p (by simp[af])) cq;refine⟨⟨adr h2 f1,by simp⟩,?_⟩;intro g aE a w gJ hm ai;obtain⟨mz,jw⟩:=v1 g aE a w hm ai;subst gJ;exact acX sd h2 (fun p af=>bo p (by simp[af])) f1 jw id fun bX ew bQ c5=>⟨rfl,bX,c5⟩
   simp at h
  simp at h
 | cond x c d aks akt =>
  intro tape s a5 r h bo cq;simp only[ov] at h;split at h
  ·rename_i e env rows t1 s1 n1 bR h1;simp only[dB] at h;subst h;obtain⟨f1,v1⟩:=Cj _ _ _ _ _ _ _ h1 (fun p af=>bo p (by simp[af])) cq;have bf:kG P N m (.cond x c d) e.x s1 (dj env rows):=bo _ (by simp);refine⟨⟨yU _ _,by intro l;cases e<;>simp[Al.x]⟩,fun g aE a w gJ hm ai=> ?_⟩;obtain⟨mz,jw⟩:=v1 g aE a w hm ai;exact bf g mz a w gJ hm jw
  ·rename_i b t1 s1 n1 bR h1
   split at h;rotate_left
   ·simp at h
   rename_i v bf;have aZ : ∀(g:G) aE a w,c7 g s1 aE a w->a.eval x = .bool v:=(by intro g aE a w ai;have:=ai.eval x;rw[bf] at this;exact this.xk);split at h
   ·split at h
    ·rename_i e2 s2 n2 t2 aL h2;simp only[dB] at h;subst h;obtain⟨f1,v1⟩:=Cj _ _ _ _ _ _ _ h1 (fun p af=>bo p (by simp[af])) cq;obtain⟨f2,v2⟩:=aks _ _ _ _ h2 (fun p af=>bo p (by simp[af])) f1;have OV:v=true:=bo _ (by simp);refine⟨f2,fun g aE a w gJ hm ai=> ?_⟩;obtain⟨mz,jw⟩:=v1 g aE a w hm ai;exact wp_cond_true (by rw[aZ g mz a w jw,OV]) (v2 g mz a w gJ hm jw)
    simp at h
   split at h
   ·rename_i e2 s2 n2 t2 aL h2;simp only[dB] at h;subst h;obtain⟨f1,v1⟩:=Cj _ _ _ _ _ _ _ h1 (fun p af=>bo p (by simp[af])) cq;obtain⟨f2,v2⟩:=akt _ _ _ _ h2 (fun p af=>bo p (by simp[af])) f1;have OV:v=false:=bo _ (by simp);refine⟨f2,fun g aE a w gJ hm ai=> ?_⟩;obtain⟨mz,jw⟩:=v1 g aE a w hm ai;exact wp_cond_false (by rw[aZ g mz a w jw,OV]) (v2 g mz a w gJ hm jw)
   simp at h
  simp at h
 | loop c ih =>
  intro tape s a5 r h bo cq;simp only[ov] at h;split at h
  ·rename_i e env rows t1 s1 n1 bR h1;simp only[dB] at h;subst h;obtain⟨f1,v1⟩:=Cj _ _ _ _ _ _ _ h1 (fun p af=>bo p (by simp[af])) cq;have bf:kG P N m (.loop c) e.x s1 (dj env rows):=bo _ (by simp);refine⟨⟨yU _ _,by intro l;cases e<;>simp[Al.x]⟩,fun g aE a w gJ hm ai=> ?_⟩;obtain⟨mz,jw⟩:=v1 g aE a w hm ai;exact bf g mz a w gJ hm jw
  simp at h
 | _=>intro tape s a5 r h;simp[ov] at h
def tV (P:Program)(N m:Nat)(c:Code)(e:Exit)(s b2:S):Prop :=
 ∃n,∀(g:G) aE a w,g.N=N->g.m=m->c7 g s aE a w->Code.rounds P c (fun fb ew bQ=>fb=e/\ ∃bX,c7 g b2 bX ew bQ) n a w
theorem tV.aku {c:Code}{e:Exit}{s b2:S}(h:tV P N m c e s b2):kG P N m (.loop c) e s b2:=by obtain⟨n,h⟩:=h;intro g aE a w gJ hm ai;exact wp_loop_rounds n (h g aE a w gJ hm ai)
theorem tV.out {c:Code}{e:Exit}{s b2:S}(h:kG P N m c e s b2)(he:e≠ .normal):tV P N m c e s b2:=by refine⟨1,fun g aE a w gJ hm ai=> ?_⟩;rw[rounds_succ];refine wp_mono (h g aE a w gJ hm ai) fun fb ew bQ a0=> ?_;obtain⟨rfl,i6⟩:=a0;cases fb<;>first|exact absurd rfl he|exact⟨rfl,i6⟩
theorem tV.next {c:Code}{e:Exit}{s s1 b2:S}(h:kG P N m c .normal s s1)(h2:tV P N m c e s1 b2):tV P N m c e s b2:=by obtain⟨n,h2⟩:=h2;refine⟨n+1,fun g aE a w gJ hm ai=> ?_⟩;rw[rounds_succ];refine wp_mono (h g aE a w gJ hm ai) fun fb ew bQ a0=> ?_;obtain⟨rfl,bX,i6⟩:=a0;exact h2 g bX ew bQ gJ hm i6
inductive ch:List Prop->Prop
 | nil:ch []
 | cons {p:Prop} {l:List Prop} (h:p) (t:ch l):ch (p::l)
theorem ch.c {p:Prop}{l:List Prop}(h:p)(t:ch l):ch (p::l):= .cons h t
theorem ch.aD {l m:List Prop}(h:ch l)(k:ch m):ch (l++m):=by
 induction h with
 | nil=>exact k
 | cons h _ ih=>exact .cons h ih
theorem ch.all {l:List Prop}(h:ch l): ∀p∈l,p:=by
 induction h with
 | nil=>intro p af;simp at af
 | cons h t ih =>
  intro q a0;rw[dS] at a0;rcases a0 with rfl|a0
  ·exact h
  exact ih q a0
theorem ch.of : ∀ {l:List Prop},(∀p∈l,p)->ch l
 | [],_=> .nil
 | _::_,h=> .cons (h _ (by simp)) (.of fun p af=>h p (by simp[af]))
def Ko (P:Program)(N m:Nat)(c:Code)(tape:List bD)(s:S)(a5:Nat):Option (Exit×S×List Prop) :=
 match ov P N m c tape s a5 with
 | some ⟨e,s1,n1,t1,bR⟩=>match nT m t1 s1 n1 with
  | some ([],s2,_,aL)=>some (e,s2,bR++aL)
  | _=>none
 | none=>none
theorem UY (sd:P.follows .mixedOrders=true){c:Code}{tape:List bD}{s b2:S}{a5:Nat}{e:Exit}{aj:List Prop}(h:Ko P N m c tape s a5=some (e,b2,aj))(bo:ch aj)(cq:s.l9 a5):
 kG P N m c e s b2:=by
 have bo:=bo.all;unfold Ko at h;split at h
 ·rename_i e1 s1 n1 t1 bR h1
  split at h
  ·rename_i s2 n2 aL h2;simp only[dB,dF] at h;obtain⟨rfl,rfl,rfl⟩:=h;obtain⟨⟨f1,-⟩,v1⟩:=ae5 sd c tape s a5 _ h1 (fun p af=>bo p (by simp[af])) cq;obtain⟨-,v2⟩:=Cj _ _ _ _ _ _ _ h2 (fun p af=>bo p (by simp[af])) f1;intro g aE a w gJ hm ai;refine wp_mono (v1 g aE a w gJ hm ai) fun fb ew bQ a0=> ?_;obtain⟨rfl,bX,i6⟩:=a0;exact⟨rfl,v2 g bX ew bQ hm i6⟩
  simp at h
 simp at h
end
def vR (P:Program)(s:S):ResultVar->Option aC
 | .tmp t=>some (s.E t)
 | .cell t fl=>match s.E t with
  | .ref r k i off=>match d6 (s.aY r) k with
   | some o=>match o.es[i]? with
    | some c=>s0 P fl c off
    | none=>none
   | none=>none
  | _=>none
def Of (P:Program)(s:S):List ResultVar->Option aC
 | []=>some (.dg [])
 | [x]=>vR P s x
 | [x,y]=>match vR P s x,vR P s y with
  | some a,some b=>some (.dg [a,b])
  | _,_=>none
 | [x,y,z]=>match vR P s x,vR P s y,vR P s z with
  | some a,some b,some c=>some (.dg [a,b,c])
  | _,_,_=>none
 | _=>none
def NA (tmps:Array Value):ResultVar->Sem Value
 | .tmp t=>pure (tmps.getD t undef)
 | .cell a t=>do loadVar t (<- asAddr (tmps.getD a undef))
theorem aeA (fn:Func)(tmps:Array Value):results fn tmps=(do
 let vs <- fn.results.mapM (NA tmps)
 pure (if h:vs.size=1 then vs[0] else .tuple vs)):=rfl
def zc (args:List aC)(T:List (List a1)):S:={E:=fun t=>(args[t]?).getD (.dg []),aY:=fun r=>T[r]?}
def Xf:Exit->Bool
 | .normal=>true
 | .ret=>true
 | _=>false
def GJ (P:Program)(f:FuncId)(args:List aC)(T:List (List a1))(tape:List bD)(a9:List Nat)(d5:List jJ)(im:mQ):Option (aC×List (List a1)×List Prop) :=
 match P.funcs[f]? with
 | none=>none
 | some fn=>match fn.body with
  | none=>none
  | some c=>if fn.name == "runtime.NumGoroutine" then none else
   match Ko P fn.ntmps T.length c tape (zc args T) T.length with
   | none=>none
   | some (e,s,bR)=>if Xf e && decide a9.Nodup && Gc a9 T.length then
    match Of P s fn.results.toList with
    | none=>none
    | some r0=>match v8 s.aY (cu a9) (oG a9) a9 d5,pq s.aY (cu a9) (oG a9) me im r0 with
     | some (ir,aL),some (r,eH)=>some (r,ir,bR++aL++eH)
     | _,_=>none
    else none
section
variable {P:Program}
theorem Ck {g:G}{s:S}{aE:gw}{a:Act}{w:World}(h:c7 g s aE a w){x:ResultVar}{r0:aC}(ai:vR P s x=some r0):
 ∃v,(NA a.tmps x).run P w = .ok v w/\Rel w (s.ok g aE w) s.bd (s.bj aE) r0 v:=by
 cases x with
 | tmp t =>
  simp only[vR,dB] at ai;subst ai;exact⟨_,rfl,h.env t⟩
 | cell t fl =>
  simp only[vR] at ai;have U:=h.env t;split at ai;rotate_left
  ·simp at ai
  rename_i r k i off h9;rw[h9] at U;split at ai;rotate_left
  ·simp at ai
  rename_i o an;split at ai
  ·rename_i c aZ
   have eV:s.aj r k=some o:=an;have fL:=h.obj r k o eV;rcases U.y1 (jh eV) with h0|⟨b,m,af,hval⟩
   ·rw[h0] at fL;simp only[ke] at fL;rw[fL] at aZ;simp at aZ
   rw[af] at fL;obtain⟨u,h1,h2⟩:=Ms (P:=P) fL.rd aZ ai;refine⟨u,?_,h2⟩;rw[dG] at h1;simp only[NA,hval,asAddr];simpa [Instr.loadAt,Instr.sureAddr] using h1
  simp at ai
theorem ae6 {g:G}{s:S}{aE:gw}{a:Act}{w:World}(h:c7 g s aE a w){fn:Func}{r0:aC}(ai:Of P s fn.results.toList=some r0):
 ∃v,(results fn a.tmps).run P w = .ok v w/\Rel w (s.ok g aE w) s.bd (s.bj aE) r0 v:=by
 have JW : ∀l,fn.results.toList=l->fn.results=l.toArray:=fun l aT=>by rw[<- aT]
 unfold Of at ai;rw[aeA];split at ai
 ·rename_i aT;simp only[dB] at ai;subst ai;rw[JW _ aT];exact⟨.tuple #[],by simp,.dg [] rfl (by simp)⟩
 ·rename_i x aT;rw[JW _ aT];obtain⟨v,h1,h2⟩:=Ck h ai;exact⟨v,by simp[h1,Sem.run_bind,Result.andThen],h2⟩
 ·rename_i x y aT
  rw[JW _ aT];split at ai
  ·rename_i p q af a0
   simp only[dB] at ai;subst ai;obtain⟨v1,h1,h2⟩:=Ck h af;obtain⟨v2,J,ak⟩:=Ck h a0;refine⟨.tuple #[v1,v2],by simp[h1,J,Sem.run_bind,Result.andThen],.dg [v1,v2] rfl ?_⟩;intro j x v U bf
   match j,U,bf with
   | 0,U,bf=>obtain rfl:=dJ U;obtain rfl:=dJ bf;exact h2
   | 1,U,bf=>obtain rfl:=dJ U;obtain rfl:=dJ bf;exact ak
   | j+2,U,bf=>simp at U
  simp at ai
 ·rename_i x y z aT
  rw[JW _ aT];split at ai
  ·rename_i p q t af a0 cj
   simp only[dB] at ai;subst ai;obtain⟨v1,h1,h2⟩:=Ck h af;obtain⟨v2,J,ak⟩:=Ck h a0;obtain⟨v3,au,aP⟩:=Ck h cj;refine⟨.tuple #[v1,v2,v3],by simp[h1,J,au,Sem.run_bind,Result.andThen],.dg [v1,v2,v3] rfl ?_⟩;intro j x v U bf
   match j,U,bf with
   | 0,U,bf=>obtain rfl:=dJ U;obtain rfl:=dJ bf;exact h2
   | 1,U,bf=>obtain rfl:=dJ U;obtain rfl:=dJ bf;exact ak
   | 2,U,bf=>obtain rfl:=dJ U;obtain rfl:=dJ bf;exact aP
   | j+3,U,bf=>simp at U
  simp at ai
 simp at ai
theorem finish {g:G}{s:S}{aE:gw}{a:Act}{w:World}(h:c7 g s aE a w){a9:List Nat}{d5:List jJ}{im:mQ}{r0 r:aC}{ir:List (List a1)}{aL eH:List Prop}
 (hnd:a9.Nodup) (uf:Gc a9 g.m=true) (h1:v8 s.aY (cu a9) (oG a9) a9 d5=some (ir,aL)) (h2:pq s.aY (cu a9) (oG a9) me im r0=some (r,eH)) (pE : ∀p∈aL,p) (OP : ∀p∈eH,p)
 {v:Value} (bf:Rel w (s.ok g aE w) s.bd (s.bj aE) r0 v) :
 ∃bX,jE g (fT ir) bX w/\Rel w ((fT ir).ok g bX w) (fT ir).bd ((fT ir).bj bX) r v:=by
 obtain⟨e1,e2⟩:=M0 h.tojE (JL hnd) a9 d5 ir aL h1 pE;have zY:je s (oG a9) me nJ r0 r:=FC h.tojE (JL hnd) (xB _) h2 OP trivial bf;have da:sj s (oG a9) me nJ (fT ir).aY:=WC hnd e1 e2;have GB:=Vt h.tojE uf;have hx : ∀b,(fT ir).nz (k2 aE (oG a9)) b->s.nz aE b:=fun b aT=>by obtain⟨q,k,o,m,h1,h2,J,-⟩:=da.live (b2:=fT ir) b aT;exact⟨q,k,o,m,h1,h2,J⟩
 have F8 : ∀j k,g.qM j k->(fT ir).bd j k/\((fT ir).bj (k2 aE (oG a9)) j k=g.t0 j k\/(fT ir).bj (k2 aE (oG a9)) j k=none):=by
  intro j k aq;obtain⟨e1,e2⟩:=h.stay j k aq;refine⟨da.bd j k j k (GB j k aq) e1,?_⟩;rcases da.Ki (b2:=fT ir) (aE:=aE) (GB j k aq) with e|e
  ·rw[e];exact e2
  exact .inr e
 obtain⟨f1,f2⟩:=h.tojE.PB (b2:=fT ir) da h.ik F8 h.low h.mlt h.o5 (fun r k o b m _ an af=>h.own r k o b m an af)
  (fun b aW=>⟨aW.1,aW.2.1,fun aT=>aW.2.2 (hx b aT)⟩)
  (fun q k o b m an _ ai af=>by
    have bo:=h.obj q k o an;rw[af] at bo;obtain⟨c,fl,e1,-⟩:=bo;refine⟨(aom.1 e1).1,?_,fun aT=> ?_⟩
    ·rcases h.own q k o b m an af with e|e
     ·exact .inr (.inl e)
     exact .inr (.inr e)
    obtain⟨fA,eD,cl,aI,f1,f2,f3,⟨DT,HF,f4⟩⟩:=da.live (b2:=fT ir) b aT;obtain⟨rfl,rfl⟩:=h.inj q k o fA eD cl b m aI an f1 af f3;exact ai DT HF f4)
 exact⟨_,f1,f2 zY bf⟩
theorem Vw (sd:P.follows .mixedOrders=true){f:FuncId}{args:List aC}{T:List (List a1)}{tape:List bD}{a9:List Nat}{d5:List jJ}{im:mQ}{r:aC}{ir:List (List a1)}{aj:List Prop}
 (h:GJ P f args T tape a9 d5 im=some (r,ir,aj)) (bo:ch aj):Con P f args T r ir:=by
 have bo:=bo.all;unfold GJ at h;split at h
 ·simp at h
 rename_i fn Ye;split at h
 ·simp at h
 rename_i c aZ;split at h
 ·simp at h
 rename_i ai8;split at h
 ·simp at h
 rename_i e s bR lK;split at h;rotate_left
 ·simp at h
 rename_i Xg;simp only[dQ,decide_eq_true_eq] at Xg;obtain⟨⟨Di,hnd⟩,uf⟩:=Xg;split at h
 ·simp at h
 rename_i r0 m6;split at h;rotate_left
 ·simp at h
 rename_i oM aL r2 eH h1 h2;simp only[dB,dF] at h;obtain⟨rfl,rfl,rfl⟩:=h;refine⟨⟨fn,Ye,by simpa using ai8,by simp[aZ]⟩,?_⟩;intro g aE w vs hw hm zS m1 er fF hargs;have Gd:(zc args T).l9 T.length:=by intro q a0;simp[zc,a0]
 have ani:=er
 let hc:G:={g with N:=fn.ntmps}
 have fL:c7 hc (zc args T) aE {tmps:=vs++Array.replicate (fn.ntmps-vs.size) undef,defers:=[]} w:=by
  have Kp:(zc args T).aY=(fT T).aY:=rfl;have rD:jE g (zc args T) aE w:=er.congr Kp;have u7:jE hc (zc args T) aE w:=⟨rD.obj,rD.inj,rD.own,⟨rD.ik.os,rD.ik.tape,rD.ik.output,rD.ik.size,rD.ik.block⟩,rD.mlt,rD.o5,rD.stay,rD.low⟩;refine {tojE:=u7,env:=fun t=> ?_,defers:=rfl,k1:=by simp[hc];omega}
  have e1:(vs++Array.replicate (fn.ntmps-vs.size) undef).getD t undef=(vs[t]?).getD undef:=by
   rw[aoi,Array.getElem?_append];split
   ·rfl
   rename_i ez;rw[Array.getElem?_replicate];have:vs[t]? = none:=(by simp;omega);rw[this];split<;>rfl
  show Rel _ _ _ _ ((args[t]?).getD (.dg [])) _;rw[e1]
  cases U:args[t]? with
  | none =>
   have:vs[t]? = none:=(by rw[List.getElem?_eq_none_iff] at U;simp;omega);rw[this];exact UO
  | some x =>
   have ez:=gm U;have bf:vs[t]? = some vs[t]:=aoa (by omega);rw[bf];have:=hargs t x _ U bf;rw[<- FB Kp,<- CD Kp,<- CE Kp] at this;exact this
 have bf:=UY sd lK (by exact ch.of fun p af=>bo p (by simp[af])) Gd hc aE _ w rfl hm fL;refine calls_of_wp Ye aZ (wp_mono bf fun fb ew bQ a0=> ?_);obtain⟨rfl,bX,i6⟩:=a0;obtain⟨v,v1,v2⟩:=ae6 (P:=P) i6 m6;obtain⟨nd,f1,f2⟩:=finish i6 hnd (by rw[show hc.m=T.length from hm];exact uf) h1 h2 (fun p af=>bo p (by simp[af])) (fun p af=>bo p (by simp[af])) v2;have XC:ew.defers=[]/\ ∃v,(results fn ew.tmps).run P bQ = .ok v bQ/\ ∃Yf bX,Ending.returned v=Ending.returned Yf/\jE g (fT oM) bX bQ/\Rel bQ ((fT oM).ok g bX bQ) (fT oM).bd ((fT oM).bj bX) r2 Yf:=by refine⟨i6.defers,v,v1,v,nd,rfl,?_,f2⟩;exact⟨f1.obj,f1.inj,f1.own,⟨f1.ik.os,f1.ik.tape,f1.ik.output,f1.ik.size,f1.ik.block⟩,f1.mlt,f1.o5,f1.stay,f1.low⟩
 cases fb<;>simp only[Xf,dT] at Di
 ·exact XC
 exact XC
theorem afL (sd:P.follows .mixedOrders=true){f:FuncId}{args:List aC}{tape:List bD}{im:mQ}{r:aC}{aj:List Prop}
 (h:GJ P f args [] tape [] [] im=some (r,[],aj)) (bo:ch aj):Con P f args [] r []:=Vw sd h bo
end
def bi {α:Type}(o:Option α)(Q:α->Prop):Prop:= ∀r,o=some r->Q r
section
variable {α β:Type} {Q:α->Prop}
theorem bi.ite {b:Bool}{x y:Option α}(h1:b=true->bi x Q)(h2:b=false->bi y Q):bi (if b=true then x else y) Q:=by
 cases b
 ·exact h2 rfl
 exact h1 rfl
theorem bi.ae {o:Option β}{f:β->Option α}(h:∀x,o=some x->bi (f x) Q):bi (o >>= f) Q:=by
 cases o with
 | none=>intro r ai;simp at ai
 | some x=>exact h x rfl
theorem bi.aO {p:Prop}[Decidable p] {x:Option α} (h:p->bi x Q):bi (if p then x else none) Q:=by
 by_cases af:p
 ·rw[dw af];exact h af
 rw[dA af];intro r ai;simp at ai
theorem bi.ret {r:α}(h:Q r):bi (some r) Q:=by intro x U;obtain rfl:=dJ U;exact h
end
theorem bi.Kq {α:Type}{Q:α->Prop}:bi (none:Option α) Q:=by intro r ai;simp at ai
def nodeAt:Code->List Nat->Code
 | c,[]=>c
 | .seq x _,0::l=>nodeAt x l
 | .seq _ y,1::l=>nodeAt y l
 | .cond _ x _,0::l=>nodeAt x l
 | .cond _ _ y,1::l=>nodeAt y l
 | .block _ x,0::l=>nodeAt x l
 | .loop x,0::l=>nodeAt x l
 | .scope x,0::l=>nodeAt x l
 | _,_=> .skip
def NB (P:Program)(f:FuncId):Code :=
 match P.funcs[f]? with
 | some fn=>match fn.body with
  | some c=>c
  | none=> .skip
 | none=> .skip
theorem Nk {α β:Type}{f:α->β}{l:List α}{i:Nat}{x:α}(h:l[i]? = some x):(l.map f)[i]? = some (f x):=by rw[dK,h];rfl
theorem V2 {α β:Type}{f:α->β}{l:List α}{j:Int}(h:j<l.length):j<((l.map f).length:Nat):=by rw[aok];exact h
theorem WE {α β:Type}{f:α->β}{l:List α}{j:Nat}(h:j<l.length):j<(l.map f).length:=by rw[aok];exact h
def iter {α β:Type}(f:α->Option (α⊕β))(a:α):Option β:=do
 match <- f a with
 | .inl ew=>iter f ew
 | .inr r=>some r
partial_fixpoint
abbrev alH:fP×Bool:=(.none,true)
abbrev alI:fP×Bool:=(.none,false)
abbrev ii:mQ:= .bh (.bY .id)
abbrev R (x:Int):Int:=IntKind.wrap .i64 x
section
variable {P:Program} {N m:Nat} {α β:Type}
theorem ahF {c:Code}{f:α->Option (α⊕β)}{head:α->S}{iX:β->Exit}{out:β->S}(hex:∀r,iX r≠ .normal)
 (h : ∀a,bi (f a) (Sum.elim (fun ew=>kG P N m c .normal (head a) (head ew)) (fun r=>kG P N m c (iX r) (head a) (out r)))) : ∀a r,iter f a=some r->tV P N m c (iX r) (head a) (out r):=by
 apply iter.partial_correctness f (fun a r=>tV P N m c (iX r) (head a) (out r));intro it ih a r ai
 cases cq:f a with
 | none=>rw[cq] at ai;simp at ai
 | some x =>
  have U:=h a x cq;rw[cq] at ai
  cases x with
  | inl ew =>
   have i6:it ew=some r:=ai;exact tV.next U (ih ew r i6)
  | inr fA =>
   have i6:some fA=some r:=ai;obtain rfl:=dJ i6;exact tV.out U (hex _)
theorem b1 {a:Bool}(h:a=true):(!a)=false:=by rw[h];rfl
theorem b0 {a:Bool}(h:a=false):(!a)=true:=by rw[h];rfl
theorem Nl {bI:Type}{raw:List (List aC)}{f:bI->List aC}{l:List bI}(e:raw=l.map f){i:Nat}{x:bI}(h:l[i]? = some x):raw[i]? = some (f x):=by rw[e];exact Nk h
theorem amE {bI:Type}{raw:List (List aC)}{f:bI->List aC}{l:List bI}(e:raw=l.map f){j:Int}(h:j<l.length):j<(raw.length:Nat):=by rw[e];exact V2 h
theorem WG {bI:Type}{raw:List (List aC)}{f:bI->List aC}{l:List bI}(e:raw=l.map f){j:Nat}(h:j<l.length):j<raw.length:=by rw[e];exact WE h
theorem tI {bI:Type}{raw:List (List aC)}{f:bI->List aC}{l:List bI}(e:raw=l.map f)(i:Nat)(x:bI):raw.set i (f x)=(l.set i x).map f:=by rw[e,List.map_set]
theorem amF {bI:Type}{raw:List (List aC)}{f:bI->List aC}{l:List bI}(e:raw=l.map f)(x:List bI):raw++x.map f=(l++x).map f:=by rw[e,List.map_append]
theorem ls {bI:Type}(f:bI->List aC)(n:Nat)(x:bI):List.replicate n (f x)=(List.replicate n x).map f:=by rw[List.map_replicate]
theorem lb {bI:Type}{raw:List (List aC)}{f:bI->List aC}{l:List bI}(e:raw=l.map f)(i n:Nat):(raw.drop i).take n=((l.drop i).take n).map f:=by rw[e,List.map_take,List.map_drop]
theorem ahG {bI:Type}{raw:List (List aC)}{f:bI->List aC}{l:List bI}(e:raw=l.map f):raw.length=l.length:=by rw[e,aok]
theorem I4 {bI:Type}{raw:List (List aC)}{f:bI->List aC}{l:List bI}(e:raw=l.map f)(i n:Nat):((l.drop i).take n).map f=(raw.drop i).take n:=(lb e i n).symm
theorem pX {bI:Type}{raw:List (List aC)}{f:bI->List aC}{l:List bI}(e:raw=l.map f){n:Nat}(h:n<=l.length):n<=raw.length:=by rw[ahG e];exact h
theorem dn {bI:Type}{f:bI->List aC}(cq:∀x,∀v∈f x,Pure v)(l:List bI):jL (l.map f):=by intro e he v bf;rw[List.mem_map] at he;obtain⟨x,-,rfl⟩:=he;exact cq x v bf
theorem ahH {bI:Type}{raw:List (List aC)}{f:bI->List aC}{l:List bI}{sz:Nat}{cS:hp}(e:raw=l.map f):[a1.mk sz raw cS]=[a1.mk sz (l.map f) cS]:=by rw[e]
theorem agN {bI:Type}{f:bI->List aC}(cq:∀x,∀v∈f x,Pure v){sz:Nat}{cS:hp}(l:List bI):CP [a1.mk sz (l.map f) cS]:=by intro o an;rw[List.mem_singleton] at an;subst an;exact dn cq l
theorem oT {c:List aC}(h:∀v∈c,Pure v):jL [c]:=by intro e he;rw[List.mem_singleton] at he;subst he;exact h
theorem amz {bI:Type}{raw:List (List aC)}{f:bI->List aC}{l:List bI}(e:raw=l.map f):l.map f=(raw.drop 0).take l.length:=by rw[e,List.drop_zero,dP (by simp)]
theorem amG {bI:Type}{raw:List (List aC)}{f:bI->List aC}{l:List bI}(e:raw=l.map f):0+l.length<=raw.length:=by rw[e];simp
theorem tN : ∀x∈([]:List aC),bU x:=by simp
theorem mE {x:aC}{l:List aC}(h:bU x)(t:∀y∈l,bU y): ∀y∈x::l,bU y:=by
 intro y aV;rw[dS] at aV;rcases aV with rfl|aV
 ·exact h
 exact t y aV
theorem zd {l:List aC}(h:∀y∈l,bU y):bU (.dg l):= .dg h
def len_ {bI:Type}(f:bI->List aC)(l:List bI):Int:=((l.map f).length:Nat)
theorem fc {bI:Type}(f:bI->List aC)(l:List bI):len_ f l=(l.length:Nat):=by simp[len_]
def eI (x:Int):List aC:=[.n .i64 x]
def G9 (x:Int):List aC:=[.n .u8 x]
def gp (x:Bool):List aC:=[.b x]
def Am (x:ByteArray):List aC:=[.s x]
theorem az : ∀x,∀v∈eI x,Pure v:=by intro x v bf;simp[eI] at bf;subst bf;exact .n _ _
theorem agO : ∀x,∀v∈G9 x,Pure v:=by intro x v bf;simp[G9] at bf;subst bf;exact .n _ _
theorem fe : ∀x,∀v∈gp x,Pure v:=by intro x v bf;simp[gp] at bf;subst bf;exact .b _
theorem V3 : ∀x,∀v∈Am x,Pure v:=by intro x v bf;simp[Am] at bf;subst bf;exact .s _
def ft {bI:Type}(sz:Nat)(f:bI->List aC)(l:List bI):List aC:=[.isl sz (l.map f)]
theorem pn {bI:Type}{sz:Nat}{f:bI->List aC}(cq:∀x,∀v∈f x,Pure v): ∀l,∀v∈ft sz f l,Pure v:=by intro l v bf;simp[ft] at bf;subst bf;exact .isl (dn cq l)
def hd {bI:Type}(sz:Nat)(f:bI->List aC)(x:Option bI):aC:= .gk sz (x.map f)
def df {bI:Type}(sz:Nat)(f:bI->List aC)(x:Option bI):List aC:=[hd sz f x]
theorem ahI {bI:Type}{sz:Nat}{f:bI->List aC}(cq:∀x,∀v∈f x,Pure v)(x:Option bI):Pure (hd sz f x):=by
 cases x with
 | none=>exact .rr _
 | some x=>exact .qG (cq x)
theorem mF {bI:Type}{sz:Nat}{f:bI->List aC}(cq:∀x,∀v∈f x,Pure v): ∀x,∀v∈df sz f x,Pure v:=by intro x v bf;simp[df] at bf;subst bf;exact ahI cq x
theorem ahJ {bI:Type}{sz:Nat}{f:bI->List aC}{x:Option bI}(h:x=none):hd sz f x = .gk sz none:=by rw[h];rfl
theorem ahK {bI:Type}{sz:Nat}{f:bI->List aC}{x:Option bI}{y:bI}(h:x=some y):hd sz f x = .gk sz (some (f y)):=by rw[h];rfl
theorem bi.m7 {α bI:Type}{Q:α->Prop}{o:Option bI}{x:Option α}{f:bI->Option α}(h1:o=none->bi x Q)(h2:∀y,o=some y->bi (f y) Q):bi (o.elim x f) Q:=by
 cases o with
 | none=>exact h1 rfl
 | some y=>exact h2 y rfl
theorem bi.sum {α β bI:Type}{Q:bI->Prop}{s:α⊕β}{f:α->Option bI}{g:β->Option bI}(h1:∀a,s = .inl a->bi (f a) Q)(h2:∀b,s = .inr b->bi (g b) Q):
 bi (match s with | .inl a=>f a | .inr b=>g b) Q:=by
 cases s with
 | inl a=>exact h1 a rfl
 | inr b=>exact h2 b rfl
theorem Nm {bI:Type}{n:Nat}{l:List bI}(h:n=l.length)(i:Nat)(x:bI):n=(l.set i x).length:=by rw[List.length_set];exact h
theorem lG {bI:Type}(n:Nat)(x:bI):n=(List.replicate n x).length:=by rw[List.length_replicate]
theorem oW {bI:Type}{raw:List (List aC)}{f:bI->List aC}{l:List bI}(e:raw=l.map f){n:Nat}(h:n=l.length):(raw.drop 0).take n=l.map f:=by rw[e,h,List.drop_zero,dP (by simp)]
theorem lr {bI:Type}{rx l3:List (List aC)}{f:bI->List aC}{xs br:List bI}(iX:rx=xs.map f){n:Nat}(h:n=xs.length)(j0:l3=br.map f):rx.take n++l3=(xs++br).map f:=by rw[iX,j0,h,dP (by simp),List.map_append]
theorem M1 {bI:Type}{rx l3:List (List aC)}{f:bI->List aC}{xs br:List bI}(iX:rx=xs.map f)(n:Nat)(j0:l3=br.map f):rx.take n++l3=(xs.take n++br).map f:=by rw[iX,j0,List.map_append,List.map_take]
theorem ma {bI:Type}{raw:List (List aC)}{f:bI->List aC}{l:List bI}(e:raw=l.map f){n:Nat}(h:n=l.length):0+n<=raw.length:=by rw[e,h];simp
theorem mq {bI:Type}{raw:List (List aC)}{f:bI->List aC}{l:List bI}(e:raw=l.map f){n:Nat}(h:n=l.length):n<=raw.length:=by rw[e,h];simp
theorem WH {bI:Type}{raw:List (List aC)}{f:bI->List aC}{l:List bI}(e:raw=l.map f):l.length=raw.length:=by rw[e];simp
theorem lY {bI:Type}{l3:List (List aC)}{f:bI->List aC}{xs br:List bI}{n:Nat}(h:n=xs.length)(j0:l3=br.map f):(xs++br).length=n+l3.length:=by rw[j0,h];simp
theorem M2 {bI:Type}{l3:List (List aC)}{f:bI->List aC}{xs br:List bI}{n:Nat}(h:n<=xs.length)(j0:l3=br.map f):(xs.take n++br).length=n+l3.length:=by rw[j0];simp;omega
theorem l8 {bI:Type}{raw:List (List aC)}{f:bI->List aC}{l:List bI}(e:raw=l.map f){n:Nat}(h:n=l.length):l.map f=(raw.drop 0).take n:=(oW e h).symm
theorem afM {bI:Type}{f:bI->List aC}(cq:∀x,∀v∈f x,Pure v){sz:Nat}(l:List bI):w9 [a1.mk sz (l.map f) .live]:=by intro o an;rw[List.mem_singleton] at an;subst an;exact⟨dn cq l,rfl⟩
theorem amf:w9 []:=by intro o an;simp at an
theorem tH {bI:Type}{raw:List (List aC)}{f:bI->List aC}{l:List bI}(e:raw=l.map f)(i:Nat){c:List aC}(x:bI)(aZ:c=f x):raw.set i c=(l.set i x).map f:=by rw[e,aZ,List.map_set]
theorem Con.lv {P:Program}{f:FuncId}{sz:Nat}{T:List (List a1)}{r:aC}{ir:List (List a1)}(h1:Con P f [.e8] T r ir)(h2:Con P f [.jR] T r ir):Con P f [.isl sz []] T r ir:=by
 refine⟨h1.1,?_⟩;intro g aE w vs hw hm zS m1 er fF hargs;have h0:0<vs.size:=by rw[fF];simp
 have bf:=hargs 0 (.isl sz []) vs[0] rfl (aoa h0)
 have key : ∀y:aC,Rel w ((fT T).ok g aE w) (fT T).bd ((fT T).bj aE) y vs[0]-> ∀(j:Nat) x v,[y][j]? = some x->vs[j]? = some v->Rel w ((fT T).ok g aE w) (fT T).bd ((fT T).bj aE) x v:=by
  intro y aV j x v U bf
  match j,U,bf with
  | 0,U,bf =>
   obtain rfl:=dJ U;rw[aoa h0] at bf;obtain rfl:=dJ bf;exact aV
  | j+1,U,bf=>simp at U
 rcases bf.vO with ⟨-,a,c,he,bF⟩|⟨e7,off,c,-,he,-⟩
 ·cases a with
  | none =>
   have:=bF rfl;subst this;exact h1.2 g aE w vs hw hm zS m1 er fF (key .e8 (by rw[he];exact .e8))
  | some a=>exact h2.2 g aE w vs hw hm zS m1 er fF (key .jR (by rw[he];exact .jR a c))
 exact h2.2 g aE w vs hw hm zS m1 er fF (key .jR (by rw[he];exact .jR _ c))
end
open Go Go.ChangeShapes Go.WideShapes Go.RowKit
def lW (w:World)(c:List aC)(cs:List Value):Prop :=
 cs.length=c.length/\ ∀(j:Nat) x v,c[j]? = some x->cs[j]? = some v->lH v=true/\Rel w (fun b=>b<w.heap.size) (fun _ _=>False) (fun _ _=>none) x v
theorem lW.nil (w:World):lW w [] []:=⟨rfl,fun j x v U=>by simp at U⟩
theorem lW.one {w:World}{x:aC}{v:Value}(aZ:lH v=true)(h:Rel w (fun b=>b<w.heap.size) (fun _ _=>False) (fun _ _=>none) x v):lW w [x] [v]:=by
 refine⟨rfl,fun j y u aV hu=> ?_⟩
 match j,aV,hu with
 | 0,aV,hu=>obtain rfl:=dJ aV;obtain rfl:=dJ hu;exact⟨aZ,h⟩
 | j+1,aV,hu=>simp at aV
structure rj (P:Program) (w:World) (t:TypeId) {α:Type} (f:α->List aC) (fp:α->Prop):Prop where
 pure : ∀a,∀v∈f a,Pure v
 size : ∀a,(f a).length=P.cellsOf t
 opens : ∀ {H:Type} {enc:TypeId×Value->H} {base:Nat} {spare:Nat->Bool} {held:Bool} {sc:Nat} {cs:List Value} {x:DataW H×List MemPlace},
  DataW.trod enc P w base spare held sc t cs=some x-> ∃a,fp a/\lW w (f a) cs
section
variable {P:Program} {w:World} {t:TypeId}
def nq (x:Int):Prop:=(Lit.int .i64 x).wf=true
theorem yO (cj:P.underlying t=some (.int .i64))(aZ:P.cellsOf t=1):rj P w t eI nq where
 pure:=az
 size:=fun a=>aZ.symm
 opens:=fun h=>by obtain⟨n,rfl,-,hw⟩:=DataW.trod_int cj h;exact⟨n,hw,.one rfl (.n _ _)⟩
theorem ae7 (cj:P.underlying t=some .bool)(aZ:P.cellsOf t=1):rj P w t gp (fun _=>True) where
 pure:=fe
 size:=fun a=>aZ.symm
 opens:=fun h=>by obtain⟨n,rfl,-⟩:=DataW.trod_bool cj h;exact⟨n,trivial,.one rfl (.b _)⟩
theorem aea (cj:P.underlying t=some .string)(aZ:P.cellsOf t=1):rj P w t Am (fun s=>s.size<=maxLen) where
 pure:=V3
 size:=fun a=>aZ.symm
 opens:=fun h=>by obtain⟨n,rfl,-,hw⟩:=DataW.trod_string cj h;exact⟨n,hw,.one rfl (.s _)⟩
theorem V4 {α:Type}{Q:Nat->α->Prop}: ∀(n:Nat),(∀i,i<n-> ∃a,Q i a)-> ∃l:List α,l.length=n/\ ∀(i:Nat) a,l[i]? = some a->Q i a
 | 0,_=>⟨[],rfl,fun i a h=>by simp at h⟩
 | n+1,h=>by
  obtain⟨l,h1,h2⟩:=V4 n fun i aa=>h i (by omega);obtain⟨a,bF⟩:=h n (by omega);refine⟨l++[a],by simp[h1],fun i x U=> ?_⟩;rw[List.getElem?_append] at U;split at U
  ·exact h2 i x U
  have:i=l.length:=(by have:=gm U;simp at this;omega);subst this;simp at U;subst U;rw[h1];exact bF
theorem Iw {e:TypeId}{α:Type}{f:α->List aC}{fp:α->Prop}{sz:Nat}(cj:P.underlying t=some (.slice e))(aZ:P.cellsOf t=1)(fF:P.cellsOf e=sz)(kr:0<sz)(he:rj P w e f fp):
 rj P w t (ft sz f) (fun l=>l.length<=maxLen/\ ∀x∈l,fp x) where
 pure:=pn he.pure
 size:=fun a=>aZ.symm
 opens:=fun h=>by
  rcases DataW.trod_slice cj h with ⟨rfl,-⟩|⟨a,len,cap,elems,rest,n,_,rfl,rfl,aW,aT,hm,hlen,mJ,X1,GR⟩
  ·exact⟨[],⟨by simp,by simp⟩,.one rfl (.lv _ _ _ (fun _=>rfl))⟩
  subst fF;have each : ∀i,i<len-> ∃x,fp x/\ ∀j,j<P.cellsOf e-> ∃y v,(f x)[j]? = some y/\w.cell? ((a.add (i*P.cellsOf e)).add j)=some v/\lH v=true/\Rel w (fun b=>b<w.heap.size) (fun _ _=>False) (fun _ _=>none) y v:=(by intro i aa;have h1:=mJ i aa;rw[dz (by omega),Option.bind_eq_some_iff] at h1;obtain⟨m5,h2,J⟩:=h1;obtain⟨x,ak,au,aP⟩:=he.opens J;refine⟨x,ak,fun j aq=> ?_⟩;obtain⟨-,bh,cp⟩:=World.cells?_some h2;have aV:(f x)[j]? = some (f x)[j]:=dz (by rw[he.size];exact aq);have bf:m5[j]? = some m5[j]:=dz (by omega);obtain⟨d1,d2⟩:=aP j _ _ aV bf;exact⟨_,_,aV,by rw[cp j aq,bf],d1,d2⟩);obtain⟨l,k4,ln⟩:=V4 len each;refine⟨l,⟨by omega,fun x U=> ?_⟩,.one rfl ?_⟩
  ·obtain⟨i,aa⟩:=aor U;exact(ln i x aa).1
  rcases Nat.eq_zero_or_pos len with h0|h0
  ·subst h0;have:l=[]:=dM.1 k4;subst this;exact .lv _ _ _ (by simp)
  obtain⟨e7,off,spot⟩:=a
  have ai9:spot=none/\e7<w.heap.size:=by
   obtain⟨x,-,h2⟩:=each 0 h0;obtain⟨y,v,-,J,-⟩:=h2 0 kr;simp only[Nat.zero_mul,Addr.add,if_true] at J;unfold World.cell? at J
   cases gX:w.heap[e7]? with
   | none=>simp[gX] at J
   | some o =>
    have ez:=(aom.1 gX).1;refine⟨?_,ez⟩;simp only[gX] at J;cases o<;>simp at J
    cases spot with
    | none=>rfl
    | some _=>simp at J
  obtain⟨rfl,wc⟩:=ai9;have jS:qm w (fun b=>b<w.heap.size) (fun _ _=>False) (fun _ _=>none) e7 off (P.cellsOf e) (l.map f):=(by have hle : ∀z∈l.map f,z.length=P.cellsOf e:=(by intro z cA;rw[List.mem_map] at cA;obtain⟨x,-,rfl⟩:=cA;exact he.size x);refine⟨hle,fun j x U=> ?_⟩;have aq:j<len*P.cellsOf e:=(by have:=gm U;rw[uA _ hle,aok,k4] at this;exact this);have aa:j / P.cellsOf e<len:=Nat.div_lt_of_lt_mul (by rw[Nat.mul_comm];exact aq);have ai:j % P.cellsOf e<P.cellsOf e:=Nat.mod_lt _ kr;have th:j=j / P.cellsOf e*P.cellsOf e+j % P.cellsOf e:=(by rw[Nat.mul_comm];exact(Nat.div_add_mod j _).symm);have Yg:l[j / P.cellsOf e]? = some (l[j / P.cellsOf e]'(by omega)):=dz _;have akv:(l.map f)[j / P.cellsOf e]? = some (f (l[j / P.cellsOf e]'(by omega))):=Nk Yg;obtain⟨y,v,e1,e2,bJ,c1⟩:=(ln _ _ Yg).2 _ ai;have kR:=Fm hle akv ai;rw[<- th,U,e1] at kR;obtain rfl:=dJ kR;refine⟨v,?_,bJ,c1⟩;rw[tF,tF] at e2;rw[th];rw[Nat.add_assoc] at e2;exact e2);have:=jS.isl (c:=cap) ⟨wc,dn he.pure l⟩ (by rw[aok];omega);rw[aok,k4] at this;exact this
theorem lW.aD {bh cp:List aC}{cs:List Value}{o n:Nat}(h1:lW w bh ((cs.drop o).take n))(h2:lW w cp (cs.drop (o+n)))(aS:bh.length=n):lW w (bh++cp) (cs.drop o):=by
 obtain⟨e1,e2⟩:=h1;obtain⟨f1,f2⟩:=h2;have ain:cs.drop o=(cs.drop o).take n++cs.drop (o+n):=by rw[<- List.drop_drop,List.take_append_drop]
 rw[ain];refine⟨by rw[dD,dD,e1,f1],fun j x v U bf=> ?_⟩;rw[List.getElem?_append] at U bf;rw[e1] at bf;split at U
 ·rename_i aq;rw[dw aq] at bf;exact e2 j x v U bf
 rename_i aq;rw[dA aq] at bf;exact f2 _ x v U bf
theorem Mg {mm:Array Field}(cj:P.underlying t=some (.struct mm)){H:Type}{enc:TypeId×Value->H}{base:Nat}{spare:Nat->Bool}{held:Bool}{sc:Nat}{cs:List Value}{x:DataW H×List MemPlace}
 (h:DataW.trod enc P w base spare held sc t cs=some x) :
 cs.length=P.cellsOf t/\ ∀(i:Nat) (fd:Field),mm[i]? = some fd-> ∀ {α:Type} {f:α->List aC} {fp:α->Prop},rj P w fd.type f fp-> ∃a,fp a/\lW w (f a) ((cs.drop fd.offset).take (P.cellsOf fd.type)):=by
 obtain⟨xs,n,-,-,h1,h2,J⟩:=DataW.trod_struct cj h;refine⟨h1,fun i fd xy α f fp an=> ?_⟩;have aa:i<xs.length:=by rw[h2];exact(aom.1 xy).1
 have ak:=J i fd xy;rw[dz aa] at ak;exact an.opens ak
theorem vM {mm:Array Field}{cs:List Value}
 (h : ∀(i:Nat) (fd:Field),mm[i]? = some fd-> ∀ {α:Type} {f:α->List aC} {fp:α->Prop},rj P w fd.type f fp-> ∃a,fp a/\lW w (f a) ((cs.drop fd.offset).take (P.cellsOf fd.type)))
 (i off n:Nat) {fd:Field} (xy:mm[i]? = some fd) (an:fd.offset=off) (aS:P.cellsOf fd.type=n) {α:Type} {f:α->List aC} {fp:α->Prop} (o:rj P w fd.type f fp) : ∃a,fp a/\lW w (f a) ((cs.drop off).take n):=by
 subst an;subst aS;exact h i fd xy o
theorem lW.end_ {cs:List Value}{n:Nat}(h:cs.length<=n):lW w [] (cs.drop n):=by rw[List.drop_of_length_le h];exact .nil w
theorem aeb {x:aC}{v:Value}(h:lW w [x] v.cells.toList)(bf:∀cs,v≠ .agg cs):Rel w (fun b=>b<w.heap.size) (fun _ _=>False) (fun _ _=>none) x v:=by
 have aZ:v.cells.toList=[v]:=by cases v<;>first|rfl|exact absurd rfl (bf _)
 rw[aZ] at h;exact(h.2 0 x v rfl rfl).2
theorem ae8 {c:List aC}{cs:Array Value}(h:lW w c (Value.agg cs).cells.toList):Rel w (fun b=>b<w.heap.size) (fun _ _=>False) (fun _ _=>none) (.agg c) (.agg cs):=by have aZ:(Value.agg cs).cells.toList=cs.toList:=rfl;rw[aZ] at h;have h2:=Rel.agg (c:=c) cs.toList h.1 (fun j v bf=>by have aq:=gm bf;have U:c[j]? = some (c[j]'(by rw[<- h.1];exact aq)):=dz _;exact(h.2 j _ v U bf).1) (fun j x v U bf=>(h.2 j x v U bf).2);simpa using h2
theorem arg_one {α:Type}{f:α->aC}{F:α->List aC}{fp:α->Prop}(an:rj P w t F fp)(wS:∀a,F a=[f a]){H:Type}{enc:TypeId×Value->H}{base:Nat}{spare:Nat->Bool}{held:Bool}{v:Value}{d:DataW H}{kJ:List MemPlace}
 (h:DataW.Trod enc P w base spare held t v d kJ) (bf : ∀cs,v≠ .agg cs) : ∃a,fp a/\Rel w (fun b=>b<w.heap.size) (fun _ _=>False) (fun _ _=>none) (f a) v:=by
 obtain⟨sc,cq⟩:=h;obtain⟨a,h1,h2⟩:=an.opens cq;rw[wS] at h2;exact⟨a,h1,aeb h2 bf⟩
theorem arg_agg {α:Type}{F:α->List aC}{fp:α->Prop}(an:rj P w t F fp){H:Type}{enc:TypeId×Value->H}{base:Nat}{spare:Nat->Bool}{held:Bool}{cs:Array Value}{d:DataW H}{kJ:List MemPlace}
 (h:DataW.Trod enc P w base spare held t (.agg cs) d kJ) : ∃a,fp a/\Rel w (fun b=>b<w.heap.size) (fun _ _=>False) (fun _ _=>none) (.agg (F a)) (.agg cs):=by
 obtain⟨sc,cq⟩:=h;obtain⟨a,h1,h2⟩:=an.opens cq;exact⟨a,h1,ae8 h2⟩
def CQ (w:World)(args:List aC)(vs:List Value):Prop :=
 vs.length=args.length/\ ∀(j:Nat) x v,args[j]? = some x->vs[j]? = some v->Rel w (fun b=>b<w.heap.size) (fun _ _=>False) (fun _ _=>none) x v
theorem CQ.nil:CQ w [] []:=⟨rfl,fun j x v U=>by simp at U⟩
theorem CQ.cons {x:aC}{v:Value}{args:List aC}{vs:List Value}(h:Rel w (fun b=>b<w.heap.size) (fun _ _=>False) (fun _ _=>none) x v)(t:CQ w args vs):CQ w (x::args) (v::vs):=by
 refine⟨by simp[t.1],fun j y u aV hu=> ?_⟩
 match j,aV,hu with
 | 0,aV,hu=>obtain rfl:=dJ aV;obtain rfl:=dJ hu;exact h
 | j+1,aV,hu=>exact t.2 j y u (by simpa using aV) (by simpa using hu)
theorem trod_lt' {H:Type}{enc:TypeId×Value->H}{base:Nat}{spare:Nat->Bool}{held:Bool}{v:Value}{d:DataW H}{kJ:List MemPlace}(h:DataW.Trod enc P w base spare held t v d kJ): ∀p∈kJ,p.block<w.heap.size:=by obtain⟨sc,cq⟩:=h;exact DataW.trod_lt sc t v.cells.toList (d,kJ) cq
theorem Con.row {f:FuncId}{args:List aC}{b:Bool}(h:Con P f args [] (.b b) []){vs:List Value}(bF:CQ w args vs):
 Calls P f vs.toArray w fun e bQ=>e = .returned (.bool b)/\Below w.heap.size w bQ:=by
 let g:G:={nL:=w,A:=fun b=>b<w.heap.size,rF:=fun _=>False,N:=0,m:=0,qM:=(fT []).bd,t0:=(fT []).bj fun _ _=>none}
 have bo : ∀r k,(fT []).aj r k=none:=by intro r k;simp[S.aj,fT,d6]
 have er:jE g (fT []) (fun _ _=>none) w:=by
  have kD : ∀j k,¬(fT []).bd j k:=fun j k aq=>(by simp[S.bd,fT] at aq);refine⟨?_,?_,?_,⟨rfl,rfl,rfl,dE _,fun _ _ _=>rfl⟩,?_,?_,?_,?_⟩
  ·intro r k o an;rw[bo] at an;simp at an
  ·intro r k o fA eD cl b m aI an;rw[bo] at an;simp at an
  ·intro r k o b m an;rw[bo] at an;simp at an
  ·intro b aW;exact aW.elim
  ·intro b aW;exact aW
  ·intro j k aq;exact absurd aq (kD j k)
  intro j k aq;exact absurd aq (kD j k)
 have aZ:=h.2 g (fun _ _=>none) w vs.toArray rfl rfl rfl rfl er (by simpa using bF.1) (fun j x v U bf=>(bF.2 j x v U (by simpa using bf)).mono
  (fun b aW=>⟨aW,.inl aW,fun aT=>by obtain⟨r,k,o,m,h1,-⟩:=aT;rw[bo] at h1;simp at h1⟩) (fun _ _=>rfl) (fun r k ai=>ai.elim) (fun r k ai=>ai.elim))
 refine aZ.mono fun e bQ a0=> ?_;obtain⟨v,bX,rfl,h1,h2⟩:=a0;have bf:=h2.xk;subst bf;exact⟨rfl,h1.ik.os,h1.ik.tape,h1.ik.output,h1.ik.size,fun k aX=>h1.ik.block k aX id⟩
end
abbrev anZ:a1:=⟨0,[],.gone⟩
abbrev bT:=Option (Nat×Nat)
abbrev mU (eA c sz:Nat)(h:bT):aC:= .j9 eA c sz h
def bK (eA c sz:Nat)(h:bT):List aC:=[mU eA c sz h]
theorem amH {eA c sz:Nat}{h:bT}(e:h=none):lx (mU eA c sz h) (.isl sz []):=by rw[e];exact .n1 _ _ _
theorem mb {eA c sz:Nat}{h:bT}{p:Nat×Nat}(e:h=some p):lx (mU eA c sz h) (.bu eA (p.1+c) 0 p.2):=by rw[e];exact .s1 _ _ _ _ _
theorem Xh {x v:aC}(e:x=v):lx x v:=e▸ .refl x
def DE:List aC->List aC->Prop
 | [],[]=>True
 | a::l,b::m=>lx a b/\DE l m
 | _,_=>False
theorem DE.at_ : ∀ {l m:List aC},DE l m->m.length=l.length/\ ∀(j:Nat) x dc,l[j]? = some x->m[j]? = some dc->lx x dc
 | [],[],_=>⟨rfl,fun j x dc h=>by simp at h⟩
 | a::l,b::m,h=>⟨by simp[(DE.at_ h.2).1],fun j x dc U eC=>by
  cases j with
  | zero=>simp at U eC;subst U;subst eC;exact h.1
  | succ j=>exact(DE.at_ h.2).2 j x dc (by simpa using U) (by simpa using eC)⟩
 | [],_::_,h=>h.elim
 | _::_,[],h=>h.elim
theorem amL {l m:List aC}(h:DE l m):lx (.agg l) (.agg m):= .agg h.at_.1 h.at_.2
theorem aja {cm:Nat->Option Nat}{eA tj c sz:Nat}(cj:cm eA=some tj)(h:bT):pG cm (mU eA c sz h)=mU tj c sz h:=by simp only[mU,pG,cj]
theorem ajb {a9:ic}{eA tj c eQ sz:Nat}(hm:∀k,a9 tj (k+eQ)=some (eA,k+c))(h:bT):DD a9 (mU eA c sz h) (mU tj eQ sz h):= .inr (.inr (.inr ⟨eA,c,sz,h,tj,eQ,rfl,hm,rfl⟩))
theorem ajc (eA c sz:Nat)(h:bT):bU (mU eA c sz h):= .j9 _ _ _ _
def lf {α:Type}(cS:hp)(sz:Nat)(f:α->List aC)(l:List α):a1:=⟨sz,l.map f,cS⟩
section
variable {α:Type} {sz:Nat} {cS:hp} {f:α->List aC} {P:List (List α)} {raw:List a1}
theorem kf (e:raw=P.map (lf cS sz f))(aX:cS≠ .gone){k:Nat}{l:List α}(h:P[k]? = some l):d6 (some raw) k=some (a1.mk sz (l.map f) cS):=by rw[e,lX,dK,h];exact dA aX
theorem jA:hp.live≠ .gone:=by simp
theorem an0:hp.ka≠ .gone:=by simp
theorem amM (e:raw=P.map (lf .live sz f)):nA raw=P.map (lf .ka sz f):=by rw[e];unfold nA;rw[List.map_map];rfl
theorem amN (P:List (List α)):P.map (lf cS sz f)=P.map (lf cS sz f):=rfl
theorem rc (e:raw=P.map (lf cS sz f))(k:Nat){l:List α}{es:List (List aC)}(aT:es=l.map f):raw.set k (a1.mk sz es cS)=(P.set k l).map (lf cS sz f):=by rw[e,aT,List.map_set];rfl
theorem NC (cS:hp)(sz:Nat)(f:α->List aC):([]:List a1)=([]:List (List α)).map (lf cS sz f):=rfl
theorem Jz (e:raw=P.map (lf cS sz f)){n:Nat}(h:n=P.length):raw.length=n:=by rw[e,h,aok]
theorem agP (a b n:Nat): ∀ {x:aC},Pure x->mg a b n x=x:=by
 intro x h;have aT : ∀c:List aC,(∀x∈c,mg a b n x=x)->mg.Dx a b n c=c:=by intro c aZ;rw[Jv];exact(aoq aZ).trans (List.map_id _)
 induction h with
 | agg h ih=>rw[mg,aT _ ih]
 | dg h ih=>rw[mg,aT _ ih]
 | _=>rfl
theorem agQ (af:∀x,∀v∈f x,Pure v)(a b n:Nat){es:List (List aC)}{l:List α}(e:es=l.map f):es.map (fun e=>e.map (mg a b n))=l.map f:=by rw[e,List.map_map];refine aoq fun x _=> ?_;exact(aoq fun v bf=>agP a b n (af x v bf)).trans (List.map_id _)
theorem F2 (e:raw=P.map (lf cS sz f)){Q:List (List α)}{r2:List a1}(h:r2=Q.map (lf cS sz f)):raw++r2=(P++Q).map (lf cS sz f):=by rw[e,h,List.map_append]
theorem Ge (af:∀x,∀v∈f x,Pure v)(a b n:Nat){es:List (List aC)}{l:List α}(h:es=l.map f){r2:List a1}{Q:List (List α)}(t:r2.map (n5 a b n)=Q.map (lf cS sz f)):
 (a1.mk sz es cS::r2).map (n5 a b n)=(l::Q).map (lf cS sz f):=by
 simp only[List.map_cons,t,n5,agQ af a b n h];rfl
theorem Gf (a b n:Nat):([]:List a1).map (n5 a b n)=([]:List (List α)).map (lf cS sz f):=rfl
def jW (P:List (List α)):bT->List α
 | none=>[]
 | some (k,n)=>(P.getD k []).take n
def uh (P:List (List α)):bT->Bool
 | none=>true
 | some (k,n)=>decide (k<P.length) && decide (n<=(P.getD k []).length)
def DF (eA:Nat)(kC:List a1)(bO:hp->Bool):List aC->List aC->Prop
 | [],[]=>True
 | a::l,b::m=>GY eA kC bO a b/\DF eA kC bO l m
 | _,_=>False
theorem V5 {eA:Nat}{kC:List a1}{bO:hp->Bool}: ∀ {l m:List aC},DF eA kC bO l m->m.length=l.length
 | [],[],_=>rfl
 | _::_,_::_,h=>by simp[V5 h.2]
 | [],_::_,h=>h.elim
 | _::_,[],h=>h.elim
theorem WI {eA:Nat}{kC:List a1}{bO:hp->Bool}: ∀ {l m:List aC},DF eA kC bO l m-> ∀(j:Nat) x dc,l[j]? = some x->m[j]? = some dc->GY eA kC bO x dc
 | _::_,_::_,h,0,x,dc,h1,h2=>by simp at h1 h2;subst h1;subst h2;exact h.1
 | _::_,_::_,h,j+1,x,dc,h1,h2=>WI h.2 j x dc (by simpa using h1) (by simpa using h2)
 | [],_,_,_,_,_,h1,_=>by simp at h1
theorem amO {eA:Nat}{kC:List a1}{bO:hp->Bool}{x:aC}(h:x.jM=true):GY eA kC bO x x:= .inl ⟨rfl,h⟩
theorem ajd {eA c:Nat}{tW:List a1}{bO:hp->Bool}(e:raw=P.map (lf cS sz f))(af:∀x,∀v∈f x,Pure v)(aZ:tW.length=c)(aX:cS≠ .gone)(bF:bO cS=true): ∀ {h:bT},uh P h=true ->
 GY eA (tW++raw) bO (mU eA c sz h) (.isl sz ((jW P h).map f))
 | none,_=> .inr (.inl ⟨c,sz,rfl,rfl⟩)
 | some (k,n),lA=>by
  simp only[uh,dQ,decide_eq_true_eq] at lA;obtain⟨h1,h2⟩:=lA;have Yh:P[k]? = some P[k]:=dz h1;have dm:P.getD k []=P[k]:=(by simp[List.getD,Yh]);rw[dm] at h2;refine .inr (.inr ⟨k+c,0,n,a1.mk sz (P[k].map f) cS,.inr ⟨c,sz,k,rfl,rfl,rfl⟩,?_,bF,by simpa using h2,?_,?_⟩)
  ·have:=kf e aX Yh;rw[lX] at this ⊢;rw[aon (by omega),aZ,show k+c-c=k by omega];exact this
  ·intro e he x U;rw[List.drop_zero] at he;have he:=List.mem_of_mem_take he;rw[List.mem_map] at he;obtain⟨y,-,rfl⟩:=he;exact af y x U
  simp only[jW,dm,List.drop_zero,List.map_take]
end
theorem ze {α β:Type}{f:α->List aC}{g:β->List aC}{v:α->β}{eA:Nat}{kC:List a1}{bO:hp->Bool}{sz:Nat}{raw:List (List aC)}{xs:List α}(e:raw=xs.map f)(dm:∀y,(g y).length=sz)
 (h : ∀x∈xs,DF eA kC bO (f x) (g (v x))) {n:Nat} (aS:n=xs.length):HG eA kC bO sz ((raw.drop 0).take n) ((xs.map v).map g):=by
 have e0:(raw.drop 0).take n=xs.map f:=by rw[List.drop_zero,aS,e,dP (by simp)]
 rw[e0];have cq : ∀x∈xs,(f x).length=sz:=fun x U=>by rw[<- V5 (h x U),dm]
 refine⟨by simp,fun e he=> ?_,fun j x dc U eC=> ?_⟩
 ·rw[List.mem_map] at he;obtain⟨y,-,rfl⟩:=he;exact dm y
 rcases Nat.eq_zero_or_pos sz with h0|bG
 ·have : ∀l:List α,(∀x∈l,(f x).length=sz)->(l.map f).flatten=[]:=by
   intro l aT
   induction l with
   | nil=>rfl
   | cons a l ih =>
    have h1:=aT a (by simp);rw[h0] at h1;rw[List.map_cons,aof,ih fun x U=>aT x (by simp[U]),dM.1 h1];rfl
  rw[this xs cq] at U;simp at U
 rw[q8 bG _ (by intro e he;rw[List.mem_map] at he;obtain⟨y,aV,rfl⟩:=he;exact cq y aV)] at U;rw[q8 bG _ (by intro e he;rw[List.mem_map] at he;obtain⟨y,-,rfl⟩:=he;exact dm y)] at eC;rw[dK,dK] at eC;rw[dK] at U
 cases aV:xs[j / sz]? with
 | none=>rw[aV] at U;simp at U
 | some y =>
  rw[aV] at U eC;simp only[dR,dx] at U eC;exact WI (h y (dH aV)) _ x dc U eC
theorem amI {eA:Nat}{kC:List a1}{bO:hp->Bool}{sz:Nat}{α:Type}{f:α->List aC}{raw:List (List aC)}{l:List α}(e:raw=l.map f)(aT:∀x,(f x).length=sz)(aS:∀x,∀v∈f x,v.jM=true){bL n:Nat}(iE:bL+n<=raw.length):
 HG eA kC bO sz ((raw.drop bL).take n) (((l.drop bL).take n).map f):=by
 have e1:(raw.drop bL).take n=((l.drop bL).take n).map f:=by rw[e,List.map_take,List.map_drop]
 rw[e1];refine⟨rfl,fun e he=> ?_,fun j x dc U eC=> ?_⟩
 ·rw[List.mem_map] at he;obtain⟨y,-,rfl⟩:=he;exact aT y
 rw[U] at eC;simp at eC;subst eC;obtain⟨e,he,te⟩:=vx U;rw[List.mem_map] at he;obtain⟨y,-,rfl⟩:=he;exact .inl ⟨rfl,aS y x te⟩
section
variable {cm:Nat->Option Nat}
theorem oX:([]:List a1)=([]:List a1).map (kE cm):=rfl
theorem hM {o cl:a1}{l hI:List a1}(h:cl=kE cm o)(t:hI=l.map (kE cm)):cl::hI=(o::l).map (kE cm):=by rw[h,t];rfl
theorem Xi {α:Type}{sz:Nat}{cS:hp}{f k5:α->List aC}{raw:List (List aC)}{xs:List α}(e:raw=xs.map f)(h:∀x,(f x).map (pG cm)=k5 x):a1.mk sz (xs.map k5) cS=kE cm (a1.mk sz raw cS):=by simp only[kE,e,List.map_map,a1.mk.injEq,true_and,and_true];exact aoq fun x _=>(h x).symm
theorem ob {α:Type}{cS:hp}{sz:Nat}{f:α->List aC}{raw:List a1}{P:List (List α)}(e:raw=P.map (lf cS sz f))(h:∀x,(f x).map (pG cm)=f x):P.map (lf cS sz f)=raw.map (kE cm):=by rw[e,List.map_map];refine aoq fun l _=> ?_;exact Xi rfl h
theorem amS {α:Type}(sz:Nat)(f:α->List aC)(o:Option α):pG cm (hd sz f o)=hd sz f o:=by cases o<;>rfl
theorem FD:pr []:=fun o h=>by simp at h
theorem oS {o:a1}{l:List a1}(h:o.cS = .live)(t:pr l):pr (o::l):=fun p af=>by
 rcases dS.1 af with e|e
 ·rw[e];exact .inl h
 exact t p e
theorem amq {o:a1}{l:List a1}(h:o.cS = .gone)(t:pr l):pr (o::l):=fun p af=>by
 rcases dS.1 af with e|e
 ·rw[e];exact .inr h
 exact t p e
theorem MJ {α:Type}{sz:Nat}{f:α->List aC}{raw:List a1}{P:List (List α)}(e:raw=P.map (lf .live sz f)):pr raw:=fun o an=>by rw[e,List.mem_map] at an;obtain⟨l,-,rfl⟩:=an;exact .inl rfl
end
section
variable {a9:ic}
theorem JA:rB a9 [] []:=⟨rfl,fun k o cl h=>by simp at h⟩
def Yi (a9:ic)(o cl:a1):Prop:=cl.sz=o.sz/\cl.cS=o.cS/\cl.es.length=o.es.length/\(∀e∈cl.es,e.length=o.sz) /\
 ∀(j:Nat) x dc,o.es.flatten[j]? = some x->cl.es.flatten[j]? = some dc->DD a9 x dc
theorem Jf {o cl:a1}{l hI:List a1}(h:Yi a9 o cl)(t:rB a9 l hI):rB a9 (o::l) (cl::hI):=by
 refine⟨by simp[t.1],fun k p lR af mK=> ?_⟩
 cases k with
 | zero=>simp at af mK;subst af;subst mK;exact h
 | succ k=>exact t.2 k p lR (by simpa using af) (by simpa using mK)
def DG (a9:ic):List aC->List aC->Prop
 | [],[]=>True
 | a::l,b::m=>DD a9 a b/\DG a9 l m
 | _,_=>False
theorem V6 : ∀ {l m:List aC},DG a9 l m->m.length=l.length
 | [],[],_=>rfl
 | _::_,_::_,h=>by simp[V6 h.2]
 | [],_::_,h=>h.elim
 | _::_,[],h=>h.elim
theorem WJ : ∀ {l m:List aC},DG a9 l m-> ∀(j:Nat) x dc,l[j]? = some x->m[j]? = some dc->DD a9 x dc
 | _::_,_::_,h,0,x,dc,h1,h2=>by simp at h1 h2;subst h1;subst h2;exact h.1
 | _::_,_::_,h,j+1,x,dc,h1,h2=>WJ h.2 j x dc (by simpa using h1) (by simpa using h2)
 | [],_,_,_,_,_,h1,_=>by simp at h1
theorem amP {x:aC}(h:x.jM=true):DD a9 x x:= .inl ⟨rfl,h⟩
theorem Gg {α:Type}{sz:Nat}{cS:hp}{f k5:α->List aC}{raw:List (List aC)}{xs:List α}(e:raw=xs.map f)(aT:∀x,(k5 x).length=sz)(h:∀x,DG a9 (f x) (k5 x)):Yi a9 (a1.mk sz raw cS) (a1.mk sz (xs.map k5) cS):=by
 subst e;refine⟨rfl,rfl,by simp,fun e he=> ?_,fun j x dc U eC=> ?_⟩
 ·simp only[List.mem_map] at he;obtain⟨y,-,rfl⟩:=he;exact aT y
 simp only at U eC;rcases Nat.eq_zero_or_pos sz with h0|bG
 ·have:(xs.map k5).flatten=[]:=by
   induction xs with
   | nil=>rfl
   | cons a l ih =>
    have h1:=aT a;rw[h0] at h1
    have h2:(l.map k5).flatten=[]:=by
     clear ih U eC
     induction l with
     | nil=>rfl
     | cons b l ih =>
      have h1:=aT b;rw[h0] at h1;rw[List.map_cons,aof,ih,dM.1 h1];rfl
    rw[List.map_cons,aof,h2,dM.1 h1];rfl
  rw[this] at eC;simp at eC
 have akw : ∀x,(f x).length=sz:=fun x=>by rw[<- V6 (h x),aT]
 rw[q8 bG _ (by intro e he;rw[List.mem_map] at he;obtain⟨y,-,rfl⟩:=he;exact akw y)] at U;rw[q8 bG _ (by intro e he;rw[List.mem_map] at he;obtain⟨y,-,rfl⟩:=he;exact aT y)] at eC;rw[dK] at U eC
 cases aV:xs[j / sz]? with
 | none=>rw[aV] at U;simp at U
 | some y =>
  rw[aV] at U eC;simp only[dR,dx] at U eC;exact WJ (h y) _ x dc U eC
theorem agR {l:List aC}(h:∀v∈l,v.jM=true):DG a9 l l:=by
 induction l with
 | nil=>trivial
 | cons a l ih=>exact⟨.inl ⟨rfl,h a (by simp)⟩,ih fun v bf=>h v (by simp[bf])⟩
theorem Jg {α:Type}{cS:hp}{sz:Nat}{f:α->List aC}{raw:List a1}{P:List (List α)}(e:raw=P.map (lf cS sz f))(aT:∀x,(f x).length=sz)(aS:∀x,∀v∈f x,v.jM=true):rB a9 raw (P.map (lf cS sz f)):=by subst e;refine⟨rfl,fun k o cl an eV=> ?_⟩;rw[an] at eV;simp at eV;subst eV;rw[dK,dO] at an;obtain⟨l,-,rfl⟩:=an;exact Gg rfl aT fun x=>agR (aS x)
end
theorem y3:tf []:=fun row h=>by simp at h
theorem yV {row:List a1}{T:List (List a1)}(h:∀o∈row,∀e∈o.es,∀x∈e,bU x)(t:tf T):tf (row::T):=fun r ai=>by
 rcases dS.1 ai with e|e
 ·rw[e];exact h
 exact t r e
theorem y4 : ∀o∈([]:List a1),∀e∈o.es,∀x∈e,bU x:=fun o h=>by simp at h
theorem sP {o:a1}{row:List a1}(h:∀e∈o.es,∀x∈e,bU x)(t:∀o∈row,∀e∈o.es,∀x∈e,bU x): ∀p∈o::row,∀e∈p.es,∀x∈e,bU x:=fun p af=>by
 rcases dS.1 af with e|e
 ·rw[e];exact h
 exact t p e
theorem rZ {α:Type}{sz:Nat}{cS:hp}{f:α->List aC}{xs:List α}(h:∀x,∀v∈f x,bU v): ∀e∈(a1.mk sz (xs.map f) cS).es,∀x∈e,bU x:=fun e he x U=>by simp only[List.mem_map] at he;obtain⟨y,-,rfl⟩:=he;exact h y x U
theorem amA {α:Type}{cS:hp}{sz:Nat}{f:α->List aC}{P:List (List α)}(h:∀x,∀v∈f x,bU v): ∀o∈P.map (lf cS sz f),∀e∈o.es,∀x∈e,bU x:=fun o an=>by rw[List.mem_map] at an;obtain⟨l,-,rfl⟩:=an;exact rZ h
theorem JM : ∀x,∀v∈eI x,bU v:=fun x v h=>by simp[eI] at h;subst h;exact .n _ _
theorem amT : ∀x,∀v∈gp x,bU v:=fun x v h=>by simp[gp] at h;subst h;exact .b _
theorem amU : ∀x,∀v∈Am x,bU v:=fun x v h=>by simp[Am] at h;subst h;exact .s _
theorem rk : ∀x,∀v∈eI x,v.jM=true:=fun x v h=>by simp[eI] at h;subst h;rfl
theorem NX : ∀x,∀v∈gp x,v.jM=true:=fun x v h=>by simp[gp] at h;subst h;rfl
theorem amV : ∀x,∀v∈Am x,v.jM=true:=fun x v h=>by simp[Am] at h;subst h;rfl
theorem amJ {l:List aC}(h:∀x∈l,bU x):bU (.dg l):= .dg h
theorem Nn : ∀x∈([]:List aC),bU x:=fun x h=>by simp at h
theorem vN {a:aC}{l:List aC}(h:bU a)(t:∀x∈l,bU x): ∀x∈a::l,bU x:=fun x U=>by
 rcases dS.1 U with e|e
 ·rw[e];exact h
 exact t x e
theorem uV {cm:Nat->Option Nat}{eA tj c sz:Nat}(cj:cm eA=some tj)(h:bT):(bK eA c sz h).map (pG cm)=bK tj c sz h:=by simp only[bK,List.map_cons,List.map_nil,aja cj]
theorem JN {a9:ic}{eA tj c eQ sz:Nat}(hm:∀k,a9 tj (k+eQ)=some (eA,k+c))(h:bT):DG a9 (bK eA c sz h) (bK tj eQ sz h):=⟨ajb hm h,trivial⟩
theorem amW (eA c sz:Nat): ∀x,∀v∈bK eA c sz x,bU v:=fun x v h=>by simp[bK] at h;subst h;exact ajc _ _ _ x
theorem DH {α:Type}{sz:Nat}{cS:hp}{f:α->List aC}{P:List (List α)}{raw:List a1}{eA c:Nat}{tW:List a1}{bO:hp->Bool}(e:raw=P.map (lf cS sz f))(af:∀x,∀v∈f x,Pure v)(aZ:tW.length=c)(aX:cS≠ .gone)(bF:bO cS=true)
 {h:bT} (aa:uh P h=true):DF eA (tW++raw) bO (bK eA c sz h) (ft sz f (jW P h)):=⟨ajd e af aZ aX bF aa,trivial⟩
theorem C0 {α:Type}{p:α->Bool}{l:List α}(h:l.all p=true): ∀x∈l,p x=true:=List.all_eq_true.1 h
theorem amX {bI:Type}{sz:Nat}{f:bI->List aC}: ∀l,∀v∈ft sz f l,v.jM=true:=fun l v h=>by simp[ft] at h;subst h;rfl
theorem amY {bI:Type}{sz:Nat}{f:bI->List aC}: ∀l,∀v∈df sz f l,v.jM=true:=fun l v h=>by simp[df] at h;subst h;rfl
theorem nB {α:Type}{f:α->List aC}(h:∀x,∀v∈f x,v.jM=true){cm:Nat->Option Nat}(x:α):(f x).map (pG cm)=f x:=by refine(aoq fun v bf=> ?_).trans (List.map_id _);have:=h x v bf;cases v<;>simp[aC.jM] at this<;>simp[pG,aC.jM]
theorem amQ : ∀x,∀v∈G9 x,v.jM=true:=fun x v h=>by simp[G9] at h;subst h;rfl
def ah:Nat->List (fP×Bool)->List (fP×Bool)
 | 0,l=>l
 | n+1,l=>alH::ah n l
def dt:Nat->List (fP×Bool)->List (fP×Bool)
 | 0,l=>l
 | n+1,l=>alI::dt n l
def ag (a:fP)(l:List (fP×Bool)):List (fP×Bool):=(a,true)::l
def gN (n:Nat)(r:aC)(fm:Bool)(fH:List Nat:=[]):fP:= .call {ac:=List.replicate n ii,r:=r,fm:=fm,fH:=fH}
def bg:List Nat->List (Nat×mQ)
 | []=>[]
 | n::l=>(n,ii)::bg l
def akx (n:Nat):mQ:= .bh (.bY (.len n))
structure sy where
 x:Option Nat
 env:List (Nat×aC)
 rows:List (List a1)
def sy.e (o:sy):Al:=match o.x with
 | some i=> .exit i
 | none=> .ret
def sy.c8 (o:sy):S:=dj o.env o.rows
def sy.alJ (o:sy):bD:= .sub o.e o.env o.rows
theorem sy.ne (o:sy):o.e.x≠ .normal:=by unfold sy.e;split<;>simp[Al.x]
section
variable {P:Program} {N m:Nat} {α β:Type}
def Y7 (P:Program)(N m f:Nat)(p:List Nat)(s:S)(head:α->S)(out:β->sy):α⊕β->Prop
 | .inl a=>kG P N m (nodeAt (NB P f) p) .normal s (head a)
 | .inr r=>kG P N m (nodeAt (NB P f) p) (out r).e.x s (out r).c8
def Y8 (P:Program)(N m f:Nat)(p:List Nat)(head:α->S)(out:β->sy)(a:α)(r:β):Prop :=
 kG P N m (.loop (nodeAt (NB P f) p)) (out r).e.x (head a) (out r).c8
theorem agS {f:Nat}{p:List Nat}{b:α->Option (α⊕β)}{head:α->S}{out:β->sy}(h:∀a,bi (b a) (Y7 P N m f p (head a) head out)){a:α}{r:β}(ai:iter b a=some r):Y8 P N m f p head out a r :=
 (ahF (head:=head) (iX:=fun r=>(out r).e.x) (out:=fun r=>(out r).c8) (fun r=>(out r).ne) (fun a r ai=>by
   have:=h a r ai
   cases r with
   | inl ew=>exact this
   | inr fA=>exact this) a r ai).aku
end
theorem WK {a b c:Nat}(h:a+b<=c):a<=c:=by omega
theorem ND {bI:Type}{rx l3:List (List aC)}{f:bI->List aC}{xs br:List bI}(iX:rx=xs.map f)(j0:l3=br.map f){n:Nat}(h:n+br.length<=xs.length):n+l3.length<=rx.length:=by rw[iX,j0];simpa using h
theorem M3 {bI:Type}{l3:List (List aC)}{f:bI->List aC}{br:List bI}(j0:l3=br.map f){b c:Nat}(h:br.length*b<=c):l3.length*b<=c:=by rw[j0];simpa using h
theorem NE {bI:Type}{rx l3:List (List aC)}{f:bI->List aC}{xs br:List bI}(iX:rx=xs.map f)(n:Nat)(j0:l3=br.map f):rx.take n++l3++rx.drop (n+l3.length)=(xs.take n++br++xs.drop (n+br.length)).map f:=by rw[iX,j0];simp
theorem ahL {bI:Type}{rx:List (List aC)}{f:bI->List aC}{xs:List bI}(iX:rx=xs.map f)(bL n:Nat)(z:bI):rx.take bL++List.replicate n (f z)++rx.drop (bL+n)=(xs.take bL++List.replicate n z++xs.drop (bL+n)).map f:=by rw[iX];simp
theorem aio {bI:Type}{rx l3:List (List aC)}{f:bI->List aC}{xs br:List bI}(iX:rx=xs.map f)(j0:l3=br.map f):l3++rx.drop l3.length=(br++xs.drop br.length).map f:=by rw[iX,j0];simp
theorem aje {bI:Type}{l3:List (List aC)}{f:bI->List aC}{br:List bI}(j0:l3=br.map f){n:Nat}(h:br.length<=n):l3.length<=n:=by rw[j0];simpa using h
theorem WL {bI:Type}{xs br:List bI}{n m:Nat}(aS:n=xs.length)(hm:m<=n)(h:br.length<=m):n=(br++xs.drop br.length).length:=by simp;omega
theorem amR {bI:Type}(f:bI->List aC)(n:Nat)(z:bI):List.replicate n (f z)=(List.replicate n z).map f:=by simp
theorem aip {bI:Type}{rx:List (List aC)}{f:bI->List aC}{xs:List bI}(iX:rx=xs.map f){n:Nat}(h:n=xs.length):rx.length=n:=by rw[iX];simp[h]
section
variable {a b c d e f g h i j:Prop} {l:List Prop}
theorem ch.e1 (x1:a):ch [a]:= .c x1 .nil
theorem ch.cp (x1:a)(x2:b)(t:ch l):ch (a::b::l):= .c x1 (.c x2 t)
theorem ch.e2 (x1:a)(x2:b):ch [a,b]:= .cp x1 x2 .nil
theorem ch.kc (x1:a)(x2:b)(aw:c)(t:ch l):ch (a::b::c::l):= .c x1 (.cp x2 aw t)
theorem ch.bJ (x1:a)(x2:b)(aw:c):ch [a,b,c]:= .kc x1 x2 aw .nil
theorem ch.q4 (x1:a)(x2:b)(aw:c)(fS:d)(t:ch l):ch (a::b::c::d::l):= .c x1 (.kc x2 aw fS t)
theorem ch.c1 (x1:a)(x2:b)(aw:c)(fS:d):ch [a,b,c,d]:= .q4 x1 x2 aw fS .nil
theorem ch.pf (x1:a)(x2:b)(aw:c)(fS:d)(kM:e)(t:ch l):ch (a::b::c::d::e::l):= .c x1 (.q4 x2 aw fS kM t)
theorem ch.dl (x1:a)(x2:b)(aw:c)(fS:d)(kM:e):ch [a,b,c,d,e]:= .pf x1 x2 aw fS kM .nil
theorem ch.wP (x1:a)(x2:b)(aw:c)(fS:d)(kM:e)(bW:f)(t:ch l):ch (a::b::c::d::e::f::l):= .c x1 (.pf x2 aw fS kM bW t)
theorem ch.et (x1:a)(x2:b)(aw:c)(fS:d)(kM:e)(bW:f):ch [a,b,c,d,e,f]:= .wP x1 x2 aw fS kM bW .nil
theorem ch.a3 (x1:a)(x2:b)(aw:c)(fS:d)(kM:e)(bW:f)(fB:g)(mo:h)(t:ch l):ch (a::b::c::d::e::f::g::h::l):= .cp x1 x2 (.wP aw fS kM bW fB mo t)
theorem ch.ey (x1:a)(x2:b)(aw:c)(fS:d)(kM:e)(bW:f)(fB:g):ch [a,b,c,d,e,f,g]:= .c x1 (.et x2 aw fS kM bW fB)
theorem ch.gx (x1:a)(x2:b)(aw:c)(fS:d)(kM:e)(bW:f)(fB:g)(mo:h):ch [a,b,c,d,e,f,g,h]:= .cp x1 x2 (.et aw fS kM bW fB mo)
end
section
variable {α bI:Type}
theorem eu (f:bI->List aC)(l:List bI):l.map f=l.map f:=rfl
theorem eR (l:List bI):l.length=l.length:=rfl
theorem PF (cS:hp)(sz:Nat)(f:bI->List aC)(P:List (List bI)):P.map (lf cS sz f)=P.map (lf cS sz f):=rfl
theorem hz (x:α):x=x:=rfl
theorem cg:true=true:=rfl
theorem gg:false=false:=rfl
theorem bM (f:bI->List aC){l:List bI}{i:Nat}{x:bI}(h:l[i]? = some x):(l.map f)[i]? = some (f x):=Nk h
theorem c6 (f:bI->List aC){l:List bI}{j:Int}(h:j<l.length):j<((l.map f).length:Nat):=V2 h
theorem hJ (f:bI->List aC){l:List bI}{j:Nat}(h:j<l.length):j<(l.map f).length:=WE h
theorem alK (sz:Nat)(cS:hp){raw:List (List aC)}{f:bI->List aC}{l:List bI}(e:raw=l.map f):[a1.mk sz raw cS]=[a1.mk sz (l.map f) cS]:=ahH e
theorem vj (sz:Nat)(cS:hp){f:bI->List aC}(cq:∀x,∀v∈f x,Pure v)(l:List bI):CP [a1.mk sz (l.map f) cS]:=agN cq l
theorem fo (sz:Nat){f:bI->List aC}(cq:∀x,∀v∈f x,Pure v)(l:List bI):w9 [a1.mk sz (l.map f) .live]:=afM cq l
theorem amK {β:Type}{f:α->List aC}{g:β->List aC}{v:α->β}{eA:Nat}{kC:List a1}{bO:hp->Bool}{sz:Nat}{raw:List (List aC)}{l:List α}(e:raw=l.map f)(dm:∀y,(g y).length=sz)(bL n:Nat)
 (h : ∀x∈(l.drop bL).take n,DF eA kC bO (f x) (g (v x))):HG eA kC bO sz ((raw.drop bL).take n) ((((l.drop bL).take n).map v).map g):=by
 have h2:=ze (eA:=eA) (kC:=kC) (bO:=bO) (raw:=(raw.drop bL).take n) (xs:=(l.drop bL).take n) (f:=f) (lb e bL n) dm h rfl;rw[List.drop_zero,dP (by rw[lb e bL n,aok];exact dE _)] at h2;exact h2
theorem ui {sz:Nat}{f:bI->List aC}{x:Option bI}(h:x=none):lx (hd sz f x) (.gk sz none):=Xh (ahJ h)
theorem aky {sz:Nat}{f:bI->List aC}{x:Option bI}{y:bI}(h:x=some y):lx (hd sz f x) (.gk sz (some (f y))):=Xh (ahK h)
theorem tu {cm:Nat->Option Nat}(sz:Nat)(cS:hp){f:bI->List aC}(k5:bI->List aC){raw:List (List aC)}{xs:List bI}(e:raw=xs.map f)(h:∀x,(f x).map (pG cm)=k5 x):a1.mk sz (xs.map k5) cS=kE cm (a1.mk sz raw cS):=Xi e h
end
def av {bI:Type}(s:Nat)(f:bI->List aC)(l:List bI):List a1:=[a1.mk s (l.map f) .live]
def cY {bI:Type}(s:Nat)(f:bI->List aC)(l:List bI):a1:=a1.mk s (l.map f) .live
def dq {bI:Type}(s:Nat)(f:bI->List aC)(P:List (List bI)):List a1:=P.map (lf .live s f)
def I (n:Nat):bD:= .al (ah n [])
def bP (a:Nat)(x:fP)(b:Nat):List (fP×Bool):=ah a (ag x (ah b []))
def qN:List Nat->List Src
 | []=>[]
 | n::l=> .row n::qN l
def qn (l:List Nat):Nat->Option Nat:=qH 0 (qN l)
def lo (l:List Nat):Nat->Option Nat:=v5 (qN l)
section
variable {bI:Type}
theorem xS (T:Nat->Option Nat)(a d b c:Nat)(h:T d=some a)(aY:List bT):a1.mk 1 (aY.map (bK a b c)) .live=kE T (a1.mk 1 (aY.map (bK d b c)) .live):=tu 1 .live (bK a b c) (eu (bK d b c) aY) (uV h)
theorem l4 (T:Nat->Option Nat)(s:Nat){f:bI->List aC}(g:∀x,∀v∈f x,v.jM=true)(aY:List bI):a1.mk s (aY.map f) .live=kE T (a1.mk s (aY.map f) .live):=tu s .live f (eu f aY) (nB g)
theorem eK (T:Nat->Option Nat)(a d b c:Nat)(h:T d=some a)(aY:List bT):[a1.mk 1 (aY.map (bK a b c)) .live]=[a1.mk 1 (aY.map (bK d b c)) .live].map (kE T):=hM (xS T a d b c h aY) oX
theorem en (T:Nat->Option Nat)(s:Nat){f:bI->List aC}(g:∀x,∀v∈f x,v.jM=true)(P:List (List bI)):P.map (lf .live s f)=(P.map (lf .live s f)).map (kE T):=ob (PF .live s f P) (nB g)
theorem k6 (T:Nat->Option Nat)(s:Nat)(v w:List (List aC))(h:a1.mk s v .live=kE T (a1.mk s w .live)):[a1.mk s v .live]=[a1.mk s w .live].map (kE T):=hM h oX
theorem rK (s:Nat)(f:bI->List aC)(P:List (List bI)):pr (P.map (lf .live s f)):=MJ (PF .live s f P)
theorem lp (s:Nat)(v:List (List aC)):pr [a1.mk s v .live]:=oS rfl FD
theorem gE (f:bI->List aC)(l:List bI):l.map f=((l.map f).drop 0).take l.length:=l8 (eu f l) (eR l)
theorem f5 (f:bI->List aC)(l:List bI):0+l.length<=(l.map f).length:=ma (eu f l) (eR l)
theorem hE (f:bI->List aC)(l:List bI):l.length<=(l.map f).length:=mq (eu f l) (eR l)
theorem e5 (bI:Type):0=([]:List bI).length:=rfl
theorem gA (f:bI->List aC):([]:List (List aC))=([]:List bI).map f:=rfl
theorem alL (f:bI->List aC)(x:bI):1<=[f x].length:=dE _
theorem xT (f:bI->List aC)(x:bI):([f x].drop 0).take 1=[x].map f:=rfl
theorem gS (f:bI->List aC)(x:bI):0+1<=[f x].length:=dE _
theorem hr (f:bI->List aC)(l:List bI)(x:bI):(l++([x]:List bI)).length=l.length+(([f x].drop 0).take 1).length:=lY (eR l) (xT f x)
theorem akz (f:bI->List aC){l:List bI}{n:Nat}(h:n<=l.length)(x:bI):(l.take n++([x]:List bI)).length=n+(([f x].drop 0).take 1).length:=M2 h (xT f x)
theorem hK (f:bI->List aC)(l:List bI)(x:bI):(l.map f).take l.length++([f x].drop 0).take 1=(l++[x]).map f:=lr (eu f l) (eR l) (xT f x)
end
structure dU (α β:Type) where
 h:α->S
 o:β->sy
section
variable {P:Program} {N m:Nat} {α β:Type}
def dU.t (x:dU α β)(r:β):bD:=(x.o r).alJ
abbrev dX (P:Program)(N m f:Nat)(p:List Nat)(x:dU α β)(a:α):α⊕β->Prop:=Y7 P N m f p (x.h a) x.h x.o
theorem cR {f:Nat}{p:List Nat}{b:α->Option (α⊕β)}{x:dU α β}{a:α}{r:β}(ai:iter b a=some r)(h:∀ {a},bi (b a) (dX P N m f p x a)):Y8 P N m f p x.h x.o a r:=agS (fun _=>h) ai
end
def _root_.List.aN {bI:Type}(a b:List bI):List bI:=a.append b
def ed:List us:=[.id,.id,.id,.id,.id]
def kl:List us:=[.id,.id,.id,.id,.id,.id]
def u9 (a b:Nat):n0:={lm:=some (a,b)}
def sm (l:List (Nat×Nat)):n0:={bC:=l}
def OW (l:List (Nat×Nat))(a b:Nat):n0:={bC:=l,lm:=some (a,b)}
theorem mM:(1000000000:Int)≠0:=by decide
theorem nu {bI:Type}(f:bI->List aC)(l:List bI):(([]:List (List aC)).take 0)++l.map f=([]++l).map f:=lr (gA f) (e5 bI) (eu f l)
theorem ap (s:Nat){bI:Type}{f:bI->List aC}(cq:∀x,∀v∈f x,Pure v)(l:List bI):CP [a1.mk s (l.map f) .live]:=vj s .live cq l
theorem cO (s:Nat){bI:Type}{raw:List (List aC)}{f:bI->List aC}{l:List bI}(e:raw=l.map f):[a1.mk s raw .live]=[a1.mk s (l.map f) .live]:=alK s .live e
theorem hi (s:Nat){bI:Type}(f:bI->List aC)(P:List (List bI)):P.map (lf .live s f)=P.map (lf .live s f):=rfl
theorem anj (s:Nat){bI:Type}(f:bI->List aC)(l:List bI)(i:Int)(x:bI):[a1.mk s ((l.map f).set (0+i.toNat) (f x)) .live]=[a1.mk s ((l.set (0+i.toNat) x).map f) .live]:=cO s (tI (eu f l) (0+i.toNat) x)
theorem hQ {bI:Type}(f:bI->List aC)(l:List bI)(i:Int)(x:bI):(l.map f).set (0+i.toNat) (f x)=(l.set (0+i.toNat) x).map f:=tI (eu f l) (0+i.toNat) x
theorem hY {bI:Type}(l:List bI)(i:Int)(x:bI):l.length=(l.set (0+i.toNat) x).length:=Nm (eR l) (0+i.toNat) x
def hG (n:Nat)(l:ar):fP:=gN n (.isl 1 (l.map eI)) false
def ia (n:Nat)(x:Int):fP:=gN n (.n .i64 x) true
def dY (n:Nat)(x:Bool):fP:=gN n (.b x) true
theorem sn {bI:Type}(l:List bI):bU (.bu 0 0 0 l.length):=bU.bu 0 0 0 l.length
theorem Yj (T:Nat->Option Nat)(a b:ar):[a1.mk 1 (a.map eI) .live,a1.mk 1 (b.map eI) .live]=[a1.mk 1 (a.map eI) .live,a1.mk 1 (b.map eI) .live].map (kE T):=hM (l4 T 1 rk a) (hM (l4 T 1 rk b) (oX (cm:=T)))
theorem ank (T:Nat->Option Nat)(a b c:ar):[a1.mk 1 (a.map eI) .live,a1.mk 1 (b.map eI) .live,a1.mk 1 (c.map eI) .live]=[a1.mk 1 (a.map eI) .live,a1.mk 1 (b.map eI) .live,a1.mk 1 (c.map eI) .live].map (kE T):=hM (l4 T 1 rk a) (hM (l4 T 1 rk b) (hM (l4 T 1 rk c) (oX (cm:=T))))
def d8 (n:Nat)(l:ar):Nat×aC:=(n,.isl 1 (l.map eI))
def fQ {bI:Type}(n:Nat)(l:List bI):Nat×aC:=(n,.bu 0 0 0 l.length)
def a2 (n:Nat)(x:Int):Nat×aC:=(n,.n .i64 x)
def l0 (a b:ar):List aC:=[.isl 1 (a.map eI),.isl 1 (b.map eI)]
def xE (l:ar):Ah:={a9:=[],d5:=[],ac:=[ii],r:= .bu 0 0 0 l.length,fV:=[av 1 eI l],im:=ii,jF:=[.pure],fH:=[],fm:=true}
def kb (n m:Nat):List (fP×Bool):=ah n (dt m (ag (.ab true) []))
def kH (n:Nat):List (fP×Bool):=ah n (ag (.ab false) [])
def anl (n m:Nat):List (fP×Bool):=dt n (ag (.ab false) (ah m []))
def mi (n:Nat):List (fP×Bool):=ag (.ab false) (ah n [])
def k3 (n m:Nat):List bD:=[.ab true,I n,.aU [] [] (bg [m])]
def mN (n r m:Nat):List bD:=[I n,.ab false,.aU [r] [.pure] (bg [m])]
def oe (n:Nat):List bD:=[I n,.ab false,.aU [] [] []]
def tk (n m:Nat):List bD:=[I n,.ab false,.aU [] [] (bg [m])]
def gD {bI:Type}(a:Nat)(l:List bI)(b:Nat):List (fP×Bool):=bP a (.aD l.length) b
def gI (a:Nat)(x:Int)(b:Nat):List (fP×Bool):=bP a (.cz (eI x)) b
theorem wy (l:ar):tf [av 1 eI l]:=yV (sP (rZ JM) y4) y3
def fM {bI:Type}(n:Nat)(g:List bI):Nat×mQ:=(n,akx g.length)
theorem DI (n:Int):([n]:ar).map eI=(([[.n .i64 n]]:List (List aC)).drop 0).take 1:=l8 (show [[.n .i64 n]]=([n]:ar).map eI from rfl) (show 1=([n]:ar).length from rfl)
theorem amB {P:Program}{t:TypeId}{w:World}(cj:P.underlying t=some (.int .u8))(aZ:P.cellsOf t=1):rj P w t G9 (fun _=>True) where
 pure:=agO
 size:=fun a=>aZ.symm
 opens:=fun h=>by obtain⟨n,rfl,-,hw⟩:=DataW.trod_int cj h;exact⟨n,trivial,.one rfl (.n _ _)⟩
theorem cT {x:Int}(h1:-9223372036854775808<=x)(h2:x<9223372036854775808):R x=x:=by
 simp only[R,IntKind.wrap,IntKind.signed,IntKind.bits];have:((2:Int) ^ 64)=18446744073709551616:=by decide
 have zP:((2:Int) ^ 63)=9223372036854775808:=by decide
 simp;omega
theorem la {x:Int}:nq x↔ -9223372036854775808<=x/\x<9223372036854775808:=by
 have h1:IntKind.min .i64 = -9223372036854775808:=by decide
 have h2:IntKind.max .i64=9223372036854775807:=by decide
 simp only[nq,Lit.wf,h1,h2,dQ,decide_eq_true_eq];omega
theorem agT {α β:Type}{f:α->Option (α⊕β)}{s:Nat->α}{r:β}(n:Nat): ∀(k:Nat),(∀i,k<=i->i<k+n->f (s i)=some (.inl (s (i+1))))->f (s (k+n))=some (.inr r)->iter f (s k)=some r:=by
 induction n with
 | zero =>
  intro k _ h;rw[iter];simp at h;simp[h]
 | succ n ih =>
  intro k h1 h2;rw[iter,h1 k (dE _) (by omega)];simp;exact ih (k+1) (fun i J ak=>h1 i (by omega) (by omega)) (by rw[show k+1+n=k+(n+1) by omega];exact h2)
def scan {α β:Type}(t:Nat->α->Option β):Nat->List α->Option β
 | _,[]=>none
 | n,x::xs=>match t n x with
  | some b=>some b
  | none=>scan t (n+1) xs
theorem IP {α β:Type}{f:Int->Option (Int⊕β)}{t:Nat->α->Option β}{e:β}: ∀(xs:List α) (k:Nat),
 (∀n x,xs[n]? = some x->f ((k+n:Nat):Int)=some (match t (k+n) x with|some b=> .inr b|none=> .inl ((k+n+1:Nat):Int)))->f ((k+xs.length:Nat):Int)=some (.inr e)->iter f (k:Int)=some ((scan t k xs).getD e)
 | [],k,_,h=>by rw[iter];simp at h;simp[h,scan]
 | x::xs,k,h1,h2=>by
  have J:=h1 0 x rfl;simp only[Nat.add_zero] at J;rw[iter,J];simp only[scan]
  cases cj:t k x with
  | some b=>simp
  | none =>
   simp only[dC,dx];refine IP xs (k+1) (fun n y aV=> ?_) ?_
   ·have:=h1 (n+1) y (by simpa using aV);rw[show k+(n+1)=k+1+n by omega] at this;exact this
   rw[show k+1+xs.length=k+(x::xs).length by simp;omega];exact h2
theorem kd {α β:Type}{f:α->Option (α⊕β)}(fp:α->Prop)(m:α->Nat)(Q:β->Prop)
 (h : ∀a,fp a->(∃ew,f a=some (.inl ew)/\fp ew/\m ew<m a)\/ ∃r,f a=some (.inr r)/\Q r) : ∀a,fp a-> ∃r,iter f a=some r/\Q r:=by
 have key : ∀n a,m a<=n->fp a-> ∃r,iter f a=some r/\Q r:=by
  intro n
  induction n with
  | zero =>
   intro a hm cQ;rcases h a cQ with ⟨ew,-,-,J⟩|⟨r,h1,h2⟩
   ·omega
   exact⟨r,by rw[iter,h1];rfl,h2⟩
  | succ n ih =>
   intro a hm cQ;rcases h a cQ with ⟨ew,h1,h2,J⟩|⟨r,h1,h2⟩
   ·obtain⟨r,r1,r2⟩:=ih ew (by omega) h2;exact⟨r,by rw[iter,h1];exact r1,r2⟩
   exact⟨r,by rw[iter,h1];rfl,h2⟩
 exact fun a cQ=>key (m a) a (dE _) cQ
theorem MK {α:Type}{f:Int×List α->Option ((Int×List α)⊕List α)}(xs ad:List α)(h0:ad.length=xs.length)
 (NW : ∀(n:Nat) x row,xs[n]? = some x->row.length=xs.length->f ((n:Int),row)=some (.inl (((n+1:Nat):Int),row.set n x)))
 (Di : ∀row,f ((xs.length:Int),row)=some (.inr row)):iter f (0,ad)=some xs:=by
 have h:=agT (f:=f) (s:=fun n=>((n:Int),xs.take n++ad.drop n)) (r:=xs) xs.length 0 (fun i _ aa=> ?_) ?_
 ·simpa using h
 ·have lj:i<xs.length:=by omega
  rw[NW i xs[i] _ (dz lj) (by simp;omega)];congr 3;apply aol;intro j;rw[aog];simp only[dD,List.length_take,List.length_drop,List.getElem?_append,an9,aoo];by_cases aq:i=j
  ·subst aq;have e1:min (i+1) xs.length=i+1:=(by omega);simp[e1,lj];omega
  rw[dA aq];by_cases ez:j<i
  ·have e1:j<min i xs.length:=(by omega);have e2:j<min (i+1) xs.length:=(by omega);rw[dw e1,dw e2,dw ez,dw (by omega)]
  have e1 : ¬j<min i xs.length:=(by omega);have e2 : ¬j<min (i+1) xs.length:=(by omega);rw[dA e1,dA e2];congr 1;omega
 simp only[dG];rw[Di];simp[h0]
theorem amr {α β:Type}{f:α->Option (α⊕β)}(Q:β->Prop)(h:∀a r,f a=some (.inr r)->Q r): ∀a r,iter f a=some r->Q r:=by
 apply iter.partial_correctness f (fun _ r=>Q r);intro it ih a r ai
 cases cq:f a with
 | none=>rw[cq] at ai;simp at ai
 | some x =>
  rw[cq] at ai
  cases x with
  | inl ew=>exact ih ew r ai
  | inr fA =>
   have i6:some fA=some r:=ai;obtain rfl:=dJ i6;exact h a _ cq
theorem M4 {α β bI:Type}{f:α->Option (α⊕β)}{g:α->Option (α⊕bI)}(h:β->bI)(fp:α->Prop)(cQ:∀a ew,fp a->f a=some (.inl ew)->fp ew)(akA:∀a,fp a->g a=(f a).map (Sum.map id h)):
 ∀a r,iter f a=some r->fp a->iter g a=some (h r):=by
 apply iter.partial_correctness f (fun a r=>fp a->iter g a=some (h r));intro it ih a r ai bF;have dm:=akA a bF
 cases cq:f a with
 | none=>rw[cq] at ai;simp at ai
 | some x =>
  rw[cq] at ai dm
  cases x with
  | inl ew =>
   rw[iter,dm];exact ih ew r ai (cQ a ew bF cq)
  | inr fA =>
   have i6:some fA=some r:=ai;obtain rfl:=dJ i6;rw[iter,dm];rfl
def wk {α jk β:Type}(g:Nat->jk->α->jk⊕β)(e:jk->β):List α->Nat->jk->β
 | [],_,s=>e s
 | x::xs,n,s=>match g n s x with
  | .inl b2=>wk g e xs (n+1) b2
  | .inr b=>b
theorem UZ {α jk oQ β:Type}{f:oQ->Option (oQ⊕β)}(c8:Nat->jk->oQ)(g:Nat->jk->α->jk⊕β)(e:jk->β)(fp:Nat->jk->Prop)(br:List α)
 (h : ∀n s x,fp n s->br[n]? = some x->f (c8 n s)=some (match g n s x with | .inl b2=> .inl (c8 (n+1) b2) | .inr b=> .inr b)/\ ∀b2,g n s x = .inl b2->fp (n+1) b2)
 (he : ∀s,fp br.length s->f (c8 br.length s)=some (.inr (e s))) : ∀(xs:List α) (n:Nat) (s:jk),br.drop n=xs->n<=br.length->fp n s->iter f (c8 n s)=some (wk g e xs n s)
 | [],n,s,bC,aS,cQ=>by have:n=br.length:=(by have:=congrArg List.length bC;simp at this;omega);subst this;rw[iter,he s cQ];rfl
 | x::xs,n,s,bC,aS,cQ=>by
  have U:br[n]? = some x:=(by have:=congrArg (·[0]?) bC;simpa using this);have ez:=gm U;obtain⟨h1,h2⟩:=h n s x cQ U;rw[iter,h1];simp only[wk]
  cases dm:g n s x with
  | inr b=>rfl
  | inl b2 =>
   simp only[dC,dx];refine UZ c8 g e fp br h he xs (n+1) b2 ?_ (by omega) (h2 b2 dm);rw[<- List.drop_drop,bC];rfl
theorem Ut {α jk oQ β:Type}{f:oQ->Option (oQ⊕β)}(c8:Nat->jk->oQ)(g:Nat->jk->α->jk⊕β)(e:jk->β)(br:List α)
 (h : ∀n s x,br[n]? = some x->f (c8 n s)=some (match g n s x with | .inl b2=> .inl (c8 (n+1) b2) | .inr b=> .inr b))
 (he : ∀s,f (c8 br.length s)=some (.inr (e s))) (s:jk):iter f (c8 0 s)=some (wk g e br 0 s) :=
 UZ c8 g e (fun _ _=>True) br (fun n s x _ U=>⟨h n s x U,fun _ _=>trivial⟩) (fun s _=>he s) br 0 s rfl (Nat.zero_le _) trivial
theorem M5 {α:Type}{f:Int->Option (Int⊕(Unit⊕Unit))}(xs:List α)(p:α->Bool)
 (h : ∀(n:Nat) x,xs[n]? = some x->f n=some (if p x then .inl ((n+1:Nat):Int) else .inr (.inr ()))) (he:f xs.length=some (.inr (.inl ()))) :
 iter f 0=some (if xs.all p then .inl () else .inr ()):=by
 have:=Ut (f:=f) (jk:=Unit) (fun n _=>(n:Int)) (fun _ _ x=>if p x then .inl () else .inr (.inr ())) (fun _=> .inl ()) xs (fun n _ x U=>by rw[h n x U];cases p x<;>rfl) (fun _=>he) ();rw[show ((0:Nat):Int)=0 from rfl] at this;rw[this];congr 1
 have key : ∀(br:List α) (n:Nat),wk (fun (_:Nat) (_:Unit) x=>if p x then Sum.inl () else Sum.inr (Sum.inr ())) (fun _=>(Sum.inl ():Unit⊕Unit)) br n ()=if br.all p then .inl () else .inr ():=by
  intro br
  induction br with
  | nil=>intro n;rfl
  | cons y br ih =>
   intro n;simp only[wk,List.all_cons];by_cases af:p y=true
   ·simpa [af] using ih (n+1)
   simp[af]
 exact key xs 0
theorem U0 {α:Type}{f:Int->Option (Int⊕(Unit⊕Int))}(xs:List α)(p:α->Bool)
 (h : ∀(n:Nat) x,xs[n]? = some x->f n=some (if p x then .inr (.inr (n:Int)) else .inl ((n+1:Nat):Int))) (he:f xs.length=some (.inr (.inl ()))) :
 ∃r,iter f 0=some r/\((∃k:Int,r = .inr k/\0<=k/\xs.any p=true)\/(r = .inl ()/\xs.any p=false)):=by
 have:=Ut (f:=f) (jk:=Unit) (fun n _=>(n:Int)) (fun n _ x=>if p x then .inr (.inr (n:Int)) else .inl ()) (fun _=> .inl ()) xs (fun n _ x U=>by rw[h n x U];cases p x<;>rfl) (fun _=>he) ();rw[show ((0:Nat):Int)=0 from rfl] at this;refine⟨_,this,?_⟩
 have key : ∀(br:List α) (n:Nat),(∃k:Int,wk (fun (n:Nat) (_:Unit) x=>if p x then Sum.inr (Sum.inr (n:Int)) else Sum.inl ()) (fun _=>(Sum.inl ():Unit⊕Int)) br n () = .inr k/\0<=k/\br.any p=true) \/
  (wk (fun (n:Nat) (_:Unit) x=>if p x then Sum.inr (Sum.inr (n:Int)) else Sum.inl ()) (fun _=>(Sum.inl ():Unit⊕Int)) br n () = .inl ()/\br.any p=false):=by
  intro br
  induction br with
  | nil=>intro n;exact .inr ⟨rfl,rfl⟩
  | cons y br ih =>
   intro n;simp only[wk,List.any_cons];by_cases af:p y=true
   ·exact .inl ⟨n,by simp[af],by omega,by simp[af]⟩
   simpa [af] using ih (n+1)
 exact key xs 0
theorem i1 {n:Nat}(h:(n:Int)<9223372036854775807):R ((n:Int)+1)=((n+1:Nat):Int):=by rw[cT (by omega) (by omega)];rfl
def V:ar->Int
 | []=>0
 | x::xs=>x+1000000000*V xs
def c2 (l:ar):Prop:= ∀x∈l,0<=x/\x<1000000000
abbrev B (n:Nat):Int:=(1000000000:Int) ^ n
theorem nU (n:Nat):B (n+1)=1000000000*B n:=by rw[B,B,Int.pow_succ];exact Int.mul_comm _ _
theorem ps (n:Nat):1<=B n:=by
 induction n with
 | zero=>simp[B]
 | succ n ih=>rw[nU];omega
theorem Gh (m n:Nat):B (m+n)=B m*B n:=by rw[B,B,B,Int.pow_add]
theorem sW {m n:Nat}(h:m<=n):B m<=B n:=by
 induction n with
 | zero =>
  have:m=0:=(by omega);subst this;exact Int.le_refl _
 | succ n ih =>
  by_cases hm:m=n+1
  ·subst hm;exact Int.le_refl _
  have h1:=ih (by omega);have h2:=ps n;rw[nU];omega
theorem c2.tail {x:Int}{l:ar}(h:c2 (x::l)):c2 l:=fun y aV=>h y (by simp[aV])
theorem c2.head {x:Int}{l:ar}(h:c2 (x::l)):0<=x/\x<1000000000:=h x (by simp)
theorem c2.nil:c2 []:=fun _ h=>by simp at h
theorem c2.cons {x:Int}{l:ar}(h:0<=x/\x<1000000000)(aT:c2 l):c2 (x::l):=fun y aV=>by
 rcases dS.mp aV with rfl|h1
 ·exact h
 exact aT y h1
theorem c2.get {l:ar}(h:c2 l){n:Nat}{x:Int}(U:l[n]? = some x):0<=x/\x<1000000000:=h x (dH U)
theorem c2.take {l:ar}(h:c2 l)(n:Nat):c2 (l.take n):=fun x U=>h x (List.mem_of_mem_take U)
theorem c2.drop {l:ar}(h:c2 l)(n:Nat):c2 (l.drop n):=fun x U=>h x (List.mem_of_mem_drop U)
theorem c2.append {l m:ar}(h:c2 l)(c5:c2 m):c2 (l++m):=fun x U=>by
 rcases List.mem_append.mp U with h1|h1
 ·exact h x h1
 exact c5 x h1
theorem c2.set {l:ar}(h:c2 l){n:Nat}{x:Int}(U:0<=x/\x<1000000000):c2 (l.set n x):=fun y aV=>by
 rcases List.mem_or_eq_of_mem_set aV with h1|rfl
 ·exact h y h1
 exact U
theorem c2.OX (n:Nat):c2 (List.replicate n 0):=fun x U=>by have:=(List.mem_replicate.mp U).2;omega
theorem Dc:V []=0:=rfl
theorem mX (x:Int)(l:ar):V (x::l)=x+1000000000*V l:=rfl
theorem mC {l:ar}(h:c2 l):0<=V l:=by
 induction l with
 | nil=>simp[V]
 | cons x l ih =>
  have h1:=ih h.tail;have h2:=h.head;rw[mX];omega
theorem ow {l:ar}(h:c2 l):V l<B l.length:=by
 induction l with
 | nil=>simp[V,B]
 | cons x l ih =>
  have h1:=ih h.tail;have h2:=h.head;rw[mX,dI,nU];omega
theorem yW (a b:ar):V (a++b)=V a+B a.length*V b:=by
 induction a with
 | nil=>simp[V,B]
 | cons x a ih =>
  rw[List.cons_append,mX,mX,dI,nU,ih];grind
theorem NY (n:Nat):V (List.replicate n 0)=0:=by
 induction n with
 | zero=>rfl
 | succ n ih=>rw[List.replicate_succ,mX,ih];rfl
theorem uW {l:ar}{n:Nat}{x y:Int}(h:l[n]? = some y):V (l.set n x)=V l+(x-y)*B n:=by
 induction l generalizing n with
 | nil=>simp at h
 | cons z l ih =>
  cases n with
  | zero =>
   simp at h;subst h;rw[List.set_cons_zero,mX,mX];simp[B];omega
  | succ n =>
   rw[List.set_cons_succ,mX,mX,ih (by simpa using h),nU];grind
theorem y5 {l:ar}{n:Nat}(h:n<=l.length):V l=V (l.take n)+B n*V (l.drop n):=by have:=yW (l.take n) (l.drop n);rw[List.take_append_drop] at this;rw[this,List.length_take,Nat.min_eq_left h]
theorem vP {l:ar}{n:Nat}{x:Int}(h:l[n]? = some x):V (l.take (n+1))=V (l.take n)+B n*x:=by
 have aS:=gm h;have:l.take (n+1)=l.take n++[x]:=by rw[List.take_add_one,h];rfl
 rw[this,yW,List.length_take,Nat.min_eq_left (by omega)];simp[V]
theorem Vx {α:Type}{l:List α}{n:Nat}{x:α}(h:l[n]? = some x):l.drop n=x::l.drop (n+1):=by have aS:=gm h;rw[dz aS] at h;rw[List.drop_eq_getElem_cons aS];simp at h;rw[h]
theorem qx {l:ar}{n:Nat}{x:Int}(h:l[n]? = some x):V (l.drop n)=x+1000000000*V (l.drop (n+1)):=by rw[Vx h,mX]
def ga (l:ar):Prop:=c2 l/\ ∀x,l.getLast? = some x->x≠0
theorem ga.anm {l:ar}(h:ga l):c2 l:=h.1
theorem ga.nil:ga []:=⟨c2.nil,fun _ h=>by simp at h⟩
theorem ga.tail {x:Int}{l:ar}(h:ga (x::l)):ga l:=⟨h.1.tail,fun y aV=>h.2 y (by
 cases l with
 | nil=>simp at aV
 | cons z l=>simpa using aV)⟩
theorem tX {l:ar}(h:ga l)(aT:l≠[]):0<V l:=by
 induction l with
 | nil=>exact absurd rfl aT
 | cons x l ih =>
  have h1:=h.1.head;by_cases h2:l=[]
  ·subst h2;have:=h.2 x (by simp);simp[V];omega
  have:=ih h.tail h2;rw[mX];omega
theorem JX {l:ar}(h:ga l)(aT:l≠[]):B (l.length-1)<=V l:=by
 induction l with
 | nil=>exact absurd rfl aT
 | cons x l ih =>
  have h1:=h.1.head;by_cases h2:l=[]
  ·subst h2;have:=h.2 x (by simp);simp[V,B];omega
  have J:=ih h.tail h2;have ak:(x::l).length-1=(l.length-1)+1:=(by have:=aop.mpr h2;simp;omega);rw[mX,ak,nU];omega
def xU (n:Nat):ar:=if h:n=0 then [] else ((n % 1000000000:Nat):Int)::xU (n / 1000000000)
decreasing_by exact Nat.div_lt_self (Nat.pos_of_ne_zero h) (by decide)
def L (n:Int):ar:=xU n.toNat
theorem WM (n:Nat):ga (xU n)/\V (xU n)=n:=by
 induction n using Nat.strongRecOn with
 | ind n ih =>
  rw[xU];by_cases h:n=0
  ·subst h;simp[V,ga.nil]
  rw[dif_neg h];obtain⟨h1,h2⟩:=ih (n / 1000000000) (Nat.div_lt_self (Nat.pos_of_ne_zero h) (by decide));refine⟨⟨c2.cons (by omega) h1.1,fun x U=> ?_⟩,?_⟩
  ·by_cases J:xU (n / 1000000000)=[]
   ·rw[J] at U h2;simp[V] at U h2;omega
   refine h1.2 x ?_
   cases ak:xU (n / 1000000000) with
   | nil=>exact absurd ak J
   | cons z l=>rw[ak] at U;simpa using U
  rw[mX,h2];omega
theorem iQ (n:Int):ga (L n):=(WM _).1
theorem hO (n:Int):c2 (L n):=(iQ n).1
theorem eg {n:Int}(h:0<=n):V (L n)=n:=by rw[L,(WM _).2];omega
theorem ajf {a b:ar}(bF:ga a)(aW:ga b)(h:V a=V b):a=b:=by
 induction a generalizing b with
 | nil =>
  by_cases h1:b=[]
  ·exact h1.symm
  have:=tX aW h1;simp[V] at h;omega
 | cons x a ih =>
  cases b with
  | nil =>
   have:=tX bF (by simp);rw[h] at this;simp[V] at this
  | cons y b =>
   have h1:=bF.1.head;have h2:=aW.1.head;rw[mX,mX] at h;have J:x=y:=(by omega);have ak:=ih bF.tail aW.tail (by omega);rw[J,ak]
theorem wz {l:ar}(h:ga l):L (V l)=l:=ajf (iQ _) h (eg (mC h.1))
theorem xt {l:ar}{n:Int}(h:ga l)(bf:V l=n):l=L n:=by rw[<- bf,wz h]
theorem r3:L 0=[]:=by rw[L,xU];rfl
theorem Xj {n:Int}(h:n<=0):L n=[]:=by rw[L,Int.toNat_eq_zero.mpr h];exact r3
theorem hX {n:Int}{k:Nat}(h:0<=n):(L n).length<=k↔n<B k:=by
 constructor
 ·intro h1;have h2:=ow (hO n);rw[eg h] at h2;have:=sW h1;omega
 intro h1;by_cases h2:L n=[]
 ·rw[h2];simp
 have J:=JX (iQ n) h2;rw[eg h] at J;have ak:=aop.mpr h2;apply Nat.le_of_not_lt;intro au;have:=sW (m:=k) (n:=(L n).length-1) (by omega);omega
theorem ga.len {l:ar}(h:ga l){k:Nat}:l.length<=k↔V l<B k:=by
 have:=hX (n:=V l) (k:=k) (mC h.1)
 rwa [wz h] at this
theorem s6 {n:Int}:L n=[]↔n<=0:=by
 constructor
 ·intro h;apply Int.not_lt.mp;intro h1;have:=eg (n:=n) (by omega);rw[h] at this;simp[V] at this;omega
 exact Xj
theorem ga.pos {l:ar}(h:ga l):0<V l↔l≠[]:=by
 constructor
 ·intro h1 h2;subst h2;simp[V] at h1
 exact tX h
theorem ga.Np {l:ar}(aT:c2 l)(n:Nat)(h:∀x,l[n]? = some x->x≠0):ga (l.take (n+1))\/l.length<=n:=by
 by_cases aS:n<l.length
 ·refine .inl ⟨aT.take _,fun x U=>h x ?_⟩;rw[List.take_add_one,dz aS,show (some l[n]).toList=[l[n]] from rfl,List.getLast?_append] at U;rw[dz aS];exact U
 exact .inr (by omega)
theorem ga.one {x:Int}(h:0<x/\x<1000000000):ga [x]:=⟨c2.cons (by omega) c2.nil,fun y aV=>by simp at aV;omega⟩
theorem Jh {x:Int}(h:0<x/\x<1000000000):L x=[x]:=(xt (ga.one h) (by simp[V])).symm
def li (a b:Int):Int:=if a<b then -1 else if b<a then 1 else 0
theorem Ji {a b:ar}(bF:ga a)(aW:ga b)(h:a.length<b.length):V a<V b:=by
 have h1:=ow bF.1;have m8:b≠[]:=by intro h2;rw[h2] at h;simp at h
 have h2:=JX aW m8;have:=sW (m:=a.length) (n:=b.length-1) (by omega);omega
theorem V7 {a b:ar}(bF:c2 a)(aW:c2 b){n:Nat}{x y:Int}(U:a[n]? = some x)(aV:b[n]? = some y)(h:V (a.drop (n+1))=V (b.drop (n+1)))(OY:x<y):V a<V b:=by
 have h1:=y5 (Nat.le_of_lt (gm U));have h2:=y5 (Nat.le_of_lt (gm aV));rw[qx U] at h1;rw[qx aV,<- h] at h2;have J:=ow (bF.take n);have ak:=mC (aW.take n);rw[List.length_take,Nat.min_eq_left (Nat.le_of_lt (gm U))] at J;have au:=ps n;rw[h1,h2];generalize V (a.drop (n+1))=t at *;generalize V (a.take n)=p at *;generalize V (b.take n)=q at *;generalize B n=w at *;have:w*(x+1000000000*t)+w<=w*(y+1000000000*t):=by have aP:w*(x+1000000000*t+1)<=w*(y+1000000000*t):=dL (by omega) (by omega);rw[Int.mul_add,Int.mul_one] at aP;exact aP
 omega
theorem Vy {α:Type}{br:List α}{p:α->Bool}{n:Nat}{y:α}(aV:br[n]? = some y)(h:(br.take n).all p=true)(af:p y=true):(br.take (n+1)).all p=true:=by rw[List.take_add_one,aV,List.all_append,h];simp[af]
theorem WN {α:Type}{br:List α}{p:α->Bool}{n:Nat}{y:α}(aV:br[n]? = some y)(af:p y=false):br.all p=false:=by rw[List.all_eq_false];exact⟨y,dH aV,by simp[af]⟩
theorem agU {α β:Type}{f:Int×List β->Option ((Int×List β)⊕(List β⊕Unit))}(br:List α)(ok:α->Bool)(h:α->β)
 (bG : ∀(n:Nat) y row,br[n]? = some y->row.length=n->f ((n:Int),row)=some (if ok y then .inl (((n+1:Nat):Int),row++[h y]) else .inr (.inr ())))
 (he : ∀row,f ((br.length:Int),row)=some (.inr (.inl row))):iter f (0,[])=some (if br.all ok then .inl (br.map h) else .inr ()):=by
 obtain⟨r,ai,rfl⟩:=kd (f:=f) (fp:=fun w=> ∃n:Nat,w.1=n/\n<=br.length/\w.2=(br.take n).map h/\(br.take n).all ok=true) (m:=fun w=>br.length-w.1.toNat) (fun r=>r=if br.all ok then .inl (br.map h) else .inr ()) (by
  rintro⟨i,row⟩ ⟨n,h1,aS,h2,J⟩;simp only at h1 h2;subst h1 h2;by_cases aT:n=br.length
  ·subst aT;refine .inr ⟨_,he _,?_⟩;rw[List.take_length] at J ⊢;rw[J];rfl
  have aV:=dz (show n<br.length by omega);have d4:((br.take n).map h).length=n:=(by simp;omega);rw[bG n _ _ aV d4];by_cases an:ok br[n]=true
  ·refine .inl ⟨_,by rw[dw an],⟨n+1,rfl,by omega,?_,Vy aV J an⟩,by simp;omega⟩;simp only;rw[List.take_add_one,aV,show (some br[n]).toList=[br[n]] from rfl,List.map_append];rfl
  refine .inr ⟨_,by rw[dA an],?_⟩;rw[WN aV (by simpa using an)];rfl) (0,[]) ⟨0,rfl,by omega,by simp,by simp⟩
 exact ai
theorem U1 {α β:Type}{f:Int×List β->Option ((Int×List β)⊕(List β⊕Unit))}(br:List α)(ok:α->Bool)(h:α->β)(ad:List β)(h0:ad.length=br.length)
 (bG : ∀(n:Nat) y row,br[n]? = some y->row.length=br.length->f ((n:Int),row)=some (if ok y then .inl (((n+1:Nat):Int),row.set n (h y)) else .inr (.inr ())))
 (he : ∀row,f ((br.length:Int),row)=some (.inr (.inl row))):iter f (0,ad)=some (if br.all ok then .inl (br.map h) else .inr ()):=by
 obtain⟨r,ai,rfl⟩:=kd (f:=f) (fp:=fun w=> ∃n:Nat,w.1=n/\n<=br.length/\w.2.length=br.length/\w.2.take n=(br.take n).map h/\(br.take n).all ok=true) (m:=fun w=>br.length-w.1.toNat) (fun r=>r=if br.all ok then .inl (br.map h) else .inr ()) (by
  rintro⟨i,row⟩ ⟨n,h1,aS,hlen,h2,J⟩;simp only at h1 hlen h2;subst h1;by_cases aT:n=br.length
  ·subst aT;refine .inr ⟨_,he _,?_⟩;rw[List.take_length] at J h2;rw[dP (by omega)] at h2;rw[J,h2];rfl
  have aV:=dz (show n<br.length by omega);rw[bG n _ _ aV hlen];by_cases an:ok br[n]=true
  ·refine .inl ⟨_,by rw[dw an],⟨n+1,rfl,by omega,by simpa using hlen,?_,Vy aV J an⟩,by simp;omega⟩;simp only;rw[List.take_add_one,List.take_add_one,aV,aog,dw rfl,dw (by omega),List.take_set_of_le (by omega),h2,show (some br[n]).toList=[br[n]] from rfl,List.map_append];rfl
  refine .inr ⟨_,by rw[dA an],?_⟩;rw[WN aV (by simpa using an)];rfl) (0,ad) ⟨0,rfl,by omega,h0,by simp,by simp⟩
 exact ai
theorem U2 {α:Type}{P:Nat->α->Prop}: ∀(n:Nat),(∀k,k<n-> ∃y,P k y)-> ∃br:List α,br.length=n/\ ∀k y,br[k]? = some y->P k y
 | 0,_=>⟨[],rfl,fun k y h=>by simp at h⟩
 | n+1,h=>by
  obtain⟨br,h1,h2⟩:=U2 n (fun k aX=>h k (by omega));obtain⟨y,aV⟩:=h n (by omega);refine⟨br++[y],by simp[h1],fun k z cA=> ?_⟩;by_cases aX:k<br.length
  ·rw[aoj aX] at cA;exact h2 k z cA
  rw[aon (by omega)] at cA;have:k-br.length=0:=(by have:=gm cA;simp at this;omega);rw[this] at cA;simp at cA;have:k=n:=(by omega);subst this;rw[<- cA];exact aV
theorem ams {α jk oQ β:Type}{f:oQ->Option (oQ⊕β)}(c8:Nat->jk->oQ)(g:jk->α->jk)(e:jk->β)(fp:Nat->jk->Prop)(br:List α)
 (h : ∀n s x,fp n s->br[n]? = some x->f (c8 n s)=some (.inl (c8 (n+1) (g s x)))/\fp (n+1) (g s x))
 (he : ∀s,fp br.length s->f (c8 br.length s)=some (.inr (e s))) (kL:jk) (h0:fp 0 kL):iter f (c8 0 kL)=some (e (br.foldl g kL))/\fp br.length (br.foldl g kL):=by
 have key : ∀(xs:List α) (n:Nat) (s:jk),br.drop n=xs->n<=br.length->fp n s->iter f (c8 n s)=some (e (xs.foldl g s))/\fp br.length (xs.foldl g s):=by
  intro xs
  induction xs with
  | nil =>
   intro n s bC aS cQ;have:n=br.length:=(by have:=congrArg List.length bC;simp at this;omega);subst this;rw[iter,he s cQ];exact⟨rfl,cQ⟩
  | cons x xs ih =>
   intro n s bC aS cQ;have U:br[n]? = some x:=(by have:=congrArg (·[0]?) bC;simpa using this);have ez:=gm U;obtain⟨h1,h2⟩:=h n s x cQ U;rw[iter,h1];exact ih (n+1) (g s x) (by rw[<- List.drop_drop,bC];rfl) (by omega) h2
 exact key br 0 kL rfl (Nat.zero_le _) h0
theorem amt {Aw n k:Nat}(h:(List.range Aw)[n]? = some k):n=k/\k<Aw:=by have aS:=gm h;rw[List.length_range] at aS;rw[List.getElem?_range aS] at h;have:=dJ h;omega
section
variable {α β bI:Type}
theorem aH {o:Option β}{f:β->Option α}{x:β}{r:Option α}(h:o=some x)(k:f x=r):(o >>= f)=r:=by rw[h];exact k
theorem cB {p:Prop}[Decidable p] {x r:Option α} (h:p) (k:x=r):(if p then x else none)=r:=by rw[dw h];exact k
theorem gb {b:Bool}{x y r:α}(h:b=true)(k:x=r):(if b=true then x else y)=r:=by rw[dw h];exact k
theorem ie {b:Bool}{x y r:α}(h:b=false)(k:y=r):(if b=true then x else y)=r:=by rw[dA (by rw[h];exact Bool.false_ne_true)];exact k
theorem l5 {p:Prop}[Decidable p] {x y r:α} (h:p) (k:x=r):(if decide p=true then x else y)=r:=by rw[dw (decide_eq_true h)];exact k
theorem lC {p:Prop}[Decidable p] {x y r:α} (h : ¬p) (k:y=r):(if decide p=true then x else y)=r:=by rw[dA (by simpa using h)];exact k
theorem qo {b:Bool}{x y r:α}(h1:b=true->x=r)(h2:b=false->y=r):(if b=true then x else y)=r:=by
 cases b
 ·exact h2 rfl
 exact h1 rfl
theorem an1 {o:Option bI}{x r:α}{f:bI->α}(h:o=none)(k:x=r):o.elim x f=r:=by rw[h];exact k
theorem an2 {o:Option bI}{y:bI}{x r:α}{f:bI->α}(h:o=some y)(k:f y=r):o.elim x f=r:=by rw[h];exact k
theorem gt {l:List α}{i:Int}{n:Nat}{x:α}(e:i=n)(h:l[n]? = some x):l[i.toNat]? = some x:=by rw[e,dy];exact h
theorem ann {l:List α}{i:Int}{n:Nat}(e:i=n)(h:n<l.length):0<=i/\i<(l.length:Nat):=by omega
theorem xF {a b:Int}(h:a=b):(a == b)=true:=by simp[h]
theorem va {a b:Int}(h:a≠b):(a == b)=false:=by simp[h]
theorem wA {a b:Int}(h:a≠b):(a != b)=true:=by simp[h]
theorem Ha {a b:Int}(h:a=b):(a != b)=false:=by simp[h]
theorem qv {jk oQ:Type}{f:oQ->Option (oQ⊕β)}(c8:Nat->jk->oQ)(N:Nat)(fp:Nat->jk->Prop)(Q:β->Prop)
 (h : ∀n,n<N-> ∀s,fp n s->(∃b2,f (c8 n s)=some (.inl (c8 (n+1) b2))/\fp (n+1) b2)\/(∃r,f (c8 n s)=some (.inr r)/\Q r))
 (he : ∀s,fp N s-> ∃r,f (c8 N s)=some (.inr r)/\Q r) (kL:jk) (h0:fp 0 kL) : ∃r,iter f (c8 0 kL)=some r/\Q r:=by
 have key : ∀(d n:Nat) (s:jk),n+d=N->fp n s-> ∃r,iter f (c8 n s)=some r/\Q r:=by
  intro d
  induction d with
  | zero =>
   intro n s aS cQ;obtain rfl:n=N:=(by omega);obtain⟨r,h1,h2⟩:=he s cQ;exact⟨r,by rw[iter,h1];rfl,h2⟩
  | succ d ih =>
   intro n s aS cQ;rcases h n (by omega) s cQ with ⟨b2,h1,h2⟩|⟨r,h1,h2⟩
   ·obtain⟨r,J,ak⟩:=ih (n+1) b2 (by omega) h2;exact⟨r,by rw[iter,h1];exact J,ak⟩
   exact⟨r,by rw[iter,h1];rfl,h2⟩
 exact key N 0 kL (by omega) h0
theorem h4 {jk oQ:Type}{f:oQ->Option (oQ⊕β)}(c8:Nat->jk->oQ)(N:Nat)(fp:Nat->jk->Prop)(e:jk->β)
 (h : ∀n,n<N-> ∀s,fp n s-> ∃b2,f (c8 n s)=some (.inl (c8 (n+1) b2))/\fp (n+1) b2)
 (he : ∀s,fp N s->f (c8 N s)=some (.inr (e s))) (kL:jk) (h0:fp 0 kL) : ∃s,iter f (c8 0 kL)=some (e s)/\fp N s:=by
 obtain⟨r,h1,s,rfl,h2⟩:=qv c8 N fp (fun r=> ∃s,r=e s/\fp N s) (fun n aS s cQ=> .inl (h n aS s cQ)) (fun s cQ=>⟨_,he s cQ,s,rfl,cQ⟩) kL h0;exact⟨s,h1,h2⟩
end
def ct:Nat->(Nat->Rat)->Rat
 | 0,_=>0
 | n+1,f=>ct n f+f n
theorem gr {f g:Nat->Rat}: ∀ {n:Nat},(∀i,i<n->f i=g i)->ct n f=ct n g
 | 0,_=>rfl
 | n+1,h=>by rw[ct,ct,gr fun i aa=>h i (Nat.lt_succ_of_lt aa),h n (Nat.lt_succ_self n)]
theorem nP : ∀ {n:Nat} {f:Nat->Rat},(∀i,i<n->f i=0)->ct n f=0
 | 0,_,_=>rfl
 | n+1,f,h=>by rw[ct,nP fun i aa=>h i (Nat.lt_succ_of_lt aa),h n (Nat.lt_succ_self n)];grind
theorem yP (f g:Nat->Rat): ∀n,ct n (fun i=>f i+g i)=ct n f+ct n g
 | 0=>by simp only[ct];grind
 | n+1=>by simp only[ct,yP f g n];grind
theorem tE (f g:Nat->Rat): ∀n,ct n (fun i=>f i-g i)=ct n f-ct n g
 | 0=>by simp only[ct];grind
 | n+1=>by simp only[ct,tE f g n];grind
theorem jU (c:Rat)(f:Nat->Rat): ∀n,ct n (fun i=>c*f i)=c*ct n f
 | 0=>by simp only[ct];grind
 | n+1=>by simp only[ct,jU c f n];grind
theorem vF (c:Rat)(f:Nat->Rat)(n:Nat):ct n (fun i=>f i*c)=ct n f*c:=by rw[gr (g:=fun i=>c*f i) (fun i _=>Rat.mul_comm _ _),jU,Rat.mul_comm]
theorem ra (f:Nat->Nat->Rat)(m:Nat): ∀n,ct n (fun i=>ct m (f i))=ct m (fun j=>ct n (fun i=>f i j))
 | 0=>by simp only[ct];exact(nP fun _ _=>rfl).symm
 | n+1=>by simp only[ct,ra f m n];rw[<- yP]
theorem lq {n k:Nat}(aX:k<n){f:Nat->Rat}(h:∀i,i<n->i≠k->f i=0):ct n f=f k:=by
 induction n with
 | zero=>omega
 | succ n ih =>
  rw[ct];by_cases e:k=n
  ·subst e;rw[nP fun i aa=>h i (by omega) (by omega)];grind
  rw[ih (by omega) fun i aa dd=>h i (by omega) dd,h n (by omega) (by omega)];grind
theorem vB {f:Nat->Rat}: ∀ {n:Nat},(∀i,i<n->0<=f i)->0<=ct n f
 | 0,_=>by simp only[ct];grind
 | n+1,h=>by have h1:=vB (n:=n) fun i aa=>h i (Nat.lt_succ_of_lt aa);have h2:=h n (Nat.lt_succ_self n);simp only[ct];grind
theorem agV {f g:Nat->Rat}{n:Nat}(h:∀i,i<n->f i<=g i):ct n f<=ct n g:=by
 have:=vB (n:=n) (f:=fun i=>g i-f i) fun i aa=>by have:=h i aa;grind
 rw[tE] at this;grind
theorem Mb {f:Nat->Rat}: ∀ {n:Nat},(∀i,i<n->0<=f i)->ct n f=0-> ∀i,i<n->f i=0
 | 0,_,_,i,aa=>by omega
 | n+1,h,bG,i,aa=>by
  have h1:=vB (n:=n) fun i aa=>h i (Nat.lt_succ_of_lt aa);have h2:=h n (Nat.lt_succ_self n);simp only[ct] at bG;by_cases e:i=n
  ·subst e;grind
  exact Mb (n:=n) (fun i aa=>h i (by omega)) (by grind) i (by omega)
theorem Mo (m:Nat)(f:Nat->Rat): ∀n,ct (m+n) f=ct m f+ct n (fun i=>f (m+i))
 | 0=>by simp only[ct,Nat.add_zero];grind
 | n+1=>by rw[<- Nat.add_assoc,ct,ct,Mo m f n];grind
def iS (K:Nat)(g:Nat->Rat):Prop:= ∃l,l<K/\0<g l/\ ∀hI,hI<l->g hI=0
def FN (K:Nat)(g:Nat->Rat):Prop:= ∀l,l<K->g l=0
theorem iS.congr {K:Nat}{g hc:Nat->Rat}(h:iS K g)(e:∀l,l<K->g l=hc l):iS K hc:=by obtain⟨l,h1,h2,J⟩:=h;exact⟨l,h1,by rw[<- e l h1];exact h2,fun hI aT=>by rw[<- e hI (by omega)];exact J hI aT⟩
theorem iS.not_zero {K:Nat}{g:Nat->Rat}(h:iS K g)(z:FN K g):False:=by obtain⟨l,h1,h2,J⟩:=h;have:=z l h1;grind
theorem IQ (K:Nat)(g:Nat->Rat):iS K g\/FN K g\/iS K (fun l=> - g l):=by
 induction K with
 | zero=>exact .inr (.inl fun l aT=>by omega)
 | succ K ih =>
  rcases ih with ⟨l,h1,h2,J⟩|h|⟨l,h1,h2,J⟩
  ·exact .inl ⟨l,by omega,h2,J⟩
  ·by_cases c:g K=0
   ·exact .inr (.inl fun l aT=>if e:l=K then e▸c else h l (by omega))
   by_cases p:0<g K
   ·exact .inl ⟨K,by omega,p,h⟩
   exact .inr (.inr ⟨K,by omega,by grind,fun hI aT=>by have:=h hI aT;grind⟩)
  exact .inr (.inr ⟨l,by omega,h2,J⟩)
theorem iS.not_neg {K:Nat}{g:Nat->Rat}(h:iS K g)(c5:iS K (fun l=> - g l)):False:=by
 obtain⟨l,h1,h2,J⟩:=h;obtain⟨k,l2,jt,my⟩:=c5;rcases Nat.lt_trichotomy l k with c|c|c
 ·have:=my l c;grind
 ·subst c;grind
 have:=J k c;grind
theorem iS.add {K:Nat}{g hc:Nat->Rat}(h:iS K g)(c5:iS K hc):iS K (fun l=>g l+hc l):=by
 obtain⟨l,h1,h2,J⟩:=h;obtain⟨k,l2,jt,my⟩:=c5;rcases Nat.lt_trichotomy l k with c|c|c
 ·exact⟨l,h1,by have:=my l c;grind,fun hI aT=>by have:=J hI aT;have:=my hI (by omega);grind⟩
 ·subst c;exact⟨l,h1,by grind,fun hI aT=>by have:=J hI aT;have:=my hI aT;grind⟩
 exact⟨k,l2,by have:=J k c;grind,fun hI aT=>by have:=J hI (by omega);have:=my hI aT;grind⟩
theorem iS.add_zero {K:Nat}{g hc:Nat->Rat}(h:iS K g)(c5:FN K hc):iS K (fun l=>g l+hc l) :=
 h.congr fun l aT=>by have:=c5 l aT;grind
theorem iS.mul {K:Nat}{g:Nat->Rat}(h:iS K g){c:Rat}(aZ:0<c):iS K (fun l=>c*g l):=by obtain⟨l,h1,h2,J⟩:=h;exact⟨l,h1,Rat.mul_pos aZ h2,fun hI aT=>by have:=J hI aT;grind⟩
theorem iS.WO {K:Nat}{g:Nat->Rat}{c:Rat}(h:iS K (fun l=>c*g l)):(0<c/\iS K g)\/(c<0/\iS K (fun l=> - g l)):=by
 rcases IQ K g with p|p|p
 ·by_cases aZ:0<c
  ·exact .inl ⟨aZ,p⟩
  by_cases h0:c=0
  ·exact(h.not_zero fun l _=>by grind).elim
  exact(h.not_neg ((p.mul (c:= -c) (by grind)).congr fun l _=>by grind)).elim
 ·exact(h.not_zero fun l aT=>by have:=p l aT;grind).elim
 by_cases aZ:c<0
 ·exact .inr ⟨aZ,p⟩
 by_cases h0:c=0
 ·exact(h.not_zero fun l _=>by grind).elim
 exact(h.not_neg ((p.mul (c:=c) (by grind)).congr fun l _=>by grind)).elim
theorem iS.NF {K:Nat}{v:Nat->Nat->Rat}: ∀ {n:Nat},iS K (fun l=>ct n (fun j=>v j l))-> ∃j,j<n/\iS K (v j)
 | 0,h=>(h.not_zero fun l _=>rfl).elim
 | n+1,h=>by
  by_cases c:iS K (v n)
  ·exact⟨n,by omega,c⟩
  have:iS K (fun l=>ct n (fun j=>v j l)):=by
   rcases IQ K (fun l=>ct n (fun j=>v j l)) with p|p|p
   ·exact p
   ·exact(c (h.congr fun l aT=>by have:=p l aT;simp only[ct];grind)).elim
   rcases IQ K (v n) with q|q|q
   ·exact(c q).elim
   ·exact(h.not_neg (p.congr fun l aT=>by have:=q l aT;simp only[ct];grind)).elim
   exact(h.not_neg ((p.add q).congr fun l aT=>by simp only[ct];grind)).elim
  obtain⟨j,h1,h2⟩:=iS.NF this;exact⟨j,by omega,h2⟩
structure bV where
 T:Nat->Nat->Rat
 B:Nat->Nat
structure g9 (e6 m N:Nat) (A:Nat->Nat->Rat) (t:bV):Prop where
 tl : ∀c,c<e6-> ∀j,j<=N->A c j=ct m (fun i=>A c (t.B i)*t.T i j)
 row : ∃W:Nat->Nat->Rat,∀i,i<m-> ∀j,j<=N->t.T i j=ct e6 (fun c=>W i c*A c j)
 unit : ∀i,i<m-> ∀k,k<m->t.T i (t.B k)=if i=k then 1 else 0
 jG : ∀i,i<m->t.B i<N
def bV.cn (t:bV)(r k:Nat):bV where
 T:=fun i j=>if i=r then t.T r j / t.T r k else t.T i j-t.T i k*(t.T r j / t.T r k)
 B:=fun i=>if i=r then k else t.B i
def bV.cr (m:Nat)(obj:Nat->Rat)(t:bV)(j:Nat):Rat:=obj j-ct m (fun i=>obj (t.B i)*t.T i j)
section
variable {e6 m N:Nat} {A:Nat->Nat->Rat} {t:bV}
theorem g9.inj (h:g9 e6 m N A t){i k:Nat}(aa:i<m)(aX:k<m)(e:t.B i=t.B k):i=k:=by
 have h1:=h.unit i aa k aX;rw[<- e,h.unit i aa i aa,dw rfl] at h1;by_cases c:i=k
 ·exact c
 rw[dA c] at h1;grind
theorem g9.cn (h:g9 e6 m N A t){r k:Nat}(ai:r<m)(aX:k<N)(af:t.T r k≠0):g9 e6 m N A (t.cn r k) where
 tl:=by
  intro c aZ j aq;rw[h.tl c aZ j aq];have oC:=h.tl c aZ k (by omega)
  have e:ct m (fun i=>A c ((t.cn r k).B i)*(t.cn r k).T i j)=ct m (fun i=>A c (t.B i)*t.T i j)+(t.T r j / t.T r k)*(A c k-ct m (fun i=>A c (t.B i)*t.T i k)):=by
   have e1 : ∀i,i<m->A c ((t.cn r k).B i)*(t.cn r k).T i j=(A c (t.B i)*t.T i j-(t.T r j / t.T r k)*(A c (t.B i)*t.T i k))+(if i=r then (t.T r j / t.T r k)*A c k else 0):=by
    intro i aa;simp only[bV.cn];by_cases e:i=r
    ·subst e;simp only[if_true];grind
    simp only[dA e];grind
   rw[gr e1,yP,tE,jU,lq ai (f:=fun i=>if i=r then (t.T r j / t.T r k)*A c k else 0) (fun i _ dd=>dA dd),dw rfl];grind
  rw[e,<- oC];grind
 row:=by
  obtain⟨W,hW⟩:=h.row;refine⟨fun i c=>if i=r then W r c / t.T r k else W i c-t.T i k*(W r c / t.T r k),fun i aa j aq=> ?_⟩;simp only[bV.cn];by_cases e:i=r
  ·subst e;simp only[if_true];rw[gr (f:=fun c=>W i c / t.T i k*A c j) (g:=fun c=>(1 / t.T i k)*(W i c*A c j)) (fun c _=>by grind),jU,<- hW i aa j aq];grind
  simp only[dA e];rw[gr (f:=fun c=>(W i c-t.T i k*(W r c / t.T r k))*A c j) (g:=fun c=>W i c*A c j-(t.T i k / t.T r k)*(W r c*A c j)) (fun c _=>by grind),tE,jU,<- hW i aa j aq,<- hW r ai j aq];grind
 unit:=by
  intro i aa eD oC;simp only[bV.cn];by_cases e:i=r
  ·subst e
   simp only[if_true];by_cases fb:eD=i
   ·subst fb;simp only[if_true];grind
   simp only[dA fb];rw[h.unit i aa eD oC,dA (fun x=>fb x.symm)];grind
  simp only[dA e];by_cases fb:eD=r
  ·subst fb;simp only[if_true,dA e];grind
  simp only[dA fb];rw[h.unit i aa eD oC,h.unit r ai eD oC,dA (c:=r=eD) (fun x=>fb x.symm)];grind
 jG:=fun i aa=>by
  simp only[bV.cn];split
  ·exact aX
  exact h.jG i aa
theorem g9.yM (h:g9 e6 m N A t)(obj:Nat->Rat){i:Nat}(aa:i<m):t.cr m obj (t.B i)=0:=by unfold bV.cr;rw[lq aa (f:=fun fs=>obj (t.B fs)*t.T fs (t.B i)) (fun k aX dd=>by rw[h.unit k aX i aa,dA dd];grind),h.unit i aa i aa,dw rfl];grind
theorem g9.I5 (h:g9 e6 m N A t)(obj:Nat->Rat){r k:Nat}(ai:r<m)(aX:k<N)(af:t.T r k≠0)(j:Nat):
 (t.cn r k).cr m obj j=t.cr m obj j-t.cr m obj k*(t.T r j / t.T r k):=by
 unfold bV.cr
 have e1 : ∀i,i<m->obj ((t.cn r k).B i)*(t.cn r k).T i j=(obj (t.B i)*t.T i j-(t.T r j / t.T r k)*(obj (t.B i)*t.T i k))+(if i=r then (t.T r j / t.T r k)*obj k else 0):=by
  intro i aa;simp only[bV.cn];by_cases e:i=r
  ·subst e;simp only[if_true];grind
  simp only[dA e];grind
 rw[gr e1,yP,tE,jU,lq ai (f:=fun i=>if i=r then (t.T r j / t.T r k)*obj k else 0) (fun i _ dd=>dA dd),dw rfl];grind
theorem g9.agW (h:g9 e6 m N A t){z:Nat->Rat}(cA:∀c,c<e6->ct N (fun j=>A c j*z j)=0){i:Nat}(aa:i<m):ct N (fun j=>t.T i j*z j)=0:=by obtain⟨W,hW⟩:=h.row;rw[gr (g:=fun j=>ct e6 (fun c=>W i c*(A c j*z j))) (fun j aq=>by rw[hW i aa j (by omega),<- vF];exact gr fun c _=>by grind),ra];exact nP fun c aZ=>by rw[jU,cA c aZ];grind
theorem g9.agX (h:g9 e6 m N A t)(obj:Nat->Rat){z:Nat->Rat}(cA:∀c,c<e6->ct N (fun j=>A c j*z j)=0):
 ct N (fun j=>z j*t.cr m obj j)=ct N (fun j=>obj j*z j):=by
 unfold bV.cr;rw[gr (g:=fun j=>obj j*z j-ct m (fun i=>obj (t.B i)*(t.T i j*z j))) (fun j _=>by rw[gr (f:=fun i=>obj (t.B i)*(t.T i j*z j)) (g:=fun i=>z j*(obj (t.B i)*t.T i j)) (fun i _=>by grind),jU];grind),tE,ra];rw[nP (n:=m) fun i aa=>by rw[jU,h.agW cA aa];grind];grind
def bV.dir (m:Nat)(t:bV)(s j:Nat):Rat:=(if j=s then 1 else 0)-ct m (fun i=>if t.B i=j then t.T i s else 0)
theorem g9.V8 (h:g9 e6 m N A t){s:Nat}(bG:s<N)(f:Nat->Rat):ct N (fun j=>f j*t.dir m s j)=f s-ct m (fun i=>f (t.B i)*t.T i s):=by unfold bV.dir;rw[gr (g:=fun j=>(if j=s then f s else 0)-ct m (fun i=>if t.B i=j then f (t.B i)*t.T i s else 0)) (fun j _=>by have e:ct m (fun i=>if t.B i=j then f (t.B i)*t.T i s else 0)=f j*ct m (fun i=>if t.B i=j then t.T i s else 0):=(by rw[<- jU];exact gr fun i _=>by split<;>grind);rw[e];split<;>grind),tE,lq bG (f:=fun j=>if j=s then f s else 0) (fun i _ dd=>dA dd),dw rfl,ra];congr 1;exact gr fun i aa=>by rw[lq (h.jG i aa) (f:=fun j=>if t.B i=j then f (t.B i)*t.T i s else 0) (fun j _ dd=>dA fun x=>dd x.symm),dw rfl]
theorem g9.agY (h:g9 e6 m N A t){s:Nat}(bG:s<N): ∀c,c<e6->ct N (fun j=>A c j*t.dir m s j)=0:=by intro c aZ;rw[h.V8 bG,<- h.tl c aZ s (by omega)];grind
theorem g9.agZ (h:g9 e6 m N A t){s:Nat}(bG:s<N)(obj:Nat->Rat):ct N (fun j=>obj j*t.dir m s j)=t.cr m obj s:=h.V8 bG obj
theorem g9.same {cw:bV}(h:g9 e6 m N A t)(c5:g9 e6 m N A cw)(e:∀i,i<m->t.B i=cw.B i){i:Nat}(aa:i<m){j:Nat}(aq:j<=N):t.T i j=cw.T i j:=by obtain⟨W,hW⟩:=h.row;rw[hW i aa j aq,gr (g:=fun c=>ct m (fun k=>W i c*(A c (cw.B k)*cw.T k j))) (fun c aZ=>by rw[c5.tl c aZ j aq,jU]),ra];rw[gr (g:=fun k=>(if i=k then cw.T k j else 0)) (fun k aX=>by rw[gr (g:=fun c=>(W i c*A c (cw.B k))*cw.T k j) (fun c _=>by grind),vF,<- e k aX,<- hW i aa (t.B k) (Nat.le_of_lt (h.jG k aX)),h.unit i aa k aX];split<;>grind)];rw[lq aa (f:=fun k=>if i=k then cw.T k j else 0) (fun k _ dd=>dA fun x=>dd x.symm),dw rfl]
end
def bV.mH (m N:Nat)(t:bV):Prop:= ∀i,i<m->0<=t.T i N
def bV.q5 (m K:Nat)(obj:Nat->Nat->Rat)(t:bV)(j:Nat):Prop:=iS K (fun l=>t.cr m (obj l) j)
structure o0 (m N K:Nat) (obj:Nat->Nat->Rat) (bO:Nat->Prop) (t:bV) (r s:Nat):Prop where
 bG:s<N
 Hb:bO s
 gs:t.q5 m K obj s
 least : ∀j,j<s->bO j-> ¬t.q5 m K obj j
 ai:r<m
 pos:0<t.T r s
 ratio : ∀i,i<m->0<t.T i s->t.T r N*t.T i s<=t.T i N*t.T r s
 tie : ∀i,i<m->0<t.T i s->t.T r N*t.T i s=t.T i N*t.T r s->t.B r<=t.B i
section
variable {e6 m N K:Nat} {A obj:Nat->Nat->Rat} {bO:Nat->Prop}
theorem o0.ok {t:bV}{r s:Nat}(b:o0 m N K obj bO t r s)(h:g9 e6 m N A t):g9 e6 m N A (t.cn r s):=h.cn b.ai b.bG (by have:=b.pos;grind)
theorem o0.GK {t:bV}{r s:Nat}(b:o0 m N K obj bO t r s)(h:t.mH m N):(t.cn r s).mH m N:=by
 intro i aa;have af:=b.pos;have akB:=h r b.ai;have a0:0<=t.T r N / t.T r s:=by rw[Rat.div_def];exact aot akB (Rat.le_of_lt (Rat.inv_pos.2 af))
 simp only[bV.cn];split
 ·exact a0
 by_cases c:0<t.T i s
 ·have h1:=b.ratio i aa c;have h2:t.T i s*(t.T r N / t.T r s)<=t.T i N:=(by have e:t.T i s*(t.T r N / t.T r s)=(t.T r N*t.T i s)*(1 / t.T r s):=(by grind);have e2:t.T i N=(t.T i N*t.T r s)*(1 / t.T r s):=(by grind);rw[e,e2];exact Rat.mul_le_mul_of_nonneg_right h1 (by rw[Rat.div_def,Rat.one_mul];exact Rat.le_of_lt (Rat.inv_pos.2 af)));grind
 have h1:=h i aa;have h2:0<=(- t.T i s)*(t.T r N / t.T r s):=aot (by grind) a0;grind
theorem Uu (f:Nat->Nat): ∀p,0<p-> ∃b,b<p/\ ∀k,k<p->f k<=f b
 | 0,h=>by omega
 | 1,_=>⟨0,by omega,fun k aX=>by rw[show k=0 by omega];exact dE _⟩
 | p+2,_=>by
  obtain⟨b,h1,h2⟩:=Uu f (p+1) (by omega);by_cases c:f (p+1)<=f b
  ·exact⟨b,by omega,fun k aX=>if e:k=p+1 then e▸c else h2 k (by omega)⟩
  exact⟨p+1,by omega,fun k aX=>if e:k=p+1 then e▸dE _ else Nat.le_trans (h2 k (by omega)) (by omega)⟩
theorem ag0 {t:Nat->bV}{r s:Nat->Nat}{p:Nat}(af:0<p)(h0:g9 e6 m N A (t 0))(f0:(t 0).mH m N)
 (c8 : ∀n,n<p->o0 m N K obj bO (t n) (r n) (s n)) (pL : ∀n,n<p->t (n+1)=(t n).cn (r n) (s n)) (back : ∀i,i<m->(t p).B i=(t 0).B i):False:=by
 have ok : ∀n,n<=p->g9 e6 m N A (t n)/\(t n).mH m N:=by
  intro n
  induction n with
  | zero=>intro _;exact⟨h0,f0⟩
  | succ n ih =>
   intro aS;obtain⟨a,b⟩:=ih (by omega);rw[pL n (by omega)];exact⟨(c8 n (by omega)).ok a,(c8 n (by omega)).GK b⟩
 have alM : ∀n,n<p->0<=(t n).T (r n) N / (t n).T (r n) (s n):=fun n aS=>by rw[Rat.div_def];exact aot ((ok n (by omega)).2 _ (c8 n aS).ai) (Rat.le_of_lt (Rat.inv_pos.2 (c8 n aS).pos))
 have gC : ∀n,n<=p->iS K (fun l=>(t 0).cr m (obj l) N-(t n).cr m (obj l) N)\/(FN K (fun l=>(t 0).cr m (obj l) N-(t n).cr m (obj l) N)/\ ∀k,k<n->(t k).T (r k) N=0):=by
  intro n
  induction n with
  | zero=>intro _;exact .inr ⟨fun l _=>by grind,fun k aX=>by omega⟩
  | succ n ih =>
   intro aS;have b:=c8 n (by omega);have kr:=b.pos;have e : ∀l,(t 0).cr m (obj l) N-(t (n+1)).cr m (obj l) N=((t n).T (r n) N / (t n).T (r n) (s n))*(t n).cr m (obj l) (s n)+((t 0).cr m (obj l) N-(t n).cr m (obj l) N):=fun l=>(by rw[pL n (by omega),(ok n (by omega)).1.I5 (obj l) b.ai b.bG (by grind)];grind);by_cases c:(t n).T (r n) N=0
   ·have z : ∀l,(t 0).cr m (obj l) N-(t (n+1)).cr m (obj l) N=(t 0).cr m (obj l) N-(t n).cr m (obj l) N:=fun l=>by rw[e,c];grind
    rcases ih (by omega) with h|⟨h1,h2⟩
    ·exact .inl (h.congr fun l _=>(z l).symm)
    refine .inr ⟨fun l aT=>by have:=h1 l aT;simp only at this ⊢;rw[z l];exact this,fun k aX=> ?_⟩;by_cases vk:k=n
    ·rw[vk];exact c
    exact h2 k (by omega)
   have PG:0<(t n).T (r n) N / (t n).T (r n) (s n):=(by have h1:=alM n (by omega);have h2:(t n).T (r n) N / (t n).T (r n) (s n)≠0:=fun x=>c (by grind);grind);have g1:iS K (fun l=>((t n).T (r n) N / (t n).T (r n) (s n))*(t n).cr m (obj l) (s n)):=iS.mul b.gs PG;left;rcases ih (by omega) with h|⟨h1,-⟩
   ·exact(g1.add h).congr fun l _=>(e l).symm
   exact(g1.add_zero h1).congr fun l _=>(e l).symm
 have zero : ∀k,k<p->(t k).T (r k) N=0:=by
  rcases gC p (dE _) with h|h
  ·refine(h.not_zero fun l _=> ?_).elim;unfold bV.cr;rw[gr (f:=fun i=>obj l ((t p).B i)*(t p).T i N) (g:=fun i=>obj l ((t 0).B i)*(t 0).T i N) fun i aa=>by rw[back i aa,(ok p (dE _)).1.same (ok 0 (by omega)).1 back aa (dE _)]];grind
  exact h.2
 have const : ∀n,n<=p-> ∀i,i<m->(t n).T i N=(t 0).T i N:=by
  intro n
  induction n with
  | zero=>intros;rfl
  | succ n ih =>
   intro aS i aa;rw[<- ih (by omega) i aa,pL n (by omega)];simp only[bV.cn];have:=zero n (by omega);split
   ·rename_i e;rw[e,this];grind
   rw[this];grind
 have OZ : ∀n,n<p-> ∀i,i<m->(t n).B i≠s n:=fun n aS i aa e=>by refine iS.not_zero (c8 n aS).gs fun l _=> ?_;rw[<- e];exact(ok n (by omega)).1.yM (obj l) aa
 have HH : ∀d n,n+d<=p-> ∀j,(∀i,i<m->(t n).B i≠j)->(∀k,n<=k->k<n+d->s k≠j)-> ∀i,i<m->(t (n+d)).B i≠j:=by
  intro d
  induction d with
  | zero=>intro n aS j h1 h2;exact h1
  | succ d ih =>
   intro n aS j h1 h2 i aa;rw[<- Nat.add_assoc,pL (n+d) (by omega)];simp only[bV.cn];split
   ·exact h2 (n+d) (by omega) (by omega)
   exact ih n (by omega) j h1 (fun k a b=>h2 k a (by omega)) i aa
 have Y9 : ∀d n,n+d<=p-> ∀i,i<m->(∀k,n<=k->k<n+d->r k≠i)->(t (n+d)).B i=(t n).B i:=by
  intro d
  induction d with
  | zero=>intros;rfl
  | succ d ih =>
   intro n aS i aa h2;rw[<- Nat.add_assoc,pL (n+d) (by omega)];simp only[bV.cn];rw[dA fun e=>h2 (n+d) (by omega) (by omega) e.symm];exact ih n (by omega) i aa (fun k a b=>h2 k a (by omega))
 have Za : ∀d n,n+d<=p-> ∀i,i<m-> ∀q,(t n).B i=q->(∀k,n<=k->k<n+d->(t k).B (r k)≠q)->(t (n+d)).B i=q:=by
  intro d
  induction d with
  | zero=>intro n aS i aa q h1 h2;exact h1
  | succ d ih =>
   intro n aS i aa q h1 h2;have J:=ih n (by omega) i aa q h1 (fun k a b=>h2 k a (by omega));rw[<- Nat.add_assoc,pL (n+d) (by omega)];simp only[bV.cn];rw[dA fun e=>h2 (n+d) (by omega) (by omega) (by rw[<- e];exact J)];exact J
 obtain⟨b,aW,XD⟩:=Uu s p af;have An:=c8 b aW;have alN : ∃a,a<p/\(t a).B (r a)=s b:=by apply Classical.byContradiction;intro dd;have kj : ∀a,a<p->(t a).B (r a)≠s b:=fun a bF e=>dd ⟨a,bF,e⟩;have e1:(t (b+1)).B (r b)=s b:=(by rw[pL b aW];simp[bV.cn]);have e2:=Za (p-(b+1)) (b+1) (by omega) (r b) An.ai (s b) e1 (fun k _ aX=>kj k (by omega));rw[show b+1+(p-(b+1))=p by omega,back _ An.ai] at e2;have bJ:=Za b 0 (by omega) (r b) An.ai (s b) e2 (fun k _ aX=>kj k (by omega));rw[dG] at bJ;exact OZ b aW _ An.ai bJ
 obtain⟨a,bF,a0⟩:=alN;have xV:=c8 a bF;have KM:=(ok a (by omega)).1;have Yk:=(ok b (by omega)).1;have O0:s a<s b:=by have h1:=XD a bF;have h2:s a≠s b:=fun e=>OZ a bF (r a) xV.ai (a0.trans e.symm);omega
 have XE:iS K (fun l=>ct N (fun j=>(t a).dir m (s a) j*(t b).cr m (obj l) j)) :=
  iS.congr xV.gs fun l _=>by rw[Yk.agX (obj l) (KM.agY xV.bG),KM.agZ xV.bG]
 obtain⟨j,aq,ajH⟩:=iS.NF (v:=fun j l=>(t a).dir m (s a) j*(t b).cr m (obj l) j) XE;have hmul:=ajH.WO;by_cases xW:j=s a
 ·have bC:(t a).dir m (s a) j=1:=by
   unfold bV.dir;rw[dw xW,nP fun i aa=>dA (by rw[xW];exact OZ a bF i aa)];grind
  rw[bC] at hmul;rcases hmul with ⟨-,h⟩|⟨h,-⟩
  ·rw[xW] at h;exact An.least (s a) O0 xV.Hb h
  grind
 by_cases XF : ∃i,i<m/\(t a).B i=j;rotate_left
 ·have bC:(t a).dir m (s a) j=0:=by
   unfold bV.dir;rw[dA xW,nP fun i aa=>dA fun e=>XF ⟨i,aa,e⟩];grind
  rw[bC] at hmul;rcases hmul with ⟨h,-⟩|⟨h,-⟩<;>grind
 obtain⟨i,aa,sk⟩:=XF;have bC:(t a).dir m (s a) j = - (t a).T i (s a):=by unfold bV.dir;rw[dA xW,lq aa (fun k aX dd=>dA fun e=>dd (KM.inj aX aa (e.trans sk.symm))),dw sk];grind
 rw[bC] at hmul
 have Yl : ∀k,k<m->(t b).B k≠j:=fun k aX e=>by
  have z:FN K (fun l=>(t b).cr m (obj l) j):=fun l _=>(by rw[<- e];exact Yk.yM (obj l) aX);rcases hmul with ⟨-,h⟩|⟨-,h⟩
  ·exact h.not_zero z
  exact h.not_zero fun l aT=>by have:=z l aT;simp only at this ⊢;grind
 have akC : ∃k,k<p/\s k=j:=by apply Classical.byContradiction;intro dd;have kj : ∀k,k<p->s k≠j:=fun k aX e=>dd ⟨k,aX,e⟩;have e1:=HH (p-b) b (by omega) j Yl (fun k _ aX=>kj k (by omega));rw[show b+(p-b)=p by omega] at e1;have e2:=HH a 0 (by omega) j (fun k aX=>by rw[<- back k aX];exact e1 k aX) (fun k _ aX=>kj k (by omega));rw[dG] at e2;exact e2 i aa sk
 obtain⟨k,aX,G7⟩:=akC;have ano:j<=s b:=by rw[<- G7];exact XD k aX
 have akD:bO j:=by rw[<- G7];exact(c8 k aX).Hb
 have ajI : ∃k,k<p/\r k=i:=by apply Classical.byContradiction;intro dd;have kj : ∀k,k<p->r k≠i:=fun k aX e=>dd ⟨k,aX,e⟩;have e1:=Y9 a 0 (by omega) i aa (fun k _ aX=>kj k (by omega));have e2:=Y9 b 0 (by omega) i aa (fun k _ aX=>kj k (by omega));rw[dG] at e1 e2;exact Yl i aa (by rw[e2,<- e1];exact sk)
 obtain⟨jt,Kr,ajJ⟩:=ajI;have cA:(t a).T i N=0:=by rw[const a (by omega) i aa,<- const jt (by omega) i aa,<- ajJ];exact zero jt Kr
 rcases hmul with ⟨h1,h2⟩|⟨h1,h2⟩
 ·have akE:j≠s b:=fun e=>by
   have:i=r a:=KM.inj aa xV.ai (by rw[sk,a0,e]);have af:=xV.pos;rw[<- this] at af;grind
  exact An.least j (by omega) akD h2
 have akE:j≠s b:=fun e=>by rw[e] at h2;exact iS.not_neg An.gs h2
 have kr:0<(t a).T i (s a):=by grind
 have:=xV.tie i aa kr (by rw[cA,zero a bF];grind);rw[a0,sk] at this;omega
end
theorem NG : ∀(M p:Nat) (f:Nat->Nat),(∀n,n<p->f n<M)->(∀a b,a<p->b<p->f a=f b->a=b)->p<=M
 | 0,p,f,h,_=>by
  cases p with
  | zero=>exact dE _
  | succ p=>have:=h 0 (by omega);omega
 | M+1,p,f,h,aa=>by
  by_cases c : ∃n,n<p/\f n=M
  ·obtain⟨nc,h0,e0⟩:=c
   have:=NG M (p-1) (fun n=>f (if n<nc then n else n+1)) (fun n aS=>by
    have h1:=h (if n<nc then n else n+1) (by split<;>omega);have h2:f (if n<nc then n else n+1)≠M:=fun e=>(by have:=aa _ _ (by split<;>omega) h0 (e.trans e0.symm);split at this<;>omega);omega) (fun a b bF aW e=>by
    have:=aa _ _ (by split<;>omega) (by split<;>omega) e;split at this<;>split at this<;>omega)
   omega
  have:=NG M p f (fun n aS=>by have h1:=h n aS;have h2:f n≠M:=fun e=>c ⟨n,aS,e⟩;omega) aa;omega
def code (N:Nat)(B:Nat->Nat):Nat->Nat
 | 0=>0
 | m+1=>code N B m+B m*N ^ m
theorem Jj {N:Nat}{B:Nat->Nat}: ∀ {m:Nat},(∀i,i<m->B i<N)->code N B m<N ^ m
 | 0,_=>by simp[code]
 | m+1,h=>by have h1:=Jj (m:=m) fun i aa=>h i (by omega);have h2:=h m (by omega);have J:(B m+1)*N ^ m<=N*N ^ m:=aob _ h2;rw[Nat.add_mul] at J;rw[code,Nat.pow_succ,Nat.mul_comm (N ^ m) N];omega
theorem Vz {N:Nat}{B tv:Nat->Nat}: ∀ {m:Nat},(∀i,i<m->B i<N)->(∀i,i<m->tv i<N)->code N B m=code N tv m-> ∀i,i<m->B i=tv i
 | 0,_,_,_,i,aa=>by omega
 | m+1,h,c5,e,i,aa=>by
  have h1:=Jj (m:=m) fun i aa=>h i (by omega);have h2:=Jj (m:=m) fun i aa=>c5 i (by omega);rw[code,code] at e;have kr:0<N ^ m:=(by omega);have e1:B m=tv m:=(by have hk:(code N B m+B m*N ^ m) / N ^ m=B m:=(by rw[Nat.add_mul_div_right _ _ kr,Nat.div_eq_of_lt h1];omega);have hq:(code N tv m+tv m*N ^ m) / N ^ m=tv m:=(by rw[Nat.add_mul_div_right _ _ kr,Nat.div_eq_of_lt h2];omega);rw[<- hk,<- hq,e]);rw[e1] at e;by_cases c:i=m
  ·rw[c];exact e1
  exact Vz (m:=m) (fun i aa=>h i (by omega)) (fun i aa=>c5 i (by omega)) (by omega) i (by omega)
section
variable {e6 m N K:Nat} {A obj:Nat->Nat->Rat} {bO:Nat->Prop}
structure GL (m N K:Nat) (obj:Nat->Nat->Rat) (bO:Nat->Prop) (t:Nat->bV) (r s:Nat->Nat) (p:Nat):Prop where
 c8 : ∀n,n<p->o0 m N K obj bO (t n) (r n) (s n)
 pL : ∀n,n<p->t (n+1)=(t n).cn (r n) (s n)
theorem GL.ok {t:Nat->bV}{r s:Nat->Nat}{p:Nat}(h:GL m N K obj bO t r s p)(h0:g9 e6 m N A (t 0))(f0:(t 0).mH m N): ∀n,n<=p->g9 e6 m N A (t n)/\(t n).mH m N:=by
 intro n
 induction n with
 | zero=>intro _;exact⟨h0,f0⟩
 | succ n ih =>
  intro aS;obtain⟨a,b⟩:=ih (by omega);rw[h.pL n (by omega)];exact⟨(h.c8 n (by omega)).ok a,(h.c8 n (by omega)).GK b⟩
theorem GL.short {t:Nat->bV}{r s:Nat->Nat}{p:Nat}(h:GL m N K obj bO t r s p)(h0:g9 e6 m N A (t 0))(f0:(t 0).mH m N):p+1<=N ^ m:=by
 have ok:=h.ok h0 f0;refine NG (N ^ m) (p+1) (fun n=>code N (t n).B m) (fun n aS=>Jj (ok n (by omega)).1.jG) fun a b bF aW e=> ?_
 have key : ∀a b,a<b->b<=p->code N (t a).B m=code N (t b).B m->False:=fun a b xG aW e=>by
  have gl:=Vz (ok a (by omega)).1.jG (ok b aW).1.jG e
  exact ag0 (t:=fun n=>t (a+n)) (r:=fun n=>r (a+n)) (s:=fun n=>s (a+n)) (p:=b-a) (by omega) (ok a (by omega)).1 (ok a (by omega)).2
   (fun n aS=>h.c8 (a+n) (by omega)) (fun n aS=>h.pL (a+n) (by omega)) (fun i aa=>by show (t (a+(b-a))).B i=(t a).B i;rw[show a+(b-a)=b by omega];exact(gl i aa).symm)
 rcases Nat.lt_trichotomy a b with c|c|c
 ·exact(key a b c (by omega) e).elim
 ·exact c
 exact(key b a c (by omega) e.symm).elim
theorem Uv {jk Zv:Type}{f:jk->Option (jk⊕Zv)}(aY:jk->bV->Prop)(E:jk->Zv->bV->Prop)
 (step : ∀a t,aY a t->g9 e6 m N A t->t.mH m N->(∃x,f a=some (.inr x)/\E a x t)\/ ∃ew r s,f a=some (.inl ew)/\o0 m N K obj bO t r s/\aY ew (t.cn r s))
 {a:jk} {t:bV} (da:aY a t) (h0:g9 e6 m N A t) (f0:t.mH m N) : ∃x ew cw,iter f a=some x/\aY ew cw/\g9 e6 m N A cw/\cw.mH m N/\E ew x cw:=by
 have key : ∀k p (T:Nat->bV) (r s:Nat->Nat),N ^ m<=p+k->GL m N K obj bO T r s p->g9 e6 m N A (T 0)->(T 0).mH m N-> ∀a,aY a (T p)-> ∃x ew cw,iter f a=some x/\aY ew cw/\g9 e6 m N A cw/\cw.mH m N/\E ew x cw:=by
  intro k
  induction k with
  | zero =>
   intro p T r s aX h h0 f0 a da;have:=h.short h0 f0;omega
  | succ k ih =>
   intro p T r s aX h h0 f0 a da;obtain⟨ok,lD⟩:=h.ok h0 f0 p (dE _);rcases step a (T p) da ok lD with ⟨x,U,he⟩|⟨ew,fA,b2,cq,aW,akF⟩
   ·exact⟨x,a,T p,by rw[iter,U];rfl,da,ok,lD,he⟩
   obtain⟨x,hq,t2,e1,e2⟩:=ih (p+1) (fun n=>if n<=p then T n else (T p).cn fA b2) (fun n=>if n<p then r n else fA) (fun n=>if n<p then s n else b2) (by omega)
    ⟨fun n aS=>by
     by_cases c:n<p
     ·rw[dw (by omega),dw c,dw c];exact h.c8 n c
     ·rw[dw (by omega),dA c,dA c,show n=p by omega];exact aW,
     fun n aS=>by
      by_cases c:n<p
      ·rw[dw (by omega),dw (by omega),dw c,dw c];exact h.pL n c
      rw[dA (by omega),dw (by omega),dA c,dA c,show n=p by omega]⟩ (by simpa using h0) (by simpa using f0) ew (by rw[dA (by omega)];exact akF)
   exact⟨x,hq,t2,by rw[iter,cq];exact e1,e2⟩
 exact key (N ^ m) 0 (fun _=>t) (fun _=>0) (fun _=>0) (by omega) ⟨fun n aS=>by omega,fun n aS=>by omega⟩ h0 f0 a da
theorem g9.value {t:bV}(h:g9 e6 m N A t)(o:Nat->Rat){z:Nat->Rat}(cA:∀c,c<e6->ct N (fun j=>A c j*z j)=A c N):
 ct N (fun j=>o j*z j)=ct m (fun i=>o (t.B i)*t.T i N)+ct N (fun j=>z j*t.cr m o j):=by
 obtain⟨W,hW⟩:=h.row;have ai : ∀i,i<m->ct N (fun j=>t.T i j*z j)=t.T i N:=fun i aa=>by rw[gr (g:=fun j=>ct e6 (fun c=>W i c*(A c j*z j))) (fun j aq=>by rw[hW i aa j (by omega),<- vF];exact gr fun c _=>by grind),ra,hW i aa N (dE _)];exact gr fun c aZ=>by rw[jU,cA c aZ]
 unfold bV.cr;rw[gr (f:=fun j=>z j*(o j-ct m fun i=>o (t.B i)*t.T i j)) (g:=fun j=>o j*z j-ct m (fun i=>o (t.B i)*(t.T i j*z j))) (fun j _=>by rw[gr (f:=fun i=>o (t.B i)*(t.T i j*z j)) (g:=fun i=>z j*(o (t.B i)*t.T i j)) (fun i _=>by grind),jU];grind),tE,ra];rw[gr (f:=fun i=>ct N fun j=>o (t.B i)*(t.T i j*z j)) (g:=fun i=>o (t.B i)*t.T i N) fun i aa=>by rw[jU,ai i aa]];grind
def bV.hj (m N:Nat)(t:bV)(j:Nat):Rat:=ct m (fun i=>if t.B i=j then t.T i N else 0)
theorem g9.FO {t:bV}(h:g9 e6 m N A t)(f:Nat->Rat):ct N (fun j=>f j*t.hj m N j)=ct m (fun i=>f (t.B i)*t.T i N):=by unfold bV.hj;rw[gr (g:=fun j=>ct m (fun i=>if t.B i=j then f (t.B i)*t.T i N else 0)) (fun j _=>by rw[<- jU];exact gr fun i _=>by split<;>grind),ra];exact gr fun i aa=>by rw[lq (h.jG i aa) (f:=fun j=>if t.B i=j then f (t.B i)*t.T i N else 0) (fun j _ dd=>dA fun x=>dd x.symm),dw rfl]
theorem g9.aiq {t:bV}(h:g9 e6 m N A t): ∀c,c<e6->ct N (fun j=>A c j*t.hj m N j)=A c N:=fun c aZ=>by rw[h.FO,<- h.tl c aZ N (dE _)]
theorem bV.mH.hj {t:bV}(h:t.mH m N)(j:Nat):0<=t.hj m N j:=vB fun i aa=>by split;exact h i aa;exact Rat.le_refl
theorem g9.amu {t:bV}(h:g9 e6 m N A t){i:Nat}(aa:i<m):t.hj m N (t.B i)=t.T i N:=by unfold bV.hj;rw[lq aa (fun k aX dd=>dA fun e=>dd (h.inj aX aa e)),dw rfl]
theorem bV.Mh {t:bV}{j:Nat}(h:∀i,i<m->t.B i≠j):t.hj m N j=0:=nP fun i aa=>dA (h i aa)
end
def skip {α:Type}(i:Nat)(f:Nat->α)(k:Nat):α:=f (if k<i then k else k+1)
def hv {α:Type}(M:Nat->α)(k:Nat)(v:α)(i:Nat):α:=if i=k then v else M i
def uj (n:Nat):Rat:=if n % 2=0 then 1 else -1
theorem ag1 (n:Nat):uj (n+1) = - uj n:=by
 unfold uj;by_cases h:n % 2=0
 ·rw[dw h,dA (by omega)]
 rw[dA h,dw (by omega)];grind
def jH:Nat->(Nat->Nat->Rat)->Rat
 | 0,_=>1
 | n+1,M=>ct (n+1) (fun i=>uj (i+n)*M i n*jH n (skip i M))
theorem IR : ∀ {n:Nat} {M DU:Nat->Nat->Rat},(∀i,i<n-> ∀c,c<n->M i c=DU i c)->jH n M=jH n DU
 | 0,_,_,_=>rfl
 | n+1,M,DU,h=>by rw[jH,jH];exact gr fun i aa=>by rw[h i aa n (by omega),IR (M:=skip i M) (DU:=skip i DU) fun k aX c aZ=> ?_];simp only[skip];exact h _ (by split<;>omega) c (by omega)
theorem Mc {α:Type}(M:Nat->α)(k:Nat)(v:α):skip k (hv M k v)=skip k M:=by funext i;simp only[skip,hv];rw[dA];split<;>omega
theorem Mp {α:Type}(M:Nat->α){i k:Nat}(v:α)(h:k<i):skip i (hv M k v)=hv (skip i M) k v:=by
 funext j;simp only[skip,hv];by_cases c:j=k
 ·subst c;rw[dw h,dw rfl]
 rw[dA c,dA];split<;>omega
theorem Mq {α:Type}(M:Nat->α){i k:Nat}(v:α)(h:i<k):skip i (hv M k v)=hv (skip i M) (k-1) v:=by
 funext j;simp only[skip,hv];by_cases c:j=k-1
 ·rw[dw c,dw (by split<;>omega)]
 rw[dA c,dA];split<;>omega
theorem CR : ∀ {n k:Nat} (M:Nat->Nat->Rat) (a b:Rat) (u v:Nat->Rat),k<n ->
 jH n (hv M k (fun c=>a*u c+b*v c))=a*jH n (hv M k u)+b*jH n (hv M k v)
 | 0,k,_,_,_,_,_,h=>by omega
 | n+1,k,M,a,b,u,v,aX=>by
  rw[jH,jH,jH,<- jU,<- jU,<- yP];refine gr fun i aa=> ?_;rcases Nat.lt_trichotomy i k with c|c|c
  ·rw[Mq _ _ c,Mq _ _ c,Mq _ _ c,CR (skip i M) a b u v (by omega)];simp only[hv,dA (Nat.ne_of_lt c)];grind
  ·subst c;rw[Mc,Mc,Mc];simp only[hv,if_true];grind
  rw[Mp _ _ c,Mp _ _ c,Mp _ _ c,CR (skip i M) a b u v (by omega)];simp only[hv,dA (Nat.ne_of_gt c)];grind
theorem ML {α:Type}(M:Nat->α)(k:Nat):hv M k (M k)=M:=by
 funext i;simp only[hv];split
 ·rename_i e;rw[e]
 rfl
theorem V9 {n k:Nat}(aX:k<n)(M:Nat->Nat->Rat)(x:Nat->Rat)(V:Nat->Nat->Rat): ∀m,jH n (hv M k (fun c=>ct m (fun i=>x i*V i c)))=ct m (fun i=>x i*jH n (hv M k (V i)))
 | 0=>by have:=CR M 0 0 (fun _=>0) (fun _=>0) aX;simp only[ct];rw[show (fun c=>(0:Rat))=(fun c:Nat=>0*(0:Rat)+0*0) from by funext c;grind,this];grind
 | m+1=>by have h1:=CR M 1 (x m) (fun c=>ct m (fun i=>x i*V i c)) (V m) aX;simp only[ct];rw[show (fun c=>(ct m fun i=>x i*V i c)+x m*V m c)=(fun c=>1*(ct m fun i=>x i*V i c)+x m*V m c) from by funext c;grind,h1,V9 aX M x V m];grind
theorem Jk : ∀ {n k:Nat} (M:Nat->Nat->Rat),k+1<n->M k=M (k+1)->jH n M=0
 | 0,k,_,h,_=>by omega
 | n+1,k,M,h,e=>by
  rw[jH]
  have bG:skip k M=skip (k+1) M:=by
   funext i;simp only[skip];by_cases c:i=k
   ·subst c;rw[dA (by omega),dw (by omega)];exact e.symm
   congr 1;split<;>split<;>omega
  have h0 : ∀i,i<n+1->i≠k->i≠k+1->uj (i+n)*M i n*jH n (skip i M)=0:=by
   intro i aa h1 h2
   have:jH n (skip i M)=0:=by
    by_cases c:i<k
    ·exact Jk (k:=k-1) _ (by omega) (by simp only[skip];rw[dA (by omega),dA (by omega),show k-1+1=k by omega];exact e)
    exact Jk (k:=k) _ (by omega) (by simp only[skip];rw[dw (by omega),dw (by omega)];exact e)
   rw[this];grind
  have e2 : ∀i,i<n+1->uj (i+n)*M i n*jH n (skip i M)=(if i=k then uj (k+n)*M k n*jH n (skip k M) else 0)+(if i=k+1 then uj (k+1+n)*M (k+1) n*jH n (skip (k+1) M) else 0):=by
   intro i aa;by_cases bh:i=k
   ·rw[dw bh,dA (by omega),bh];grind
   by_cases cp:i=k+1
   ·rw[dA bh,dw cp,cp];grind
   rw[dA bh,dA cp,h0 i aa bh cp];grind
  rw[gr e2,yP,lq (k:=k) (by omega) (fun i _ dd=>dA dd),lq (k:=k+1) (by omega) (fun i _ dd=>dA dd),dw rfl,dw rfl,<- bG,<- e,show k+1+n=k+n+1 by omega,ag1];grind
def Gi {α:Type}(M:Nat->α)(k i:Nat):α:=if i=k then M (k+1) else if i=k+1 then M k else M i
theorem ag2 {n k:Nat}(M:Nat->Nat->Rat)(h:k+1<n):jH n (Gi M k) = - jH n M:=by
 have two : ∀u v:Nat->Rat,jH n (hv (hv M k u) (k+1) v) = - jH n (hv (hv M k v) (k+1) u):=by
  intro u v;have h0 : ∀w:Nat->Rat,jH n (hv (hv M k w) (k+1) w)=0:=fun w=>Jk (k:=k) _ h (by funext c;simp[hv])
  have comm : ∀u v:Nat->Rat,hv (hv M k u) (k+1) v=hv (hv M (k+1) v) k u:=by
   intro u v;funext i;simp only[hv];by_cases bh:i=k
   ·subst bh;simp
   simp[bh]
  have k4 : ∀w u v:Nat->Rat,jH n (hv (hv M k w) (k+1) (fun c=>1*u c+1*v c))=1*jH n (hv (hv M k w) (k+1) u)+1*jH n (hv (hv M k w) (k+1) v):=fun w u v=>CR (hv M k w) 1 1 u v h;have ln : ∀w u v:Nat->Rat,jH n (hv (hv M k (fun c=>1*u c+1*v c)) (k+1) w)=1*jH n (hv (hv M k u) (k+1) w)+1*jH n (hv (hv M k v) (k+1) w):=fun w u v=>(by rw[comm,comm,comm];exact CR (hv M (k+1) w) 1 1 u v (by omega));have:=h0 (fun c=>1*u c+1*v c);rw[k4,ln,ln,h0,h0] at this;grind
 have e1:Gi M k=hv (hv M k (M (k+1))) (k+1) (M k):=by
  funext i;simp only[Gi,hv];by_cases bh:i=k
  ·subst bh;simp
  simp[bh]
 have e2:hv (hv M k (M k)) (k+1) (M (k+1))=M:=by rw[ML,ML]
 rw[e1,two,e2]
theorem NH : ∀(d:Nat) {n a:Nat} (M:Nat->Nat->Rat),a+d+1<n->M a=M (a+d+1)->jH n M=0
 | 0,n,a,M,h,e=>Jk M h e
 | d+1,n,a,M,h,e=>by have h1:=NH d (n:=n) (a:=a) (Gi M (a+d+1)) (by omega) (by simp only[Gi];rw[dA (by omega),dA (by omega)];rw[dw trivial];exact e);rw[ag2 M (by omega)] at h1;grind
theorem ahM {n a b:Nat}(M:Nat->Nat->Rat)(bF:a<n)(aW:b<n)(xG:a≠b)(e:M a=M b):jH n M=0:=by
 rcases Nat.lt_or_gt_of_ne xG with c|c
 ·exact NH (b-a-1) M (a:=a) (by omega) (by rw[show a+(b-a-1)+1=b by omega];exact e)
 exact NH (a-b-1) M (a:=b) (by omega) (by rw[show b+(a-b-1)+1=a by omega];exact e.symm)
def du (K:Nat)(x:Rat):Prop:= ∃z:Int,x=z/\z.natAbs<=K
theorem du.mono {K tw:Nat}{x:Rat}(h:du K x)(aX:K<=tw):du tw x:=by obtain⟨z,e,h⟩:=h;exact⟨z,e,Nat.le_trans h aX⟩
theorem du.add {K tw:Nat}{x y:Rat}(h:du K x)(c5:du tw y):du (K+tw) (x+y):=by obtain⟨a,rfl,bF⟩:=h;obtain⟨b,rfl,aW⟩:=c5;exact⟨a+b,by rw[Rat.intCast_add],by omega⟩
theorem du.neg {K:Nat}{x:Rat}(h:du K x):du K (-x):=by obtain⟨a,rfl,bF⟩:=h;exact⟨-a,by rw[Rat.intCast_neg],by omega⟩
theorem du.sub {K tw:Nat}{x y:Rat}(h:du K x)(c5:du tw y):du (K+tw) (x-y):=by have:=h.add c5.neg;rw[show x + -y=x-y by grind] at this;exact this
theorem du.mul {K tw:Nat}{x y:Rat}(h:du K x)(c5:du tw y):du (K*tw) (x*y):=by obtain⟨a,rfl,bF⟩:=h;obtain⟨b,rfl,aW⟩:=c5;exact⟨a*b,by rw[aos],by rw[Int.natAbs_mul];exact Nat.mul_le_mul bF aW⟩
theorem du.sum {K:Nat}{f:Nat->Rat}: ∀ {n:Nat},(∀i,i<n->du K (f i))->du (n*K) (ct n f)
 | 0,_=>⟨0,rfl,by simp⟩
 | n+1,h=>by have:=(du.sum (n:=n) fun i aa=>h i (by omega)).add (h n (by omega));rw[<- Nat.succ_mul] at this;exact this
theorem air (n:Nat):du 1 (uj n):=by
 unfold uj;split
 ·exact⟨1,rfl,by omega⟩
 exact⟨-1,rfl,by omega⟩
def m9 (K:Nat):Nat->Nat
 | 0=>1
 | n+1=>(n+1)*(K*m9 K n)
theorem xf {K:Nat}: ∀ {n:Nat} {M:Nat->Nat->Rat},(∀i,i<n-> ∀c,c<n->du K (M i c))->du (m9 K n) (jH n M)
 | 0,_,_=>⟨1,rfl,by simp[m9]⟩
 | n+1,M,h=>du.sum fun i aa=>by have:=((air (i+n)).mul (h i aa n (by omega))).mul (xf (n:=n) (M:=skip i M) fun k aX c aZ=>h _ (by split<;>omega) c (by omega));rw[Nat.one_mul] at this;exact this
theorem yX {K:Nat}(iN:0<K): ∀ {n k:Nat},n<=k->m9 K n<=m9 K k
 | n,0,h=>by rw[show n=0 by omega];exact dE _
 | n,k+1,h=>by
  by_cases c:n=k+1
  ·rw[c];exact dE _
  refine Nat.le_trans (yX iN (k:=k) (by omega)) ?_;rw[m9];have:1*m9 K k<=K*m9 K k:=aob _ iN;have h2:1*(K*m9 K k)<=(k+1)*(K*m9 K k):=aob _ (by omega);omega
section
variable {m N:Nat} {A:Nat->Nat->Rat} {t:bV}
def bV.D (m:Nat)(A:Nat->Nat->Rat)(t:bV):Rat:=jH m (fun i c=>A c (t.B i))
def bV.xX (m:Nat)(A:Nat->Nat->Rat)(t:bV)(i j:Nat):Rat:=jH m (hv (fun i c=>A c (t.B i)) i (fun c=>A c j))
theorem g9.xX (h:g9 m m N A t){i j:Nat}(aa:i<m)(aq:j<=N):t.xX m A i j=t.T i j*t.D m A:=by
 have e:t.xX m A i j=jH m (hv (fun i c=>A c (t.B i)) i (fun c=>ct m (fun k=>t.T k j*(fun i c=>A c (t.B i)) k c))):=by
  refine IR fun k aX c aZ=> ?_;simp only[hv];split
  ·show A c j=_;rw[h.tl c aZ j aq];exact gr fun k _=>Rat.mul_comm _ _
  rfl
 rw[e,V9 aa,lq aa fun k aX dd=>by rw[ahM _ aa aX (fun x=>dd x.symm) (by simp only[hv,if_true];rw[dA dd])];grind];rw[ML (fun i c=>A c (t.B i)) i];rfl
theorem g9.zt (h:g9 m m N A t){r k:Nat}(ai:r<m)(aX:k<N):(t.cn r k).D m A=t.T r k*t.D m A:=by rw[<- h.xX ai (by omega:k<=N)];refine IR fun i aa c aZ=> ?_;simp only[bV.cn,hv];split<;>rfl
end
def aQ {α:Type}(n:Nat)(f:Nat->α):List α:=(List.range n).map f
theorem cZ {α:Type}(n:Nat)(f:Nat->α):(aQ n f).length=n:=by simp[aQ]
theorem fX {α:Type}{n:Nat}{f:Nat->α}{i:Nat}(h:i<n):(aQ n f)[i]? = some (f i):=by simp[aQ,h]
theorem hl {α:Type}{n:Nat}{f:Nat->α}{i:Nat}(h:i<n):(aQ n f)[0+i]? = some (f i):=by rw[dG];exact fX h
theorem eM {α:Type}{n:Nat}{f g:Nat->α}(h:∀i,i<n->f i=g i):aQ n f=aQ n g :=
 aoq fun i aa=>h i (List.mem_range.1 aa)
theorem kZ {α:Type}(n:Nat)(f:Nat->α)(i:Nat)(v:α):(aQ n f).set i v=aQ n (fun k=>if k=i then v else f k):=by
 apply aol;intro k;rw[aog];simp only[aQ,aok,List.length_range,dK];by_cases h:i=k
 ·subst h
  by_cases c:i<n
  ·simp[c]
  simp[c]
 rw[dA h];by_cases c:k<n
 ·simp[c,Ne.symm h]
 simp[c]
theorem Nq {α:Type}{n:Nat}{f:Nat->α}{x:α}:x∈aQ n f↔ ∃i,i<n/\f i=x:=by simp[aQ]
theorem Wa {α β:Type}(n:Nat)(f:Nat->α)(g:α->β):(aQ n f).map g=aQ n (fun i=>g (f i)):=by simp[aQ]
theorem kX {α:Type}(n:Nat)(f:Nat->α):aQ (n+1) f=aQ n f++[f n]:=by simp[aQ,List.range_succ]
theorem fg {n:Nat}(h:n<1000000):R ((n:Int)+1)=((n+1:Nat):Int):=by rw[cT (by omega) (by omega)];omega
theorem c4 {α:Type}{p:Prop}[Decidable p] {x r:Option α} (k:x=r) (h:p:=by first|omega|(simp only;omega)|(rw[cZ];omega)|(rw[cZ,dy];omega)|(rw[cZ];simp only;omega)|(simp only;rw[cZ];omega)):(if p then x else none)=r:=cB h k
theorem eG {α:Type}{p:Prop}[Decidable p] {x y r:α} (k:x=r) (h:p:=by first|omega|(simp only;omega)):(if decide p=true then x else y)=r:=l5 h k
theorem fj {α:Type}{p:Prop}[Decidable p] {x y r:α} (k:y=r) (h : ¬p:=by first|omega|(simp only;omega)|(simp;done)):(if decide p=true then x else y)=r:=lC h k
def lk (x:Int):Int:=if x<0 then -1 else 1
def lU (m n:Nat)(a:Nat->Nat->Int)(b:Nat->Int)(i j:Nat):Int :=
 if j<n then lk (b i)*a i j else if j=n+m then lk (b i)*b i else if j=n+i then 1 else 0
def dh (m n:Nat)(a:Nat->Nat->Int)(b:Nat->Int)(i j:Nat):Rat:=(lU m n a b i j:Rat)
def jP (m n:Nat)(a:Nat->Nat->Int)(b:Nat->Int):bV:=⟨dh m n a b,fun i=>n+i⟩
def gC (m n j:Nat):Rat:=if n<=j/\j<n+m then -1 else 0
def rv (m n:Nat)(a:Nat->Nat->Int)(b:Nat->Int):Prop:= ∃x:Nat->Rat,(∀j,j<n->0<=x j)/\ ∀i,i<m->ct n (fun j=>(a i j:Rat)*x j)=(b i:Rat)
section
variable {m n:Nat} {a:Nat->Nat->Int} {b:Nat->Int}
theorem WQ (x:Int):((lk x:Int):Rat)≠0:=by unfold lk;split<;>simp<;>decide
theorem ahN (x:Int):0<=lk x*x:=by unfold lk;split<;>omega
theorem vS {i k:Nat}(aX:k<m):dh m n a b i (n+k)=if k=i then 1 else 0:=by
 unfold dh lU;rw[dA (by omega),dA (by omega)];by_cases c:k=i
 ·rw[dw c,dw (by omega)];rfl
 rw[dA c,dA (by omega)];rfl
theorem NI {i j:Nat}(aq:j<n):dh m n a b i j=((lk (b i):Int):Rat)*(a i j:Rat):=by unfold dh lU;rw[dw aq,aos]
theorem JB {i:Nat}:dh m n a b i (n+m)=((lk (b i):Int):Rat)*(b i:Rat):=by unfold dh lU;rw[dA (by omega),dw rfl,aos]
theorem ais {i:Nat}:0<=dh m n a b i (n+m):=by unfold dh lU;rw[dA (by omega),dw rfl];have:=ahN (b i);exact Rat.intCast_nonneg.2 this
theorem Wb:g9 m m (n+m) (dh m n a b) (jP m n a b) where
 tl:=fun c aZ j _=>by rw[lq aZ (f:=fun i=>dh m n a b c ((jP m n a b).B i)*(jP m n a b).T i j) (fun i aa dd=>by show dh m n a b c (n+i)*_=0;rw[vS aa,dA dd];grind)];show _=dh m n a b c (n+c)*dh m n a b c j;rw[vS aZ,dw rfl];grind
 row:=⟨fun i c=>if i=c then 1 else 0,fun i aa j _=>by rw[lq aa (f:=fun c=>(if i=c then (1:Rat) else 0)*dh m n a b c j) (fun c _ dd=>by rw[dA (Ne.symm dd)];grind),dw rfl];show dh m n a b i j=_;grind⟩
 unit:=fun i _ k aX=>by
  show dh m n a b i (n+k)=_;rw[vS aX];by_cases c:k=i
  ·rw[dw c,dw c.symm]
  rw[dA c,dA (Ne.symm c)]
 jG:=fun i aa=>by show n+i<n+m;omega
theorem U3:(jP m n a b).mH m (n+m):=fun i aa=>ais
theorem afN (j:Nat):(jP m n a b).cr m (gC m n) j=gC m n j+ct m (fun i=>dh m n a b i j):=by unfold bV.cr;rw[gr (g:=fun i=>(-1)*dh m n a b i j) (fun i aa=>by show gC m n (n+i)*dh m n a b i j=_;unfold gC;rw[dw (by omega)]),jU];grind
theorem WR:(jP m n a b).D m (dh m n a b)=1:=by
 have key : ∀k,k<=m->jH k (fun i c=>dh m n a b c (n+i))=1:=by
  intro k
  induction k with
  | zero=>intro _;rfl
  | succ k ih =>
   intro aX;rw[jH,lq (k:=k) (by omega) (fun i aa dd=>by rw[vS (by omega),dA dd];grind)];rw[vS (by omega),dw rfl,IR (DU:=fun i c=>dh m n a b c (n+i)) (fun i aa c aZ=>by simp only[skip];rw[dw aa]),ih (by omega)];unfold uj;rw[dw (by omega)];grind
 show jH m _=1;rw[show (fun i c=>dh m n a b c ((jP m n a b).B i))=fun i c=>dh m n a b c (n+i) from rfl,key m (dE _)]
theorem VA:(jP m n a b).D m (dh m n a b)≠0:=by rw[WR];grind
variable {t:bV}
theorem Ix (j:Nat):gC m n j<=0:=by unfold gC;split<;>grind
theorem adO (f:t.mH m (n+m)):0<=t.cr m (gC m n) (n+m):=by
 unfold bV.cr;have h1:gC m n (n+m)=0:=by unfold gC;rw[dA (by omega)]
 have h2:0<=ct m (fun i=> -(gC m n (t.B i))*t.T i (n+m)):=vB fun i aa=>aot (by have:= @Ix m n (t.B i);grind) (f i aa);rw[gr (g:=fun i=>(-1)*(gC m n (t.B i)*t.T i (n+m))) (fun i _=>by grind),jU] at h2;grind
theorem TZ (ok:g9 m m (n+m) (dh m n a b) t)(f:t.mH m (n+m))(h:∀i,i<m->n<=t.B i->t.T i (n+m)=0):rv m n a b:=by
 refine⟨t.hj m (n+m),fun j _=>f.hj j,fun i aa=> ?_⟩;have bG:=ok.aiq i aa;rw[Mo,JB] at bG
 have cA:ct m (fun k=>dh m n a b i (n+k)*t.hj m (n+m) (n+k))=0:=nP fun k aX=>by
  have:t.hj m (n+m) (n+k)=0:=nP fun fs lj=>by
   split
   ·rename_i e;exact h fs lj (by omega)
   rfl
  rw[this];grind
 rw[cA,gr (g:=fun j=>((lk (b i):Int):Rat)*((a i j:Rat)*t.hj m (n+m) j)) (fun j aq=>by rw[NI aq];grind),jU] at bG;have:=WQ (b i);grind
theorem Mr (f:t.mH m (n+m))(h:t.cr m (gC m n) (n+m)=0)(aW:∀i,i<m->t.B i<n+m): ∀i,i<m->n<=t.B i->t.T i (n+m)=0:=by
 unfold bV.cr at h;have h1:gC m n (n+m)=0:=by unfold gC;rw[dA (by omega)]
 have h2:ct m (fun i=> -(gC m n (t.B i))*t.T i (n+m))=0:=by rw[gr (g:=fun i=>(-1)*(gC m n (t.B i)*t.T i (n+m))) (fun i _=>by grind),jU];grind
 intro i aa aS;have J:=Mb (n:=m) (fun i aa=>aot (by have:= @Ix m n (t.B i);grind) (f i aa)) h2 i aa;have ak:gC m n (t.B i) = -1:=by unfold gC;rw[dw ⟨aS,aW i aa⟩]
 rw[ak] at J;grind
theorem Uw (ok:g9 m m (n+m) (dh m n a b) t)(f:t.mH m (n+m))(h:∀j,j<n->t.cr m (gC m n) j<=0)(bG:rv m n a b):t.cr m (gC m n) (n+m)=0:=by
 obtain⟨x,U,hA⟩:=bG;have cA : ∀c,c<m->ct (n+m) (fun j=>dh m n a b c j*(if j<n then x j else 0))=dh m n a b c (n+m):=fun c aZ=>by rw[Mo,nP (n:=m) (fun k aX=>by rw[dA (by omega)];grind),JB,<- hA c aZ,<- jU];rw[gr (g:=fun j=>((lk (b c):Int):Rat)*((a c j:Rat)*x j)) (fun j aq=>by rw[NI aq,dw aq];grind)];grind
 have bf:=ok.value (gC m n) cA
 rw[nP (n:=n+m) (f:=fun j=>gC m n j*(if j<n then x j else 0)) (fun j aq=>by
  by_cases c:j<n
  ·unfold gC;rw[dA (by omega)];grind
  rw[dA c];grind)] at bf
 have h1:ct (n+m) (fun j=>(if j<n then x j else 0)*t.cr m (gC m n) j)<=ct (n+m) (fun _=>(0:Rat)):=agV fun j aq=>by
  by_cases c:j<n
  ·rw[dw c];have:=aot (U j c) (show 0<= -(t.cr m (gC m n) j) by have:=h j c;grind);grind
  rw[dA c];grind
 rw[nP (n:=n+m) (f:=fun _=>(0:Rat)) fun _ _=>rfl] at h1;have h2:=adO (m:=m) (n:=n) f;have J:t.cr m (gC m n) (n+m) = - ct m (fun i=>gC m n (t.B i)*t.T i (n+m)):=by unfold bV.cr;have:gC m n (n+m)=0:=(by unfold gC;rw[dA (by omega)]);rw[this];grind
 grind
theorem TF (ok:g9 m m (n+m) (dh m n a b) t){s:Nat}(bG:s<n+m)(dm:0<t.cr m (gC m n) s): ∃i,i<m/\0<t.T i s:=by
 apply Classical.byContradiction;intro dd;have h1:ct m (fun i=>gC m n (t.B i)*t.T i s)>=0:=vB fun i aa=>by have h2 : ¬0<t.T i s:=fun c=>dd ⟨i,aa,c⟩;have:=aot (show 0<= -(gC m n (t.B i)) by have:= @Ix m n (t.B i);grind) (show 0<= -(t.T i s) by grind);grind
 unfold bV.cr at dm;have:= @Ix m n s;grind
end
def vb (m n:Nat)(a:Nat->Nat->Int)(b:Nat->Int)(x:Nat->Rat):Prop:=(∀j,j<n->0<=x j)/\ ∀i,i<m->ct n (fun j=>(a i j:Rat)*x j)=(b i:Rat)
def val (n:Nat)(o x:Nat->Rat):Rat:=ct n (fun j=>o j*x j)
def hZ (c:Nat->Rat)(l j:Nat):Rat:=match l with
 | 0=>c j
 | l+1=>if j=l then -1 else 0
def uQ (m n:Nat)(a:Nat->Nat->Int)(b:Nat->Int)(c x:Nat->Rat):Prop :=
 vb m n a b x/\ ∀y,vb m n a b y-> ¬iS (n+1) (fun l=>val n (hZ c l) y-val n (hZ c l) x)
def Bounded (m n:Nat)(a:Nat->Nat->Int)(b:Nat->Int)(c:Nat->Rat):Prop:= ∃V,∀y,vb m n a b y->val n c y<=V
section
variable {m n:Nat} {a:Nat->Nat->Int} {b:Nat->Int} {c:Nat->Rat}
theorem ag3 {x:Nat->Rat}{j:Nat}(aq:j<n):val n (hZ c (j+1)) x = - x j:=by unfold val;rw[lq aq (f:=fun i=>hZ c (j+1) i*x i) (fun i aa dd=>by simp only[hZ];rw[dA dd];grind)];simp only[hZ,if_true];grind
theorem uQ.unique {x y:Nat->Rat}(U:uQ m n a b c x)(aV:uQ m n a b c y):(∀j,j<n->x j=y j)/\val n c x=val n c y:=by
 rcases IQ (n+1) (fun l=>val n (hZ c l) y-val n (hZ c l) x) with h|h|h
 ·exact(U.2 y aV.1 h).elim
 ·refine⟨fun j aq=> ?_,?_⟩
  ·have:=h (j+1) (by omega);simp only[ag3 aq] at this;grind
  have:=h 0 (by omega);simp only at this;have e:hZ c 0=c:=rfl;rw[e] at this;grind
 exact(aV.2 x U.1 (h.congr fun l _=>by grind)).elim
theorem uQ.am2 {x y:Nat->Rat}(U:uQ m n a b c x)(aV:vb m n a b y):val n c y<=val n c x:=by apply Classical.byContradiction;intro h;refine U.2 y aV ⟨0,by omega,?_,fun l aT=>by omega⟩;have e:hZ c 0=c:=rfl;simp only[e];grind
structure LT (m n:Nat) (a:Nat->Nat->Int) (b:Nat->Int) (aI N:Nat) (u:bV):Prop where
 eqv : ∀x:Nat->Rat,(∀i,i<m->ct n (fun j=>(a i j:Rat)*x j)=(b i:Rat))↔ ∀i,i<aI->ct n (fun j=>u.T i j*x j)=u.T i N
 unit : ∀i,i<aI-> ∀k,k<aI->u.T i (u.B k)=if i=k then 1 else 0
 jG : ∀i,i<aI->u.B i<n
 lD:u.mH aI N
 PH:n<=N
variable {aI N:Nat} {u:bV}
theorem LT.FO (h:LT m n a b aI N u)(f:Nat->Rat):ct n (fun j=>f j*u.hj aI N j)=ct aI (fun i=>f (u.B i)*u.T i N):=by unfold bV.hj;rw[gr (g:=fun j=>ct aI (fun i=>if u.B i=j then f (u.B i)*u.T i N else 0)) (fun j _=>by rw[<- jU];exact gr fun i _=>by split<;>grind),ra];exact gr fun i aa=>by rw[lq (h.jG i aa) (f:=fun j=>if u.B i=j then f (u.B i)*u.T i N else 0) (fun j _ dd=>dA fun x=>dd x.symm),dw rfl]
theorem LT.hj (h:LT m n a b aI N u):vb m n a b (u.hj aI N):=by refine⟨fun j _=>h.lD.hj j,(h.eqv _).2 fun i aa=> ?_⟩;rw[h.FO,lq aa (f:=fun k=>u.T i (u.B k)*u.T k N) (fun k aX dd=>by rw[h.unit i aa k aX,dA (fun e=>dd e.symm)];grind),h.unit i aa i aa,dw rfl];grind
theorem LT.M6 (h:LT m n a b aI N u)(o:Nat->Rat){x:Nat->Rat}(U:vb m n a b x):ct n (fun j=>u.cr aI o j*x j)=val n o x-val n o (u.hj aI N):=by have ai:=(h.eqv x).1 U.2;unfold val bV.cr;rw[h.FO o,gr (g:=fun j=>o j*x j-ct aI (fun i=>o (u.B i)*(u.T i j*x j))) (fun j _=>by rw[gr (f:=fun i=>o (u.B i)*(u.T i j*x j)) (g:=fun i=>x j*(o (u.B i)*u.T i j)) (fun i _=>by grind),jU];grind),tE,ra];congr 1;exact gr fun i aa=>by rw[jU,ai i aa]
theorem LT.yM (h:LT m n a b aI N u)(o:Nat->Rat){i:Nat}(aa:i<aI):u.cr aI o (u.B i)=0:=by unfold bV.cr;rw[lq aa (f:=fun k=>o (u.B k)*u.T k (u.B i)) (fun k aX dd=>by rw[h.unit k aX i aa,dA dd];grind),h.unit i aa i aa,dw rfl];grind
theorem LT.m7 (h:LT m n a b aI N u)(dm:∀j,j<n-> ¬u.q5 aI (n+1) (hZ c) j):uQ m n a b c (u.hj aI N):=by
 refine⟨h.hj,fun y aV aT=> ?_⟩;have Hc:iS (n+1) (fun l=>ct n (fun j=>u.cr aI (hZ c l) j*y j)):=aT.congr fun l _=>(h.M6 (hZ c l) aV).symm;obtain⟨j,aq,af⟩:=iS.NF (v:=fun j l=>u.cr aI (hZ c l) j*y j) Hc;rcases(af.congr (hc:=fun l=>y j*u.cr aI (hZ c l) j) fun l _=>Rat.mul_comm _ _).WO with ⟨-,h2⟩|⟨h2,-⟩
 ·exact dm j aq h2
 have:=aV.1 j aq;grind
theorem LT.Ks (h:LT m n a b aI N u)(o:Nat->Rat){s:Nat}(bG:s<n)(dm:0<u.cr aI o s)(iq:∀i,i<aI-> ¬0<u.T i s): ¬Bounded m n a b o:=by
 rintro⟨V,hV⟩;have bC : ∀f:Nat->Rat,ct n (fun j=>f j*u.dir aI s j)=f s-ct aI (fun i=>f (u.B i)*u.T i s):=fun f=>by unfold bV.dir;rw[gr (g:=fun j=>(if j=s then f s else 0)-ct aI (fun i=>if u.B i=j then f (u.B i)*u.T i s else 0)) (fun j _=>by have e:ct aI (fun i=>if u.B i=j then f (u.B i)*u.T i s else 0)=f j*ct aI (fun i=>if u.B i=j then u.T i s else 0):=(by rw[<- jU];exact gr fun i _=>by split<;>grind);rw[e];split<;>grind),tE,lq bG (f:=fun j=>if j=s then f s else 0) (fun i _ dd=>dA dd),dw rfl,ra];congr 1;exact gr fun i aa=>by rw[lq (h.jG i aa) (f:=fun j=>if u.B i=j then f (u.B i)*u.T i s else 0) (fun j _ dd=>dA fun x=>dd x.symm),dw rfl]
 have pos : ∀j,0<=u.dir aI s j:=fun j=>by unfold bV.dir;have h1:0<=ct aI (fun i=> -(if u.B i=j then u.T i s else 0)):=vB fun i aa=>(by have:=iq i aa;split<;>grind);rw[gr (g:=fun i=>(-1)*(if u.B i=j then u.T i s else 0)) (fun i _=>by grind),jU] at h1;split<;>grind
 have Ks : ∀Ax:Rat,0<=Ax->vb m n a b (fun j=>u.hj aI N j+Ax*u.dir aI s j)/\val n o (fun j=>u.hj aI N j+Ax*u.dir aI s j)=val n o (u.hj aI N)+Ax*u.cr aI o s:=fun Ax PG=>by
  have Ym : ∀f:Nat->Rat,ct n (fun j=>f j*(u.hj aI N j+Ax*u.dir aI s j))=ct n (fun j=>f j*u.hj aI N j)+Ax*(f s-ct aI (fun i=>f (u.B i)*u.T i s)):=fun f=>(by rw[<- bC f,<- jU,<- yP];exact gr fun j _=>by grind);refine⟨⟨fun j _=> ?_,(h.eqv _).2 fun i aa=> ?_⟩,Ym o⟩
  ·have h1:=h.lD.hj (m:=aI) (N:=N) j;have h2:=aot PG (pos j);grind
  rw[Ym (u.T i),(h.eqv _).1 h.hj.2 i aa,lq aa (f:=fun k=>u.T i (u.B k)*u.T k s) (fun k aX dd=>by rw[h.unit i aa k aX,dA (fun e=>dd e.symm)];grind),h.unit i aa i aa,dw rfl];grind
 have Yn:=hV _ h.hj;have dd:u.cr aI o s≠0:=by grind
 obtain⟨r1,r2⟩:=Ks ((V-val n o (u.hj aI N)+1) / u.cr aI o s) (by rw[Rat.div_def];exact aot (by grind) (Rat.le_of_lt (Rat.inv_pos.2 dm)));have J:=hV _ r1;rw[r2] at J;have:(V-val n o (u.hj aI N)+1) / u.cr aI o s*u.cr aI o s=V-val n o (u.hj aI N)+1:=by grind
 grind
theorem LT.cn (h:LT m n a b aI N u){r k:Nat}(ai:r<aI)(aX:k<n)(af:u.T r k≠0)(cq:(u.cn r k).mH aI N):LT m n a b aI N (u.cn r k) where
 eqv:=fun x=>by
  rw[h.eqv x];have e1:ct n (fun j=>(u.cn r k).T r j*x j)=(1 / u.T r k)*ct n (fun j=>u.T r j*x j):=(by rw[<- jU];exact gr fun j _=>by simp only[bV.cn,if_true];grind);have e2 : ∀i,i≠r->ct n (fun j=>(u.cn r k).T i j*x j)=ct n (fun j=>u.T i j*x j)-(u.T i k / u.T r k)*ct n (fun j=>u.T r j*x j):=fun i aa=>(by rw[<- jU,<- tE];exact gr fun j _=>by simp only[bV.cn,dA aa];grind);have n1:(u.cn r k).T r N=(1 / u.T r k)*u.T r N:=(by simp only[bV.cn,if_true];grind);have n2 : ∀i,i≠r->(u.cn r k).T i N=u.T i N-(u.T i k / u.T r k)*u.T r N:=fun i aa=>(by simp only[bV.cn,dA aa];grind);constructor
  ·intro U i aa
   by_cases c:i=r
   ·rw[c,e1,n1,U r ai]
   rw[e2 i c,n2 i c,U i aa,U r ai]
  intro U;have Yo:ct n (fun j=>u.T r j*x j)=u.T r N:=(by have:=U r ai;rw[e1,n1] at this;have h2:u.T r k*((1 / u.T r k)*ct n (fun j=>u.T r j*x j))=u.T r k*((1 / u.T r k)*u.T r N):=(by rw[this]);grind);intro i aa;by_cases c:i=r
  ·rw[c];exact Yo
  have:=U i aa;rw[e2 i c,n2 i c,Yo] at this;grind
 unit:=by
  intro i aa eD oC;simp only[bV.cn];by_cases e:i=r
  ·subst e
   simp only[if_true];by_cases fb:eD=i
   ·subst fb;simp only[if_true];grind
   simp only[dA fb];rw[h.unit i aa eD oC,dA (fun x=>fb x.symm)];grind
  simp only[dA e];by_cases fb:eD=r
  ·subst fb;simp only[if_true,dA e];grind
  simp only[dA fb];rw[h.unit i aa eD oC,h.unit r ai eD oC,dA (c:=r=eD) (fun x=>fb x.symm)];grind
 jG:=fun i aa=>by
  simp only[bV.cn];split
  ·exact aX
  exact h.jG i aa
 lD:=cq
 PH:=h.PH
theorem LT.tok (h:LT m n a b aI N u)(aS:n<=N)(gJ:0<N):g9 aI aI N u.T u where
 tl:=fun c aZ j _=>by rw[lq aZ (f:=fun i=>u.T c (u.B i)*u.T i j) (fun i aa dd=>by rw[h.unit c aZ i aa,dA (fun e=>dd e.symm)];grind),h.unit c aZ c aZ,dw rfl];grind
 row:=⟨fun i c=>if i=c then 1 else 0,fun i aa j _=>by rw[lq aa (f:=fun c=>(if i=c then (1:Rat) else 0)*u.T c j) (fun c _ dd=>by rw[dA (Ne.symm dd)];grind),dw rfl];grind⟩
 unit:=h.unit
 jG:=fun i aa=>Nat.lt_of_lt_of_le (h.jG i aa) aS
def xu (n:Nat)(di:Nat->Bool)(x:Nat->Rat):Prop:= ∀j,j<n->di j=false->x j=0
structure qO (m n:Nat) (a:Nat->Nat->Int) (b:Nat->Int) (c:Nat->Rat) (l:Nat) (di:Nat->Bool) (V:Nat->Rat):Prop where
 low : ∀y,vb m n a b y->xu n di y-> ∀k,k<l->val n (hZ c k) y=V k
 up : ∀y,vb m n a b y-> ¬xu n di y-> ∃k,k<l/\val n (hZ c k) y<V k/\ ∀q,q<k->val n (hZ c q) y=V q
theorem qO.zero {di:Nat->Bool}(h:∀j,j<n->di j=true)(V:Nat->Rat):qO m n a b c 0 di V where
 low:=fun y _ _ k aX=>by omega
 up:=fun y _ cq=>(cq fun j aq e=>by rw[h j aq] at e;cases e).elim
theorem qO.next (h:LT m n a b aI N u){l:Nat}{di mx:Nat->Bool}{V:Nat->Rat}(s:qO m n a b c l di V)(dm:∀j,j<n->di j=true-> ¬0<u.cr aI (hZ c l) j)
 (mj : ∀j,j<n->mx j=(di j && !decide (u.cr aI (hZ c l) j<0))) : ∃HI,qO m n a b c (l+1) mx HI:=by
 have sub : ∀y,xu n mx y->xu n di y:=fun y aV j aq e=>aV j aq (by rw[mj j aq,e];rfl)
 have neg : ∀y,vb m n a b y->xu n di y-> ∀j,j<n->0<= -(u.cr aI (hZ c l) j*y j):=fun y aV cq j aq=>by
  cases e:di j with
  | false=>rw[cq j aq e];grind
  | true =>
   have:=aot (show 0<= -(u.cr aI (hZ c l) j) by have:=dm j aq e;grind) (aV.1 j aq);grind
 refine⟨fun k=>if k=l then val n (hZ c l) (u.hj aI N) else V k,fun y aV cq k aX=> ?_,fun y aV cq=> ?_⟩
 ·by_cases e:k=l
  ·rw[dw e,e]
   have cA:ct n (fun j=>u.cr aI (hZ c l) j*y j)=0:=nP fun j aq=>by
    cases e:mx j with
    | false=>rw[cq j aq e];grind
    | true =>
     rw[mj j aq,dQ] at e;have h1:=dm j aq e.1;have h2 : ¬u.cr aI (hZ c l) j<0:=(by simpa using e.2);have:u.cr aI (hZ c l) j=0:=(by grind);rw[this];grind
   rw[h.M6 _ aV] at cA;grind
  rw[dA e];exact s.low y aV (sub y cq) k (by omega)
 by_cases g:xu n di y;rotate_left
 ·obtain⟨k,l2,jt,my⟩:=s.up y aV g;exact⟨k,by omega,by rw[dA (by omega)];exact jt,fun q a0=>by rw[dA (by omega)];exact my q a0⟩
 refine⟨l,by omega,?_,fun q a0=>by rw[dA (by omega)];exact s.low y aV g q a0⟩;rw[dw rfl];have h1:=h.M6 (hZ c l) aV;have h2:=neg y aV g;have J:=vB h2
 have ak:ct n (fun j=> -(u.cr aI (hZ c l) j*y j))≠0:=fun e=>cq fun j aq Zb=>by
  have:=Mb h2 e j aq
  cases e1:di j with
  | false=>exact g j aq e1
  | true =>
   rw[mj j aq,e1,Bool.true_and] at Zb;have au:u.cr aI (hZ c l) j<0:=(by simpa using Zb);grind
 rw[gr (g:=fun j=>(-1)*(u.cr aI (hZ c l) j*y j)) (fun j _=>by grind),jU,h1] at J ak;grind
theorem qO.m7 (h:LT m n a b aI N u){di:Nat->Bool}{V:Nat->Rat}(s:qO m n a b c (n+1) di V)(aW:∀i,i<aI->di (u.B i)=true):uQ m n a b c (u.hj aI N):=by
 have U:xu n di (u.hj aI N):=fun j aq e=>bV.Mh fun i aa e2=>by have:=aW i aa;rw[e2,e] at this;cases this
 have bf:=s.low _ h.hj U;refine⟨h.hj,fun y aV ⟨l,k4,ln,xY⟩=> ?_⟩;by_cases g:xu n di y
 ·have:=s.low y aV g l k4;have:=bf l k4;grind
 obtain⟨k,l2,jt,my⟩:=s.up y aV g;rcases Nat.lt_trichotomy l k with e|e|e
 ·have:=my l e;have:=bf l k4;grind
 ·subst e;have:=bf l k4;grind
 have:=xY k e;have:=bf k l2;grind
theorem LT.U4 (h:LT m n a b aI N u){k s:Nat}(dm:0<u.cr aI (hZ c (k+1)) s): ∃i,i<aI/\0<u.T i s:=by
 apply Classical.byContradiction;intro dd;have h1:0<=ct aI (fun i=>hZ c (k+1) (u.B i)*u.T i s):=vB fun i aa=>by have h2 : ¬0<u.T i s:=fun e=>dd ⟨i,aa,e⟩;simp only[hZ];split<;>grind
 unfold bV.cr at dm;have J:hZ c (k+1) s<=0:=by simp only[hZ];split<;>grind
 grind
end
end Go.VL
namespace Go.Proofs.YtopadgleejacdadGreat
set_option linter.unusedVariables false
set_option linter.unusedSimpArgs false
open Go Go.VL
structure cI where
 mG:ByteArray
 iG:Int
 iY:Int
 mY:Bool
 deriving DecidableEq
structure c0 where
 ei:Int
 eE:Int
 jN:Int
 deriving DecidableEq
structure cL where
 b4:(List cI)
 bn:(List c0)
 deriving DecidableEq
structure bz where
 cK:Bool
 cd:ar
 deriving DecidableEq
structure ao where
 ef:bz
 fi:ar
 deriving DecidableEq
structure kz where
 hF:Int
 gd:Int
 ei:ar
 eE:ar
 hL:ar
 deriving DecidableEq
structure xc where
 Xk:Int
 iG:(List ao)
 NJ:ao
 deriving DecidableEq
structure uM where
 PI:Int
 v9:(List (List ao))
 uR:ar
 Gj:(List ao)
 deriving DecidableEq
structure fJ where
 hU:Int
 r6:Int
 deriving DecidableEq
structure cy where
 s9:bz
 ry:ar
 deriving DecidableEq
structure vI where
 v9:(List (List bz))
 zZ:bz
 uR:ar
 NZ:Int
 N0:(List Bool)
 deriving DecidableEq
def ca (x:cI):List aC:=[.s x.mG,.n .i64 x.iG,.n .i64 x.iY,.b x.mY]
theorem IF : ∀x,∀v∈ca x,v.jM=true:=by intro x v bf;simp only[ca,dS,aoh,or_false] at bf;rcases bf with rfl|rfl|rfl|rfl<;>rfl
theorem IG : ∀x,∀v∈ca x,bU v:=fun x=>(vN (.s _) (vN (.n _ _) (vN (.n _ _) (vN (.b _) Nn))))
theorem oq : ∀x,∀v∈ca x,Pure v:=by
 intro x v bf;simp only[ca,dS,aoh,or_false] at bf;rcases bf with rfl|rfl|rfl|rfl
 ·exact .s _
 ·exact .n _ _
 ·exact .n _ _
 exact .b _
def cc (x:c0):List aC:=[.n .i64 x.ei,.n .i64 x.eE,.n .i64 x.jN]
theorem Iy : ∀x,∀v∈cc x,v.jM=true:=by intro x v bf;simp only[cc,dS,aoh,or_false] at bf;rcases bf with rfl|rfl|rfl<;>rfl
theorem Iz : ∀x,∀v∈cc x,bU v:=fun x=>(vN (.n _ _) (vN (.n _ _) (vN (.n _ _) Nn)))
theorem ny : ∀x,∀v∈cc x,Pure v:=by
 intro x v bf;simp only[cc,dS,aoh,or_false] at bf;rcases bf with rfl|rfl|rfl
 ·exact .n _ _
 ·exact .n _ _
 exact .n _ _
def gF (x:cL):List aC:=[.isl 4 (x.b4.map ca),.isl 3 (x.bn.map cc)]
theorem amd : ∀x,∀v∈gF x,v.jM=true:=by intro x v bf;simp only[gF,dS,aoh,or_false] at bf;rcases bf with rfl|rfl<;>rfl
theorem B4 : ∀x,∀v∈gF x,Pure v:=by
 intro x v bf;simp only[gF,dS,aoh,or_false] at bf;rcases bf with rfl|rfl
 ·exact .isl (dn oq _)
 exact .isl (dn ny _)
def bl (x:bz):List aC:=[.b x.cK,.isl 1 (x.cd.map eI)]
theorem fh : ∀x,∀v∈bl x,v.jM=true:=by intro x v bf;simp only[bl,dS,aoh,or_false] at bf;rcases bf with rfl|rfl<;>rfl
theorem vy : ∀x,∀v∈bl x,Pure v:=by
 intro x v bf;simp only[bl,dS,aoh,or_false] at bf;rcases bf with rfl|rfl
 ·exact .b _
 exact .isl (dn az _)
def aG (x:ao):List aC:=[.b x.ef.cK,.isl 1 (x.ef.cd.map eI),.isl 1 (x.fi.map eI)]
theorem iC : ∀x,∀v∈aG x,v.jM=true:=by intro x v bf;simp only[aG,dS,aoh,or_false] at bf;rcases bf with rfl|rfl|rfl<;>rfl
theorem dv : ∀x,∀v∈aG x,Pure v:=by
 intro x v bf;simp only[aG,dS,aoh,or_false] at bf;rcases bf with rfl|rfl|rfl
 ·exact .b _
 ·exact .isl (dn az _)
 exact .isl (dn az _)
def uJ (x:kz):List aC:=[.n .i64 x.hF,.n .i64 x.gd,.isl 1 (x.ei.map eI),.isl 1 (x.eE.map eI),.isl 1 (x.hL.map eI)]
theorem ami : ∀x,∀v∈uJ x,v.jM=true:=by intro x v bf;simp only[uJ,dS,aoh,or_false] at bf;rcases bf with rfl|rfl|rfl|rfl|rfl<;>rfl
theorem ame : ∀x,∀v∈uJ x,Pure v:=by
 intro x v bf;simp only[uJ,dS,aoh,or_false] at bf;rcases bf with rfl|rfl|rfl|rfl|rfl
 ·exact .n _ _
 ·exact .n _ _
 ·exact .isl (dn az _)
 ·exact .isl (dn az _)
 exact .isl (dn az _)
def CH (x:xc):List aC:=[.n .i64 x.Xk,.isl 3 (x.iG.map aG),.b x.NJ.ef.cK,.isl 1 (x.NJ.ef.cd.map eI),.isl 1 (x.NJ.fi.map eI)]
theorem amm : ∀x,∀v∈CH x,v.jM=true:=by intro x v bf;simp only[CH,dS,aoh,or_false] at bf;rcases bf with rfl|rfl|rfl|rfl|rfl<;>rfl
theorem amg : ∀x,∀v∈CH x,Pure v:=by
 intro x v bf;simp only[CH,dS,aoh,or_false] at bf;rcases bf with rfl|rfl|rfl|rfl|rfl
 ·exact .n _ _
 ·exact .isl (dn dv _)
 ·exact .b _
 ·exact .isl (dn az _)
 exact .isl (dn az _)
def yQ (x:uM):List aC:=[.n .i64 x.PI,.isl 1 (x.v9.map (ft 3 aG)),.isl 1 (x.uR.map eI),.isl 3 (x.Gj.map aG)]
theorem amj : ∀x,∀v∈yQ x,v.jM=true:=by intro x v bf;simp only[yQ,dS,aoh,or_false] at bf;rcases bf with rfl|rfl|rfl|rfl<;>rfl
theorem L2 : ∀x,∀v∈yQ x,Pure v:=by
 intro x v bf;simp only[yQ,dS,aoh,or_false] at bf;rcases bf with rfl|rfl|rfl|rfl
 ·exact .n _ _
 ·exact .isl (dn (pn (sz:=3) dv) _)
 ·exact .isl (dn az _)
 exact .isl (dn dv _)
def gu (x:fJ):List aC:=[.n .i64 x.hU,.n .i64 x.r6]
theorem amk : ∀x,∀v∈gu x,v.jM=true:=by intro x v bf;simp only[gu,dS,aoh,or_false] at bf;rcases bf with rfl|rfl<;>rfl
theorem aml : ∀x,∀v∈gu x,bU v:=fun x=>(vN (.n _ _) (vN (.n _ _) Nn))
theorem yB : ∀x,∀v∈gu x,Pure v:=by
 intro x v bf;simp only[gu,dS,aoh,or_false] at bf;rcases bf with rfl|rfl
 ·exact .n _ _
 exact .n _ _
def bS (x:cy):List aC:=[.b x.s9.cK,.isl 1 (x.s9.cd.map eI),.isl 1 (x.ry.map eI)]
theorem amn : ∀x,∀v∈bS x,v.jM=true:=by intro x v bf;simp only[bS,dS,aoh,or_false] at bf;rcases bf with rfl|rfl|rfl<;>rfl
theorem k9 : ∀x,∀v∈bS x,Pure v:=by
 intro x v bf;simp only[bS,dS,aoh,or_false] at bf;rcases bf with rfl|rfl|rfl
 ·exact .b _
 ·exact .isl (dn az _)
 exact .isl (dn az _)
def Cx (x:vI):List aC:=[.isl 1 (x.v9.map (ft 2 bl)),.b x.zZ.cK,.isl 1 (x.zZ.cd.map eI),.isl 1 (x.uR.map eI),.n .i64 x.NZ,.isl 1 (x.N0.map gp)]
theorem amh : ∀x,∀v∈Cx x,v.jM=true:=by intro x v bf;simp only[Cx,dS,aoh,or_false] at bf;rcases bf with rfl|rfl|rfl|rfl|rfl|rfl<;>rfl
theorem LL : ∀x,∀v∈Cx x,Pure v:=by
 intro x v bf;simp only[Cx,dS,aoh,or_false] at bf;rcases bf with rfl|rfl|rfl|rfl|rfl|rfl
 ·exact .isl (dn (pn (sz:=2) vy) _)
 ·exact .b _
 ·exact .isl (dn az _)
 ·exact .isl (dn az _)
 ·exact .n _ _
 exact .isl (dn fe _)
noncomputable abbrev bk:Program:=Go.Proofs.Tryz.prog
theorem sd:bk.follows .mixedOrders=true:=Go.Proofs.Tryz.checked.mixed
theorem a6 {N m:Nat}{c:Code}{E:List (Nat×aC)}{rows:List (List a1)}(tape:List bD){e:Exit}{s:S}{aj:List Prop}(bo:ch aj)
 (h:Ko bk N m c tape (dj E rows) rows.length=some (e,s,aj):=by kernel_rfl):kG bk N m c e (dj E rows) s:=UY sd h bo (yU _ _)
theorem bc {f:FuncId}{args:List aC}{r:aC}{aj:List Prop}(tape:List bD)(bo:ch aj)(im:mQ:=ii)
 (h:GJ bk f args [] tape [] [] im=some (r,[],aj):=by kernel_rfl):Con bk f args [] r []:=afL sd h bo
theorem jX {f:FuncId}{args:List aC}{T ir:List (List a1)}{r:aC}{aj:List Prop}(tape:List bD)(a9:List Nat)(d5:List jJ)(bo:ch aj)(im:mQ:=ii)
 (h:GJ bk f args T tape a9 d5 im=some (r,ir,aj):=by kernel_rfl):Con bk f args T r ir:=Vw sd h bo
def Wc (x:cI):Prop:=(fun s=>s.size<=maxLen) x.mG/\nq x.iG/\nq x.iY/\(fun _=>True) x.mY
theorem acY (w:World):rj Go.Proofs.Tryz.prog w 48 ca Wc where
 pure:=oq
 size:=fun a=>by kernel_rfl
 opens:=fun h=>by obtain⟨aT,cq⟩:=Mg Tryz.underlying48 h;obtain⟨lT,i0,bY⟩:=vM cq 0 0 1 rfl rfl (by kernel_rfl) (aea Tryz.underlying9 (by kernel_rfl));obtain⟨hk,i1,bh⟩:=vM cq 1 1 1 rfl rfl (by kernel_rfl) (yO Tryz.underlying3 (by kernel_rfl));obtain⟨hq,i2,cp⟩:=vM cq 2 2 1 rfl rfl (by kernel_rfl) (yO Tryz.underlying3 (by kernel_rfl));obtain⟨bx,PJ,kc⟩:=vM cq 3 3 1 rfl rfl (by kernel_rfl) (ae7 Tryz.underlying4 (by kernel_rfl));have aS:Go.Proofs.Tryz.prog.cellsOf 48=4:=(by kernel_rfl);exact⟨⟨lT,hk,hq,bx⟩,⟨i0,i1,i2,PJ⟩,(lW.aD bY (lW.aD bh (lW.aD cp (lW.aD kc (lW.end_ (by omega)) (by rfl)) (by rfl)) (by rfl)) (by rfl))⟩
def VB (x:c0):Prop:=nq x.ei/\nq x.eE/\nq x.jN
theorem acr (w:World):rj Go.Proofs.Tryz.prog w 58 cc VB where
 pure:=ny
 size:=fun a=>by kernel_rfl
 opens:=fun h=>by obtain⟨aT,cq⟩:=Mg Tryz.underlying58 h;obtain⟨lT,i0,bY⟩:=vM cq 0 0 1 rfl rfl (by kernel_rfl) (yO Tryz.underlying3 (by kernel_rfl));obtain⟨hk,i1,bh⟩:=vM cq 1 1 1 rfl rfl (by kernel_rfl) (yO Tryz.underlying3 (by kernel_rfl));obtain⟨hq,i2,cp⟩:=vM cq 2 2 1 rfl rfl (by kernel_rfl) (yO Tryz.underlying3 (by kernel_rfl));have aS:Go.Proofs.Tryz.prog.cellsOf 58=3:=(by kernel_rfl);exact⟨⟨lT,hk,hq⟩,⟨i0,i1,i2⟩,(lW.aD bY (lW.aD bh (lW.aD cp (lW.end_ (by omega)) (by rfl)) (by rfl)) (by rfl))⟩
def n9 (x:cL):Prop:=(fun l=>l.length<=maxLen/\ ∀x∈l,Wc x) x.b4/\(fun l=>l.length<=maxLen/\ ∀x∈l,VB x) x.bn
theorem abQ (w:World):rj Go.Proofs.Tryz.prog w 25 gF n9 where
 pure:=B4
 size:=fun a=>by kernel_rfl
 opens:=fun h=>by obtain⟨aT,cq⟩:=Mg Tryz.underlying25 h;obtain⟨lT,i0,bY⟩:=vM cq 0 0 1 rfl rfl (by kernel_rfl) (Iw (sz:=4) Tryz.underlying22 (by kernel_rfl) (by kernel_rfl) (by decide) (acY _));obtain⟨hk,i1,bh⟩:=vM cq 1 1 1 rfl rfl (by kernel_rfl) (Iw (sz:=3) Tryz.underlying23 (by kernel_rfl) (by kernel_rfl) (by decide) (acr _));have aS:Go.Proofs.Tryz.prog.cellsOf 25=2:=(by kernel_rfl);exact⟨⟨lT,hk⟩,⟨i0,i1⟩,(lW.aD bY (lW.aD bh (lW.end_ (by omega)) (by rfl)) (by rfl))⟩
def Kt (lT hk:Int)(hq bx fx kV:Nat)(lE:ar)(k7 jB Ao z0:Nat):List aC:=[.n .i64 lT,.n .i64 hk,.bu hq bx fx kV,.isl 1 (lE.map eI),.bu k7 jB Ao z0]
def O1 (lT hk hq bx fx kV lE k7:Nat)(jB:Int):List aC:=[.bu lT hk hq bx,.bu fx kV lE k7,.n .i64 jB]
def tm (lT:Int)(hk hq bx fx kV lE k7 jB Ao z0 Hd qf:Nat):List aC:=[.n .i64 lT,.bu hk hq bx fx,.bu kV lE k7 jB,.bu Ao z0 Hd qf]
def Ku (lT:Int)(hk hq bx fx:Nat)(kV:Bool)(lE k7:ar):List aC:=[.n .i64 lT,.bu hk hq bx fx,.b kV,.isl 1 (lE.map eI),.isl 1 (k7.map eI)]
def qP (lT hk:Int)(hq bx fx kV lE k7 jB Ao z0 Hd qf wB:Nat):List aC:=[.n .i64 lT,.n .i64 hk,.bu hq bx fx kV,.bu lE k7 jB Ao,.bu z0 Hd qf wB]
def akG (lT hk hq bx:Nat)(fx:ar)(kV:Int):List aC:=[.bu lT hk hq bx,.isl 1 (fx.map eI),.n .i64 kV]
def jY (lT hk hq bx:Nat)(fx:Bool)(kV:ar)(lE k7 jB Ao:Nat)(z0:Int)(Hd qf wB akH:Nat):List aC:=[.bu lT hk hq bx,.b fx,.isl 1 (kV.map eI),.bu lE k7 jB Ao,.n .i64 z0,.bu Hd qf wB akH]
def Yp (lT hk hq bx:Nat)(fx kV:Int):List aC:=[.bu lT hk hq bx,.n .i64 fx,.n .i64 kV]
def fk (r:Nat)(a:Int)(c:List bT)(d:ar)(e:List ao)(p:List (List ao)):List a1:=a1.mk 4 [[.n .i64 a,.bu r 1 0 c.length,.bu r 2 0 d.length,.bu r 3 0 e.length]] .live::a1.mk 1 (c.map (bK r 4 3)) .live::a1.mk 1 (d.map eI) .live::a1.mk 3 (e.map aG) .live::dq 3 aG p
theorem hR (M:Nat->Option Nat)(r s:Nat)(a:Int)(c:List bT)(d:ar)(e:List ao)(p:List (List ao))(h:M s=some r)(k:a1.mk 4 [[.n .i64 a,.bu r 1 0 c.length,.bu r 2 0 d.length,.bu r 3 0 e.length]] .live=kE M (a1.mk 4 [[.n .i64 a,.bu s 1 0 c.length,.bu s 2 0 d.length,.bu s 3 0 e.length]] .live)):fk r a c d e p=(fk s a c d e p).map (kE M):=hM k (hM (xS M r s 4 3 h c) (hM (l4 M 1 rk d) (hM (l4 M 3 iC e) (en M 3 iC p))))
theorem tn (r:Nat)(a:Int)(c:List bT)(d:ar)(e:List ao)(p:List (List ao)):pr (fk r a c d e p):=oS rfl (oS rfl (oS rfl (oS rfl (MJ (PF .live 3 aG p)))))
def jQ (i j k:Nat)(a b:Int)(c d e:ar):List a1:=[a1.mk 5 [[.n .i64 a,.n .i64 b,.bu i 0 0 c.length,.bu j 0 0 d.length,.bu k 0 0 e.length]] .live]
def ks (i j k:Nat)(c:List bT)(a:Bool)(b d:ar)(e:Int)(f:List Bool):List a1:=[a1.mk 6 [[.bu i 0 0 c.length,.b a,.isl 1 (b.map eI),.bu j 0 0 d.length,.n .i64 e,.bu k 0 0 f.length]] .live]
def wm (i j k:Nat)(a:Int)(c:List bT)(d:ar)(e:List ao):List a1:=[a1.mk 4 [[.n .i64 a,.bu i 0 0 c.length,.bu j 0 0 d.length,.bu k 0 0 e.length]] .live]
def rz (a b:Int)(c d e:ar):List a1:=[a1.mk 5 [[.n .i64 a,.n .i64 b,.isl 1 (c.map eI),.isl 1 (d.map eI),.isl 1 (e.map eI)]] .live]
abbrev He:bz:=⟨false,[]⟩
abbrev O2:ao:=⟨⟨false,[]⟩,[]⟩
def qQ (c:List bT)(a:Bool)(b d:ar)(e:Int)(f:List Bool)(g:List (List bz)):List (List a1):=[ks 1 3 4 c a b d e f,av 1 (bK 2 0 2) c,dq 2 bl g,av 1 eI d,av 1 gp f]
def p5 (c:List bT)(a:Bool)(b d:ar)(e:Int)(f:List Bool)(g:List (List bz))(z:List a1):List (List a1):=[ks 1 3 4 c a b d e f,av 1 (bK 2 0 2) c,dq 2 bl g,av 1 eI d,av 1 gp f,z]
def xH (a b:Int)(c d e:ar)(f:Int)(g:List bT)(h:ar)(i j:List ao)(k:List (List ao)):List (List a1):=[rz a b c d e,wm 3 5 6 f g h i,av 3 aG j,av 1 (bK 4 0 3) g,dq 3 aG k,av 1 eI h,av 3 aG i]
def vc:List a1:=[a1.mk 5 [[.n .i64 0,.n .i64 0,.e8,.e8,.e8]] .live]
def tp (a b:Int)(c d e:ar):List (List a1):=[jQ 1 2 3 a b c d e,av 1 eI c,av 1 eI d,av 1 eI e]
def qg (c:List bT)(g:List (List bz)):List jJ:=[.box kl,.bw (av 1 (bK 2 0 2) c),.bw (dq 2 bl g),.pure,.pure,.pure]
def so (c:List bT)(g:List (List bz)):List jJ:=[.box kl,.bw (av 1 (bK 2 0 2) c),.bw (dq 2 bl g),.pure,.pure]
def uk (a:List cI)(b:List c0):List a1:=[a1.mk 2 [[.isl 4 (a.map ca),.isl 3 (b.map cc)]] .live]
def xI (n:Nat)(a:List cI)(b:List c0):Nat×aC:=(n,.fO 2 [[.isl 4 (a.map ca),.isl 3 (b.map cc)]] 0 0)
theorem lM {x:Option cy}{y:cy}(h:x=some y):lx (hd 3 bS x) (.gk 3 (some (bS y))):=aky h
def ha (n:Nat)(x:bz):fP:=gN n (.agg (bl x)) false
def jc (n:Nat)(x:ao):fP:=gN n (.agg (aG x)) false
def O3 (a:List cI)(b:List c0):Ah:={a9:=[],d5:=[],ac:=[ii],r:= .agg [.bu 0 0 0 a.length,.bu 0 1 0 b.length],fV:=[[a1.mk 4 (a.map ca) .live,a1.mk 3 (b.map cc) .live]],im:= .bh (.agg [.id,.id]),jF:=[.bw [a1.mk 4 (a.map ca) .live,a1.mk 3 (b.map cc) .live]],fH:=[],fm:=true}
abbrev aou:=List ao
abbrev aov:=Option cy
abbrev aow:=List bD
abbrev aox:=List bz
abbrev aoy:=List aox
abbrev aoz:=List bT
abbrev aoA:=List aou
abbrev aoB:=List Bool
abbrev aoC:=List c0
abbrev aoD:=List cI
abbrev aoE:=List aov
abbrev aoF:=Option Bool
abbrev aoG:=List fJ
abbrev aoH:=Option Int
abbrev aoI:=List ar
abbrev aoJ:=Option ar
abbrev aoK:=Option aov
abbrev aoL:=Option bz
abbrev aoM:=Option ao
end Go.Proofs.YtopadgleejacdadGreat
