/- Lemmas, plain functions of the program, and what they answer. No condition. -/
import Derived.Carry
import Derived.ChangeOld
import Derived.ChangeSlices
import Derived.LoopN
import Derived.OwnWalk
import Derived.Scope
import Derived.Test.YtopadgleejacdacGreatChecked
import Derived.Test.YtopadgleejacdacGreatMA
namespace Go.VL
set_option linter.unusedVariables false
set_option linter.unusedSimpArgs false
open Go
def yA (P:Program)(s:S)(aR:Nat)(I:Oper)(cr:eG):Option gM :=
 match cr with
 | .call b6=>match I.op with
  | .call {callee:= .value f,args,..}=>match eh s.E f with
   | .fn id cap=>yJ P s.aH aR id (args.toList.map (eh s.E)++cap) b6
   | _=>none
  | _=>none
 | fp=>y4 P s.E s.aH aR I fp
def y9:List (Nat×List aM)->(Nat->Option (List aM))->Nat->Option (List aM)
 | [],aH,q=>aH q
 | (r,row)::u,aH,q=>y9 u (fun x=>if x=r then some row else aH x) q
theorem Hf : ∀(u:List (Nat×List aM)) (s:S) (q:Nat),(s.hN u).aH q=y9 u s.aH q
 | [],_,_=>rfl
 | (r,row)::u,s,q=>Hf u (s.setRow r row) q
def vi (aH:Nat->Option (List aM))(aR r n:Nat)(bc:gM):Option gM :=
 match y9 bc.fz aH aR,y9 bc.fz aH r with
 | some gh,some l=>if aR=r then none else
  some {val:=kb aR r n bc.val,fz:=bc.fz++[(aR,gh.map rl),(r,l++gh.map (lZ aR r n))],eX:=bc.eX++[l.length=n]}
 | _,_=>none
def Pj (I:Oper)(t:Nat):Bool:=I.op.operands.toList.any fun | .tmp u=>u == t|_=>false
inductive ka:an->an->Prop
 | refl (x:an):ka x x
 | hj (r c sz:Nat):ka (.iA r c sz none) (.isl sz [])
 | jx (r c sz:Nat):ka (.isl sz []) (.iA r c sz none)
 | s1 (r c sz k n:Nat):ka (.iA r c sz (some (k,n))) (.bK r (k+c) 0 n)
 | s2 (r c sz k n:Nat):ka (.bK r (k+c) 0 n) (.iA r c sz (some (k,n)))
 | agg {c dW:List an} (aF:dW.length=c.length) (h : ∀(j:Nat) x cA,c[j]? = some x->dW[j]? = some cA->ka x cA):ka (.agg c) (.agg dW)
theorem ka.symm {x v:an}(h:ka x v):ka v x:=by
 induction h with
 | refl x=>exact .refl x
 | hj r c sz=>exact .jx r c sz
 | jx r c sz=>exact .hj r c sz
 | s1 r c sz k n=>exact .s2 r c sz k n
 | s2 r c sz k n=>exact .s1 r c sz k n
 | agg aF h ih=>exact .agg aF.symm fun j x cA aa dl=>ih j cA x dl aa
theorem ka.rel {x v:an}(h:ka x v){w:World}{ok:Nat->Prop}{aW:iY}{a0:iP}: ∀ {u:Value},Rel w ok aW a0 x u->Rel w ok aW a0 v u:=by
 induction h with
 | refl x=>exact fun h=>h
 | hj r c sz=>intro u h;cases h with|mx h=>exact h
 | jx r c sz=>exact fun h=> .mx h
 | s1 r c sz k n=>intro u h;cases h with|nA h=>exact h
 | s2 r c sz k n=>exact fun h=> .nA h
 | @agg c dW aF h ih =>
  intro u hu;obtain⟨vs,rfl,o,J,ab⟩:=hu.yn;refine .agg vs (by omega) J fun j cA u dl hu=> ?_;have dq:j<c.length:=(by have:=fN dl;omega);exact ih j _ cA (dx dq) dl (ab j _ u (dx dq) hu)
def jM (P:Program)(aR:Nat)(I:Oper):eG->S->Option gM
 | .fB t v fp,s=>if Pj I t then
  match jM P aR I fp {E:=fun u=>if u=t then v else s.E u,aH:=s.aH} with
  | some r=>some {r with eX:=ka (s.E t) v::r.eX}
  | none=>none
  else none
 | .sx r fp,s=>match s.aH r with
  | some row=>match jM P aR I fp (s.setRow r (ll row)) with
   | some bc=>some {bc with fz:=(r,ll row)::bc.fz}
   | none=>none
  | none=>none
 | .Ci r n fp,s=>match jM P aR I fp s with
  | some bc=>vi s.aH aR r n bc
  | none=>none
 | fp,s=>yA P s aR I fp
def D9 (P:Program)(s:S)(aR:Nat)(I:Oper)(cr:eG):Option gM:=jM P aR I cr s
def s7 (P:Program)(s:S)(aR:Nat)(I:Oper)(cr:eG):Option gM :=
 match D9 P s aR I cr with
 | some r=>if r.fz.all (fun p=>decide (p.1=aR) || (s.aH p.1).isSome) then some r else none
 | none=>none
def PY (N:Nat)(I:Oper):Bool :=
 match I.dst with
 | some d=>decide (d<N)
 | none=>true
def qF (P:Program)(N:Nat)(ops:Array Oper)(s:S)(aR:Nat)(I:Oper)(fp:eG×Bool):Option gM :=
 if PY N I=false then none else
 match I.guard with
 | none=>s7 P s aR I fp.1
 | some (j,want)=>match (ops[j]?).bind (·.dst) with
  | none=>none
  | some d=>match s.E d with
   | .b x=>if fp.2 then (match s7 P s aR I fp.1 with
    | some r=>some {r with eX:=(x=want)::r.eX}
    | none=>none)
    else some {val:= .cZ [],eX:=[x = !want]}
   | .cZ []=>some {val:= .cZ []}
   | _=>none
def S.a1 (s:S)(I:Oper)(r:gM):S:=(s.hN r.fz).put I.dst r.val
section
variable {P:Program} {g:G} {s:S} {al:fj} {a:Act} {w:World}
theorem VZ {I:Oper}{bc:gM}(h:Fin P g s a w I bc)(bz:∀d,I.dst=some d->d<g.N){K:Act->World->Prop}{Q:Exit->Act->World->Prop}
 (gQ : ∀bG dr bx,cq g (s.a1 I bc) bG dr bx->K dr bx):I.wp P a w K Q:=by
 obtain⟨v,bx,bG,iL,bO,aj⟩:=h;unfold Oper.wp;rcases iL with iL|⟨iL,rfl⟩
 ·rw[iL];exact gQ bG _ _ (bO.put I.dst bz aj)
 rw[iL];exact gQ bG _ _ (bO.put I.dst bz aj)
theorem Vo {I:Oper}{f:Operand}{args:Array Operand}{mU:Array TypeId}(ai:I.op = .call ⟨.value f,args,mU⟩){id:Nat}{cap:List Value}(b0:a.eval f = .func (.func id) #[] cap.toArray)
 (aL:DJ P id) {K:Act->World->Prop} {Q:Exit->Act->World->Prop}
 (h:Calls P id (args.toList.map a.eval++cap).toArray w fun
   | .returned v,I9=>K (a.put I.dst v) I9
   | .panicked chain,I9=>Q (.panic chain) a I9
   | .outgrown,_=>LetsOut Q):I.wp P a w K Q:=by
 obtain⟨fn,o,J,ab⟩:=aL;have e:args.map a.eval++cap.toArray=(args.toList.map a.eval++cap).toArray:=by apply Array.ext';simp
 have iL:(execOp a.eval I).run P w = .ok (.enter id (args.toList.map a.eval++cap).toArray) w:=by have aV:fn.name ≠ "runtime.NumGoroutine" := (by simpa using J);have ob:fn.body≠none:=(by intro e;simp[e] at ab);simp only[execOp,ai,resolve,b0,Deferred.ofValue,invoke,callFunc];simp[o,aV,ob,e]
 unfold Oper.wp;rw[iL];exact h
theorem tO (h:cq g s al a w){aR:Nat}(ey:s.aH aR=none){I:Oper}{cr:eG}{bc:gM}(ak:yA P s aR I cr=some bc)(b4:∀p∈bc.eX,p)
 (bz : ∀d,I.dst=some d->d<g.N) {K:Act->World->Prop} {Q:Exit->Act->World->Prop} (gQ : ∀bG dr bx,cq g (s.a1 I bc) bG dr bx->K dr bx):I.wp P a w K Q:=by
 unfold yA at ak;split at ak;rotate_left
 ·exact VZ (VY h ey ak b4) bz gQ
 rename_i b6;split at ak;rotate_left
 ·simp at ak
 rename_i f args mU ai;split at ak;rotate_left
 ·simp at ak
 rename_i id cap gA;have b0:=h.eval f;rw[gA] at b0;obtain⟨vs,hval,aF,aj⟩:=b0.D6
 obtain⟨aL,Yz⟩:=UY (vs:=args.toList.map a.eval++vs) h ey ak b4 (by simp[aF]) (by
  intro j x v aa aZ;rw[List.getElem?_append] at aa aZ;simp only[aft] at aa aZ;split at aa
  ·rename_i av;rw[dw av] at aZ;rw[dJ,dN] at aa aZ;obtain⟨p,ah,rfl⟩:=aa;obtain⟨q,a2,rfl⟩:=aZ;rw[ah] at a2;simp at a2;subst a2;exact h.eval p
  rename_i av;rw[dA av] at aZ;exact aj _ x v aa aZ)
 refine Vo ai hval aL (Yz.mono fun e bx hw=> ?_);obtain⟨v,bG,rfl,o,J⟩:=hw;exact gQ bG _ _ (o.put I.dst bz J)
theorem cq.H9 {s:S}(h:cq g s al a w)(dst:Option Tmp){x:an}(aj:∀d,dst=some d->Rel w (s.ok g al w) s.aW (s.a0 al) x (a.tmps.getD d undef)):cq g (s.put dst x) al a w where
 toh3:=h.toh3.congr (S.t8 s dst x)
 env:=by
  have e:=S.t8 s dst x;rw[Ay e,yg e,yh e];intro t
  cases dst with
  | none=>simpa [S.put] using h.env t
  | some d =>
   simp only[S.put];by_cases e:t=d
   ·subst e;simpa using aj t rfl
   rw[dA e];exact h.env t
 defers:=h.defers
 jj:=h.jj
theorem OM (s:S)(dst:Option Tmp)(x y:an):(s.put dst x).put dst y=s.put dst y:=by
 cases dst with
 | none=>rfl
 | some d =>
  simp only[S.put,S.mk.injEq,and_true];funext u;split<;>rfl
theorem Nf (s:S)(dst:Option Tmp)(x:an)(r:Nat)(row:List aM):(s.put dst x).setRow r row=(s.setRow r row).put dst x:=by cases dst<;>rfl
theorem AU : ∀(u:List (Nat×List aM)) (s:S),(s.hN u).E=s.E
 | [],_=>rfl
 | (r,row)::u,s=>AU u (s.setRow r row)
theorem DK : ∀(u:List (Nat×List aM)) (s:S) (dst:Option Tmp) (x:an),(s.put dst x).hN u=(s.hN u).put dst x
 | [],_,_,_=>rfl
 | (r,row)::u,s,dst,x=>by show ((s.put dst x).setRow r row).hN u=_;rw[Nf,DK u];rfl
theorem UZ {s:S}{aR r n:Nat}{I:Oper}{bc po:gM}(hm:vi s.aH aR r n bc=some po)(b4:∀p∈po.eX,p){al:fj}{a:Act}{w:World}(h:cq g (s.a1 I bc) al a w):
 ∃bG,cq g (s.a1 I po) bG a w:=by
 unfold vi at hm;split at hm;rotate_left
 ·simp at hm
 rename_i gh l o J;split at hm
 ·simp at hm
 rename_i cx;simp only[dy] at hm;subst hm;have aV:l.length=n:=b4 _ (by simp);subst aV;have ao:(s.a1 I bc).aH aR=some gh:=by rw[S.a1,S.t8,Hf];exact o
 have aB:(s.a1 I bc).aH r=some l:=by rw[S.a1,S.t8,Hf];exact J
 obtain⟨bG,f1,f2⟩:=h.merge aB ao cx;refine⟨bG,?_⟩;have:=f1.H9 I.dst (x:=kb aR r l.length bc.val) (fun d bz=>f2 _ _ (by have:=h.env d;simpa [S.a1,S.put,bz] using this))
 have he:s.a1 I {val:=kb aR r l.length bc.val,fz:=bc.fz++[(aR,gh.map rl),(r,l++gh.map (lZ aR r l.length))],eX:=bc.eX++[l.length=l.length]} =
  ((s.a1 I bc).setRow aR (gh.map rl) |>.setRow r (l++gh.map (lZ aR r l.length))).put I.dst (kb aR r l.length bc.val):=by
  simp only[S.a1,Nf,OM];simp only[S.hN,List.foldl_append,List.foldl_cons,List.foldl_nil]
 rw[he];exact this
theorem Dk {aR:Nat}{I:Oper}(bz:∀d,I.dst=some d->d<g.N){K:Act->World->Prop}{Q:Exit->Act->World->Prop}:
 ∀(cr:eG) (s:S) (h:cq g s al a w) (ey:s.aH aR=none) (bc:gM),jM P aR I cr s=some bc->(∀p∈bc.eX,p)->(∀bG dr bx,cq g (s.a1 I bc) bG dr bx->K dr bx)->I.wp P a w K Q
 | .sx r fp,s,h,ey,bc,ak,b4,gQ=>by
  unfold jM at ak;split at ak
  ·rename_i row cV
   split at ak
   ·rename_i po aj;simp only[dy] at ak;subst ak;have cx:aR≠r:=(by rintro rfl;rw[ey] at cV;simp at cV);exact Dk bz fp (s.setRow r (ll row)) (h.freeze cV) (by simp[S.setRow,cx,ey]) po aj b4 gQ
   simp at ak
  simp at ak
 | .fB t v fp,s,h,ey,bc,ak,b4,gQ=>by
  unfold jM at ak;split at ak;rotate_left
  ·simp at ak
  split at ak;rotate_left
  ·simp at ak
  rename_i r aj;simp only[dy] at ak;subst ak;have e:ka (s.E t) v:=b4 _ (by simp);have aZ:Rel w (s.ok g al w) s.aW (s.a0 al) v (a.tmps.getD t undef):=(by exact e.rel (h.env t));have J:=h.H9 (some t) (x:=v) (fun d bz=>by simp at bz;subst bz;exact aZ);refine Dk bz fp (s.put (some t) v) J ey r aj (fun p ah=>b4 p (by simp[ah])) fun bG dr bx bO=>gQ bG dr bx ?_;have aa:Rel bx (((s.put (some t) v).a1 I r).ok g bG bx) ((s.put (some t) v).a1 I r).aW (((s.put (some t) v).a1 I r).a0 bG) v (dr.tmps.getD t undef)->Rel bx (((s.put (some t) v).a1 I r).ok g bG bx) ((s.put (some t) v).a1 I r).aW (((s.put (some t) v).a1 I r).a0 bG) (s.E t) (dr.tmps.getD t undef):=(by exact fun h0=>e.symm.rel h0);by_cases Ja:I.dst=some t
  ·have:s.a1 I {r with eX:=ka (s.E t) v::r.eX}=(s.put (some t) v).a1 I r:=by
    simp only[S.a1,DK,Ja,OM]
   rw[this];exact bO
  have d1:((s.put (some t) v).a1 I r).E t=v:=by
   simp only[S.a1,DK]
   cases wg:I.dst with
   | none=>simp[S.put]
   | some d =>
    have:t≠d:=(by rintro rfl;exact Ja wg);simp[S.put,this]
  have:s.a1 I {r with eX:=ka (s.E t) v::r.eX}=((s.put (some t) v).a1 I r).put (some t) (s.E t):=by
   simp only[S.a1,DK]
   cases wg:I.dst with
   | none =>
    have key : ∀(s1:S) (x y:an),s1.E t=y->s1=(s1.put (some t) x).put (some t) y:=by
     intro s1 x y aP
     cases s1 with
     | mk E aH =>
      simp only[S.put,S.mk.injEq,and_true];funext u;split
      ·rename_i hu;rw[hu];exact aP
      rfl
    exact key (s.hN r.fz) v _ (by rw[AU])
   | some d =>
    have:t≠d:=(by rintro rfl;exact Ja wg);simp only[S.put,S.mk.injEq,and_true];funext u;by_cases o:u=t
    ·subst o;simp[this,AU]
    simp[o]
  rw[this];exact bO.H9 (some t) (fun d bz=>by simp at bz;subst bz;exact aa (by have:=bO.env t;rw[d1] at this;exact this))
 | .Ci r n fp,s,h,ey,bc,ak,b4,gQ=>by
  unfold jM at ak;split at ak
  ·rename_i po aj
   refine Dk bz fp s h ey po aj (fun p ah=>b4 p ?_) fun bG dr bx bO=> ?_
   ·unfold vi at ak
    split at ak
    ·split at ak
     ·simp at ak
     simp only[dy] at ak;subst ak;simp[ah]
    simp at ak
   obtain⟨kV,J⟩:=UZ ak b4 bO;exact gQ kV dr bx J
  simp at ak
 | .none,s,h,ey,bc,ak,b4,gQ=>tO h ey (by unfold jM at ak;exact ak) b4 bz gQ
 | .ay b,s,h,ey,bc,ak,b4,gQ=>tO h ey (by unfold jM at ak;exact ak) b4 bz gQ
 | .db c,s,h,ey,bc,ak,b4,gQ=>tO h ey (by unfold jM at ak;exact ak) b4 bz gQ
 | .hn af c,s,h,ey,bc,ak,b4,gQ=>tO h ey (by unfold jM at ak;exact ak) b4 bz gQ
 | .df,s,h,ey,bc,ak,b4,gQ=>tO h ey (by unfold jM at ak;exact ak) b4 bz gQ
 | .uE,s,h,ey,bc,ak,b4,gQ=>tO h ey (by unfold jM at ak;exact ak) b4 bz gQ
 | .call c,s,h,ey,bc,ak,b4,gQ=>tO h ey (by unfold jM at ak;exact ak) b4 bz gQ
 | .a1 m bX,s,h,ey,bc,ak,b4,gQ=>tO h ey (by unfold jM at ak;exact ak) b4 bz gQ
theorem UE (h:cq g s al a w){aR:Nat}(ey:s.aH aR=none){I:Oper}{cr:eG}{bc:gM}(ak:D9 P s aR I cr=some bc)(b4:∀p∈bc.eX,p)
 (bz : ∀d,I.dst=some d->d<g.N) {K:Act->World->Prop} {Q:Exit->Act->World->Prop} (gQ : ∀bG dr bx,cq g (s.a1 I bc) bG dr bx->K dr bx):I.wp P a w K Q :=
 Dk bz cr s h ey bc ak b4 gQ
theorem MR (h:cq g s al a w){aR:Nat}(ey:s.aH aR=none){I:Oper}{cr:eG}{bc:gM}(ak:s7 P s aR I cr=some bc)(b4:∀p∈bc.eX,p)
 (bz : ∀d,I.dst=some d->d<g.N) {K:Act->World->Prop} {Q:Exit->Act->World->Prop} (gQ : ∀bG dr bx,cq g (s.a1 I bc) bG dr bx->K dr bx):I.wp P a w K Q:=by
 unfold s7 at ak;split at ak
 ·rename_i r aj
  split at ak
  ·simp only[dy] at ak;subst ak;exact UE h ey aj b4 bz gQ
  simp at ak
 simp at ak
theorem NH {ok:Nat->Prop}{aW:iY}{a0:iP}:Rel w ok aW a0 (.cZ []) undef:=by have:=Rel.cZ (w:=w) (ok:=ok) (aW:=aW) (a0:=a0) (c:=[]) [] rfl (by simp);exact this
theorem MS (h:cq g s al a w){ops:Array Oper}{i aR:Nat}(ey:s.aH aR=none){I:Oper}(ae:ops[i]? = some I){fp:eG×Bool}{bc:gM}(ak:qF P g.N ops s aR I fp=some bc)
 (b4 : ∀p∈bc.eX,p) {K:Act->World->Prop} {Q:Exit->Act->World->Prop} (gQ : ∀bG dr bx,cq g (s.a1 I bc) bG dr bx->K dr bx):wpOp P ops Q i K a w:=by
 unfold qF at ak;split at ak
 ·simp at ak
 rename_i Bx;have bz : ∀d,I.dst=some d->d<g.N:=by intro d bz;unfold PY at Bx;rw[bz] at Bx;simpa using Bx
 unfold wpOp;simp only[ae];have Qr : ∀r:gM,r={val:= .cZ [],eX:=r.eX}->(∀bG dr bx,cq g (s.a1 I r) bG dr bx->K dr bx)->K (a.put I.dst undef) w:=by intro r aj aaY;refine aaY al _ _ ?_;rw[aj];exact h.put I.dst bz NH
 split at ak
 ·rename_i dt;have hw:Region.wanted I (yielded ops a.tmps)=true:=(by simp[Region.wanted,dt]);rw[dw hw];exact .inl (MR h ey ak b4 bz gQ)
 rename_i j want dt;split at ak
 ·simp at ak
 rename_i d QU;have hval:=h.env d;split at ak
 ·rename_i x aa
  rw[aa] at hval;have aZ:=hval.t9
  have dq:d<a.tmps.size:=by
   rcases Nat.lt_or_ge d a.tmps.size with cf|cf
   ·exact cf
   rw[afe,Array.getElem?_eq_none cf] at aZ;simp[undef] at aZ
  have aP:yielded ops a.tmps j=some x:=(by unfold yielded;rw[QU];rw[afe,dS dq] at aZ;simp only[Option.getD_some] at aZ;simp[dS dq,aZ]);split at ak
  ·split at ak
   ·rename_i r aj;simp only[dy] at ak;subst ak;have Jb:x=want:=b4 _ (by simp);have hw:Region.wanted I (yielded ops a.tmps)=true:=(by simp[Region.wanted,dt,aP,Jb]);rw[dw hw];exact .inl (MR h ey aj (fun p ah=>b4 p (by simp[ah])) bz gQ)
   simp at ak
  simp only[dy] at ak;subst ak;have Jb:x = !want:=b4 _ (by simp);have hw:Region.wanted I (yielded ops a.tmps)=false:=(by simp[Region.wanted,dt,aP,Jb]);rw[hw];exact Qr _ rfl gQ
 ·rename_i aa
  simp only[dy] at ak;subst ak;rw[aa] at hval;obtain⟨vs,aZ,aF,-⟩:=hval.yo;have:vs=[]:=dK.1 (by simpa using aF);subst this
  have aP:yielded ops a.tmps j=none:=by
   unfold yielded;rw[QU];rw[afe] at aZ
   cases a2:a.tmps[d]? with
   | none=>simp[a2]
   | some v=>rw[a2] at aZ;simp only[Option.getD_some] at aZ;simp[a2,aZ]
  have hw:Region.wanted I (yielded ops a.tmps)=false:=(by simp[Region.wanted,dt,aP]);rw[hw];exact Qr _ rfl gQ
 simp at ak
end
def qy (P:Program)(N:Nat)(ops:Array Oper):List Oper->List (eG×Bool)->S->Nat->Option (S×List Prop)
 | [],[],s,_=>some (s,[])
 | I::l,fp::cr,s,aR=>match qF P N ops s aR I fp with
  | some bc=>match qy P N ops l cr (s.a1 I bc) (aR+1) with
   | some (bH,af)=>some (bH,bc.eX++af)
   | none=>none
  | none=>none
 | _,_,_,_=>none
def S.j8 (s:S)(n:Nat):Prop:= ∀r,n<=r->s.aH r=none
theorem NI : ∀(u:List (Nat×List aM)) (s:S) (q:Nat),(∀p∈u,p.1≠q)->(s.hN u).aH q=s.aH q
 | [],s,q,_=>rfl
 | (r,row)::u,s,q,h=>by show ((s.setRow r row).hN u).aH q=_;rw[NI u (s.setRow r row) q fun p ah=>h p (by simp[ah])];have:=h (r,row) (by simp);simp[S.setRow,Ne.symm this]
theorem Dq {P:Program}{N:Nat}{ops:Array Oper}{s:S}{aR:Nat}{I:Oper}{fp:eG×Bool}{bc:gM}(h:qF P N ops s aR I fp=some bc)(b0:s.j8 aR):(s.a1 I bc).j8 (aR+1):=by
 have key : ∀r,(∀p∈r.fz,p.1=aR\/(s.aH p.1).isSome=true)->(s.a1 I r).j8 (aR+1):=by
  intro r aj q a2;unfold S.a1;rw[S.t8,NI]
  ·exact b0 q (by omega)
  rintro p ah rfl;rcases aj p ah with e|e
  ·omega
  rw[b0 _ (by omega)] at e;simp at e
 have QV : ∀r,s7 P s aR I fp.1=some r-> ∀p∈r.fz,p.1=aR\/(s.aH p.1).isSome=true:=by
  intro r aj;unfold s7 at aj;split at aj
  ·split at aj
   ·rename_i aL;simp only[dy] at aj;subst aj;intro p ah;have:=List.all_eq_true.1 aL p ah;simpa using this
   simp at aj
  simp at aj
 unfold qF at h;split at h
 ·simp at h
 split at h
 ·exact key bc (QV bc h)
 split at h
 ·simp at h
 split at h
 ·split at h
  ·split at h
   ·rename_i r aj;simp only[dy] at h;subst h;exact key _ (QV r aj)
   simp at h
  simp only[dy] at h;subst h;exact key _ (by simp)
 ·simp only[dy] at h;subst h;exact key _ (by simp)
 simp at h
theorem MG {P:Program}{ops:Array Oper}{Q:Exit->Act->World->Prop}{g:G}: ∀(l:List Oper) (cr:List (eG×Bool)) (s bH:S) (aR i:Nat) (af:List Prop),
 (∀j I,l[j]? = some I->ops[i+j]? = some I)->qy P g.N ops l cr s aR=some (bH,af)->(∀p∈af,p)->s.j8 aR ->
 (∀bG dr bx,cq g bH bG dr bx->Q .normal dr bx)-> ∀al a w,cq g s al a w->wpOps P ops Q ((List.range l.length).map (i + ·)) a w
 | [],[],s,bH,aR,i,af,_,h,_,_,uG,al,a,w,aj=>by simp[qy] at h;obtain⟨rfl,rfl⟩:=h;exact uG al a w aj
 | I::l,fp::cr,s,bH,aR,i,af,aF,h,a5,b0,uG,al,a,w,aj=>by
  simp only[qy] at h;split at h;rotate_left
  ·simp at h
  rename_i bc ak;split at h
  ·rename_i s2 BW J
   simp only[dy,dC] at h;obtain⟨rfl,rfl⟩:=h;have e:(List.range (I::l).length).map (i + ·)=i::(List.range l.length).map (i+1 + ·):=(by rw[dM,List.range_succ_eq_map,List.map_cons,List.map_map];congr 1;apply afq;intro x _;simp[Function.comp];omega);rw[e,wpOps_cons];refine MS aj (b0 aR (dE _)) (by simpa using aF 0 I rfl) ak (fun p ah=>a5 p (by simp[ah])) fun bG dr bx hp=> ?_
   exact MG l cr (s.a1 I bc) s2 (aR+1) (i+1) BW (fun j bX av=>by rw[show i+1+j=i+(j+1) by omega];exact aF (j+1) bX (by simpa using av)) J (fun p ah=>a5 p (by simp[ah]))
    (Dq ak b0) uG bG dr bx hp
  simp at h
 | [],_::_,_,_,_,_,_,_,h,_,_,_,_,_,_,_=>by simp[qy] at h
 | _::_,[],_,_,_,_,_,_,h,_,_,_,_,_,_,_=>by simp[qy] at h
theorem tR {α β:Type}{f jI:α->β->Option (β×List Prop)}(b0:∀a b z,jI a b=some z->f a b=some z): ∀ {l:List α} {m:List β} {z:List β×List Prop},k7 jI l m=some z->k7 f l m=some z
 | [],[],z,h=>h
 | [],_::_,z,h=>by simp[k7] at h
 | _::_,[],z,h=>by simp[k7] at h
 | a::l,b::m,z,h=>by
  simp only[k7] at h ⊢;split at h
  ·rename_i jv bS aU aY o J;rw[b0 _ _ _ o,tR b0 J];exact h
  simp at h
section
variable {aH gn:Nat->Option (List aM)} (cv : ∀r row,gn r=some row->aH r=some row)
include cv
theorem Dw {r k:Nat}{I:aM}(h:cX (gn r) k=some I):cX (aH r) k=some I:=by
 cases aj:gn r with
 | none=>rw[aj] at h;simp[cX] at h
 | some row=>rw[cv r row aj];rw[aj] at h;exact h
theorem G5 {r k:Nat}{cr:eG}{z:aM×List Prop}(h:nB (gn r) k cr=some z):nB (aH r) k cr=some z:=by
 cases aj:gn r with
 | none=>rw[aj] at h;unfold nB at h;split at h<;>simp[cX] at h
 | some row=>rw[cv r row aj];rw[aj] at h;exact h
theorem x6 {b7:Nat->Option Nat}{aO:gC}{bI:fZ->Bool}{c:rK}{x:an}{z:an×List Prop}(h:k6 gn b7 aO bI c x=some z):k6 aH b7 aO bI c x=some z:=by
 cases c with
 | id =>
  simp only[k6] at h ⊢;exact h
 | jF sz=>cases x<;>exact h
 | i7=>exact h
 | dp y=>exact h
 | py sz=>exact h
 | len n=>cases x<;>exact h
 | at_ j i n=>cases x<;>exact h
 | view eg I es =>
  cases x<;>simp only[k6,reduceCtorEq] at h ⊢;split at h
  ·rename_i row jt o J;rw[cv _ _ o,cv _ _ J];exact h
  simp at h
 | fb es =>
  cases x<;>simp only[k6,reduceCtorEq] at h ⊢;split at h
  ·rename_i I ai;rw[Dw cv ai];exact h
  simp at h
theorem GU {b7:Nat->Option Nat}{aO:gC}{bI:fZ->Bool}{c:zu}{x:an}{z:an×List Prop}(h:n7 gn b7 aO bI c x=some z):n7 aH b7 aO bI c x=some z:=by
 cases c with
 | cj c =>
  simp only[n7] at h ⊢;split at h
  ·rename_i aV
   rw[dw aV];split at h
   ·exact h
   ·exact h
   ·exact h
   exact x6 cv h
  rename_i aV;rw[dA aV];exact x6 cv h
 | agg l =>
  cases x<;>simp only[n7,reduceCtorEq] at h ⊢;split at h
  ·rename_i dW af aL;rw[tR (fun a b z h=>x6 cv h) aL];exact h
  simp at h
 | ptr l =>
  cases x<;>simp only[n7,reduceCtorEq] at h ⊢;split at h;rotate_left
  ·simp at h
  rename_i I ai;rw[Dw cv ai];simp only;split at h
  ·rename_i c ho
   split at h
   ·rename_i aL
    rw[dw aL];split at h
    ·rename_i dW af hy;rw[tR (fun a b z h=>x6 cv h) hy];exact h
    simp at h
   simp at h
  simp at h
 | tb l =>
  simp only[n7] at h ⊢;split at h;rotate_left
  ·simp at h
  split at h;rotate_left
  ·simp at h
  rename_i I ai;rw[Dw cv ai];simp only;split at h
  ·rename_i c ho
   split at h
   ·rename_i aL
    rw[dw aL];split at h
    ·rename_i dW af hy;rw[tR (fun a b z h=>x6 cv h) hy];exact h
    simp at h
   simp at h
  simp at h
theorem Ng {b7:Nat->Option Nat}{aO:gC}{bI:fZ->Bool}{c:kE}{x:an}{z:an×List Prop}(h:nv gn b7 aO bI c x=some z):nv aH b7 aO bI c x=some z:=by
 cases c with
 | bB c =>
  simp only[nv] at h ⊢;split at h
  ·rename_i aV
   rw[dw aV];split at h
   ·exact h
   exact GU cv h
  rename_i aV;rw[dA aV];exact GU cv h
 | comp l =>
  cases x<;>simp only[nv,reduceCtorEq] at h ⊢
  all_goals
   split at h
   ·rename_i dW af aL;rw[tR (fun a b z h=>GU cv h) aL];exact h
   simp at h
theorem Nh {b7:Nat->Option Nat}{aO:gC}{bI:fZ->Bool}{c:h6}{row:List aM}{z:List aM×List Prop}(h:iR gn b7 aO bI c row=some z):iR aH b7 aO bI c row=some z:=by
 cases c with
 | pure=>exact h
 | dp dU=>exact h
 | b9 a9=>exact h
 | rx a9=>cases row with
  | nil=>simp[iR] at h
  | cons I l=>cases l<;>simp[iR] at h
 | drop=>cases row with
  | nil=>simp[iR] at h
  | cons I l=>cases l<;>simp[iR] at h
 | box l =>
  match row,h with
  | [I],h =>
   simp only[iR] at h ⊢;split at h
   ·rename_i c ho
    split at h
    ·rename_i aQ
     rw[dw aQ];split at h
     ·rename_i dW af aL;rw[tR (fun a b z h=>x6 cv h) aL];exact h
     simp at h
    simp at h
   simp at h
  | [],h=>simp[iR] at h
  | _::_::_,h=>simp[iR] at h
theorem GH {b7:Nat->Option Nat}{aO:gC}: ∀ {l:List Src} {cn:List h6} {z:List (List aM)×List Prop},lO gn b7 aO l cn=some z->lO aH b7 aO l cn=some z
 | [],[],z,h=>h
 | .row r::l,c::cn,z,h=>by
  simp only[lO] at h ⊢;split at h
  ·rename_i row cV
   rw[cv r row cV];simp only;split at h
   ·rename_i dU bS T aY o J;rw[Nh cv o,GH J];exact h
   simp at h
  simp at h
 | .af r k I::l,c::cn,z,h=>by
  simp only[lO] at h ⊢;split at h
  ·rename_i row cV
   rw[cv r row cV];simp only;split at h
   ·rename_i dU bS T aY o J;rw[Nh cv o,GH J];exact h
   simp at h
  simp at h
 | [],_::_,z,h=>by simp[lO] at h
 | .row _::_,[],z,h=>by simp[lO] at h
 | .af .. :: _,[],z,h=>by simp[lO] at h
omit cv in
theorem Df {wG:Nat->Option (List aM)}{b7:Nat->Option Nat}{kf:gC}: ∀ {l:List Src} {cn:List h6} {T:List (List aM)} {aH gn:Nat->Option (List aM)} {z:List (Nat×List aM)×List Prop},
 (∀r row,gn r=some row->aH r=some row)->kv wG b7 kf gn l cn T=some z->kv wG b7 kf aH l cn T=some z
 | [],[],[],aH,gn,z,_,h=>h
 | .row q::l,c::cn,row::T,aH,gn,z,cv,h=>by
  simp only[kv] at h ⊢;split at h
  ·rename_i dU bS o
   split at h
   ·rename_i u aY J;rw[Df (fun r row aj=>by split at aj<;>rename_i e<;>simp only[e,if_true,if_false]<;>first|exact aj|exact cv _ _ aj) J];exact h
   simp at h
  simp at h
 | .af q k I::l,c::cn,row::T,aH,gn,z,cv,h=>by
  simp only[kv] at h ⊢;split at h
  ·rename_i lb aL
   rw[cv _ _ aL];simp only;split at h
   ·rename_i bX bS o
    split at h
    ·rename_i u aY J;rw[Df (fun r row aj=>by split at aj<;>rename_i e<;>simp only[e,if_true,if_false]<;>first|exact aj|exact cv _ _ aj) J];exact h
    simp at h
   simp at h
  simp at h
 | [],[],_::_,_,_,_,_,h=>by simp[kv] at h
 | [],_::_,_,_,_,_,_,h=>by simp[kv] at h
 | .row _::_,[],_,_,_,_,_,h=>by simp[kv] at h
 | .af .. :: _,[],_,_,_,_,_,h=>by simp[kv] at h
 | .row _::_,_::_,[],_,_,_,_,h=>by simp[kv] at h
 | .af .. :: _,_::_,[],_,_,_,_,h=>by simp[kv] at h
omit cv in
theorem Hg : ∀ {u:List (Nat×List aM)} {aH gn:Nat->Option (List aM)} {q:Nat} {row:List aM},(∀r row,gn r=some row->aH r=some row)->y9 u gn q=some row->y9 u aH q=some row
 | [],_,_,_,_,cv,h=>cv _ _ h
 | (r,aw)::u,aH,gn,q,row,cv,h=>Hg (u:=u) (fun r row aj=>by split at aj<;>rename_i e<;>simp only[e,if_true,if_false]<;>first|exact aj|exact cv _ _ aj) h
theorem Ur {aR r n:Nat}{bc po:gM}(h:vi gn aR r n bc=some po):vi aH aR r n bc=some po:=by
 unfold vi at h ⊢;split at h
 ·rename_i gh l o J;rw[Hg cv o,Hg cv J];exact h
 simp at h
theorem Vp {P:Program}{aR:Nat}{f:FuncId}{args:List an}{b6:zv}{bc:gM}(h:yJ P gn aR f args b6=some bc):yJ P aH aR f args b6=some bc:=by
 unfold yJ at h ⊢;simp only at h ⊢;split at h
 ·simp at h
 rename_i kW h0;split at h
 ·simp at h
 rename_i we;rw[dA we];split at h
 ·rename_i BV
  rw[dw BV];split at h
  ·rename_i uv
   split at h
   ·rename_i qE bS ep gm u fs o ab aA;rw[tR (fun a b z h=>Ng cv h) o,ab,Df cv aA];exact h
   simp at h
  simp at h
 rename_i BV;rw[dA BV];split at h
 ·rename_i qE bS T aY ep gm u fs o J ab aA;rw[tR (fun a b z h=>Ng cv h) o,GH cv J,ab,Df cv aA];exact h
 simp at h
end
theorem mapM_congr {α β:Type}{f jI:α->Option β}: ∀ {l:List α},(∀x∈l,jI x=f x)->l.mapM jI=l.mapM f
 | [],_=>rfl
 | x::l,h=>by rw[List.mapM_cons,List.mapM_cons,h x (by simp),mapM_congr fun y aP=>h y (by simp[aP])]
theorem Vq {P:Program}{aH gn:Nat->Option (List aM)}{t:TypeId}{x jT:an}{cr:eG}{bc:gM}(cv:∀r row,gn r=some row->aH r=some row)(h:yF P gn t x jT cr=some bc):yF P aH t x jT cr=some bc:=by
 unfold yF at h ⊢;split at h
 ·split at h
  ·rename_i a2;rw[G5 cv a2];exact h
  simp at h
 simp at h
theorem DL {P:Program}{E lE:Nat->an}{aH gn:Nat->Option (List aM)}{aR:Nat}{I:Oper}{cr:eG}{bc:gM}
 (d1 : ∀x∈I.op.operands,eh lE x=eh E x) (cv : ∀r row,gn r=some row->aH r=some row) (h:et P lE gn aR I cr=some bc):et P E aH aR I cr=some bc:=by
 have a5 : ∀ {r k:Nat} {z:aM×List Prop},nB (gn r) k cr=some z->nB (aH r) k cr=some z:=fun h=>G5 cv h
 cases ai:I.op with
 | move x=>simp only[et,ai] at h ⊢;rw[<- d1 x (by simp[ai,Op.operands])];exact h
 | assign x=>simp only[et,ai] at h ⊢;rw[<- d1 x (by simp[ai,Op.operands])];exact h
 | pick c x y =>
  simp only[et,ai] at h ⊢;rw[<- d1 c (by simp[ai,Op.operands]),<- d1 x (by simp[ai,Op.operands]),<- d1 y (by simp[ai,Op.operands])];exact h
 | alloc t=>simp only[et,ai] at h ⊢;exact h
 | box t x=>simp only[et,ai] at h ⊢;rw[<- d1 x (by simp[ai,Op.operands])];exact h
 | load t x =>
  simp only[et,ai] at h ⊢;rw[<- d1 x (by simp[ai,Op.operands])];split at h
  ·split at h
   ·rename_i a2;rw[a5 a2];exact h
   simp at h
  ·exact h
  simp at h
 | store t x y =>
  simp only[et,ai] at h ⊢;rw[<- d1 x (by simp[ai,Op.operands]),<- d1 y (by simp[ai,Op.operands])];split at h
  ·split at h
   ·simp at h
   rename_i row cV;rw[cv _ row cV];exact h
  simp at h
 | nilCheck x =>
  simp only[et,ai] at h ⊢;rw[<- d1 x (by simp[ai,Op.operands])];split at h
  ·split at h
   ·rename_i a2;rw[a5 a2];exact h
   simp at h
  ·exact h
  ·exact h
  simp at h
 | binOp op t x y cW =>
  simp only[et,ai] at h ⊢;rw[<- d1 x (by simp[ai,Op.operands]),<- d1 y (by simp[ai,Op.operands])];exact h
 | unOp op t x=>simp only[et,ai] at h ⊢;rw[<- d1 x (by simp[ai,Op.operands])];exact h
 | convert t cW x =>
  simp only[et,ai] at h ⊢;rw[<- d1 x (by simp[ai,Op.operands])];split at h
  ·exact h
  ·rename_i r k bw len o J
   split at h
   ·rename_i af ab aA;rw[Dw cv aA,ab];exact h
   simp at h
  simp at h
 | makeFunc f Ck b6 =>
  cases f with
  | func n =>
   simp only[et,ai] at h ⊢;have:b6.toList.map (eh lE)=b6.toList.map (eh E):=afq fun x aa=>d1 x (by simp[ai,Op.operands];right;simpa using aa);rw[<- this];exact h
  | _=>simp[et,ai] at h
 | makeSlice t x y =>
  simp only[et,ai] at h ⊢;rw[<- d1 x (by simp[ai,Op.operands]),<- d1 y (by simp[ai,Op.operands])];exact h
 | fieldAddr t x f =>
  simp only[et,ai] at h ⊢;rw[<- d1 x (by simp[ai,Op.operands])];split at h
  ·split at h
   ·split at h
    ·simp at h
    rename_i b5;rw[dA b5];split at h
    ·split at h
     ·rename_i a2;rw[a5 a2];exact h
     simp at h
    ·exact h
    simp at h
   simp at h
  simp at h
 | field t x f=>simp only[et,ai] at h ⊢;rw[<- d1 x (by simp[ai,Op.operands])];exact h
 | indexAddr t x y =>
  simp only[et,ai] at h ⊢;rw[<- d1 x (by simp[ai,Op.operands]),<- d1 y (by simp[ai,Op.operands])];split at h
  ·split at h
   ·exact h
   ·split at h
    ·rename_i row cV;rw[cv _ row cV];exact h
    simp at h
   simp at h
  exact Vq cv h
 | index t x y =>
  simp only[et,ai] at h ⊢;rw[<- d1 x (by simp[ai,Op.operands]),<- d1 y (by simp[ai,Op.operands])];exact h
 | extract x i=>simp only[et,ai] at h ⊢;rw[<- d1 x (by simp[ai,Op.operands])];exact h
 | slice t x bw ae tA =>
  cases tA with
  | none =>
   simp only[et,ai] at h ⊢
   have ao:bw.map (eh lE)=bw.map (eh E):=by
    cases bw with
    | none=>rfl
    | some y=>simp only[dQ];rw[d1 y (by simp[ai,Op.operands])]
   have aB:ae.map (eh lE)=ae.map (eh E):=by
    cases ae with
    | none=>rfl
    | some y=>simp only[dQ];rw[d1 y (by simp[ai,Op.operands])]
   rw[<- d1 x (by simp[ai,Op.operands]),<- ao,<- aB];split at h
   ·exact h
   ·split at h
    ·simp at h
    rename_i row cV;rw[cv _ row cV];exact h
   ·exact h
   simp at h
  | some m =>
   cases ae with
   | none=>simp[et,ai] at h
   | some ae =>
    simp only[et,ai] at h ⊢
    have ao:bw.map (eh lE)=bw.map (eh E):=by
     cases bw with
     | none=>rfl
     | some y=>simp only[dQ];rw[d1 y (by simp[ai,Op.operands])]
    have aB:(some ae).map (eh lE)=(some ae).map (eh E):=(by simp only[dQ];rw[d1 ae (by simp[ai,Op.operands])]);have bT:(some m).map (eh lE)=(some m).map (eh E):=(by simp only[dQ];rw[d1 m (by simp[ai,Op.operands])]);rw[<- d1 x (by simp[ai,Op.operands]),<- ao,<- aB,<- bT];split at h
    ·split at h
     ·simp at h
     rename_i row cV;rw[cv _ row cV];exact h
    simp at h
 | build t i7 =>
  simp only[et,ai] at h ⊢;have ah : ∀p∈i7.toList,eh lE p.2=eh E p.2:=fun p ah=>d1 p.2 (by simp only[ai,Op.operands];rw[<- Array.mem_toList_iff];simp only[List.mem_map];exact⟨p,ah,rfl⟩);split at h
  ·rename_i jG z _ _
   split at h
   ·simp at h
   rename_i a2;rw[dA a2]
   have e:(i7.toList.mapM fun (p:Nat×Operand)=>(jG[p.1]?).map fun fd=>(fd.offset,P.cellsOf fd.type,eh lE p.2)) =
    i7.toList.mapM fun (p:Nat×Operand)=>(jG[p.1]?).map fun fd=>(fd.offset,P.cellsOf fd.type,eh E p.2):=mapM_congr fun p lx=>by rw[ah p lx]
   rw[<- e];exact h
  rw[<- (afq fun p lx=>by rw[ah p lx]:(i7.toList.map fun p=>(p.1,eh lE p.2))=i7.toList.map fun p=>(p.1,eh E p.2))];exact h
 | buildSlice t n i7 =>
  simp only[et,ai] at h ⊢;have ah : ∀p∈i7.toList,eh lE p.2=eh E p.2:=fun p ah=>d1 p.2 (by simp only[ai,Op.operands];rw[<- Array.mem_toList_iff];simp only[List.mem_map];exact⟨p,ah,rfl⟩);have e:(i7.toList.map fun p=>(p.1,eh lE p.2))=i7.toList.map fun p=>(p.1,eh E p.2):=afq fun p lx=>(by rw[ah p lx]);rw[<- e];exact h
 | call c =>
  obtain⟨EH,args,lY⟩:=c
  cases EH with
  | builtin b =>
   cases b<;>first
    | (simp only[et,ai] at h ⊢
       have e:args.toList.map (eh lE)=args.toList.map (eh E):=afq fun x aa=>d1 x (by simp only[ai,Op.operands,Call.operands];simpa using aa);rw[<- e];split at h
       ·exact h
       ·split at h
        ·rename_i row cV;rw[cv _ row cV];exact h
        simp at h
       ·exact h
       ·exact h
       simp at h)
    | simp[et,ai] at h
  | value f=>simp[et,ai] at h
  | invoke r m=>simp[et,ai] at h
 | _=>simp[et,ai] at h
theorem Ni {aH gn:Nat->Option (List aM)}(cv:∀r row,gn r=some row->aH r=some row){sz:Nat}{x:an}{fp:eG}{z:List (List an)×List Prop}(h:rj sz gn fp x=some z):rj sz aH fp x=some z:=by
 cases x with
 | bK r k bw len =>
  simp only[rj] at h ⊢;split at h
  ·rename_i af bS a5;rw[G5 cv a5];exact h
  simp at h
 | _=>exact h
theorem MT {P:Program}{aH gn:Nat->Option (List aM)}(cv:∀r row,gn r=some row->aH r=some row){sz:Nat}{z:List an}{t cW:TypeId}{x:an}{fp:eG}{y:List (List an)×List Prop}(h:vu P sz z gn fp t cW x=some y):vu P sz z aH fp t cW x=some y:=by
 unfold vu at h ⊢;split at h
 ·rename_i e;rw[dw e];exact Ni cv h
 rename_i e;rw[dA e];exact h
theorem NJ {tB:Bool}{P:Program}{aH gn:Nat->Option (List aM)}{x y:an}{t cW:TypeId}{bc:gM}
 (cv : ∀r row,gn r=some row->aH r=some row) (h:td tB P gn x y t cW=some bc):td tB P aH x y t cW=some bc:=by
 unfold td at h ⊢;split at h
 ·simp at h
 split at h;rotate_left
 ·simp at h
 split at h
 ·simp at h
 rename_i aL;rw[dA aL];split at h
 ·simp at h
 rename_i bi bS rr;rw[MT cv rr];simp only;split at h
 ·split at h
  ·simp at h
  rename_i row cV;rw[cv _ row cV];exact h
 simp at h
theorem Vr {P:Program}{aH gn:Nat->Option (List aM)}{r k bw len:Nat}{t:TypeId}{bc:gM}
 (cv : ∀r row,gn r=some row->aH r=some row) (h:vD P gn r k bw len t=some bc):vD P aH r k bw len t=some bc:=by
 unfold vD at h ⊢;split at h
 ·simp at h
 split at h
 ·split at h
  ·simp at h
  rename_i row cV;rw[cv _ row cV];exact h
 simp at h
theorem V0 {P:Program}{aH gn:Nat->Option (List aM)}{r k len:Nat}{t:TypeId}{bc:gM}
 (cv : ∀r row,gn r=some row->aH r=some row) (h:vP P gn r k len t=some bc):vP P aH r k len t=some bc:=by
 unfold vP at h ⊢;split at h
 ·simp at h
 split at h
 ·split at h
  ·simp at h
  rename_i row cV;rw[cv _ row cV];exact h
 simp at h
theorem WO {P:Program}{E lE:Nat->an}{aH gn:Nat->Option (List aM)}{aR:Nat}{b:Builtin}{args:List an}{lY:List TypeId}{cr:eG}{bc:gM}
 (cv : ∀r row,gn r=some row->aH r=some row) (h:ry P lE gn aR b args lY cr=some bc):ry P E aH aR b args lY cr=some bc:=by
 unfold ry at h ⊢;split at h
 ·split at h
  ·simp at h
  split at h;rotate_left
  ·simp at h
  split at h
  ·simp at h
  rename_i aL;rw[dA aL];split at h
  ·simp at h
  rename_i bi bS rr;rw[MT cv rr];simp only;split at h
  ·exact h
  ·split at h
   ·simp at h
   rename_i row cV;rw[cv _ row cV];exact h
  simp at h
 ·exact NJ cv h
 ·exact NJ cv h
 ·split at h
  ·simp at h
  split at h
  ·simp at h
  split at h
  ·simp at h
  rename_i bi bS rr;rw[Ni cv rr];simp only;split at h
  ·simp at h
  rename_i row cV;rw[cv _ row cV];exact h
 ·exact Vr cv h
 ·exact V0 cv h
 ·exact h
 simp at h
theorem WQ {P:Program}{E lE:Nat->an}{aH gn:Nat->Option (List aM)}{aR:Nat}{I:Oper}{cr:eG}{bc:gM}
 (d1 : ∀x∈I.op.operands,eh lE x=eh E x) (cv : ∀r row,gn r=some row->aH r=some row) (h:y4 P lE gn aR I cr=some bc):y4 P E aH aR I cr=some bc:=by
 unfold y4 at h ⊢;split at h
 ·rename_i b args lY ai
  split at h
  ·exact DL d1 cv h
  have e:args.toList.map (eh lE)=args.toList.map (eh E):=afq fun x aa=>d1 x (by simp only[ai,Op.operands,Call.operands];simpa using aa);rw[<- e];exact WO cv h
 ·rename_i op t x y cW ai
  have hq:=d1 x (by simp[ai,Op.operands]);have iF:=d1 y (by simp[ai,Op.operands]);rw[<- hq,<- iF];split at h
  ·exact h
  ·exact h
  ·exact h
  ·exact h
  ·exact h
  ·exact h
  ·simp at h
  exact DL d1 cv h
 ·rename_i x ai
  have hq:=d1 x (by simp[ai,Op.operands]);rw[<- hq];split at h
  ·exact h
  ·simp at h
  exact DL d1 cv h
 exact DL d1 cv h
theorem tP {P:Program}{s bH:S}{aR:Nat}{I:Oper}{cr:eG}{bc:gM}
 (d1 : ∀x∈I.op.operands,eh bH.E x=eh s.E x) (cv : ∀r row,bH.aH r=some row->s.aH r=some row) (aj:yA P bH aR I cr=some bc):yA P s aR I cr=some bc:=by
 unfold yA at aj ⊢;split at aj
 ·rename_i b6
  split at aj
  ·rename_i f args mU ai
   simp only[ai] at aj d1 ⊢;have b0:=d1 f (by simp[Op.operands,Call.operands]);have bA:args.toList.map (eh bH.E)=args.toList.map (eh s.E):=afq fun x aa=>d1 x (by simp only[Op.operands,Call.operands];simp only[Array.mem_append];right;simpa using aa);rw[b0,bA] at aj;split at aj
   ·exact Vp cv aj
   simp at aj
  simp at aj
 exact WQ d1 cv aj
theorem Dr {P:Program}{aR:Nat}{I:Oper}: ∀(cr:eG) (s bH:S) (bc:gM),(∀x∈I.op.operands,eh bH.E x=eh s.E x)->(∀r row,bH.aH r=some row->s.aH r=some row) ->
 jM P aR I cr bH=some bc->jM P aR I cr s=some bc
 | .fB t v fp,s,bH,bc,d1,cv,h=>by
  unfold jM at h ⊢;split at h;rotate_left
  ·simp at h
  rename_i ie;rw[dw ie]
  have lX:Operand.tmp t∈I.op.operands:=by
   unfold Pj at ie;rw[List.any_eq_true] at ie;obtain⟨x,aa,a2⟩:=ie
   cases x with
   | tmp u =>
    have:u=t:=(by simpa using a2);subst this;simpa using aa
   | _=>simp at a2
  have het:bH.E t=s.E t:=d1 _ lX;split at h
  ·rename_i r aj
   have:=Dr fp {E:=fun u=>if u=t then v else s.E u,aH:=s.aH} {E:=fun u=>if u=t then v else bH.E u,aH:=bH.aH} r (fun x aa=>by
    cases x with
    | tmp u =>
     show (if u=t then v else bH.E u)=(if u=t then v else s.E u);split
     ·rfl
     exact d1 (.tmp u) aa
    | _=>rfl) cv aj
   rw[this];simp only;rw[<- het];exact h
  simp at h
 | .sx r fp,s,bH,bc,d1,cv,h=>by
  unfold jM at h ⊢;split at h
  ·rename_i row cV
   rw[cv r row cV];simp only;split at h
   ·rename_i po aj
    have:=Dr fp (s.setRow r (ll row)) (bH.setRow r (ll row)) po d1 (fun q dU a2=>by
     simp only[S.setRow] at a2 ⊢;split at a2
     ·rename_i e;rw[dw e];exact a2
     rename_i e;rw[dA e];exact cv q dU a2) aj
    rw[this];exact h
   simp at h
  simp at h
 | .Ci r n fp,s,bH,bc,d1,cv,h=>by
  unfold jM at h ⊢;split at h
  ·rename_i po aj;rw[Dr fp s bH po d1 cv aj];exact Ur cv h
  simp at h
 | .none,s,bH,bc,d1,cv,h=>by unfold jM at h ⊢;exact tP d1 cv h
 | .ay b,s,bH,bc,d1,cv,h=>by unfold jM at h ⊢;exact tP d1 cv h
 | .db c,s,bH,bc,d1,cv,h=>by unfold jM at h ⊢;exact tP d1 cv h
 | .hn af c,s,bH,bc,d1,cv,h=>by unfold jM at h ⊢;exact tP d1 cv h
 | .df,s,bH,bc,d1,cv,h=>by unfold jM at h ⊢;exact tP d1 cv h
 | .uE,s,bH,bc,d1,cv,h=>by unfold jM at h ⊢;exact tP d1 cv h
 | .call c,s,bH,bc,d1,cv,h=>by unfold jM at h ⊢;exact tP d1 cv h
 | .a1 m bX,s,bH,bc,d1,cv,h=>by unfold jM at h ⊢;exact tP d1 cv h
def tmpsOf (I:Oper):List Nat:=I.op.operands.toList.filterMap fun | .tmp t=>some t|_=>none
def YA:an->List Nat
 | .ref r _ _ _=>[r]
 | .bK r _ _ _=>[r]
 | .iA r _ _ _=>[r]
 | _=>[]
def og (ops:Array Oper)(I:Oper):List Nat :=
 tmpsOf I++(match I.guard with
  | some (j,_)=>((ops[j]?).bind (·.dst)).toList
  | none=>[])
def za (s:S)(I:Oper):eG->List Nat
 | .call b6=>b6.c8
 | .fB t v fp=>za {E:=fun u=>if u=t then v else s.E u,aH:=s.aH} I fp
 | .sx r fp=>r::za s I fp
 | .Ci r _ fp=>r::za s I fp
 | _=>match I.op with
  | .move _=>[]
  | _=>(tmpsOf I).flatMap fun t=>YA (s.E t)
def S.only (s:S)(mU ja:List Nat):S:={E:=fun t=>if mU.contains t then s.E t else .dead,aH:=fun r=>if ja.contains r then s.aH r else none}
theorem GV {P:Program}{N:Nat}{ops:Array Oper}{s:S}{aR:Nat}{I:Oper}{fp:eG×Bool}{bc:gM}{ja:List Nat}
 (h:qF P N ops (s.only (og ops I) ja) aR I fp=some bc):qF P N ops s aR I fp=some bc:=by
 have d1 : ∀x∈I.op.operands,eh (s.only (og ops I) ja).E x=eh s.E x:=by
  intro x aa
  cases x with
  | tmp t =>
   have:t∈og ops I:=(by unfold og;rw[List.mem_append];left;unfold tmpsOf;rw[List.mem_filterMap];exact⟨.tmp t,by simpa using aa,rfl⟩);simp[eh,S.only,this]
  | _=>rfl
 have cv : ∀r row,(s.only (og ops I) ja).aH r=some row->s.aH r=some row:=by
  intro r row aj;simp only[S.only] at aj;split at aj
  ·exact aj
  simp at aj
 have h0 : ∀r,D9 P (s.only (og ops I) ja) aR I fp.1=some r->D9 P s aR I fp.1=some r:=fun r aj=>Dr fp.1 s _ r d1 cv aj
 have o : ∀r,s7 P (s.only (og ops I) ja) aR I fp.1=some r->s7 P s aR I fp.1=some r:=by
  intro r aj;unfold s7 at aj ⊢;split at aj;rotate_left
  ·simp at aj
  rename_i ep hp;rw[h0 ep hp];simp only;split at aj
  ·rename_i aL
   rw[dw]
   ·exact aj
   rw[List.all_eq_true] at aL ⊢;intro p ah;have:=aL p ah;simp only[Bool.or_eq_true,decide_eq_true_eq] at this ⊢;rcases this with e|e
   ·exact .inl e
   right
   cases a2:(s.only (og ops I) ja).aH p.1 with
   | none=>rw[a2] at e;simp at e
   | some row=>rw[cv _ row a2];rfl
  simp at aj
 unfold qF at h ⊢;split at h
 ·simp at h
 rename_i Bx;rw[dA Bx];split at h
 ·exact o _ h
 rename_i j want dt;split at h
 ·simp at h
 rename_i d bz;have lX:d∈og ops I:=by unfold og;rw[List.mem_append];right;simp[dt,bz]
 have he:(s.only (og ops I) ja).E d=s.E d:=by simp[S.only,lX]
 rw[he] at h;split at h
 ·split at h
  ·rename_i aN
   rw[dw aN];split at h
   ·rename_i r aj;rw[o r aj];exact h
   simp at h
  rename_i aN;rw[dA aN];exact h
 ·exact h
 simp at h
structure Rec where
 I:Oper
 fp:eG×Bool
 mU:List Nat
 ja:List Nat
 bc:gM
def qz (P:Program)(N:Nat)(ops:Array Oper):List Oper->List (eG×Bool)->S->Nat->Option (S×List Rec)
 | [],[],s,_=>some (s,[])
 | I::l,fp::cr,s,aR =>
  match qF P N ops (s.only (og ops I) (aR::za s I fp.1)) aR I fp with
  | some bc=>match qz P N ops l cr (s.a1 I bc) (aR+1) with
   | some (bH,rec)=>some (bH,⟨I,fp,og ops I,aR::za s I fp.1,bc⟩::rec)
   | none=>none
  | none=>none
 | _,_,_,_=>none
def meets (a b:List Nat):Bool:=a.any fun x=>b.contains x
def pZ (x y:Rec):Bool :=
 meets x.I.dst.toList (y.mU++y.I.dst.toList) || meets x.mU y.I.dst.toList ||
 meets (x.bc.fz.map (·.1)) (y.ja++y.bc.fz.map (·.1)) || meets x.ja (y.bc.fz.map (·.1))
def S.ks (s:S):Nat⊕Nat->an⊕Option (List aM)
 | .inl t=> .inl (s.E t)
 | .inr r=> .inr (s.aH r)
theorem S.Pk {s bH:S}(h:∀L,s.ks L=bH.ks L):s=bH:=by
 obtain⟨E,aH⟩:=s;obtain⟨lE,gn⟩:=bH;have o:E=lE:=funext fun t=>by have:=h (.inl t);simpa [S.ks] using this
 have J:aH=gn:=funext fun r=>by have:=h (.inr r);simpa [S.ks] using this
 rw[o,J]
def pO:List (Nat×List aM)->Nat->Option (List aM)
 | [],_=>none
 | (r,row)::u,q=>match pO u q with
  | some x=>some x
  | none=>if r=q then some row else none
theorem NK : ∀(u:List (Nat×List aM)) (s:S) (q:Nat),(s.hN u).aH q=match pO u q with|some x=>some x|none=>s.aH q
 | [],s,q=>rfl
 | (r,row)::u,s,q=>by
  show ((s.setRow r row).hN u).aH q=_;rw[NK u (s.setRow r row) q];simp only[pO]
  cases pO u q with
  | some x=>rfl
  | none =>
   simp only[S.setRow];by_cases h:r=q
   ·subst h;simp
   rw[dA (Ne.symm h),dA h]
theorem Ag : ∀(u:List (Nat×List aM)) (q:Nat),pO u q≠none->q∈u.map (·.1)
 | [],q,h=>by simp[pO] at h
 | (r,row)::u,q,h=>by
  simp only[pO] at h
  cases a2:pO u q with
  | some x=>simp[Ag u q (by rw[a2];simp)]
  | none =>
   rw[a2] at h;simp only at h;by_cases e:r=q
   ·simp[e]
   rw[dA e] at h;simp at h
def mK (x:Rec):Nat⊕Nat->Option (an⊕Option (List aM))
 | .inl t=>if x.I.dst=some t then some (.inl x.bc.val) else none
 | .inr r=>(pO x.bc.fz r).map fun row=> .inr (some row)
theorem AV (s:S)(x:Rec)(L:Nat⊕Nat):(s.a1 x.I x.bc).ks L=(mK x L).getD (s.ks L):=by
 cases L with
 | inl t =>
  simp only[S.ks,mK,S.a1]
  cases bz:x.I.dst with
  | none=>simp[S.put,AU]
  | some d =>
   simp only[S.put,dy];by_cases h:t=d
   ·subst h;simp
   rw[dA h,dA (Ne.symm h),AU];rfl
 | inr r =>
  simp only[S.ks,mK,S.a1,S.t8];rw[NK];cases pO x.bc.fz r<;>rfl
def hl:List Rec->(Nat->Bool)->Nat->S->S
 | [],_,_,s=>s
 | x::l,f,n,s=>hl l f (n+1) (if f n then s.a1 x.I x.bc else s)
theorem GI (L:Nat⊕Nat): ∀(l:List Rec) (f jI:Nat->Bool) (n:Nat) (s bH:S),s.ks L=bH.ks L ->
 (∀(i:Nat) x,l[i]? = some x->mK x L≠none->f (n+i)=jI (n+i))->(hl l f n s).ks L=(hl l jI n bH).ks L
 | [],_,_,_,_,_,h,_=>h
 | x::l,f,jI,n,s,bH,h,b0=>by
  simp only[hl];refine GI L l f jI (n+1) _ _ ?_ fun i y aP he=>by have:=b0 (i+1) y (by simpa using aP) he;rw[show n+1+i=n+(i+1) by omega];exact this
  cases he:mK x L with
  | none =>
   have e : ∀(b:Bool) (s:S),(if b then s.a1 x.I x.bc else s).ks L=s.ks L:=by
    intro b s;cases b
    ·rfl
    simp[AV,he]
   rw[e,e,h]
  | some c =>
   have:=b0 0 x rfl (by rw[he];simp);simp only[Nat.add_zero] at this;rw[this];cases jI n
   ·exact h
   simp[AV,he]
theorem Nj (L:Nat⊕Nat): ∀(l:List Rec) (f:Nat->Bool) (n:Nat) (s:S),(∀(i:Nat) x,l[i]? = some x->f (n+i)=true->mK x L=none)->(hl l f n s).ks L=s.ks L
 | [],_,_,_,_=>rfl
 | x::l,f,n,s,h=>by
  simp only[hl];rw[Nj L l f (n+1) _ fun i y aP b0=>h (i+1) y (by simpa using aP) (by rw[show n+(i+1)=n+1+i by omega];exact b0)];cases b0:f n
  ·rfl
  have:=h 0 x rfl (by simpa using b0);simp[AV,this]
theorem Nk (L:Nat⊕Nat): ∀(l:List Rec) (f:Nat->Bool) (n j:Nat) (s:S) (x:Rec) (c:an⊕Option (List aM)),l[j]? = some x->f (n+j)=true->mK x L=some c ->
 (∀(i:Nat) y,l[i]? = some y->j<i->f (n+i)=true->mK y L=none)->(hl l f n s).ks L=c
 | [],_,_,_,_,_,_,h,_,_,_=>by simp at h
 | y::l,f,n,0,s,x,c,h,b0,he,aQ=>by simp at h;subst h;simp only[hl];rw[Nj L l f (n+1) _ fun i z b5 hfz=>aQ (i+1) z (by simpa using b5) (by omega) (by rw[show n+(i+1)=n+1+i by omega];exact hfz)];simp only[Nat.add_zero] at b0;simp[b0,AV,he]
 | y::l,f,n,j+1,s,x,c,h,b0,he,aQ=>by
  simp only[hl]
  exact Nk L l f (n+1) j _ x c (by simpa using h) (by rw[show n+1+j=n+(j+1) by omega];exact b0) he fun i z b5 qP hfz =>
   aQ (i+1) z (by simpa using b5) (by omega) (by rw[show n+(i+1)=n+1+i by omega];exact hfz)
theorem Ah : ∀(l:List Rec) (f jI:Nat->Bool) (n:Nat) (s:S),(∀i,i<l.length->f (n+i)=jI (n+i))->hl l f n s=hl l jI n s
 | [],_,_,_,_,_=>rfl
 | x::l,f,jI,n,s,h=>by simp only[hl];have h0:=h 0 (by simp);simp only[Nat.add_zero] at h0;rw[h0];exact Ah l f jI (n+1) _ fun i ae=>by rw[show n+1+i=n+(i+1) by omega];exact h (i+1) (by simpa using ae)
theorem MU {P:Program}{N:Nat}{ops:Array Oper}: ∀(l:List Oper) (cr:List (eG×Bool)) (s bH:S) (aR:Nat) (ja:List Rec),qz P N ops l cr s aR=some (bH,ja)->s.j8 aR ->
 ja.length=l.length/\bH=hl ja (fun _=>true) 0 s/\ ∀(i:Nat) x,ja[i]? = some x->l[i]? = some x.I/\x.mU=og ops x.I /\
  aR+i∈x.ja/\qF P N ops ((hl (ja.take i) (fun _=>true) 0 s).only x.mU x.ja) (aR+i) x.I x.fp=some x.bc/\(hl (ja.take i) (fun _=>true) 0 s).j8 (aR+i)
 | [],[],s,bH,aR,ja,h,b0=>by simp[qz] at h;obtain⟨rfl,rfl⟩:=h;exact⟨rfl,rfl,fun i x aa=>by simp at aa⟩
 | I::l,fp::cr,s,bH,aR,ja,h,b0=>by
  simp only[qz] at h;split at h;rotate_left
  ·simp at h
  rename_i bc ak;split at h;rotate_left
  ·simp at h
  rename_i s2 Jc J;simp only[dy,dC] at h;obtain⟨rfl,rfl⟩:=h
  have BO : ∀(l:List Rec) (n:Nat) (s:S),hl l (fun _=>true) (n+1) s=hl l (fun _=>true) n s:=by
   intro l
   induction l with
   | nil=>intro n s;rfl
   | cons x l ih=>intro n s;simp only[hl];exact ih (n+1) _
  obtain⟨ao,aB,bT⟩:=MU l cr (s.a1 I bc) s2 (aR+1) Jc J (Dq (GV ak) b0);refine⟨by simp[ao],?_,fun i x aa=> ?_⟩
  ·simp only[hl,if_true];rw[BO];exact aB
  cases i with
  | zero =>
   simp at aa;subst aa;exact⟨rfl,rfl,by simp,ak,b0⟩
  | succ i =>
   simp at aa;obtain⟨f1,f2,f0,f3,f4⟩:=bT i x aa;have e:hl ((⟨I,fp,og ops I,aR::za s I fp.1,bc⟩::Jc).take (i+1)) (fun _=>true) 0 s=hl (Jc.take i) (fun _=>true) 0 (s.a1 I bc):=(by simp only[List.take_succ_cons,hl,if_true];rw[BO]);rw[e,show aR+(i+1)=aR+1+i by omega];exact⟨by simpa using f1,f2,f0,f3,f4⟩
 | [],_::_,_,_,_,_,h,_=>by simp[qz] at h
 | _::_,[],_,_,_,_,h,_=>by simp[qz] at h
inductive qQ (ops:Array Oper):Nat->Nat->Prop
 | one {i j:Nat} {I:Oper} {e:Edge} (ai:ops[j]? = some I) (he:e∈I.after) (aN:Region.binds .any e=true) (h:e.on=i):qQ ops i j
 | step {i j k:Nat} {I:Oper} {e:Edge} (ai:ops[j]? = some I) (he:e∈I.after) (aN:Region.binds .any e=true) (h:e.on=k) (aQ:qQ ops i k):qQ ops i j
def A4:List Oper->List Nat->List Nat
 | [],acc=>acc
 | I::l,acc=>A4 l (acc++[I.after.toList.foldl (fun m e=>if Region.binds .any e then m ||| (1 <<< e.on) ||| (acc.getD e.on 0) else m) 0])
theorem NL {ops:Array Oper}{j:Nat}{I:Oper}(ai:ops[j]? = some I){acc:List Nat}(Qs:∀k i,(acc.getD k 0).testBit i=true->qQ ops i k): ∀(es:List Edge) (m:Nat),(∀e∈es,e∈I.after) ->
 (∀i,m.testBit i=true->qQ ops i j)-> ∀i,(es.foldl (fun m e=>if Region.binds .any e then m ||| (1 <<< e.on) ||| (acc.getD e.on 0) else m) m).testBit i=true->qQ ops i j
 | [],m,_,hm,i,h=>hm i h
 | e::es,m,ho,hm,i,h=>by
  simp only[List.foldl_cons] at h;refine NL ai Qs es _ (fun er lr=>ho er (by simp[lr])) ?_ i h;intro i ae;split at ae
  ·rename_i aN
   rw[Nat.testBit_or,Nat.testBit_or,Bool.or_eq_true,Bool.or_eq_true] at ae;rcases ae with (ae|ae)|ae
   ·exact hm i ae
   ·rw[Nat.testBit_shiftLeft] at ae
    simp only[afd,decide_eq_true_eq] at ae
    have:i-e.on=0:=by
     have:=ae.2;rcases Nat.eq_zero_or_pos (i-e.on) with h0|h0
     ·exact h0
     rw[Nat.testBit_one_eq_true_iff_self_eq_zero] at this;exact this
    exact .one ai (ho e (by simp)) aN (by omega)
   exact .step ai (ho e (by simp)) aN rfl (Qs _ _ ae)
  exact hm i ae
theorem NM {ops:Array Oper}: ∀(l:List Oper) (acc:List Nat),(∀(i:Nat) I,l[i]? = some I->ops[acc.length+i]? = some I)->(∀k i,(acc.getD k 0).testBit i=true->qQ ops i k) ->
 ∀k i,((A4 l acc).getD k 0).testBit i=true->qQ ops i k
 | [],acc,_,h,k,i,aQ=>h k i aQ
 | I::l,acc,aF,h,k,i,aQ=>by
  simp only[A4] at aQ;refine NM l _ (fun i bX du=>by have:=aF (i+1) bX (by simpa using du);simp only[dH,dM,afp];rw[show acc.length+(0+1)+i=acc.length+(i+1) by omega];exact this) ?_ k i aQ;intro k i aQ;rw[afc,List.getElem?_append] at aQ;split at aQ
  ·exact h k i (by rw[afc];exact aQ)
  rename_i dq;by_cases e:k=acc.length
  ·subst e;simp only[Nat.sub_self,List.getElem?_cons_zero,Option.getD_some] at aQ;exact NL (aF 0 I rfl) h _ 0 (fun e he=>by simpa using he) (fun i ae=>by simp at ae) i aQ
  rw[dP (by simp;omega)] at aQ;simp at aQ
def AK (m:Nat)(y:Rec):List Rec->Nat->Bool
 | [],_=>true
 | x::l,i=>(!pZ x y || m.testBit i) && AK m y l (i+1)
def Ek (g7:List Rec):List Rec->List Nat->Nat->Bool
 | [],_,_=>true
 | y::l,fg,j=>AK (fg.headD 0) y (g7.take j) 0 && y.I.after.toList.all (fun e=> !Region.binds .any e || decide (e.on<j)) && Ek g7 l fg.tail (j+1)
theorem Nl {m:Nat}{y:Rec}: ∀(l:List Rec) (n:Nat),AK m y l n=true-> ∀(i:Nat) x,l[i]? = some x->pZ x y=true->m.testBit (n+i)=true
 | [],_,_,i,x,aa,_=>by simp at aa
 | z::l,n,h,i,x,aa,aL=>by
  simp only[AK,afd,Bool.or_eq_true,Bool.not_eq_true'] at h
  cases i with
  | zero =>
   simp at aa;subst aa;rcases h.1 with e|e
   ·rw[e] at aL;simp at aL
   simpa using e
  | succ i =>
   have:=Nl l (n+1) h.2 i x (by simpa using aa) aL;rw[show n+(i+1)=n+1+i by omega];exact this
theorem N8 {g7:List Rec}: ∀(l:List Rec) (fg:List Nat) (j:Nat),Ek g7 l fg j=true-> ∀(i:Nat) y,l[i]? = some y ->
 AK (fg.getD i 0) y (g7.take (j+i)) 0=true/\ ∀e∈y.I.after,Region.binds .any e=true->e.on<j+i
 | [],_,_,_,i,y,aP=>by simp at aP
 | z::l,fg,j,h,i,y,aP=>by
  simp only[Ek,afd] at h
  cases i with
  | zero =>
   simp at aP;subst aP;refine⟨?_,fun e he aN=> ?_⟩
   ·have:fg.getD 0 0=fg.headD 0:=(by cases fg<;>rfl);rw[this];exact h.1.1
   have:=List.all_eq_true.1 h.1.2 e (by simpa using he);simpa [aN] using this
  | succ i =>
   obtain⟨ao,aB⟩:=N8 l fg.tail (j+1) h.2 i y (by simpa using aP);refine⟨?_,fun e he aN=> ?_⟩
   ·have:fg.getD (i+1) 0=fg.tail.getD i 0:=(by cases fg<;>rfl);rw[this,show j+(i+1)=j+1+i by omega];exact ao
   have:=aB e he aN;omega
theorem yd {a b:List Nat}{x:Nat}(bA:x∈a)(aN:x∈b):meets a b=true:=by unfold meets;rw[List.any_eq_true];exact⟨x,bA,by simpa using aN⟩
theorem U0 {x y:Rec}(h:pZ x y=false){L:Nat⊕Nat}(aa:mK x L≠none):mK y L=none:=by
 simp only[pZ,Bool.or_eq_false_iff] at h
 cases L with
 | inl t =>
  simp only[mK] at aa ⊢;by_cases o:x.I.dst=some t
  ·by_cases J:y.I.dst=some t
   ·have:=yd (a:=x.I.dst.toList) (b:=y.mU++y.I.dst.toList) (x:=t) (by simp[o]) (by simp[J]);rw[h.1.1.1] at this;simp at this
   simp[J]
  simp[o] at aa
 | inr r =>
  simp only[mK] at aa ⊢
  cases J:pO y.bc.fz r with
  | none=>rfl
  | some row =>
   have hZ:r∈x.bc.fz.map (·.1):=Ag _ _ (by intro e;simp[e] at aa);have gr:r∈y.bc.fz.map (·.1):=Ag _ _ (by rw[J];simp);have:=yd hZ (b:=y.ja++y.bc.fz.map (·.1)) (by simp only[List.mem_append];exact .inr gr);rw[h.1.2] at this;simp at this
def Rec.Ez (x:Rec):Nat⊕Nat->Prop
 | .inl t=>t∈x.mU
 | .inr r=>r∈x.ja
theorem U1 {x y:Rec}(h:pZ x y=false){L:Nat⊕Nat}(aP:y.Ez L):mK x L=none:=by
 simp only[pZ,Bool.or_eq_false_iff] at h
 cases L with
 | inl t =>
  simp only[mK];by_cases o:x.I.dst=some t
  ·have:=yd (a:=x.I.dst.toList) (b:=y.mU++y.I.dst.toList) (x:=t) (by simp[o]) (by simp only[List.mem_append];exact .inl aP);rw[h.1.1.1] at this;simp at this
  simp[o]
 | inr r =>
  simp only[mK]
  cases J:pO x.bc.fz r with
  | none=>rfl
  | some row =>
   have hZ:r∈x.bc.fz.map (·.1):=Ag _ _ (by rw[J];simp);have:=yd hZ (b:=y.ja++y.bc.fz.map (·.1)) (by simp only[List.mem_append];exact .inl aP);rw[h.1.2] at this;simp at this
theorem U2 {x y:Rec}(h:pZ x y=false){L:Nat⊕Nat}(aa:x.Ez L):mK y L=none:=by
 simp only[pZ,Bool.or_eq_false_iff] at h
 cases L with
 | inl t =>
  simp only[mK];by_cases o:y.I.dst=some t
  ·have:=yd (a:=x.mU) (b:=y.I.dst.toList) (x:=t) aa (by simp[o]);rw[h.1.1.2] at this;simp at this
  simp[o]
 | inr r =>
  simp only[mK]
  cases J:pO y.bc.fz r with
  | none=>rfl
  | some row =>
   have hZ:r∈y.bc.fz.map (·.1):=Ag _ _ (by rw[J];simp);have:=yd (a:=x.ja) aa hZ;rw[h.2] at this;simp at this
theorem Vs {s bH:S}{x:Rec}(h:∀L,x.Ez L->s.ks L=bH.ks L):s.only x.mU x.ja=bH.only x.mU x.ja:=by
 apply S.Pk;intro L
 cases L with
 | inl t =>
  simp only[S.ks,S.only];by_cases ch:t∈x.mU
  ·have:=h (.inl t) ch;simp only[S.ks,Sum.inl.injEq] at this;simp[ch,this]
  simp[ch]
 | inr r =>
  simp only[S.ks,S.only];by_cases aj:r∈x.ja
  ·have:=h (.inr r) aj;simp only[S.ks,Sum.inr.injEq] at this;simp[aj,this]
  simp[aj]
theorem Nm : ∀(l:List Rec) (i n:Nat) (s:S),hl (l.take i) (fun _=>true) n s=hl l (fun k=>decide (k<n+i)) n s
 | [],i,n,s=>by simp[hl]
 | x::l,0,n,s=>by
  simp only[List.take_zero,hl,Nat.add_zero];rw[dA (by simp)];have:=Ah l (fun k=>decide (k<n)) (fun _=>false) (n+1) s (fun i _=>by simp;omega);rw[this]
  have b5 : ∀(l:List Rec) (n:Nat),hl l (fun _=>false) n s=s:=by
   intro l
   induction l with
   | nil=>intro n;rfl
   | cons x l ih=>intro n;simp only[hl,afk,if_false];exact ih _
  rw[b5]
 | x::l,i+1,n,s=>by simp only[List.take_succ_cons,hl,if_true];rw[dw (by simp),Nm l i (n+1)];exact Ah l _ _ (n+1) _ fun j _=>by congr 1;apply propext;omega
def vc (l:List Bool):Nat:=l.countP (fun b=> !b)
section
variable {P:Program} {ops:Array Oper} {Q:Exit->Act->World->Prop} {g:G} {jb:S} {n0:Nat} {g7:List Rec}
theorem Dx {fO:Array Bool}(ev:fO.size=ops.size){i:Nat}:i∈Region.ready .any ops fO↔i<ops.size/\fO.getD i false=false/\ ∀I,ops[i]? = some I-> ∀e∈I.after,Region.binds .any e=true->fO.getD e.on false=true:=by
 unfold Region.ready;rw[List.mem_filter,List.mem_range];constructor
 ·rintro⟨o,J⟩
  simp only[afd,Bool.not_eq_true'] at J;have aF:i<fO.size:=(by omega);refine⟨o,?_,fun I ai e he aN=> ?_⟩
  ·have:=J.1;rw[afe,dS aF] at this ⊢;simpa using this
  have ab:=J.2;rw[ai] at ab;simp only[dQ,Option.getD_some] at ab;rw[Array.all_eq_true_iff_forall_mem] at ab;have:=ab e he;simpa [aN] using this
 rintro⟨o,J,ab⟩;refine⟨o,?_⟩;have aF:i<fO.size:=by omega
 have ai:ops[i]? = some ops[i]:=dS o;simp only[afd,Bool.not_eq_true'];refine⟨?_,?_⟩
 ·rw[afe,dS aF] at J ⊢;simpa using J
 rw[ai];simp only[dQ,Option.getD_some];rw[Array.all_eq_true_iff_forall_mem];intro e he
 cases aN:Region.binds .any e with
 | false=>rfl
 | true=>simp[ab _ ai e he aN]
theorem V1 (hlen:g7.length=ops.size) (Bz : ∀(i:Nat) x,g7[i]? = some x->ops[i]? = some x.I/\x.mU=og ops x.I/\n0+i∈x.ja /\
 qF P g.N ops ((hl (g7.take i) (fun _=>true) 0 jb).only x.mU x.ja) (n0+i) x.I x.fp=some x.bc/\(hl (g7.take i) (fun _=>true) 0 jb).j8 (n0+i))
 (b4 : ∀x∈g7,∀p∈x.bc.eX,p)
 (EA : ∀(i j:Nat) x y,i<j->g7[i]? = some x->g7[j]? = some y->pZ x y=true->qQ ops i j)
 (A3 : ∀(i:Nat) I,ops[i]? = some I-> ∀e∈I.after,Region.binds .any e=true->e.on<i)
 (uG : ∀bG dr bx,cq g (hl g7 (fun _=>true) 0 jb) bG dr bx->Q .normal dr bx) :
 ∀(p1:Nat) (fO:Array Bool) (al:fj) (a:Act) (w:World),fO.size=ops.size->vc fO.toList<=p1 ->
  (∀i j,fO.getD j false=true->qQ ops i j->fO.getD i false=true) ->
  cq g (hl g7 (fun i=>fO.getD i false) 0 jb) al a w->wpAny P .any ops Q p1 fO a w:=by
 have PZ : ∀(fO:Array Bool) (al:fj) (a:Act) (w:World),fO.size=ops.size->Region.ready .any ops fO=[] ->
  cq g (hl g7 (fun i=>fO.getD i false) 0 jb) al a w->Q .normal a w:=by
  intro fO al a w ev aj h
  have nC : ∀i,i<ops.size->fO.getD i false=true:=by
   intro i
   induction i using Nat.strongRecOn with
   | _ i ih =>
    intro ae
    cases aF:fO.getD i false with
    | true=>rfl
    | false =>
     exfalso;have:i∈Region.ready .any ops fO:=(Dx ev).2 ⟨ae,aF,fun I ai e he aN=>by have dq:=A3 i I ai e he aN;exact ih e.on dq (by omega)⟩;rw[aj] at this;simp at this
  have e:=Ah g7 (fun i=>fO.getD i false) (fun _=>true) 0 jb (fun i ae=>by simpa using nC i (by omega));rw[e] at h;exact uG al a w h
 have Ia : ∀(fO:Array Bool) (al:fj) (a:Act) (w:World),fO.size=ops.size->(∀i j,fO.getD j false=true->qQ ops i j->fO.getD i false=true) ->
  cq g (hl g7 (fun i=>fO.getD i false) 0 jb) al a w-> ∀i∈Region.ready .any ops fO,∀K:Act->World->Prop,
  (∀bG dr bx,cq g (hl g7 (fun k=>(fO.setIfInBounds i true).getD k false) 0 jb) bG dr bx->K dr bx)->wpOp P ops Q i K a w:=by
  intro fO al a w ev vE h i ae K gQ;obtain⟨ps,pt,zb⟩:=(Dx ev).1 ae;have wh:g7[i]? = some (g7[i]'(by omega)):=dx _;generalize g7[i]'(by omega)=x at wh;obtain⟨ad,bu,r0,bb,aI⟩:=Bz i x wh
  have Iv : ∀j,qQ ops j i->fO.getD j false=true:=by
   intro j av
   cases av with
   | one ai he aN p6 =>
    rw[ad] at ai;simp at ai;subst ai;rw[<- p6];exact zb _ ad _ he aN
   | step ai he aN p6 aQ =>
    rw[ad] at ai;simp at ai;subst ai;have:=zb _ ad _ he aN;rw[p6] at this;exact vE _ _ this aQ
  have dq : ∀j y,g7[j]? = some y->j<i->fO.getD j false=false->pZ y x=false:=by
   intro j y aP qP b0
   cases aL:pZ y x with
   | false=>rfl
   | true=>have:=Iv j (EA j i y x qP aP wh aL);rw[b0] at this;simp at this
  have ER : ∀j y,g7[j]? = some y->i<j->fO.getD j false=true->pZ x y=false:=by
   intro j y aP p9 b0
   cases aL:pZ x y with
   | false=>rfl
   | true=>have:=vE i j b0 (EA i j x y p9 wh aP aL);rw[pt] at this;simp at this
  have Qt : ∀L,x.Ez L->(hl (g7.take i) (fun _=>true) 0 jb).ks L=(hl g7 (fun i=>fO.getD i false) 0 jb).ks L:=by
   intro L q2;rw[Nm];refine GI L g7 _ _ 0 jb jb rfl fun j y aP he=> ?_;simp only[dF];rcases Nat.lt_trichotomy j i with qP|qP|qP
   ·cases b0:fO.getD j false with
    | true=>simpa using qP
    | false=>exact absurd (U1 (dq j y aP qP b0) q2) he
   ·subst qP;simpa using pt.symm
   cases b0:fO.getD j false with
   | false=>simp;omega
   | true=>exact absurd (U2 (ER j y aP qP b0) q2) he
  have ak:qF P g.N ops (hl g7 (fun i=>fO.getD i false) 0 jb) (n0+i) x.I x.fp=some x.bc:=(by rw[Vs Qt,bu] at bb;exact GV bb);have ey:(hl g7 (fun i=>fO.getD i false) 0 jb).aH (n0+i)=none:=(by have ao:=Qt (.inr (n0+i)) r0;simp only[S.ks,Sum.inr.injEq] at ao;rw[<- ao];exact aI _ (dE _));refine MS h ey ad ak (b4 x (dG wh)) fun bG dr bx cf=>gQ bG dr bx ?_
  have BA : ∀k,(fO.setIfInBounds i true).getD k false=if k=i then true else fO.getD k false:=by
   intro k;simp only[afe,Array.getElem?_setIfInBounds];by_cases e:i=k
   ·subst e;simp[ev,ps]
   rw[dA e,dA (Ne.symm e)]
  have vX:(hl g7 (fun i=>fO.getD i false) 0 jb).a1 x.I x.bc=hl g7 (fun k=>(fO.setIfInBounds i true).getD k false) 0 jb:=by
   apply S.Pk;intro L;rw[AV]
   cases he:mK x L with
   | none =>
    refine GI L g7 _ _ 0 jb jb rfl fun j y aP BQ=> ?_;simp only[dF,BA];by_cases e:j=i
    ·subst e;rw[wh] at aP;simp at aP;subst aP;exact absurd he BQ
    rw[dA e]
   | some c =>
    symm
    refine Nk L g7 _ 0 i jb x c wh (by simp[BA]) he fun j y aP p9 b0=> ?_;simp only[dF,BA] at b0;rw[dA (by omega)] at b0;exact U0 (ER j y aP p9 b0) (by rw[he];simp)
  rw[vX] at cf;exact cf
 intro p1
 induction p1 with
 | zero =>
  intro fO al a w ev Bs vE h
  have aj:Region.ready .any ops fO=[]:=by
   cases aj:Region.ready .any ops fO with
   | nil=>rfl
   | cons i l =>
    exfalso;have ae:i∈Region.ready .any ops fO:=(by rw[aj];simp);obtain⟨o,J,-⟩:=(Dx ev).1 ae;have h0:vc fO.toList=0:=(by omega);unfold vc at h0;rw[List.countP_eq_zero] at h0;have vY:i<fO.size:=(by omega);have:=h0 (fO[i]) (by simp);rw[afe,dS vY] at J;simp at J this;rw[J] at this;simp at this
  exact⟨aj,PZ fO al a w ev aj h⟩
 | succ p1 ih =>
  intro fO al a w ev Bs vE h;refine⟨fun aj=>PZ fO al a w ev aj h,fun i ae=> ?_⟩;refine Ia fO al a w ev vE h i ae _ fun bG dr bx cf=> ?_;obtain⟨o,J,ab⟩:=(Dx ev).1 ae;have vY:i<fO.size:=by omega
  have BA : ∀k,(fO.setIfInBounds i true).getD k false=if k=i then true else fO.getD k false:=by
   intro k;simp only[afe,Array.getElem?_setIfInBounds];by_cases e:i=k
   ·subst e;simp[vY]
   rw[dA e,dA (Ne.symm e)]
  refine ih _ bG dr bx (by simpa using ev) ?_ ?_ cf
  ·have b0:fO[i]=false:=by
    rw[afe,dS vY] at J;simpa using J
   have aL:vc (fO.setIfInBounds i true).toList+1<=vc fO.toList:=by
    unfold vc;rw[Array.toList_setIfInBounds]
    have key : ∀(l:List Bool) (i:Nat),l[i]? = some false->(l.set i true).countP (fun b=> !b)+1=l.countP (fun b=> !b):=by
     intro l
     induction l with
     | nil=>intro i ae;simp at ae
     | cons b l ih =>
      intro i ae
      cases i with
      | zero=>simp at ae;subst ae;simp
      | succ i =>
       simp at ae;simp only[List.set_cons_succ,List.countP_cons];have:=ih i ae;omega
    rw[key fO.toList i (by rw[Array.getElem?_toList,dS vY,b0])];exact dE _
   omega
  intro k j av BX;rw[BA] at av ⊢;by_cases e:k=i
  ·rw[dw e]
  rw[dA e];by_cases aB:j=i
  ·subst aB
   cases BX with
   | one ai he aN p6=>rw[<- p6];exact ab _ ai _ he aN
   | step ai he aN p6 aQ =>
    have:=ab _ ai _ he aN;rw[p6] at this;exact vE _ _ this aQ
  rw[dA aB] at av;exact vE k j av BX
end
def Aw (P:Program)(N:Nat)(ops:Array Oper)(draw:Bool)(cr:List (eG×Bool))(s:S)(aR:Nat):Option (S×List Prop) :=
 if draw then
  match qz P N ops ops.toList cr s aR with
  | some (bH,g7)=>if Ek g7 g7 (A4 ops.toList []) 0 then some (bH,g7.flatMap (·.bc.eX)) else none
  | none=>none
 else qy P N ops ops.toList cr s aR
theorem T0 {P:Program}(p2:P.follows .mixedOrders=true){g:G}{ops:Array Oper}{draw:Bool}{cr:List (eG×Bool)}{s bH:S}{aR:Nat}{af:List Prop}
 (h:Aw P g.N ops draw cr s aR=some (bH,af)) (a5 : ∀p∈af,p) (b0:s.j8 aR) {al:fj} {a:Act} {w:World} (aj:cq g s al a w) (id:Nat) {Q:Exit->Act->World->Prop}
 (uG : ∀bG dr bx,cq g bH bG dr bx->Q .normal dr bx):(Code.region id ops draw).wp P Q a w:=by
 unfold Aw at h
 cases draw with
 | false =>
  simp only[afk,if_false] at h;refine wp_region ?_;have:=MG (Q:=Q) (i:=0) ops.toList cr s bH aR af (fun j I ai=>by simpa using ai) h a5 b0 uG al a w aj;have e:(List.range ops.toList.length).map (0 + ·)=List.range ops.size:=(by simp);rw[e] at this;exact this
 | true =>
  simp only[if_true] at h;split at h;rotate_left
  ·simp at h
  rename_i s2 g7 Bz;split at h;rotate_left
  ·simp at h
  rename_i EA;simp only[dy,dC] at h;obtain⟨rfl,rfl⟩:=h;obtain⟨ao,aB,bT⟩:=MU ops.toList cr s s2 aR g7 Bz b0;have Iv:=NM (ops:=ops) ops.toList [] (fun i I ai=>by simpa using ai) (fun k i aQ=>by simp at aQ);have mE:=N8 g7 (A4 ops.toList []) 0 EA;refine wp_region_any p2 ?_
  refine V1 (jb:=s) (n0:=aR) (g7:=g7) (by simpa using ao) (fun i x aa=>by
   obtain⟨f1,f2,f0,f3,f4⟩:=bT i x aa;exact⟨by simpa using f1,f2,f0,f3,f4⟩) (fun x aa p ah=>a5 p (by rw[List.mem_flatMap];exact⟨x,aa,ah⟩)) (fun i j x y p9 aa aP aL=> ?_) (fun i I ai e he aN=> ?_) (fun bG dr bx cf=>uG bG dr bx (by rw[aB];exact cf))
   ops.size _ al a _ (by simp) ?_ ?_ ?_
  ·obtain⟨f1,-⟩:=mE j y aP;have dl:(g7.take (0+j))[i]? = some x:=(by rw[dR,dw (by omega)];exact aa);have:=Nl _ 0 f1 i x dl aL;rw[dF] at this;exact Iv j i this
  ·have ae:i<g7.length:=by
    rw[ao];have:=(afj.1 ai).1;simpa using this
   have aa:=dx ae;obtain⟨f1,-⟩:=bT i _ aa;have y7:ops[i]? = some (g7[i]).I:=(by simpa using f1);rw[ai] at y7;simp at y7;obtain⟨-,f2⟩:=mE i _ aa;have:=f2 e (by rw[<- y7];exact he) aN;omega
  ·unfold vc;have:(Array.replicate ops.size false).toList=List.replicate ops.size false:=(by simp);rw[this,List.countP_replicate];simp
  ·intro i j av;simp[afe,Array.getElem?_replicate] at av;split at av<;>simp at av
  have e:hl g7 (fun i=>(Array.replicate ops.size false).getD i false) 0 s=s:=by
   rw[Ah g7 _ (fun _=>false) 0 s (fun i _=>by simp[afe,Array.getElem?_replicate];split<;>simp)]
   have b5 : ∀(l:List Rec) (n:Nat),hl l (fun _=>false) n s=s:=by
    intro l
    induction l with
    | nil=>intro n;rfl
    | cons x l ih=>intro n;simp only[hl,afk,if_false];exact ih _
   exact b5 _ _
  rw[e];exact aj.drew
def zc:List (Nat×an)->Nat->an
 | [],_=> .dead
 | (u,v)::l,t=>if t=u then v else zc l t
def eD (env:List (Nat×an))(rows:List (List aM)):S:={E:=zc env,aH:=fun r=>rows[r]?}
theorem vj (env:List (Nat×an))(rows:List (List aM)):(eD env rows).j8 rows.length:=by intro r aj;simp[eD,aj]
def yq (row:List aM):Prop:= ∀I∈row,ht I.es
def mL (l:List Nat):gC:=fun j i=>match l[j]? with
 | some r=>some (r,i)
 | none=>none
def zd (aO:gC)(x cA:an):Prop :=
 (cA=x/\x.il=true)\/(∃r k bw len j i,x = .bK r k bw len/\aO j i=some (r,k)/\cA = .bK j i bw len)\/cA = .dead \/
   ∃r c sz h j dW,x = .iA r c sz h/\(∀k,aO j (k+dW)=some (r,k+c))/\cA = .iA j dW sz h
def so (aO:gC)(row dU:List aM):Prop :=
 dU.length=row.length/\ ∀(k:Nat) I bX,row[k]? = some I->dU[k]? = some bX->bX.sz=I.sz/\bX.cg=I.cg/\bX.es.length=I.es.length/\(∀e∈bX.es,e.length=I.sz) /\
  ∀(j:Nat) x cA,I.es.flatten[j]? = some x->bX.es.flatten[j]? = some cA->zd aO x cA
def qG (aH:Nat->Option (List aM))(b7:Nat->Option Nat)(aO:gC)(bI:fZ->Bool):h6->List aM->Option (List aM×List Prop)
 | .pure,row=>some (row,[yq row])
 | .dp dU,row=>some (dU,[row=dU,yq dU])
 | .b9 dU,row=>some (dU,[dU=row.map (jD b7)])
 | .rx dU,row=>some (dU,[so aO row dU])
 | .drop,row=>some (row.map rl,[])
 | .box l,[I]=>match I.es with
  | [c]=>match k7 (k6 aH b7 aO bI) l c with
   | some (dW,af)=>some ([{I with es:=[dW]}],af)
   | none=>none
  | _=>none
 | _,_=>none
def s8 (aH:Nat->Option (List aM))(b7:Nat->Option Nat)(aO:gC):List Nat->List h6->Option (List (List aM)×List Prop)
 | [],[]=>some ([],[])
 | r::l,c::cn=>match aH r with
  | some row=>match qG aH b7 aO lR c row,s8 aH b7 aO l cn with
   | some (dU,bS),some (T,aY)=>some (dU::T,bS++aY)
   | _,_=>none
  | none=>none
 | _,_=>none
def A5 (aH:Nat->Option (List aM))(b7:Nat->Option Nat)(aO:gC)(E:Nat->an):List (Nat×kE)->Option (List (Nat×an)×List Prop)
 | []=>some ([],[])
 | (t,c)::l=>match nv aH b7 aO lR c (E t),A5 aH b7 aO E l with
  | some (v,bS),some (env,aY)=>some ((t,v)::env,bS++aY)
  | _,_=>none
def A6 (aO:List Nat)(m:Nat):Bool:=(List.range m).all fun j=>aO[j]? == some j
def El (m:Nat)(s:S)(aO:List Nat)(cn:List h6)(nS:List (Nat×kE)):Option (S×Nat×List Prop) :=
 if decide aO.Nodup && A6 aO m then
  match s8 s.aH (dj aO) (mL aO) aO cn,A5 s.aH (dj aO) (mL aO) s.E nS with
  | some (T,bS),some (env,aY)=>some (eD env T,T.length,bS++aY)
  | _,_=>none
 else none
section
variable {P:Program} {g:G} {s:S} {al:fj} {a:Act} {w:World}
theorem Hh (dg:h3 g s al w){aO:gC}{b7:Nat->Option Nat}{bI:fZ->Bool}(H:mq s aO b7 bI){c:h6}{r:Nat}{jK:Nat->Nat}{row dU:List aM}{af:List Prop}(cV:∀k I,cX (some row) k=some I->s.af r (jK k)=some I)
 (h:qG s.aH b7 aO bI c row=some (dU,af)) (a5 : ∀p∈af,p) :
 dU.length=row.length/\ ∀(k:Nat) bX,cX (some dU) k=some bX-> ∃I,cX (some row) k=some I/\oe s aO bI ly I bX:=by
 have hlen : ∀k I,cX (some row) k=some I-> ∀e∈I.es,e.length=I.sz:=by
  intro k I ai;have du:s.af r (jK k)=some I:=cV k I ai;have fv:=dg.obj r (jK k) I du
  cases ah:al r (jK k) with
  | none=>rw[ah] at fv;simp only[iJ] at fv;rw[fv];simp
  | some q=>rw[ah] at fv;obtain⟨_,_,_,_,e,_⟩:=fv;exact e
 have s4:yq row-> ∀(k:Nat) bX,cX (some row) k=some bX-> ∃I,cX (some row) k=some I/\oe s aO bI ly I bX:=by
  intro ah
  have qI : ∀k I,cX (some row) k=some I->I∈row:=by
   intro k I ai;unfold cX at ai;simp only at ai;split at ai
   ·rename_i bX du
    split at ai
    ·simp at ai
    simp at ai;subst ai;exact dG du
   simp at ai
  refine fun k I ai=>⟨I,ai,rfl,.inl rfl,rfl,hlen k I ai,fun j x cA aa dl=> ?_⟩;rw[aa] at dl;simp at dl;subst dl;obtain⟨e,he,qN⟩:=sH aa;exact .pure (ah I (qI k I ai) e he x qN) trivial
 cases c with
 | pure =>
  simp only[qG,dy,dC] at h;obtain⟨rfl,rfl⟩:=h;exact⟨rfl,s4 (a5 _ (by simp))⟩
 | dp a9 =>
  simp only[qG,dy,dC] at h;obtain⟨rfl,rfl⟩:=h;have e:row=a9:=a5 _ (by simp);subst e;exact⟨rfl,s4 (a5 _ (by simp))⟩
 | b9 a9 =>
  simp only[qG,dy,dC] at h;obtain⟨rfl,rfl⟩:=h;have e:a9=row.map (jD b7):=a5 _ (by simp);subst e;exact⟨by simp,PX dg H cV (fun _ _ _ _ _ _ _=>trivial)⟩
 | rx a9 =>
  simp only[qG,dy,dC] at h;obtain⟨rfl,rfl⟩:=h;obtain⟨o,J⟩:so aO row a9:=a5 _ (by simp);refine⟨o,fun k bX du=> ?_⟩;rw[jX] at du
  cases mH:a9[k]? with
  | none=>rw[mH] at du;simp at du
  | some jS =>
   rw[mH,dB] at du;split at du
   ·simp at du
   rename_i dt;simp only[dy] at du;subst du;have dq:k<row.length:=(by have:=fN mH;omega);have aQ:=dx dq;obtain⟨aT,bf,cb,cL,eT⟩:=J k _ _ aQ mH;have ai:cX (some row) k=some row[k]:=(by rw[jX,aQ,dB,dA (by rw[<- bf];exact dt)]);refine⟨_,ai,aT,.inl bf,cb,cL,fun j x cA aa dl=> ?_⟩;have fv:=dg.obj r (jK k) _ (cV k _ ai)
   cases ah:al r (jK k) with
   | none=>rw[ah] at fv;simp only[iJ] at fv;rw[fv] at aa;simp at aa
   | some tF =>
    obtain⟨b,m⟩:=tF;rw[ah] at fv;obtain⟨c,ef,f1,f2,f3,f4⟩:=fv;obtain⟨u,jw,mo,gP⟩:=f4 j x aa;rcases eT j x cA aa dl with ⟨rfl,aV⟩|⟨bu,h1,bw,len,Fm,nk,rfl,hm,rfl⟩|rfl|⟨bu,cF,QQ,J,Fm,l4,rfl,hm,rfl⟩
    ·exact .pure (gP.yI aV) trivial
    ·exact .bK bw len hm (by cases gP<;>assumption)
    ·exact .dead _
    exact .iA J hm
 | drop =>
  simp only[qG,dy,dC] at h;obtain⟨rfl,rfl⟩:=h;refine⟨by simp,fun k I ai=> ?_⟩;rw[jX,dJ] at ai;cases aQ:row[k]? <;> simp[aQ,rl] at ai
 | box l =>
  match row,h with
  | [I],h =>
   simp only[qG] at h;split at h;rotate_left
   ·simp at h
   rename_i c ho;split at h;rotate_left
   ·simp at h
   rename_i dW nc aL;simp only[dy,dC] at h;obtain⟨rfl,rfl⟩:=h;refine⟨rfl,fun k p ah=> ?_⟩;rw[lM] at ah;split at ah;rotate_left
   ·simp at ah
   rename_i tl;obtain⟨rfl,mJ⟩:=tl;simp only[dy] at ah;subst ah;have h0:cX (some [I]) 0=some I:=(by rw[lM];simpa using mJ);refine⟨I,h0,?_⟩;have du:s.af r (jK 0)=some I:=cV 0 I h0;have fv:=dg.obj r (jK 0) I du
   cases jZ:al r (jK 0) with
   | none=>rw[jZ] at fv;simp only[iJ] at fv;rw[ho] at fv;simp at fv
   | some q =>
    obtain⟨b,m⟩:=q;rw[jZ] at fv;obtain⟨b6,ef,g1,g2,g3,g4⟩:=fv;have Iu:c.length=I.sz:=g3 c (by rw[ho];simp);have jg:I.es.flatten=c:=(by rw[ho];simp);obtain⟨ao,aB⟩:=Av (vs:=(List.range c.length).map fun j=>(b6[j]?).getD undef) dg H (us _) aL a5 (fun _ _=>trivial) (by simp) (by intro j y u aP hu;have av:=fN aP;rw[dJ,List.getElem?_range av] at hu;simp only[dQ,dy] at hu;obtain⟨kH,jw,-,gP⟩:=g4 j y (by rw[jg];exact aP);rw[jw] at hu;simp at hu;subst hu;exact gP);refine⟨rfl,.inl rfl,by simp[ho],by simp;omega,fun j x cA aa dl=> ?_⟩;rw[jg] at aa;simp only[afb,List.flatten_nil,List.append_nil] at dl;exact aB j x cA aa dl
  | [],h=>simp[qG] at h
  | _::_::_,h=>simp[qG] at h
theorem Hi (dg:h3 g s al w){aO:gC}{b7:Nat->Option Nat}(H:mq s aO b7 lR): ∀(l:List Nat) (cn:List h6) (T:List (List aM)) (af:List Prop),
 s8 s.aH b7 aO l cn=some (T,af)->(∀p∈af,p)->T.length=l.length/\ ∀(j:Nat) dU r,T[j]? = some dU->l[j]? = some r-> ∃row,s.aH r=some row/\dU.length=row.length /\
  ∀(k:Nat) bX,cX (some dU) k=some bX-> ∃I,cX (some row) k=some I/\oe s aO lR ly I bX
 | [],[],T,af,h,_=>by simp[s8] at h;obtain⟨rfl,rfl⟩:=h;exact⟨rfl,fun j dU r av=>by simp at av⟩
 | r::l,c::cn,T,af,h,a5=>by
  simp only[s8] at h;split at h
  ·rename_i row cV
   split at h
   ·rename_i aq bS mT aY o J
    simp only[dy,dC] at h;obtain⟨rfl,rfl⟩:=h;obtain⟨ao,aB⟩:=Hi dg H l cn mT aY J (fun p ah=>a5 p (by simp[ah]));have f2:=Hh (jK:=id) dg H (fun k I ai=>by unfold S.af;rw[cV];exact ai) o (fun p ah=>a5 p (by simp[ah]));refine⟨by simp[ao],fun j dU q av a2=> ?_⟩
    cases j with
    | zero=>simp at av a2;subst av;subst a2;exact⟨row,cV,f2.1,f2.2⟩
    | succ j=>simp at av a2;exact aB j dU q av a2
   simp at h
  simp at h
 | [],_::_,_,_,h,_=>by simp[s8] at h
 | _::_,[],_,_,h,_=>by simp[s8] at h
theorem N9 (h:cq g s al a w){aO:gC}{b7:Nat->Option Nat}(H:mq s aO b7 lR): ∀(l:List (Nat×kE)) (env:List (Nat×an)) (af:List Prop),
 A5 s.aH b7 aO s.E l=some (env,af)->(∀p∈af,p)-> ∀t,hD s aO lR ly (s.E t) (zc env t)
 | [],env,af,aj,_=>by simp[A5] at aj;obtain⟨rfl,rfl⟩:=aj;intro t;exact .dead _
 | (u,c)::l,env,af,aj,a5=>by
  simp only[A5] at aj;split at aj
  ·rename_i v bS Iw aY o J
   simp only[dy,dC] at aj;obtain⟨rfl,rfl⟩:=aj;have ih:=N9 h H l Iw aY J (fun p ah=>a5 p (by simp[ah]));intro t;unfold zc;split
   ·rename_i e;subst e;exact Az h.toh3 H (us _) o (fun p ah=>a5 p (by simp[ah])) trivial (h.env t)
   exact ih t
  simp at aj
theorem vn {l:List Nat}{j i r k:Nat}:mL l j i=some (r,k)↔l[j]? = some r/\i=k:=by unfold mL;cases l[j]? <;> simp
theorem Em {aO:List Nat}(aV:aO.Nodup):mq s (mL aO) (dj aO) lR :=
 ⟨fun _ _ h _=>vn.2 ⟨Nb h,rfl⟩,fun _ aj _ _ _ _ _ _ hm=>by rw[Nc aV (vn.1 hm).1] at aj;simp at aj⟩
theorem Pl {aO:List Nat} (hnd:aO.Nodup) {T:List (List aM)} (ao:T.length=aO.length) (aB : ∀(j:Nat) dU r,T[j]? = some dU->aO[j]? = some r-> ∃row,s.aH r=some row/\dU.length=row.length /\
 ∀(k:Nat) bX,cX (some dU) k=some bX-> ∃I,cX (some row) k=some I/\oe s (mL aO) lR ly I bX):p8 s (mL aO) lR ly (fun j=>T[j]?):=by
 refine⟨?_,?_,?_⟩
 ·intro j i hP eM p e er;obtain⟨r,k⟩:=p;obtain⟨iG,rfl⟩:=vn.1 e;obtain⟨jl,rfl⟩:=vn.1 er;exact⟨(List.getElem?_inj (fN iG) hnd).1 (iG.trans jl.symm),rfl⟩
 ·intro j i bX du
  have du:cX (T[j]?) i=some bX:=du
  cases av:T[j]? with
  | none=>rw[av] at du;simp[cX] at du
  | some dU =>
   rw[av] at du;have dq:j<aO.length:=(by have:=fN av;omega);have a2:=dx dq;obtain⟨row,f1,-,f2⟩:=aB j dU _ av a2;obtain⟨I,g1,g2⟩:=f2 i bX du;exact⟨_,i,I,vn.2 ⟨a2,rfl⟩,by unfold S.af;rw[f1];exact g1,g2⟩
 intro j i r k e hu;obtain⟨iG,rfl⟩:=vn.1 e;have dq:j<T.length:=by have:=fN iG;omega
 obtain⟨row,f1,f2,-⟩:=aB j _ r (dx dq) iG;show i<((T[j]?).getD []).length;rw[dx dq];show i<T[j].length;rw[f2];simpa [S.aW,f1] using hu
theorem Oa {aO:List Nat}{g:G}(dg:h3 g s al w)(rC:A6 aO g.m=true): ∀j k,g.oU j k->mL aO j k=some (j,k):=by intro j k av;unfold A6 at rC;have:=List.all_eq_true.1 rC j (List.mem_range.2 (dg.low j k av));exact vn.2 ⟨by simpa using this,rfl⟩
theorem WR (h:cq g s al a w){aO:List Nat}{cn:List h6}{nS:List (Nat×kE)}{bH:S}{n:Nat}{af:List Prop}(aj:El g.m s aO cn nS=some (bH,n,af))(a5:∀p∈af,p):
 bH.j8 n/\cq g bH (jk al (mL aO)) a w:=by
 unfold El at aj;split at aj
 ·rename_i aL
  simp only[afd,decide_eq_true_eq] at aL;obtain⟨hnd,rC⟩:=aL;split at aj
  ·rename_i T bS env aY o J;simp only[dy,dC] at aj;obtain⟨rfl,rfl,rfl⟩:=aj;refine⟨vj _ _,?_⟩;obtain⟨ao,aB⟩:=Hi h.toh3 (Em hnd) aO cn T bS o (fun p ah=>a5 p (by simp[ah]));refine h.OL (aO:=mL aO) (q:=ly) (Pl hnd ao aB) (N9 h (Em hnd) nS env aY J (fun p ah=>a5 p (by simp[ah]))) (Oa h.toh3 rC)
  simp at aj
 simp at aj
def iE (l:List lW):gC:=fun j i=>match l[j]? with
 | some eU=>if i<eU.bz.length then eU.bz[i]? else (match eU.ke with
  | some (r,n)=>some (r,i-eU.bz.length+n)
  | none=>none)
 | none=>none
def uj (n:Nat):List lW->Nat->Option Nat
 | [],_=>none
 | eU::l,r=>if eU={bz:=[],ke:=some (r,0)} then some n else uj (n+1) l r
def ua (r k:Nat)(eU:lW):Bool:=eU.bz.contains (r,k) || (match eU.ke with|some (q,n)=>q == r && decide (n<=k)|none=>false)
def HN (eU:lW):Bool:=decide eU.bz.Nodup && eU.bz.all fun p=>match eU.ke with|some (q,n)=> !(q == p.1 && decide (n<=p.2))|none=>true
def DM (a b:lW):Bool:=(a.bz.all fun p=> !ua p.1 p.2 b) && (b.bz.all fun p=> !ua p.1 p.2 a) && (match a.ke,b.ke with|some (q,_),some (hC,_)=> !(q == hC)|_,_=>true)
def AW:List lW->Bool
 | []=>true
 | a::l=>HN a && l.all (DM a) && AW l
def Pm (l:List lW)(m:Nat):Bool:=(List.range m).all fun j=>l[j]? == some {bz:=[],ke:=some (j,0)}
def vF (aH:Nat->Option (List aM))(b7:Nat->Option Nat)(aO:gC):List (Nat×Nat)->List h6->Option (List aM×List Prop)
 | [],[]=>some ([],[])
 | (r,k)::l,c::cn=>match cX (aH r) k with
  | some I=>match qG aH b7 aO kj c [I],vF aH b7 aO l cn with
   | some ([bX],bS),some (T,aY)=>some (bX::T,bS++aY)
   | _,_=>none
  | none=>none
 | _,_=>none
def yK (aH:Nat->Option (List aM))(b7:Nat->Option Nat)(aO:gC):Option (Nat×Nat)->Option h6->Option (List aM×List Prop)
 | none,none=>some ([],[])
 | some (r,n),some c=>match aH r with
  | some row=>qG aH b7 aO kj c (row.drop n)
  | none=>none
 | _,_=>none
def vG (aH:Nat->Option (List aM))(b7:Nat->Option Nat)(aO:gC):List lW->List (List h6×Option h6)->Option (List (List aM)×List Prop)
 | [],[]=>some ([],[])
 | eU::l,(J8,RL)::cn=>match vF aH b7 aO eU.bz J8,yK aH b7 aO eU.ke RL,vG aH b7 aO l cn with
  | some (a,bS),some (b,aY),some (T,gm)=>some ((a++b)::T,bS++aY++gm)
  | _,_,_=>none
 | _,_=>none
def AX (aH:Nat->Option (List aM))(b7:Nat->Option Nat)(aO:gC)(E:Nat->an):List (Nat×kE)->Option (List (Nat×an)×List Prop)
 | []=>some ([],[])
 | (t,c)::l=>match nv aH b7 aO kj c (E t),AX aH b7 aO E l with
  | some (v,bS),some (env,aY)=>some ((t,v)::env,bS++aY)
  | _,_=>none
def Ea (m:Nat)(s:S)(l:List lW)(cn:List (List h6×Option h6))(nS:List (Nat×kE)):Option (S×Nat×List Prop) :=
 if AW l && Pm l m then
  match vG s.aH (uj 0 l) (iE l) l cn,AX s.aH (uj 0 l) (iE l) s.E nS with
  | some (T,bS),some (env,aY)=>some (eD env T,T.length,bS++aY)
  | _,_=>none
 else none
theorem HO {l:List lW}{j i r k:Nat}(h:iE l j i=some (r,k)): ∃eU,l[j]? = some eU/\ua r k eU=true/\(if i<eU.bz.length then eU.bz[i]? = some (r,k) else ∃n,eU.ke=some (r,n)/\k=i-eU.bz.length+n):=by
 unfold iE at h
 cases av:l[j]? with
 | none=>rw[av] at h;simp at h
 | some eU =>
  rw[av] at h;simp only at h;refine⟨eU,rfl,?_⟩;split at h
  ·rename_i dq;rw[dw dq];exact⟨by unfold ua;simp[dG h],h⟩
  rename_i dq;rw[dA dq];split at h
  ·rename_i ep n ch;simp only[dy,dC] at h;obtain⟨rfl,rfl⟩:=h;exact⟨by unfold ua;simp[ch],n,ch,rfl⟩
  simp at h
theorem NN : ∀ {l:List lW},AW l=true->(∀(j:Nat) a,l[j]? = some a->HN a=true)/\ ∀(i j:Nat) a b,i<j->l[i]? = some a->l[j]? = some b->DM a b=true
 | [],_=>⟨fun j a h=>by simp at h,fun i j a b _ h=>by simp at h⟩
 | c::l,h=>by
  simp only[AW,afd] at h;obtain⟨⟨o,J⟩,ab⟩:=h;obtain⟨ao,aB⟩:=NN ab;refine⟨fun j a av=> ?_,fun i j a b p9 bA aN=> ?_⟩
  ·cases j with
   | zero=>simp at av;subst av;exact o
   | succ j=>exact ao j a (by simpa using av)
  cases j with
  | zero=>omega
  | succ j =>
   simp at aN
   cases i with
   | zero=>simp at bA;subst bA;exact List.all_eq_true.1 J b (dG aN)
   | succ i=>exact aB i j a b (by omega) (by simpa using bA) aN
theorem MV {a b:lW}{r k:Nat}(h:DM a b=true)(bA:ua r k a=true)(aN:ua r k b=true):False:=by
 simp only[DM,afd,List.all_eq_true] at h;obtain⟨⟨o,J⟩,ab⟩:=h;have aaZ:=bA;have ob:=aN;simp only[ua,Bool.or_eq_true,List.contains_iff_mem] at bA aN;rcases bA with bA|bA
 ·have:=o _ bA;simp[ob] at this
 rcases aN with aN|aN
 ·have:=J _ aN;simp[aaZ] at this
 cases ao:a.ke with
 | none=>rw[ao] at bA;simp at bA
 | some p =>
  obtain⟨q,n⟩:=p
  cases aB:b.ke with
  | none=>rw[aB] at aN;simp at aN
  | some jS =>
   obtain⟨hC,mR⟩:=jS;rw[ao] at bA;rw[aB] at aN;rw[ao,aB] at ab;simp at bA aN ab;exact ab (bA.1.trans aN.1.symm)
theorem XL {l:List lW}(aF:AW l=true): ∀j i hP eM p,iE l j i=some p->iE l hP eM=some p->j=hP/\i=eM:=by
 intro j i hP eM p h cf;obtain⟨r,k⟩:=p;obtain⟨eU,iG,jl,bq⟩:=HO h;obtain⟨ES,gH,h8,kU⟩:=HO cf;obtain⟨ao,aB⟩:=NN aF
 have av:j=hP:=by
  rcases Nat.lt_trichotomy j hP with e|e|e
  ·exact(MV (aB j hP eU ES e iG gH) jl h8).elim
  ·exact e
  exact(MV (aB hP j ES eU e gH iG) h8 jl).elim
 subst av;rw[iG] at gH;simp at gH;subst gH;refine⟨rfl,?_⟩;have o:=ao j eU iG;simp only[HN,afd,decide_eq_true_eq,List.all_eq_true] at o;obtain⟨hj,jx⟩:=o;split at bq<;>split at kU
 ·exact(List.getElem?_inj (by assumption) hj).1 (bq.trans kU.symm)
 ·obtain⟨n,t1,t2⟩:=kU;have:=jx _ (dG bq);rw[t1] at this;simp at this;omega
 ·obtain⟨n,t1,t2⟩:=bq;have:=jx _ (dG kU);rw[t1] at this;simp at this;omega
 obtain⟨n,t1,t2⟩:=bq;obtain⟨mR,QW,aef⟩:=kU;rw[t1] at QW;simp at QW;omega
theorem NO : ∀ {l:List lW} {n r j:Nat},uj n l r=some j->n<=j/\l[j-n]? = some {bz:=[],ke:=some (r,0)}
 | [],_,_,_,h=>by simp[uj] at h
 | eU::l,n,r,j,h=>by
  simp only[uj] at h;split at h
  ·rename_i e;simp at h;subst h;exact⟨dE _,by simp[e]⟩
  obtain⟨o,J⟩:=NO h;exact⟨by omega,by rw[show j-n=(j-(n+1))+1 by omega,List.getElem?_cons_succ];exact J⟩
theorem Qu (l:List lW):mq s (iE l) (uj 0 l) kj:=by refine⟨fun r j av k=> ?_,fun _ _ _ _ _ bA=>by simp[kj] at bA⟩;obtain⟨-,J⟩:=NO av;simp only[iE,show l[j]? = some {bz:=[],ke:=some (r,0)} by simpa using J];simp
theorem Ob (dg:h3 g s al w){aO:gC}{b7:Nat->Option Nat}(H:mq s aO b7 kj): ∀(l:List (Nat×Nat)) (cn:List h6) (T:List aM) (af:List Prop),
 vF s.aH b7 aO l cn=some (T,af)->(∀p∈af,p)->T.length=l.length/\ ∀(i:Nat) bX,cX (some T) i=some bX-> ∃r k I,l[i]? = some (r,k)/\s.af r k=some I/\oe s aO kj ly I bX
 | [],[],T,af,h,_=>by simp[vF] at h;obtain⟨rfl,rfl⟩:=h;exact⟨rfl,fun i bX ai=>by simp[cX] at ai⟩
 | (r,k)::l,c::cn,T,af,h,a5=>by
  simp only[vF] at h;split at h;rotate_left
  ·simp at h
  rename_i I ai;split at h;rotate_left
  ·simp at h
  rename_i p bS mT aY o J;simp only[dy,dC] at h;obtain⟨rfl,rfl⟩:=h;obtain⟨ao,aB⟩:=Ob dg H l cn mT aY J (fun p ah=>a5 p (by simp[ah]))
  have ln : ∀dn bX,cX (some [I]) dn=some bX->bX=I:=fun dn bX aQ=>by
   rw[lM] at aQ;split at aQ
   ·simp at aQ;exact aQ.symm
   simp at aQ
  have du:s.af r k=some I:=ai;obtain⟨f0,f1⟩:=Hh (r:=r) (jK:=fun _=>k) dg H (fun dn bX aQ=>by rw[ln dn bX aQ];exact du) o (fun p ah=>a5 p (by simp[ah]));refine⟨by simp[ao],fun i bX ae=> ?_⟩
  cases i with
  | zero =>
   have ae:cX (some [p]) 0=some bX:=(by rw[jX] at ae ⊢;simpa using ae);obtain⟨aY,g1,g2⟩:=f1 0 bX ae;rw[ln 0 aY g1] at g2;exact⟨r,k,I,rfl,du,g2⟩
  | succ i =>
   have ae:cX (some mT) i=some bX:=(by rw[jX] at ae ⊢;simpa using ae);obtain⟨ep,dn,aY,g1,g2,g3⟩:=aB i bX ae;exact⟨ep,dn,aY,by simpa using g1,g2,g3⟩
 | [],_::_,_,_,h,_=>by simp[vF] at h
 | _::_,[],_,_,h,_=>by simp[vF] at h
theorem WS (dg:h3 g s al w){aO:gC}{b7:Nat->Option Nat}(H:mq s aO b7 kj){ke:Option (Nat×Nat)}{cn:Option h6}{T:List aM}{af:List Prop}
 (h:yK s.aH b7 aO ke cn=some (T,af)) (a5 : ∀p∈af,p):(∀r n k,ke=some (r,n)->s.aW r (k+n)->k<T.length) /\
   ∀(i:Nat) bX,cX (some T) i=some bX-> ∃r n I,ke=some (r,n)/\s.af r (i+n)=some I/\oe s aO kj ly I bX:=by
 cases ke with
 | none =>
  cases cn with
  | none =>
   simp[yK] at h;obtain⟨rfl,rfl⟩:=h;exact⟨fun r n k e=>by simp at e,fun i bX ai=>by simp[cX] at ai⟩
  | some c=>simp[yK] at h
 | some p =>
  obtain⟨r,n⟩:=p
  cases cn with
  | none=>simp[yK] at h
  | some c =>
   simp only[yK] at h;split at h
   ·rename_i row cV
    have bz : ∀k I,cX (some (row.drop n)) k=some I->s.af r (k+n)=some I:=fun k I ai=>(by unfold S.af;rw[cV,jX];rw[jX,afm] at ai;rw[Nat.add_comm];exact ai);obtain⟨f0,f1⟩:=Hh (r:=r) (jK:=fun k=>k+n) dg H bz h a5;refine⟨fun ep mR k e aQ=> ?_,fun i bX ai=> ?_⟩
    ·simp only[dy,dC] at e;obtain⟨rfl,rfl⟩:=e;rw[f0,List.length_drop];simp[S.aW,cV] at aQ;omega
    obtain⟨I,g1,g2⟩:=f1 i bX ai;exact⟨r,n,I,rfl,bz i I g1,g2⟩
   simp at h
theorem U3 {a b:List aM}{i:Nat}:cX (some (a++b)) i=if i<a.length then cX (some a) i else cX (some b) (i-a.length):=by rw[jX,jX,jX,List.getElem?_append];split<;>rfl
theorem Oc (dg:h3 g s al w){aO:gC}{b7:Nat->Option Nat}(H:mq s aO b7 kj): ∀(l:List lW) (cn:List (List h6×Option h6)) (T:List (List aM)) (af:List Prop),
 vG s.aH b7 aO l cn=some (T,af)->(∀p∈af,p)->T.length=l.length/\ ∀(j:Nat) dU eU,T[j]? = some dU->l[j]? = some eU ->
  (eU.bz.length<=dU.length)/\(∀r n k,eU.ke=some (r,n)->s.aW r (k+n)->k+eU.bz.length<dU.length) /\
  ∀(i:Nat) bX,cX (some dU) i=some bX-> ∃r k I,(if i<eU.bz.length then eU.bz[i]? = some (r,k) else ∃n,eU.ke=some (r,n)/\k=i-eU.bz.length+n)/\s.af r k=some I/\oe s aO kj ly I bX
 | [],[],T,af,h,_=>by simp[vG] at h;obtain⟨rfl,rfl⟩:=h;exact⟨rfl,fun j dU eU av=>by simp at av⟩
 | eU::l,(J8,RL)::cn,T,af,h,a5=>by
  simp only[vG] at h;split at h;rotate_left
  ·simp at h
  rename_i a bS b aY mT gm o J ab;simp only[dy,dC] at h;obtain⟨rfl,rfl⟩:=h;obtain⟨ao,aB⟩:=Oc dg H l cn mT gm ab (fun p ah=>a5 p (by simp[ah]));obtain⟨f1,f2⟩:=Ob dg H eU.bz J8 a bS o (fun p ah=>a5 p (by simp[ah]));obtain⟨g1,g2⟩:=WS dg H J (fun p ah=>a5 p (by simp[ah]));refine⟨by simp[ao],fun j dU ES av rD=> ?_⟩
  cases j with
  | zero =>
   simp at av rD;subst av;subst rD;refine⟨by simp[f1],fun r n k e aQ=> ?_,fun i bX ai=> ?_⟩
   ·have:=g1 r n k e aQ;simp[f1];omega
   rw[U3,f1] at ai;split at ai
   ·rename_i dq;obtain⟨r,k,I,aT,bf,cb⟩:=f2 i bX ai;exact⟨r,k,I,by rw[dw dq];exact aT,bf,cb⟩
   rename_i dq;obtain⟨r,n,I,aT,bf,cb⟩:=g2 _ bX ai;exact⟨r,_,I,by rw[dA dq];exact⟨n,aT,rfl⟩,bf,cb⟩
  | succ j=>simp at av rD;exact aB j dU ES av rD
 | [],_::_,_,_,h,_=>by simp[vG] at h
 | _::_,[],_,_,h,_=>by simp[vG] at h
theorem NP (h:cq g s al a w){aO:gC}{b7:Nat->Option Nat}(H:mq s aO b7 kj): ∀(l:List (Nat×kE)) (env:List (Nat×an)) (af:List Prop),
 AX s.aH b7 aO s.E l=some (env,af)->(∀p∈af,p)-> ∀t,hD s aO kj ly (s.E t) (zc env t)
 | [],env,af,aj,_=>by simp[AX] at aj;obtain⟨rfl,rfl⟩:=aj;intro t;exact .dead _
 | (u,c)::l,env,af,aj,a5=>by
  simp only[AX] at aj;split at aj
  ·rename_i v bS Iw aY o J
   simp only[dy,dC] at aj;obtain⟨rfl,rfl⟩:=aj;have ih:=NP h H l Iw aY J (fun p ah=>a5 p (by simp[ah]));intro t;unfold zc;split
   ·rename_i e;subst e;exact Az h.toh3 H (us _) o (fun p ah=>a5 p (by simp[ah])) trivial (h.env t)
   exact ih t
  simp at aj
theorem hD.wide {aO:gC}{bI QX:fZ->Bool}{q:an->Prop}(h:∀k,bI k=true->QX k=true){x cA:an}(bO:hD s aO bI q x cA):hD s aO QX q x cA:=by
 induction bO with
 | dead x=>exact .dead x
 | pure ah a2=>exact .pure ah a2
 | fq sz=>exact .fq sz
 | ic sz=>exact .ic sz
 | Eh sz=>exact .Eh sz
 | eW h ih=>exact .eW ih
 | ref i off hm hu=>exact .ref i off hm hu
 | bK bw len hm hu=>exact .bK bw len hm hu
 | mx r c sz=>exact .mx r c sz
 | nA h ih=>exact .nA ih
 | iA h hm=>exact .iA h hm
 | e4 i off ai bA aj cx ah hle aF fH ih=>exact .e4 i off ai (h _ bA) aj cx ah hle aF ih
 | isl ai bA aj ia ah hle aF fH ih=>exact .isl ai (h _ bA) aj ia ah hle aF ih
 | agg aF fH ih=>exact .agg aF ih
 | cZ aF fH ih=>exact .cZ aF ih
 | fn aF fH ih=>exact .fn aF ih
theorem V2 (h:cq g s al a w){l:List lW}{cn:List (List h6×Option h6)}{nS:List (Nat×kE)}{bH:S}{n:Nat}{af:List Prop}(aj:Ea g.m s l cn nS=some (bH,n,af))(a5:∀p∈af,p):
 bH.j8 n/\cq g bH (jk al (iE l)) a w:=by
 unfold Ea at aj;split at aj;rotate_left
 ·simp at aj
 rename_i aL;simp only[afd] at aL;obtain⟨mE,rC⟩:=aL;split at aj;rotate_left
 ·simp at aj
 rename_i T bS env aY o J;simp only[dy,dC] at aj;obtain⟨rfl,rfl,rfl⟩:=aj;refine⟨vj _ _,?_⟩;obtain⟨ao,aB⟩:=Oc h.toh3 (Qu l) l cn T bS o (fun p ah=>a5 p (by simp[ah]));have d1:=NP h (Qu l) nS env aY J (fun p ah=>a5 p (by simp[ah]));refine h.OL (aO:=iE l) (q:=ly) ⟨XL mE,?_,?_⟩ (fun t=>(d1 t).wide fun _ bA=>by simp[kj] at bA) ?_
 ·intro j i bX du
  have du:cX (T[j]?) i=some bX:=du
  cases av:T[j]? with
  | none=>rw[av] at du;simp[cX] at du
  | some dU =>
   rw[av] at du;have dq:j<l.length:=(by have:=fN av;omega);have a2:=dx dq;obtain⟨r,k,I,g1,g2,g3⟩:=(aB j dU _ av a2).2.2 i bX du;refine⟨r,k,I,?_,g2,⟨g3.sz,g3.cg,g3.len,g3.each,fun j x cA aa dl=>(g3.at_ j x cA aa dl).wide fun _ bA=>by simp[kj] at bA⟩⟩;simp only[iE,a2];split at g1
   ·rename_i aF;rw[dw aF];exact g1
   rename_i aF;rw[dA aF];obtain⟨n,t1,t2⟩:=g1;rw[t1,t2]
 ·intro j i r k e hu
  obtain⟨eU,iG,jl,bq⟩:=HO e;have dq:j<T.length:=(by have:=fN iG;omega);obtain⟨gH,h8,-⟩:=aB j _ eU (dx dq) iG;show i<((T[j]?).getD []).length;rw[dx dq];show i<T[j].length;split at bq
  ·omega
  rename_i aF;obtain⟨n,t1,t2⟩:=bq;have:=h8 r n (i-eU.bz.length) t1 (by rw[<- t2];exact hu);omega
 intro j k av;unfold Pm at rC;have:=List.all_eq_true.1 rC j (List.mem_range.2 (h.low j k av));simp only[beq_iff_eq] at this;simp only[iE,this];simp
theorem cq.more (h:cq g s al a w){aR:Nat}{row:List aM}(ey:s.aH aR=none)(cV:∀I∈row,I.es=[]):
 ∃bG,(∀k,bG aR k=none)/\cq g (s.setRow aR row) bG a w:=by
 let s2:=s.setRow aR row
 let bG:fj:=fun q k=>if q=aR then none else al q k
 have cx : ∀q k,s.aW q k->q≠aR:=by rintro q k a2 rfl;exact xQ ey k a2
 have cv : ∀q,q≠aR->s2.aH q=s.aH q:=fun q a2=>by simp[s2,S.setRow,a2]
 have aa0:s2.aH aR=some row:=by simp[s2,S.setRow]
 have Ip : ∀k I,s2.af aR k=some I->I.es=[]:=by
  intro k I ai;unfold S.af at ai;rw[aa0] at ai;unfold cX at ai;simp only at ai;split at ai
  ·rename_i bX du
   split at ai
   ·simp at ai
   simp at ai;subst ai;exact cV _ (dG du)
  simp at ai
 have a5 : ∀q k,q≠aR->s2.af q k=s.af q k:=fun q k a2=>by unfold S.af;rw[cv q a2]
 have kP : ∀q k,q≠aR->s2.a0 bG q k=s.a0 al q k:=fun q k a2=>by simp[S.a0,a5 q k a2,bG,a2]
 have cO:Step g s al w s2 bG w:=⟨fun q k a2=>by unfold S.aW;rw[cv q (cx q k a2)];exact a2,fun q k a2=> .inl (kP q k (cx q k a2)),fun b aF=>by
  obtain⟨q,k,I,m,o,J,ab⟩:=aF;by_cases e:q=aR
  ·subst e;simp[bG] at ab
  rw[a5 q k e] at o;simp only[bG,dA e] at ab;exact .inl ⟨q,k,I,m,o,J,ab⟩,fun _ _ _=>rfl,dE _⟩
 have dg:h3 g s2 bG w:=by
  refine⟨?_,?_,?_,h.gZ,h.mlt,h.m9,?_,h.low⟩
  ·intro q k I ai
   by_cases e:q=aR
   ·subst e;simp only[bG,if_true,iJ];exact Ip k I ai
   rw[a5 q k e] at ai;have:=cO.obj (fun b m _=>rfl) (h.obj q k I ai);simpa [bG,e] using this
  ·intro q k I hC dn bX b m aU o J ab aA;have e:q≠aR:=(by rintro rfl;simp[bG] at ab);have er:hC≠aR:=(by rintro rfl;simp[bG] at aA);rw[a5 q k e] at o;rw[a5 hC dn er] at J;simp only[bG,dA e] at ab;simp only[bG,dA er] at aA;exact h.inj q k I hC dn bX b m aU o J ab aA
  ·intro q k I b m o J;have e:q≠aR:=(by rintro rfl;simp[bG] at J);rw[a5 q k e] at o;simp only[bG,dA e] at J;exact h.own q k I b m o J
  intro j k av;obtain⟨ao,aB⟩:=h.stay j k av;refine⟨by unfold S.aW;rw[cv j (cx j k ao)];exact ao,?_⟩;rw[kP j k (cx j k ao)];exact aB
 exact⟨bG,fun k=>by simp[bG],{toh3:=dg,env:=fun u=>cO.rel (h.env u),defers:=h.defers,jj:=h.jj}⟩
theorem cq.YB (h:cq g s al a w){r sq:Nat}{cg:fZ}{c dW:List an}(cV:s.aH r=some [⟨sq,[c],cg⟩])(aF:dW.length=c.length)
 (aL : ∀(j:Nat) x cA,c[j]? = some x->dW[j]? = some cA-> ∀v,Rel w (s.ok g al w) s.aW (s.a0 al) x v->Rel w (s.ok g al w) s.aW (s.a0 al) cA v) :
 cq g (s.setRow r [⟨sq,[dW],cg⟩]) al a w:=by
 let s2:=s.setRow r [⟨sq,[dW],cg⟩]
 have a5 : ∀q k,s2.af q k=if q=r then (s.af q k).map (fun I=>{I with es:=[dW]}) else s.af q k:=by
  intro q k;show (s.setRow r _).af q k=_;rw[kZ];split
  ·rename_i e;subst e;unfold S.af;rw[cV,lM,lM];split<;>rfl
  rfl
 have i4:s2.aW=s.aW:=by
  funext q k;show (s.setRow r _).aW q k=_;refine propext ((m1 s r _ q k).trans ?_);split
  ·rename_i e;subst e;simp[S.aW,cV]
  rfl
 have kP:s2.a0 al=s.a0 al:=by
  funext q k;unfold S.a0;rw[a5];split
  ·cases s.af q k<;>rfl
  rfl
 have tm:s2.lk al=s.lk al:=by
  funext b;unfold S.lk;refine propext ⟨fun ⟨q,k,I,m,o,J,ab⟩=> ?_,fun ⟨q,k,I,m,o,J,ab⟩=> ?_⟩
  ·rw[a5] at o
   split at o
   ·rw[dN] at o;obtain⟨bX,aA,rfl⟩:=o;exact⟨q,k,bX,m,aA,J,ab⟩
   exact⟨q,k,I,m,o,J,ab⟩
  by_cases e:q=r
  ·exact⟨q,k,{I with es:=[dW]},m,by rw[a5,dw e,o];rfl,J,ab⟩
  exact⟨q,k,I,m,by rw[a5,dA e];exact o,J,ab⟩
 have mE:s2.ok g al w=s.ok g al w:=by funext b;unfold S.ok;rw[tm]
 have dg:h3 g s2 al w:=by
  refine⟨?_,?_,?_,h.gZ,h.mlt,h.m9,?_,h.low⟩
  ·intro q k I ai
   rw[mE,i4,kP];rw[a5] at ai;split at ai;rotate_left
   ·exact h.obj q k I ai
   rename_i e;subst e;rw[dN] at ai;obtain⟨bX,aA,rfl⟩:=ai;have aJ:=h.obj _ k bX aA;have bC:bX=⟨sq,[c],cg⟩:=(by unfold S.af at aA;rw[cV,lM] at aA;split at aA<;>simp at aA;exact aA.symm);subst bC
   cases ah:al q k with
   | none=>rw[ah] at aJ;simp[iJ] at aJ
   | some p =>
    rw[ah] at aJ;obtain⟨acu,ef,g1,g2,g3,g4⟩:=aJ;refine⟨acu,ef,g1,g2,fun e he=> ?_,fun j x aa=> ?_⟩
    ·simp at he;subst he;rw[aF];exact g3 c (by simp)
    simp at aa;have av:=fN aa;have iM:=dx (show j<c.length by omega);obtain⟨v,v1,v2,v3⟩:=g4 j c[j] (by simp);exact⟨v,v1,v2,aL j _ _ iM aa v v3⟩
  ·intro q k I hC dn bX b m aU o J ab aA
   have ao : ∃I,s.af q k=some I:=by
    rw[a5] at o;split at o
    ·rw[dN] at o;obtain⟨bX,aJ,-⟩:=o;exact⟨bX,aJ⟩
    exact⟨I,o⟩
   have aB : ∃I,s.af hC dn=some I:=by
    rw[a5] at J;split at J
    ·rw[dN] at J;obtain⟨bX,aJ,-⟩:=J;exact⟨bX,aJ⟩
    exact⟨bX,J⟩
   obtain⟨bS,ao⟩:=ao;obtain⟨aY,aB⟩:=aB;exact h.inj q k bS hC dn aY b m aU ao aB ab aA
  ·intro q k I b m o J
   rw[a5] at o;split at o
   ·rw[dN] at o;obtain⟨bX,aJ,-⟩:=o;exact h.own q k bX b m aJ J
   exact h.own q k I b m o J
  intro j k av;rw[i4,kP];exact h.stay j k av
 refine {toh3:=dg,env:=fun u=> ?_,defers:=h.defers,jj:=h.jj};have:=h.env u;rw[mE,i4,kP];exact this
theorem cq.Zr (h:cq g s al a w){aR r j sq sz:Nat}{cg:fZ}{c:List an}(ey:s.aH aR=none)(cV:s.aH r=some [⟨sq,[c],cg⟩])(av:c[j]? = some .fq):
 ∃bG,cq g ((s.setRow aR [⟨sz,[],.live⟩]).setRow r [⟨sq,[c.set j (.bK aR 0 0 0)],cg⟩]) bG a w:=by
 obtain⟨bG,aV,cf⟩:=h.more (row:=[⟨sz,[],.live⟩]) ey (fun I ai=>by simp at ai;subst ai;rfl);have cx:r≠aR:=by rintro rfl;rw[cV] at ey;simp at ey
 refine⟨bG,cf.YB (c:=c) (by simp[S.setRow,cx,cV]) (by simp) (fun i x cA aa dl v aZ=> ?_)⟩;rw[aff] at dl;split at dl
 ·rename_i e;subst e
  split at dl
  ·simp at dl;subst dl;rw[av] at aa;simp at aa;subst aa;rw[aZ.pM];refine .nt (sz:=sz) (by simp[S.aW,S.setRow]) ?_;unfold S.a0 S.af;rw[show (s.setRow aR [⟨sz,[],.live⟩]).aH aR=some [⟨sz,[],.live⟩] by simp[S.setRow],lM];simp[aV]
  simp at dl
 rw[aa] at dl;simp at dl;subst dl;exact aZ
theorem cq.si (h:cq g s al a w){aR t sz:Nat}(ey:s.aH aR=none)(ch:s.E t = .fq):
 ∃bG,cq g {E:=fun u=>if u=t then .bK aR 0 0 0 else s.E u,aH:=(s.setRow aR [⟨sz,[],.live⟩]).aH} bG a w:=by
 obtain⟨bG,aV,cf⟩:=h.more (row:=[⟨sz,[],.live⟩]) ey (fun I ai=>by simp at ai;subst ai;rfl);refine⟨bG,{toh3:=cf.toh3.congr rfl,env:=fun u=> ?_,defers:=cf.defers,jj:=cf.jj}⟩;have ao : ∀wH:S,wH.aH=(s.setRow aR [⟨sz,[],.live⟩]).aH->Rel w ((s.setRow aR [⟨sz,[],.live⟩]).ok g bG w) (s.setRow aR [⟨sz,[],.live⟩]).aW ((s.setRow aR [⟨sz,[],.live⟩]).a0 bG)=Rel w (wH.ok g bG w) wH.aW (wH.a0 bG):=fun wH e=>by rw[Ay e,yg e,yh e]
 refine Eq.mp (congrFun (congrFun (ao {E:=fun u=>if u=t then .bK aR 0 0 0 else s.E u,aH:=(s.setRow aR [⟨sz,[],.live⟩]).aH} rfl) _) _) ?_;show Rel _ _ _ _ (if u=t then .bK aR 0 0 0 else s.E u) _;split
 ·rename_i e;subst e;have h0:=h.env u;rw[ch] at h0;rw[h0.pM];refine .nt (sz:=sz) (by simp[S.aW,S.setRow]) ?_;unfold S.a0 S.af;rw[show (s.setRow aR [⟨sz,[],.live⟩]).aH aR=some [⟨sz,[],.live⟩] by simp[S.setRow],lM];simp[aV]
 exact cf.env u
end
def i6 (P:Program)(N m:Nat)(c:Code)(e:Exit)(s bH:S):Prop :=
 ∀(g:G) al a w,g.N=N->g.m=m->cq g s al a w->c.wp P (fun er dr bx=>er=e/\ ∃bG,cq g bH bG dr bx) a w
inductive wI where
 | normal
 | exit (id:Nat)
 | ret
def wI.x:wI->Exit
 | .normal=> .normal
 | .exit id=> .exit id
 | .ret=> .ret
inductive cw where
 | aE (cr:List (eG×Bool))
 | ay (b:Bool)
 | br (aO:List Nat) (cn:List h6) (nS:List (Nat×kE))
 | ze (l:List lW) (cn:List (List h6×Option h6)) (nS:List (Nat×kE))
 | iB (r:Nat)
 | si (t sz:Nat)
 | BZ (r j sz:Nat)
 | Jd
 | sub (e:wI) (env:List (Nat×an)) (rows:List (List aM))
structure RM where
 e:Exit
 s:S
 aR:Nat
 tape:List cw
 eX:List Prop
def lP (m:Nat):List cw->S->Nat->Option (List cw×S×Nat×List Prop)
 | .br aO cn nS::tape,s,aR=>match El m s aO cn nS with
  | some (s1,hj,bS)=>match lP m tape s1 hj with
   | some (t2,s2,jx,aY)=>some (t2,s2,jx,bS++aY)
   | none=>none
  | none=>none
 | .ze l cn nS::tape,s,aR=>match Ea m s l cn nS with
  | some (s1,hj,bS)=>match lP m tape s1 hj with
   | some (t2,s2,jx,aY)=>some (t2,s2,jx,bS++aY)
   | none=>none
  | none=>none
 | .iB r::tape,s,aR=>match s.aH r with
  | some row=>lP m tape (s.setRow r (ll row)) aR
  | none=>none
 | .si t sz::tape,s,aR=>match s.E t with
  | .fq=>lP m tape {E:=fun u=>if u=t then .bK aR 0 0 0 else s.E u,aH:=(s.setRow aR [⟨sz,[],.live⟩]).aH} (aR+1)
  | _=>none
 | .BZ r j sz::tape,s,aR=>match s.aH r with
  | some [⟨sq,[c],cg⟩]=>match c[j]? with
   | some .fq=>lP m tape ((s.setRow aR [⟨sz,[],.live⟩]).setRow r [⟨sq,[c.set j (.bK aR 0 0 0)],cg⟩]) (aR+1)
   | _=>none
  | _=>none
 | .Jd::tape,s,aR=>lP m tape (s.setRow aR []) (aR+1)
 | tape,s,aR=>some (tape,s,aR,[])
def my (P:Program)(N m:Nat):Code->List cw->S->Nat->Option RM
 | .skip,tape,s,aR=>some ⟨.normal,s,aR,tape,[]⟩
 | .label _,tape,s,aR=>some ⟨.normal,s,aR,tape,[]⟩
 | .exit id,tape,s,aR=>some ⟨.exit id,s,aR,tape,[]⟩
 | .ret,tape,s,aR=>some ⟨.ret,s,aR,tape,[]⟩
 | .seq x y,tape,s,aR=>match my P N m x tape s aR with
  | some ⟨.normal,s1,hj,t1,bS⟩=>match my P N m y t1 s1 hj with
   | some ⟨aB,s2,jx,t2,aY⟩=>some ⟨aB,s2,jx,t2,bS++aY⟩
   | none=>none
  | some r=>some r
  | none=>none
 | .block id c,tape,s,aR=>match my P N m c tape s aR with
  | some ⟨.exit wi,s1,hj,t1,bS⟩=>some ⟨if wi=id then .normal else .exit wi,s1,hj,t1,bS⟩
  | r=>r
 | .scope c,tape,s,aR=>my P N m c tape s aR
 | .region _ ops draw,tape,s,aR=>match lP m tape s aR with
  | some (.aE cr::t1,s1,hj,bS)=>match Aw P N ops draw cr s1 hj with
   | some (s2,aY)=>some ⟨.normal,s2,hj+ops.size,t1,bS++aY⟩
   | none=>none
  | _=>none
 | .cond x c d,tape,s,aR=>match lP m tape s aR with
  | some (.sub e env rows::t1,s1,_,bS)=>some ⟨e.x,eD env rows,rows.length,t1,bS++[i6 P N m (.cond x c d) e.x s1 (eD env rows)]⟩
  | some (.ay b::t1,s1,hj,bS)=>match eh s1.E x with
   | .b v=>match b with
    | true=>match my P N m c t1 s1 hj with
     | some ⟨aB,s2,jx,t2,aY⟩=>some ⟨aB,s2,jx,t2,bS++(v=true)::aY⟩
     | none=>none
    | false=>match my P N m d t1 s1 hj with
     | some ⟨aB,s2,jx,t2,aY⟩=>some ⟨aB,s2,jx,t2,bS++(v=false)::aY⟩
     | none=>none
   | _=>none
  | _=>none
 | .loop c,tape,s,aR=>match lP m tape s aR with
  | some (.sub e env rows::t1,s1,_,bS)=>some ⟨e.x,eD env rows,rows.length,t1,bS++[i6 P N m (.loop c) e.x s1 (eD env rows)]⟩
  | _=>none
 | _,_,_,_=>none
section
variable {P:Program} {N m:Nat}
theorem i6.intro {c:Code}{e:Exit}{s bH:S}(h:∀(g:G) al a w,g.N=N->g.m=m->cq g s al a w->c.wp P (fun er dr bx=>er=e/\ ∃bG,cq g bH bG dr bx) a w):i6 P N m c e s bH:=h
theorem i6.seq {x y:Code}{e:Exit}{s s1 s2:S}(o:i6 P N m x .normal s s1)(J:i6 P N m y e s1 s2):i6 P N m (.seq x y) e s s2:=by intro g al a w fS hm aj;refine wp_seq (wp_mono (o g al a w fS hm aj) fun er dr bx a2=> ?_);obtain⟨rfl,bG,hp⟩:=a2;exact J g bG dr bx fS hm hp
theorem i6.XM {x y:Code}{e:Exit}{s s1:S}(o:i6 P N m x e s s1)(he:e≠ .normal):i6 P N m (.seq x y) e s s1:=by intro g al a w fS hm aj;refine wp_seq (wp_mono (o g al a w fS hm aj) fun er dr bx a2=> ?_);obtain⟨rfl,hp⟩:=a2;cases er<;>first|exact absurd rfl he|exact⟨rfl,hp⟩
theorem i6.Vt {c:Code}{id wi:Nat}{s s1:S}(o:i6 P N m c (.exit wi) s s1):i6 P N m (.block id c) (if wi=id then .normal else .exit wi) s s1:=by
 intro g al a w fS hm aj;refine wp_block (wp_mono (o g al a w fS hm aj) fun er dr bx a2=> ?_);obtain⟨rfl,hp⟩:=a2;simp only[Exit.inBlock];split
 ·exact⟨rfl,hp⟩
 exact⟨rfl,hp⟩
theorem i6.block {c:Code}{id:Nat}{e:Exit}{s s1:S}(o:i6 P N m c e s s1)(he:∀i,e≠ .exit i):i6 P N m (.block id c) e s s1:=by intro g al a w fS hm aj;refine wp_block (wp_mono (o g al a w fS hm aj) fun er dr bx a2=> ?_);obtain⟨rfl,hp⟩:=a2;cases er<;>first|exact absurd rfl (he _)|exact⟨rfl,hp⟩
theorem i6.scope {c:Code}{e:Exit}{s s1:S}(o:i6 P N m c e s s1)(he:∀l,e≠ .goto l):i6 P N m (.scope c) e s s1:=by intro g al a w fS hm aj;refine wp_scope_straight (wp_mono (o g al a w fS hm aj) fun er dr bx a2=> ?_);obtain⟨rfl,hp⟩:=a2;cases er<;>first|exact absurd rfl (he _)|exact⟨rfl,hp⟩
theorem MW {ops:Array Oper}: ∀(l:List Oper) (cr:List (eG×Bool)) (s bH:S) (aR:Nat) (af:List Prop),
 qy P N ops l cr s aR=some (bH,af)->s.j8 aR->bH.j8 (aR+l.length)
 | [],[],s,bH,aR,af,h,b0=>by simp[qy] at h;obtain⟨rfl,rfl⟩:=h;simpa using b0
 | I::l,fp::cr,s,bH,aR,af,h,b0=>by
  simp only[qy] at h;split at h
  ·rename_i bc ak
   split at h
   ·rename_i s2 BW J;simp only[dy,dC] at h;obtain⟨rfl,rfl⟩:=h;have:=MW l cr (s.a1 I bc) s2 (aR+1) BW J (Dq ak b0);rw[dM];rw[show aR+(l.length+1)=aR+1+l.length by omega];exact this
   simp at h
  simp at h
 | [],_::_,_,_,_,_,h,_=>by simp[qy] at h
 | _::_,[],_,_,_,_,h,_=>by simp[qy] at h
theorem MX {ops:Array Oper}: ∀(l:List Oper) (cr:List (eG×Bool)) (s bH:S) (aR:Nat) (ja:List Rec),
 qz P N ops l cr s aR=some (bH,ja)->s.j8 aR->bH.j8 (aR+l.length)
 | [],[],s,bH,aR,af,h,b0=>by simp[qz] at h;obtain⟨rfl,rfl⟩:=h;simpa using b0
 | I::l,fp::cr,s,bH,aR,af,h,b0=>by
  simp only[qz] at h;split at h
  ·rename_i bc ak
   split at h
   ·rename_i s2 BW J;simp only[dy,dC] at h;obtain⟨rfl,rfl⟩:=h;have:=MX l cr (s.a1 I bc) s2 (aR+1) BW J (Dq (GV ak) b0);rw[dM];rw[show aR+(l.length+1)=aR+1+l.length by omega];exact this
   simp at h
  simp at h
 | [],_::_,_,_,_,_,h,_=>by simp[qz] at h
 | _::_,[],_,_,_,_,h,_=>by simp[qz] at h
theorem Ug {ops:Array Oper}{draw:Bool}{cr:List (eG×Bool)}{s bH:S}{aR:Nat}{af:List Prop}
 (h:Aw P N ops draw cr s aR=some (bH,af)) (b0:s.j8 aR):bH.j8 (aR+ops.size):=by
 unfold Aw at h;split at h
 ·split at h
  ·rename_i s2 g7 Bz
   split at h
   ·simp only[dy,dC] at h;obtain⟨rfl,rfl⟩:=h;simpa using MX _ _ _ _ _ _ Bz b0
   simp at h
  simp at h
 simpa using MW _ _ _ _ _ _ h b0
theorem U4 {s:S}{n r:Nat}{row:List aM}(h:s.j8 n)(aj:r<n):(s.setRow r row).j8 n:=by
 intro q a2;have:q≠r:=by omega
 simp[S.setRow,this,h q a2]
theorem xV : ∀(tape:List cw) (s:S) (aR:Nat) (cW:List cw) (bH:S) (mR:Nat) (af:List Prop),lP m tape s aR=some (cW,bH,mR,af)->(∀p∈af,p)->s.j8 aR ->
 bH.j8 mR/\ ∀(g:G) al a w,g.m=m->cq g s al a w-> ∃bG,cq g bH bG a w:=by
 intro tape
 induction tape with
 | nil =>
  intro s aR cW bH mR af h a5 b0;simp[lP] at h;obtain⟨rfl,rfl,rfl,rfl⟩:=h;exact⟨b0,fun g al a w _ aj=>⟨al,aj⟩⟩
 | cons x tape ih =>
  intro s aR cW bH mR af h a5 b0
  cases x with
  | br aO cn nS =>
   simp only[lP] at h;split at h;rotate_left
   ·simp at h
   rename_i s1 hj bS o;split at h;rotate_left
   ·simp at h
   rename_i t2 s2 jx aY J;simp only[dy,dC] at h;obtain⟨rfl,rfl,rfl,rfl⟩:=h
   have A7:s1.j8 hj:=by
    unfold El at o;split at o
    ·split at o
     ·simp only[dy,dC] at o;obtain⟨rfl,rfl,rfl⟩:=o;exact vj _ _
     simp at o
    simp at o
   obtain⟨ao,aB⟩:=ih s1 hj t2 s2 jx aY J (fun p ah=>a5 p (by simp[ah])) A7;refine⟨ao,fun g al a w hm aj=> ?_⟩;obtain⟨-,f2⟩:=WR aj (by rw[hm];exact o) (fun p ah=>a5 p (by simp[ah]));exact aB g _ a w hm f2
  | ze l cn nS =>
   simp only[lP] at h;split at h;rotate_left
   ·simp at h
   rename_i s1 hj bS o;split at h;rotate_left
   ·simp at h
   rename_i t2 s2 jx aY J;simp only[dy,dC] at h;obtain⟨rfl,rfl,rfl,rfl⟩:=h
   have A7:s1.j8 hj:=by
    unfold Ea at o;split at o
    ·split at o
     ·simp only[dy,dC] at o;obtain⟨rfl,rfl,rfl⟩:=o;exact vj _ _
     simp at o
    simp at o
   obtain⟨ao,aB⟩:=ih s1 hj t2 s2 jx aY J (fun p ah=>a5 p (by simp[ah])) A7;refine⟨ao,fun g al a w hm aj=> ?_⟩;obtain⟨-,f2⟩:=V2 aj (by rw[hm];exact o) (fun p ah=>a5 p (by simp[ah]));exact aB g _ a w hm f2
  | iB r =>
   simp only[lP] at h;split at h
   ·rename_i row cV
    have dq:r<aR:=by
     rcases Nat.lt_or_ge r aR with cf|cf
     ·exact cf
     rw[b0 r cf] at cV;simp at cV
    obtain⟨ao,aB⟩:=ih _ aR cW bH mR af h a5 (U4 b0 dq);exact⟨ao,fun g al a w hm aj=>aB g al a w hm (aj.freeze cV)⟩
   simp at h
  | si t sz =>
   simp only[lP] at h;split at h
   ·rename_i ch;obtain⟨ao,aB⟩:=ih _ (aR+1) cW bH mR af h a5 (by intro q a2;have:q≠aR:=(by omega);simp[S.setRow,this,b0 q (by omega)]);refine⟨ao,fun g al a w hm aj=> ?_⟩;obtain⟨bG,hp⟩:=aj.si (sz:=sz) (b0 aR (dE _)) ch;exact aB g bG a w hm hp
   simp at h
  | BZ r j sz =>
   simp only[lP] at h;split at h;rotate_left
   ·simp at h
   rename_i sq c cg cV;split at h
   ·rename_i av
    have dq:r<aR:=by
     rcases Nat.lt_or_ge r aR with cf|cf
     ·exact cf
     rw[b0 r cf] at cV;simp at cV
    obtain⟨ao,aB⟩:=ih _ (aR+1) cW bH mR af h a5 (by intro q a2;have o:q≠aR:=(by omega);have J:q≠r:=(by omega);simp[S.setRow,o,J,b0 q (by omega)]);refine⟨ao,fun g al a w hm aj=> ?_⟩;obtain⟨bG,hp⟩:=aj.Zr (sz:=sz) (b0 aR (dE _)) cV av;exact aB g bG a w hm hp
   simp at h
  | Jd =>
   simp only[lP] at h;obtain⟨ao,aB⟩:=ih _ (aR+1) cW bH mR af h a5 (by intro q a2;have:q≠aR:=(by omega);simp[S.setRow,this,b0 q (by omega)]);refine⟨ao,fun g al a w hm aj=> ?_⟩;obtain⟨bG,-,hp⟩:=aj.more (row:=[]) (b0 aR (dE _)) (by simp);exact aB g bG a w hm hp
  | aE cr=>simp[lP] at h;obtain⟨rfl,rfl,rfl,rfl⟩:=h;exact⟨b0,fun g al a w _ aj=>⟨al,aj⟩⟩
  | ay b=>simp[lP] at h;obtain⟨rfl,rfl,rfl,rfl⟩:=h;exact⟨b0,fun g al a w _ aj=>⟨al,aj⟩⟩
  | sub e env rows=>simp[lP] at h;obtain⟨rfl,rfl,rfl,rfl⟩:=h;exact⟨b0,fun g al a w _ aj=>⟨al,aj⟩⟩
theorem DU {c:Code}{e:Exit}{s bH:S}(h:∀ {Q:Exit->Act->World->Prop} {a w},Q e a w->c.wp P Q a w)(bO:bH=s):i6 P N m c e s bH:=by intro g al a w _ _ aj;exact h ⟨rfl,al,by rw[bO];exact aj⟩
theorem Vu (p2:P.follows .mixedOrders=true): ∀(c:Code) (tape:List cw) (s:S) (aR:Nat) (r:RM),my P N m c tape s aR=some r->(∀p∈r.eX,p)->s.j8 aR ->
 (r.s.j8 r.aR/\(∀l,r.e≠ .goto l))/\i6 P N m c r.e s r.s:=by
 intro c
 induction c with
 | skip =>
  intro tape s aR r h a5 b0;simp[my] at h;subst h;exact⟨⟨b0,by simp⟩,DU wp_skip rfl⟩
 | label l =>
  intro tape s aR r h a5 b0;simp[my] at h;subst h;exact⟨⟨b0,by simp⟩,DU wp_label rfl⟩
 | exit id =>
  intro tape s aR r h a5 b0;simp[my] at h;subst h;exact⟨⟨b0,by simp⟩,DU wp_exit rfl⟩
 | ret =>
  intro tape s aR r h a5 b0;simp[my] at h;subst h;exact⟨⟨b0,by simp⟩,DU wp_ret rfl⟩
 | seq x y QY aa1 =>
  intro tape s aR r h a5 b0;simp only[my] at h;split at h
  ·rename_i s1 hj t1 bS o
   split at h
   ·rename_i aB s2 jx t2 aY J;simp only[dy] at h;subst h;obtain⟨⟨f1,-⟩,v1⟩:=QY _ _ _ _ o (fun p ah=>a5 p (by simp[ah])) b0;obtain⟨f2,v2⟩:=aa1 _ _ _ _ J (fun p ah=>a5 p (by simp[ah])) f1;exact⟨f2,v1.seq v2⟩
   simp at h
  ·rename_i ad cx o;simp only[dy] at h;subst h;obtain⟨f1,v1⟩:=QY _ _ _ _ o a5 b0;refine⟨f1,v1.XM fun he=> ?_⟩;obtain⟨ao,s1,hj,t1,bS⟩:=ad;simp only at he;subst he;exact cx s1 hj t1 bS rfl
  simp at h
 | block id c ih =>
  intro tape s aR r h a5 b0;simp only[my] at h;split at h
  ·rename_i wi s1 hj t1 bS o;simp only[dy] at h;subst h;obtain⟨⟨f1,f2⟩,v1⟩:=ih _ _ _ _ o a5 b0;exact⟨⟨f1,by intro l;simp only;split<;>simp⟩,v1.Vt⟩
  rename_i cx;obtain⟨f1,v1⟩:=ih _ _ _ _ h a5 b0;refine⟨f1,v1.block fun i he=> ?_⟩;obtain⟨ao,s1,hj,t1,bS⟩:=r;simp only at he;subst he;exact cx i s1 hj t1 bS h
 | scope c ih =>
  intro tape s aR r h a5 b0;simp only[my] at h;obtain⟨f1,v1⟩:=ih _ _ _ _ h a5 b0;exact⟨f1,v1.scope f1.2⟩
 | region id ops draw =>
  intro tape s aR r h a5 b0;simp only[my] at h;split at h
  ·rename_i cr t1 s1 hj bS o
   split at h
   ·rename_i s2 aY J;simp only[dy] at h;subst h;obtain⟨f1,v1⟩:=xV _ _ _ _ _ _ _ o (fun p ah=>a5 p (by simp[ah])) b0;refine⟨⟨Ug J f1,by simp⟩,?_⟩;intro g al a w fS hm aj;obtain⟨kr,iD⟩:=v1 g al a w hm aj;subst fS;exact T0 p2 J (fun p ah=>a5 p (by simp[ah])) f1 iD id fun bG dr bx cf=>⟨rfl,bG,cf⟩
   simp at h
  simp at h
 | cond x c d aa2 aa3 =>
  intro tape s aR r h a5 b0;simp only[my] at h;split at h
  ·rename_i e env rows t1 s1 hj bS o;simp only[dy] at h;subst h;obtain⟨f1,v1⟩:=xV _ _ _ _ _ _ _ o (fun p ah=>a5 p (by simp[ah])) b0;have aZ:i6 P N m (.cond x c d) e.x s1 (eD env rows):=a5 _ (by simp);refine⟨⟨vj _ _,by intro l;cases e<;>simp[wI.x]⟩,fun g al a w fS hm aj=> ?_⟩;obtain⟨kr,iD⟩:=v1 g al a w hm aj;exact aZ g kr a w fS hm iD
  ·rename_i b t1 s1 hj bS o
   split at h;rotate_left
   ·simp at h
   rename_i v aZ;have aL : ∀(g:G) al a w,cq g s1 al a w->a.eval x = .bool v:=(by intro g al a w aj;have:=aj.eval x;rw[aZ] at this;exact this.t9);split at h
   ·split at h
    ·rename_i aB s2 jx t2 aY J;simp only[dy] at h;subst h;obtain⟨f1,v1⟩:=xV _ _ _ _ _ _ _ o (fun p ah=>a5 p (by simp[ah])) b0;obtain⟨f2,v2⟩:=aa2 _ _ _ _ J (fun p ah=>a5 p (by simp[ah])) f1;have Je:v=true:=a5 _ (by simp);refine⟨f2,fun g al a w fS hm aj=> ?_⟩;obtain⟨kr,iD⟩:=v1 g al a w hm aj;exact wp_cond_true (by rw[aL g kr a w iD,Je]) (v2 g kr a w fS hm iD)
    simp at h
   split at h
   ·rename_i aB s2 jx t2 aY J;simp only[dy] at h;subst h;obtain⟨f1,v1⟩:=xV _ _ _ _ _ _ _ o (fun p ah=>a5 p (by simp[ah])) b0;obtain⟨f2,v2⟩:=aa3 _ _ _ _ J (fun p ah=>a5 p (by simp[ah])) f1;have Je:v=false:=a5 _ (by simp);refine⟨f2,fun g al a w fS hm aj=> ?_⟩;obtain⟨kr,iD⟩:=v1 g al a w hm aj;exact wp_cond_false (by rw[aL g kr a w iD,Je]) (v2 g kr a w fS hm iD)
   simp at h
  simp at h
 | loop c ih =>
  intro tape s aR r h a5 b0;simp only[my] at h;split at h
  ·rename_i e env rows t1 s1 hj bS o;simp only[dy] at h;subst h;obtain⟨f1,v1⟩:=xV _ _ _ _ _ _ _ o (fun p ah=>a5 p (by simp[ah])) b0;have aZ:i6 P N m (.loop c) e.x s1 (eD env rows):=a5 _ (by simp);refine⟨⟨vj _ _,by intro l;cases e<;>simp[wI.x]⟩,fun g al a w fS hm aj=> ?_⟩;obtain⟨kr,iD⟩:=v1 g al a w hm aj;exact aZ g kr a w fS hm iD
  simp at h
 | _=>intro tape s aR r h;simp[my] at h
def rm (P:Program)(N m:Nat)(c:Code)(e:Exit)(s bH:S):Prop :=
 ∃n,∀(g:G) al a w,g.N=N->g.m=m->cq g s al a w->Code.rounds P c (fun er dr bx=>er=e/\ ∃bG,cq g bH bG dr bx) n a w
theorem rm.aa4 {c:Code}{e:Exit}{s bH:S}(h:rm P N m c e s bH):i6 P N m (.loop c) e s bH:=by obtain⟨n,h⟩:=h;intro g al a w fS hm aj;exact wp_loop_rounds n (h g al a w fS hm aj)
theorem rm.out {c:Code}{e:Exit}{s bH:S}(h:i6 P N m c e s bH)(he:e≠ .normal):rm P N m c e s bH:=by refine⟨1,fun g al a w fS hm aj=> ?_⟩;rw[rounds_succ];refine wp_mono (h g al a w fS hm aj) fun er dr bx a2=> ?_;obtain⟨rfl,hp⟩:=a2;cases er<;>first|exact absurd rfl he|exact⟨rfl,hp⟩
theorem rm.next {c:Code}{e:Exit}{s s1 bH:S}(h:i6 P N m c .normal s s1)(J:rm P N m c e s1 bH):rm P N m c e s bH:=by obtain⟨n,J⟩:=J;refine⟨n+1,fun g al a w fS hm aj=> ?_⟩;rw[rounds_succ];refine wp_mono (h g al a w fS hm aj) fun er dr bx a2=> ?_;obtain⟨rfl,bG,hp⟩:=a2;exact J g bG dr bx fS hm hp
inductive cE:List Prop->Prop
 | nil:cE []
 | cons {p:Prop} {l:List Prop} (h:p) (t:cE l):cE (p::l)
theorem cE.c {p:Prop}{l:List Prop}(h:p)(t:cE l):cE (p::l):= .cons h t
theorem cE.a1 {l m:List Prop}(h:cE l)(k:cE m):cE (l++m):=by
 induction h with
 | nil=>exact k
 | cons h _ ih=>exact .cons h ih
theorem cE.all {l:List Prop}(h:cE l): ∀p∈l,p:=by
 induction h with
 | nil=>intro p ah;simp at ah
 | cons h t ih =>
  intro q a2;rw[dO] at a2;rcases a2 with rfl|a2
  ·exact h
  exact ih q a2
theorem cE.of : ∀ {l:List Prop},(∀p∈l,p)->cE l
 | [],_=> .nil
 | _::_,h=> .cons (h _ (by simp)) (.of fun p ah=>h p (by simp[ah]))
def ET (P:Program)(N m:Nat)(c:Code)(tape:List cw)(s:S)(aR:Nat):Option (Exit×S×List Prop) :=
 match my P N m c tape s aR with
 | some ⟨e,s1,hj,t1,bS⟩=>match lP m t1 s1 hj with
  | some ([],s2,_,aY)=>some (e,s2,bS++aY)
  | _=>none
 | none=>none
theorem NQ (p2:P.follows .mixedOrders=true){c:Code}{tape:List cw}{s bH:S}{aR:Nat}{e:Exit}{af:List Prop}(h:ET P N m c tape s aR=some (e,bH,af))(a5:cE af)(b0:s.j8 aR):
 i6 P N m c e s bH:=by
 have a5:=a5.all;unfold ET at h;split at h
 ·rename_i ao s1 hj t1 bS o
  split at h
  ·rename_i s2 jx aY J;simp only[dy,dC] at h;obtain⟨rfl,rfl,rfl⟩:=h;obtain⟨⟨f1,-⟩,v1⟩:=Vu p2 c tape s aR _ o (fun p ah=>a5 p (by simp[ah])) b0;obtain⟨-,v2⟩:=xV _ _ _ _ _ _ _ J (fun p ah=>a5 p (by simp[ah])) f1;intro g al a w fS hm aj;refine wp_mono (v1 g al a w fS hm aj) fun er dr bx a2=> ?_;obtain⟨rfl,bG,hp⟩:=a2;exact⟨rfl,v2 g bG dr bx hm hp⟩
  simp at h
 simp at h
end
def sV (P:Program)(s:S):ResultVar->Option an
 | .tmp t=>some (s.E t)
 | .cell t ef=>match s.E t with
  | .ref r k i off=>match cX (s.aH r) k with
   | some I=>match I.es[i]? with
    | some c=>qD P ef c off
    | none=>none
   | none=>none
  | _=>none
def Ix (P:Program)(s:S):List ResultVar->Option an
 | []=>some (.cZ [])
 | [x]=>sV P s x
 | [x,y]=>match sV P s x,sV P s y with
  | some a,some b=>some (.cZ [a,b])
  | _,_=>none
 | [x,y,z]=>match sV P s x,sV P s y,sV P s z with
  | some a,some b,some c=>some (.cZ [a,b,c])
  | _,_,_=>none
 | _=>none
def HP (tmps:Array Value):ResultVar->Sem Value
 | .tmp t=>pure (tmps.getD t undef)
 | .cell a t=>do loadVar t (<- asAddr (tmps.getD a undef))
theorem U5 (fn:Func)(tmps:Array Value):results fn tmps=(do
 let vs <- fn.results.mapM (HP tmps)
 pure (if h:vs.size=1 then vs[0] else .tuple vs)):=rfl
def vv (args:List an)(T:List (List aM)):S:={E:=fun t=>(args[t]?).getD (.cZ []),aH:=fun r=>T[r]?}
def P0:Exit->Bool
 | .normal=>true
 | .ret=>true
 | _=>false
def BB (P:Program)(f:FuncId)(args:List an)(T:List (List aM))(tape:List cw)(aO:List Nat)(cn:List h6)(eE:kE):Option (an×List (List aM)×List Prop) :=
 match P.funcs[f]? with
 | none=>none
 | some fn=>match fn.body with
  | none=>none
  | some c=>if fn.name == "runtime.NumGoroutine" then none else
   match ET P fn.ntmps T.length c tape (vv args T) T.length with
   | none=>none
   | some (e,s,bS)=>if P0 e && decide aO.Nodup && A6 aO T.length then
    match Ix P s fn.results.toList with
    | none=>none
    | some r0=>match s8 s.aH (dj aO) (mL aO) aO cn,nv s.aH (dj aO) (mL aO) lR eE r0 with
     | some (i9,aY),some (r,gm)=>some (r,i9,bS++aY++gm)
     | _,_=>none
    else none
section
variable {P:Program}
theorem xW {g:G}{s:S}{al:fj}{a:Act}{w:World}(h:cq g s al a w){x:ResultVar}{r0:an}(aj:sV P s x=some r0):
 ∃v,(HP a.tmps x).run P w = .ok v w/\Rel w (s.ok g al w) s.aW (s.a0 al) r0 v:=by
 cases x with
 | tmp t =>
  simp only[sV,dy] at aj;subst aj;exact⟨_,rfl,h.env t⟩
 | cell t ef =>
  simp only[sV] at aj;have aa:=h.env t;split at aj;rotate_left
  ·simp at aj
  rename_i r k i off gA;rw[gA] at aa;split at aj;rotate_left
  ·simp at aj
  rename_i I ai;split at aj
  ·rename_i c aL
   have du:s.af r k=some I:=ai;have eC:=h.obj r k I du;rcases aa.vm (hG du) with h0|⟨b,m,ah,hval⟩
   ·rw[h0] at eC;simp only[iJ] at eC;rw[eC] at aL;simp at aL
   rw[ah] at eC;obtain⟨u,o,J⟩:=GQ (P:=P) eC.rd aL aj;refine⟨u,?_,J⟩;rw[dF] at o;simp only[HP,hval,asAddr];simpa [Instr.loadAt,Instr.sureAddr] using o
  simp at aj
theorem Vv {g:G}{s:S}{al:fj}{a:Act}{w:World}(h:cq g s al a w){fn:Func}{r0:an}(aj:Ix P s fn.results.toList=some r0):
 ∃v,(results fn a.tmps).run P w = .ok v w/\Rel w (s.ok g al w) s.aW (s.a0 al) r0 v:=by
 have EB : ∀l,fn.results.toList=l->fn.results=l.toArray:=fun l aF=>by rw[<- aF]
 unfold Ix at aj;rw[U5];split at aj
 ·rename_i aF;simp only[dy] at aj;subst aj;rw[EB _ aF];exact⟨.tuple #[],by simp,.cZ [] rfl (by simp)⟩
 ·rename_i x aF;rw[EB _ aF];obtain⟨v,o,J⟩:=xW h aj;exact⟨v,by simp[o,Sem.run_bind,Result.andThen],J⟩
 ·rename_i x y aF
  rw[EB _ aF];split at aj
  ·rename_i p q ah a2
   simp only[dy] at aj;subst aj;obtain⟨v1,o,J⟩:=xW h ah;obtain⟨v2,ab,aA⟩:=xW h a2;refine⟨.tuple #[v1,v2],by simp[o,ab,Sem.run_bind,Result.andThen],.cZ [v1,v2] rfl ?_⟩;intro j x v aa aZ
   match j,aa,aZ with
   | 0,aa,aZ=>obtain rfl:=dI aa;obtain rfl:=dI aZ;exact J
   | 1,aa,aZ=>obtain rfl:=dI aa;obtain rfl:=dI aZ;exact aA
   | j+2,aa,aZ=>simp at aa
  simp at aj
 ·rename_i x y z aF
  rw[EB _ aF];split at aj
  ·rename_i p q t ah a2 ch
   simp only[dy] at aj;subst aj;obtain⟨v1,o,J⟩:=xW h ah;obtain⟨v2,ab,aA⟩:=xW h a2;obtain⟨v3,aJ,bC⟩:=xW h ch;refine⟨.tuple #[v1,v2,v3],by simp[o,ab,aJ,Sem.run_bind,Result.andThen],.cZ [v1,v2,v3] rfl ?_⟩;intro j x v aa aZ
   match j,aa,aZ with
   | 0,aa,aZ=>obtain rfl:=dI aa;obtain rfl:=dI aZ;exact J
   | 1,aa,aZ=>obtain rfl:=dI aa;obtain rfl:=dI aZ;exact aA
   | 2,aa,aZ=>obtain rfl:=dI aa;obtain rfl:=dI aZ;exact bC
   | j+3,aa,aZ=>simp at aa
  simp at aj
 simp at aj
theorem finish {g:G}{s:S}{al:fj}{a:Act}{w:World}(h:cq g s al a w){aO:List Nat}{cn:List h6}{eE:kE}{r0 r:an}{i9:List (List aM)}{aY gm:List Prop}
 (hnd:aO.Nodup) (rC:A6 aO g.m=true) (o:s8 s.aH (dj aO) (mL aO) aO cn=some (i9,aY)) (J:nv s.aH (dj aO) (mL aO) lR eE r0=some (r,gm)) (p7 : ∀p∈aY,p) (I7 : ∀p∈gm,p)
 {v:Value} (aZ:Rel w (s.ok g al w) s.aW (s.a0 al) r0 v) :
 ∃bG,h3 g (eL i9) bG w/\Rel w ((eL i9).ok g bG w) (eL i9).aW ((eL i9).a0 bG) r v:=by
 obtain⟨ao,aB⟩:=Hi h.toh3 (Em hnd) aO cn i9 aY o p7;have wj:hD s (mL aO) lR ly r0 r:=Az h.toh3 (Em hnd) (us _) J I7 trivial aZ;have cv:p8 s (mL aO) lR ly (eL i9).aH:=Pl hnd ao aB;have Bt:=Oa h.toh3 rC;have hc : ∀b,(eL i9).lk (jk al (mL aO)) b->s.lk al b:=fun b aF=>by obtain⟨q,k,I,m,o,J,ab,-⟩:=cv.live (bH:=eL i9) b aF;exact⟨q,k,I,m,o,J,ab⟩
 have A2 : ∀j k,g.oU j k->(eL i9).aW j k/\((eL i9).a0 (jk al (mL aO)) j k=g.rs j k\/(eL i9).a0 (jk al (mL aO)) j k=none):=by
  intro j k av;obtain⟨ao,aB⟩:=h.stay j k av;refine⟨cv.aW j k j k (Bt j k av) ao,?_⟩;rcases cv.EN (bH:=eL i9) (al:=al) (Bt j k av) with e|e
  ·rw[e];exact aB
  exact .inr e
 obtain⟨f1,f2⟩:=h.toh3.J4 (bH:=eL i9) cv h.gZ A2 h.low h.mlt h.m9 (fun r k I b m _ ai ah=>h.own r k I b m ai ah)
  (fun b aN=>⟨aN.1,aN.2.1,fun aF=>aN.2.2 (hc b aF)⟩)
  (fun q k I b m ai _ aj ah=>by
    have a5:=h.obj q k I ai;rw[ah] at a5;obtain⟨c,ef,ao,-⟩:=a5;refine⟨(afj.1 ao).1,?_,fun aF=> ?_⟩
    ·rcases h.own q k I b m ai ah with e|e
     ·exact .inr (.inl e)
     exact .inr (.inr e)
    obtain⟨ep,dn,bX,aU,f1,f2,f3,⟨uF,tE,f4⟩⟩:=cv.live (bH:=eL i9) b aF;obtain⟨rfl,rfl⟩:=h.inj q k I ep dn bX b m aU ai f1 ah f3;exact aj uF tE f4)
 exact⟨_,f1,f2 wj aZ⟩
theorem Od (p2:P.follows .mixedOrders=true){f:FuncId}{args:List an}{T:List (List aM)}{tape:List cw}{aO:List Nat}{cn:List h6}{eE:kE}{r:an}{i9:List (List aM)}{af:List Prop}
 (h:BB P f args T tape aO cn eE=some (r,i9,af)) (a5:cE af):Con P f args T r i9:=by
 have a5:=a5.all;unfold BB at h;split at h
 ·simp at h
 rename_i fn QZ;split at h
 ·simp at h
 rename_i c aL;split at h
 ·simp at h
 rename_i Zs;split at h
 ·simp at h
 rename_i e s bS mE;split at h;rotate_left
 ·simp at h
 rename_i P1;simp only[afd,decide_eq_true_eq] at P1;obtain⟨⟨yQ,hnd⟩,rC⟩:=P1;split at h
 ·simp at h
 rename_i r0 kS;split at h;rotate_left
 ·simp at h
 rename_i mT aY bu gm o J;simp only[dy,dC] at h;obtain⟨rfl,rfl,rfl⟩:=h;refine⟨⟨fn,QZ,by simpa using Zs,by simp[aL]⟩,?_⟩;intro g al w vs hw hm v9 kP dg ev hargs;have A7:(vv args T).j8 T.length:=by intro q a2;simp[vv,a2]
 have aeg:=dg
 let fK:G:={g with N:=fn.ntmps}
 have eC:cq fK (vv args T) al {tmps:=vs++Array.replicate (fn.ntmps-vs.size) undef,defers:=[]} w:=by
  have EU:(vv args T).aH=(eL T).aH:=rfl;have pu:h3 g (vv args T) al w:=dg.congr EU;have sr:h3 fK (vv args T) al w:=⟨pu.obj,pu.inj,pu.own,⟨pu.gZ.os,pu.gZ.tape,pu.gZ.output,pu.gZ.size,pu.gZ.block⟩,pu.mlt,pu.m9,pu.stay,pu.low⟩;refine {toh3:=sr,env:=fun t=> ?_,defers:=rfl,jj:=by simp[fK];omega}
  have ao:(vs++Array.replicate (fn.ntmps-vs.size) undef).getD t undef=(vs[t]?).getD undef:=by
   rw[afe,Array.getElem?_append];split
   ·rfl
   rename_i dq;rw[Array.getElem?_replicate];have:vs[t]? = none:=(by simp;omega);rw[this];split<;>rfl
  show Rel _ _ _ _ ((args[t]?).getD (.cZ [])) _;rw[ao]
  cases aa:args[t]? with
  | none =>
   have:vs[t]? = none:=(by rw[List.getElem?_eq_none_iff] at aa;simp;omega);rw[this];exact NH
  | some x =>
   have dq:=fN aa;have aZ:vs[t]? = some vs[t]:=dS (by omega);rw[aZ];have:=hargs t x _ aa aZ;rw[<- Ay EU,<- yg EU,<- yh EU] at this;exact this
 have aZ:=NQ p2 mE (by exact cE.of fun p ah=>a5 p (by simp[ah])) A7 fK al _ w rfl hm eC;refine calls_of_wp QZ aL (wp_mono aZ fun er dr bx a2=> ?_);obtain⟨rfl,bG,hp⟩:=a2;obtain⟨v,v1,v2⟩:=Vv (P:=P) hp kS;obtain⟨kV,f1,f2⟩:=finish hp hnd (by rw[show fK.m=T.length from hm];exact rC) o J (fun p ah=>a5 p (by simp[ah])) (fun p ah=>a5 p (by simp[ah])) v2;have Qv:dr.defers=[]/\ ∃v,(results fn dr.tmps).run P bx = .ok v bx/\ ∃Q0 bG,Ending.returned v=Ending.returned Q0/\h3 g (eL mT) bG bx/\Rel bx ((eL mT).ok g bG bx) (eL mT).aW ((eL mT).a0 bG) bu Q0:=by refine⟨hp.defers,v,v1,v,kV,rfl,?_,f2⟩;exact⟨f1.obj,f1.inj,f1.own,⟨f1.gZ.os,f1.gZ.tape,f1.gZ.output,f1.gZ.size,f1.gZ.block⟩,f1.mlt,f1.m9,f1.stay,f1.low⟩
 cases er<;>simp only[P0,afk] at yQ
 ·exact Qv
 exact Qv
theorem V3 (p2:P.follows .mixedOrders=true){f:FuncId}{args:List an}{tape:List cw}{eE:kE}{r:an}{af:List Prop}
 (h:BB P f args [] tape [] [] eE=some (r,[],af)) (a5:cE af):Con P f args [] r []:=Od p2 h a5
end
def bM {α:Type}(I:Option α)(Q:α->Prop):Prop:= ∀r,I=some r->Q r
section
variable {α β:Type} {Q:α->Prop}
theorem bM.ite {b:Bool}{x y:Option α}(o:b=true->bM x Q)(J:b=false->bM y Q):bM (if b=true then x else y) Q:=by
 cases b
 ·exact J rfl
 exact o rfl
theorem bM.au {I:Option β}{f:β->Option α}(h:∀x,I=some x->bM (f x) Q):bM (I >>= f) Q:=by
 cases I with
 | none=>intro r aj;simp at aj
 | some x=>exact h x rfl
theorem bM.bd {p:Prop}[Decidable p] {x:Option α} (h:p->bM x Q):bM (if p then x else none) Q:=by
 by_cases ah:p
 ·rw[dw ah];exact h ah
 rw[dA ah];intro r aj;simp at aj
theorem bM.ret {r:α}(h:Q r):bM (some r) Q:=by intro x aa;obtain rfl:=dI aa;exact h
end
theorem bM.Q1 {α:Type}{Q:α->Prop}:bM (none:Option α) Q:=by intro r aj;simp at aj
def nodeAt:Code->List Nat->Code
 | c,[]=>c
 | .seq x _,0::l=>nodeAt x l
 | .seq _ y,1::l=>nodeAt y l
 | .cond _ x _,0::l=>nodeAt x l
 | .cond _ _ y,1::l=>nodeAt y l
 | .block _ x,0::l=>nodeAt x l
 | .loop x,0::l=>nodeAt x l
 | .scope x,0::l=>nodeAt x l
 | _,_=> .skip
def HQ (P:Program)(f:FuncId):Code :=
 match P.funcs[f]? with
 | some fn=>match fn.body with
  | some c=>c
  | none=> .skip
 | none=> .skip
theorem Hz {α β:Type}{f:α->β}{l:List α}{i:Nat}{x:α}(h:l[i]? = some x):(l.map f)[i]? = some (f x):=by rw[dJ,h];rfl
theorem ON {α β:Type}{f:α->β}{l:List α}{j:Int}(h:j<l.length):j<((l.map f).length:Nat):=by rw[aft];exact h
theorem Pn {α β:Type}{f:α->β}{l:List α}{j:Nat}(h:j<l.length):j<(l.map f).length:=by rw[aft];exact h
def iter {α β:Type}(f:α->Option (α⊕β))(a:α):Option β:=do
 match <- f a with
 | .inl dr=>iter f dr
 | .inr r=>some r
partial_fixpoint
abbrev acv:eG×Bool:=(.none,true)
abbrev acw:eG×Bool:=(.none,false)
abbrev ii:kE:= .bB (.cj .id)
abbrev U (x:Int):Int:=IntKind.wrap .i64 x
section
variable {P:Program} {N m:Nat} {α β:Type}
theorem XN {c:Code}{f:α->Option (α⊕β)}{head:α->S}{hq:β->Exit}{out:β->S}(hex:∀r,hq r≠ .normal)
 (h : ∀a,bM (f a) (Sum.elim (fun dr=>i6 P N m c .normal (head a) (head dr)) (fun r=>i6 P N m c (hq r) (head a) (out r)))) : ∀a r,iter f a=some r->rm P N m c (hq r) (head a) (out r):=by
 apply iter.partial_correctness f (fun a r=>rm P N m c (hq r) (head a) (out r));intro it ih a r aj
 cases b0:f a with
 | none=>rw[b0] at aj;simp at aj
 | some x =>
  have aa:=h a x b0;rw[b0] at aj
  cases x with
  | inl dr =>
   have hp:it dr=some r:=aj;exact rm.next aa (ih dr r hp)
  | inr ep =>
   have hp:some ep=some r:=aj;obtain rfl:=dI hp;exact rm.out aa (hex _)
theorem dk {a:Bool}(h:a=true):(!a)=false:=by rw[h];rfl
theorem dv {a:Bool}(h:a=false):(!a)=true:=by rw[h];rfl
theorem DV {bj:Type}{raw:List (List an)}{f:bj->List an}{l:List bj}(e:raw=l.map f){i:Nat}{x:bj}(h:l[i]? = some x):raw[i]? = some (f x):=by rw[e];exact Hz h
theorem adD {bj:Type}{raw:List (List an)}{f:bj->List an}{l:List bj}(e:raw=l.map f){j:Int}(h:j<l.length):j<(raw.length:Nat):=by rw[e];exact ON h
theorem HR {bj:Type}{raw:List (List an)}{f:bj->List an}{l:List bj}(e:raw=l.map f){j:Nat}(h:j<l.length):j<raw.length:=by rw[e];exact Pn h
theorem rh {bj:Type}{raw:List (List an)}{f:bj->List an}{l:List bj}(e:raw=l.map f)(i:Nat)(x:bj):raw.set i (f x)=(l.set i x).map f:=by rw[e,List.map_set]
theorem adE {bj:Type}{raw:List (List an)}{f:bj->List an}{l:List bj}(e:raw=l.map f)(x:List bj):raw++x.map f=(l++x).map f:=by rw[e,List.map_append]
theorem kJ {bj:Type}(f:bj->List an)(n:Nat)(x:bj):List.replicate n (f x)=(List.replicate n x).map f:=by rw[List.map_replicate]
theorem mv {bj:Type}{raw:List (List an)}{f:bj->List an}{l:List bj}(e:raw=l.map f)(i n:Nat):(raw.drop i).take n=((l.drop i).take n).map f:=by rw[e,List.map_take,List.map_drop]
theorem XO {bj:Type}{raw:List (List an)}{f:bj->List an}{l:List bj}(e:raw=l.map f):raw.length=l.length:=by rw[e,aft]
theorem DN {bj:Type}{raw:List (List an)}{f:bj->List an}{l:List bj}(e:raw=l.map f)(i n:Nat):((l.drop i).take n).map f=(raw.drop i).take n:=(mv e i n).symm
theorem qu {bj:Type}{raw:List (List an)}{f:bj->List an}{l:List bj}(e:raw=l.map f){n:Nat}(h:n<=l.length):n<=raw.length:=by rw[XO e];exact h
theorem el {bj:Type}{f:bj->List an}(b0:∀x,∀v∈f x,Pure v)(l:List bj):ht (l.map f):=by intro e he v aZ;rw[List.mem_map] at he;obtain⟨x,-,rfl⟩:=he;exact b0 x v aZ
theorem XP {bj:Type}{raw:List (List an)}{f:bj->List an}{l:List bj}{sz:Nat}{cg:fZ}(e:raw=l.map f):[aM.mk sz raw cg]=[aM.mk sz (l.map f) cg]:=by rw[e]
theorem WT {bj:Type}{f:bj->List an}(b0:∀x,∀v∈f x,Pure v){sz:Nat}{cg:fZ}(l:List bj):yq [aM.mk sz (l.map f) cg]:=by intro I ai;rw[List.mem_singleton] at ai;subst ai;exact el b0 l
theorem k0 {c:List an}(h:∀v∈c,Pure v):ht [c]:=by intro e he;rw[List.mem_singleton] at he;subst he;exact h
theorem adv {bj:Type}{raw:List (List an)}{f:bj->List an}{l:List bj}(e:raw=l.map f):l.map f=(raw.drop 0).take l.length:=by rw[e,List.drop_zero,dT (by simp)]
theorem adF {bj:Type}{raw:List (List an)}{f:bj->List an}{l:List bj}(e:raw=l.map f):0+l.length<=raw.length:=by rw[e];simp
theorem AY : ∀x∈([]:List an),ck x:=by simp
theorem n3 {x:an}{l:List an}(h:ck x)(t:∀y∈l,ck y): ∀y∈x::l,ck y:=by
 intro y aP;rw[dO] at aP;rcases aP with rfl|aP
 ·exact h
 exact t y aP
theorem HS {l:List an}(h:∀y∈l,ck y):ck (.cZ l):= .cZ h
def len_ {bj:Type}(f:bj->List an)(l:List bj):Int:=((l.map f).length:Nat)
theorem hf {bj:Type}(f:bj->List an)(l:List bj):len_ f l=(l.length:Nat):=by simp[len_]
def R (x:Int):List an:=[.n .i64 x]
def eU8 (x:Int):List an:=[.n .u8 x]
def e6 (x:Bool):List an:=[.b x]
def wJ (x:ByteArray):List an:=[.s x]
theorem az : ∀x,∀v∈R x,Pure v:=by intro x v aZ;simp[R] at aZ;subst aZ;exact .n _ _
theorem Oe : ∀x,∀v∈eU8 x,Pure v:=by intro x v aZ;simp[eU8] at aZ;subst aZ;exact .n _ _
theorem d8 : ∀x,∀v∈e6 x,Pure v:=by intro x v aZ;simp[e6] at aZ;subst aZ;exact .b _
theorem OO : ∀x,∀v∈wJ x,Pure v:=by intro x v aZ;simp[wJ] at aZ;subst aZ;exact .s _
def fh {bj:Type}(sz:Nat)(f:bj->List an)(l:List bj):List an:=[.isl sz (l.map f)]
theorem pP {bj:Type}{sz:Nat}{f:bj->List an}(b0:∀x,∀v∈f x,Pure v): ∀l,∀v∈fh sz f l,Pure v:=by intro l v aZ;simp[fh] at aZ;subst aZ;exact .isl (el b0 l)
def d7 {bj:Type}(sz:Nat)(f:bj->List an)(x:Option bj):an:= .eW sz (x.map f)
def cd {bj:Type}(sz:Nat)(f:bj->List an)(x:Option bj):List an:=[d7 sz f x]
theorem XQ {bj:Type}{sz:Nat}{f:bj->List an}(b0:∀x,∀v∈f x,Pure v)(x:Option bj):Pure (d7 sz f x):=by
 cases x with
 | none=>exact .pk _
 | some x=>exact .oN (b0 x)
theorem kw {bj:Type}{sz:Nat}{f:bj->List an}(b0:∀x,∀v∈f x,Pure v): ∀x,∀v∈cd sz f x,Pure v:=by intro x v aZ;simp[cd] at aZ;subst aZ;exact XQ b0 x
theorem XR {bj:Type}{sz:Nat}{f:bj->List an}{x:Option bj}(h:x=none):d7 sz f x = .eW sz none:=by rw[h];rfl
theorem XS {bj:Type}{sz:Nat}{f:bj->List an}{x:Option bj}{y:bj}(h:x=some y):d7 sz f x = .eW sz (some (f y)):=by rw[h];rfl
theorem bM.mf {α bj:Type}{Q:α->Prop}{I:Option bj}{x:Option α}{f:bj->Option α}(o:I=none->bM x Q)(J:∀y,I=some y->bM (f y) Q):bM (I.elim x f) Q:=by
 cases I with
 | none=>exact o rfl
 | some y=>exact J y rfl
theorem bM.sum {α β bj:Type}{Q:bj->Prop}{s:α⊕β}{f:α->Option bj}{g:β->Option bj}(o:∀a,s = .inl a->bM (f a) Q)(J:∀b,s = .inr b->bM (g b) Q):
 bM (match s with | .inl a=>f a | .inr b=>g b) Q:=by
 cases s with
 | inl a=>exact o a rfl
 | inr b=>exact J b rfl
theorem DW {bj:Type}{n:Nat}{l:List bj}(h:n=l.length)(i:Nat)(x:bj):n=(l.set i x).length:=by rw[List.length_set];exact h
theorem k1 {bj:Type}(n:Nat)(x:bj):n=(List.replicate n x).length:=by rw[List.length_replicate]
theorem AZ {bj:Type}{raw:List (List an)}{f:bj->List an}{l:List bj}(e:raw=l.map f){n:Nat}(h:n=l.length):(raw.drop 0).take n=l.map f:=by rw[e,h,List.drop_zero,dT (by simp)]
theorem pd {bj:Type}{rx j1:List (List an)}{f:bj->List an}{xs bi:List bj}(hq:rx=xs.map f){n:Nat}(h:n=xs.length)(iF:j1=bi.map f):rx.take n++j1=(xs++bi).map f:=by rw[hq,iF,h,dT (by simp),List.map_append]
theorem Hj {bj:Type}{rx j1:List (List an)}{f:bj->List an}{xs bi:List bj}(hq:rx=xs.map f)(n:Nat)(iF:j1=bi.map f):rx.take n++j1=(xs.take n++bi).map f:=by rw[hq,iF,List.map_append,List.map_take]
theorem nY {bj:Type}{raw:List (List an)}{f:bj->List an}{l:List bj}(e:raw=l.map f){n:Nat}(h:n=l.length):0+n<=raw.length:=by rw[e,h];simp
theorem r8 {bj:Type}{raw:List (List an)}{f:bj->List an}{l:List bj}(e:raw=l.map f){n:Nat}(h:n=l.length):n<=raw.length:=by rw[e,h];simp
theorem YC {bj:Type}{raw:List (List an)}{f:bj->List an}{l:List bj}(e:raw=l.map f):l.length=raw.length:=by rw[e];simp
theorem sS {bj:Type}{j1:List (List an)}{f:bj->List an}{xs bi:List bj}{n:Nat}(h:n=xs.length)(iF:j1=bi.map f):(xs++bi).length=n+j1.length:=by rw[iF,h];simp
theorem Hk {bj:Type}{j1:List (List an)}{f:bj->List an}{xs bi:List bj}{n:Nat}(h:n<=xs.length)(iF:j1=bi.map f):(xs.take n++bi).length=n+j1.length:=by rw[iF];simp;omega
theorem l8 {bj:Type}{raw:List (List an)}{f:bj->List an}{l:List bj}(e:raw=l.map f){n:Nat}(h:n=l.length):l.map f=(raw.drop 0).take n:=(AZ e h).symm
theorem V4 {bj:Type}{f:bj->List an}(b0:∀x,∀v∈f x,Pure v){sz:Nat}(l:List bj):tT [aM.mk sz (l.map f) .live]:=by intro I ai;rw[List.mem_singleton] at ai;subst ai;exact⟨el b0 l,rfl⟩
theorem ac0:tT []:=by intro I ai;simp at ai
theorem r5 {bj:Type}{raw:List (List an)}{f:bj->List an}{l:List bj}(e:raw=l.map f)(i:Nat){c:List an}(x:bj)(aL:c=f x):raw.set i c=(l.set i x).map f:=by rw[e,aL,List.map_set]
theorem Con.jC {P:Program}{f:FuncId}{sz:Nat}{T:List (List aM)}{r:an}{i9:List (List aM)}(o:Con P f [.fq] T r i9)(J:Con P f [.ic] T r i9):Con P f [.isl sz []] T r i9:=by
 refine⟨o.1,?_⟩;intro g al w vs hw hm v9 kP dg ev hargs;have h0:0<vs.size:=by rw[ev];simp
 have aZ:=hargs 0 (.isl sz []) vs[0] rfl (dS h0)
 have key : ∀y:an,Rel w ((eL T).ok g al w) (eL T).aW ((eL T).a0 al) y vs[0]-> ∀(j:Nat) x v,[y][j]? = some x->vs[j]? = some v->Rel w ((eL T).ok g al w) (eL T).aW ((eL T).a0 al) x v:=by
  intro y aP j x v aa aZ
  match j,aa,aZ with
  | 0,aa,aZ =>
   obtain rfl:=dI aa;rw[dS h0] at aZ;obtain rfl:=dI aZ;exact aP
  | j+1,aa,aZ=>simp at aa
 rcases aZ.sR with ⟨-,a,c,he,bA⟩|⟨dZ,off,c,-,he,-⟩
 ·cases a with
  | none =>
   have:=bA rfl;subst this;exact o.2 g al w vs hw hm v9 kP dg ev (key .fq (by rw[he];exact .fq))
  | some a=>exact J.2 g al w vs hw hm v9 kP dg ev (key .ic (by rw[he];exact .ic a c))
 exact J.2 g al w vs hw hm v9 kP dg ev (key .ic (by rw[he];exact .ic _ c))
end
open Go Go.ChangeShapes Go.WideShapes Go.RowKit
def nZ (w:World)(c:List an)(cs:List Value):Prop :=
 cs.length=c.length/\ ∀(j:Nat) x v,c[j]? = some x->cs[j]? = some v->jL v=true/\Rel w (fun b=>b<w.heap.size) (fun _ _=>False) (fun _ _=>none) x v
theorem nZ.nil (w:World):nZ w [] []:=⟨rfl,fun j x v aa=>by simp at aa⟩
theorem nZ.one {w:World}{x:an}{v:Value}(aL:jL v=true)(h:Rel w (fun b=>b<w.heap.size) (fun _ _=>False) (fun _ _=>none) x v):nZ w [x] [v]:=by
 refine⟨rfl,fun j y u aP hu=> ?_⟩
 match j,aP,hu with
 | 0,aP,hu=>obtain rfl:=dI aP;obtain rfl:=dI hu;exact⟨aL,h⟩
 | j+1,aP,hu=>simp at aP
structure rn (P:Program) (w:World) (t:TypeId) {α:Type} (f:α->List an) (eA:α->Prop):Prop where
 pure : ∀a,∀v∈f a,Pure v
 size : ∀a,(f a).length=P.cellsOf t
 opens : ∀ {H:Type} {enc:TypeId×Value->H} {base:Nat} {spare:Nat->Bool} {held:Bool} {p1:Nat} {cs:List Value} {x:DataW H×List MemPlace},
  DataW.trod enc P w base spare held p1 t cs=some x-> ∃a,eA a/\nZ w (f a) cs
section
variable {P:Program} {w:World} {t:TypeId}
def oP (x:Int):Prop:=(Lit.int .i64 x).wf=true
theorem adi (ch:P.underlying t=some (.int .i64))(aL:P.cellsOf t=1):rn P w t R oP where
 pure:=az
 size:=fun a=>aL.symm
 opens:=fun h=>by obtain⟨n,rfl,-,hw⟩:=DataW.trod_int ch h;exact⟨n,hw,.one rfl (.n _ _)⟩
theorem adb (ch:P.underlying t=some .bool)(aL:P.cellsOf t=1):rn P w t e6 (fun _=>True) where
 pure:=d8
 size:=fun a=>aL.symm
 opens:=fun h=>by obtain⟨n,rfl,-⟩:=DataW.trod_bool ch h;exact⟨n,trivial,.one rfl (.b _)⟩
theorem ac2 (ch:P.underlying t=some .string)(aL:P.cellsOf t=1):rn P w t wJ (fun s=>s.size<=maxLen) where
 pure:=OO
 size:=fun a=>aL.symm
 opens:=fun h=>by obtain⟨n,rfl,-,hw⟩:=DataW.trod_string ch h;exact⟨n,hw,.one rfl (.s _)⟩
theorem OP {α:Type}{Q:Nat->α->Prop}: ∀(n:Nat),(∀i,i<n-> ∃a,Q i a)-> ∃l:List α,l.length=n/\ ∀(i:Nat) a,l[i]? = some a->Q i a
 | 0,_=>⟨[],rfl,fun i a h=>by simp at h⟩
 | n+1,h=>by
  obtain⟨l,o,J⟩:=OP n fun i ae=>h i (by omega);obtain⟨a,bA⟩:=h n (by omega);refine⟨l++[a],by simp[o],fun i x aa=> ?_⟩;rw[List.getElem?_append] at aa;split at aa
  ·exact J i x aa
  have:i=l.length:=(by have:=fN aa;simp at this;omega);subst this;simp at aa;subst aa;rw[o];exact bA
theorem U6 {e:TypeId}{α:Type}{f:α->List an}{eA:α->Prop}{sz:Nat}(ch:P.underlying t=some (.slice e))(aL:P.cellsOf t=1)(ev:P.cellsOf e=sz)(iS:0<sz)(he:rn P w e f eA):
 rn P w t (fh sz f) (fun l=>l.length<=maxLen/\ ∀x∈l,eA x) where
 pure:=pP he.pure
 size:=fun a=>aL.symm
 opens:=fun h=>by
  rcases DataW.trod_slice ch h with ⟨rfl,-⟩|⟨a,len,cap,elems,rest,n,_,rfl,rfl,aN,aF,hm,hlen,me,QO,BI⟩
  ·exact⟨[],⟨by simp,by simp⟩,.one rfl (.jC _ _ _ (fun _=>rfl))⟩
  subst ev;have each : ∀i,i<len-> ∃x,eA x/\ ∀j,j<P.cellsOf e-> ∃y v,(f x)[j]? = some y/\w.cell? ((a.add (i*P.cellsOf e)).add j)=some v/\jL v=true/\Rel w (fun b=>b<w.heap.size) (fun _ _=>False) (fun _ _=>none) y v:=(by intro i ae;have o:=me i ae;rw[dx (by omega),Option.bind_eq_some_iff] at o;obtain⟨kR,J,ab⟩:=o;obtain⟨x,aA,aJ,bC⟩:=he.opens ab;refine⟨x,aA,fun j av=> ?_⟩;obtain⟨-,bB,cF⟩:=World.cells?_some J;have aP:(f x)[j]? = some (f x)[j]:=dx (by rw[he.size];exact av);have aZ:kR[j]? = some kR[j]:=dx (by omega);obtain⟨rL,pB⟩:=bC j _ _ aP aZ;exact⟨_,_,aP,by rw[cF j av,aZ],rL,pB⟩);obtain⟨l,mS,pz⟩:=OP len each;refine⟨l,⟨by omega,fun x aa=> ?_⟩,.one rfl ?_⟩
  ·obtain⟨i,ae⟩:=afr aa;exact(pz i x ae).1
  rcases Nat.eq_zero_or_pos len with h0|h0
  ·subst h0;have:l=[]:=dK.1 mS;subst this;exact .jC _ _ _ (by simp)
  obtain⟨dZ,off,spot⟩:=a
  have Zt:spot=none/\dZ<w.heap.size:=by
   obtain⟨x,-,J⟩:=each 0 h0;obtain⟨y,v,-,ab,-⟩:=J 0 iS;simp only[Nat.zero_mul,Addr.add,if_true] at ab;unfold World.cell? at ab
   cases fH:w.heap[dZ]? with
   | none=>simp[fH] at ab
   | some I =>
    have dq:=(afj.1 fH).1;refine⟨?_,dq⟩;simp only[fH] at ab;cases I<;>simp at ab
    cases spot with
    | none=>rfl
    | some _=>simp at ab
  obtain⟨rfl,ta⟩:=Zt;have ie:oo w (fun b=>b<w.heap.size) (fun _ _=>False) (fun _ _=>none) dZ off (P.cellsOf e) (l.map f):=(by have hle : ∀z∈l.map f,z.length=P.cellsOf e:=(by intro z b5;rw[List.mem_map] at b5;obtain⟨x,-,rfl⟩:=b5;exact he.size x);refine⟨hle,fun j x aa=> ?_⟩;have av:j<len*P.cellsOf e:=(by have:=fN aa;rw[rX _ hle,aft,mS] at this;exact this);have ae:j / P.cellsOf e<len:=Nat.div_lt_of_lt_mul (by rw[Nat.mul_comm];exact av);have aj:j % P.cellsOf e<P.cellsOf e:=Nat.mod_lt _ iS;have qP:j=j / P.cellsOf e*P.cellsOf e+j % P.cellsOf e:=(by rw[Nat.mul_comm];exact(Nat.div_add_mod j _).symm);have Q2:l[j / P.cellsOf e]? = some (l[j / P.cellsOf e]'(by omega)):=dx _;have aa5:(l.map f)[j / P.cellsOf e]? = some (f (l[j / P.cellsOf e]'(by omega))):=Hz Q2;obtain⟨y,v,ao,aB,bT,di⟩:=(pz _ _ Q2).2 _ aj;have jg:=Am hle aa5 aj;rw[<- qP,aa,ao] at jg;obtain rfl:=dI jg;refine⟨v,?_,bT,di⟩;rw[rc,rc] at aB;rw[qP];rw[Nat.add_assoc] at aB;exact aB);have:=ie.isl (c:=cap) ⟨ta,el he.pure l⟩ (by rw[aft];omega);rw[aft,mS] at this;exact this
theorem nZ.a1 {bB cF:List an}{cs:List Value}{I n:Nat}(o:nZ w bB ((cs.drop I).take n))(J:nZ w cF (cs.drop (I+n)))(aV:bB.length=n):nZ w (bB++cF) (cs.drop I):=by
 obtain⟨ao,aB⟩:=o;obtain⟨f1,f2⟩:=J;have YD:cs.drop I=(cs.drop I).take n++cs.drop (I+n):=by rw[<- List.drop_drop,List.take_append_drop]
 rw[YD];refine⟨by rw[dH,dH,ao,f1],fun j x v aa aZ=> ?_⟩;rw[List.getElem?_append] at aa aZ;rw[ao] at aZ;split at aa
 ·rename_i av;rw[dw av] at aZ;exact aB j x v aa aZ
 rename_i av;rw[dA av] at aZ;exact f2 _ x v aa aZ
theorem ac3 {jG:Array Field}(ch:P.underlying t=some (.struct jG)){H:Type}{enc:TypeId×Value->H}{base:Nat}{spare:Nat->Bool}{held:Bool}{p1:Nat}{cs:List Value}{x:DataW H×List MemPlace}
 (h:DataW.trod enc P w base spare held p1 t cs=some x) :
 cs.length=P.cellsOf t/\ ∀(i:Nat) (fd:Field),jG[i]? = some fd-> ∀ {α:Type} {f:α->List an} {eA:α->Prop},rn P w fd.type f eA-> ∃a,eA a/\nZ w (f a) ((cs.drop fd.offset).take (P.cellsOf fd.type)):=by
 obtain⟨xs,n,-,-,o,J,ab⟩:=DataW.trod_struct ch h;refine⟨o,fun i fd uq α f eA ai=> ?_⟩;have ae:i<xs.length:=by rw[J];exact(afj.1 uq).1
 have aA:=ab i fd uq;rw[dx ae] at aA;exact ai.opens aA
theorem adw {jG:Array Field}{cs:List Value}
 (h : ∀(i:Nat) (fd:Field),jG[i]? = some fd-> ∀ {α:Type} {f:α->List an} {eA:α->Prop},rn P w fd.type f eA-> ∃a,eA a/\nZ w (f a) ((cs.drop fd.offset).take (P.cellsOf fd.type)))
 (i off n:Nat) {fd:Field} (uq:jG[i]? = some fd) (ai:fd.offset=off) (aV:P.cellsOf fd.type=n) {α:Type} {f:α->List an} {eA:α->Prop} (I:rn P w fd.type f eA) : ∃a,eA a/\nZ w (f a) ((cs.drop off).take n):=by
 subst ai;subst aV;exact h i fd uq I
theorem nZ.end_ {cs:List Value}{n:Nat}(h:cs.length<=n):nZ w [] (cs.drop n):=by rw[List.drop_of_length_le h];exact .nil w
theorem UF {x:an}{v:Value}(h:nZ w [x] v.cells.toList)(aZ:∀cs,v≠ .agg cs):Rel w (fun b=>b<w.heap.size) (fun _ _=>False) (fun _ _=>none) x v:=by
 have aL:v.cells.toList=[v]:=by cases v<;>first|rfl|exact absurd rfl (aZ _)
 rw[aL] at h;exact(h.2 0 x v rfl rfl).2
theorem Vw {c:List an}{cs:Array Value}(h:nZ w c (Value.agg cs).cells.toList):Rel w (fun b=>b<w.heap.size) (fun _ _=>False) (fun _ _=>none) (.agg c) (.agg cs):=by have aL:(Value.agg cs).cells.toList=cs.toList:=rfl;rw[aL] at h;have J:=Rel.agg (c:=c) cs.toList h.1 (fun j v aZ=>by have av:=fN aZ;have aa:c[j]? = some (c[j]'(by rw[<- h.1];exact av)):=dx _;exact(h.2 j _ v aa aZ).1) (fun j x v aa aZ=>(h.2 j x v aa aZ).2);simpa using J
theorem arg_one {α:Type}{f:α->an}{F:α->List an}{eA:α->Prop}(ai:rn P w t F eA)(wK:∀a,F a=[f a]){H:Type}{enc:TypeId×Value->H}{base:Nat}{spare:Nat->Bool}{held:Bool}{v:Value}{d:DataW H}{i7:List MemPlace}
 (h:DataW.Trod enc P w base spare held t v d i7) (aZ : ∀cs,v≠ .agg cs) : ∃a,eA a/\Rel w (fun b=>b<w.heap.size) (fun _ _=>False) (fun _ _=>none) (f a) v:=by
 obtain⟨p1,b0⟩:=h;obtain⟨a,o,J⟩:=ai.opens b0;rw[wK] at J;exact⟨a,o,UF J aZ⟩
theorem adG {α:Type}{F:α->List an}{eA:α->Prop}(ai:rn P w t F eA){H:Type}{enc:TypeId×Value->H}{base:Nat}{spare:Nat->Bool}{held:Bool}{cs:Array Value}{d:DataW H}{i7:List MemPlace}
 (h:DataW.Trod enc P w base spare held t (.agg cs) d i7) : ∃a,eA a/\Rel w (fun b=>b<w.heap.size) (fun _ _=>False) (fun _ _=>none) (.agg (F a)) (.agg cs):=by
 obtain⟨p1,b0⟩:=h;obtain⟨a,o,J⟩:=ai.opens b0;exact⟨a,o,Vw J⟩
def yr (w:World)(args:List an)(vs:List Value):Prop :=
 vs.length=args.length/\ ∀(j:Nat) x v,args[j]? = some x->vs[j]? = some v->Rel w (fun b=>b<w.heap.size) (fun _ _=>False) (fun _ _=>none) x v
theorem yr.nil:yr w [] []:=⟨rfl,fun j x v aa=>by simp at aa⟩
theorem yr.cons {x:an}{v:Value}{args:List an}{vs:List Value}(h:Rel w (fun b=>b<w.heap.size) (fun _ _=>False) (fun _ _=>none) x v)(t:yr w args vs):yr w (x::args) (v::vs):=by
 refine⟨by simp[t.1],fun j y u aP hu=> ?_⟩
 match j,aP,hu with
 | 0,aP,hu=>obtain rfl:=dI aP;obtain rfl:=dI hu;exact h
 | j+1,aP,hu=>exact t.2 j y u (by simpa using aP) (by simpa using hu)
theorem trod_lt' {H:Type}{enc:TypeId×Value->H}{base:Nat}{spare:Nat->Bool}{held:Bool}{v:Value}{d:DataW H}{i7:List MemPlace}(h:DataW.Trod enc P w base spare held t v d i7): ∀p∈i7,p.block<w.heap.size:=by obtain⟨p1,b0⟩:=h;exact DataW.trod_lt p1 t v.cells.toList (d,i7) b0
theorem Con.row {f:FuncId}{args:List an}{b:Bool}(h:Con P f args [] (.b b) []){vs:List Value}(bA:yr w args vs):
 Calls P f vs.toArray w fun e bx=>e = .returned (.bool b)/\Below w.heap.size w bx:=by
 let g:G:={mn:=w,A:=fun b=>b<w.heap.size,px:=fun _=>False,N:=0,m:=0,oU:=(eL []).aW,rs:=(eL []).a0 fun _ _=>none}
 have a5 : ∀r k,(eL []).af r k=none:=by intro r k;simp[S.af,eL,cX]
 have dg:h3 g (eL []) (fun _ _=>none) w:=by
  have i4 : ∀j k,¬(eL []).aW j k:=fun j k av=>(by simp[S.aW,eL] at av);refine⟨?_,?_,?_,⟨rfl,rfl,rfl,dE _,fun _ _ _=>rfl⟩,?_,?_,?_,?_⟩
  ·intro r k I ai;rw[a5] at ai;simp at ai
  ·intro r k I ep dn bX b m aU ai;rw[a5] at ai;simp at ai
  ·intro r k I b m ai;rw[a5] at ai;simp at ai
  ·intro b aN;exact aN.elim
  ·intro b aN;exact aN
  ·intro j k av;exact absurd av (i4 j k)
  intro j k av;exact absurd av (i4 j k)
 have aL:=h.2 g (fun _ _=>none) w vs.toArray rfl rfl rfl rfl dg (by simpa using bA.1) (fun j x v aa aZ=>(bA.2 j x v aa (by simpa using aZ)).mono
  (fun b aN=>⟨aN,.inl aN,fun aF=>by obtain⟨r,k,I,m,o,-⟩:=aF;rw[a5] at o;simp at o⟩) (fun _ _=>rfl) (fun r k aj=>aj.elim) (fun r k aj=>aj.elim))
 refine aL.mono fun e bx a2=> ?_;obtain⟨v,bG,rfl,o,J⟩:=a2;have aZ:=J.t9;subst aZ;exact⟨rfl,o.gZ.os,o.gZ.tape,o.gZ.output,o.gZ.size,fun k aQ=>o.gZ.block k aQ id⟩
end
abbrev ae0:aM:=⟨0,[],.gone⟩
abbrev cM:=Option (Nat×Nat)
abbrev mV (eg c sz:Nat)(h:cM):an:= .iA eg c sz h
def cl (eg c sz:Nat)(h:cM):List an:=[mV eg c sz h]
theorem adH {eg c sz:Nat}{h:cM}(e:h=none):ka (mV eg c sz h) (.isl sz []):=by rw[e];exact .hj _ _ _
theorem oD {eg c sz:Nat}{h:cM}{p:Nat×Nat}(e:h=some p):ka (mV eg c sz h) (.bK eg (p.1+c) 0 p.2):=by rw[e];exact .s1 _ _ _ _ _
theorem P2 {x v:an}(e:x=v):ka x v:=e▸ .refl x
def zf:List an->List an->Prop
 | [],[]=>True
 | a::l,b::m=>ka a b/\zf l m
 | _,_=>False
theorem zf.at_ : ∀ {l m:List an},zf l m->m.length=l.length/\ ∀(j:Nat) x cA,l[j]? = some x->m[j]? = some cA->ka x cA
 | [],[],_=>⟨rfl,fun j x cA h=>by simp at h⟩
 | a::l,b::m,h=>⟨by simp[(zf.at_ h.2).1],fun j x cA aa dl=>by
  cases j with
  | zero=>simp at aa dl;subst aa;subst dl;exact h.1
  | succ j=>exact(zf.at_ h.2).2 j x cA (by simpa using aa) (by simpa using dl)⟩
 | [],_::_,h=>h.elim
 | _::_,[],h=>h.elim
theorem adL {l m:List an}(h:zf l m):ka (.agg l) (.agg m):= .agg h.at_.1 h.at_.2
theorem Zu {b7:Nat->Option Nat}{eg qR c sz:Nat}(ch:b7 eg=some qR)(h:cM):nI b7 (mV eg c sz h)=mV qR c sz h:=by simp only[mV,nI,ch]
theorem Zv {aO:gC}{eg qR c dW sz:Nat}(hm:∀k,aO qR (k+dW)=some (eg,k+c))(h:cM):zd aO (mV eg c sz h) (mV qR dW sz h):= .inr (.inr (.inr ⟨eg,c,sz,h,qR,dW,rfl,hm,rfl⟩))
theorem Zw (eg c sz:Nat)(h:cM):ck (mV eg c sz h):= .iA _ _ _ _
def jq {α:Type}(cg:fZ)(sz:Nat)(f:α->List an)(l:List α):aM:=⟨sz,l.map f,cg⟩
section
variable {α:Type} {sz:Nat} {cg:fZ} {f:α->List an} {P:List (List α)} {raw:List aM}
theorem lm (e:raw=P.map (jq cg sz f))(aQ:cg≠ .gone){k:Nat}{l:List α}(h:P[k]? = some l):cX (some raw) k=some (aM.mk sz (l.map f) cg):=by rw[e,jX,dJ,h];exact dA aQ
theorem kX:fZ.live≠ .gone:=by simp
theorem ae1:fZ.iB≠ .gone:=by simp
theorem adM (e:raw=P.map (jq .live sz f)):ll raw=P.map (jq .iB sz f):=by rw[e];unfold ll;rw[List.map_map];rfl
theorem adN (P:List (List α)):P.map (jq cg sz f)=P.map (jq cg sz f):=rfl
theorem r9 (e:raw=P.map (jq cg sz f))(k:Nat){l:List α}{es:List (List an)}(aF:es=l.map f):raw.set k (aM.mk sz es cg)=(P.set k l).map (jq cg sz f):=by rw[e,aF,List.map_set];rfl
theorem YE (cg:fZ)(sz:Nat)(f:α->List an):([]:List aM)=([]:List (List α)).map (jq cg sz f):=rfl
theorem YF (e:raw=P.map (jq cg sz f)){n:Nat}(h:n=P.length):raw.length=n:=by rw[e,h,aft]
theorem WU (a b n:Nat): ∀ {x:an},Pure x->kb a b n x=x:=by
 intro x h;have aF : ∀c:List an,(∀x∈c,kb a b n x=x)->kb.y6 a b n c=c:=by intro c aL;rw[D7];exact(afq aL).trans (List.map_id _)
 induction h with
 | agg h ih=>rw[kb,aF _ ih]
 | cZ h ih=>rw[kb,aF _ ih]
 | _=>rfl
theorem WV (ah:∀x,∀v∈f x,Pure v)(a b n:Nat){es:List (List an)}{l:List α}(e:es=l.map f):es.map (fun e=>e.map (kb a b n))=l.map f:=by rw[e,List.map_map];refine afq fun x _=> ?_;exact(afq fun v aZ=>WU a b n (ah x v aZ)).trans (List.map_id _)
theorem Po (e:raw=P.map (jq cg sz f)){Q:List (List α)}{bu:List aM}(h:bu=Q.map (jq cg sz f)):raw++bu=(P++Q).map (jq cg sz f):=by rw[e,h,List.map_append]
theorem P3 (ah:∀x,∀v∈f x,Pure v)(a b n:Nat){es:List (List an)}{l:List α}(h:es=l.map f){bu:List aM}{Q:List (List α)}(t:bu.map (lZ a b n)=Q.map (jq cg sz f)):
 (aM.mk sz es cg::bu).map (lZ a b n)=(l::Q).map (jq cg sz f):=by
 simp only[List.map_cons,t,lZ,WV ah a b n h];rfl
theorem P4 (a b n:Nat):([]:List aM).map (lZ a b n)=([]:List (List α)).map (jq cg sz f):=rfl
def mg (P:List (List α)):cM->List α
 | none=>[]
 | some (k,n)=>(P.getD k []).take n
def wk (P:List (List α)):cM->Bool
 | none=>true
 | some (k,n)=>decide (k<P.length) && decide (n<=(P.getD k []).length)
def zg (eg:Nat)(jt:List aM)(bI:fZ->Bool):List an->List an->Prop
 | [],[]=>True
 | a::l,b::m=>BP eg jt bI a b/\zg eg jt bI l m
 | _,_=>False
theorem OQ {eg:Nat}{jt:List aM}{bI:fZ->Bool}: ∀ {l m:List an},zg eg jt bI l m->m.length=l.length
 | [],[],_=>rfl
 | _::_,_::_,h=>by simp[OQ h.2]
 | [],_::_,h=>h.elim
 | _::_,[],h=>h.elim
theorem Pp {eg:Nat}{jt:List aM}{bI:fZ->Bool}: ∀ {l m:List an},zg eg jt bI l m-> ∀(j:Nat) x cA,l[j]? = some x->m[j]? = some cA->BP eg jt bI x cA
 | _::_,_::_,h,0,x,cA,o,J=>by simp at o J;subst o;subst J;exact h.1
 | _::_,_::_,h,j+1,x,cA,o,J=>Pp h.2 j x cA (by simpa using o) (by simpa using J)
 | [],_,_,_,_,_,o,_=>by simp at o
theorem adO {eg:Nat}{jt:List aM}{bI:fZ->Bool}{x:an}(h:x.il=true):BP eg jt bI x x:= .inl ⟨rfl,h⟩
theorem Zx {eg c:Nat}{ub:List aM}{bI:fZ->Bool}(e:raw=P.map (jq cg sz f))(ah:∀x,∀v∈f x,Pure v)(aL:ub.length=c)(aQ:cg≠ .gone)(bA:bI cg=true): ∀ {h:cM},wk P h=true ->
 BP eg (ub++raw) bI (mV eg c sz h) (.isl sz ((mg P h).map f))
 | none,_=> .inr (.inl ⟨c,sz,rfl,rfl⟩)
 | some (k,n),lX=>by
  simp only[wk,afd,decide_eq_true_eq] at lX;obtain⟨o,J⟩:=lX;have Q3:P[k]? = some P[k]:=dx o;have dt:P.getD k []=P[k]:=(by simp[List.getD,Q3]);rw[dt] at J;refine .inr (.inr ⟨k+c,0,n,aM.mk sz (P[k].map f) cg,.inr ⟨c,sz,k,rfl,rfl,rfl⟩,?_,bA,by simpa using J,?_,?_⟩)
  ·have:=lm e aQ Q3;rw[jX] at this ⊢;rw[afn (by omega),aL,show k+c-c=k by omega];exact this
  ·intro e he x aa;rw[List.drop_zero] at he;have he:=List.mem_of_mem_take he;rw[List.mem_map] at he;obtain⟨y,-,rfl⟩:=he;exact ah y x aa
  simp only[mg,dt,List.drop_zero,List.map_take]
end
theorem Eb {α β:Type}{f:α->List an}{g:β->List an}{v:α->β}{eg:Nat}{jt:List aM}{bI:fZ->Bool}{sz:Nat}{raw:List (List an)}{xs:List α}(e:raw=xs.map f)(dt:∀y,(g y).length=sz)
 (h : ∀x∈xs,zg eg jt bI (f x) (g (v x))) {n:Nat} (aV:n=xs.length):Cn eg jt bI sz ((raw.drop 0).take n) ((xs.map v).map g):=by
 have e0:(raw.drop 0).take n=xs.map f:=by rw[List.drop_zero,aV,e,dT (by simp)]
 rw[e0];have b0 : ∀x∈xs,(f x).length=sz:=fun x aa=>by rw[<- OQ (h x aa),dt]
 refine⟨by simp,fun e he=> ?_,fun j x cA aa dl=> ?_⟩
 ·rw[List.mem_map] at he;obtain⟨y,-,rfl⟩:=he;exact dt y
 rcases Nat.eq_zero_or_pos sz with h0|bO
 ·have : ∀l:List α,(∀x∈l,(f x).length=sz)->(l.map f).flatten=[]:=by
   intro l aF
   induction l with
   | nil=>rfl
   | cons a l ih =>
    have o:=aF a (by simp);rw[h0] at o;rw[List.map_cons,afb,ih fun x aa=>aF x (by simp[aa]),dK.1 o];rfl
  rw[this xs b0] at aa;simp at aa
 rw[pa bO _ (by intro e he;rw[List.mem_map] at he;obtain⟨y,aP,rfl⟩:=he;exact b0 y aP)] at aa;rw[pa bO _ (by intro e he;rw[List.mem_map] at he;obtain⟨y,-,rfl⟩:=he;exact dt y)] at dl;rw[dJ,dJ] at dl;rw[dJ] at aa
 cases aP:xs[j / sz]? with
 | none=>rw[aP] at aa;simp at aa
 | some y =>
  rw[aP] at aa dl;simp only[dQ,dB] at aa dl;exact Pp (h y (dG aP)) _ x cA aa dl
theorem adI {eg:Nat}{jt:List aM}{bI:fZ->Bool}{sz:Nat}{α:Type}{f:α->List an}{raw:List (List an)}{l:List α}(e:raw=l.map f)(aF:∀x,(f x).length=sz)(aV:∀x,∀v∈f x,v.il=true){bw n:Nat}(ia:bw+n<=raw.length):
 Cn eg jt bI sz ((raw.drop bw).take n) (((l.drop bw).take n).map f):=by
 have ao:(raw.drop bw).take n=((l.drop bw).take n).map f:=by rw[e,List.map_take,List.map_drop]
 rw[ao];refine⟨rfl,fun e he=> ?_,fun j x cA aa dl=> ?_⟩
 ·rw[List.mem_map] at he;obtain⟨y,-,rfl⟩:=he;exact aF y
 rw[aa] at dl;simp at dl;subst dl;obtain⟨e,he,qN⟩:=sH aa;rw[List.mem_map] at he;obtain⟨y,-,rfl⟩:=he;exact .inl ⟨rfl,aV y x qN⟩
section
variable {b7:Nat->Option Nat}
theorem sW:([]:List aM)=([]:List aM).map (jD b7):=rfl
theorem ji {I bX:aM}{l gh:List aM}(h:bX=jD b7 I)(t:gh=l.map (jD b7)):bX::gh=(I::l).map (jD b7):=by rw[h,t];rfl
theorem P5 {α:Type}{sz:Nat}{cg:fZ}{f jI:α->List an}{raw:List (List an)}{xs:List α}(e:raw=xs.map f)(h:∀x,(f x).map (nI b7)=jI x):aM.mk sz (xs.map jI) cg=jD b7 (aM.mk sz raw cg):=by simp only[jD,e,List.map_map,aM.mk.injEq,true_and,and_true];exact afq fun x _=>(h x).symm
theorem qv {α:Type}{cg:fZ}{sz:Nat}{f:α->List an}{raw:List aM}{P:List (List α)}(e:raw=P.map (jq cg sz f))(h:∀x,(f x).map (nI b7)=f x):P.map (jq cg sz f)=raw.map (jD b7):=by rw[e,List.map_map];refine afq fun l _=> ?_;exact P5 rfl h
theorem adS {α:Type}(sz:Nat)(f:α->List an)(I:Option α):nI b7 (d7 sz f I)=d7 sz f I:=by cases I<;>rfl
theorem Hl:oI []:=fun I h=>by simp at h
theorem oz {I:aM}{l:List aM}(h:I.cg = .live)(t:oI l):oI (I::l):=fun p ah=>by
 rcases dO.1 ah with e|e
 ·rw[e];exact .inl h
 exact t p e
theorem adj {I:aM}{l:List aM}(h:I.cg = .gone)(t:oI l):oI (I::l):=fun p ah=>by
 rcases dO.1 ah with e|e
 ·rw[e];exact .inr h
 exact t p e
theorem G6 {α:Type}{sz:Nat}{f:α->List an}{raw:List aM}{P:List (List α)}(e:raw=P.map (jq .live sz f)):oI raw:=fun I ai=>by rw[e,List.mem_map] at ai;obtain⟨l,-,rfl⟩:=ai;exact .inl rfl
end
section
variable {aO:gC}
theorem Pq:so aO [] []:=⟨rfl,fun k I bX h=>by simp at h⟩
def Q4 (aO:gC)(I bX:aM):Prop:=bX.sz=I.sz/\bX.cg=I.cg/\bX.es.length=I.es.length/\(∀e∈bX.es,e.length=I.sz) /\
 ∀(j:Nat) x cA,I.es.flatten[j]? = some x->bX.es.flatten[j]? = some cA->zd aO x cA
theorem OR {I bX:aM}{l gh:List aM}(h:Q4 aO I bX)(t:so aO l gh):so aO (I::l) (bX::gh):=by
 refine⟨by simp[t.1],fun k p jS ah lx=> ?_⟩
 cases k with
 | zero=>simp at ah lx;subst ah;subst lx;exact h
 | succ k=>exact t.2 k p jS (by simpa using ah) (by simpa using lx)
def zh (aO:gC):List an->List an->Prop
 | [],[]=>True
 | a::l,b::m=>zd aO a b/\zh aO l m
 | _,_=>False
theorem OS : ∀ {l m:List an},zh aO l m->m.length=l.length
 | [],[],_=>rfl
 | _::_,_::_,h=>by simp[OS h.2]
 | [],_::_,h=>h.elim
 | _::_,[],h=>h.elim
theorem Pr : ∀ {l m:List an},zh aO l m-> ∀(j:Nat) x cA,l[j]? = some x->m[j]? = some cA->zd aO x cA
 | _::_,_::_,h,0,x,cA,o,J=>by simp at o J;subst o;subst J;exact h.1
 | _::_,_::_,h,j+1,x,cA,o,J=>Pr h.2 j x cA (by simpa using o) (by simpa using J)
 | [],_,_,_,_,_,o,_=>by simp at o
theorem adP {x:an}(h:x.il=true):zd aO x x:= .inl ⟨rfl,h⟩
theorem Ib {α:Type}{sz:Nat}{cg:fZ}{f jI:α->List an}{raw:List (List an)}{xs:List α}(e:raw=xs.map f)(aF:∀x,(jI x).length=sz)(h:∀x,zh aO (f x) (jI x)):Q4 aO (aM.mk sz raw cg) (aM.mk sz (xs.map jI) cg):=by
 subst e;refine⟨rfl,rfl,by simp,fun e he=> ?_,fun j x cA aa dl=> ?_⟩
 ·simp only[List.mem_map] at he;obtain⟨y,-,rfl⟩:=he;exact aF y
 simp only at aa dl;rcases Nat.eq_zero_or_pos sz with h0|bO
 ·have:(xs.map jI).flatten=[]:=by
   induction xs with
   | nil=>rfl
   | cons a l ih =>
    have o:=aF a;rw[h0] at o
    have J:(l.map jI).flatten=[]:=by
     clear ih aa dl
     induction l with
     | nil=>rfl
     | cons b l ih =>
      have o:=aF b;rw[h0] at o;rw[List.map_cons,afb,ih,dK.1 o];rfl
    rw[List.map_cons,afb,J,dK.1 o];rfl
  rw[this] at dl;simp at dl
 have aa6 : ∀x,(f x).length=sz:=fun x=>by rw[<- OS (h x),aF]
 rw[pa bO _ (by intro e he;rw[List.mem_map] at he;obtain⟨y,-,rfl⟩:=he;exact aa6 y)] at aa;rw[pa bO _ (by intro e he;rw[List.mem_map] at he;obtain⟨y,-,rfl⟩:=he;exact aF y)] at dl;rw[dJ] at aa dl
 cases aP:xs[j / sz]? with
 | none=>rw[aP] at aa;simp at aa
 | some y =>
  rw[aP] at aa dl;simp only[dQ,dB] at aa dl;exact Pr (h y) _ x cA aa dl
theorem WW {l:List an}(h:∀v∈l,v.il=true):zh aO l l:=by
 induction l with
 | nil=>trivial
 | cons a l ih=>exact⟨.inl ⟨rfl,h a (by simp)⟩,ih fun v aZ=>h v (by simp[aZ])⟩
theorem OT {α:Type}{cg:fZ}{sz:Nat}{f:α->List an}{raw:List aM}{P:List (List α)}(e:raw=P.map (jq cg sz f))(aF:∀x,(f x).length=sz)(aV:∀x,∀v∈f x,v.il=true):so aO raw (P.map (jq cg sz f)):=by subst e;refine⟨rfl,fun k I bX ai du=> ?_⟩;rw[ai] at du;simp at du;subst du;rw[dJ,dN] at ai;obtain⟨l,-,rfl⟩:=ai;exact Ib rfl aF fun x=>WW (aV x)
end
theorem HA:uu []:=fun row h=>by simp at h
theorem Hm {row:List aM}{T:List (List aM)}(h:∀I∈row,∀e∈I.es,∀x∈e,ck x)(t:uu T):uu (row::T):=fun r aj=>by
 rcases dO.1 aj with e|e
 ·rw[e];exact h
 exact t r e
theorem HB : ∀I∈([]:List aM),∀e∈I.es,∀x∈e,ck x:=fun I h=>by simp at h
theorem vk {I:aM}{row:List aM}(h:∀e∈I.es,∀x∈e,ck x)(t:∀I∈row,∀e∈I.es,∀x∈e,ck x): ∀p∈I::row,∀e∈p.es,∀x∈e,ck x:=fun p ah=>by
 rcases dO.1 ah with e|e
 ·rw[e];exact h
 exact t p e
theorem tY {α:Type}{sz:Nat}{cg:fZ}{f:α->List an}{xs:List α}(h:∀x,∀v∈f x,ck v): ∀e∈(aM.mk sz (xs.map f) cg).es,∀x∈e,ck x:=fun e he x aa=>by simp only[List.mem_map] at he;obtain⟨y,-,rfl⟩:=he;exact h y x aa
theorem adx {α:Type}{cg:fZ}{sz:Nat}{f:α->List an}{P:List (List α)}(h:∀x,∀v∈f x,ck v): ∀I∈P.map (jq cg sz f),∀e∈I.es,∀x∈e,ck x:=fun I ai=>by rw[List.mem_map] at ai;obtain⟨l,-,rfl⟩:=ai;exact tY h
theorem vH : ∀x,∀v∈R x,ck v:=fun x v h=>by simp[R] at h;subst h;exact .n _ _
theorem adT : ∀x,∀v∈e6 x,ck v:=fun x v h=>by simp[e6] at h;subst h;exact .b _
theorem adU : ∀x,∀v∈wJ x,ck v:=fun x v h=>by simp[wJ] at h;subst h;exact .s _
theorem pT : ∀x,∀v∈R x,v.il=true:=fun x v h=>by simp[R] at h;subst h;rfl
theorem En : ∀x,∀v∈e6 x,v.il=true:=fun x v h=>by simp[e6] at h;subst h;rfl
theorem adV : ∀x,∀v∈wJ x,v.il=true:=fun x v h=>by simp[wJ] at h;subst h;rfl
theorem adJ {l:List an}(h:∀x∈l,ck x):ck (.cZ l):= .cZ h
theorem HC : ∀x∈([]:List an),ck x:=fun x h=>by simp at h
theorem sQ {a:an}{l:List an}(h:ck a)(t:∀x∈l,ck x): ∀x∈a::l,ck x:=fun x aa=>by
 rcases dO.1 aa with e|e
 ·rw[e];exact h
 exact t x e
theorem A8 {b7:Nat->Option Nat}{eg qR c sz:Nat}(ch:b7 eg=some qR)(h:cM):(cl eg c sz h).map (nI b7)=cl qR c sz h:=by simp only[cl,List.map_cons,List.map_nil,Zu ch]
theorem P6 {aO:gC}{eg qR c dW sz:Nat}(hm:∀k,aO qR (k+dW)=some (eg,k+c))(h:cM):zh aO (cl eg c sz h) (cl qR dW sz h):=⟨Zv hm h,trivial⟩
theorem adW (eg c sz:Nat): ∀x,∀v∈cl eg c sz x,ck v:=fun x v h=>by simp[cl] at h;subst h;exact Zw _ _ _ x
theorem Jf {α:Type}{sz:Nat}{cg:fZ}{f:α->List an}{P:List (List α)}{raw:List aM}{eg c:Nat}{ub:List aM}{bI:fZ->Bool}(e:raw=P.map (jq cg sz f))(ah:∀x,∀v∈f x,Pure v)(aL:ub.length=c)(aQ:cg≠ .gone)(bA:bI cg=true)
 {h:cM} (ae:wk P h=true):zg eg (ub++raw) bI (cl eg c sz h) (fh sz f (mg P h)):=⟨Zx e ah aL aQ bA ae,trivial⟩
theorem HT {α:Type}{p:α->Bool}{l:List α}(h:l.all p=true): ∀x∈l,p x=true:=List.all_eq_true.1 h
theorem adX {bj:Type}{sz:Nat}{f:bj->List an}: ∀l,∀v∈fh sz f l,v.il=true:=fun l v h=>by simp[fh] at h;subst h;rfl
theorem adY {bj:Type}{sz:Nat}{f:bj->List an}: ∀l,∀v∈cd sz f l,v.il=true:=fun l v h=>by simp[cd] at h;subst h;rfl
theorem pU {α:Type}{f:α->List an}(h:∀x,∀v∈f x,v.il=true){b7:Nat->Option Nat}(x:α):(f x).map (nI b7)=f x:=by refine(afq fun v aZ=> ?_).trans (List.map_id _);have:=h x v aZ;cases v<;>simp[an.il] at this<;>simp[nI,an.il]
theorem adQ : ∀x,∀v∈eU8 x,v.il=true:=fun x v h=>by simp[eU8] at h;subst h;rfl
def ax:Nat->List (eG×Bool)->List (eG×Bool)
 | 0,l=>l
 | n+1,l=>acv::ax n l
def ek:Nat->List (eG×Bool)->List (eG×Bool)
 | 0,l=>l
 | n+1,l=>acw::ek n l
def ap (a:eG)(l:List (eG×Bool)):List (eG×Bool):=(a,true)::l
def fC (n:Nat)(r:an)(c1:Bool)(c8:List Nat:=[]):eG:= .call {ac:=List.replicate n ii,r:=r,c1:=c1,c8:=c8}
def bZ:List Nat->List (Nat×kE)
 | []=>[]
 | n::l=>(n,ii)::bZ l
def aa7 (n:Nat):kE:= .bB (.cj (.len n))
structure qk where
 x:Option Nat
 env:List (Nat×an)
 rows:List (List aM)
def qk.e (I:qk):wI:=match I.x with
 | some i=> .exit i
 | none=> .ret
def qk.cO (I:qk):S:=eD I.env I.rows
def qk.acx (I:qk):cw:= .sub I.e I.env I.rows
theorem qk.ne (I:qk):I.e.x≠ .normal:=by unfold qk.e;split<;>simp[wI.x]
section
variable {P:Program} {N m:Nat} {α β:Type}
def RN (P:Program)(N m f:Nat)(p:List Nat)(s:S)(head:α->S)(out:β->qk):α⊕β->Prop
 | .inl a=>i6 P N m (nodeAt (HQ P f) p) .normal s (head a)
 | .inr r=>i6 P N m (nodeAt (HQ P f) p) (out r).e.x s (out r).cO
def RO (P:Program)(N m f:Nat)(p:List Nat)(head:α->S)(out:β->qk)(a:α)(r:β):Prop :=
 i6 P N m (.loop (nodeAt (HQ P f) p)) (out r).e.x (head a) (out r).cO
theorem WX {f:Nat}{p:List Nat}{b:α->Option (α⊕β)}{head:α->S}{out:β->qk}(h:∀a,bM (b a) (RN P N m f p (head a) head out)){a:α}{r:β}(aj:iter b a=some r):RO P N m f p head out a r :=
 (XN (head:=head) (hq:=fun r=>(out r).e.x) (out:=fun r=>(out r).cO) (fun r=>(out r).ne) (fun a r aj=>by
   have:=h a r aj
   cases r with
   | inl dr=>exact this
   | inr ep=>exact this) a r aj).aa4
end
theorem Ps {a b c:Nat}(h:a+b<=c):a<=c:=by omega
theorem HU {bj:Type}{rx j1:List (List an)}{f:bj->List an}{xs bi:List bj}(hq:rx=xs.map f)(iF:j1=bi.map f){n:Nat}(h:n+bi.length<=xs.length):n+j1.length<=rx.length:=by rw[hq,iF];simpa using h
theorem Hn {bj:Type}{j1:List (List an)}{f:bj->List an}{bi:List bj}(iF:j1=bi.map f){b c:Nat}(h:bi.length*b<=c):j1.length*b<=c:=by rw[iF];simpa using h
theorem HV {bj:Type}{rx j1:List (List an)}{f:bj->List an}{xs bi:List bj}(hq:rx=xs.map f)(n:Nat)(iF:j1=bi.map f):rx.take n++j1++rx.drop (n+j1.length)=(xs.take n++bi++xs.drop (n+bi.length)).map f:=by rw[hq,iF];simp
theorem XT {bj:Type}{rx:List (List an)}{f:bj->List an}{xs:List bj}(hq:rx=xs.map f)(bw n:Nat)(z:bj):rx.take bw++List.replicate n (f z)++rx.drop (bw+n)=(xs.take bw++List.replicate n z++xs.drop (bw+n)).map f:=by rw[hq];simp
theorem YG {bj:Type}{rx j1:List (List an)}{f:bj->List an}{xs bi:List bj}(hq:rx=xs.map f)(iF:j1=bi.map f):j1++rx.drop j1.length=(bi++xs.drop bi.length).map f:=by rw[hq,iF];simp
theorem Zy {bj:Type}{j1:List (List an)}{f:bj->List an}{bi:List bj}(iF:j1=bi.map f){n:Nat}(h:bi.length<=n):j1.length<=n:=by rw[iF];simpa using h
theorem Pt {bj:Type}{xs bi:List bj}{n m:Nat}(aV:n=xs.length)(hm:m<=n)(h:bi.length<=m):n=(bi++xs.drop bi.length).length:=by simp;omega
theorem adR {bj:Type}(f:bj->List an)(n:Nat)(z:bj):List.replicate n (f z)=(List.replicate n z).map f:=by simp
theorem YH {bj:Type}{rx:List (List an)}{f:bj->List an}{xs:List bj}(hq:rx=xs.map f){n:Nat}(h:n=xs.length):rx.length=n:=by rw[hq];simp[h]
section
variable {a b c d e f g h i j:Prop} {l:List Prop}
theorem cE.ao (fR:a):cE [a]:= .c fR .nil
theorem cE.cF (fR:a)(e9:b)(t:cE l):cE (a::b::l):= .c fR (.c e9 t)
theorem cE.aB (fR:a)(e9:b):cE [a,b]:= .cF fR e9 .nil
theorem cE.l4 (fR:a)(e9:b)(aS:c)(t:cE l):cE (a::b::c::l):= .c fR (.cF e9 aS t)
theorem cE.bT (fR:a)(e9:b)(aS:c):cE [a,b,c]:= .l4 fR e9 aS .nil
theorem cE.qZ (fR:a)(e9:b)(aS:c)(f8:d)(t:cE l):cE (a::b::c::d::l):= .c fR (.l4 e9 aS f8 t)
theorem cE.di (fR:a)(e9:b)(aS:c)(f8:d):cE [a,b,c,d]:= .qZ fR e9 aS f8 .nil
theorem cE.nn (fR:a)(e9:b)(aS:c)(f8:d)(j2:e)(t:cE l):cE (a::b::c::d::e::l):= .c fR (.qZ e9 aS f8 j2 t)
theorem cE.ew (fR:a)(e9:b)(aS:c)(f8:d)(j2:e):cE [a,b,c,d,e]:= .nn fR e9 aS f8 j2 .nil
theorem cE.tD (fR:a)(e9:b)(aS:c)(f8:d)(j2:e)(ct:f)(t:cE l):cE (a::b::c::d::e::f::l):= .c fR (.nn e9 aS f8 j2 ct t)
theorem cE.fa (fR:a)(e9:b)(aS:c)(f8:d)(j2:e)(ct:f):cE [a,b,c,d,e,f]:= .tD fR e9 aS f8 j2 ct .nil
theorem cE.bm (fR:a)(e9:b)(aS:c)(f8:d)(j2:e)(ct:f)(gI:g)(l5:h)(t:cE l):cE (a::b::c::d::e::f::g::h::l):= .cF fR e9 (.tD aS f8 j2 ct gI l5 t)
theorem cE.fc (fR:a)(e9:b)(aS:c)(f8:d)(j2:e)(ct:f)(gI:g):cE [a,b,c,d,e,f,g]:= .c fR (.fa e9 aS f8 j2 ct gI)
theorem cE.hR (fR:a)(e9:b)(aS:c)(f8:d)(j2:e)(ct:f)(gI:g)(l5:h):cE [a,b,c,d,e,f,g,h]:= .cF fR e9 (.fa aS f8 j2 ct gI l5)
end
section
variable {α bj:Type}
theorem fI (f:bj->List an)(l:List bj):l.map f=l.map f:=rfl
theorem gW (l:List bj):l.length=l.length:=rfl
theorem RP (cg:fZ)(sz:Nat)(f:bj->List an)(P:List (List bj)):P.map (jq cg sz f)=P.map (jq cg sz f):=rfl
theorem hr (x:α):x=x:=rfl
theorem cR:true=true:=rfl
theorem gi:false=false:=rfl
theorem cC (f:bj->List an){l:List bj}{i:Nat}{x:bj}(h:l[i]? = some x):(l.map f)[i]? = some (f x):=Hz h
theorem ex (f:bj->List an){l:List bj}{j:Int}(h:j<l.length):j<((l.map f).length:Nat):=ON h
theorem hS (f:bj->List an){l:List bj}{j:Nat}(h:j<l.length):j<(l.map f).length:=Pn h
theorem acy (sz:Nat)(cg:fZ){raw:List (List an)}{f:bj->List an}{l:List bj}(e:raw=l.map f):[aM.mk sz raw cg]=[aM.mk sz (l.map f) cg]:=XP e
theorem sy (sz:Nat)(cg:fZ){f:bj->List an}(b0:∀x,∀v∈f x,Pure v)(l:List bj):yq [aM.mk sz (l.map f) cg]:=WT b0 l
theorem eN (sz:Nat){f:bj->List an}(b0:∀x,∀v∈f x,Pure v)(l:List bj):tT [aM.mk sz (l.map f) .live]:=V4 b0 l
theorem adK {β:Type}{f:α->List an}{g:β->List an}{v:α->β}{eg:Nat}{jt:List aM}{bI:fZ->Bool}{sz:Nat}{raw:List (List an)}{l:List α}(e:raw=l.map f)(dt:∀y,(g y).length=sz)(bw n:Nat)
 (h : ∀x∈(l.drop bw).take n,zg eg jt bI (f x) (g (v x))):Cn eg jt bI sz ((raw.drop bw).take n) ((((l.drop bw).take n).map v).map g):=by
 have J:=Eb (eg:=eg) (jt:=jt) (bI:=bI) (raw:=(raw.drop bw).take n) (xs:=(l.drop bw).take n) (f:=f) (mv e bw n) dt h rfl;rw[List.drop_zero,dT (by rw[mv e bw n,aft];exact dE _)] at J;exact J
theorem qS {sz:Nat}{f:bj->List an}{x:Option bj}(h:x=none):ka (d7 sz f x) (.eW sz none):=P2 (XR h)
theorem aa8 {sz:Nat}{f:bj->List an}{x:Option bj}{y:bj}(h:x=some y):ka (d7 sz f x) (.eW sz (some (f y))):=P2 (XS h)
theorem zx {b7:Nat->Option Nat}(sz:Nat)(cg:fZ){f:bj->List an}(jI:bj->List an){raw:List (List an)}{xs:List bj}(e:raw=xs.map f)(h:∀x,(f x).map (nI b7)=jI x):aM.mk sz (xs.map jI) cg=jD b7 (aM.mk sz raw cg):=P5 e h
end
def aK {bj:Type}(s:Nat)(f:bj->List an)(l:List bj):List aM:=[aM.mk s (l.map f) .live]
def c7 {bj:Type}(s:Nat)(f:bj->List an)(l:List bj):aM:=aM.mk s (l.map f) .live
def eJ {bj:Type}(s:Nat)(f:bj->List an)(P:List (List bj)):List aM:=P.map (jq .live s f)
def ag (n:Nat):cw:= .aE (ax n [])
def ca (a:Nat)(x:eG)(b:Nat):List (eG×Bool):=ax a (ap x (ax b []))
def oh:List Nat->List Src
 | []=>[]
 | n::l=> .row n::oh l
def rM (l:List Nat):Nat->Option Nat:=oO 0 (oh l)
def mW (l:List Nat):Nat->Option Nat:=s6 (oh l)
section
variable {bj:Type}
theorem Co (T:Nat->Option Nat)(a d b c:Nat)(h:T d=some a)(aH:List cM):aM.mk 1 (aH.map (cl a b c)) .live=jD T (aM.mk 1 (aH.map (cl d b c)) .live):=zx 1 .live (cl a b c) (fI (cl d b c) aH) (A8 h)
theorem nT (T:Nat->Option Nat)(s:Nat){f:bj->List an}(g:∀x,∀v∈f x,v.il=true)(aH:List bj):aM.mk s (aH.map f) .live=jD T (aM.mk s (aH.map f) .live):=zx s .live f (fI f aH) (pU g)
theorem eO (T:Nat->Option Nat)(a d b c:Nat)(h:T d=some a)(aH:List cM):[aM.mk 1 (aH.map (cl a b c)) .live]=[aM.mk 1 (aH.map (cl d b c)) .live].map (jD T):=ji (Co T a d b c h aH) sW
theorem eR (T:Nat->Option Nat)(s:Nat){f:bj->List an}(g:∀x,∀v∈f x,v.il=true)(P:List (List bj)):P.map (jq .live s f)=(P.map (jq .live s f)).map (jD T):=qv (RP .live s f P) (pU g)
theorem i1 (T:Nat->Option Nat)(s:Nat)(v w:List (List an))(h:aM.mk s v .live=jD T (aM.mk s w .live)):[aM.mk s v .live]=[aM.mk s w .live].map (jD T):=ji h sW
theorem q3 (s:Nat)(f:bj->List an)(P:List (List bj)):oI (P.map (jq .live s f)):=G6 (RP .live s f P)
theorem jc (s:Nat)(v:List (List an)):oI [aM.mk s v .live]:=oz rfl Hl
theorem ij (f:bj->List an)(l:List bj):l.map f=((l.map f).drop 0).take l.length:=l8 (fI f l) (gW l)
theorem hJ (f:bj->List an)(l:List bj):0+l.length<=(l.map f).length:=nY (fI f l) (gW l)
theorem o6 (f:bj->List an)(l:List bj):l.length<=(l.map f).length:=r8 (fI f l) (gW l)
theorem jm (bj:Type):0=([]:List bj).length:=rfl
theorem j3 (f:bj->List an):([]:List (List an))=([]:List bj).map f:=rfl
theorem ae2 (f:bj->List an)(x:bj):1<=[f x].length:=dE _
theorem wL (f:bj->List an)(x:bj):([f x].drop 0).take 1=[x].map f:=rfl
theorem kt (f:bj->List an)(x:bj):0+1<=[f x].length:=dE _
theorem np (f:bj->List an)(l:List bj)(x:bj):(l++([x]:List bj)).length=l.length+(([f x].drop 0).take 1).length:=sS (gW l) (wL f x)
theorem aa9 (f:bj->List an){l:List bj}{n:Nat}(h:n<=l.length)(x:bj):(l.take n++([x]:List bj)).length=n+(([f x].drop 0).take 1).length:=Hk h (wL f x)
theorem o7 (f:bj->List an)(l:List bj)(x:bj):(l.map f).take l.length++([f x].drop 0).take 1=(l++[x]).map f:=pd (fI f l) (gW l) (wL f x)
end
structure fe (α β:Type) where
 h:α->S
 I:β->qk
section
variable {P:Program} {N m:Nat} {α β:Type}
def fe.t (x:fe α β)(r:β):cw:=(x.I r).acx
abbrev fr (P:Program)(N m f:Nat)(p:List Nat)(x:fe α β)(a:α):α⊕β->Prop:=RN P N m f p (x.h a) x.h x.I
theorem ej {f:Nat}{p:List Nat}{b:α->Option (α⊕β)}{x:fe α β}{a:α}{r:β}(aj:iter b a=some r)(h:∀ {a},bM (b a) (fr P N m f p x a)):RO P N m f p x.h x.I a r:=WX (fun _=>h) aj
end
def _root_.List.bo {bj:Type}(a b:List bj):List bj:=a.append b
def gg:List rK:=[.id,.id,.id,.id,.id]
def iN:List rK:=[.id,.id,.id,.id,.id,.id]
def ss (a b:Nat):lW:={ke:=some (a,b)}
def qT (l:List (Nat×Nat)):lW:={bz:=l}
def aba (l:List (Nat×Nat))(a b:Nat):lW:={bz:=l,ke:=some (a,b)}
theorem qa:(1000000000:Int)≠0:=by decide
theorem Jg {bj:Type}(f:bj->List an)(l:List bj):(([]:List (List an)).take 0)++l.map f=([]++l).map f:=pd (j3 f) (jm bj) (fI f l)
theorem aC (s:Nat){bj:Type}{f:bj->List an}(b0:∀x,∀v∈f x,Pure v)(l:List bj):yq [aM.mk s (l.map f) .live]:=sy s .live b0 l
theorem d9 (s:Nat){bj:Type}{raw:List (List an)}{f:bj->List an}{l:List bj}(e:raw=l.map f):[aM.mk s raw .live]=[aM.mk s (l.map f) .live]:=acy s .live e
theorem iU (s:Nat){bj:Type}(f:bj->List an)(P:List (List bj)):P.map (jq .live s f)=P.map (jq .live s f):=rfl
theorem aeh (s:Nat){bj:Type}(f:bj->List an)(l:List bj)(i:Int)(x:bj):[aM.mk s ((l.map f).set (0+i.toNat) (f x)) .live]=[aM.mk s ((l.set (0+i.toNat) x).map f) .live]:=d9 s (rh (fI f l) (0+i.toNat) x)
theorem hH {bj:Type}(f:bj->List an)(l:List bj)(i:Int)(x:bj):(l.map f).set (0+i.toNat) (f x)=(l.set (0+i.toNat) x).map f:=rh (fI f l) (0+i.toNat) x
theorem hO {bj:Type}(l:List bj)(i:Int)(x:bj):l.length=(l.set (0+i.toNat) x).length:=DW (gW l) (0+i.toNat) x
def nd (n:Nat)(l:ar):eG:=fC n (.isl 1 (l.map R)) false
def kn (n:Nat)(x:Int):eG:=fC n (.n .i64 x) true
def fD (n:Nat)(x:Bool):eG:=fC n (.b x) true
theorem Jh {bj:Type}(l:List bj):ck (.bK 0 0 0 l.length):=ck.bK 0 0 0 l.length
theorem EV (T:Nat->Option Nat)(a b:ar):[aM.mk 1 (a.map R) .live,aM.mk 1 (b.map R) .live]=[aM.mk 1 (a.map R) .live,aM.mk 1 (b.map R) .live].map (jD T):=ji (nT T 1 pT a) (ji (nT T 1 pT b) (sW (b7:=T)))
theorem aei (T:Nat->Option Nat)(a b c:ar):[aM.mk 1 (a.map R) .live,aM.mk 1 (b.map R) .live,aM.mk 1 (c.map R) .live]=[aM.mk 1 (a.map R) .live,aM.mk 1 (b.map R) .live,aM.mk 1 (c.map R) .live].map (jD T):=ji (nT T 1 pT a) (ji (nT T 1 pT b) (ji (nT T 1 pT c) (sW (b7:=T))))
def fQ (n:Nat)(l:ar):Nat×an:=(n,.isl 1 (l.map R))
def hh {bj:Type}(n:Nat)(l:List bj):Nat×an:=(n,.bK 0 0 0 l.length)
def bF (n:Nat)(x:Int):Nat×an:=(n,.n .i64 x)
def qU (a b:ar):List an:=[.isl 1 (a.map R),.isl 1 (b.map R)]
def Q5 (l:ar):zv:={aO:=[],cn:=[],ac:=[ii],r:= .bK 0 0 0 l.length,de:=[aK 1 R l],eE:=ii,fo:=[.pure],c8:=[],c1:=true}
def nf (n m:Nat):List (eG×Bool):=ax n (ek m (ap (.ay true) []))
def oV (n:Nat):List (eG×Bool):=ax n (ap (.ay false) [])
def aej (n m:Nat):List (eG×Bool):=ek n (ap (.ay false) (ax m []))
def lz (n:Nat):List (eG×Bool):=ap (.ay false) (ax n [])
def oW (n m:Nat):List cw:=[.ay true,ag n,.br [] [] (bZ [m])]
def qb (n r m:Nat):List cw:=[ag n,.ay false,.br [r] [.pure] (bZ [m])]
def st (n:Nat):List cw:=[ag n,.ay false,.br [] [] []]
def Ji (n m:Nat):List cw:=[ag n,.ay false,.br [] [] (bZ [m])]
def l0 {bj:Type}(a:Nat)(l:List bj)(b:Nat):List (eG×Bool):=ca a (.a1 l.length) b
def iV (a:Nat)(x:Int)(b:Nat):List (eG×Bool):=ca a (.db (R x)) b
theorem Jj (l:ar):uu [aK 1 R l]:=Hm (vk (tY vH) HB) HA
def gq {bj:Type}(n:Nat)(g:List bj):Nat×kE:=(n,aa7 g.length)
theorem EW (n:Int):([n]:ar).map R=(([[.n .i64 n]]:List (List an)).drop 0).take 1:=l8 (show [[.n .i64 n]]=([n]:ar).map R from rfl) (show 1=([n]:ar).length from rfl)
theorem WY {P:Program}{t:TypeId}{w:World}(ch:P.underlying t=some (.int .u8))(aL:P.cellsOf t=1):rn P w t eU8 (fun _=>True) where
 pure:=Oe
 size:=fun a=>aL.symm
 opens:=fun h=>by obtain⟨n,rfl,-,hw⟩:=DataW.trod_int ch h;exact⟨n,trivial,.one rfl (.n _ _)⟩
theorem cI {x:Int}(o:-9223372036854775808<=x)(J:x<9223372036854775808):U x=x:=by
 simp only[U,IntKind.wrap,IntKind.signed,IntKind.bits];have:((2:Int) ^ 64)=18446744073709551616:=by decide
 have v5:((2:Int) ^ 63)=9223372036854775808:=by decide
 simp;omega
theorem ms {x:Int}:oP x↔ -9223372036854775808<=x/\x<9223372036854775808:=by
 have o:IntKind.min .i64 = -9223372036854775808:=by decide
 have J:IntKind.max .i64=9223372036854775807:=by decide
 simp only[oP,Lit.wf,o,J,afd,decide_eq_true_eq];omega
theorem WZ {α β:Type}{f:α->Option (α⊕β)}{s:Nat->α}{r:β}(n:Nat): ∀(k:Nat),(∀i,k<=i->i<k+n->f (s i)=some (.inl (s (i+1))))->f (s (k+n))=some (.inr r)->iter f (s k)=some r:=by
 induction n with
 | zero =>
  intro k _ h;rw[iter];simp at h;simp[h]
 | succ n ih =>
  intro k o J;rw[iter,o k (dE _) (by omega)];simp;exact ih (k+1) (fun i ab aA=>o i (by omega) (by omega)) (by rw[show k+1+n=k+(n+1) by omega];exact J)
def scan {α β:Type}(t:Nat->α->Option β):Nat->List α->Option β
 | _,[]=>none
 | n,x::xs=>match t n x with
  | some b=>some b
  | none=>scan t (n+1) xs
theorem V5 {α β:Type}{f:Int->Option (Int⊕β)}{t:Nat->α->Option β}{e:β}: ∀(xs:List α) (k:Nat),
 (∀n x,xs[n]? = some x->f ((k+n:Nat):Int)=some (match t (k+n) x with|some b=> .inr b|none=> .inl ((k+n+1:Nat):Int)))->f ((k+xs.length:Nat):Int)=some (.inr e)->iter f (k:Int)=some ((scan t k xs).getD e)
 | [],k,_,h=>by rw[iter];simp at h;simp[h,scan]
 | x::xs,k,o,J=>by
  have ab:=o 0 x rfl;simp only[Nat.add_zero] at ab;rw[iter,ab];simp only[scan]
  cases ch:t k x with
  | some b=>simp
  | none =>
   simp only[dD,dB];refine V5 xs (k+1) (fun n y aP=> ?_) ?_
   ·have:=o (n+1) y (by simpa using aP);rw[show k+(n+1)=k+1+n by omega] at this;exact this
   rw[show k+1+xs.length=k+(x::xs).length by simp;omega];exact J
theorem j9 {α β:Type}{f:α->Option (α⊕β)}(eA:α->Prop)(m:α->Nat)(Q:β->Prop)
 (h : ∀a,eA a->(∃dr,f a=some (.inl dr)/\eA dr/\m dr<m a)\/ ∃r,f a=some (.inr r)/\Q r) : ∀a,eA a-> ∃r,iter f a=some r/\Q r:=by
 have key : ∀n a,m a<=n->eA a-> ∃r,iter f a=some r/\Q r:=by
  intro n
  induction n with
  | zero =>
   intro a hm cT;rcases h a cT with ⟨dr,-,-,ab⟩|⟨r,o,J⟩
   ·omega
   exact⟨r,by rw[iter,o];rfl,J⟩
  | succ n ih =>
   intro a hm cT;rcases h a cT with ⟨dr,o,J,ab⟩|⟨r,o,J⟩
   ·obtain⟨r,ad,bu⟩:=ih dr (by omega) J;exact⟨r,by rw[iter,o];exact ad,bu⟩
   exact⟨r,by rw[iter,o];rfl,J⟩
 exact fun a cT=>key (m a) a (dE _) cT
theorem adk {α:Type}{f:Int×List α->Option ((Int×List α)⊕List α)}(xs aw:List α)(h0:aw.length=xs.length)
 (Ia : ∀(n:Nat) x row,xs[n]? = some x->row.length=xs.length->f ((n:Int),row)=some (.inl (((n+1:Nat):Int),row.set n x)))
 (yQ : ∀row,f ((xs.length:Int),row)=some (.inr row)):iter f (0,aw)=some xs:=by
 have h:=WZ (f:=f) (s:=fun n=>((n:Int),xs.take n++aw.drop n)) (r:=xs) xs.length 0 (fun i _ ae=> ?_) ?_
 ·simpa using h
 ·have iC:i<xs.length:=by omega
  rw[Ia i xs[i] _ (dx iC) (by simp;omega)];congr 3;apply afo;intro j;rw[aff];simp only[dH,List.length_take,List.length_drop,List.getElem?_append,dR,afm];by_cases av:i=j
  ·subst av;have ao:min (i+1) xs.length=i+1:=(by omega);simp[ao,iC];omega
  rw[dA av];by_cases dq:j<i
  ·have ao:j<min i xs.length:=(by omega);have aB:j<min (i+1) xs.length:=(by omega);rw[dw ao,dw aB,dw dq,dw (by omega)]
  have ao : ¬j<min i xs.length:=(by omega);have aB : ¬j<min (i+1) xs.length:=(by omega);rw[dA ao,dA aB];congr 1;omega
 simp only[dF];rw[yQ];simp[h0]
theorem adl {α β:Type}{f:α->Option (α⊕β)}(Q:β->Prop)(h:∀a r,f a=some (.inr r)->Q r): ∀a r,iter f a=some r->Q r:=by
 apply iter.partial_correctness f (fun _ r=>Q r);intro it ih a r aj
 cases b0:f a with
 | none=>rw[b0] at aj;simp at aj
 | some x =>
  rw[b0] at aj
  cases x with
  | inl dr=>exact ih dr r aj
  | inr ep =>
   have hp:some ep=some r:=aj;obtain rfl:=dI hp;exact h a _ b0
theorem ady {α β bj:Type}{f:α->Option (α⊕β)}{g:α->Option (α⊕bj)}(h:β->bj)(eA:α->Prop)(cT:∀a dr,eA a->f a=some (.inl dr)->eA dr)(abb:∀a,eA a->g a=(f a).map (Sum.map id h)):
 ∀a r,iter f a=some r->eA a->iter g a=some (h r):=by
 apply iter.partial_correctness f (fun a r=>eA a->iter g a=some (h r));intro it ih a r aj bA;have dt:=abb a bA
 cases b0:f a with
 | none=>rw[b0] at aj;simp at aj
 | some x =>
  rw[b0] at aj dt
  cases x with
  | inl dr =>
   rw[iter,dt];exact ih dr r aj (cT a dr bA b0)
  | inr ep =>
   have hp:some ep=some r:=aj;obtain rfl:=dI hp;rw[iter,dt];rfl
def te {α hK β:Type}(g:Nat->hK->α->hK⊕β)(e:hK->β):List α->Nat->hK->β
 | [],_,s=>e s
 | x::xs,n,s=>match g n s x with
  | .inl bH=>te g e xs (n+1) bH
  | .inr b=>b
theorem NR {α hK m0 β:Type}{f:m0->Option (m0⊕β)}(cO:Nat->hK->m0)(g:Nat->hK->α->hK⊕β)(e:hK->β)(eA:Nat->hK->Prop)(bi:List α)
 (h : ∀n s x,eA n s->bi[n]? = some x->f (cO n s)=some (match g n s x with | .inl bH=> .inl (cO (n+1) bH) | .inr b=> .inr b)/\ ∀bH,g n s x = .inl bH->eA (n+1) bH)
 (he : ∀s,eA bi.length s->f (cO bi.length s)=some (.inr (e s))) : ∀(xs:List α) (n:Nat) (s:hK),bi.drop n=xs->n<=bi.length->eA n s->iter f (cO n s)=some (te g e xs n s)
 | [],n,s,bz,aV,cT=>by have:n=bi.length:=(by have:=congrArg List.length bz;simp at this;omega);subst this;rw[iter,he s cT];rfl
 | x::xs,n,s,bz,aV,cT=>by
  have aa:bi[n]? = some x:=(by have:=congrArg (·[0]?) bz;simpa using this);have dq:=fN aa;obtain⟨o,J⟩:=h n s x cT aa;rw[iter,o];simp only[te]
  cases dt:g n s x with
  | inr b=>rfl
  | inl bH =>
   simp only[dD,dB];refine NR cO g e eA bi h he xs (n+1) bH ?_ (by omega) (J bH dt);rw[<- List.drop_drop,bz];rfl
theorem Nn {α hK m0 β:Type}{f:m0->Option (m0⊕β)}(cO:Nat->hK->m0)(g:Nat->hK->α->hK⊕β)(e:hK->β)(bi:List α)
 (h : ∀n s x,bi[n]? = some x->f (cO n s)=some (match g n s x with | .inl bH=> .inl (cO (n+1) bH) | .inr b=> .inr b))
 (he : ∀s,f (cO bi.length s)=some (.inr (e s))) (s:hK):iter f (cO 0 s)=some (te g e bi 0 s) :=
 NR cO g e (fun _ _=>True) bi (fun n s x _ aa=>⟨h n s x aa,fun _ _=>trivial⟩) (fun s _=>he s) bi 0 s rfl (Nat.zero_le _) trivial
theorem W0 {α:Type}{f:Int->Option (Int⊕(Unit⊕Unit))}(xs:List α)(p:α->Bool)
 (h : ∀(n:Nat) x,xs[n]? = some x->f n=some (if p x then .inl ((n+1:Nat):Int) else .inr (.inr ()))) (he:f xs.length=some (.inr (.inl ()))) :
 iter f 0=some (if xs.all p then .inl () else .inr ()):=by
 have:=Nn (f:=f) (hK:=Unit) (fun n _=>(n:Int)) (fun _ _ x=>if p x then .inl () else .inr (.inr ())) (fun _=> .inl ()) xs (fun n _ x aa=>by rw[h n x aa];cases p x<;>rfl) (fun _=>he) ();rw[show ((0:Nat):Int)=0 from rfl] at this;rw[this];congr 1
 have key : ∀(bi:List α) (n:Nat),te (fun (_:Nat) (_:Unit) x=>if p x then Sum.inl () else Sum.inr (Sum.inr ())) (fun _=>(Sum.inl ():Unit⊕Unit)) bi n ()=if bi.all p then .inl () else .inr ():=by
  intro bi
  induction bi with
  | nil=>intro n;rfl
  | cons y bi ih =>
   intro n;simp only[te,List.all_cons];by_cases ah:p y=true
   ·simpa [ah] using ih (n+1)
   simp[ah]
 exact key xs 0
theorem NS {α:Type}{f:Int->Option (Int⊕(Unit⊕Int))}(xs:List α)(p:α->Bool)
 (h : ∀(n:Nat) x,xs[n]? = some x->f n=some (if p x then .inr (.inr (n:Int)) else .inl ((n+1:Nat):Int))) (he:f xs.length=some (.inr (.inl ()))) :
 ∃r,iter f 0=some r/\((∃k:Int,r = .inr k/\0<=k/\xs.any p=true)\/(r = .inl ()/\xs.any p=false)):=by
 have:=Nn (f:=f) (hK:=Unit) (fun n _=>(n:Int)) (fun n _ x=>if p x then .inr (.inr (n:Int)) else .inl ()) (fun _=> .inl ()) xs (fun n _ x aa=>by rw[h n x aa];cases p x<;>rfl) (fun _=>he) ();rw[show ((0:Nat):Int)=0 from rfl] at this;refine⟨_,this,?_⟩
 have key : ∀(bi:List α) (n:Nat),(∃k:Int,te (fun (n:Nat) (_:Unit) x=>if p x then Sum.inr (Sum.inr (n:Int)) else Sum.inl ()) (fun _=>(Sum.inl ():Unit⊕Int)) bi n () = .inr k/\0<=k/\bi.any p=true) \/
  (te (fun (n:Nat) (_:Unit) x=>if p x then Sum.inr (Sum.inr (n:Int)) else Sum.inl ()) (fun _=>(Sum.inl ():Unit⊕Int)) bi n () = .inl ()/\bi.any p=false):=by
  intro bi
  induction bi with
  | nil=>intro n;exact .inr ⟨rfl,rfl⟩
  | cons y bi ih =>
   intro n;simp only[te,List.any_cons];by_cases ah:p y=true
   ·exact .inl ⟨n,by simp[ah],by omega,by simp[ah]⟩
   simpa [ah] using ih (n+1)
 exact key xs 0
theorem nq {n:Nat}(h:(n:Int)<9223372036854775807):U ((n:Int)+1)=((n+1:Nat):Int):=by rw[cI (by omega) (by omega)];rfl
def V:ar->Int
 | []=>0
 | x::xs=>x+1000000000*V xs
def cy (l:ar):Prop:= ∀x∈l,0<=x/\x<1000000000
abbrev B (n:Nat):Int:=(1000000000:Int) ^ n
theorem mw (n:Nat):B (n+1)=1000000000*B n:=by rw[B,B,Int.pow_succ];exact Int.mul_comm _ _
theorem oJ (n:Nat):1<=B n:=by
 induction n with
 | zero=>simp[B]
 | succ n ih=>rw[mw];omega
theorem A9 (m n:Nat):B (m+n)=B m*B n:=by rw[B,B,B,Int.pow_add]
theorem tZ {m n:Nat}(h:m<=n):B m<=B n:=by
 induction n with
 | zero =>
  have:m=0:=(by omega);subst this;exact Int.le_refl _
 | succ n ih =>
  by_cases hm:m=n+1
  ·subst hm;exact Int.le_refl _
  have o:=ih (by omega);have J:=oJ n;rw[mw];omega
theorem cy.tail {x:Int}{l:ar}(h:cy (x::l)):cy l:=fun y aP=>h y (by simp[aP])
theorem cy.head {x:Int}{l:ar}(h:cy (x::l)):0<=x/\x<1000000000:=h x (by simp)
theorem cy.nil:cy []:=fun _ h=>by simp at h
theorem cy.cons {x:Int}{l:ar}(h:0<=x/\x<1000000000)(aF:cy l):cy (x::l):=fun y aP=>by
 rcases dO.mp aP with rfl|o
 ·exact h
 exact aF y o
theorem cy.get {l:ar}(h:cy l){n:Nat}{x:Int}(aa:l[n]? = some x):0<=x/\x<1000000000:=h x (dG aa)
theorem cy.take {l:ar}(h:cy l)(n:Nat):cy (l.take n):=fun x aa=>h x (List.mem_of_mem_take aa)
theorem cy.drop {l:ar}(h:cy l)(n:Nat):cy (l.drop n):=fun x aa=>h x (List.mem_of_mem_drop aa)
theorem cy.append {l m:ar}(h:cy l)(cf:cy m):cy (l++m):=fun x aa=>by
 rcases List.mem_append.mp aa with o|o
 ·exact h x o
 exact cf x o
theorem cy.set {l:ar}(h:cy l){n:Nat}{x:Int}(aa:0<=x/\x<1000000000):cy (l.set n x):=fun y aP=>by
 rcases List.mem_or_eq_of_mem_set aP with o|rfl
 ·exact h y o
 exact aa
theorem cy.Jk (n:Nat):cy (List.replicate n 0):=fun x aa=>by have:=(List.mem_replicate.mp aa).2;omega
theorem Ba:V []=0:=rfl
theorem k4 (x:Int)(l:ar):V (x::l)=x+1000000000*V l:=rfl
theorem kI {l:ar}(h:cy l):0<=V l:=by
 induction l with
 | nil=>simp[V]
 | cons x l ih =>
  have o:=ih h.tail;have J:=h.head;rw[k4];omega
theorem mz {l:ar}(h:cy l):V l<B l.length:=by
 induction l with
 | nil=>simp[V,B]
 | cons x l ih =>
  have o:=ih h.tail;have J:=h.head;rw[k4,dM,mw];omega
theorem yk (a b:ar):V (a++b)=V a+B a.length*V b:=by
 induction a with
 | nil=>simp[V,B]
 | cons x a ih =>
  rw[List.cons_append,k4,k4,dM,mw,ih];grind
theorem Ic (n:Nat):V (List.replicate n 0)=0:=by
 induction n with
 | zero=>rfl
 | succ n ih=>rw[List.replicate_succ,k4,ih];rfl
theorem sc {l:ar}{n:Nat}{x y:Int}(h:l[n]? = some y):V (l.set n x)=V l+(x-y)*B n:=by
 induction l generalizing n with
 | nil=>simp at h
 | cons z l ih =>
  cases n with
  | zero =>
   simp at h;subst h;rw[List.set_cons_zero,k4,k4];simp[B];omega
  | succ n =>
   rw[List.set_cons_succ,k4,k4,ih (by simpa using h),mw];grind
theorem vo {l:ar}{n:Nat}(h:n<=l.length):V l=V (l.take n)+B n*V (l.drop n):=by have:=yk (l.take n) (l.drop n);rw[List.take_append_drop] at this;rw[this,List.length_take,Nat.min_eq_left h]
theorem sT {l:ar}{n:Nat}{x:Int}(h:l[n]? = some x):V (l.take (n+1))=V (l.take n)+B n*x:=by
 have aV:=fN h;have:l.take (n+1)=l.take n++[x]:=by rw[List.take_add_one,h];rfl
 rw[this,yk,List.length_take,Nat.min_eq_left (by omega)];simp[V]
theorem Of {α:Type}{l:List α}{n:Nat}{x:α}(h:l[n]? = some x):l.drop n=x::l.drop (n+1):=by have aV:=fN h;rw[dx aV] at h;rw[List.drop_eq_getElem_cons aV];simp at h;rw[h]
theorem oE {l:ar}{n:Nat}{x:Int}(h:l[n]? = some x):V (l.drop n)=x+1000000000*V (l.drop (n+1)):=by rw[Of h,k4]
def eZ (l:ar):Prop:=cy l/\ ∀x,l.getLast? = some x->x≠0
theorem eZ.aek {l:ar}(h:eZ l):cy l:=h.1
theorem eZ.nil:eZ []:=⟨cy.nil,fun _ h=>by simp at h⟩
theorem eZ.tail {x:Int}{l:ar}(h:eZ (x::l)):eZ l:=⟨h.1.tail,fun y aP=>h.2 y (by
 cases l with
 | nil=>simp at aP
 | cons z l=>simpa using aP)⟩
theorem rp {l:ar}(h:eZ l)(aF:l≠[]):0<V l:=by
 induction l with
 | nil=>exact absurd rfl aF
 | cons x l ih =>
  have o:=h.1.head;by_cases J:l=[]
  ·subst J;have:=h.2 x (by simp);simp[V];omega
  have:=ih h.tail J;rw[k4];omega
theorem EC {l:ar}(h:eZ l)(aF:l≠[]):B (l.length-1)<=V l:=by
 induction l with
 | nil=>exact absurd rfl aF
 | cons x l ih =>
  have o:=h.1.head;by_cases J:l=[]
  ·subst J;have:=h.2 x (by simp);simp[V,B];omega
  have ab:=ih h.tail J;have aA:(x::l).length-1=(l.length-1)+1:=(by have:=afs.mpr J;simp;omega);rw[k4,aA,mw];omega
def uH (n:Nat):ar:=if h:n=0 then [] else ((n % 1000000000:Nat):Int)::uH (n / 1000000000)
decreasing_by exact Nat.div_lt_self (Nat.pos_of_ne_zero h) (by decide)
def L (n:Int):ar:=uH n.toNat
theorem Pu (n:Nat):eZ (uH n)/\V (uH n)=n:=by
 induction n using Nat.strongRecOn with
 | ind n ih =>
  rw[uH];by_cases h:n=0
  ·subst h;simp[V,eZ.nil]
  rw[dif_neg h];obtain⟨o,J⟩:=ih (n / 1000000000) (Nat.div_lt_self (Nat.pos_of_ne_zero h) (by decide));refine⟨⟨cy.cons (by omega) o.1,fun x aa=> ?_⟩,?_⟩
  ·by_cases ab:uH (n / 1000000000)=[]
   ·rw[ab] at aa J;simp[V] at aa J;omega
   refine o.2 x ?_
   cases aA:uH (n / 1000000000) with
   | nil=>exact absurd aA ab
   | cons z l=>rw[aA] at aa;simpa using aa
  rw[k4,J];omega
theorem jr (n:Int):eZ (L n):=(Pu _).1
theorem kx (n:Int):cy (L n):=(jr n).1
theorem fA {n:Int}(h:0<=n):V (L n)=n:=by rw[L,(Pu _).2];omega
theorem Zz {a b:ar}(bA:eZ a)(aN:eZ b)(h:V a=V b):a=b:=by
 induction a generalizing b with
 | nil =>
  by_cases o:b=[]
  ·exact o.symm
  have:=rp aN o;simp[V] at h;omega
 | cons x a ih =>
  cases b with
  | nil =>
   have:=rp bA (by simp);rw[h] at this;simp[V] at this
  | cons y b =>
   have o:=bA.1.head;have J:=aN.1.head;rw[k4,k4] at h;have ab:x=y:=(by omega);have aA:=ih bA.tail aN.tail (by omega);rw[ab,aA]
theorem tn {l:ar}(h:eZ l):L (V l)=l:=Zz (jr _) h (fA (kI h.1))
theorem vT {l:ar}{n:Int}(h:eZ l)(aZ:V l=n):l=L n:=by rw[<- aZ,tn h]
theorem pe:L 0=[]:=by rw[L,uH];rfl
theorem P7 {n:Int}(h:n<=0):L n=[]:=by rw[L,Int.toNat_eq_zero.mpr h];exact pe
theorem im {n:Int}{k:Nat}(h:0<=n):(L n).length<=k↔n<B k:=by
 constructor
 ·intro o;have J:=mz (kx n);rw[fA h] at J;have:=tZ o;omega
 intro o;by_cases J:L n=[]
 ·rw[J];simp
 have ab:=EC (jr n) J;rw[fA h] at ab;have aA:=afs.mpr J;apply Nat.le_of_not_lt;intro aJ;have:=tZ (m:=k) (n:=(L n).length-1) (by omega);omega
theorem eZ.len {l:ar}(h:eZ l){k:Nat}:l.length<=k↔V l<B k:=by
 have:=im (n:=V l) (k:=k) (kI h.1)
 rwa [tn h] at this
theorem uc {n:Int}:L n=[]↔n<=0:=by
 constructor
 ·intro h;apply Int.not_lt.mp;intro o;have:=fA (n:=n) (by omega);rw[h] at this;simp[V] at this;omega
 exact P7
theorem eZ.pos {l:ar}(h:eZ l):0<V l↔l≠[]:=by
 constructor
 ·intro o J;subst J;simp[V] at o
 exact rp h
theorem eZ.HD {l:ar}(aF:cy l)(n:Nat)(h:∀x,l[n]? = some x->x≠0):eZ (l.take (n+1))\/l.length<=n:=by
 by_cases aV:n<l.length
 ·refine .inl ⟨aF.take _,fun x aa=>h x ?_⟩;rw[List.take_add_one,dx aV,show (some l[n]).toList=[l[n]] from rfl,List.getLast?_append] at aa;rw[dx aV];exact aa
 exact .inr (by omega)
theorem eZ.one {x:Int}(h:0<x/\x<1000000000):eZ [x]:=⟨cy.cons (by omega) cy.nil,fun y aP=>by simp at aP;omega⟩
theorem DX {x:Int}(h:0<x/\x<1000000000):L x=[x]:=(vT (eZ.one h) (by simp[V])).symm
def lq (a b:Int):Int:=if a<b then -1 else if b<a then 1 else 0
theorem DY {a b:ar}(bA:eZ a)(aN:eZ b)(h:a.length<b.length):V a<V b:=by
 have o:=mz bA.1;have kT:b≠[]:=by intro J;rw[J] at h;simp at h
 have J:=EC aN kT;have:=tZ (m:=a.length) (n:=b.length-1) (by omega);omega
theorem OU {a b:ar}(bA:cy a)(aN:cy b){n:Nat}{x y:Int}(aa:a[n]? = some x)(aP:b[n]? = some y)(h:V (a.drop (n+1))=V (b.drop (n+1)))(Jl:x<y):V a<V b:=by
 have o:=vo (Nat.le_of_lt (fN aa));have J:=vo (Nat.le_of_lt (fN aP));rw[oE aa] at o;rw[oE aP,<- h] at J;have ab:=mz (bA.take n);have aA:=kI (aN.take n);rw[List.length_take,Nat.min_eq_left (Nat.le_of_lt (fN aa))] at ab;have aJ:=oJ n;rw[o,J];generalize V (a.drop (n+1))=t at *;generalize V (a.take n)=p at *;generalize V (b.take n)=q at *;generalize B n=w at *;have:w*(x+1000000000*t)+w<=w*(y+1000000000*t):=by have bC:w*(x+1000000000*t+1)<=w*(y+1000000000*t):=dL (by omega) (by omega);rw[Int.mul_add,Int.mul_one] at bC;exact bC
 omega
theorem Og {α:Type}{bi:List α}{p:α->Bool}{n:Nat}{y:α}(aP:bi[n]? = some y)(h:(bi.take n).all p=true)(ah:p y=true):(bi.take (n+1)).all p=true:=by rw[List.take_add_one,aP,List.all_append,h];simp[ah]
theorem Pv {α:Type}{bi:List α}{p:α->Bool}{n:Nat}{y:α}(aP:bi[n]? = some y)(ah:p y=false):bi.all p=false:=by rw[List.all_eq_false];exact⟨y,dG aP,by simp[ah]⟩
theorem adz {α β:Type}{f:Int×List β->Option ((Int×List β)⊕(List β⊕Unit))}(bi:List α)(ok:α->Bool)(h:α->β)
 (bO : ∀(n:Nat) y row,bi[n]? = some y->row.length=n->f ((n:Int),row)=some (if ok y then .inl (((n+1:Nat):Int),row++[h y]) else .inr (.inr ())))
 (he : ∀row,f ((bi.length:Int),row)=some (.inr (.inl row))):iter f (0,[])=some (if bi.all ok then .inl (bi.map h) else .inr ()):=by
 obtain⟨r,aj,rfl⟩:=j9 (f:=f) (eA:=fun w=> ∃n:Nat,w.1=n/\n<=bi.length/\w.2=(bi.take n).map h/\(bi.take n).all ok=true) (m:=fun w=>bi.length-w.1.toNat) (fun r=>r=if bi.all ok then .inl (bi.map h) else .inr ()) (by
  rintro⟨i,row⟩ ⟨n,o,aV,J,ab⟩;simp only at o J;subst o J;by_cases aF:n=bi.length
  ·subst aF;refine .inr ⟨_,he _,?_⟩;rw[List.take_length] at ab ⊢;rw[ab];rfl
  have aP:=dx (show n<bi.length by omega);have cV:((bi.take n).map h).length=n:=(by simp;omega);rw[bO n _ _ aP cV];by_cases ai:ok bi[n]=true
  ·refine .inl ⟨_,by rw[dw ai],⟨n+1,rfl,by omega,?_,Og aP ab ai⟩,by simp;omega⟩;simp only;rw[List.take_add_one,aP,show (some bi[n]).toList=[bi[n]] from rfl,List.map_append];rfl
  refine .inr ⟨_,by rw[dA ai],?_⟩;rw[Pv aP (by simpa using ai)];rfl) (0,[]) ⟨0,rfl,by omega,by simp,by simp⟩
 exact aj
theorem adm {α β:Type}{f:Int×List β->Option ((Int×List β)⊕(List β⊕Unit))}(bi:List α)(ok:α->Bool)(h:α->β)(aw:List β)(h0:aw.length=bi.length)
 (bO : ∀(n:Nat) y row,bi[n]? = some y->row.length=bi.length->f ((n:Int),row)=some (if ok y then .inl (((n+1:Nat):Int),row.set n (h y)) else .inr (.inr ())))
 (he : ∀row,f ((bi.length:Int),row)=some (.inr (.inl row))):iter f (0,aw)=some (if bi.all ok then .inl (bi.map h) else .inr ()):=by
 obtain⟨r,aj,rfl⟩:=j9 (f:=f) (eA:=fun w=> ∃n:Nat,w.1=n/\n<=bi.length/\w.2.length=bi.length/\w.2.take n=(bi.take n).map h/\(bi.take n).all ok=true) (m:=fun w=>bi.length-w.1.toNat) (fun r=>r=if bi.all ok then .inl (bi.map h) else .inr ()) (by
  rintro⟨i,row⟩ ⟨n,o,aV,hlen,J,ab⟩;simp only at o hlen J;subst o;by_cases aF:n=bi.length
  ·subst aF;refine .inr ⟨_,he _,?_⟩;rw[List.take_length] at ab J;rw[dT (by omega)] at J;rw[ab,J];rfl
  have aP:=dx (show n<bi.length by omega);rw[bO n _ _ aP hlen];by_cases ai:ok bi[n]=true
  ·refine .inl ⟨_,by rw[dw ai],⟨n+1,rfl,by omega,by simpa using hlen,?_,Og aP ab ai⟩,by simp;omega⟩;simp only;rw[List.take_add_one,List.take_add_one,aP,aff,dw rfl,dw (by omega),List.take_set_of_le (by omega),J,show (some bi[n]).toList=[bi[n]] from rfl,List.map_append];rfl
  refine .inr ⟨_,by rw[dA ai],?_⟩;rw[Pv aP (by simpa using ai)];rfl) (0,aw) ⟨0,rfl,by omega,h0,by simp,by simp⟩
 exact aj
theorem V6 {α:Type}{P:Nat->α->Prop}: ∀(n:Nat),(∀k,k<n-> ∃y,P k y)-> ∃bi:List α,bi.length=n/\ ∀k y,bi[k]? = some y->P k y
 | 0,_=>⟨[],rfl,fun k y h=>by simp at h⟩
 | n+1,h=>by
  obtain⟨bi,o,J⟩:=V6 n (fun k aQ=>h k (by omega));obtain⟨y,aP⟩:=h n (by omega);refine⟨bi++[y],by simp[o],fun k z b5=> ?_⟩;by_cases aQ:k<bi.length
  ·rw[afh aQ] at b5;exact J k z b5
  rw[afn (by omega)] at b5;have:k-bi.length=0:=(by have:=fN b5;simp at this;omega);rw[this] at b5;simp at b5;have:k=n:=(by omega);subst this;rw[<- b5];exact aP
theorem adn {α hK m0 β:Type}{f:m0->Option (m0⊕β)}(cO:Nat->hK->m0)(g:hK->α->hK)(e:hK->β)(eA:Nat->hK->Prop)(bi:List α)
 (h : ∀n s x,eA n s->bi[n]? = some x->f (cO n s)=some (.inl (cO (n+1) (g s x)))/\eA (n+1) (g s x))
 (he : ∀s,eA bi.length s->f (cO bi.length s)=some (.inr (e s))) (jb:hK) (h0:eA 0 jb):iter f (cO 0 jb)=some (e (bi.foldl g jb))/\eA bi.length (bi.foldl g jb):=by
 have key : ∀(xs:List α) (n:Nat) (s:hK),bi.drop n=xs->n<=bi.length->eA n s->iter f (cO n s)=some (e (xs.foldl g s))/\eA bi.length (xs.foldl g s):=by
  intro xs
  induction xs with
  | nil =>
   intro n s bz aV cT;have:n=bi.length:=(by have:=congrArg List.length bz;simp at this;omega);subst this;rw[iter,he s cT];exact⟨rfl,cT⟩
  | cons x xs ih =>
   intro n s bz aV cT;have aa:bi[n]? = some x:=(by have:=congrArg (·[0]?) bz;simpa using this);have dq:=fN aa;obtain⟨o,J⟩:=h n s x cT aa;rw[iter,o];exact ih (n+1) (g s x) (by rw[<- List.drop_drop,bz];rfl) (by omega) J
 exact key bi 0 jb rfl (Nat.zero_le _) h0
theorem ado {FC n k:Nat}(h:(List.range FC)[n]? = some k):n=k/\k<FC:=by have aV:=fN h;rw[List.length_range] at aV;rw[List.getElem?_range aV] at h;have:=dI h;omega
section
variable {α β bj:Type}
theorem aD {I:Option β}{f:β->Option α}{x:β}{r:Option α}(h:I=some x)(k:f x=r):(I >>= f)=r:=by rw[h];exact k
theorem dX {p:Prop}[Decidable p] {x r:Option α} (h:p) (k:x=r):(if p then x else none)=r:=by rw[dw h];exact k
theorem eP {b:Bool}{x y r:α}(h:b=true)(k:x=r):(if b=true then x else y)=r:=by rw[dw h];exact k
theorem hk {b:Bool}{x y r:α}(h:b=false)(k:y=r):(if b=true then x else y)=r:=by rw[dA (by rw[h];exact Bool.false_ne_true)];exact k
theorem lf {p:Prop}[Decidable p] {x y r:α} (h:p) (k:x=r):(if decide p=true then x else y)=r:=by rw[dw (decide_eq_true h)];exact k
theorem j4 {p:Prop}[Decidable p] {x y r:α} (h : ¬p) (k:y=r):(if decide p=true then x else y)=r:=by rw[dA (by simpa using h)];exact k
theorem Cp {b:Bool}{x y r:α}(o:b=true->x=r)(J:b=false->y=r):(if b=true then x else y)=r:=by
 cases b
 ·exact J rfl
 exact o rfl
theorem ae3 {I:Option bj}{x r:α}{f:bj->α}(h:I=none)(k:x=r):I.elim x f=r:=by rw[h];exact k
theorem ae4 {I:Option bj}{y:bj}{x r:α}{f:bj->α}(h:I=some y)(k:f y=r):I.elim x f=r:=by rw[h];exact k
theorem gt {l:List α}{i:Int}{n:Nat}{x:α}(e:i=n)(h:l[n]? = some x):l[i.toNat]? = some x:=by rw[e,dz];exact h
theorem ael {l:List α}{i:Int}{n:Nat}(e:i=n)(h:n<l.length):0<=i/\i<(l.length:Nat):=by omega
theorem wm {a b:Int}(h:a=b):(a == b)=true:=by simp[h]
theorem su {a b:Int}(h:a≠b):(a == b)=false:=by simp[h]
theorem Jm {a b:Int}(h:a≠b):(a != b)=true:=by simp[h]
theorem EX {a b:Int}(h:a=b):(a != b)=false:=by simp[h]
theorem rf {hK m0:Type}{f:m0->Option (m0⊕β)}(cO:Nat->hK->m0)(N:Nat)(eA:Nat->hK->Prop)(Q:β->Prop)
 (h : ∀n,n<N-> ∀s,eA n s->(∃bH,f (cO n s)=some (.inl (cO (n+1) bH))/\eA (n+1) bH)\/(∃r,f (cO n s)=some (.inr r)/\Q r))
 (he : ∀s,eA N s-> ∃r,f (cO N s)=some (.inr r)/\Q r) (jb:hK) (h0:eA 0 jb) : ∃r,iter f (cO 0 jb)=some r/\Q r:=by
 have key : ∀(d n:Nat) (s:hK),n+d=N->eA n s-> ∃r,iter f (cO n s)=some r/\Q r:=by
  intro d
  induction d with
  | zero =>
   intro n s aV cT;obtain rfl:n=N:=(by omega);obtain⟨r,o,J⟩:=he s cT;exact⟨r,by rw[iter,o];rfl,J⟩
  | succ d ih =>
   intro n s aV cT;rcases h n (by omega) s cT with ⟨bH,o,J⟩|⟨r,o,J⟩
   ·obtain⟨r,ab,aA⟩:=ih (n+1) bH (by omega) J;exact⟨r,by rw[iter,o];exact ab,aA⟩
   exact⟨r,by rw[iter,o];rfl,J⟩
 exact key N 0 jb (by omega) h0
theorem iv {hK m0:Type}{f:m0->Option (m0⊕β)}(cO:Nat->hK->m0)(N:Nat)(eA:Nat->hK->Prop)(e:hK->β)
 (h : ∀n,n<N-> ∀s,eA n s-> ∃bH,f (cO n s)=some (.inl (cO (n+1) bH))/\eA (n+1) bH)
 (he : ∀s,eA N s->f (cO N s)=some (.inr (e s))) (jb:hK) (h0:eA 0 jb) : ∃s,iter f (cO 0 jb)=some (e s)/\eA N s:=by
 obtain⟨r,o,s,rfl,J⟩:=rf cO N eA (fun r=> ∃s,r=e s/\eA N s) (fun n aV s cT=> .inl (h n aV s cT)) (fun s cT=>⟨_,he s cT,s,rfl,cT⟩) jb h0;exact⟨s,o,J⟩
end
def b3:Nat->(Nat->Rat)->Rat
 | 0,_=>0
 | n+1,f=>b3 n f+f n
theorem ft {f g:Nat->Rat}: ∀ {n:Nat},(∀i,i<n->f i=g i)->b3 n f=b3 n g
 | 0,_=>rfl
 | n+1,h=>by rw[b3,b3,ft fun i ae=>h i (Nat.lt_succ_of_lt ae),h n (Nat.lt_succ_self n)]
theorem nr : ∀ {n:Nat} {f:Nat->Rat},(∀i,i<n->f i=0)->b3 n f=0
 | 0,_,_=>rfl
 | n+1,f,h=>by rw[b3,nr fun i ae=>h i (Nat.lt_succ_of_lt ae),h n (Nat.lt_succ_self n)];grind
theorem vf (f g:Nat->Rat): ∀n,b3 n (fun i=>f i+g i)=b3 n f+b3 n g
 | 0=>by simp only[b3];grind
 | n+1=>by simp only[b3,vf f g n];grind
theorem rb (f g:Nat->Rat): ∀n,b3 n (fun i=>f i-g i)=b3 n f-b3 n g
 | 0=>by simp only[b3];grind
 | n+1=>by simp only[b3,rb f g n];grind
theorem ik (c:Rat)(f:Nat->Rat): ∀n,b3 n (fun i=>c*f i)=c*b3 n f
 | 0=>by simp only[b3];grind
 | n+1=>by simp only[b3,ik c f n];grind
theorem vd (c:Rat)(f:Nat->Rat)(n:Nat):b3 n (fun i=>f i*c)=b3 n f*c:=by rw[ft (g:=fun i=>c*f i) (fun i _=>Rat.mul_comm _ _),ik,Rat.mul_comm]
theorem pc (f:Nat->Nat->Rat)(m:Nat): ∀n,b3 n (fun i=>b3 m (f i))=b3 m (fun j=>b3 n (fun i=>f i j))
 | 0=>by simp only[b3];exact(nr fun _ _=>rfl).symm
 | n+1=>by simp only[b3,pc f m n];rw[<- vf]
theorem jW {n k:Nat}(aQ:k<n){f:Nat->Rat}(h:∀i,i<n->i≠k->f i=0):b3 n f=f k:=by
 induction n with
 | zero=>omega
 | succ n ih =>
  rw[b3];by_cases e:k=n
  ·subst e;rw[nr fun i ae=>h i (by omega) (by omega)];grind
  rw[ih (by omega) fun i ae cx=>h i (by omega) cx,h n (by omega) (by omega)];grind
theorem q9 {f:Nat->Rat}: ∀ {n:Nat},(∀i,i<n->0<=f i)->0<=b3 n f
 | 0,_=>by simp only[b3];grind
 | n+1,h=>by have o:=q9 (n:=n) fun i ae=>h i (Nat.lt_succ_of_lt ae);have J:=h n (Nat.lt_succ_self n);simp only[b3];grind
theorem W1 {f g:Nat->Rat}{n:Nat}(h:∀i,i<n->f i<=g i):b3 n f<=b3 n g:=by
 have:=q9 (n:=n) (f:=fun i=>g i-f i) fun i ae=>by have:=h i ae;grind
 rw[rb] at this;grind
theorem Gr {f:Nat->Rat}: ∀ {n:Nat},(∀i,i<n->0<=f i)->b3 n f=0-> ∀i,i<n->f i=0
 | 0,_,_,i,ae=>by omega
 | n+1,h,bO,i,ae=>by
  have o:=q9 (n:=n) fun i ae=>h i (Nat.lt_succ_of_lt ae);have J:=h n (Nat.lt_succ_self n);simp only[b3] at bO;by_cases e:i=n
  ·subst e;grind
  exact Gr (n:=n) (fun i ae=>h i (by omega)) (by grind) i (by omega)
theorem GJ (m:Nat)(f:Nat->Rat): ∀n,b3 (m+n) f=b3 m f+b3 n (fun i=>f (m+i))
 | 0=>by simp only[b3,Nat.add_zero];grind
 | n+1=>by rw[<- Nat.add_assoc,b3,b3,GJ m f n];grind
def hF (K:Nat)(g:Nat->Rat):Prop:= ∃l,l<K/\0<g l/\ ∀gh,gh<l->g gh=0
def AL (K:Nat)(g:Nat->Rat):Prop:= ∀l,l<K->g l=0
theorem hF.congr {K:Nat}{g fK:Nat->Rat}(h:hF K g)(e:∀l,l<K->g l=fK l):hF K fK:=by obtain⟨l,o,J,ab⟩:=h;exact⟨l,o,by rw[<- e l o];exact J,fun gh aF=>by rw[<- e gh (by omega)];exact ab gh aF⟩
theorem hF.not_zero {K:Nat}{g:Nat->Rat}(h:hF K g)(z:AL K g):False:=by obtain⟨l,o,J,ab⟩:=h;have:=z l o;grind
theorem Dy (K:Nat)(g:Nat->Rat):hF K g\/AL K g\/hF K (fun l=> - g l):=by
 induction K with
 | zero=>exact .inr (.inl fun l aF=>by omega)
 | succ K ih =>
  rcases ih with ⟨l,o,J,ab⟩|h|⟨l,o,J,ab⟩
  ·exact .inl ⟨l,by omega,J,ab⟩
  ·by_cases c:g K=0
   ·exact .inr (.inl fun l aF=>if e:l=K then e▸c else h l (by omega))
   by_cases p:0<g K
   ·exact .inl ⟨K,by omega,p,h⟩
   exact .inr (.inr ⟨K,by omega,by grind,fun gh aF=>by have:=h gh aF;grind⟩)
  exact .inr (.inr ⟨l,by omega,J,ab⟩)
theorem hF.not_neg {K:Nat}{g:Nat->Rat}(h:hF K g)(cf:hF K (fun l=> - g l)):False:=by
 obtain⟨l,o,J,ab⟩:=h;obtain⟨k,jU,h1,jV⟩:=cf;rcases Nat.lt_trichotomy l k with c|c|c
 ·have:=jV l c;grind
 ·subst c;grind
 have:=ab k c;grind
theorem hF.add {K:Nat}{g fK:Nat->Rat}(h:hF K g)(cf:hF K fK):hF K (fun l=>g l+fK l):=by
 obtain⟨l,o,J,ab⟩:=h;obtain⟨k,jU,h1,jV⟩:=cf;rcases Nat.lt_trichotomy l k with c|c|c
 ·exact⟨l,o,by have:=jV l c;grind,fun gh aF=>by have:=ab gh aF;have:=jV gh (by omega);grind⟩
 ·subst c;exact⟨l,o,by grind,fun gh aF=>by have:=ab gh aF;have:=jV gh aF;grind⟩
 exact⟨k,jU,by have:=ab k c;grind,fun gh aF=>by have:=ab gh (by omega);have:=jV gh aF;grind⟩
theorem hF.add_zero {K:Nat}{g fK:Nat->Rat}(h:hF K g)(cf:AL K fK):hF K (fun l=>g l+fK l) :=
 h.congr fun l aF=>by have:=cf l aF;grind
theorem hF.mul {K:Nat}{g:Nat->Rat}(h:hF K g){c:Rat}(aL:0<c):hF K (fun l=>c*g l):=by obtain⟨l,o,J,ab⟩:=h;exact⟨l,o,Rat.mul_pos aL J,fun gh aF=>by have:=ab gh aF;grind⟩
theorem hF.Pw {K:Nat}{g:Nat->Rat}{c:Rat}(h:hF K (fun l=>c*g l)):(0<c/\hF K g)\/(c<0/\hF K (fun l=> - g l)):=by
 rcases Dy K g with p|p|p
 ·by_cases aL:0<c
  ·exact .inl ⟨aL,p⟩
  by_cases h0:c=0
  ·exact(h.not_zero fun l _=>by grind).elim
  exact(h.not_neg ((p.mul (c:= -c) (by grind)).congr fun l _=>by grind)).elim
 ·exact(h.not_zero fun l aF=>by have:=p l aF;grind).elim
 by_cases aL:c<0
 ·exact .inr ⟨aL,p⟩
 by_cases h0:c=0
 ·exact(h.not_zero fun l _=>by grind).elim
 exact(h.not_neg ((p.mul (c:=c) (by grind)).congr fun l _=>by grind)).elim
theorem hF.HW {K:Nat}{v:Nat->Nat->Rat}: ∀ {n:Nat},hF K (fun l=>b3 n (fun j=>v j l))-> ∃j,j<n/\hF K (v j)
 | 0,h=>(h.not_zero fun l _=>rfl).elim
 | n+1,h=>by
  by_cases c:hF K (v n)
  ·exact⟨n,by omega,c⟩
  have:hF K (fun l=>b3 n (fun j=>v j l)):=by
   rcases Dy K (fun l=>b3 n (fun j=>v j l)) with p|p|p
   ·exact p
   ·exact(c (h.congr fun l aF=>by have:=p l aF;simp only[b3];grind)).elim
   rcases Dy K (v n) with q|q|q
   ·exact(c q).elim
   ·exact(h.not_neg (p.congr fun l aF=>by have:=q l aF;simp only[b3];grind)).elim
   exact(h.not_neg ((p.add q).congr fun l aF=>by simp only[b3];grind)).elim
  obtain⟨j,o,J⟩:=hF.HW this;exact⟨j,by omega,J⟩
structure b8 where
 T:Nat->Nat->Rat
 B:Nat->Nat
structure fX (ed m N:Nat) (A:Nat->Nat->Rat) (t:b8):Prop where
 qV : ∀c,c<ed-> ∀j,j<=N->A c j=b3 m (fun i=>A c (t.B i)*t.T i j)
 row : ∃W:Nat->Nat->Rat,∀i,i<m-> ∀j,j<=N->t.T i j=b3 ed (fun c=>W i c*A c j)
 unit : ∀i,i<m-> ∀k,k<m->t.T i (t.B k)=if i=k then 1 else 0
 jQ : ∀i,i<m->t.B i<N
def b8.cG (t:b8)(r k:Nat):b8 where
 T:=fun i j=>if i=r then t.T r j / t.T r k else t.T i j-t.T i k*(t.T r j / t.T r k)
 B:=fun i=>if i=r then k else t.B i
def b8.dd (m:Nat)(obj:Nat->Rat)(t:b8)(j:Nat):Rat:=obj j-b3 m (fun i=>obj (t.B i)*t.T i j)
section
variable {ed m N:Nat} {A:Nat->Nat->Rat} {t:b8}
theorem fX.inj (h:fX ed m N A t){i k:Nat}(ae:i<m)(aQ:k<m)(e:t.B i=t.B k):i=k:=by
 have o:=h.unit i ae k aQ;rw[<- e,h.unit i ae i ae,dw rfl] at o;by_cases c:i=k
 ·exact c
 rw[dA c] at o;grind
theorem fX.cG (h:fX ed m N A t){r k:Nat}(aj:r<m)(aQ:k<N)(ah:t.T r k≠0):fX ed m N A (t.cG r k) where
 qV:=by
  intro c aL j av;rw[h.qV c aL j av];have mH:=h.qV c aL k (by omega)
  have e:b3 m (fun i=>A c ((t.cG r k).B i)*(t.cG r k).T i j)=b3 m (fun i=>A c (t.B i)*t.T i j)+(t.T r j / t.T r k)*(A c k-b3 m (fun i=>A c (t.B i)*t.T i k)):=by
   have ao : ∀i,i<m->A c ((t.cG r k).B i)*(t.cG r k).T i j=(A c (t.B i)*t.T i j-(t.T r j / t.T r k)*(A c (t.B i)*t.T i k))+(if i=r then (t.T r j / t.T r k)*A c k else 0):=by
    intro i ae;simp only[b8.cG];by_cases e:i=r
    ·subst e;simp only[if_true];grind
    simp only[dA e];grind
   rw[ft ao,vf,rb,ik,jW aj (f:=fun i=>if i=r then (t.T r j / t.T r k)*A c k else 0) (fun i _ cx=>dA cx),dw rfl];grind
  rw[e,<- mH];grind
 row:=by
  obtain⟨W,hW⟩:=h.row;refine⟨fun i c=>if i=r then W r c / t.T r k else W i c-t.T i k*(W r c / t.T r k),fun i ae j av=> ?_⟩;simp only[b8.cG];by_cases e:i=r
  ·subst e;simp only[if_true];rw[ft (f:=fun c=>W i c / t.T i k*A c j) (g:=fun c=>(1 / t.T i k)*(W i c*A c j)) (fun c _=>by grind),ik,<- hW i ae j av];grind
  simp only[dA e];rw[ft (f:=fun c=>(W i c-t.T i k*(W r c / t.T r k))*A c j) (g:=fun c=>W i c*A c j-(t.T i k / t.T r k)*(W r c*A c j)) (fun c _=>by grind),rb,ik,<- hW i ae j av,<- hW r aj j av];grind
 unit:=by
  intro i ae dn mH;simp only[b8.cG];by_cases e:i=r
  ·subst e
   simp only[if_true];by_cases er:dn=i
   ·subst er;simp only[if_true];grind
   simp only[dA er];rw[h.unit i ae dn mH,dA (fun x=>er x.symm)];grind
  simp only[dA e];by_cases er:dn=r
  ·subst er;simp only[if_true,dA e];grind
  simp only[dA er];rw[h.unit i ae dn mH,h.unit r aj dn mH,dA (c:=r=dn) (fun x=>er x.symm)];grind
 jQ:=fun i ae=>by
  simp only[b8.cG];split
  ·exact aQ
  exact h.jQ i ae
theorem fX.x7 (h:fX ed m N A t)(obj:Nat->Rat){i:Nat}(ae:i<m):t.dd m obj (t.B i)=0:=by unfold b8.dd;rw[jW ae (f:=fun eM=>obj (t.B eM)*t.T eM (t.B i)) (fun k aQ cx=>by rw[h.unit k aQ i ae,dA cx];grind),h.unit i ae i ae,dw rfl];grind
theorem fX.W2 (h:fX ed m N A t)(obj:Nat->Rat){r k:Nat}(aj:r<m)(aQ:k<N)(ah:t.T r k≠0)(j:Nat):
 (t.cG r k).dd m obj j=t.dd m obj j-t.dd m obj k*(t.T r j / t.T r k):=by
 unfold b8.dd
 have ao : ∀i,i<m->obj ((t.cG r k).B i)*(t.cG r k).T i j=(obj (t.B i)*t.T i j-(t.T r j / t.T r k)*(obj (t.B i)*t.T i k))+(if i=r then (t.T r j / t.T r k)*obj k else 0):=by
  intro i ae;simp only[b8.cG];by_cases e:i=r
  ·subst e;simp only[if_true];grind
  simp only[dA e];grind
 rw[ft ao,vf,rb,ik,jW aj (f:=fun i=>if i=r then (t.T r j / t.T r k)*obj k else 0) (fun i _ cx=>dA cx),dw rfl];grind
theorem fX.W3 (h:fX ed m N A t){z:Nat->Rat}(b5:∀c,c<ed->b3 N (fun j=>A c j*z j)=0){i:Nat}(ae:i<m):b3 N (fun j=>t.T i j*z j)=0:=by obtain⟨W,hW⟩:=h.row;rw[ft (g:=fun j=>b3 ed (fun c=>W i c*(A c j*z j))) (fun j av=>by rw[hW i ae j (by omega),<- vd];exact ft fun c _=>by grind),pc];exact nr fun c aL=>by rw[ik,b5 c aL];grind
theorem fX.W4 (h:fX ed m N A t)(obj:Nat->Rat){z:Nat->Rat}(b5:∀c,c<ed->b3 N (fun j=>A c j*z j)=0):
 b3 N (fun j=>z j*t.dd m obj j)=b3 N (fun j=>obj j*z j):=by
 unfold b8.dd;rw[ft (g:=fun j=>obj j*z j-b3 m (fun i=>obj (t.B i)*(t.T i j*z j))) (fun j _=>by rw[ft (f:=fun i=>obj (t.B i)*(t.T i j*z j)) (g:=fun i=>z j*(obj (t.B i)*t.T i j)) (fun i _=>by grind),ik];grind),rb,pc];rw[nr (n:=m) fun i ae=>by rw[ik,h.W3 b5 ae];grind];grind
def b8.dir (m:Nat)(t:b8)(s j:Nat):Rat:=(if j=s then 1 else 0)-b3 m (fun i=>if t.B i=j then t.T i s else 0)
theorem fX.OV (h:fX ed m N A t){s:Nat}(bO:s<N)(f:Nat->Rat):b3 N (fun j=>f j*t.dir m s j)=f s-b3 m (fun i=>f (t.B i)*t.T i s):=by unfold b8.dir;rw[ft (g:=fun j=>(if j=s then f s else 0)-b3 m (fun i=>if t.B i=j then f (t.B i)*t.T i s else 0)) (fun j _=>by have e:b3 m (fun i=>if t.B i=j then f (t.B i)*t.T i s else 0)=f j*b3 m (fun i=>if t.B i=j then t.T i s else 0):=(by rw[<- ik];exact ft fun i _=>by split<;>grind);rw[e];split<;>grind),rb,jW bO (f:=fun j=>if j=s then f s else 0) (fun i _ cx=>dA cx),dw rfl,pc];congr 1;exact ft fun i ae=>by rw[jW (h.jQ i ae) (f:=fun j=>if t.B i=j then f (t.B i)*t.T i s else 0) (fun j _ cx=>dA fun x=>cx x.symm),dw rfl]
theorem fX.W5 (h:fX ed m N A t){s:Nat}(bO:s<N): ∀c,c<ed->b3 N (fun j=>A c j*t.dir m s j)=0:=by intro c aL;rw[h.OV bO,<- h.qV c aL s (by omega)];grind
theorem fX.W6 (h:fX ed m N A t){s:Nat}(bO:s<N)(obj:Nat->Rat):b3 N (fun j=>obj j*t.dir m s j)=t.dd m obj s:=h.OV bO obj
theorem fX.same {cW:b8}(h:fX ed m N A t)(cf:fX ed m N A cW)(e:∀i,i<m->t.B i=cW.B i){i:Nat}(ae:i<m){j:Nat}(av:j<=N):t.T i j=cW.T i j:=by obtain⟨W,hW⟩:=h.row;rw[hW i ae j av,ft (g:=fun c=>b3 m (fun k=>W i c*(A c (cW.B k)*cW.T k j))) (fun c aL=>by rw[cf.qV c aL j av,ik]),pc];rw[ft (g:=fun k=>(if i=k then cW.T k j else 0)) (fun k aQ=>by rw[ft (g:=fun c=>(W i c*A c (cW.B k))*cW.T k j) (fun c _=>by grind),vd,<- e k aQ,<- hW i ae (t.B k) (Nat.le_of_lt (h.jQ k aQ)),h.unit i ae k aQ];split<;>grind)];rw[jW ae (f:=fun k=>if i=k then cW.T k j else 0) (fun k _ cx=>dA fun x=>cx x.symm),dw rfl]
end
def b8.kN (m N:Nat)(t:b8):Prop:= ∀i,i<m->0<=t.T i N
def b8.Fp (m K:Nat)(obj:Nat->Nat->Rat)(t:b8)(j:Nat):Prop:=hF K (fun l=>t.dd m (obj l) j)
structure pi (m N K:Nat) (obj:Nat->Nat->Rat) (bI:Nat->Prop) (t:b8) (r s:Nat):Prop where
 bO:s<N
 EY:bI s
 gs:t.Fp m K obj s
 least : ∀j,j<s->bI j-> ¬t.Fp m K obj j
 aj:r<m
 pos:0<t.T r s
 ratio : ∀i,i<m->0<t.T i s->t.T r N*t.T i s<=t.T i N*t.T r s
 tie : ∀i,i<m->0<t.T i s->t.T r N*t.T i s=t.T i N*t.T r s->t.B r<=t.B i
section
variable {ed m N K:Nat} {A obj:Nat->Nat->Rat} {bI:Nat->Prop}
theorem pi.ok {t:b8}{r s:Nat}(b:pi m N K obj bI t r s)(h:fX ed m N A t):fX ed m N A (t.cG r s):=h.cG b.aj b.bO (by have:=b.pos;grind)
theorem pi.BC {t:b8}{r s:Nat}(b:pi m N K obj bI t r s)(h:t.kN m N):(t.cG r s).kN m N:=by
 intro i ae;have ah:=b.pos;have abc:=h r b.aj;have a2:0<=t.T r N / t.T r s:=by rw[Rat.div_def];exact afu abc (Rat.le_of_lt (Rat.inv_pos.2 ah))
 simp only[b8.cG];split
 ·exact a2
 by_cases c:0<t.T i s
 ·have o:=b.ratio i ae c;have J:t.T i s*(t.T r N / t.T r s)<=t.T i N:=(by have e:t.T i s*(t.T r N / t.T r s)=(t.T r N*t.T i s)*(1 / t.T r s):=(by grind);have aB:t.T i N=(t.T i N*t.T r s)*(1 / t.T r s):=(by grind);rw[e,aB];exact Rat.mul_le_mul_of_nonneg_right o (by rw[Rat.div_def,Rat.one_mul];exact Rat.le_of_lt (Rat.inv_pos.2 ah)));grind
 have o:=h i ae;have J:0<=(- t.T i s)*(t.T r N / t.T r s):=afu (by grind) a2;grind
theorem Np (f:Nat->Nat): ∀p,0<p-> ∃b,b<p/\ ∀k,k<p->f k<=f b
 | 0,h=>by omega
 | 1,_=>⟨0,by omega,fun k aQ=>by rw[show k=0 by omega];exact dE _⟩
 | p+2,_=>by
  obtain⟨b,o,J⟩:=Np f (p+1) (by omega);by_cases c:f (p+1)<=f b
  ·exact⟨b,by omega,fun k aQ=>if e:k=p+1 then e▸c else J k (by omega)⟩
  exact⟨p+1,by omega,fun k aQ=>if e:k=p+1 then e▸dE _ else Nat.le_trans (J k (by omega)) (by omega)⟩
theorem W7 {t:Nat->b8}{r s:Nat->Nat}{p:Nat}(ah:0<p)(h0:fX ed m N A (t 0))(f0:(t 0).kN m N)
 (cO : ∀n,n<p->pi m N K obj bI (t n) (r n) (s n)) (rN : ∀n,n<p->t (n+1)=(t n).cG (r n) (s n)) (back : ∀i,i<m->(t p).B i=(t 0).B i):False:=by
 have ok : ∀n,n<=p->fX ed m N A (t n)/\(t n).kN m N:=by
  intro n
  induction n with
  | zero=>intro _;exact⟨h0,f0⟩
  | succ n ih =>
   intro aV;obtain⟨a,b⟩:=ih (by omega);rw[rN n (by omega)];exact⟨(cO n (by omega)).ok a,(cO n (by omega)).BC b⟩
 have acz : ∀n,n<p->0<=(t n).T (r n) N / (t n).T (r n) (s n):=fun n aV=>by rw[Rat.div_def];exact afu ((ok n (by omega)).2 _ (cO n aV).aj) (Rat.le_of_lt (Rat.inv_pos.2 (cO n aV).pos))
 have ib : ∀n,n<=p->hF K (fun l=>(t 0).dd m (obj l) N-(t n).dd m (obj l) N)\/(AL K (fun l=>(t 0).dd m (obj l) N-(t n).dd m (obj l) N)/\ ∀k,k<n->(t k).T (r k) N=0):=by
  intro n
  induction n with
  | zero=>intro _;exact .inr ⟨fun l _=>by grind,fun k aQ=>by omega⟩
  | succ n ih =>
   intro aV;have b:=cO n (by omega);have iS:=b.pos;have e : ∀l,(t 0).dd m (obj l) N-(t (n+1)).dd m (obj l) N=((t n).T (r n) N / (t n).T (r n) (s n))*(t n).dd m (obj l) (s n)+((t 0).dd m (obj l) N-(t n).dd m (obj l) N):=fun l=>(by rw[rN n (by omega),(ok n (by omega)).1.W2 (obj l) b.aj b.bO (by grind)];grind);by_cases c:(t n).T (r n) N=0
   ·have z : ∀l,(t 0).dd m (obj l) N-(t (n+1)).dd m (obj l) N=(t 0).dd m (obj l) N-(t n).dd m (obj l) N:=fun l=>by rw[e,c];grind
    rcases ih (by omega) with h|⟨o,J⟩
    ·exact .inl (h.congr fun l _=>(z l).symm)
    refine .inr ⟨fun l aF=>by have:=o l aF;simp only at this ⊢;rw[z l];exact this,fun k aQ=> ?_⟩;by_cases acA:k=n
    ·rw[acA];exact c
    exact J k (by omega)
   have J9:0<(t n).T (r n) N / (t n).T (r n) (s n):=(by have o:=acz n (by omega);have J:(t n).T (r n) N / (t n).T (r n) (s n)≠0:=fun x=>c (by grind);grind);have g1:hF K (fun l=>((t n).T (r n) N / (t n).T (r n) (s n))*(t n).dd m (obj l) (s n)):=hF.mul b.gs J9;left;rcases ih (by omega) with h|⟨o,-⟩
   ·exact(g1.add h).congr fun l _=>(e l).symm
   exact(g1.add_zero o).congr fun l _=>(e l).symm
 have zero : ∀k,k<p->(t k).T (r k) N=0:=by
  rcases ib p (dE _) with h|h
  ·refine(h.not_zero fun l _=> ?_).elim;unfold b8.dd;rw[ft (f:=fun i=>obj l ((t p).B i)*(t p).T i N) (g:=fun i=>obj l ((t 0).B i)*(t 0).T i N) fun i ae=>by rw[back i ae,(ok p (dE _)).1.same (ok 0 (by omega)).1 back ae (dE _)]];grind
  exact h.2
 have const : ∀n,n<=p-> ∀i,i<m->(t n).T i N=(t 0).T i N:=by
  intro n
  induction n with
  | zero=>intros;rfl
  | succ n ih =>
   intro aV i ae;rw[<- ih (by omega) i ae,rN n (by omega)];simp only[b8.cG];have:=zero n (by omega);split
   ·rename_i e;rw[e,this];grind
   rw[this];grind
 have Jn : ∀n,n<p-> ∀i,i<m->(t n).B i≠s n:=fun n aV i ae e=>by refine hF.not_zero (cO n aV).gs fun l _=> ?_;rw[<- e];exact(ok n (by omega)).1.x7 (obj l) ae
 have RQ : ∀d n,n+d<=p-> ∀j,(∀i,i<m->(t n).B i≠j)->(∀k,n<=k->k<n+d->s k≠j)-> ∀i,i<m->(t (n+d)).B i≠j:=by
  intro d
  induction d with
  | zero=>intro n aV j o J;exact o
  | succ d ih =>
   intro n aV j o J i ae;rw[<- Nat.add_assoc,rN (n+d) (by omega)];simp only[b8.cG];split
   ·exact J (n+d) (by omega) (by omega)
   exact ih n (by omega) j o (fun k a b=>J k a (by omega)) i ae
 have RR : ∀d n,n+d<=p-> ∀i,i<m->(∀k,n<=k->k<n+d->r k≠i)->(t (n+d)).B i=(t n).B i:=by
  intro d
  induction d with
  | zero=>intros;rfl
  | succ d ih =>
   intro n aV i ae J;rw[<- Nat.add_assoc,rN (n+d) (by omega)];simp only[b8.cG];rw[dA fun e=>J (n+d) (by omega) (by omega) e.symm];exact ih n (by omega) i ae (fun k a b=>J k a (by omega))
 have RS : ∀d n,n+d<=p-> ∀i,i<m-> ∀q,(t n).B i=q->(∀k,n<=k->k<n+d->(t k).B (r k)≠q)->(t (n+d)).B i=q:=by
  intro d
  induction d with
  | zero=>intro n aV i ae q o J;exact o
  | succ d ih =>
   intro n aV i ae q o J;have ab:=ih n (by omega) i ae q o (fun k a b=>J k a (by omega));rw[<- Nat.add_assoc,rN (n+d) (by omega)];simp only[b8.cG];rw[dA fun e=>J (n+d) (by omega) (by omega) (by rw[<- e];exact ab)];exact ab
 obtain⟨b,aN,Qw⟩:=Np s p ah;have wM:=cO b aN;have acB : ∃a,a<p/\(t a).B (r a)=s b:=by apply Classical.byContradiction;intro cx;have nC : ∀a,a<p->(t a).B (r a)≠s b:=fun a bA e=>cx ⟨a,bA,e⟩;have ao:(t (b+1)).B (r b)=s b:=(by rw[rN b aN];simp[b8.cG]);have aB:=RS (p-(b+1)) (b+1) (by omega) (r b) wM.aj (s b) ao (fun k _ aQ=>nC k (by omega));rw[show b+1+(p-(b+1))=p by omega,back _ wM.aj] at aB;have bT:=RS b 0 (by omega) (r b) wM.aj (s b) aB (fun k _ aQ=>nC k (by omega));rw[dF] at bT;exact Jn b aN _ wM.aj bT
 obtain⟨a,bA,a2⟩:=acB;have uI:=cO a bA;have Fq:=(ok a (by omega)).1;have Q6:=(ok b (by omega)).1;have abd:s a<s b:=by have o:=Qw a bA;have J:s a≠s b:=fun e=>Jn a bA (r a) uI.aj (a2.trans e.symm);omega
 have Z0:hF K (fun l=>b3 N (fun j=>(t a).dir m (s a) j*(t b).dd m (obj l) j)) :=
  hF.congr uI.gs fun l _=>by rw[Q6.W4 (obj l) (Fq.W5 uI.bO),Fq.W6 uI.bO]
 obtain⟨j,av,Z1⟩:=hF.HW (v:=fun j l=>(t a).dir m (s a) j*(t b).dd m (obj l) j) Z0;have hmul:=Z1.Pw;by_cases Cq:j=s a
 ·have bz:(t a).dir m (s a) j=1:=by
   unfold b8.dir;rw[dw Cq,nr fun i ae=>dA (by rw[Cq];exact Jn a bA i ae)];grind
  rw[bz] at hmul;rcases hmul with ⟨-,h⟩|⟨h,-⟩
  ·rw[Cq] at h;exact wM.least (s a) abd uI.EY h
  grind
 by_cases Qx : ∃i,i<m/\(t a).B i=j;rotate_left
 ·have bz:(t a).dir m (s a) j=0:=by
   unfold b8.dir;rw[dA Cq,nr fun i ae=>dA fun e=>Qx ⟨i,ae,e⟩];grind
  rw[bz] at hmul;rcases hmul with ⟨h,-⟩|⟨h,-⟩<;>grind
 obtain⟨i,ae,p9⟩:=Qx;have bz:(t a).dir m (s a) j = - (t a).T i (s a):=by unfold b8.dir;rw[dA Cq,jW ae (fun k aQ cx=>dA fun e=>cx (Fq.inj aQ ae (e.trans p9.symm))),dw p9];grind
 rw[bz] at hmul
 have Q7 : ∀k,k<m->(t b).B k≠j:=fun k aQ e=>by
  have z:AL K (fun l=>(t b).dd m (obj l) j):=fun l _=>(by rw[<- e];exact Q6.x7 (obj l) aQ);rcases hmul with ⟨-,h⟩|⟨-,h⟩
  ·exact h.not_zero z
  exact h.not_zero fun l aF=>by have:=z l aF;simp only at this ⊢;grind
 have abe : ∃k,k<p/\s k=j:=by apply Classical.byContradiction;intro cx;have nC : ∀k,k<p->s k≠j:=fun k aQ e=>cx ⟨k,aQ,e⟩;have ao:=RQ (p-b) b (by omega) j Q7 (fun k _ aQ=>nC k (by omega));rw[show b+(p-b)=p by omega] at ao;have aB:=RQ a 0 (by omega) j (fun k aQ=>by rw[<- back k aQ];exact ao k aQ) (fun k _ aQ=>nC k (by omega));rw[dF] at aB;exact aB i ae p9
 obtain⟨k,aQ,BX⟩:=abe;have aem:j<=s b:=by rw[<- BX];exact Qw k aQ
 have abf:bI j:=by rw[<- BX];exact(cO k aQ).EY
 have Z2 : ∃k,k<p/\r k=i:=by apply Classical.byContradiction;intro cx;have nC : ∀k,k<p->r k≠i:=fun k aQ e=>cx ⟨k,aQ,e⟩;have ao:=RR a 0 (by omega) i ae (fun k _ aQ=>nC k (by omega));have aB:=RR b 0 (by omega) i ae (fun k _ aQ=>nC k (by omega));rw[dF] at ao aB;exact Q7 i ae (by rw[aB,<- ao];exact p9)
 obtain⟨h1,Q8,Z3⟩:=Z2;have b5:(t a).T i N=0:=by rw[const a (by omega) i ae,<- const h1 (by omega) i ae,<- Z3];exact zero h1 Q8
 rcases hmul with ⟨o,J⟩|⟨o,J⟩
 ·have abg:j≠s b:=fun e=>by
   have:i=r a:=Fq.inj ae uI.aj (by rw[p9,a2,e]);have ah:=uI.pos;rw[<- this] at ah;grind
  exact wM.least j (by omega) abf J
 have abg:j≠s b:=fun e=>by rw[e] at J;exact hF.not_neg wM.gs J
 have iS:0<(t a).T i (s a):=by grind
 have:=uI.tie i ae iS (by rw[b5,zero a bA];grind);rw[a2,p9] at this;omega
end
theorem HX : ∀(M p:Nat) (f:Nat->Nat),(∀n,n<p->f n<M)->(∀a b,a<p->b<p->f a=f b->a=b)->p<=M
 | 0,p,f,h,_=>by
  cases p with
  | zero=>exact dE _
  | succ p=>have:=h 0 (by omega);omega
 | M+1,p,f,h,ae=>by
  by_cases c : ∃n,n<p/\f n=M
  ·obtain⟨n0,h0,e0⟩:=c
   have:=HX M (p-1) (fun n=>f (if n<n0 then n else n+1)) (fun n aV=>by
    have o:=h (if n<n0 then n else n+1) (by split<;>omega);have J:f (if n<n0 then n else n+1)≠M:=fun e=>(by have:=ae _ _ (by split<;>omega) h0 (e.trans e0.symm);split at this<;>omega);omega) (fun a b bA aN e=>by
    have:=ae _ _ (by split<;>omega) (by split<;>omega) e;split at this<;>split at this<;>omega)
   omega
  have:=HX M p f (fun n aV=>by have o:=h n aV;have J:f n≠M:=fun e=>c ⟨n,aV,e⟩;omega) ae;omega
def code (N:Nat)(B:Nat->Nat):Nat->Nat
 | 0=>0
 | m+1=>code N B m+B m*N ^ m
theorem DZ {N:Nat}{B:Nat->Nat}: ∀ {m:Nat},(∀i,i<m->B i<N)->code N B m<N ^ m
 | 0,_=>by simp[code]
 | m+1,h=>by have o:=DZ (m:=m) fun i ae=>h i (by omega);have J:=h m (by omega);have ab:(B m+1)*N ^ m<=N*N ^ m:=afi _ J;rw[Nat.add_mul] at ab;rw[code,Nat.pow_succ,Nat.mul_comm (N ^ m) N];omega
theorem Oh {N:Nat}{B wN:Nat->Nat}: ∀ {m:Nat},(∀i,i<m->B i<N)->(∀i,i<m->wN i<N)->code N B m=code N wN m-> ∀i,i<m->B i=wN i
 | 0,_,_,_,i,ae=>by omega
 | m+1,h,cf,e,i,ae=>by
  have o:=DZ (m:=m) fun i ae=>h i (by omega);have J:=DZ (m:=m) fun i ae=>cf i (by omega);rw[code,code] at e;have iS:0<N ^ m:=(by omega);have ao:B m=wN m:=(by have iG:(code N B m+B m*N ^ m) / N ^ m=B m:=(by rw[Nat.add_mul_div_right _ _ iS,Nat.div_eq_of_lt o];omega);have jl:(code N wN m+wN m*N ^ m) / N ^ m=wN m:=(by rw[Nat.add_mul_div_right _ _ iS,Nat.div_eq_of_lt J];omega);rw[<- iG,<- jl,e]);rw[ao] at e;by_cases c:i=m
  ·rw[c];exact ao
  exact Oh (m:=m) (fun i ae=>h i (by omega)) (fun i ae=>cf i (by omega)) (by omega) i (by omega)
section
variable {ed m N K:Nat} {A obj:Nat->Nat->Rat} {bI:Nat->Prop}
structure BD (m N K:Nat) (obj:Nat->Nat->Rat) (bI:Nat->Prop) (t:Nat->b8) (r s:Nat->Nat) (p:Nat):Prop where
 cO : ∀n,n<p->pi m N K obj bI (t n) (r n) (s n)
 rN : ∀n,n<p->t (n+1)=(t n).cG (r n) (s n)
theorem BD.ok {t:Nat->b8}{r s:Nat->Nat}{p:Nat}(h:BD m N K obj bI t r s p)(h0:fX ed m N A (t 0))(f0:(t 0).kN m N): ∀n,n<=p->fX ed m N A (t n)/\(t n).kN m N:=by
 intro n
 induction n with
 | zero=>intro _;exact⟨h0,f0⟩
 | succ n ih =>
  intro aV;obtain⟨a,b⟩:=ih (by omega);rw[h.rN n (by omega)];exact⟨(h.cO n (by omega)).ok a,(h.cO n (by omega)).BC b⟩
theorem BD.short {t:Nat->b8}{r s:Nat->Nat}{p:Nat}(h:BD m N K obj bI t r s p)(h0:fX ed m N A (t 0))(f0:(t 0).kN m N):p+1<=N ^ m:=by
 have ok:=h.ok h0 f0;refine HX (N ^ m) (p+1) (fun n=>code N (t n).B m) (fun n aV=>DZ (ok n (by omega)).1.jQ) fun a b bA aN e=> ?_
 have key : ∀a b,a<b->b<=p->code N (t a).B m=code N (t b).B m->False:=fun a b rE aN e=>by
  have gV:=Oh (ok a (by omega)).1.jQ (ok b aN).1.jQ e
  exact W7 (t:=fun n=>t (a+n)) (r:=fun n=>r (a+n)) (s:=fun n=>s (a+n)) (p:=b-a) (by omega) (ok a (by omega)).1 (ok a (by omega)).2
   (fun n aV=>h.cO (a+n) (by omega)) (fun n aV=>h.rN (a+n) (by omega)) (fun i ae=>by show (t (a+(b-a))).B i=(t a).B i;rw[show a+(b-a)=b by omega];exact(gV i ae).symm)
 rcases Nat.lt_trichotomy a b with c|c|c
 ·exact(key a b c (by omega) e).elim
 ·exact c
 exact(key b a c (by omega) e.symm).elim
theorem Vx {hK R5:Type}{f:hK->Option (hK⊕R5)}(aH:hK->b8->Prop)(E:hK->R5->b8->Prop)
 (step : ∀a t,aH a t->fX ed m N A t->t.kN m N->(∃x,f a=some (.inr x)/\E a x t)\/ ∃dr r s,f a=some (.inl dr)/\pi m N K obj bI t r s/\aH dr (t.cG r s))
 {a:hK} {t:b8} (cv:aH a t) (h0:fX ed m N A t) (f0:t.kN m N) : ∃x dr cW,iter f a=some x/\aH dr cW/\fX ed m N A cW/\cW.kN m N/\E dr x cW:=by
 have key : ∀k p (T:Nat->b8) (r s:Nat->Nat),N ^ m<=p+k->BD m N K obj bI T r s p->fX ed m N A (T 0)->(T 0).kN m N-> ∀a,aH a (T p)-> ∃x dr cW,iter f a=some x/\aH dr cW/\fX ed m N A cW/\cW.kN m N/\E dr x cW:=by
  intro k
  induction k with
  | zero =>
   intro p T r s aQ h h0 f0 a cv;have:=h.short h0 f0;omega
  | succ k ih =>
   intro p T r s aQ h h0 f0 a cv;obtain⟨ok,lg⟩:=h.ok h0 f0 p (dE _);rcases step a (T p) cv ok lg with ⟨x,aa,he⟩|⟨dr,ep,bH,b0,aN,abh⟩
   ·exact⟨x,a,T p,by rw[iter,aa];rfl,cv,ok,lg,he⟩
   obtain⟨x,jl,t2,ao,aB⟩:=ih (p+1) (fun n=>if n<=p then T n else (T p).cG ep bH) (fun n=>if n<p then r n else ep) (fun n=>if n<p then s n else bH) (by omega)
    ⟨fun n aV=>by
     by_cases c:n<p
     ·rw[dw (by omega),dw c,dw c];exact h.cO n c
     ·rw[dw (by omega),dA c,dA c,show n=p by omega];exact aN,
     fun n aV=>by
      by_cases c:n<p
      ·rw[dw (by omega),dw (by omega),dw c,dw c];exact h.rN n c
      rw[dA (by omega),dw (by omega),dA c,dA c,show n=p by omega]⟩ (by simpa using h0) (by simpa using f0) dr (by rw[dA (by omega)];exact abh)
   exact⟨x,jl,t2,by rw[iter,b0];exact ao,aB⟩
 exact key (N ^ m) 0 (fun _=>t) (fun _=>0) (fun _=>0) (by omega) ⟨fun n aV=>by omega,fun n aV=>by omega⟩ h0 f0 a cv
theorem fX.value {t:b8}(h:fX ed m N A t)(I:Nat->Rat){z:Nat->Rat}(b5:∀c,c<ed->b3 N (fun j=>A c j*z j)=A c N):
 b3 N (fun j=>I j*z j)=b3 m (fun i=>I (t.B i)*t.T i N)+b3 N (fun j=>z j*t.dd m I j):=by
 obtain⟨W,hW⟩:=h.row;have aj : ∀i,i<m->b3 N (fun j=>t.T i j*z j)=t.T i N:=fun i ae=>by rw[ft (g:=fun j=>b3 ed (fun c=>W i c*(A c j*z j))) (fun j av=>by rw[hW i ae j (by omega),<- vd];exact ft fun c _=>by grind),pc,hW i ae N (dE _)];exact ft fun c aL=>by rw[ik,b5 c aL]
 unfold b8.dd;rw[ft (f:=fun j=>z j*(I j-b3 m fun i=>I (t.B i)*t.T i j)) (g:=fun j=>I j*z j-b3 m (fun i=>I (t.B i)*(t.T i j*z j))) (fun j _=>by rw[ft (f:=fun i=>I (t.B i)*(t.T i j*z j)) (g:=fun i=>z j*(I (t.B i)*t.T i j)) (fun i _=>by grind),ik];grind),rb,pc];rw[ft (f:=fun i=>b3 N fun j=>I (t.B i)*(t.T i j*z j)) (g:=fun i=>I (t.B i)*t.T i N) fun i ae=>by rw[ik,aj i ae]];grind
def b8.gB (m N:Nat)(t:b8)(j:Nat):Rat:=b3 m (fun i=>if t.B i=j then t.T i N else 0)
theorem fX.D0 {t:b8}(h:fX ed m N A t)(f:Nat->Rat):b3 N (fun j=>f j*t.gB m N j)=b3 m (fun i=>f (t.B i)*t.T i N):=by unfold b8.gB;rw[ft (g:=fun j=>b3 m (fun i=>if t.B i=j then f (t.B i)*t.T i N else 0)) (fun j _=>by rw[<- ik];exact ft fun i _=>by split<;>grind),pc];exact ft fun i ae=>by rw[jW (h.jQ i ae) (f:=fun j=>if t.B i=j then f (t.B i)*t.T i N else 0) (fun j _ cx=>dA fun x=>cx x.symm),dw rfl]
theorem fX.YI {t:b8}(h:fX ed m N A t): ∀c,c<ed->b3 N (fun j=>A c j*t.gB m N j)=A c N:=fun c aL=>by rw[h.D0,<- h.qV c aL N (dE _)]
theorem b8.kN.gB {t:b8}(h:t.kN m N)(j:Nat):0<=t.gB m N j:=q9 fun i ae=>by split;exact h i ae;exact Rat.le_refl
theorem fX.adp {t:b8}(h:fX ed m N A t){i:Nat}(ae:i<m):t.gB m N (t.B i)=t.T i N:=by unfold b8.gB;rw[jW ae (fun k aQ cx=>dA fun e=>cx (h.inj aQ ae e)),dw rfl]
theorem b8.Gz {t:b8}{j:Nat}(h:∀i,i<m->t.B i≠j):t.gB m N j=0:=nr fun i ae=>dA (h i ae)
end
def skip {α:Type}(i:Nat)(f:Nat->α)(k:Nat):α:=f (if k<i then k else k+1)
def ga {α:Type}(M:Nat->α)(k:Nat)(v:α)(i:Nat):α:=if i=k then v else M i
def mM (n:Nat):Rat:=if n % 2=0 then 1 else -1
theorem W8 (n:Nat):mM (n+1) = - mM n:=by
 unfold mM;by_cases h:n % 2=0
 ·rw[dw h,dA (by omega)]
 rw[dA h,dw (by omega)];grind
def h4:Nat->(Nat->Nat->Rat)->Rat
 | 0,_=>1
 | n+1,M=>b3 (n+1) (fun i=>mM (i+n)*M i n*h4 n (skip i M))
theorem Dz : ∀ {n:Nat} {M zy:Nat->Nat->Rat},(∀i,i<n-> ∀c,c<n->M i c=zy i c)->h4 n M=h4 n zy
 | 0,_,_,_=>rfl
 | n+1,M,zy,h=>by rw[h4,h4];exact ft fun i ae=>by rw[h i ae n (by omega),Dz (M:=skip i M) (zy:=skip i zy) fun k aQ c aL=> ?_];simp only[skip];exact h _ (by split<;>omega) c (by omega)
theorem Gs {α:Type}(M:Nat->α)(k:Nat)(v:α):skip k (ga M k v)=skip k M:=by funext i;simp only[skip,ga];rw[dA];split<;>omega
theorem GK {α:Type}(M:Nat->α){i k:Nat}(v:α)(h:k<i):skip i (ga M k v)=ga (skip i M) k v:=by
 funext j;simp only[skip,ga];by_cases c:j=k
 ·subst c;rw[dw h,dw rfl]
 rw[dA c,dA];split<;>omega
theorem GL {α:Type}(M:Nat->α){i k:Nat}(v:α)(h:i<k):skip i (ga M k v)=ga (skip i M) (k-1) v:=by
 funext j;simp only[skip,ga];by_cases c:j=k-1
 ·rw[dw c,dw (by split<;>omega)]
 rw[dA c,dA];split<;>omega
theorem ys : ∀ {n k:Nat} (M:Nat->Nat->Rat) (a b:Rat) (u v:Nat->Rat),k<n ->
 h4 n (ga M k (fun c=>a*u c+b*v c))=a*h4 n (ga M k u)+b*h4 n (ga M k v)
 | 0,k,_,_,_,_,_,h=>by omega
 | n+1,k,M,a,b,u,v,aQ=>by
  rw[h4,h4,h4,<- ik,<- ik,<- vf];refine ft fun i ae=> ?_;rcases Nat.lt_trichotomy i k with c|c|c
  ·rw[GL _ _ c,GL _ _ c,GL _ _ c,ys (skip i M) a b u v (by omega)];simp only[ga,dA (Nat.ne_of_lt c)];grind
  ·subst c;rw[Gs,Gs,Gs];simp only[ga,if_true];grind
  rw[GK _ _ c,GK _ _ c,GK _ _ c,ys (skip i M) a b u v (by omega)];simp only[ga,dA (Nat.ne_of_gt c)];grind
theorem G7 {α:Type}(M:Nat->α)(k:Nat):ga M k (M k)=M:=by
 funext i;simp only[ga];split
 ·rename_i e;rw[e]
 rfl
theorem OW {n k:Nat}(aQ:k<n)(M:Nat->Nat->Rat)(x:Nat->Rat)(V:Nat->Nat->Rat): ∀m,h4 n (ga M k (fun c=>b3 m (fun i=>x i*V i c)))=b3 m (fun i=>x i*h4 n (ga M k (V i)))
 | 0=>by have:=ys M 0 0 (fun _=>0) (fun _=>0) aQ;simp only[b3];rw[show (fun c=>(0:Rat))=(fun c:Nat=>0*(0:Rat)+0*0) from by funext c;grind,this];grind
 | m+1=>by have o:=ys M 1 (x m) (fun c=>b3 m (fun i=>x i*V i c)) (V m) aQ;simp only[b3];rw[show (fun c=>(b3 m fun i=>x i*V i c)+x m*V m c)=(fun c=>1*(b3 m fun i=>x i*V i c)+x m*V m c) from by funext c;grind,o,OW aQ M x V m];grind
theorem D1 : ∀ {n k:Nat} (M:Nat->Nat->Rat),k+1<n->M k=M (k+1)->h4 n M=0
 | 0,k,_,h,_=>by omega
 | n+1,k,M,h,e=>by
  rw[h4]
  have bO:skip k M=skip (k+1) M:=by
   funext i;simp only[skip];by_cases c:i=k
   ·subst c;rw[dA (by omega),dw (by omega)];exact e.symm
   congr 1;split<;>split<;>omega
  have h0 : ∀i,i<n+1->i≠k->i≠k+1->mM (i+n)*M i n*h4 n (skip i M)=0:=by
   intro i ae o J
   have:h4 n (skip i M)=0:=by
    by_cases c:i<k
    ·exact D1 (k:=k-1) _ (by omega) (by simp only[skip];rw[dA (by omega),dA (by omega),show k-1+1=k by omega];exact e)
    exact D1 (k:=k) _ (by omega) (by simp only[skip];rw[dw (by omega),dw (by omega)];exact e)
   rw[this];grind
  have aB : ∀i,i<n+1->mM (i+n)*M i n*h4 n (skip i M)=(if i=k then mM (k+n)*M k n*h4 n (skip k M) else 0)+(if i=k+1 then mM (k+1+n)*M (k+1) n*h4 n (skip (k+1) M) else 0):=by
   intro i ae;by_cases bB:i=k
   ·rw[dw bB,dA (by omega),bB];grind
   by_cases cF:i=k+1
   ·rw[dA bB,dw cF,cF];grind
   rw[dA bB,dA cF,h0 i ae bB cF];grind
  rw[ft aB,vf,jW (k:=k) (by omega) (fun i _ cx=>dA cx),jW (k:=k+1) (by omega) (fun i _ cx=>dA cx),dw rfl,dw rfl,<- bO,<- e,show k+1+n=k+n+1 by omega,W8];grind
def Bb {α:Type}(M:Nat->α)(k i:Nat):α:=if i=k then M (k+1) else if i=k+1 then M k else M i
theorem W9 {n k:Nat}(M:Nat->Nat->Rat)(h:k+1<n):h4 n (Bb M k) = - h4 n M:=by
 have two : ∀u v:Nat->Rat,h4 n (ga (ga M k u) (k+1) v) = - h4 n (ga (ga M k v) (k+1) u):=by
  intro u v;have h0 : ∀w:Nat->Rat,h4 n (ga (ga M k w) (k+1) w)=0:=fun w=>D1 (k:=k) _ h (by funext c;simp[ga])
  have comm : ∀u v:Nat->Rat,ga (ga M k u) (k+1) v=ga (ga M (k+1) v) k u:=by
   intro u v;funext i;simp only[ga];by_cases bB:i=k
   ·subst bB;simp
   simp[bB]
  have mS : ∀w u v:Nat->Rat,h4 n (ga (ga M k w) (k+1) (fun c=>1*u c+1*v c))=1*h4 n (ga (ga M k w) (k+1) u)+1*h4 n (ga (ga M k w) (k+1) v):=fun w u v=>ys (ga M k w) 1 1 u v h;have pz : ∀w u v:Nat->Rat,h4 n (ga (ga M k (fun c=>1*u c+1*v c)) (k+1) w)=1*h4 n (ga (ga M k u) (k+1) w)+1*h4 n (ga (ga M k v) (k+1) w):=fun w u v=>(by rw[comm,comm,comm];exact ys (ga M (k+1) w) 1 1 u v (by omega));have:=h0 (fun c=>1*u c+1*v c);rw[mS,pz,pz,h0,h0] at this;grind
 have ao:Bb M k=ga (ga M k (M (k+1))) (k+1) (M k):=by
  funext i;simp only[Bb,ga];by_cases bB:i=k
  ·subst bB;simp
  simp[bB]
 have aB:ga (ga M k (M k)) (k+1) (M (k+1))=M:=by rw[G7,G7]
 rw[ao,two,aB]
theorem HY : ∀(d:Nat) {n a:Nat} (M:Nat->Nat->Rat),a+d+1<n->M a=M (a+d+1)->h4 n M=0
 | 0,n,a,M,h,e=>D1 M h e
 | d+1,n,a,M,h,e=>by have o:=HY d (n:=n) (a:=a) (Bb M (a+d+1)) (by omega) (by simp only[Bb];rw[dA (by omega),dA (by omega)];rw[dw trivial];exact e);rw[W9 M (by omega)] at o;grind
theorem XU {n a b:Nat}(M:Nat->Nat->Rat)(bA:a<n)(aN:b<n)(rE:a≠b)(e:M a=M b):h4 n M=0:=by
 rcases Nat.lt_or_gt_of_ne rE with c|c
 ·exact HY (b-a-1) M (a:=a) (by omega) (by rw[show a+(b-a-1)+1=b by omega];exact e)
 exact HY (a-b-1) M (a:=b) (by omega) (by rw[show b+(a-b-1)+1=a by omega];exact e.symm)
def dc (K:Nat)(x:Rat):Prop:= ∃z:Int,x=z/\z.natAbs<=K
theorem dc.mono {K rO:Nat}{x:Rat}(h:dc K x)(aQ:K<=rO):dc rO x:=by obtain⟨z,e,h⟩:=h;exact⟨z,e,Nat.le_trans h aQ⟩
theorem dc.add {K rO:Nat}{x y:Rat}(h:dc K x)(cf:dc rO y):dc (K+rO) (x+y):=by obtain⟨a,rfl,bA⟩:=h;obtain⟨b,rfl,aN⟩:=cf;exact⟨a+b,by rw[Rat.intCast_add],by omega⟩
theorem dc.neg {K:Nat}{x:Rat}(h:dc K x):dc K (-x):=by obtain⟨a,rfl,bA⟩:=h;exact⟨-a,by rw[Rat.intCast_neg],by omega⟩
theorem dc.sub {K rO:Nat}{x y:Rat}(h:dc K x)(cf:dc rO y):dc (K+rO) (x-y):=by have:=h.add cf.neg;rw[show x + -y=x-y by grind] at this;exact this
theorem dc.mul {K rO:Nat}{x y:Rat}(h:dc K x)(cf:dc rO y):dc (K*rO) (x*y):=by obtain⟨a,rfl,bA⟩:=h;obtain⟨b,rfl,aN⟩:=cf;exact⟨a*b,by rw[afv],by rw[Int.natAbs_mul];exact Nat.mul_le_mul bA aN⟩
theorem dc.sum {K:Nat}{f:Nat->Rat}: ∀ {n:Nat},(∀i,i<n->dc K (f i))->dc (n*K) (b3 n f)
 | 0,_=>⟨0,rfl,by simp⟩
 | n+1,h=>by have:=(dc.sum (n:=n) fun i ae=>h i (by omega)).add (h n (by omega));rw[<- Nat.succ_mul] at this;exact this
theorem YJ (n:Nat):dc 1 (mM n):=by
 unfold mM;split
 ·exact⟨1,rfl,by omega⟩
 exact⟨-1,rfl,by omega⟩
def j0 (K:Nat):Nat->Nat
 | 0=>1
 | n+1=>(n+1)*(K*j0 K n)
theorem yB {K:Nat}: ∀ {n:Nat} {M:Nat->Nat->Rat},(∀i,i<n-> ∀c,c<n->dc K (M i c))->dc (j0 K n) (h4 n M)
 | 0,_,_=>⟨1,rfl,by simp[j0]⟩
 | n+1,M,h=>dc.sum fun i ae=>by have:=((YJ (i+n)).mul (h i ae n (by omega))).mul (yB (n:=n) (M:=skip i M) fun k aQ c aL=>h _ (by split<;>omega) c (by omega));rw[Nat.one_mul] at this;exact this
theorem yl {K:Nat}(gQ:0<K): ∀ {n k:Nat},n<=k->j0 K n<=j0 K k
 | n,0,h=>by rw[show n=0 by omega];exact dE _
 | n,k+1,h=>by
  by_cases c:n=k+1
  ·rw[c];exact dE _
  refine Nat.le_trans (yl gQ (k:=k) (by omega)) ?_;rw[j0];have:1*j0 K k<=K*j0 K k:=afi _ gQ;have J:1*(K*j0 K k)<=(k+1)*(K*j0 K k):=afi _ (by omega);omega
section
variable {m N:Nat} {A:Nat->Nat->Rat} {t:b8}
def b8.D (m:Nat)(A:Nat->Nat->Rat)(t:b8):Rat:=h4 m (fun i c=>A c (t.B i))
def b8.wO (m:Nat)(A:Nat->Nat->Rat)(t:b8)(i j:Nat):Rat:=h4 m (ga (fun i c=>A c (t.B i)) i (fun c=>A c j))
theorem fX.wO (h:fX m m N A t){i j:Nat}(ae:i<m)(av:j<=N):t.wO m A i j=t.T i j*t.D m A:=by
 have e:t.wO m A i j=h4 m (ga (fun i c=>A c (t.B i)) i (fun c=>b3 m (fun k=>t.T k j*(fun i c=>A c (t.B i)) k c))):=by
  refine Dz fun k aQ c aL=> ?_;simp only[ga];split
  ·show A c j=_;rw[h.qV c aL j av];exact ft fun k _=>Rat.mul_comm _ _
  rfl
 rw[e,OW ae,jW ae fun k aQ cx=>by rw[XU _ ae aQ (fun x=>cx x.symm) (by simp only[ga,if_true];rw[dA cx])];grind];rw[G7 (fun i c=>A c (t.B i)) i];rfl
theorem fX.Bc (h:fX m m N A t){r k:Nat}(aj:r<m)(aQ:k<N):(t.cG r k).D m A=t.T r k*t.D m A:=by rw[<- h.wO aj (by omega:k<=N)];refine Dz fun i ae c aL=> ?_;simp only[b8.cG,ga];split<;>rfl
end
def a4 {α:Type}(n:Nat)(f:Nat->α):List α:=(List.range n).map f
theorem eK {α:Type}(n:Nat)(f:Nat->α):(a4 n f).length=n:=by simp[a4]
theorem gX {α:Type}{n:Nat}{f:Nat->α}{i:Nat}(h:i<n):(a4 n f)[i]? = some (f i):=by simp[a4,h]
theorem jy {α:Type}{n:Nat}{f:Nat->α}{i:Nat}(h:i<n):(a4 n f)[0+i]? = some (f i):=by rw[dF];exact gX h
theorem fx {α:Type}{n:Nat}{f g:Nat->α}(h:∀i,i<n->f i=g i):a4 n f=a4 n g :=
 afq fun i ae=>h i (List.mem_range.1 ae)
theorem k2 {α:Type}(n:Nat)(f:Nat->α)(i:Nat)(v:α):(a4 n f).set i v=a4 n (fun k=>if k=i then v else f k):=by
 apply afo;intro k;rw[aff];simp only[a4,aft,List.length_range,dJ];by_cases h:i=k
 ·subst h
  by_cases c:i<n
  ·simp[c]
  simp[c]
 rw[dA h];by_cases c:k<n
 ·simp[c,Ne.symm h]
 simp[c]
theorem XV {α:Type}{n:Nat}{f:Nat->α}{x:α}:x∈a4 n f↔ ∃i,i<n/\f i=x:=by simp[a4]
theorem XW {α β:Type}(n:Nat)(f:Nat->α)(g:α->β):(a4 n f).map g=a4 n (fun i=>g (f i)):=by simp[a4]
theorem AA {α:Type}(n:Nat)(f:Nat->α):a4 (n+1) f=a4 n f++[f n]:=by simp[a4,List.range_succ]
theorem fP {n:Nat}(h:n<1000000):U ((n:Int)+1)=((n+1:Nat):Int):=by rw[cI (by omega) (by omega)];omega
theorem cN {α:Type}{p:Prop}[Decidable p] {x r:Option α} (k:x=r) (h:p:=by first|omega|(simp only;omega)|(rw[eK];omega)|(rw[eK,dz];omega)|(rw[eK];simp only;omega)|(simp only;rw[eK];omega)):(if p then x else none)=r:=dX h k
theorem ff {α:Type}{p:Prop}[Decidable p] {x y r:α} (k:x=r) (h:p:=by first|omega|(simp only;omega)):(if decide p=true then x else y)=r:=lf h k
theorem fY {α:Type}{p:Prop}[Decidable p] {x y r:α} (k:y=r) (h : ¬p:=by first|omega|(simp only;omega)|(simp;done)):(if decide p=true then x else y)=r:=j4 h k
def lA (x:Int):Int:=if x<0 then -1 else 1
def nU (m n:Nat)(a:Nat->Nat->Int)(b:Nat->Int)(i j:Nat):Int :=
 if j<n then lA (b i)*a i j else if j=n+m then lA (b i)*b i else if j=n+i then 1 else 0
def d4 (m n:Nat)(a:Nat->Nat->Int)(b:Nat->Int)(i j:Nat):Rat:=(nU m n a b i j:Rat)
def oQ (m n:Nat)(a:Nat->Nat->Int)(b:Nat->Int):b8:=⟨d4 m n a b,fun i=>n+i⟩
def ib (m n j:Nat):Rat:=if n<=j/\j<n+m then -1 else 0
def pp (m n:Nat)(a:Nat->Nat->Int)(b:Nat->Int):Prop:= ∃x:Nat->Rat,(∀j,j<n->0<=x j)/\ ∀i,i<m->b3 n (fun j=>(a i j:Rat)*x j)=(b i:Rat)
section
variable {m n:Nat} {a:Nat->Nat->Int} {b:Nat->Int}
theorem Px (x:Int):((lA x:Int):Rat)≠0:=by unfold lA;split<;>simp<;>decide
theorem XX (x:Int):0<=lA x*x:=by unfold lA;split<;>omega
theorem vw {i k:Nat}(aQ:k<m):d4 m n a b i (n+k)=if k=i then 1 else 0:=by
 unfold d4 nU;rw[dA (by omega),dA (by omega)];by_cases c:k=i
 ·rw[dw c,dw (by omega)];rfl
 rw[dA c,dA (by omega)];rfl
theorem HZ {i j:Nat}(av:j<n):d4 m n a b i j=((lA (b i):Int):Rat)*(a i j:Rat):=by unfold d4 nU;rw[dw av,afv]
theorem Ec {i:Nat}:d4 m n a b i (n+m)=((lA (b i):Int):Rat)*(b i:Rat):=by unfold d4 nU;rw[dA (by omega),dw rfl,afv]
theorem YK {i:Nat}:0<=d4 m n a b i (n+m):=by unfold d4 nU;rw[dA (by omega),dw rfl];have:=XX (b i);exact Rat.intCast_nonneg.2 this
theorem XY:fX m m (n+m) (d4 m n a b) (oQ m n a b) where
 qV:=fun c aL j _=>by rw[jW aL (f:=fun i=>d4 m n a b c ((oQ m n a b).B i)*(oQ m n a b).T i j) (fun i ae cx=>by show d4 m n a b c (n+i)*_=0;rw[vw ae,dA cx];grind)];show _=d4 m n a b c (n+c)*d4 m n a b c j;rw[vw aL,dw rfl];grind
 row:=⟨fun i c=>if i=c then 1 else 0,fun i ae j _=>by rw[jW ae (f:=fun c=>(if i=c then (1:Rat) else 0)*d4 m n a b c j) (fun c _ cx=>by rw[dA (Ne.symm cx)];grind),dw rfl];show d4 m n a b i j=_;grind⟩
 unit:=fun i _ k aQ=>by
  show d4 m n a b i (n+k)=_;rw[vw aQ];by_cases c:k=i
  ·rw[dw c,dw c.symm]
  rw[dA c,dA (Ne.symm c)]
 jQ:=fun i ae=>by show n+i<n+m;omega
theorem V7:(oQ m n a b).kN m (n+m):=fun i ae=>YK
theorem adq (j:Nat):(oQ m n a b).dd m (ib m n) j=ib m n j+b3 m (fun i=>d4 m n a b i j):=by unfold b8.dd;rw[ft (g:=fun i=>(-1)*d4 m n a b i j) (fun i ae=>by show ib m n (n+i)*d4 m n a b i j=_;unfold ib;rw[dw (by omega)]),ik];grind
theorem Py:(oQ m n a b).D m (d4 m n a b)=1:=by
 have key : ∀k,k<=m->h4 k (fun i c=>d4 m n a b c (n+i))=1:=by
  intro k
  induction k with
  | zero=>intro _;rfl
  | succ k ih =>
   intro aQ;rw[h4,jW (k:=k) (by omega) (fun i ae cx=>by rw[vw (by omega),dA cx];grind)];rw[vw (by omega),dw rfl,Dz (zy:=fun i c=>d4 m n a b c (n+i)) (fun i ae c aL=>by simp only[skip];rw[dw ae]),ih (by omega)];unfold mM;rw[dw (by omega)];grind
 show h4 m _=1;rw[show (fun i c=>d4 m n a b c ((oQ m n a b).B i))=fun i c=>d4 m n a b c (n+i) from rfl,key m (dE _)]
theorem Xa:(oQ m n a b).D m (d4 m n a b)≠0:=by rw[Py];grind
variable {t:b8}
theorem Dl (j:Nat):ib m n j<=0:=by unfold ib;split<;>grind
theorem Us (f:t.kN m (n+m)):0<=t.dd m (ib m n) (n+m):=by
 unfold b8.dd;have o:ib m n (n+m)=0:=by unfold ib;rw[dA (by omega)]
 have J:0<=b3 m (fun i=> -(ib m n (t.B i))*t.T i (n+m)):=q9 fun i ae=>afu (by have:= @Dl m n (t.B i);grind) (f i ae);rw[ft (g:=fun i=>(-1)*(ib m n (t.B i)*t.T i (n+m))) (fun i _=>by grind),ik] at J;grind
theorem U7 (ok:fX m m (n+m) (d4 m n a b) t)(f:t.kN m (n+m))(h:∀i,i<m->n<=t.B i->t.T i (n+m)=0):pp m n a b:=by
 refine⟨t.gB m (n+m),fun j _=>f.gB j,fun i ae=> ?_⟩;have bO:=ok.YI i ae;rw[GJ,Ec] at bO
 have b5:b3 m (fun k=>d4 m n a b i (n+k)*t.gB m (n+m) (n+k))=0:=nr fun k aQ=>by
  have:t.gB m (n+m) (n+k)=0:=nr fun eM iC=>by
   split
   ·rename_i e;exact h eM iC (by omega)
   rfl
  rw[this];grind
 rw[b5,ft (g:=fun j=>((lA (b i):Int):Rat)*((a i j:Rat)*t.gB m (n+m) j)) (fun j av=>by rw[HZ av];grind),ik] at bO;have:=Px (b i);grind
theorem U8 (f:t.kN m (n+m))(h:t.dd m (ib m n) (n+m)=0)(aN:∀i,i<m->t.B i<n+m): ∀i,i<m->n<=t.B i->t.T i (n+m)=0:=by
 unfold b8.dd at h;have o:ib m n (n+m)=0:=by unfold ib;rw[dA (by omega)]
 have J:b3 m (fun i=> -(ib m n (t.B i))*t.T i (n+m))=0:=by rw[ft (g:=fun i=>(-1)*(ib m n (t.B i)*t.T i (n+m))) (fun i _=>by grind),ik];grind
 intro i ae aV;have ab:=Gr (n:=m) (fun i ae=>afu (by have:= @Dl m n (t.B i);grind) (f i ae)) J i ae;have aA:ib m n (t.B i) = -1:=by unfold ib;rw[dw ⟨aV,aN i ae⟩]
 rw[aA] at ab;grind
theorem Vy (ok:fX m m (n+m) (d4 m n a b) t)(f:t.kN m (n+m))(h:∀j,j<n->t.dd m (ib m n) j<=0)(bO:pp m n a b):t.dd m (ib m n) (n+m)=0:=by
 obtain⟨x,aa,hA⟩:=bO;have b5 : ∀c,c<m->b3 (n+m) (fun j=>d4 m n a b c j*(if j<n then x j else 0))=d4 m n a b c (n+m):=fun c aL=>by rw[GJ,nr (n:=m) (fun k aQ=>by rw[dA (by omega)];grind),Ec,<- hA c aL,<- ik];rw[ft (g:=fun j=>((lA (b c):Int):Rat)*((a c j:Rat)*x j)) (fun j av=>by rw[HZ av,dw av];grind)];grind
 have aZ:=ok.value (ib m n) b5
 rw[nr (n:=n+m) (f:=fun j=>ib m n j*(if j<n then x j else 0)) (fun j av=>by
  by_cases c:j<n
  ·unfold ib;rw[dA (by omega)];grind
  rw[dA c];grind)] at aZ
 have o:b3 (n+m) (fun j=>(if j<n then x j else 0)*t.dd m (ib m n) j)<=b3 (n+m) (fun _=>(0:Rat)):=W1 fun j av=>by
  by_cases c:j<n
  ·rw[dw c];have:=afu (aa j c) (show 0<= -(t.dd m (ib m n) j) by have:=h j c;grind);grind
  rw[dA c];grind
 rw[nr (n:=n+m) (f:=fun _=>(0:Rat)) fun _ _=>rfl] at o;have J:=Us (m:=m) (n:=n) f;have ab:t.dd m (ib m n) (n+m) = - b3 m (fun i=>ib m n (t.B i)*t.T i (n+m)):=by unfold b8.dd;have:ib m n (n+m)=0:=(by unfold ib;rw[dA (by omega)]);rw[this];grind
 grind
theorem UG (ok:fX m m (n+m) (d4 m n a b) t){s:Nat}(bO:s<n+m)(dt:0<t.dd m (ib m n) s): ∃i,i<m/\0<t.T i s:=by
 apply Classical.byContradiction;intro cx;have o:b3 m (fun i=>ib m n (t.B i)*t.T i s)>=0:=q9 fun i ae=>by have J : ¬0<t.T i s:=fun c=>cx ⟨i,ae,c⟩;have:=afu (show 0<= -(ib m n (t.B i)) by have:= @Dl m n (t.B i);grind) (show 0<= -(t.T i s) by grind);grind
 unfold b8.dd at dt;have:= @Dl m n s;grind
end
def rF (m n:Nat)(a:Nat->Nat->Int)(b:Nat->Int)(x:Nat->Rat):Prop:=(∀j,j<n->0<=x j)/\ ∀i,i<m->b3 n (fun j=>(a i j:Rat)*x j)=(b i:Rat)
def val (n:Nat)(I x:Nat->Rat):Rat:=b3 n (fun j=>I j*x j)
def h5 (c:Nat->Rat)(l j:Nat):Rat:=match l with
 | 0=>c j
 | l+1=>if j=l then -1 else 0
def sX (m n:Nat)(a:Nat->Nat->Int)(b:Nat->Int)(c x:Nat->Rat):Prop :=
 rF m n a b x/\ ∀y,rF m n a b y-> ¬hF (n+1) (fun l=>val n (h5 c l) y-val n (h5 c l) x)
def Bounded (m n:Nat)(a:Nat->Nat->Int)(b:Nat->Int)(c:Nat->Rat):Prop:= ∃V,∀y,rF m n a b y->val n c y<=V
section
variable {m n:Nat} {a:Nat->Nat->Int} {b:Nat->Int} {c:Nat->Rat}
theorem Xb {x:Nat->Rat}{j:Nat}(av:j<n):val n (h5 c (j+1)) x = - x j:=by unfold val;rw[jW av (f:=fun i=>h5 c (j+1) i*x i) (fun i ae cx=>by simp only[h5];rw[dA cx];grind)];simp only[h5,if_true];grind
theorem sX.unique {x y:Nat->Rat}(aa:sX m n a b c x)(aP:sX m n a b c y):(∀j,j<n->x j=y j)/\val n c x=val n c y:=by
 rcases Dy (n+1) (fun l=>val n (h5 c l) y-val n (h5 c l) x) with h|h|h
 ·exact(aa.2 y aP.1 h).elim
 ·refine⟨fun j av=> ?_,?_⟩
  ·have:=h (j+1) (by omega);simp only[Xb av] at this;grind
  have:=h 0 (by omega);simp only at this;have e:h5 c 0=c:=rfl;rw[e] at this;grind
 exact(aP.2 x aa.1 (h.congr fun l _=>by grind)).elim
theorem sX.ad0 {x y:Nat->Rat}(aa:sX m n a b c x)(aP:rF m n a b y):val n c y<=val n c x:=by apply Classical.byContradiction;intro h;refine aa.2 y aP ⟨0,by omega,?_,fun l aF=>by omega⟩;have e:h5 c 0=c:=rfl;simp only[e];grind
structure LT (m n:Nat) (a:Nat->Nat->Int) (b:Nat->Int) (aU N:Nat) (u:b8):Prop where
 eqv : ∀x:Nat->Rat,(∀i,i<m->b3 n (fun j=>(a i j:Rat)*x j)=(b i:Rat))↔ ∀i,i<aU->b3 n (fun j=>u.T i j*x j)=u.T i N
 unit : ∀i,i<aU-> ∀k,k<aU->u.T i (u.B k)=if i=k then 1 else 0
 jQ : ∀i,i<aU->u.B i<n
 lg:u.kN aU N
 Ka:n<=N
variable {aU N:Nat} {u:b8}
theorem LT.D0 (h:LT m n a b aU N u)(f:Nat->Rat):b3 n (fun j=>f j*u.gB aU N j)=b3 aU (fun i=>f (u.B i)*u.T i N):=by unfold b8.gB;rw[ft (g:=fun j=>b3 aU (fun i=>if u.B i=j then f (u.B i)*u.T i N else 0)) (fun j _=>by rw[<- ik];exact ft fun i _=>by split<;>grind),pc];exact ft fun i ae=>by rw[jW (h.jQ i ae) (f:=fun j=>if u.B i=j then f (u.B i)*u.T i N else 0) (fun j _ cx=>dA fun x=>cx x.symm),dw rfl]
theorem LT.gB (h:LT m n a b aU N u):rF m n a b (u.gB aU N):=by refine⟨fun j _=>h.lg.gB j,(h.eqv _).2 fun i ae=> ?_⟩;rw[h.D0,jW ae (f:=fun k=>u.T i (u.B k)*u.T k N) (fun k aQ cx=>by rw[h.unit i ae k aQ,dA (fun e=>cx e.symm)];grind),h.unit i ae i ae,dw rfl];grind
theorem LT.Ho (h:LT m n a b aU N u)(I:Nat->Rat){x:Nat->Rat}(aa:rF m n a b x):b3 n (fun j=>u.dd aU I j*x j)=val n I x-val n I (u.gB aU N):=by have aj:=(h.eqv x).1 aa.2;unfold val b8.dd;rw[h.D0 I,ft (g:=fun j=>I j*x j-b3 aU (fun i=>I (u.B i)*(u.T i j*x j))) (fun j _=>by rw[ft (f:=fun i=>I (u.B i)*(u.T i j*x j)) (g:=fun i=>x j*(I (u.B i)*u.T i j)) (fun i _=>by grind),ik];grind),rb,pc];congr 1;exact ft fun i ae=>by rw[ik,aj i ae]
theorem LT.x7 (h:LT m n a b aU N u)(I:Nat->Rat){i:Nat}(ae:i<aU):u.dd aU I (u.B i)=0:=by unfold b8.dd;rw[jW ae (f:=fun k=>I (u.B k)*u.T k (u.B i)) (fun k aQ cx=>by rw[h.unit k aQ i ae,dA cx];grind),h.unit i ae i ae,dw rfl];grind
theorem LT.mf (h:LT m n a b aU N u)(dt:∀j,j<n-> ¬u.Fp aU (n+1) (h5 c) j):sX m n a b c (u.gB aU N):=by
 refine⟨h.gB,fun y aP aF=> ?_⟩;have EZ:hF (n+1) (fun l=>b3 n (fun j=>u.dd aU (h5 c l) j*y j)):=aF.congr fun l _=>(h.Ho (h5 c l) aP).symm;obtain⟨j,av,ah⟩:=hF.HW (v:=fun j l=>u.dd aU (h5 c l) j*y j) EZ;rcases(ah.congr (fK:=fun l=>y j*u.dd aU (h5 c l) j) fun l _=>Rat.mul_comm _ _).Pw with ⟨-,J⟩|⟨J,-⟩
 ·exact dt j av J
 have:=aP.1 j av;grind
theorem LT.Jo (h:LT m n a b aU N u)(I:Nat->Rat){s:Nat}(bO:s<n)(dt:0<u.dd aU I s)(h7:∀i,i<aU-> ¬0<u.T i s): ¬Bounded m n a b I:=by
 rintro⟨V,hV⟩;have bz : ∀f:Nat->Rat,b3 n (fun j=>f j*u.dir aU s j)=f s-b3 aU (fun i=>f (u.B i)*u.T i s):=fun f=>by unfold b8.dir;rw[ft (g:=fun j=>(if j=s then f s else 0)-b3 aU (fun i=>if u.B i=j then f (u.B i)*u.T i s else 0)) (fun j _=>by have e:b3 aU (fun i=>if u.B i=j then f (u.B i)*u.T i s else 0)=f j*b3 aU (fun i=>if u.B i=j then u.T i s else 0):=(by rw[<- ik];exact ft fun i _=>by split<;>grind);rw[e];split<;>grind),rb,jW bO (f:=fun j=>if j=s then f s else 0) (fun i _ cx=>dA cx),dw rfl,pc];congr 1;exact ft fun i ae=>by rw[jW (h.jQ i ae) (f:=fun j=>if u.B i=j then f (u.B i)*u.T i s else 0) (fun j _ cx=>dA fun x=>cx x.symm),dw rfl]
 have pos : ∀j,0<=u.dir aU s j:=fun j=>by unfold b8.dir;have o:0<=b3 aU (fun i=> -(if u.B i=j then u.T i s else 0)):=q9 fun i ae=>(by have:=h7 i ae;split<;>grind);rw[ft (g:=fun i=>(-1)*(if u.B i=j then u.T i s else 0)) (fun i _=>by grind),ik] at o;split<;>grind
 have Jo : ∀wT:Rat,0<=wT->rF m n a b (fun j=>u.gB aU N j+wT*u.dir aU s j)/\val n I (fun j=>u.gB aU N j+wT*u.dir aU s j)=val n I (u.gB aU N)+wT*u.dd aU I s:=fun wT J9=>by
  have Q9 : ∀f:Nat->Rat,b3 n (fun j=>f j*(u.gB aU N j+wT*u.dir aU s j))=b3 n (fun j=>f j*u.gB aU N j)+wT*(f s-b3 aU (fun i=>f (u.B i)*u.T i s)):=fun f=>(by rw[<- bz f,<- ik,<- vf];exact ft fun j _=>by grind);refine⟨⟨fun j _=> ?_,(h.eqv _).2 fun i ae=> ?_⟩,Q9 I⟩
  ·have o:=h.lg.gB (m:=aU) (N:=N) j;have J:=afu J9 (pos j);grind
  rw[Q9 (u.T i),(h.eqv _).1 h.gB.2 i ae,jW ae (f:=fun k=>u.T i (u.B k)*u.T k s) (fun k aQ cx=>by rw[h.unit i ae k aQ,dA (fun e=>cx e.symm)];grind),h.unit i ae i ae,dw rfl];grind
 have Ra:=hV _ h.gB;have cx:u.dd aU I s≠0:=by grind
 obtain⟨ad,bu⟩:=Jo ((V-val n I (u.gB aU N)+1) / u.dd aU I s) (by rw[Rat.div_def];exact afu (by grind) (Rat.le_of_lt (Rat.inv_pos.2 dt)));have ab:=hV _ ad;rw[bu] at ab;have:(V-val n I (u.gB aU N)+1) / u.dd aU I s*u.dd aU I s=V-val n I (u.gB aU N)+1:=by grind
 grind
theorem LT.cG (h:LT m n a b aU N u){r k:Nat}(aj:r<aU)(aQ:k<n)(ah:u.T r k≠0)(b0:(u.cG r k).kN aU N):LT m n a b aU N (u.cG r k) where
 eqv:=fun x=>by
  rw[h.eqv x];have ao:b3 n (fun j=>(u.cG r k).T r j*x j)=(1 / u.T r k)*b3 n (fun j=>u.T r j*x j):=(by rw[<- ik];exact ft fun j _=>by simp only[b8.cG,if_true];grind);have aB : ∀i,i≠r->b3 n (fun j=>(u.cG r k).T i j*x j)=b3 n (fun j=>u.T i j*x j)-(u.T i k / u.T r k)*b3 n (fun j=>u.T r j*x j):=fun i ae=>(by rw[<- ik,<- rb];exact ft fun j _=>by simp only[b8.cG,dA ae];grind);have hj:(u.cG r k).T r N=(1 / u.T r k)*u.T r N:=(by simp only[b8.cG,if_true];grind);have jx : ∀i,i≠r->(u.cG r k).T i N=u.T i N-(u.T i k / u.T r k)*u.T r N:=fun i ae=>(by simp only[b8.cG,dA ae];grind);constructor
  ·intro aa i ae
   by_cases c:i=r
   ·rw[c,ao,hj,aa r aj]
   rw[aB i c,jx i c,aa i ae,aa r aj]
  intro aa;have Rb:b3 n (fun j=>u.T r j*x j)=u.T r N:=(by have:=aa r aj;rw[ao,hj] at this;have J:u.T r k*((1 / u.T r k)*b3 n (fun j=>u.T r j*x j))=u.T r k*((1 / u.T r k)*u.T r N):=(by rw[this]);grind);intro i ae;by_cases c:i=r
  ·rw[c];exact Rb
  have:=aa i ae;rw[aB i c,jx i c,Rb] at this;grind
 unit:=by
  intro i ae dn mH;simp only[b8.cG];by_cases e:i=r
  ·subst e
   simp only[if_true];by_cases er:dn=i
   ·subst er;simp only[if_true];grind
   simp only[dA er];rw[h.unit i ae dn mH,dA (fun x=>er x.symm)];grind
  simp only[dA e];by_cases er:dn=r
  ·subst er;simp only[if_true,dA e];grind
  simp only[dA er];rw[h.unit i ae dn mH,h.unit r aj dn mH,dA (c:=r=dn) (fun x=>er x.symm)];grind
 jQ:=fun i ae=>by
  simp only[b8.cG];split
  ·exact aQ
  exact h.jQ i ae
 lg:=b0
 Ka:=h.Ka
theorem LT.tok (h:LT m n a b aU N u)(aV:n<=N)(fS:0<N):fX aU aU N u.T u where
 qV:=fun c aL j _=>by rw[jW aL (f:=fun i=>u.T c (u.B i)*u.T i j) (fun i ae cx=>by rw[h.unit c aL i ae,dA (fun e=>cx e.symm)];grind),h.unit c aL c aL,dw rfl];grind
 row:=⟨fun i c=>if i=c then 1 else 0,fun i ae j _=>by rw[jW ae (f:=fun c=>(if i=c then (1:Rat) else 0)*u.T c j) (fun c _ cx=>by rw[dA (Ne.symm cx)];grind),dw rfl];grind⟩
 unit:=h.unit
 jQ:=fun i ae=>Nat.lt_of_lt_of_le (h.jQ i ae) aV
def uk (n:Nat)(cY:Nat->Bool)(x:Nat->Rat):Prop:= ∀j,j<n->cY j=false->x j=0
structure oX (m n:Nat) (a:Nat->Nat->Int) (b:Nat->Int) (c:Nat->Rat) (l:Nat) (cY:Nat->Bool) (V:Nat->Rat):Prop where
 low : ∀y,rF m n a b y->uk n cY y-> ∀k,k<l->val n (h5 c k) y=V k
 up : ∀y,rF m n a b y-> ¬uk n cY y-> ∃k,k<l/\val n (h5 c k) y<V k/\ ∀q,q<k->val n (h5 c q) y=V q
theorem oX.zero {cY:Nat->Bool}(h:∀j,j<n->cY j=true)(V:Nat->Rat):oX m n a b c 0 cY V where
 low:=fun y _ _ k aQ=>by omega
 up:=fun y _ b0=>(b0 fun j av e=>by rw[h j av] at e;cases e).elim
theorem oX.next (h:LT m n a b aU N u){l:Nat}{cY ko:Nat->Bool}{V:Nat->Rat}(s:oX m n a b c l cY V)(dt:∀j,j<n->cY j=true-> ¬0<u.dd aU (h5 c l) j)
 (pv : ∀j,j<n->ko j=(cY j && !decide (u.dd aU (h5 c l) j<0))) : ∃Cr,oX m n a b c (l+1) ko Cr:=by
 have sub : ∀y,uk n ko y->uk n cY y:=fun y aP j av e=>aP j av (by rw[pv j av,e];rfl)
 have neg : ∀y,rF m n a b y->uk n cY y-> ∀j,j<n->0<= -(u.dd aU (h5 c l) j*y j):=fun y aP b0 j av=>by
  cases e:cY j with
  | false=>rw[b0 j av e];grind
  | true =>
   have:=afu (show 0<= -(u.dd aU (h5 c l) j) by have:=dt j av e;grind) (aP.1 j av);grind
 refine⟨fun k=>if k=l then val n (h5 c l) (u.gB aU N) else V k,fun y aP b0 k aQ=> ?_,fun y aP b0=> ?_⟩
 ·by_cases e:k=l
  ·rw[dw e,e]
   have b5:b3 n (fun j=>u.dd aU (h5 c l) j*y j)=0:=nr fun j av=>by
    cases e:ko j with
    | false=>rw[b0 j av e];grind
    | true =>
     rw[pv j av,afd] at e;have o:=dt j av e.1;have J : ¬u.dd aU (h5 c l) j<0:=(by simpa using e.2);have:u.dd aU (h5 c l) j=0:=(by grind);rw[this];grind
   rw[h.Ho _ aP] at b5;grind
  rw[dA e];exact s.low y aP (sub y b0) k (by omega)
 by_cases g:uk n cY y;rotate_left
 ·obtain⟨k,jU,h1,jV⟩:=s.up y aP g;exact⟨k,by omega,by rw[dA (by omega)];exact h1,fun q a2=>by rw[dA (by omega)];exact jV q a2⟩
 refine⟨l,by omega,?_,fun q a2=>by rw[dA (by omega)];exact s.low y aP g q a2⟩;rw[dw rfl];have o:=h.Ho (h5 c l) aP;have J:=neg y aP g;have ab:=q9 J
 have aA:b3 n (fun j=> -(u.dd aU (h5 c l) j*y j))≠0:=fun e=>b0 fun j av RT=>by
  have:=Gr J e j av
  cases ao:cY j with
  | false=>exact g j av ao
  | true =>
   rw[pv j av,ao,Bool.true_and] at RT;have aJ:u.dd aU (h5 c l) j<0:=(by simpa using RT);grind
 rw[ft (g:=fun j=>(-1)*(u.dd aU (h5 c l) j*y j)) (fun j _=>by grind),ik,o] at ab aA;grind
theorem oX.mf (h:LT m n a b aU N u){cY:Nat->Bool}{V:Nat->Rat}(s:oX m n a b c (n+1) cY V)(aN:∀i,i<aU->cY (u.B i)=true):sX m n a b c (u.gB aU N):=by
 have aa:uk n cY (u.gB aU N):=fun j av e=>b8.Gz fun i ae aB=>by have:=aN i ae;rw[aB,e] at this;cases this
 have aZ:=s.low _ h.gB aa;refine⟨h.gB,fun y aP ⟨l,mS,pz,Fs⟩=> ?_⟩;by_cases g:uk n cY y
 ·have:=s.low y aP g l mS;have:=aZ l mS;grind
 obtain⟨k,jU,h1,jV⟩:=s.up y aP g;rcases Nat.lt_trichotomy l k with e|e|e
 ·have:=jV l e;have:=aZ l mS;grind
 ·subst e;have:=aZ l mS;grind
 have:=Fs k e;have:=aZ k jU;grind
theorem LT.V8 (h:LT m n a b aU N u){k s:Nat}(dt:0<u.dd aU (h5 c (k+1)) s): ∃i,i<aU/\0<u.T i s:=by
 apply Classical.byContradiction;intro cx;have o:0<=b3 aU (fun i=>h5 c (k+1) (u.B i)*u.T i s):=q9 fun i ae=>by have J : ¬0<u.T i s:=fun e=>cx ⟨i,ae,e⟩;simp only[h5];split<;>grind
 unfold b8.dd at dt;have ab:h5 c (k+1) s<=0:=by simp only[h5];split<;>grind
 grind
end
end Go.VL
namespace Go.Proofs.YtopadgleejacdacGreat
set_option linter.unusedVariables false
set_option linter.unusedSimpArgs false
open Go Go.VL
structure bn where
 nw:ByteArray
 lF:Int
 lG:Int
 n5:Bool
 deriving DecidableEq
structure bV where
 gy:Int
 gz:Int
 jB:Int
 deriving DecidableEq
structure cp where
 cm:(List bn)
 bs:(List bV)
 deriving DecidableEq
structure Xc where
 mX:ar
 acC:Int
 acD:Int
 deriving DecidableEq
structure bt where
 c5:Bool
 cJ:ar
 deriving DecidableEq
structure gL where
 m6:bt
 jO:ar
 deriving DecidableEq
structure n1 where
 kM:Int
 jY:Int
 gy:ar
 gz:ar
 kg:ar
 deriving DecidableEq
structure fy where
 hE:Int
 sd:Int
 deriving DecidableEq
structure bP where
 p3:bt
 pq:ar
 deriving DecidableEq
structure sO where
 Eo:(List (List bt))
 wo:bt
 Ed:ar
 Ie:Int
 Ig:(List Bool)
 deriving DecidableEq
def c3 (x:bn):List an:=[.s x.nw,.n .i64 x.lF,.n .i64 x.lG,.b x.n5]
theorem ade : ∀x,∀v∈c3 x,v.il=true:=by intro x v aZ;simp only[c3,dO,afg,or_false] at aZ;rcases aZ with rfl|rfl|rfl|rfl<;>rfl
theorem adf : ∀x,∀v∈c3 x,ck v:=fun x=>(sQ (.s _) (sQ (.n _ _) (sQ (.n _ _) (sQ (.b _) HC))))
theorem sK : ∀x,∀v∈c3 x,Pure v:=by
 intro x v aZ;simp only[c3,dO,afg,or_false] at aZ;rcases aZ with rfl|rfl|rfl|rfl
 ·exact .s _
 ·exact .n _ _
 ·exact .n _ _
 exact .b _
def c9 (x:bV):List an:=[.n .i64 x.gy,.n .i64 x.gz,.n .i64 x.jB]
theorem ac8 : ∀x,∀v∈c9 x,v.il=true:=by intro x v aZ;simp only[c9,dO,afg,or_false] at aZ;rcases aZ with rfl|rfl|rfl<;>rfl
theorem ac9 : ∀x,∀v∈c9 x,ck v:=fun x=>(sQ (.n _ _) (sQ (.n _ _) (sQ (.n _ _) HC)))
theorem qp : ∀x,∀v∈c9 x,Pure v:=by
 intro x v aZ;simp only[c9,dO,afg,or_false] at aZ;rcases aZ with rfl|rfl|rfl
 ·exact .n _ _
 ·exact .n _ _
 exact .n _ _
def fV (x:cp):List an:=[.isl 4 (x.cm.map c3),.isl 3 (x.bs.map c9)]
theorem acX : ∀x,∀v∈fV x,v.il=true:=by intro x v aZ;simp only[fV,dO,afg,or_false] at aZ;rcases aZ with rfl|rfl<;>rfl
theorem pH : ∀x,∀v∈fV x,Pure v:=by
 intro x v aZ;simp only[fV,dO,afg,or_false] at aZ;rcases aZ with rfl|rfl
 ·exact .isl (el sK _)
 exact .isl (el qp _)
def DA (x:Xc):List an:=[.isl 1 (x.mX.map eU8),.n .i64 x.acC,.n .i64 x.acD]
theorem ac4 : ∀x,∀v∈DA x,v.il=true:=by intro x v aZ;simp only[DA,dO,afg,or_false] at aZ;rcases aZ with rfl|rfl|rfl<;>rfl
theorem acY : ∀x,∀v∈DA x,Pure v:=by
 intro x v aZ;simp only[DA,dO,afg,or_false] at aZ;rcases aZ with rfl|rfl|rfl
 ·exact .isl (el Oe _)
 ·exact .n _ _
 exact .n _ _
def a3 (x:bt):List an:=[.b x.c5,.isl 1 (x.cJ.map R)]
theorem eb : ∀x,∀v∈a3 x,v.il=true:=by intro x v aZ;simp only[a3,dO,afg,or_false] at aZ;rcases aZ with rfl|rfl<;>rfl
theorem sI : ∀x,∀v∈a3 x,Pure v:=by
 intro x v aZ;simp only[a3,dO,afg,or_false] at aZ;rcases aZ with rfl|rfl
 ·exact .b _
 exact .isl (el az _)
def gJ (x:gL):List an:=[.b x.m6.c5,.isl 1 (x.m6.cJ.map R),.isl 1 (x.jO.map R)]
theorem adA : ∀x,∀v∈gJ x,v.il=true:=by intro x v aZ;simp only[gJ,dO,afg,or_false] at aZ;rcases aZ with rfl|rfl|rfl<;>rfl
theorem Ds : ∀x,∀v∈gJ x,Pure v:=by
 intro x v aZ;simp only[gJ,dO,afg,or_false] at aZ;rcases aZ with rfl|rfl|rfl
 ·exact .b _
 ·exact .isl (el az _)
 exact .isl (el az _)
def DB (x:n1):List an:=[.n .i64 x.kM,.n .i64 x.jY,.isl 1 (x.gy.map R),.isl 1 (x.gz.map R),.isl 1 (x.kg.map R)]
theorem ac5 : ∀x,∀v∈DB x,v.il=true:=by intro x v aZ;simp only[DB,dO,afg,or_false] at aZ;rcases aZ with rfl|rfl|rfl|rfl|rfl<;>rfl
theorem acZ : ∀x,∀v∈DB x,Pure v:=by
 intro x v aZ;simp only[DB,dO,afg,or_false] at aZ;rcases aZ with rfl|rfl|rfl|rfl|rfl
 ·exact .n _ _
 ·exact .n _ _
 ·exact .isl (el az _)
 ·exact .isl (el az _)
 exact .isl (el az _)
def fi (x:fy):List an:=[.n .i64 x.hE,.n .i64 x.sd]
theorem ac6 : ∀x,∀v∈fi x,v.il=true:=by intro x v aZ;simp only[fi,dO,afg,or_false] at aZ;rcases aZ with rfl|rfl<;>rfl
theorem ac7 : ∀x,∀v∈fi x,ck v:=fun x=>(sQ (.n _ _) (sQ (.n _ _) HC))
theorem u3 : ∀x,∀v∈fi x,Pure v:=by
 intro x v aZ;simp only[fi,dO,afg,or_false] at aZ;rcases aZ with rfl|rfl
 ·exact .n _ _
 exact .n _ _
def a8 (x:bP):List an:=[.b x.p3.c5,.isl 1 (x.p3.cJ.map R),.isl 1 (x.pq.map R)]
theorem ada : ∀x,∀v∈a8 x,v.il=true:=by intro x v aZ;simp only[a8,dO,afg,or_false] at aZ;rcases aZ with rfl|rfl|rfl<;>rfl
theorem jo : ∀x,∀v∈a8 x,Pure v:=by
 intro x v aZ;simp only[a8,dO,afg,or_false] at aZ;rcases aZ with rfl|rfl|rfl
 ·exact .b _
 ·exact .isl (el az _)
 exact .isl (el az _)
def x8 (x:sO):List an:=[.isl 1 (x.Eo.map (fh 2 a3)),.b x.wo.c5,.isl 1 (x.wo.cJ.map R),.isl 1 (x.Ed.map R),.n .i64 x.Ie,.isl 1 (x.Ig.map e6)]
theorem ac1 : ∀x,∀v∈x8 x,v.il=true:=by intro x v aZ;simp only[x8,dO,afg,or_false] at aZ;rcases aZ with rfl|rfl|rfl|rfl|rfl|rfl<;>rfl
theorem F9 : ∀x,∀v∈x8 x,Pure v:=by
 intro x v aZ;simp only[x8,dO,afg,or_false] at aZ;rcases aZ with rfl|rfl|rfl|rfl|rfl|rfl
 ·exact .isl (el (pP (sz:=2) sI) _)
 ·exact .b _
 ·exact .isl (el az _)
 ·exact .isl (el az _)
 ·exact .n _ _
 exact .isl (el d8 _)
noncomputable abbrev bQ:Program:=Go.Proofs.Tryz.prog
theorem p2:bQ.follows .mixedOrders=true:=Go.Proofs.Tryz.checked.mixed
theorem bN {N m:Nat}{c:Code}{E:List (Nat×an)}{rows:List (List aM)}(tape:List cw){e:Exit}{s:S}{af:List Prop}(a5:cE af)
 (h:ET bQ N m c tape (eD E rows) rows.length=some (e,s,af):=by kernel_rfl):i6 bQ N m c e (eD E rows) s:=NQ p2 h a5 (vj _ _)
theorem bR {f:FuncId}{args:List an}{r:an}{af:List Prop}(tape:List cw)(a5:cE af)(eE:kE:=ii)
 (h:BB bQ f args [] tape [] [] eE=some (r,[],af):=by kernel_rfl):Con bQ f args [] r []:=V3 p2 h a5
theorem ir {f:FuncId}{args:List an}{T i9:List (List aM)}{r:an}{af:List Prop}(tape:List cw)(aO:List Nat)(cn:List h6)(a5:cE af)(eE:kE:=ii)
 (h:BB bQ f args T tape aO cn eE=some (r,i9,af):=by kernel_rfl):Con bQ f args T r i9:=Od p2 h a5
def mN (o5 iG:Int)(jl bq fT f5 rP pC lh Kb Jp wq Jq tp:Nat):List an:=[.n .i64 o5,.n .i64 iG,.bK jl bq fT f5,.bK rP pC lh Kb,.bK Jp wq Jq tp]
def abi (o5 iG jl bq:Nat)(fT:ar)(f5:Int):List an:=[.bK o5 iG jl bq,.isl 1 (fT.map R),.n .i64 f5]
def hX (o5 iG jl bq:Nat)(fT:Bool)(f5:ar)(rP pC lh Kb:Nat)(Jp:Int)(wq Jq tp abj:Nat):List an:=[.bK o5 iG jl bq,.b fT,.isl 1 (f5.map R),.bK rP pC lh Kb,.n .i64 Jp,.bK wq Jq tp abj]
def Rc (o5 iG jl bq:Nat)(fT f5:Int):List an:=[.bK o5 iG jl bq,.n .i64 fT,.n .i64 f5]
def hT (i j k:Nat)(a b:Int)(c d e:ar):List aM:=[aM.mk 5 [[.n .i64 a,.n .i64 b,.bK i 0 0 c.length,.bK j 0 0 d.length,.bK k 0 0 e.length]] .live]
def iT (i j k:Nat)(c:List cM)(a:Bool)(b d:ar)(e:Int)(f:List Bool):List aM:=[aM.mk 6 [[.bK i 0 0 c.length,.b a,.isl 1 (b.map R),.bK j 0 0 d.length,.n .i64 e,.bK k 0 0 f.length]] .live]
abbrev B0:bt:=⟨false,[]⟩
abbrev Jr:gL:=⟨⟨false,[]⟩,[]⟩
def oY (c:List cM)(a:Bool)(b d:ar)(e:Int)(f:List Bool)(g:List (List bt)):List (List aM):=[iT 1 3 4 c a b d e f,aK 1 (cl 2 0 2) c,eJ 2 a3 g,aK 1 R d,aK 1 e6 f]
def n9 (c:List cM)(a:Bool)(b d:ar)(e:Int)(f:List Bool)(g:List (List bt))(z:List aM):List (List aM):=[iT 1 3 4 c a b d e f,aK 1 (cl 2 0 2) c,eJ 2 a3 g,aK 1 R d,aK 1 e6 f,z]
def zi:List aM:=[aM.mk 5 [[.n .i64 0,.n .i64 0,.fq,.fq,.fq]] .live]
def qc (a b:Int)(c d e:ar):List (List aM):=[hT 1 2 3 a b c d e,aK 1 R c,aK 1 R d,aK 1 R e]
def oi (c:List cM)(g:List (List bt)):List h6:=[.box iN,.b9 (aK 1 (cl 2 0 2) c),.b9 (eJ 2 a3 g),.pure,.pure,.pure]
def qd (c:List cM)(g:List (List bt)):List h6:=[.box iN,.b9 (aK 1 (cl 2 0 2) c),.b9 (eJ 2 a3 g),.pure,.pure]
def zj (a:List bn)(b:List bV):List aM:=[aM.mk 2 [[.isl 4 (a.map c3),.isl 3 (b.map c9)]] .live]
def tq (n:Nat)(a:List bn)(b:List bV):Nat×an:=(n,.e4 2 [[.isl 4 (a.map c3),.isl 3 (b.map c9)]] 0 0)
theorem ju {x:Option bP}{y:bP}(h:x=some y):ka (d7 3 a8 x) (.eW 3 (some (a8 y))):=aa8 h
def hI (n:Nat)(x:bt):eG:=fC n (.agg (a3 x)) false
def abk (n:Nat)(x:gL):eG:=fC n (.agg (gJ x)) false
abbrev afw:=Option bP
abbrev afx:=List bt
abbrev afy:=List afx
abbrev afz:=List Bool
abbrev afA:=List afw
abbrev afB:=List bn
abbrev afC:=List cw
abbrev afD:=List bV
abbrev afE:=List cM
abbrev afF:=Option Bool
abbrev afG:=List fy
abbrev afH:=List ar
abbrev afI:=List gL
abbrev afJ:=Option Int
abbrev afK:=Option ar
abbrev afL:=Option afw
abbrev afM:=Option bt
end Go.Proofs.YtopadgleejacdacGreat
