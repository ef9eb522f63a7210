/- Lemmas, plain functions of the program, and what they answer. No condition. -/
import Derived.Below
import Derived.Eval
import Derived.KernelRfl
import Derived.Laws.Append
import Derived.Laws.AppendOwn
import Derived.Laws.BytesString
import Derived.Laws.Cells
import Derived.Laws.CopyRow
import Derived.Laws.Entries
import Derived.Laws.MakeOwn
import Derived.Laws.OwnMore
import Derived.Laws.Rows
import Derived.Laws.Slices
import Derived.Laws.Tables
import Derived.Orders
namespace Go.VL
set_option linter.unusedVariables false
set_option linter.unusedSimpArgs false
open Go
inductive az where
 | dead
 | b (x:Bool)
 | n (k:IntKind) (x:Int)
 | s (x:ByteArray)
 | hR
 | ei
 | h7
 | ref (r k i off:Nat)
 | bk (r k bQ len:Nat)
 | iE (r c sz:Nat) (h:Option (Nat×Nat))
 | isl (sz:Nat) (es:List (List az))
 | d7 (sz:Nat) (es:List (List az)) (i off:Nat)
 | jX (sz:Nat) (c:Option (List az))
 | agg (c:List az)
 | dS (vs:List az)
 | fn (f:Nat) (cap:List az)
 deriving Inhabited
inductive fX where
 | live|iK|gone
 deriving DecidableEq,Inhabited
structure ad where
 sz:Nat
 es:List (List az)
 ch:fX
 deriving Inhabited
structure S where
 E:Nat→az
 aT:Nat→Option (List ad)
abbrev j4 (v:Value):Bool:=v.oneCell'
abbrev fj:=Nat→Nat→Option (Nat×Nat)
abbrev iN:=Nat→Nat→Option (Nat×Option (Nat×Nat))
abbrev iW:=Nat→Nat→Prop
inductive Pure:az→Prop
 | dead:Pure .dead
 | b (x:Bool):Pure (.b x)
 | n (k:IntKind) (x:Int):Pure (.n k x)
 | s (x:ByteArray):Pure (.s x)
 | hR:Pure .hR
 | ei:Pure .ei
 | h7:Pure .h7
 | isl {sz:Nat} {es:List (List az)} (h : ∀e∈es,∀x∈e,Pure x):Pure (.isl sz es)
 | d7 {sz i off:Nat} {es:List (List az)} (h : ∀e∈es,∀x∈e,Pure x):Pure (.d7 sz es i off)
 | o1 (sz:Nat):Pure (.jX sz none)
 | oD {sz:Nat} {c:List az} (h : ∀x∈c,Pure x):Pure (.jX sz (some c))
 | agg {c:List az} (h : ∀x∈c,Pure x):Pure (.agg c)
 | dS {c:List az} (h : ∀x∈c,Pure x):Pure (.dS c)
 | fn {f:Nat} {c:List az} (h : ∀x∈c,Pure x):Pure (.fn f c)
def jx (es:List (List az)):Prop:= ∀e∈es,∀x∈e,Pure x
inductive Rel (w:World) (ok:Nat→Prop) (a1:iW) (a9:iN):az→Value→Prop
 | dead (v:Value):Rel w ok a1 a9 .dead v
 | b (x:Bool):Rel w ok a1 a9 (.b x) (.bool x)
 | n (k:IntKind) (x:Int):Rel w ok a1 a9 (.n k x) (.int k x)
 | s (x:ByteArray):Rel w ok a1 a9 (.s x) (.string x)
 | hR:Rel w ok a1 a9 .hR (.pointer none)
 | ei:Rel w ok a1 a9 .ei (.slice none 0 0)
 | h7 (a:Addr) (c:Nat):Rel w ok a1 a9 .h7 (.slice (some a) 0 c)
 | pe {r k i off:Nat} (a:Option Addr) (hu:a1 r k) (h : ∀sz p,a9 r k≠some (sz,some p)):Rel w ok a1 a9 (.ref r k i off) (.pointer a)
 | ref {r k i off sz dT m:Nat} (hu:a1 r k) (h:a9 r k=some (sz,some (dT,m))):Rel w ok a1 a9 (.ref r k i off) (.pointer (some ⟨dT,i*sz+off,none⟩))
 | m0 {r k bQ len:Nat} (a:Option Addr) (l c:Nat) (hu:a1 r k) (h:a9 r k=none):Rel w ok a1 a9 (.bk r k bQ len) (.slice a l c)
 | nm {r k sz:Nat} (hu:a1 r k) (h:a9 r k=some (sz,none)):Rel w ok a1 a9 (.bk r k 0 0) (.slice none 0 0)
 | bk {r k bQ len sz dT m c:Nat} {a:Option Addr} (hu:a1 r k) (h:a9 r k=some (sz,some (dT,m))) (aV:len≤c) (ba:c<9223372036854775808)
  (hm:(bQ+c)*sz=m∧(c=0∨a=some ⟨dT,bQ*sz,none⟩)):Rel w ok a1 a9 (.bk r k bQ len) (.slice a len c)
 | mE {r c sz:Nat} {v:Value} (h:Rel w ok a1 a9 (.isl sz []) v):Rel w ok a1 a9 (.iE r c sz none) v
 | nu {r c sz k n:Nat} {v:Value} (h:Rel w ok a1 a9 (.bk r (k+c) 0 n) v):Rel w ok a1 a9 (.iE r c sz (some (k,n))) v
 | jV (sz:Nat) (a:Option Addr) (c:Nat) (h:a=none→c=0):Rel w ok a1 a9 (.isl sz []) (.slice a 0 c)
 | isl {sz:Nat} {es:List (List az)} {dT off c:Nat} (cs:Nat→Value) (aP:ok dT) (aj:jx es) (aV : ∀e∈es,e.length=sz) (ba:es.length≤c)
  (hw : ∀(j:Nat) x,es.flatten[j]? = some x→w.cell? ⟨dT,off+j,none⟩=some (cs j)) (jT : ∀(j:Nat) x,es.flatten[j]? = some x→j4 (cs j)=true)
  (aq : ∀(j:Nat) x,es.flatten[j]? = some x→Rel w ok a1 a9 x (cs j)):Rel w ok a1 a9 (.isl sz es) (.slice (some ⟨dT,off,none⟩) es.length c)
 | d7 {sz:Nat} {es:List (List az)} {dT o i off:Nat} (cs:Nat→Value) (aP:ok dT) (aj:jx es) (aV : ∀e∈es,e.length=sz)
  (hw : ∀(j:Nat) x,es.flatten[j]? = some x→w.cell? ⟨dT,o+j,none⟩=some (cs j)) (jT : ∀(j:Nat) x,es.flatten[j]? = some x→j4 (cs j)=true)
  (aq : ∀(j:Nat) x,es.flatten[j]? = some x→Rel w ok a1 a9 x (cs j)):Rel w ok a1 a9 (.d7 sz es i off) (.pointer (some ⟨dT,o+(i*sz+off),none⟩))
 | o1 (sz:Nat):Rel w ok a1 a9 (.jX sz none) (.pointer none)
 | oD {sz:Nat} {c:List az} {v:Value} (h:Rel w ok a1 a9 (.d7 sz [c] 0 0) v):Rel w ok a1 a9 (.jX sz (some c)) v
 | agg {c:List az} (vs:List Value) (aV:vs.length=c.length) (jT : ∀(j:Nat) v,vs[j]? = some v→j4 v=true)
  (aq : ∀(j:Nat) x v,c[j]? = some x→vs[j]? = some v→Rel w ok a1 a9 x v):Rel w ok a1 a9 (.agg c) (.agg vs.toArray)
 | dS {c:List az} (vs:List Value) (aV:vs.length=c.length)
  (aq : ∀(j:Nat) x v,c[j]? = some x→vs[j]? = some v→Rel w ok a1 a9 x v):Rel w ok a1 a9 (.dS c) (.tuple vs.toArray)
 | fn {f:Nat} {c:List az} (vs:List Value) (aV:vs.length=c.length)
  (aq : ∀(j:Nat) x v,c[j]? = some x→vs[j]? = some v→Rel w ok a1 a9 x v):Rel w ok a1 a9 (.fn f c) (.func (.func f) #[] vs.toArray)
theorem Rel.mono {w bJ:World}{ok kL:Nat→Prop}{a1 mJ:iW}{a9 l3:iN}{a:az}{v:Value}(h:Rel w ok a1 a9 a v)
 (mK : ∀b,ok b→kL b) (hw : ∀b,ok b→bJ.heap[b]? = w.heap[b]?)
 (jd : ∀r k,a1 r k→mJ r k) (k8 : ∀r k,a1 r k→l3 r k=a9 r k∨l3 r k=none):Rel bJ kL mJ l3 a v:=by
 have jT : ∀b o,ok b→bJ.cell? ⟨b,o,none⟩=w.cell? ⟨b,o,none⟩:=fun b o aP=>World.cell?_of_block (hw b aP)
 induction h with
 | dead v=>exact .dead v
 | b x=>exact .b x
 | n k x=>exact .n k x
 | s x=>exact .s x
 | hR=>exact .hR
 | ei=>exact .ei
 | h7 a c=>exact .h7 a c
 | @pe r k i off a hu h =>
  refine .pe a (jd r k hu) fun sz p=> ?_
  rcases k8 r k hu with e|e<;>rw [e]
  ·exact h sz p
  ·simp
 | @ref r k i off sz dT m hu h =>
  rcases k8 r k hu with e|e
  ·exact .ref (jd r k hu) (e.trans h)
  ·exact .pe _ (jd r k hu) fun sz p=>by rw [e];simp
 | @m0 r k bQ len a l c hu h=>exact .m0 a l c (jd r k hu) (by rcases k8 r k hu with e|e<;>rw [e];exact h)
 | @nm r k sz hu h =>
  rcases k8 r k hu with e|e
  ·exact .nm (jd r k hu) (e.trans h)
  ·exact .m0 _ _ _ (jd r k hu) e
 | @bk r k bQ len sz dT m c a hu h aV ba hm =>
  rcases k8 r k hu with e|e
  ·exact .bk (jd r k hu) (e.trans h) aV ba hm
  ·exact .m0 _ _ _ (jd r k hu) e
 | mE h ih=>exact .mE ih
 | nu h ih=>exact .nu ih
 | jV sz a c h=>exact .jV sz a c h
 | isl cs aP aj aV ba Bb iq aq ih=>exact .isl cs (mK _ aP) aj aV ba (fun j x R=>(jT _ _ aP).trans (Bb j x R)) iq ih
 | d7 cs aP aj aV Bb iq aq ih=>exact .d7 cs (mK _ aP) aj aV (fun j x R=>(jT _ _ aP).trans (Bb j x R)) iq ih
 | o1 sz=>exact .o1 sz
 | oD h ih=>exact .oD ih
 | agg vs aV iq aq ih=>exact .agg vs aV iq ih
 | dS vs aV aq ih=>exact .dS vs aV ih
 | fn vs aV aq ih=>exact .fn vs aV ih
structure G where
 mq:World
 A:Nat→Prop
 o6:Nat→Prop
 N:Nat
 m:Nat
 oI:iW
 qE:iN
def S.a1 (s:S)(r k:Nat):Prop:=k<((s.aT r).getD []).length
def dc (row:Option (List ad))(k:Nat):Option ad :=
 match row with
 | some l=>match l[k]? with
  | some o=>if o.ch = .gone then none else some o
  | none=>none
 | none=>none
def S.ak (s:S)(r k:Nat):Option ad:=dc (s.aT r) k
def S.a9 (s:S)(aw:fj):iN:=fun r k=>(s.ak r k).map fun o=>(o.sz,aw r k)
def S.lF (s:S)(aw:fj)(b:Nat):Prop:= ∃r k o m,s.ak r k=some o∧o.ch = .live∧aw r k=some (b,m)
def S.ok (s:S)(g:G)(aw:fj)(w:World)(b:Nat):Prop :=
 b<w.heap.size∧(g.A b∨g.mq.heap.size≤b∨g.o6 b)∧ ¬s.lF aw b
def i7 (w:World)(ok:Nat→Prop)(a1:iW)(a9:iN)(o:ad):Option (Nat×Nat)→Prop
 | none=>o.es=[]
 | some (dT,m)=> ∃c eC,w.heap[dT]? = some (.cells c eC (0,0))∧c.size=m∧(∀e∈o.es,e.length=o.sz) ∧
  ∀(j:Nat) x,o.es.flatten[j]? = some x→ ∃v,c[j]? = some v∧j4 v=true∧Rel w ok a1 a9 x v
structure AM (g:G) (w:World):Prop where
 os:w.os=g.mq.os
 tape:w.tape=g.mq.tape
 output:w.output=g.mq.output
 size:g.mq.heap.size≤w.heap.size
 block : ∀b,b<g.mq.heap.size→ ¬g.o6 b→w.heap[b]? = g.mq.heap[b]?
structure hS (g:G) (s:S) (aw:fj) (w:World):Prop where
 obj : ∀r k o,s.ak r k=some o→i7 w (s.ok g aw w) s.a1 (s.a9 aw) o (aw r k)
 inj : ∀r k o eD d4 b0 b m cq,s.ak r k=some o→s.ak eD d4=some b0→aw r k=some (b,m)→aw eD d4=some (b,cq)→r=eD∧k=d4
 own : ∀r k o b m,s.ak r k=some o→aw r k=some (b,m)→g.mq.heap.size≤b∨g.o6 b
 gL:AM g w
 mlt : ∀b,g.o6 b→b<g.mq.heap.size
 m7 : ∀b,g.A b→b<g.mq.heap.size
 stay : ∀j k,g.oI j k→s.a1 j k∧(s.a9 aw j k=g.qE j k∨s.a9 aw j k=none)
 low : ∀j k,g.oI j k→j<g.m
structure cF (g:G) (s:S) (aw:fj) (a:Act) (w:World):Prop extends hS g s aw w where
 env : ∀t,Rel w (s.ok g aw w) s.a1 (s.a9 aw) (s.E t) (a.tmps.getD t undef)
 defers:a.defers=[]
 jA:g.N≤a.tmps.size
def ofValue:Value→az
 | .bool x=> .b x
 | .int k x=> .n k x
 | .string x=> .s x
 | .pointer none=> .hR
 | .slice none 0 0=> .ei
 | _=> .dead
theorem NF {w:World}{ok:Nat→Prop}{a1:iW}{a9:iN}(v:Value):Rel w ok a1 a9 (ofValue v) v:=by
 unfold ofValue
 split<;>constructor
def e9 (E:Nat→az):Operand→az
 | .tmp t=>E t
 | .const v=>ofValue v
 | .global _=> .dead
 | .func f=> .fn f []
theorem cF.eval {g:G}{s:S}{aw:fj}{a:Act}{w:World}(h:cF g s aw a w)(x:Operand):
 Rel w (s.ok g aw w) s.a1 (s.a9 aw) (e9 s.E x) (a.eval x):=by
 cases x with
 | tmp t=>exact h.env t
 | const v=>exact NF v
 | global g=>exact .dead _
 | func f=>exact .fn [] rfl (fun j x v R=>by simp at R)
def az.cells:az→List az
 | .agg c=>c
 | x=>[x]
def az.one:az→Bool
 | .dead | .agg _ | .dS _=>false
 | _=>true
def az.xp:az→Bool
 | .dead | .dS _=>false
 | _=>true
theorem az.NG {v:az}(h:v.xp=true):v.one=true∨ ∃c,v = .agg c:=by
 cases v<;>first|exact .inl rfl|exact .inr ⟨_,rfl⟩|simp [az.xp] at h
theorem Rel.j4 {w:World}{ok:Nat→Prop}{a1:iW}{a9:iN}{a:az}{v:Value}(h:Rel w ok a1 a9 a v)(bA:a.one=true):j4 v=true:=by
 cases h with
 | oD h=>cases h;rfl
 | mE h=>cases h<;>rfl
 | nu h=>cases h<;>rfl
 | _=>first|rfl|simp [az.one] at bA
theorem Rel.cellsOf {w:World}{ok:Nat→Prop}{a1:iW}{a9:iN}{a:az}{v:Value}(h:Rel w ok a1 a9 a v)(bA:a.one=true∨ ∃c,a = .agg c):
 ∃vs:List Value,v.cells=vs.toArray∧vs.length=a.cells.length∧(∀(j:Nat) x,vs[j]? = some x→VL.j4 x=true) ∧
  ∀(j:Nat) x u,a.cells[j]? = some x→vs[j]? = some u→Rel w ok a1 a9 x u:=by
 rcases bA with bA|⟨c,rfl⟩
 ·have ba:=h.j4 bA
  refine ⟨[v],?_,?_,?_,?_⟩
  ·cases v<;>first|rfl|simp [VL.j4,Value.oneCell'] at ba
  ·cases a<;>first|rfl|simp [az.one] at bA
  ·intro j x R
   cases j with
   | zero=>simp at R;subst R;exact ba
   | succ j=>simp at R
  ·intro j x u R hu
   have e:a.cells=[a]:=by cases a<;>first|rfl|simp [az.one] at bA
   rw [e] at R
   cases j with
   | zero=>simp at R hu;subst R;subst hu;exact h
   | succ j=>simp at R
 ·cases h with
  | agg vs aV jT aq=>exact ⟨vs,rfl,aV,jT,aq⟩
end Go.VL
namespace Go.VL
set_option linter.unusedVariables false
set_option linter.unusedSimpArgs false
open Go
def S.put (s:S)(dst:Option Tmp)(v:az):S :=
 match dst with
 | some t=>{s with E:=fun u=>if u=t then v else s.E u}
 | none=>s
def S.setRow (s:S)(r:Nat)(row:List ad):S:={s with aT:=fun q=>if q=r then some row else s.aT q}
@[simp] theorem S.sX (s:S) (dst:Option Tmp) (v:az):(s.put dst v).aT=s.aT:=by cases dst<;>rfl
@[simp] theorem S.aen (s:S) (r:Nat) (row:List ad):(s.setRow r row).E=s.E:=rfl
theorem z3 {s bM:S}(h:bM.aT=s.aT):bM.ak=s.ak:=by funext r k;simp [S.ak,h]
theorem xq {s bM:S}(h:bM.aT=s.aT):bM.a1=s.a1:=by funext r k;simp [S.a1,h]
theorem xr {s bM:S}(h:bM.aT=s.aT)(aw:fj):bM.a9 aw=s.a9 aw:=by unfold S.a9;rw [z3 h]
theorem Xh {s bM:S}(h:bM.aT=s.aT)(aw:fj):bM.lF aw=s.lF aw:=by unfold S.lF;rw [z3 h]
theorem z4 {s bM:S}(h:bM.aT=s.aT)(g:G)(aw:fj)(w:World):bM.ok g aw w=s.ok g aw w:=by
 funext b;unfold S.ok;rw [Xh h]
theorem hS.congr {g:G}{s bM:S}{aw:fj}{w:World}(h:hS g s aw w)(e:bM.aT=s.aT):hS g bM aw w where
 obj:=by rw [z3 e,xq e,xr e,z4 e];exact h.obj
 inj:=by rw [z3 e];exact h.inj
 own:=by rw [z3 e];exact h.own
 gL:=h.gL
 mlt:=h.mlt
 m7:=h.m7
 stay:=by rw [xq e,xr e];exact h.stay
 low:=h.low
theorem Zi (a:Act)(dst:Option Tmp)(v:Value)(t:Nat)(eU:∀d,dst=some d→d<a.tmps.size):
 (a.put dst v).tmps.getD t undef=if dst=some t then v else a.tmps.getD t undef:=by
 cases dst with
 | none=>simp [Act.put]
 | some d =>
  have:=eU d rfl
  simp only [Act.put,Array.getD_eq_getD_getElem?,Array.getElem?_setIfInBounds,Option.some.injEq]
  by_cases e:d=t
  ·subst e;simp [this]
  ·simp [e]
theorem cF.put {g:G}{s:S}{aw:fj}{a:Act}{w:World}(h:cF g s aw a w)(dst:Option Tmp){x:az}{v:Value}
 (bC : ∀d,dst=some d→d<g.N) (aq:Rel w (s.ok g aw w) s.a1 (s.a9 aw) x v):cF g (s.put dst x) aw (a.put dst v) w where
 tohS:=h.tohS.congr (S.sX s dst x)
 env:=by
  have e:=S.sX s dst x
  rw [z4 e,xq e,xr e]
  intro t
  rw [Zi a dst v t fun d pZ=>Nat.lt_of_lt_of_le (bC d pZ) h.jA]
  cases dst with
  | none=>simpa [S.put] using h.env t
  | some d =>
   simp only [S.put,Option.some.injEq]
   by_cases e:t=d
   ·subst e;simpa using aq
   ·rw [if_neg e,if_neg (Ne.symm e)];exact h.env t
 defers:=by cases dst<;>exact h.defers
 jA:=by cases dst<;>simpa [Act.put] using h.jA
structure Step (g:G) (s:S) (aw:fj) (w:World) (bM:S) (bH:fj) (bJ:World):Prop where
 a1 : ∀r k,s.a1 r k→bM.a1 r k
 a9 : ∀r k,s.a1 r k→bM.a9 bH r k=s.a9 aw r k∨bM.a9 bH r k=none
 live : ∀b,bM.lF bH b→s.lF aw b∨w.heap.size≤b
 heap : ∀b,b<w.heap.size→ ¬s.lF aw b→bJ.heap[b]? = w.heap[b]?
 size:w.heap.size≤bJ.heap.size
theorem Step.ok {g:G}{s bM:S}{aw bH:fj}{w bJ:World}(h:Step g s aw w bM bH bJ)(b:Nat)(aP:s.ok g aw w b):bM.ok g bH bJ b :=
 ⟨Nat.lt_of_lt_of_le aP.1 h.size,aP.2.1,fun aV=>by
  rcases h.live b aV with h1|h1
  ·exact aP.2.2 h1
  ·exact absurd aP.1 (by omega)⟩
theorem Step.rel {g:G}{s bM:S}{aw bH:fj}{w bJ:World}(h:Step g s aw w bM bH bJ){x:az}{v:Value}
 (aq:Rel w (s.ok g aw w) s.a1 (s.a9 aw) x v):Rel bJ (bM.ok g bH bJ) bM.a1 (bM.a9 bH) x v :=
 aq.mono h.ok (fun b aP=>h.heap b aP.1 aP.2.2) h.a1 h.a9
theorem Step.obj {g:G}{s bM:S}{aw bH:fj}{w bJ:World}(h:Step g s aw w bM bH bJ){o:ad}{p:Option (Nat×Nat)}
 (aj : ∀b m,p=some (b,m)→bJ.heap[b]? = w.heap[b]?) (an:i7 w (s.ok g aw w) s.a1 (s.a9 aw) o p) :
 i7 bJ (bM.ok g bH bJ) bM.a1 (bM.a9 bH) o p:=by
 cases p with
 | none=>exact an
 | some q =>
  obtain ⟨b,m⟩:=q
  obtain ⟨c,eC,h1,h2,ab,au⟩:=an
  refine ⟨c,eC,(aj b m rfl).trans h1,h2,ab,fun j x R=> ?_⟩
  obtain ⟨v,e1,e2,bO⟩:=au j x R
  exact ⟨v,e1,e2,h.rel bO⟩
theorem Step.stay {g:G}{s bM:S}{aw bH:fj}{w bJ:World}(h:Step g s aw w bM bH bJ)
 (bV : ∀j k,g.oI j k→s.a1 j k∧(s.a9 aw j k=g.qE j k∨s.a9 aw j k=none)) : ∀j k,g.oI j k→bM.a1 j k∧(bM.a9 bH j k=g.qE j k∨bM.a9 bH j k=none):=by
 intro j k aC
 obtain ⟨h1,h2⟩:=bV j k aC
 refine ⟨h.a1 j k h1,?_⟩
 rcases h.a9 j k h1 with e|e
 ·rw [e];exact h2
 ·exact .inr e
theorem AM.step {g:G}{w bJ:World}(h:AM g w)(h1:bJ.os=w.os)(h2:bJ.tape=w.tape)(ab:bJ.output=w.output)(au:w.heap.size≤bJ.heap.size)
 (aA : ∀b,b<g.mq.heap.size→ ¬g.o6 b→bJ.heap[b]? = w.heap[b]?):AM g bJ :=
 ⟨h1.trans h.os,h2.trans h.tape,ab.trans h.output,Nat.le_trans h.size au,fun b aP hm=>(aA b aP hm).trans (h.block b aP hm)⟩
theorem lo (s:S)(r:Nat)(row:List ad)(q k:Nat):(s.setRow r row).ak q k=if q=r then dc (some row) k else s.ak q k:=by
 unfold S.ak S.setRow
 by_cases e:q=r<;>simp [e]
theorem mZ (s:S)(r:Nat)(row:List ad)(q k:Nat):(s.setRow r row).a1 q k↔(if q=r then k<row.length else s.a1 q k):=by
 unfold S.a1 S.setRow
 by_cases e:q=r<;>simp [e]
theorem Dk {s:S}{r k:Nat}{o:ad}(h:s.ak r k=some o):s.a1 r k:=by
 unfold S.ak dc at h
 unfold S.a1
 cases aq:s.aT r with
 | none=>rw [aq] at h;simp at h
 | some l =>
  rw [aq] at h
  simp only at h
  rcases Nat.lt_or_ge k l.length with h1|h1
  ·simpa using h1
  ·rw [List.getElem?_eq_none h1] at h;simp at h
theorem wZ {s:S}{r:Nat}(h:s.aT r=none)(k:Nat): ¬s.a1 r k:=by simp [S.a1,h]
theorem CX (s:S){r:Nat}{l row:List ad}(aq:s.aT r=some l)(aV:l.length≤row.length)(q k:Nat)(h:s.a1 q k):(s.setRow r row).a1 q k:=by
 rw [mZ]
 by_cases e:q=r
 ·subst e;rw [if_pos rfl];simp [S.a1,aq] at h;omega
 ·rw [if_neg e];exact h
theorem ad6 {s:S}{r:Nat}(h:s.aT r=none)(k:Nat):s.ak r k=none:=by simp [S.ak,h,dc]
def fj.set (aw:fj)(r k:Nat)(p:Option (Nat×Nat)):fj:=fun q j=>if q=r∧j=k then p else aw q j
theorem lV (o:ad)(k:Nat):dc (some [o]) k=if k=0∧o.ch≠ .gone then some o else none:=by
 unfold dc
 cases k with
 | zero=>by_cases h:o.ch = .gone<;>simp [h]
 | succ k=>simp
theorem Rel.drew {w:World}{ok:Nat→Prop}{a1:iW}{a9:iN}{x:az}{v:Value}(h:Rel w ok a1 a9 x v):Rel w.drew ok a1 a9 x v :=
 h.mono (fun _ h=>h) (fun _ _=>rfl) (fun _ _ h=>h) (fun _ _ _=> .inl rfl)
theorem i7.drew {w:World}{ok:Nat→Prop}{a1:iW}{a9:iN}{o:ad}{p:Option (Nat×Nat)}(h:i7 w ok a1 a9 o p):i7 w.drew ok a1 a9 o p:=by
 cases p with
 | none=>exact h
 | some q =>
  obtain ⟨c,eC,h1,h2,ab,au⟩:=h
  exact ⟨c,eC,h1,h2,ab,fun j x R=>let ⟨v,a,b,c⟩:=au j x R;⟨v,a,b,c.drew⟩⟩
theorem hS.drew {g:G}{s:S}{aw:fj}{w:World}(h:hS g s aw w):hS g s aw w.drew :=
 {obj:=fun r k o an=>(h.obj r k o an).drew,inj:=h.inj,own:=h.own,gL:=⟨h.gL.os,h.gL.tape,h.gL.output,h.gL.size,h.gL.block⟩,mlt:=h.mlt,m7:=h.m7,stay:=h.stay,low:=h.low}
theorem cF.drew {g:G}{s:S}{aw:fj}{a:Act}{w:World}(h:cF g s aw a w):cF g s aw a w.drew where
 tohS:=h.tohS.drew
 env:=fun t=>(h.env t).drew
 defers:=h.defers
 jA:=h.jA
theorem cF.alloc {g:G}{s:S}{aw:fj}{a:Act}{w:World}(h:cF g s aw a w){r:Nat}(aq:s.aT r=none)(o:ad)(a5:o.ch = .live)
 (c:Array Value) (eC:TypeId) (hlen : ∀e∈o.es,e.length=o.sz)
 (ba : ∀(j:Nat) x,o.es.flatten[j]? = some x→ ∃v,c[j]? = some v∧j4 v=true∧Rel w (s.ok g aw w) s.a1 (s.a9 aw) x v) :
 ∃bH,bH r 0=some (w.heap.size,c.size)∧cF g (s.setRow r [o]) bH a (w.alloc (.cells c eC)) ∧
  ∀x v,Rel w (s.ok g aw w) s.a1 (s.a9 aw) x v→Rel (w.alloc (.cells c eC)) ((s.setRow r [o]).ok g bH (w.alloc (.cells c eC))) (s.setRow r [o]).a1 ((s.setRow r [o]).a9 bH) x v:=by
 have lx : ∀q k,q≠r→(aw.set r 0 (some (w.heap.size,c.size))) q k=aw q k:=fun q k a8=>by simp [fj.set,a8]
 have bl : ∀q k,q≠r→(s.setRow r [o]).ak q k=s.ak q k:=fun q k a8=>by rw [lo,if_neg a8]
 have xX : ∀k,(s.setRow r [o]).ak r k=if k=0 then some o else none:=fun k=>by
  rw [lo,if_pos rfl,lV];simp [a5]
 have r9 : ∀q k p b m,s.ak q k=some p→aw q k=some (b,m)→b<w.heap.size:=fun q k p b m aj a8=>by
  have:=h.obj q k p aj
  rw [a8] at this
  obtain ⟨dH,mh,fI,_⟩:=this
  exact (Array.getElem?_eq_some_iff.1 fI).1
 have dt:Step g s aw w (s.setRow r [o]) (aw.set r 0 (some (w.heap.size,c.size))) (w.alloc (.cells c eC)):=by
  refine ⟨fun q k a8=>(mZ _ _ _ _ _).2 (by rw [if_neg (by rintro rfl;exact wZ aq k a8)];exact a8),fun q k a8=> ?_,fun b aP=> ?_,fun b aP _=>heap_alloc_old w _ b aP,by simp⟩
  ·have dk:q≠r:=by rintro rfl;exact wZ aq k a8
   left
   simp only [S.a9,bl q k dk,lx q k dk]
  ·obtain ⟨q,k,p,m,h1,h2,ab⟩:=aP
   by_cases e:q=r
   ·subst e
    rw [xX] at h1
    by_cases e0:k=0
    ·subst e0;simp [fj.set] at ab;right;omega
    ·simp [e0] at h1
   ·rw [bl q k e] at h1;rw [lx q k e] at ab
    exact .inl ⟨q,k,p,m,h1,h2,ab⟩
 refine ⟨aw.set r 0 (some (w.heap.size,c.size)),by simp [fj.set],?_,fun x v=>dt.rel⟩
 refine {tohS:=⟨?_,?_,?_,?_,h.mlt,h.m7,dt.stay h.stay,h.low⟩,env:=fun t=>dt.rel (h.env t),defers:=h.defers,jA:=h.jA}
 ·intro q k p aj
  by_cases e:q=r
  ·subst e
   rw [xX] at aj
   by_cases e0:k=0
   ·subst e0
    simp at aj
    subst aj
    simp only [fj.set,and_self,if_true]
    exact ⟨c,eC,heap_alloc_new w _,rfl,hlen,fun j x R=>let ⟨v,e1,e2,bO⟩:=ba j x R;⟨v,e1,e2,dt.rel bO⟩⟩
   ·simp [e0] at aj
  ·rw [bl q k e] at aj
   rw [lx q k e]
   exact dt.obj (fun b m hm=>heap_alloc_old w _ b (r9 q k p b m aj hm)) (h.obj q k p aj)
 ·intro q k p hq d4 ka b m cq h1 h2 ab au
  by_cases e:q=r<;>by_cases eJ:hq=r
  ·subst e;subst eJ
   rw [xX] at h1 h2
   by_cases e0:k=0<;>by_cases e1:d4=0<;>simp [e0,e1] at h1 h2
   exact ⟨rfl,by omega⟩
  ·subst e
   rw [xX] at h1;rw [bl _ _ eJ] at h2;rw [lx _ _ eJ] at au
   by_cases e0:k=0<;>simp [e0] at h1
   subst e0
   simp [fj.set] at ab
   have:=r9 hq d4 ka b cq h2 au
   omega
  ·subst eJ
   rw [bl _ _ e] at h1;rw [xX] at h2;rw [lx _ _ e] at ab
   by_cases e0:d4=0<;>simp [e0] at h2
   subst e0
   simp [fj.set] at au
   have:=r9 q k p b m h1 ab
   omega
  ·rw [bl _ _ e] at h1;rw [bl _ _ eJ] at h2;rw [lx _ _ e] at ab;rw [lx _ _ eJ] at au
   exact h.inj q k p hq d4 ka b m cq h1 h2 ab au
 ·intro q k p b m h1 h2
  by_cases e:q=r
  ·subst e
   rw [xX] at h1
   by_cases e0:k=0<;>simp [e0] at h1
   subst e0
   simp [fj.set] at h2
   left
   have:=h.gL.size
   omega
  ·rw [bl _ _ e] at h1;rw [lx _ _ e] at h2
   exact h.own q k p b m h1 h2
 ·exact h.gL.step rfl rfl rfl (by simp) fun b aP _=>heap_alloc_old w _ b (Nat.lt_of_lt_of_le aP h.gL.size)
theorem OR (l:List ad)(k:Nat)(o b0:ad)(h:dc (some l) k=some o)(a5:b0.ch≠ .gone)(j:Nat):
 dc (some (l.set k b0)) j=if j=k then some b0 else dc (some l) j:=by
 unfold dc at *
 have dC:k<l.length:=by
  rcases Nat.lt_or_ge k l.length with h1|h1
  ·exact h1
  ·simp [List.getElem?_eq_none h1] at h
 by_cases e:j=k
 ·subst e;simp [dC,a5]
 ·simp only [List.getElem?_set,if_neg (Ne.symm e),if_neg e]
theorem cF.write {g:G}{s:S}{aw:fj}{a:Act}{w bJ:World}(h:cF g s aw a w){r k b m:Nat}{l:List ad}{o:ad}(aq:s.aT r=some l)(an:s.ak r k=some o)
 (a5:o.ch = .live) (aj:aw r k=some (b,m)) (es:List (List az)) (c:Array Value) (eC:TypeId)
 (hw:bJ.heap[b]? = some (.cells c eC (0,0))) (eU:bJ.heap.size=w.heap.size) (uC : ∀q,q≠b→bJ.heap[q]? = w.heap[q]?)
 (p3:bJ.os=w.os) (KV:bJ.tape=w.tape) (Kx:bJ.output=w.output) (hm:c.size=m)
 (hlen : ∀e∈es,e.length=o.sz)
 (ba : ∀(j:Nat) x,es.flatten[j]? = some x→ ∃v,c[j]? = some v∧j4 v=true∧Rel w (s.ok g aw w) s.a1 (s.a9 aw) x v) :
 cF g (s.setRow r (l.set k {o with es})) aw a bJ ∧
  ∀x v,Rel w (s.ok g aw w) s.a1 (s.a9 aw) x v→Rel bJ ((s.setRow r (l.set k {o with es})).ok g aw bJ) (s.setRow r (l.set k {o with es})).a1 ((s.setRow r (l.set k {o with es})).a9 aw) x v:=by
 have jo:({o with es}:ad).ch≠ .gone:=by rw [a5];simp
 have bl : ∀q j,(s.setRow r (l.set k {o with es})).ak q j=if q=r∧j=k then some {o with es} else s.ak q j:=by
  intro q j
  rw [lo]
  by_cases e:q=r
  ·subst e
   have dK:dc (some l) k=some o:=by rw [← aq];exact an
   rw [if_pos rfl,OR l k o _ dK jo]
   by_cases e2:j=k<;>simp [e2,S.ak,aq]
  ·simp [e]
 have pg:s.lF aw b:=⟨r,k,o,m,an,a5,aj⟩
 have dt:Step g s aw w (s.setRow r (l.set k {o with es})) aw bJ:=by
  refine ⟨CX s aq (by simp),fun q j a8=> .inl ?_,fun q a8=> ?_,fun q a8 aV=>uC q fun e=>aV (e▸pg),Nat.le_of_eq eU.symm⟩
  ·simp only [S.a9,bl]
   by_cases e:q=r∧j=k
   ·obtain ⟨rfl,rfl⟩:=e;simp [an]
   ·rw [if_neg e]
  ·obtain ⟨hq,j,p,cq,h1,h2,ab⟩:=a8
   rw [bl] at h1
   by_cases e:hq=r∧j=k
   ·obtain ⟨rfl,rfl⟩:=e
    exact .inl ⟨hq,j,o,cq,an,a5,ab⟩
   ·rw [if_neg e] at h1
    exact .inl ⟨hq,j,p,cq,h1,h2,ab⟩
 refine ⟨{tohS:=⟨?_,?_,?_,?_,h.mlt,h.m7,dt.stay h.stay,h.low⟩,env:=fun t=>dt.rel (h.env t),defers:=h.defers,jA:=h.jA},fun x v=>dt.rel⟩
 ·intro q j p kj
  rw [bl] at kj
  by_cases e:q=r∧j=k
  ·obtain ⟨rfl,rfl⟩:=e
   simp at kj
   subst kj
   rw [aj]
   exact ⟨c,eC,hw,hm,hlen,fun j x R=>let ⟨v,e1,e2,bO⟩:=ba j x R;⟨v,e1,e2,dt.rel bO⟩⟩
  ·rw [if_neg e] at kj
   refine dt.obj (fun kb cq kT=>uC kb ?_) (h.obj q j p kj)
   rintro rfl
   exact e (h.inj q j p r k o kb cq m kj an kT aj)
 ·intro q j p hq hG ka kb ib g9 h1 h2 ab au
  have key : ∀q j p,(s.setRow r (l.set k {o with es})).ak q j=some p→ ∃ka,s.ak q j=some ka:=by
   intro q j p a8
   rw [bl] at a8
   by_cases e:q=r∧j=k
   ·obtain ⟨rfl,rfl⟩:=e;exact ⟨o,an⟩
   ·rw [if_neg e] at a8;exact ⟨p,a8⟩
  obtain ⟨p1,Q6⟩:=key q j p h1
  obtain ⟨p2,Bc⟩:=key hq hG ka h2
  exact h.inj q j p1 hq hG p2 kb ib g9 Q6 Bc ab au
 ·intro q j p kb cq h1 h2
  rw [bl] at h1
  by_cases e:q=r∧j=k
  ·obtain ⟨rfl,rfl⟩:=e;exact h.own q j o kb cq an h2
  ·rw [if_neg e] at h1;exact h.own q j p kb cq h1 h2
 ·refine h.gL.step p3 KV Kx (Nat.le_of_eq eU.symm) fun kb qF kT=>uC kb ?_
  rintro rfl
  rcases h.own r k o kb m an aj with h1|h1
  ·omega
  ·exact kT h1
end Go.VL
namespace Go.VL
set_option linter.unusedVariables false
set_option linter.unusedSimpArgs false
open Go
inductive sr where
 | id
 | ek (es:List (List az))
 | jE (sz:Nat)
 | jF
 | cu (x:az)
 | len (n:Nat)
 | LQ (sz:Nat)
 | at_ (j i n:Nat)
 | view (dL:Nat) (o:ad) (es:List (List az))
 deriving Inhabited
inductive yF where
 | dh (c:sr)
 | ptr (l:List sr)
 | Ky (l:List sr)
 | agg (l:List sr)
 deriving Inhabited
inductive lg where
 | br (c:yF)
 | comp (l:List yF)
 deriving Inhabited
inductive iv where
 | pure
 | box (l:List sr)
 | cu (row:List ad)
 | bB (row:List ad)
 | rx (row:List ad)
 | drop
 deriving Inhabited
structure m8 where
 bC:List (Nat×Nat):=[]
 iw:Option (Nat×Nat):=none
 deriving DecidableEq
inductive Src where
 | row (r:Nat)
 | ak (r k:Nat) (o:ad)
 deriving Inhabited
structure BW where
 aZ:List Src:=[]
 dm:List iv:=[]
 ac:List lg
 r:az
 fv:List (List ad):=[]
 ic:lg:= .br (.dh .id)
 kk:List iv:=[]
 fH:List Nat:=[]
 fz:Bool:=true
inductive fu where
 | none
 | U (t:Bool)
 | b2 (c:List az)
 | gb (o:ad) (c:List az)
 | fM
 | call (c:BW)
 | aG (m:Nat) (o:Option ad:=Option.none)
 | kc (t:Nat) (v:az) (a:fu)
 | ss (r:Nat) (a:fu)
 | vg (r n:Nat) (a:fu)
structure hT where
 val:az
 fE:List (Nat×List ad):=[]
 fr:List Prop:=[]
def Aj (P:Program)(t:TypeId):Bool :=
 match P.underlying t with
 | some (.struct _)|some (.array _ _)=>true
 | _=>false
def xY (ng:List Int):ByteArray:=ng.foldl (fun r n=>r.push (UInt8.ofNat n.toNat)) ByteArray.empty
def bytesOf:List (List az)→Option (List Int)
 | []=>some []
 | [.n .u8 n]::es=>(bytesOf es).map (n :: ·)
 | _=>none
def elemAt (es:List (List az))(i:Nat):fu→Option (List az×List Prop)
 | .b2 c=>some (c,[es[i]? = some c])
 | .gb _ c=>some (c,[es[i]? = some c])
 | _=>match es[i]? with
  | some c=>some (c,[])
  | none=>none
def oE (row:Option (List ad))(k:Nat):fu→Option (ad×List Prop)
 | .gb o _=>match row with
  | some row=>some (o,[dc (some row) k=some o])
  | none=>none
 | _=>match dc row k with
  | some o=>some (o,[])
  | none=>none
def rW (P:Program)(t:TypeId)(c:List az)(off:Nat):Option az :=
 if !((P.underlying t).isSome && (P.info? t).isSome) then none else
 if Aj P t then (if off+P.cellsOf t≤c.length then some (.agg ((c.drop off).take (P.cellsOf t))) else none)
 else match c[off]? with
  | some x=>if x.one then some x else none
  | none=>none
def Kz (op:BinOp)(x y:az):Option (az×List Prop) :=
 match x,y with
 | .n k a,.n d4 b =>
  match op with
  | .shl=>some (.n k (k.wrap (a*2 ^ (min b.toNat k.bits))),[0≤b])
  | .shr=>some (.n k (a.fdiv (2 ^ (min b.toNat k.bits))),[0≤b])
  | _=>if k≠d4 then none else
   match op with
   | .add=>some (.n k (k.wrap (a+b)),[])
   | .sub=>some (.n k (k.wrap (a-b)),[])
   | .mul=>some (.n k (k.wrap (a*b)),[])
   | .quo=>some (.n k (k.wrap (a.tdiv b)),[b≠0])
   | .rem=>some (.n k (a.tmod b),[b≠0])
   | .and=>some (.n k (k.wrap ((BitVec.ofInt k.bits a &&& BitVec.ofInt k.bits b).toNat)),[])
   | .or=>some (.n k (k.wrap ((BitVec.ofInt k.bits a ||| BitVec.ofInt k.bits b).toNat)),[])
   | .xor=>some (.n k (k.wrap ((BitVec.ofInt k.bits a ^^^ BitVec.ofInt k.bits b).toNat)),[])
   | .eql=>some (.b (a == b),[])
   | .neq=>some (.b (a != b),[])
   | .lss=>some (.b (decide (a<b)),[])
   | .leq=>some (.b (decide (a≤b)),[])
   | .gtr=>some (.b (decide (b<a)),[])
   | .geq=>some (.b (decide (b≤a)),[])
   | _=>none
 | .s a,.s b =>
  match op with
  | .add=>some (.s (a++b),[a.size+b.size<9223372036854775808])
  | .eql=>some (.b (a.toList == b.toList),[])
  | .neq=>some (.b (!(a.toList == b.toList)),[])
  | _=>none
 | _,_=>none
def rm (P:Program)(t:TypeId)(x y:az):Option Bool :=
 match P.underlying t,x,y with
 | some .bool,.b a,.b c=>some (a == c)
 | some (.pointer _),.hR,.hR=>some true
 | some (.pointer _),.d7 ..,.hR=>some false
 | some (.pointer _),.hR,.d7 .. => some false
 | some (.slice _),.ei,.ei=>some true
 | some (.slice _),.h7,.ei=>some false
 | _,_,_=>none
def KW (op:UnOp)(x:az):Option az :=
 match op,x with
 | .neg,.n k a=>some (.n k (k.wrap (0-a)))
 | .not,.b a=>some (.b (!a))
 | _,_=>none
def fieldsOf (P:Program)(t:TypeId):Option (Array Field) :=
 match P.underlying t with
 | some (.struct kC)=>some kC
 | _=>none
def ph (P:Program)(t:TypeId):Option TypeId :=
 match P.underlying t with
 | some (.slice e)=>some e
 | _=>none
def qg (P:Program)(t:TypeId):Option (List az) :=
 match P.info? t with
 | some i=>match i.zero with
  | some v=>if v.cells.toList.all (·.oneCell') then some (v.cells.toList.map ofValue) else none
  | none=>none
 | none=>none
def Ak:az→az→az
 | .ei,.isl sz []=> .isl sz []
 | .hR,.jX sz none=> .jX sz none
 | .ei,.iE r c sz none=> .iE r c sz none
 | x,_=>x
def qq:List az→List az→List az
 | x::z,y::c=>Ak x y::qq z c
 | z,_=>z
def rX (z:List az):fu→List az
 | .b2 c=>qq z c
 | _=>z
def setCells (c:List az)(off:Nat)(vs:List az):List az:=c.take off++vs++c.drop (off+vs.length)
def sY:List az→List (Nat×Nat×az)→Option (List az)
 | c,[]=>some c
 | c,(off,size,x)::rest =>
  if x.xp && x.cells.length=size && decide (off+size≤c.length) then sY (setCells c off x.cells) rest else none
def xP (sz:Nat):List (List az)→List (Nat×az)→Option (List (List az))
 | es,[]=>some es
 | es,(i,x)::rest=>if x.xp && x.cells.length=sz && decide (i<es.length) then xP sz (es.set i x.cells) rest else none
def ar:Option az→Nat→Option (Nat×List Prop)
 | none,d=>some (d,[])
 | some (.n _ x),_=>some (x.toNat,[0≤x])
 | _,_=>none
def eN (P:Program)(E:Nat→az)(aT:Nat→Option (List ad))(aR:Nat)(o:Oper)(cG:fu):Option hT :=
 let ie:=e9 E
 match o.op with
 | .move x | .assign x=>some {val:=ie x}
 | .pick c a b =>
  match ie c,cG with
  | .b x,.U t=>some {val:=if t then ie a else ie b,fr:=[x=t]}
  | .b true,_=>some {val:=ie a}
  | .b false,_=>some {val:=ie b}
  | _,_=>none
 | .alloc t =>
  match qg P t with
  | some c=>some {val:= .ref aR 0 0 0,fE:=[(aR,[⟨c.length,[c],.live⟩])]}
  | none=>none
 | .box _ x =>
  match ie x with
  | .agg c=>some {val:= .ref aR 0 0 0,fE:=[(aR,[⟨c.length,[c],.live⟩])]}
  | v=>if v.one then some {val:= .ref aR 0 0 0,fE:=[(aR,[⟨1,[[v]],.live⟩])]} else none
 | .load t x =>
  match ie x with
  | .ref r k i off =>
   match oE (aT r) k cG with
   | some (ak,ae)=>match elemAt ak.es i cG with
    | some (c,aS)=>match rW P t c off with
     | some v=>some {val:=v,fr:=ae++aS}
     | none=>none
    | none=>none
   | none=>none
  | .d7 _ es i off =>
   match elemAt es i cG with
   | some (c,aS)=>match rW P t c off with
    | some v=>some {val:=v,fr:=aS}
    | none=>none
   | none=>none
  | _=>none
 | .store t x y =>
  match ie x with
  | .ref r k i off =>
   match aT r with
   | none=>none
   | some row =>
   match oE (some row) k cG with
   | some (ak,ae) =>
    if ak.ch≠ .live then none else
    let v:=ie y
    if v.xp=false then none else
    if v.cells.length≠P.cellsOf t∨(P.info? t).isSome=false then none else
    match cG with
    | .fM=>if off=0 then some {val:= .dead,fE:=[(r,row.set k {ak with es:=ak.es.set i v.cells})],fr:=ae++[i<ak.es.length,v.cells.length=ak.sz]} else none
    | _=>match elemAt ak.es i cG with
     | some (c,aS)=>if off+v.cells.length≤c.length then some {val:= .dead,fE:=[(r,row.set k {ak with es:=ak.es.set i (setCells c off v.cells)})],fr:=ae++aS} else none
     | none=>none
   | none=>none
  | _=>none
 | .nilCheck x =>
  match ie x with
  | .ref r k i off=>match oE (aT r) k cG with
   | some (ak,ae)=>match elemAt ak.es i cG with
    | some (_,aS)=>some {val:= .ref r k i off,fr:=ae++aS}
    | none=>none
   | none=>none
  | .d7 sz es i off=>some {val:= .d7 sz es i off}
  | .fn f c=>some {val:= .fn f c}
  | _=>none
 | .binOp op t x y _ =>
  match Kz op (ie x) (ie y) with
  | some (v,ak)=>some {val:=v,fr:=ak}
  | none=>match op with
   | .eql=>(rm P t (ie x) (ie y)).map fun r=>{val:= .b r}
   | .neq=>(rm P t (ie x) (ie y)).map fun r=>{val:= .b (!r)}
   | _=>none
 | .unOp op _ x=>(KW op (ie x)).map fun v=>{val:=v}
 | .convert src dst x =>
  match P.underlying dst,ie x with
  | some (.int k),.n _ a=>if (P.underlying src).isSome then some {val:= .n k (k.wrap a)} else none
  | some .string,.bk r k bQ len =>
   match (ph P src).bind P.underlying,dc (aT r) k with
   | some (.int .u8),some ak=>match bytesOf ((ak.es.drop bQ).take len) with
    | some ng=>if bQ+len≤ak.es.length∧ak.sz=1 then some {val:= .s (xY ng)} else none
    | none=>none
   | _,_=>none
  | _,_=>none
 | .makeFunc (.func f) first captured =>
  if first.size=0 then some {val:= .fn f (captured.toList.map ie)} else none
 | .makeSlice t l c =>
  match ph P t,ie l,ie c with
  | some e,.n _ l,.n _ c =>
   match P.info? e,qg P e with
   | some i,some z=>if z.length=i.size then some {val:= .bk aR 0 0 l.toNat,fE:=[(aR,[⟨z.length,List.replicate l.toNat (rX z cG),.live⟩])],fr:=[0≤l,l≤c,(i.bytes:Int)*c≤281474976710656,c<9223372036854775808]} else none
   | _,_=>none
  | _,_,_=>none
 | .fieldAddr t x f =>
  match fieldsOf P t with
  | some kC=>match kC[f]? with
   | some fd=>if P.cellsOf fd.type=0 then none else
    match ie x with
    | .ref r k i off=>match oE (aT r) k cG with
     | some (ak,ae)=>match elemAt ak.es i cG with
      | some (_,aS)=>some {val:= .ref r k i (off+fd.offset),fr:=ae++aS}
      | none=>none
     | none=>none
    | .d7 sz es i off=>some {val:= .d7 sz es i (off+fd.offset)}
    | _=>none
   | none=>none
  | none=>none
 | .field t x f =>
  match fieldsOf P t with
  | some kC=>match kC[f]?,ie x with
   | some fd,.agg c=>(rW P fd.type c fd.offset).map fun v=>{val:=v}
   | _,_=>none
  | none=>none
 | .indexAddr t x mr =>
  match ph P t,ie mr with
  | some e,.n _ j =>
   match ie x with
   | .isl sz es=>if sz=P.cellsOf e∧sz≠0 then some {val:= .d7 sz es j.toNat 0,fr:=[0≤j,j<es.length]} else none
   | .bk r k bQ len=>match aT r with
    | some row=>match oE (some row) k cG with
     | some (ak,ae)=>if ak.sz=P.cellsOf e∧ak.sz≠0 then some {val:= .ref r k (bQ+j.toNat) 0,fr:=ae++[0≤j,j<len]} else none
     | none=>none
    | none=>none
   | _=>none
  | _,_=>none
 | .index t x mr =>
  match P.underlying t,ie x,ie mr with
  | some .string,.s s,.n _ j=>some {val:= .n .u8 (s.data.toList.getD j.toNat 0).toNat,fr:=[0≤j,j<s.size]}
  | _,_,_=>none
 | .extract x i =>
  match ie x with
  | .dS vs=>(vs[i]?).map fun v=>{val:=v}
  | _=>none
 | .slice t x bQ ao none =>
  match P.underlying t,ie x with
  | some (.slice e),.isl sz es =>
   match ar (bQ.map ie) 0,ar (ao.map ie) es.length with
   | some (l,ae),some (h,aS)=>if sz=P.cellsOf e∧sz≠0 then some {val:= .isl sz ((es.drop l).take (h-l)),fr:=ae++aS++[l≤h,h≤es.length]} else none
   | _,_=>none
  | some (.slice e),.bk r k Sa len =>
   match aT r with
   | none=>none
   | some row=>match oE (some row) k cG with
    | none=>none
    | some (ak,Sb) =>
     match ar (bQ.map ie) 0,ar (ao.map ie) len with
     | some (l,ae),some (h,aS)=>if ak.sz=P.cellsOf e∧ak.sz≠0 then some {val:= .bk r k (Sa+l) (h-l),fr:=Sb++ae++aS++[l≤h,h≤len]} else none
     | _,_=>none
  | some .string,.s s =>
   match ar (bQ.map ie) 0,ar (ao.map ie) s.size with
   | some (l,ae),some (h,aS)=>some {val:= .s (s.extract l h),fr:=ae++aS++[l≤h,h≤s.size]}
   | _,_=>none
  | _,_=>none
 | .build t parts =>
  match fieldsOf P t,qg P t with
  | some kC,some z =>
   if kC.toList.all (fun f=>(P.info? f.type).isSome)=false then none else
   match parts.toList.mapM fun (p:Nat×Operand)=>(kC[p.1]?).map fun fd=>(fd.offset,P.cellsOf fd.type,ie p.2) with
   | some l=>(sY z l).map fun c=>{val:= .agg c}
   | none=>none
  | _,_=>none
 | .buildSlice t len parts =>
  match ph P t with
  | some e=>match qg P e with
   | some z =>
    if len*z.length>16777216∨z.length≠P.cellsOf e∨z.length=0 then none else
    match xP z.length (List.replicate len z) (parts.toList.map fun p=>(p.1,ie p.2)) with
    | some es=>some {val:= .bk aR 0 0 len,fE:=[(aR,[⟨z.length,es,.live⟩])]}
    | none=>none
   | none=>none
  | none=>none
 | .call {callee:= .builtin .len,args,argTypes} =>
  match args.toList.map ie,P.underlying (argTypes.getD 0 0),decide (argTypes.size=1) with
  | [.isl _ es],some (.slice _),true=>some {val:= .n .i64 es.length}
  | [.bk r k _ len],some (.slice _),true=>match aT r with
   | some row=>match oE (some row) k cG with
    | some (_,ae)=>some {val:= .n .i64 len,fr:=ae}
    | none=>none
   | none=>none
  | [.ei],some (.slice _),true=>some {val:= .n .i64 0}
  | [.s x],some .string,true=>some {val:= .n .i64 x.size}
  | _,_,_=>none
 | _=>none
end Go.VL
namespace Go.VL
set_option linter.unusedVariables false
set_option linter.unusedSimpArgs false
open Go
theorem oU {α:Type}{sz:Nat}(bV:0<sz): ∀(es:List (List α)) (_ : ∀e∈es,e.length=sz) (j:Nat),
 es.flatten[j]? = (es[j / sz]?).bind (·[j % sz]?)
 | [],_,j=>by simp
 | e::es,h,j=>by
  have he:e.length=sz:=h e (by simp)
  rw [List.flatten_cons,List.getElem?_append]
  by_cases aC:j<sz
  ·rw [if_pos (by omega),Nat.div_eq_of_lt aC,Nat.mod_eq_of_lt aC];simp
  ·rw [if_neg (by omega),he,oU bV es (fun eJ lL=>h eJ (by simp [lL])) (j-sz)]
   have h1:j / sz=(j-sz) / sz+1:=Nat.div_eq_sub_div bV (by omega)
   have h2:j % sz=(j-sz) % sz:=Nat.mod_eq_sub_mod (by omega)
   rw [h1,h2];simp
theorem zR {α:Type}{sz:Nat}{es:List (List α)}(aV:∀e∈es,e.length=sz){i:Nat}{c:List α}(he:es[i]? = some c){j:Nat}(aC:j<sz):
 es.flatten[i*sz+j]? = c[j]? := by
 have bV:0<sz:=by omega
 rw [oU bV es aV]
 have h1:(i*sz+j) / sz=i:=by
  rw [Nat.mul_comm,Nat.mul_add_div bV,Nat.div_eq_of_lt aC];omega
 have h2:(i*sz+j) % sz=j:=by
  rw [Nat.mul_comm,Nat.mul_add_mod,Nat.mod_eq_of_lt aC]
 rw [h1,h2,he];rfl
theorem NH {α:Type}{sz:Nat}{es:List (List α)}(aV:∀e∈es,e.length=sz){i:Nat}{c dH:List α}(he:es[i]? = some c)(ba:dH.length=sz)(j:Nat):
 (es.set i dH).flatten[j]? = if i*sz≤j∧j<i*sz+sz then dH[j-i*sz]? else es.flatten[j]? := by
 rcases Nat.eq_zero_or_pos sz with h0|bV
 ·subst h0
  have e1 : ∀(l:List (List α)),(∀e∈l,e.length=0)→l.flatten=[]:=by
   intro l aV;induction l with
   | nil=>rfl
   | cons a l ih=>rw [List.flatten_cons,ih fun e he=>aV e (by simp [he])];have:=aV a (by simp);simp_all
  rw [e1 _ aV,e1 (es.set i dH) (by
   intro e hm
   rcases List.mem_or_eq_of_mem_set hm with h|h
   ·exact aV e h
   ·exact h▸ba)]
  simp
 ·have KX : ∀e∈es.set i dH,e.length=sz:=by
   intro e hm
   rcases List.mem_or_eq_of_mem_set hm with h|h
   ·exact aV e h
   ·exact h▸ba
  have ao:i<es.length:=by
   rcases Nat.lt_or_ge i es.length with h|h
   ·exact h
   ·rw [List.getElem?_eq_none h] at he;simp at he
  rw [oU bV _ KX,oU bV _ aV]
  by_cases a8:j / sz=i
  ·have h1:i*sz≤j∧j<i*sz+sz:=by
    subst a8
    constructor
    ·exact Nat.div_mul_le_self j sz
    ·have:=Nat.lt_div_mul_add (a:=j) bV;omega
   rw [if_pos h1,a8,List.getElem?_set_self ao]
   have:j % sz=j-i*sz:=by
    subst a8;have:=Nat.div_add_mod j sz;rw [Nat.mul_comm] at this;omega
   simp [this]
  ·have h1 : ¬(i*sz≤j∧j<i*sz+sz):=by
    rintro ⟨a,b⟩
    apply a8
    obtain ⟨d,rfl⟩ : ∃d,j=i*sz+d:=⟨j-i*sz,by omega⟩
    rw [Nat.mul_comm i sz,Nat.mul_add_div bV,Nat.div_eq_of_lt (by omega)]
    omega
   rw [if_neg h1,List.getElem?_set_ne (Ne.symm a8)]
def n9 (w:World)(ok:Nat→Prop)(a1:iW)(a9:iN)(dT o sz:Nat)(es:List (List az)):Prop :=
 (∀e∈es,e.length=sz)∧ ∀(j:Nat) x,es.flatten[j]? = some x→ ∃v,w.cell? ⟨dT,o+j,none⟩=some v∧j4 v=true∧Rel w ok a1 a9 x v
theorem i7.rd {w:World}{ok:Nat→Prop}{a1:iW}{a9:iN}{o:ad}{dT m:Nat}(h:i7 w ok a1 a9 o (some (dT,m))):n9 w ok a1 a9 dT 0 o.sz o.es:=by
 obtain ⟨c,eC,h1,h2,ab,au⟩:=h
 refine ⟨ab,fun j x R=> ?_⟩
 obtain ⟨v,e1,e2,bO⟩:=au j x R
 exact ⟨v,by rw [cell_of_row w dT (0+j) c eC (0,0) h1,Nat.zero_add];exact e1,e2,bO⟩
theorem aef {w:World}{ok:Nat→Prop}{a1:iW}{a9:iN}{x:az}{v:Value}(h:Rel w ok a1 a9 x v)(an:x.one=true):v.oneCell'=true:=h.j4 an
theorem Om {P:Program}{t:TypeId}(h:(P.underlying t).isSome=true)(w:World):(isAgg t).run P w = .ok (Aj P t) w:=by
 cases bC:P.underlying t with
 | none=>simp [bC] at h
 | some d=>cases d<;>simp [isAgg,Aj,run_underlying bC,bC]
theorem ue {P:Program}{t:TypeId}(h:(P.info? t).isSome=true)(w:World):(sizeOf t).run P w = .ok (P.cellsOf t) w:=by
 cases ao:P.info? t with
 | none=>simp [ao] at h
 | some i=>simp [sizeOf,typeInfo,ao,Program.cellsOf]
theorem q9 (b o n:Nat):(⟨b,o,none⟩:Addr).add n=⟨b,o+n,none⟩:=by unfold Addr.add;split<;>simp_all
theorem Jm {P:Program}{w:World}{ok:Nat→Prop}{a1:iW}{a9:iN}{dT o sz i off:Nat}{es:List (List az)}{c:List az}{t:TypeId}{x:az}
 (h8:n9 w ok a1 a9 dT o sz es) (he:es[i]? = some c) (ca:rW P t c off=some x) :
 ∃v,(Instr.loadAt t (.pointer (some ⟨dT,o+(i*sz+off),none⟩))).run P w = .ok v w∧Rel w ok a1 a9 x v:=by
 have hlen:c.length=sz:=h8.1 c (List.mem_of_getElem? he)
 unfold rW at ca
 split at ca
 ·simp at ca
 ·rename_i ao
  simp only [Bool.not_eq_true',Bool.not_eq_false,Bool.and_eq_true] at ao
  have jT : ∀j,j<sz→ ∃y v,c[j]? = some y∧w.cell? ⟨dT,o+(i*sz+j),none⟩=some v∧j4 v=true∧Rel w ok a1 a9 y v:=by
   intro j aC
   have a0:c[j]? = some c[j]:=List.getElem?_eq_getElem (by omega)
   obtain ⟨v,e1,e2,bO⟩:=h8.2 (i*sz+j) c[j] (by rw [zR h8.1 he aC,a0])
   exact ⟨_,v,a0,e1,e2,bO⟩
  simp only [Instr.loadAt,Instr.sureAddr,loadVar,Sem.run_bind,Sem.run_pure,Result.andThen,Om ao.1,ue ao.2]
  split at ca
  ·rename_i qA
   rw [qA]
   split at ca
   ·rename_i hle
    simp at ca;subst ca
    have aV:=run_loadCells (P:=P) w ⟨dT,o+(i*sz+off),none⟩ (P.cellsOf t) (fun j=>(w.cell? ⟨dT,o+(i*sz+(off+j)),none⟩).getD undef) (by
     intro j aC
     obtain ⟨y,v,-,e1,-,-⟩:=jT (off+j) (by omega)
     rw [q9,show o+(i*sz+off)+j=o+(i*sz+(off+j)) by omega,e1];rfl)
    refine ⟨.agg (List.map (fun j=>(w.cell? ⟨dT,o+(i*sz+(off+j)),none⟩).getD undef) (List.range (P.cellsOf t))).toArray,by simp [aV,Result.andThen,ue ao.2],?_⟩
    refine .agg _ (by simp;omega) ?_ ?_
    ·intro j v bc
     rw [List.getElem?_map,Option.map_eq_some_iff] at bc
     obtain ⟨q,lM,rfl⟩:=bc
     obtain ⟨n3,x9⟩:=List.getElem?_eq_some_iff.1 lM
     have a8:j<P.cellsOf t:=by simpa using n3
     obtain rfl:j=q:=by simpa using x9
     obtain ⟨y,v,-,e1,e2,-⟩:=jT (off+j) (by omega)
     rw [e1];exact e2
    ·intro j y v a0 bc
     rw [List.getElem?_map,Option.map_eq_some_iff] at bc
     obtain ⟨q,lM,rfl⟩:=bc
     obtain ⟨n3,x9⟩:=List.getElem?_eq_some_iff.1 lM
     have a8:j<P.cellsOf t:=by simpa using n3
     obtain rfl:j=q:=by simpa using x9
     rw [List.getElem?_take,if_pos a8,List.getElem?_drop] at a0
     obtain ⟨lS,v,h0,e1,e2,bO⟩:=jT (off+j) (by omega)
     rw [h0] at a0;simp at a0;subst a0
     rw [e1];exact bO
   ·simp at ca
  ·rename_i qA
   have qA:Aj P t=false:=by simpa using qA
   rw [qA]
   split at ca
   ·rename_i y a0
    split at ca
    ·simp at ca;subst ca
     have xZ:off<sz:=by
      rcases Nat.lt_or_ge off c.length with h|h
      ·omega
      ·rw [List.getElem?_eq_none h] at a0;simp at a0
     obtain ⟨lS,v,h0,e1,e2,bO⟩:=jT off xZ
     rw [h0] at a0;simp at a0;subst a0
     exact ⟨v,by simp [e1],bO⟩
    ·simp at ca
   ·simp at ca
theorem M5 {c:List az}{off:Nat}{vs:List az}(h:off+vs.length≤c.length):(setCells c off vs).length=c.length:=by
 simp [setCells];omega
theorem Je {c:List az}{off:Nat}{vs:List az}(h:off+vs.length≤c.length)(j:Nat):
 (setCells c off vs)[j]? = if off≤j∧j<off+vs.length then vs[j-off]? else c[j]? := by
 unfold setCells
 rw [List.append_assoc,List.getElem?_append]
 have h1:(c.take off).length=off:=by simp;omega
 rw [h1]
 by_cases a:j<off
 ·rw [if_pos a,if_neg (by omega),List.getElem?_take,if_pos a]
 ·rw [if_neg a,List.getElem?_append]
  by_cases b:j<off+vs.length
  ·rw [if_pos (by omega),if_pos ⟨by omega,b⟩]
  ·rw [if_neg (by omega),if_neg (by omega),List.getElem?_drop]
   congr 1;omega
theorem aaH {c:Array Value}{p:Nat}{vs:List Value}(h:p+vs.length≤c.size)(j:Nat):
 (c.toList.take p++vs++c.toList.drop (p+vs.length)).toArray[j]? = if p≤j∧j<p+vs.length then vs[j-p]? else c[j]? := by
 rw [List.getElem?_toArray,List.append_assoc,List.getElem?_append]
 have h1:(c.toList.take p).length=p:=by simp;omega
 rw [h1]
 by_cases a:j<p
 ·rw [if_pos a,if_neg (by omega),List.getElem?_take,if_pos a,Array.getElem?_toList]
 ·rw [if_neg a,List.getElem?_append]
  by_cases b:j<p+vs.length
  ·rw [if_pos (by omega),if_pos ⟨by omega,b⟩]
  ·rw [if_neg (by omega),if_neg (by omega),List.getElem?_drop,Array.getElem?_toList]
   congr 1;omega
theorem XA {P:Program}{g:G}{s:S}{aw:fj}{a:Act}{w:World}(h:cF g s aw a w){r k b m i off:Nat}{l:List ad}{o:ad}{c:List az}
 (aq:s.aT r=some l) (an:s.ak r k=some o) (a5:o.ch = .live) (aj:aw r k=some (b,m)) (he:o.es[i]? = some c)
 {t:TypeId} (KY:(P.info? t).isSome=true) {x:az} {v:Value} (R:Rel w (s.ok g aw w) s.a1 (s.a9 aw) x v) (lI:x.one=true∨ ∃c,x = .agg c)
 (eU:x.cells.length=P.cellsOf t) (h5:off+x.cells.length≤c.length) :
 ∃bJ,(Instr.storeAt t (.pointer (some ⟨b,i*o.sz+off,none⟩)) v).run P w = .ok () bJ ∧
  cF g (s.setRow r (l.set k {o with es:=o.es.set i (setCells c off x.cells)})) aw a bJ:=by
 obtain ⟨vs,bc,pp,jT,fo⟩:=R.cellsOf lI
 have bl:=h.obj r k o an
 rw [aj] at bl
 obtain ⟨cf,eC,h1,h2,ab,au⟩:=bl
 have hlen:c.length=o.sz:=ab c (List.mem_of_getElem? he)
 have x3:i*o.sz+off+vs.length≤cf.size:=by
  rcases Nat.eq_zero_or_pos o.sz with cm|cm
  ·have:off=0:=by omega
   have:vs.length=0:=by omega
   rw [cm];omega
  ·have aV:o.es.flatten[i*o.sz+(o.sz-1)]? = some (c[o.sz-1]'(by omega)):=by
    rw [zR ab he (by omega)];exact List.getElem?_eq_getElem (by omega)
   obtain ⟨Sc,e1,-,-⟩:=au _ _ aV
   have:=(Array.getElem?_eq_some_iff.1 e1).1
   omega
 have l4:=run_storeCells_at P b (i*o.sz+off) eC vs 0 cf w h1 (by simpa using x3) (fun Sc Bd=>by
  obtain ⟨q,a8⟩:=List.getElem?_of_mem Bd
  exact jT q Sc a8)
 simp only [Nat.add_zero] at l4
 have iJ:(Instr.storeAt t (.pointer (some ⟨b,i*o.sz+off,none⟩)) v).run P w =
  .ok () (w.setRow b (cf.toList.take (i*o.sz+off)++vs++cf.toList.drop (i*o.sz+off+vs.length)).toArray):=by
  have bV:v.cells.size=P.cellsOf t:=by rw [bc];simpa using pp.trans eU
  simp only [Instr.storeAt,Instr.sureAddr,storeVar,Sem.run_bind,Sem.run_pure,Result.andThen,ue KY,bV,ne_eq,not_true_eq_false,if_false]
  rw [bc]
  simpa using l4
 refine ⟨_,iJ,?_⟩
 have abB:(w.setRow b (cf.toList.take (i*o.sz+off)++vs++cf.toList.drop (i*o.sz+off+vs.length)).toArray).heap.size=w.heap.size:=size_setRow _ _ _
 have sd:(setCells c off x.cells).length=o.sz:=by rw [M5 h5];exact hlen
 refine (h.write aq an a5 aj _ _ eC (setRow_heap w b cf _ eC _ h1) abB (fun q a8=>setRow_other w b q _ a8) rfl rfl rfl ?_ ?_ ?_).1
 ·simp;omega
 ·intro e hm
  rcases List.mem_or_eq_of_mem_set hm with cx|cx
  ·exact ab e cx
  ·exact cx▸sd
 ·intro j y a0
  rw [aaH x3]
  rw [NH ab he sd] at a0
  by_cases lN:i*o.sz≤j∧j<i*o.sz+o.sz
  ·rw [if_pos lN,Je h5] at a0
   by_cases QJ:off≤j-i*o.sz∧j-i*o.sz<off+x.cells.length
   ·rw [if_pos QJ] at a0
    rw [if_pos ⟨by omega,by omega⟩]
    have a8:j-(i*o.sz+off)<vs.length:=by omega
    refine ⟨vs[j-(i*o.sz+off)],List.getElem?_eq_getElem a8,jT _ _ (List.getElem?_eq_getElem a8),fo (j-i*o.sz-off) y _ a0 ?_⟩
    rw [show j-i*o.sz-off=j-(i*o.sz+off) by omega]
    exact List.getElem?_eq_getElem a8
   ·rw [if_neg QJ] at a0
    rw [if_neg (by omega)]
    refine au j y ?_
    rw [show j=i*o.sz+(j-i*o.sz) by omega,zR ab he (by omega)]
    exact a0
  ·rw [if_neg lN] at a0
   rw [if_neg (by rw [pp];omega)]
   exact au j y a0
end Go.VL
namespace Go.VL
set_option linter.unusedVariables false
set_option linter.unusedSimpArgs false
open Go
def S.hM (s:S)(u:List (Nat×List ad)):S:=u.foldl (fun s p=>s.setRow p.1 p.2) s
@[simp] theorem S.aeo (s:S):s.hM []=s:=rfl
@[simp] theorem S.aep (s:S) (p:Nat×List ad):s.hM [p]=s.setRow p.1 p.2:=rfl
section
variable {w:World} {ok:Nat→Prop} {a1:iW} {a9:iN} {v:Value}
theorem Rel.sZ {x:Bool}(h:Rel w ok a1 a9 (.b x) v):v = .bool x:=by cases h;rfl
theorem Rel.oZ {k:IntKind}{x:Int}(h:Rel w ok a1 a9 (.n k x) v):v = .int k x:=by cases h;rfl
theorem Rel.xQ {x:ByteArray}(h:Rel w ok a1 a9 (.s x) v):v = .string x:=by cases h;rfl
theorem Rel.us (h:Rel w ok a1 a9 .hR v):v = .pointer none:=by cases h;rfl
theorem Rel.pb (h:Rel w ok a1 a9 .ei v):v = .slice none 0 0:=by cases h;rfl
theorem Rel.Dw (h:Rel w ok a1 a9 .h7 v): ∃a c,v = .slice (some a) 0 c:=by cases h;exact ⟨_,_,rfl⟩
theorem Rel.OS {sz:Nat}(h:Rel w ok a1 a9 (.jX sz none) v):v = .pointer none:=by cases h;rfl
theorem Rel.JE {sz:Nat}{c:List az}(h:Rel w ok a1 a9 (.jX sz (some c)) v):Rel w ok a1 a9 (.d7 sz [c] 0 0) v:=by cases h;assumption
theorem Rel.DF {f:Nat}{c:List az}(h:Rel w ok a1 a9 (.fn f c) v): ∃vs:List Value,v = .func (.func f) #[] vs.toArray∧vs.length=c.length ∧
 ∀(j:Nat) x u,c[j]? = some x→vs[j]? = some u→Rel w ok a1 a9 x u:=by
 cases h with|fn vs aV aq=>exact ⟨vs,rfl,aV,aq⟩
theorem Rel.z9 {c:List az}(h:Rel w ok a1 a9 (.agg c) v): ∃vs:List Value,v = .agg vs.toArray∧vs.length=c.length∧(∀(j:Nat) u,vs[j]? = some u→VL.j4 u=true) ∧
 ∀(j:Nat) x u,c[j]? = some x→vs[j]? = some u→Rel w ok a1 a9 x u:=by
 cases h with|agg vs aV ba aq=>exact ⟨vs,rfl,aV,ba,aq⟩
theorem Rel.xy {c:List az}(h:Rel w ok a1 a9 (.dS c) v): ∃vs:List Value,v = .tuple vs.toArray∧vs.length=c.length ∧
 ∀(j:Nat) x u,c[j]? = some x→vs[j]? = some u→Rel w ok a1 a9 x u:=by
 cases h with|dS vs aV aq=>exact ⟨vs,rfl,aV,aq⟩
theorem Rel.xz {r k i off sz:Nat}{p:Option (Nat×Nat)}(h:Rel w ok a1 a9 (.ref r k i off) v)(ca:a9 r k=some (sz,p)):
 p=none∨ ∃b m,p=some (b,m)∧v = .pointer (some ⟨b,i*sz+off,none⟩):=by
 cases h with
 | pe a hu a2 =>
  cases p with
  | none=>exact .inl rfl
  | some q=>exact absurd ca (a2 _ _)
 | ref hu h =>
  rw [ca] at h
  simp only [Option.some.injEq,Prod.mk.injEq] at h
  obtain ⟨rfl,rfl⟩:=h
  exact .inr ⟨_,_,rfl,rfl⟩
theorem Rel.aev {r k i off:Nat}(h:Rel w ok a1 a9 (.ref r k i off) v): ∃a,v = .pointer a:=by
 cases h with
 | pe a=>exact ⟨a,rfl⟩
 | ref=>exact ⟨_,rfl⟩
theorem Rel.YA {r k i off sz b m:Nat}(h:Rel w ok a1 a9 (.ref r k i off) v)(ca:a9 r k=some (sz,some (b,m)))(QK:Nat):
 Rel w ok a1 a9 (.ref r k i QK) (.pointer (some ⟨b,i*sz+QK,none⟩)):=by
 cases h with
 | pe a hu a2=>exact absurd ca (a2 _ _)
 | ref hu h=>exact .ref hu ca
theorem Rel.xA {sz i off:Nat}{es:List (List az)}(h:Rel w ok a1 a9 (.d7 sz es i off) v): ∃dT o,(ok dT∧jx es)∧v = .pointer (some ⟨dT,o+(i*sz+off),none⟩)∧n9 w ok a1 a9 dT o sz es:=by
 cases h with
 | d7 cs aP aj aV hw ba aq=>exact ⟨_,_,⟨aP,aj⟩,rfl,aV,fun j x R=>⟨cs j,hw j x R,ba j x R,aq j x R⟩⟩
theorem Rel.Aa {r k bQ len sz:Nat}{p:Option (Nat×Nat)}(h:Rel w ok a1 a9 (.bk r k bQ len) v)(ca:a9 r k=some (sz,p)):
 (p=none∧bQ=0∧len=0∧v = .slice none 0 0)∨ ∃b m a c,p=some (b,m)∧v = .slice a len c∧len≤c∧c<9223372036854775808∧(c=0∨(a=some ⟨b,bQ*sz,none⟩∧(bQ+c)*sz=m)):=by
 cases h with
 | m0 a l c hu a2=>rw [ca] at a2;simp at a2
 | nm hu h =>
  rw [ca] at h
  simp only [Option.some.injEq,Prod.mk.injEq] at h
  exact .inl ⟨h.2,rfl,rfl,rfl⟩
 | bk hu h aV ba hm =>
  rw [ca] at h
  simp only [Option.some.injEq,Prod.mk.injEq] at h
  obtain ⟨rfl,rfl⟩:=h
  exact .inr ⟨_,_,_,_,rfl,rfl,aV,ba,hm.2.imp id fun e=>⟨e,hm.1⟩⟩
theorem Rel.uu {r k bQ len sz:Nat}{p:Option (Nat×Nat)}(h:Rel w ok a1 a9 (.bk r k bQ len) v)(ca:a9 r k=some (sz,p)):
 (p=none∧bQ=0∧len=0∧v = .slice none 0 0)∨ ∃b m a c,p=some (b,m)∧v = .slice a len c∧len≤c∧c<9223372036854775808∧(bQ+c)*sz=m∧(c=0∨a=some ⟨b,bQ*sz,none⟩):=by
 cases h with
 | m0 a l c hu a2=>rw [ca] at a2;simp at a2
 | nm hu h =>
  rw [ca] at h
  simp only [Option.some.injEq,Prod.mk.injEq] at h
  exact .inl ⟨h.2,rfl,rfl,rfl⟩
 | bk hu h aV ba hm =>
  rw [ca] at h
  simp only [Option.some.injEq,Prod.mk.injEq] at h
  obtain ⟨rfl,rfl⟩:=h
  exact .inr ⟨_,_,_,_,rfl,rfl,aV,ba,hm⟩
theorem Rel.aeg {r k bQ len:Nat}(h:Rel w ok a1 a9 (.bk r k bQ len) v): ∃a l c,v = .slice a l c:=by
 cases h<;>exact ⟨_,_,_,rfl⟩
theorem Rel.rQ {sz:Nat}{es:List (List az)}(h:Rel w ok a1 a9 (.isl sz es) v):
 (es=[]∧ ∃a c,v = .slice a 0 c∧(a=none→c=0))∨ ∃dT off c,(ok dT∧jx es)∧v = .slice (some ⟨dT,off,none⟩) es.length c∧es.length≤c∧n9 w ok a1 a9 dT off sz es:=by
 cases h with
 | jV sz a c h=>exact .inl ⟨rfl,a,c,rfl,h⟩
 | isl cs aP aj aV ba hw iq aq=>exact .inr ⟨_,_,_,⟨aP,aj⟩,rfl,ba,aV,fun j x R=>⟨cs j,hw j x R,iq j x R,aq j x R⟩⟩
theorem n9.isl {dT off c sz:Nat}{es:List (List az)}(h:n9 w ok a1 a9 dT off sz es)(aP:ok dT∧jx es)(ba:es.length≤c):Rel w ok a1 a9 (.isl sz es) (.slice (some ⟨dT,off,none⟩) es.length c):=by
 have R : ∀j:Nat,∃v,∀x,es.flatten[j]? = some x→w.cell? ⟨dT,off+j,none⟩=some v∧VL.j4 v=true∧Rel w ok a1 a9 x v:=by
  intro j
  cases aC:es.flatten[j]? with
  | none=>exact ⟨undef,fun x R=>by simp at R⟩
  | some y =>
   obtain ⟨v,h1⟩:=h.2 j y aC
   exact ⟨v,fun x R=>by simp at R;subst R;exact h1⟩
 exact .isl (fun j=>(R j).choose) aP.1 aP.2 h.1 ba (fun j x aC=>((R j).choose_spec x aC).1) (fun j x aC=>((R j).choose_spec x aC).2.1) (fun j x aC=>((R j).choose_spec x aC).2.2)
theorem n9.d7 {dT o i off sz:Nat}{es:List (List az)}(h:n9 w ok a1 a9 dT o sz es)(aP:ok dT∧jx es):Rel w ok a1 a9 (.d7 sz es i off) (.pointer (some ⟨dT,o+(i*sz+off),none⟩)):=by
 have R : ∀j:Nat,∃v,∀x,es.flatten[j]? = some x→w.cell? ⟨dT,o+j,none⟩=some v∧VL.j4 v=true∧Rel w ok a1 a9 x v:=by
  intro j
  cases aC:es.flatten[j]? with
  | none=>exact ⟨undef,fun x R=>by simp at R⟩
  | some y =>
   obtain ⟨v,h1⟩:=h.2 j y aC
   exact ⟨v,fun x R=>by simp at R;subst R;exact h1⟩
 exact .d7 (fun j=>(R j).choose) aP.1 aP.2 h.1 (fun j x aC=>((R j).choose_spec x aC).1) (fun j x aC=>((R j).choose_spec x aC).2.1) (fun j x aC=>((R j).choose_spec x aC).2.2)
end
def Fin (P:Program)(g:G)(s:S)(a:Act)(w:World)(o:Oper)(bw:hT):Prop :=
 ∃v bJ bH,((execOp a.eval o).run P w = .ok (.value v) bJ∨((execOp a.eval o).run P w = .ok .skip bJ∧v=undef)) ∧
  cF g (s.hM bw.fE) bH a bJ∧Rel bJ ((s.hM bw.fE).ok g bH bJ) (s.hM bw.fE).a1 ((s.hM bw.fE).a9 bH) bw.val v
section
variable {P:Program} {g:G} {s:S} {aw:fj} {a:Act} {w:World} {o:Oper} {cG:fu} {aR:Nat} {bw:hT}
theorem ik (h:cF g s aw a w){v:Value}(iJ:(execOp a.eval o).run P w = .ok (.value v) w)(hu:bw.fE=[])
 (aq:Rel w (s.ok g aw w) s.a1 (s.a9 aw) bw.val v):Fin P g s a w o bw :=
 ⟨v,w,aw,.inl iJ,by rw [hu];exact h,by rw [hu];exact aq⟩
theorem Pq {x:Operand}(h:cF g s aw a w)(an:o.op = .move x∨o.op = .assign x)(av:eN P s.E s.aT aR o cG=some bw):Fin P g s a w o bw:=by
 have:bw={val:=e9 s.E x}:=by rcases an with an|an<;>simp [eN,an] at av<;>exact av.symm
 subst this
 refine ik (v:=a.eval x) h ?_ rfl (h.eval x)
 rcases an with an|an<;>simp [execOp,an]
theorem aac {c x y:Operand}(h:cF g s aw a w)(an:o.op = .pick c x y)(av:eN P s.E s.aT aR o cG=some bw)(ct:∀p∈bw.fr,p):Fin P g s a w o bw:=by
 have ba:=h.eval c
 simp only [eN,an] at av
 have key : ∀t:Bool,e9 s.E c = .b t→bw.fE=[]→bw.val=(if t then e9 s.E x else e9 s.E y)→Fin P g s a w o bw:=by
  intro t ca hu bc
  rw [ca] at ba
  have e:a.eval c = .bool t:=ba.sZ
  refine ik (v:=if t then a.eval x else a.eval y) h (by simp [execOp,an,e,asBool]) hu ?_
  rw [bc];cases t
  ·exact h.eval y
  ·exact h.eval x
 split at av
 ·rename_i z t cm
  simp at av;subst av
  have e:z=t:=ct _ (by simp)
  subst e
  exact key z cm rfl rfl
 ·rename_i cm _;simp at av;subst av;exact key true cm rfl rfl
 ·rename_i cm _;simp at av;subst av;exact key false cm rfl rfl
 ·simp at av
theorem Dx (h:cF g s aw a w)(eQ:s.aT aR=none){v:Value}{ak:ad}{c:Array Value}{eC:TypeId}(a5:ak.ch = .live)
 (iJ:(execOp a.eval o).run P w = .ok (.value v) (w.alloc (.cells c eC))) (hu:bw.fE=[(aR,[ak])]) (hlen : ∀e∈ak.es,e.length=ak.sz)
 (ba : ∀(j:Nat) x,ak.es.flatten[j]? = some x→ ∃v,c[j]? = some v∧j4 v=true∧Rel w (s.ok g aw w) s.a1 (s.a9 aw) x v)
 (hval : ∀(bJ:World) (kL:Nat→Prop) (mJ:iW) (l3:iN),mJ aR 0→l3 aR 0=some (ak.sz,some (w.heap.size,c.size))→Rel bJ kL mJ l3 bw.val v):Fin P g s a w o bw:=by
 obtain ⟨bH,aj,bV,-⟩:=h.alloc eQ ak a5 c eC hlen ba
 have h1:(s.setRow aR [ak]).a1 aR 0:=by rw [mZ];simp
 have h2:(s.setRow aR [ak]).a9 bH aR 0=some (ak.sz,some (w.heap.size,c.size)):=by simp [S.a9,lo,lV,a5,aj]
 exact ⟨v,_,bH,.inl iJ,by rw [hu];exact bV,by rw [hu];exact hval _ _ _ _ h1 h2⟩
theorem zS {t:TypeId}{z:List az}(cm:qg P t=some z): ∃i ez,P.info? t=some i∧i.zero=some ez∧z=ez.cells.toList.map ofValue ∧
 ∀(j:Nat) x,z[j]? = some x→ ∃v,ez.cells[j]? = some v∧j4 v=true∧ ∀(w:World) (ok:Nat→Prop) (a1:iW) (a9:iN),Rel w ok a1 a9 x v:=by
 unfold qg at cm
 cases ao:P.info? t with
 | none=>simp [ao] at cm
 | some i =>
  cases kU:i.zero with
  | none=>simp [ao,kU] at cm
  | some ez =>
   simp only [ao,kU] at cm
   split at cm
   ·rename_i nv
    simp only [Option.some.injEq] at cm
    refine ⟨i,ez,rfl,kU,cm.symm,fun j x R=> ?_⟩
    subst cm
    rw [List.getElem?_map,Option.map_eq_some_iff] at R
    obtain ⟨v,bc,rfl⟩:=R
    refine ⟨v,by rw [← Array.getElem?_toList];exact bc,?_,fun w ok a1 a9=>NF v⟩
    exact List.all_eq_true.1 nv v (List.mem_of_getElem? bc)
   ·simp at cm
theorem Zj {t:TypeId}(h:cF g s aw a w)(eQ:s.aT aR=none)(an:o.op = .alloc t)(av:eN P s.E s.aT aR o cG=some bw):Fin P g s a w o bw:=by
 simp only [eN,an] at av
 split at av
 ·rename_i z cm
  obtain ⟨i,ez,ao,kU,e,jT⟩:=zS cm
  simp only [Option.some.injEq] at av
  subst av
  refine Dx (v:= .pointer (some ⟨w.heap.size,0,none⟩)) (c:=ez.cells) (eC:=t) (ak:=⟨z.length,[z],.live⟩) h eQ rfl ?_ rfl (by simp) ?_ ?_
  ·simp [execOp,an,Instr.alloc,zeroValue,typeInfo,ao,kU,newVar,newRow]
  ·intro j x R
   simp only [List.flatten_cons,List.flatten_nil,List.append_nil] at R
   obtain ⟨v,h1,h2,ab⟩:=jT j x R
   exact ⟨v,h1,h2,ab _ _ _ _⟩
  ·intro bJ kL mJ l3 hu ca
   have:=Rel.ref (w:=bJ) (ok:=kL) (i:=0) (off:=0) hu ca
   simpa using this
 ·simp at av
theorem aaI {t:TypeId}{x:Operand}(h:cF g s aw a w)(eQ:s.aT aR=none)(an:o.op = .box t x)(av:eN P s.E s.aT aR o cG=some bw):Fin P g s a w o bw:=by
 simp only [eN,an] at av
 have R:=h.eval x
 have key : ∀ak:ad,ak.ch = .live→ak.es=[(e9 s.E x).cells]→ak.sz=(e9 s.E x).cells.length→((e9 s.E x).one=true∨ ∃c,e9 s.E x = .agg c) →
  bw.fE=[(aR,[ak])]→bw.val = .ref aR 0 0 0→Fin P g s a w o bw:=by
  intro ak a5 hh eU lI hu bc
  obtain ⟨vs,e1,e2,bO,c5⟩:=R.cellsOf lI
  refine Dx (v:= .pointer (some ⟨w.heap.size,0,none⟩)) (c:=(a.eval x).cells) (eC:=t) h eQ a5 ?_ hu ?_ ?_ ?_
  ·simp [execOp,an,Instr.box,newVar,newRow]
  ·intro e he;rw [hh] at he;simp at he;rw [he,eU]
  ·intro j y a0
   rw [hh] at a0
   simp only [List.flatten_cons,List.flatten_nil,List.append_nil] at a0
   have aC:j<vs.length:=by
    rcases Nat.lt_or_ge j (e9 s.E x).cells.length with cx|cx
    ·omega
    ·rw [List.getElem?_eq_none cx] at a0;simp at a0
   refine ⟨vs[j],by rw [e1];simp [aC],bO j _ (List.getElem?_eq_getElem aC),c5 j y _ a0 (List.getElem?_eq_getElem aC)⟩
  ·intro bJ kL mJ l3 n4 ca
   have:=Rel.ref (w:=bJ) (ok:=kL) (i:=0) (off:=0) n4 ca
   rw [bc];simpa using this
 split at av
 ·rename_i c ba
  simp only [Option.some.injEq] at av
  subst av
  exact key _ rfl (by rw [ba];rfl) (by rw [ba];rfl) (.inr ⟨c,ba⟩) rfl rfl
 ·split at av
  ·rename_i lI
   simp only [Option.some.injEq] at av
   subst av
   have e:(e9 s.E x).cells=[e9 s.E x]:=by
    generalize e9 s.E x=y at lI
    cases y<;>first|rfl|simp [az.one] at lI
   exact key _ rfl (by rw [e]) (by rw [e];rfl) (.inl lI) rfl rfl
  ·simp at av
theorem il {s:S}{aw:fj}{r k:Nat}{ak:ad}(h:s.ak r k=some ak):s.a9 aw r k=some (ak.sz,aw r k):=by simp [S.a9,h]
theorem sS {row:Option (List ad)}{k:Nat}{ak:ad}{ae:List Prop}(h:oE row k cG=some (ak,ae))(ct:∀p∈ae,p):dc row k=some ak:=by
 unfold oE at h
 split at h
 ·split at h
  ·simp at h;obtain ⟨rfl,rfl⟩:=h;exact ct _ (by simp)
  ·simp at h
 ·split at h
  ·rename_i cx;simp at h;obtain ⟨rfl,rfl⟩:=h;exact cx
  ·simp at h
theorem z0 {es:List (List az)}{i:Nat}{c:List az}{ae:List Prop}(h:elemAt es i cG=some (c,ae))(ct:∀p∈ae,p):es[i]? = some c:=by
 unfold elemAt at h
 split at h
 ·simp at h;obtain ⟨rfl,rfl⟩:=h;exact ct _ (by simp)
 ·simp at h;obtain ⟨rfl,rfl⟩:=h;exact ct _ (by simp)
 ·split at h
  ·rename_i cx;simp at h;obtain ⟨rfl,rfl⟩:=h;exact cx
  ·simp at h
theorem aad {t:TypeId}{x:Operand}(h:cF g s aw a w)(an:o.op = .load t x)(av:eN P s.E s.aT aR o cG=some bw)(ct:∀p∈bw.fr,p):Fin P g s a w o bw:=by
 simp only [eN,an] at av
 have R:=h.eval x
 split at av
 ·rename_i r k i off gH
  rw [gH] at R
  split at av
  ·rename_i ak ae bl
   split at av
   ·rename_i c aS m9
    split at av
    ·rename_i v bc
     simp only [Option.some.injEq] at av
     subst av
     have j6:s.ak r k=some ak:=sS bl fun p aj=>ct p (by simp [aj])
     have qB:=z0 m9 fun p aj=>ct p (by simp [aj])
     have fo:=h.obj r k ak j6
     rcases R.xz (il j6) with h0|⟨b,m,aj,hval⟩
     ·rw [h0] at fo
      simp only [i7] at fo
      rw [fo] at qB;simp at qB
     ·rw [aj] at fo
      obtain ⟨u,h1,h2⟩:=Jm (P:=P) fo.rd qB bc
      refine ik (v:=u) h ?_ rfl h2
      rw [Nat.zero_add] at h1
      simp [execOp,an,hval,h1]
    ·simp at av
   ·simp at av
  ·simp at av
 ·rename_i sz es i off gH
  rw [gH] at R
  split at av
  ·rename_i c aS m9
   split at av
   ·rename_i v bc
    simp only [Option.some.injEq] at av
    subst av
    have qB:=z0 m9 fun p aj=>ct p (by simp [aj])
    obtain ⟨dT,b0,aP,hval,h8⟩:=R.xA
    obtain ⟨u,h1,h2⟩:=Jm (P:=P) h8 qB bc
    refine ik (v:=u) h ?_ rfl h2
    simp [execOp,an,hval,h1]
   ·simp at av
  ·simp at av
 ·simp at av
end
end Go.VL
namespace Go.VL
set_option linter.unusedVariables false
set_option linter.unusedSimpArgs false
open Go
section
variable {P:Program} {g:G} {s:S} {aw:fj} {a:Act} {w:World} {o:Oper} {cG:fu} {aR:Nat} {bw:hT}
theorem On (h:cF g s aw a w){r k i off:Nat}{row:List ad}{ak:ad}{c:List az}{t:TypeId}{x y:Operand}(an:o.op = .store t x y)
 (gH:e9 s.E x = .ref r k i off) (dr:s.aT r=some row) (bl:s.ak r k=some ak) (a5:ak.ch = .live) (m9:ak.es[i]? = some c)
 (lI:(e9 s.E y).one=true∨ ∃c,e9 s.E y = .agg c) (eU:(e9 s.E y).cells.length=P.cellsOf t) (KY:(P.info? t).isSome=true)
 (h5:off+(e9 s.E y).cells.length≤c.length) (av:bw.val = .dead) (hu:bw.fE=[(r,row.set k {ak with es:=ak.es.set i (setCells c off (e9 s.E y).cells)})]):Fin P g s a w o bw:=by
 have R:=h.eval x
 rw [gH] at R
 have fo:=h.obj r k ak bl
 rcases R.xz (il bl) with h0|⟨b,m,aj,hval⟩
 ·rw [h0] at fo;simp only [i7] at fo;rw [fo] at m9;simp at m9
 ·obtain ⟨bJ,h1,h2⟩:=XA (P:=P) h dr bl a5 aj m9 KY (h.eval y) lI eU h5
  refine ⟨undef,bJ,aw,.inr ⟨?_,rfl⟩,by rw [hu];exact h2,by rw [av];exact .dead _⟩
  simp [execOp,an,hval,h1]
theorem Zk {t:TypeId}{x y:Operand}(h:cF g s aw a w)(an:o.op = .store t x y)(av:eN P s.E s.aT aR o cG=some bw)(ct:∀p∈bw.fr,p):Fin P g s a w o bw:=by
 simp only [eN,an] at av
 split at av
 ·rename_i r k i off gH
  split at av
  ·simp at av
  ·rename_i row dr
   split at av
   ·rename_i ak ae abC
    split at av
    ·simp at av
    ·rename_i a5
     have a5:ak.ch = .live:=by simpa using a5
     split at av
     ·simp at av
     ·rename_i lI
      have lI:=az.NG (by simpa using lI)
      split at av
      ·simp at av
      ·rename_i eU
       simp only [not_or,Decidable.not_not,Bool.not_eq_false] at eU
       have j6:(∀p∈ae,p)→s.ak r k=some ak:=fun bA=>by
        have:=sS abC bA
        unfold S.ak;rw [dr];exact this
       split at av
       ·split at av
        ·rename_i xZ
         simp only [Option.some.injEq] at av
         subst av;subst xZ
         have dC:i<ak.es.length:=ct _ (by simp)
         have iq:(e9 s.E y).cells.length=ak.sz:=ct _ (by simp)
         have AN:=j6 fun p aj=>ct p (by simp [aj])
         have hlen:(ak.es[i]).length=ak.sz:=by
          have fo:=h.obj r k ak AN
          cases aj:aw r k with
          | none=>rw [aj] at fo;simp only [i7] at fo;rw [fo] at dC;simp at dC
          | some q =>
           rw [aj] at fo
           obtain ⟨_,_,_,_,ab,_⟩:=fo
           exact ab _ (List.getElem_mem dC)
         refine On h an gH dr AN a5 (c:=ak.es[i]) (List.getElem?_eq_getElem dC) lI eU.1 eU.2 (by omega) rfl ?_
         have e:setCells ak.es[i] 0 (e9 s.E y).cells=(e9 s.E y).cells:=by
          simp [setCells,hlen,iq]
         rw [e]
        ·simp at av
       ·split at av
        ·rename_i c aS m9
         split at av
         ·rename_i h5
          simp only [Option.some.injEq] at av
          subst av
          exact On h an gH dr (j6 fun p aj=>ct p (by simp [aj])) a5 (z0 m9 fun p aj=>ct p (by simp [aj])) lI eU.1 eU.2 h5 rfl rfl
         ·simp at av
        ·simp at av
   ·simp at av
 ·simp at av
theorem XB {x:Operand}(h:cF g s aw a w)(an:o.op = .nilCheck x)(av:eN P s.E s.aT aR o cG=some bw)(ct:∀p∈bw.fr,p):Fin P g s a w o bw:=by
 simp only [eN,an] at av
 have R:=h.eval x
 split at av
 ·rename_i r k i off gH
  rw [gH] at R
  split at av
  ·rename_i ak ae bl
   split at av
   ·rename_i c aS m9
    simp only [Option.some.injEq] at av
    subst av
    have j6:s.ak r k=some ak:=sS bl fun p aj=>ct p (by simp [aj])
    have qB:=z0 m9 fun p aj=>ct p (by simp [aj])
    have fo:=h.obj r k ak j6
    rcases R.xz (il j6) with h0|⟨b,m,aj,hval⟩
    ·rw [h0] at fo;simp only [i7] at fo;rw [fo] at qB;simp at qB
    ·refine ik (v:=a.eval x) h ?_ rfl R
     simp [execOp,an,hval]
   ·simp at av
  ·simp at av
 ·rename_i sz es i off gH
  rw [gH] at R
  simp only [Option.some.injEq] at av
  subst av
  obtain ⟨dT,b0,aP,hval,h8⟩:=R.xA
  refine ik (v:=a.eval x) h ?_ rfl R
  simp [execOp,an,hval]
 ·rename_i f c gH
  rw [gH] at R
  simp only [Option.some.injEq] at av
  subst av
  obtain ⟨vs,hval,-⟩:=R.DF
  refine ik (v:=a.eval x) h ?_ rfl R
  simp [execOp,an,hval]
 ·simp at av
theorem YB {op:BinOp}{t:TypeId}{x y z:az}{ak:List Prop}(av:Kz op x y=some (z,ak))(ct:∀p∈ak,p)
 {ok:Nat→Prop} {a1:iW} {a9:iN} {kV kW:Value} (R:Rel w ok a1 a9 x kV) (a0:Rel w ok a1 a9 y kW) (p q:Operand) :
 ∃v,((do eqGuard op t p q kV kW;binOp op t kV kW):Sem Value).run P w = .ok v w∧Rel w ok a1 a9 z v:=by
 unfold Kz at av
 split at av
 ·rename_i k n d4 nh
  have hH:=R.oZ;have iO:=a0.oZ
  subst hH;subst iO
  have dD : ∀op,eqGuard op t p q (.int k n) (.int d4 nh)=pure ():=fun op=>eqGuard_at_int ..
  simp only [Sem.run_bind,dD,Sem.run_pure,Result.andThen_ok]
  split at av
  ·simp only [Option.some.injEq,Prod.mk.injEq] at av
   obtain ⟨rfl,rfl⟩:=av
   have h0:0≤nh:=ct _ (by simp)
   exact ⟨_,by simp [binOp,Op.shift,show ¬nh<0 by omega],.n _ _⟩
  ·simp only [Option.some.injEq,Prod.mk.injEq] at av
   obtain ⟨rfl,rfl⟩:=av
   have h0:0≤nh:=ct _ (by simp)
   exact ⟨_,by simp [binOp,Op.shift,show ¬nh<0 by omega],.n _ _⟩
  ·split at av
   ·simp at av
   ·rename_i a5
    have a5:k=d4:=by simpa using a5
    subst a5
    split at av<;>simp only [Option.some.injEq,Prod.mk.injEq,reduceCtorEq] at av
    all_goals (obtain ⟨rfl,rfl⟩:=av)
    case h_4|h_5 =>
     have h0:nh≠0:=ct _ (by simp)
     exact ⟨_,by simp [binOp,Op.intDiv,h0],.n _ _⟩
    all_goals first
     | (refine ⟨_,?_,.n _ _⟩;rw [binOp_add];rfl)
     | (refine ⟨_,?_,.n _ _⟩;rw [binOp_sub];rfl)
     | (refine ⟨_,?_,.n _ _⟩;rw [binOp_mul];rfl)
     | (refine ⟨_,?_,.n _ _⟩;rw [binOp_and];rfl)
     | (refine ⟨_,?_,.n _ _⟩;rw [binOp_or];rfl)
     | (refine ⟨_,?_,.n _ _⟩;rw [binOp_xor];rfl)
     | (refine ⟨_,?_,.b _⟩;simp [binOp,Op.intCmp];done)
 ·rename_i cA lS
  have hH:=R.xQ;have iO:=a0.xQ
  subst hH;subst iO
  have dD : ∀op,eqGuard op t p q (.string cA) (.string lS)=pure ():=fun op=>eqGuard_at_string ..
  simp only [Sem.run_bind,dD,Sem.run_pure,Result.andThen_ok]
  split at av<;>simp only [Option.some.injEq,Prod.mk.injEq,reduceCtorEq] at av
  all_goals (obtain ⟨rfl,rfl⟩:=av)
  ·have h0:cA.size+lS.size<9223372036854775808:=ct _ (by simp)
   refine ⟨_,?_,.s _⟩
   have h1 : ¬((cA.size+lS.size:Nat):Int)>IntKind.i64.max:=by rw [IntKind.max_i64];omega
   rw [IntKind.max_i64] at h1
   simp [binOp,Op.stringOp]
   omega
  ·exact ⟨_,by simp [binOp,Op.stringOp],.b _⟩
  ·exact ⟨_,by simp [binOp,Op.stringOp],.b _⟩
 ·simp at av
theorem uk (t:TypeId)(x y:Value):Op.equal t x y=Op.equalIn (9999+1) t x y:=rfl
theorem zA {t:TypeId}{a b:Bool}(d:Nat)(bC:P.underlying t=some .bool):(Op.equalIn (d+1) t (.bool a) (.bool b)).run P w = .ok (a == b) w:=by
 unfold Op.equalIn;simp [run_underlying bC]
theorem zT {t e:TypeId}(d:Nat)(bC:P.underlying t=some (.pointer e)):(Op.equalIn (d+1) t (.pointer none) (.pointer none)).run P w = .ok true w:=by
 unfold Op.equalIn;simp [run_underlying bC]
theorem zU {t e:TypeId}{a:Addr}(d:Nat)(bC:P.underlying t=some (.pointer e)):(Op.equalIn (d+1) t (.pointer (some a)) (.pointer none)).run P w = .ok false w:=by
 unfold Op.equalIn;simp [run_underlying bC]
theorem zV {t e:TypeId}{a:Addr}(d:Nat)(bC:P.underlying t=some (.pointer e)):(Op.equalIn (d+1) t (.pointer none) (.pointer (some a))).run P w = .ok false w:=by
 unfold Op.equalIn;simp [run_underlying bC]
theorem zW {t e:TypeId}(d:Nat)(bC:P.underlying t=some (.slice e)):(Op.equalIn (d+1) t (.slice none 0 0) (.slice none 0 0)).run P w = .ok true w:=by
 unfold Op.equalIn;simp [run_underlying bC]
theorem NV {t e:TypeId}{a:Addr}{c:Nat}(d:Nat)(bC:P.underlying t=some (.slice e))(n:Nat):(Op.equalIn (d+1) t (.slice (some a) n c) (.slice none 0 0)).run P w = .ok false w:=by
 unfold Op.equalIn;simp [run_underlying bC]
theorem xt {t:TypeId}{x y:az}{r:Bool}(av:rm P t x y=some r)
 {ok:Nat→Prop} {a1:iW} {a9:iN} {kV kW:Value} (R:Rel w ok a1 a9 x kV) (a0:Rel w ok a1 a9 y kW) (p q:Operand) :
 ((do eqGuard .eql t p q kV kW;binOp .eql t kV kW):Sem Value).run P w = .ok (.bool r) w ∧
 ((do eqGuard .neq t p q kV kW;binOp .neq t kV kW):Sem Value).run P w = .ok (.bool !r) w:=by
 have key : ∀b:Bool,(∀op,eqGuard op t p q kV kW=pure ())→binOp .eql t kV kW=(do pure (.bool (← Op.equal t kV kW)))→binOp .neq t kV kW=(do pure (.bool (!(← Op.equal t kV kW)))) →
  (Op.equal t kV kW).run P w = .ok b w→((do eqGuard .eql t p q kV kW;binOp .eql t kV kW):Sem Value).run P w = .ok (.bool b) w ∧
  ((do eqGuard .neq t p q kV kW;binOp .neq t kV kW):Sem Value).run P w = .ok (.bool !b) w:=by
  intro b dD h1 h2 ab
  constructor
  ·rw [dD,h1];simp [ab]
  ·rw [dD,h2];simp [ab]
 unfold rm at av
 split at av
 ·rename_i cA lS bC
  simp only [Option.some.injEq] at av;subst av
  have hH:=R.sZ;have iO:=a0.sZ
  subst hH;subst iO
  exact key _ (fun op=>eqGuard_at_bool ..) rfl rfl (by rw [uk];first|exact zA _ bC|exact zT _ bC|exact zU _ bC|exact zV _ bC|exact zW _ bC)
 ·rename_i e bC
  simp only [Option.some.injEq] at av;subst av
  have hH:=R.us;have iO:=a0.us
  subst hH;subst iO
  exact key _ (fun op=>eqGuard_at_pointer ..) rfl rfl (by rw [uk];first|exact zA _ bC|exact zT _ bC|exact zU _ bC|exact zV _ bC|exact zW _ bC)
 ·rename_i e sz es i off bC
  simp only [Option.some.injEq] at av;subst av
  obtain ⟨dT,b0,-,hH,-⟩:=R.xA
  have iO:=a0.us
  subst hH;subst iO
  exact key _ (fun op=>eqGuard_at_pointer ..) rfl rfl (by rw [uk];first|exact zA _ bC|exact zT _ bC|exact zU _ bC|exact zV _ bC|exact zW _ bC)
 ·rename_i e sz es i off bC
  simp only [Option.some.injEq] at av;subst av
  obtain ⟨dT,b0,-,iO,-⟩:=a0.xA
  have hH:=R.us
  subst hH;subst iO
  exact key _ (fun op=>eqGuard_at_pointer ..) rfl rfl (by rw [uk];first|exact zA _ bC|exact zT _ bC|exact zU _ bC|exact zV _ bC|exact zW _ bC)
 ·rename_i e bC
  simp only [Option.some.injEq] at av;subst av
  have hH:=R.pb;have iO:=a0.pb
  subst hH;subst iO
  exact key _ (fun op=>eqGuard_at_slice ..) rfl rfl (by rw [uk];first|exact zA _ bC|exact zT _ bC|exact zU _ bC|exact zV _ bC|exact zW _ bC)
 ·rename_i e bC
  simp only [Option.some.injEq] at av;subst av
  obtain ⟨vh,c,hH⟩:=R.Dw
  have iO:=a0.pb
  subst hH;subst iO
  exact key _ (fun op=>eqGuard_at_slice ..) rfl rfl (by rw [uk];exact NV _ bC 0)
 ·simp at av
theorem PW {t e:TypeId}(bC:P.underlying t=some (.slice e)){sz:Nat}{es:List (List az)}(dk:es≠[])
 {ok:Nat→Prop} {a1:iW} {a9:iN} {kV kW:Value} (R:Rel w ok a1 a9 (.isl sz es) kV) (a0:Rel w ok a1 a9 .ei kW) (p q:Operand) :
 ((do eqGuard .eql t p q kV kW;binOp .eql t kV kW):Sem Value).run P w = .ok (.bool false) w ∧
 ((do eqGuard .neq t p q kV kW;binOp .neq t kV kW):Sem Value).run P w = .ok (.bool true) w:=by
 rcases R.rQ with ⟨h0,-⟩|⟨dT,off,c,-,hH,-⟩
 ·exact absurd h0 dk
 ·have iO:=a0.pb
  subst hH;subst iO
  have ab:(Op.equal t (.slice (some ⟨dT,off,none⟩) es.length c) (.slice none 0 0)).run P w = .ok false w:=by rw [uk];exact NV _ bC _
  have dD : ∀op,eqGuard op t p q (.slice (some ⟨dT,off,none⟩) es.length c) (.slice none 0 0)=pure ():=fun op=>eqGuard_at_slice ..
  have h1:binOp .eql t (.slice (some ⟨dT,off,none⟩) es.length c) (.slice none 0 0)=(do pure (.bool (← Op.equal t (.slice (some ⟨dT,off,none⟩) es.length c) (.slice none 0 0)))):=rfl
  have h2:binOp .neq t (.slice (some ⟨dT,off,none⟩) es.length c) (.slice none 0 0)=(do pure (.bool (!(← Op.equal t (.slice (some ⟨dT,off,none⟩) es.length c) (.slice none 0 0))))):=rfl
  constructor
  ·rw [dD,h1];simp [ab]
  ·rw [dD,h2];simp [ab]
theorem Zl {op:BinOp}{t c6:TypeId}{x y:Operand}(h:cF g s aw a w)(an:o.op = .binOp op t x y c6)(av:eN P s.E s.aT aR o cG=some bw)(ct:∀p∈bw.fr,p):Fin P g s a w o bw:=by
 simp only [eN,an] at av
 have R:=h.eval x
 have a0:=h.eval y
 split at av
 ·rename_i v ak aP
  simp only [Option.some.injEq] at av
  subst av
  obtain ⟨u,h1,h2⟩:=YB (P:=P) (t:=t) aP ct R a0 x y
  refine ik (v:=u) h ?_ rfl h2
  simp only [execOp,an]
  rw [Sem.run_bind,h1];rfl
 ·split at av
  ·cases he:rm P t (e9 s.E x) (e9 s.E y) with
   | none=>simp [he] at av
   | some r =>
    simp [he] at av;subst av
    refine ik (v:= .bool r) h ?_ rfl (.b r)
    simp only [execOp,an]
    rw [Sem.run_bind,(xt (w:=w) he R a0 x y).1];rfl
  ·cases he:rm P t (e9 s.E x) (e9 s.E y) with
   | none=>simp [he] at av
   | some r =>
    simp [he] at av;subst av
    refine ik (v:= .bool !r) h ?_ rfl (.b _)
    simp only [execOp,an]
    rw [Sem.run_bind,(xt (w:=w) he R a0 x y).2];rfl
  ·simp at av
theorem aae {op:UnOp}{t:TypeId}{x:Operand}(h:cF g s aw a w)(an:o.op = .unOp op t x)(av:eN P s.E s.aT aR o cG=some bw):Fin P g s a w o bw:=by
 simp only [eN,an] at av
 have R:=h.eval x
 cases he:KW op (e9 s.E x) with
 | none=>simp [he] at av
 | some v =>
  simp [he] at av;subst av
  unfold KW at he
  split at he
  ·rename_i k n gH
   rw [gH] at R
   simp only [Option.some.injEq] at he;subst he
   refine ik (v:= .int k (k.wrap (0-n))) h ?_ rfl (.n _ _)
   simp [execOp,an,R.oZ,Op.unary,Op.intArith]
  ·rename_i b gH
   rw [gH] at R
   simp only [Option.some.injEq] at he;subst he
   refine ik (v:= .bool !b) h ?_ rfl (.b _)
   simp [execOp,an,R.sZ,Op.unary]
  ·simp at he
theorem X0 {t c6:TypeId}{x:Operand}(h:cF g s aw a w)(an:o.op = .convert t c6 x)(av:eN P s.E s.aT aR o cG=some bw):Fin P g s a w o bw:=by
 simp only [eN,an] at av
 have R:=h.eval x
 split at av
 ·rename_i k d4 n bC gH
  rw [gH] at R
  split at av
  case isFalse=>simp at av
  rename_i bV
  simp only [Option.some.injEq] at av
  subst av
  refine ik (v:= .int k (k.wrap n)) h ?_ rfl (.n _ _)
  cases Q7:P.underlying t with
  | none=>simp [Q7] at bV
  | some d=>simp [execOp,an,R.oZ,convert,run_underlying bC,run_underlying Q7,Conv.intToInt]
 ·rename_i r k bQ len bC gH
  rw [gH] at R
  split at av
  ·rename_i ak DW bl
   split at av
   ·rename_i ng Be
    split at av
    ·rename_i ba
     simp only [Option.some.injEq] at av
     subst av
     obtain ⟨e,bV,he⟩ : ∃e,P.underlying t=some (.slice e)∧P.underlying e=some (.int .u8):=by
      unfold ph at DW
      split at DW
      ·rename_i e bV;exact ⟨e,bV,DW⟩
      ·simp at DW
     have dK:s.ak r k=some ak:=bl
     have fo:=h.obj r k ak dK
     have hzero : ∀(kX:Option Addr) (c:Nat),len=0→(convert t c6 (.slice kX 0 c)).run P w = .ok (.string (xY ng)) w:=by
      intro kX c h0
      subst h0
      have:ng=[]:=by simpa [bytesOf] using Be
      subst this
      cases kX with
      | none=>rw [run_convert_bytes_string w t c6 e none 0 c bV he bC];simp [Conv.bytesToString,xY]
      | some kX =>
       rw [run_convert_bytes_string w t c6 e (some kX) 0 c bV he bC,run_bytesToString w kX 0 c [] (by
        have:=run_loadCells_list (P:=P) w kX [] (fun j v aC=>by simp at aC)
        simpa using this)]
       rfl
     rcases R.Aa (il dK) with ⟨aj,rfl,rfl,hval⟩|⟨b,m,A,c,aj,hval,qG,se,hm⟩
     ·refine ik (v:= .string (xY ng)) h ?_ rfl (.s _)
      simp [execOp,an,hval,hzero none 0 rfl]
     ·refine ik (v:= .string (xY ng)) h ?_ rfl (.s _)
      by_cases h0:len=0
      ·subst h0;simp [execOp,an,hval,hzero A c rfl]
      ·rcases hm with hm|⟨hA,hm⟩
       ·omega
       ·subst hA
        rw [aj] at fo
        have h8:=fo.rd
        have ya : ∀(es:List (List az)) (ng:List Int),bytesOf es=some ng→es.length=ng.length∧ ∀(i:Nat) n,ng[i]? = some n→es[i]? = some [.n .u8 n]:=by
         intro es
         induction es with
         | nil=>intro ng h;simp [bytesOf] at h;subst h;exact ⟨rfl,fun i n ao=>by simp at ao⟩
         | cons x es ih =>
          intro ng h
          unfold bytesOf at h
          split at h
          ·simp at *
          ·rename_i lh ae7 yb
           simp only [List.cons.injEq] at yb
           obtain ⟨rfl,rfl⟩:=yb
           rw [Option.map_eq_some_iff] at h
           obtain ⟨dX,D7,rfl⟩:=h
           obtain ⟨e1,e2⟩:=ih dX D7
           refine ⟨by simp [e1],fun i n ao=> ?_⟩
           cases i with
           | zero=>simp at ao;subst ao;rfl
           | succ i=>simpa using e2 i n (by simpa using ao)
          ·simp at h
        obtain ⟨e1,e2⟩:=ya _ _ Be
        have hlen:ng.length=len:=by rw [← e1];simp;omega
        have abe:(loadCells ⟨b,bQ*ak.sz,none⟩ len).run P w = .ok (ng.map (Value.int .u8)).toArray w:=by
         have:=run_loadCells_list (P:=P) w ⟨b,bQ*ak.sz,none⟩ (ng.map (Value.int .u8)) (fun j v aC=>by
          rw [List.getElem?_map,Option.map_eq_some_iff] at aC
          obtain ⟨n,a2,rfl⟩:=aC
          have lN:=e2 j n a2
          have uU:j<len:=by rw [← hlen];exact (List.getElem?_eq_some_iff.1 a2).1
          rw [List.getElem?_take_of_lt uU,List.getElem?_drop] at lN
          obtain ⟨v,v1,v2,v3⟩:=h8.2 ((bQ+j)*ak.sz+0) (.n .u8 n) (by rw [zR h8.1 lN (by omega)];rfl)
          have bc:=v3.oZ
          subst bc
          rw [q9,← v1,ba.2]
          congr 2
          omega)
         rw [List.length_map,hlen] at this
         exact this
        have h2:=run_bytesToString w ⟨b,bQ*ak.sz,none⟩ len c ng abe
        rw [← run_convert_bytes_string w t c6 e _ len c bV he bC] at h2
        simp [execOp,an,hval,h2,xY]
    ·simp at av
   ·simp at av
  ·simp at av
 ·simp at av
theorem XC {f:Fn}{BX cf:Array Operand}(h:cF g s aw a w)(an:o.op = .makeFunc f BX cf)(av:eN P s.E s.aT aR o cG=some bw):Fin P g s a w o bw:=by
 cases f with
 | func n =>
  simp only [eN,an] at av
  split at av
  ·rename_i aci
   simp only [Option.some.injEq] at av;subst av
   refine ik (v:= .func (.func n) #[] (cf.map a.eval)) h ?_ rfl ?_
   ·have:BX = #[]:=by simpa using aci
    subst this
    simp [execOp,an,Instr.makeFunc]
   ·have:=Rel.fn (f:=n) (c:=cf.toList.map (e9 s.E)) (w:=w) (ok:=s.ok g aw w) (a1:=s.a1) (a9:=s.a9 aw) (cf.toList.map a.eval) (by simp) (by
     intro j x v R bc
     rw [List.getElem?_map,Option.map_eq_some_iff] at R bc
     obtain ⟨p,aj,rfl⟩:=R
     obtain ⟨q,a8,rfl⟩:=bc
     rw [aj] at a8;simp at a8;subst a8
     exact h.eval p)
    have e:(cf.toList.map a.eval).toArray=cf.map a.eval:=by apply Array.ext';rw [Array.toList_map]
    rw [e] at this
    exact this
  ·simp at av
 | _=>simp [eN,an] at av
theorem X1 {i:Nat}{x:Operand}(h:cF g s aw a w)(an:o.op = .extract x i)(av:eN P s.E s.aT aR o cG=some bw):Fin P g s a w o bw:=by
 simp only [eN,an] at av
 have R:=h.eval x
 split at av
 ·rename_i vs gH
  rw [gH] at R
  cases ao:vs[i]? with
  | none=>simp [ao] at av
  | some v =>
   simp [ao] at av;subst av
   obtain ⟨a1,hval,aV,aq⟩:=R.xy
   have dC:i<a1.length:=by
    rcases Nat.lt_or_ge i vs.length with cx|cx
    ·omega
    ·rw [List.getElem?_eq_none cx] at ao;simp at ao
   have hu:a1[i]? = some a1[i]:=List.getElem?_eq_getElem dC
   refine ik (v:=a1[i]) h ?_ rfl (aq i v _ ao hu)
   simp [execOp,an,hval,Instr.extract,hu]
 ·simp at av
end
end Go.VL
namespace Go.VL
set_option linter.unusedVariables false
set_option linter.unusedSimpArgs false
open Go
section
variable {P:Program} {g:G} {s:S} {aw:fj} {a:Act} {w:World} {o:Oper} {cG:fu} {aR:Nat} {bw:hT}
theorem ra {t e:TypeId}(h:ph P t=some e):P.underlying t=some (.slice e):=by
 unfold ph at h
 split at h
 ·rename_i eJ he;simp at h;subst h;exact he
 ·simp at h
theorem Jf {t:TypeId}{kC:Array Field}(h:fieldsOf P t=some kC):P.underlying t=some (.struct kC):=by
 unfold fieldsOf at h
 split at h
 ·rename_i eJ he;simp at h;subst h;exact he
 ·simp at h
theorem Ns : ∀(z c:List az),(qq z c).length=z.length
 | x::z,y::c=>by simp [qq,Ns z c]
 | [],_=>by simp [qq]
 | _::_,[]=>by simp [qq]
theorem Xi (z:List az)(cG:fu):(rX z cG).length=z.length:=by
 unfold rX
 split
 ·exact Ns z _
 ·rfl
theorem X2 (x y:az){w:World}{ok:Nat→Prop}{a1:iW}{a9:iN}{v:Value}(h:Rel w ok a1 a9 x v):Rel w ok a1 a9 (Ak x y) v:=by
 unfold Ak
 split
 ·rw [h.pb];exact .jV _ _ _ (fun _=>rfl)
 ·rw [h.us];exact .o1 _
 ·rw [h.pb];exact .mE (.jV _ _ _ (fun _=>rfl))
 ·exact h
theorem Oo : ∀(z c:List az) (j:Nat) q,(qq z c)[j]? = some q→ ∃x,z[j]? = some x∧(q=x∨ ∃y,q=Ak x y)
 | x::z,y::c,0,q,h=>by simp [qq] at h;exact ⟨x,rfl,.inr ⟨y,h.symm⟩⟩
 | x::z,y::c,j+1,q,h=>by
  simp only [qq,List.getElem?_cons_succ] at h
  simpa using Oo z c j q h
 | [],c,j,q,h=>by simp [qq] at h
 | x::z,[],j,q,h=>⟨q,by simpa [qq] using h,.inl rfl⟩
theorem Zm (z:List az)(cG:fu)(j:Nat)(q:az)(h:(rX z cG)[j]? = some q): ∃x,z[j]? = some x∧(q=x∨ ∃y,q=Ak x y):=by
 unfold rX at h
 split at h
 ·exact Oo z _ j q h
 ·exact ⟨q,h,.inl rfl⟩
theorem Xj {t:TypeId}{x y:Operand}(h:cF g s aw a w)(eQ:s.aT aR=none)(an:o.op = .makeSlice t x y)(av:eN P s.E s.aT aR o cG=some bw)(ct:∀p∈bw.fr,p):Fin P g s a w o bw:=by
 simp only [eN,an] at av
 have R:=h.eval x
 have a0:=h.eval y
 split at av
 ·rename_i e mS l li c he abD abE
  rw [abD] at R;rw [abE] at a0
  split at av
  ·rename_i i z ao cm
   obtain ⟨eA,ez,kz,kU,pz,PX⟩:=zS cm
   rw [ao] at kz;simp at kz;subst kz
   simp only [Option.ite_none_right_eq_some,Option.some.injEq] at av
   obtain ⟨eU,av⟩:=av
   subst av
   have m9:=Xi z cG
   have jT : ∀(j:Nat) q,(rX z cG)[j]? = some q→ ∃v,ez.cells[j]? = some v∧VL.j4 v=true∧ ∀w ok a1 a9,Rel w ok a1 a9 q v:=by
    intro j q a8
    obtain ⟨x,dy,na⟩:=Zm z cG j q a8
    obtain ⟨v,v1,v2,v3⟩:=PX j x dy
    refine ⟨v,v1,v2,fun w ok a1 a9=> ?_⟩
    rcases na with rfl|⟨y,rfl⟩
    ·exact v3 w ok a1 a9
    ·exact X2 x y (v3 w ok a1 a9)
   clear PX
   have h0:0≤l:=ct _ (by simp)
   have h1:l≤c:=ct _ (by simp)
   have h2:(i.bytes:Int)*c≤281474976710656:=ct _ (by simp)
   have ab:c<9223372036854775808:=ct _ (by simp)
   have nb:z.length=ez.cells.size:=by rw [pz];simp
   have iJ:=run_make (P:=P) w t e i ez (ra he) ao kU mS li l c h0 h1 h2 (by omega)
   refine Dx (v:= .slice (some ⟨w.heap.size,0,none⟩) l.toNat c.toNat) (ak:=⟨z.length,List.replicate l.toNat (rX z cG),.live⟩) (c:=madeCells ez.cells (c.toNat*i.size)) (eC:=e) h eQ rfl ?_ rfl ?_ ?_ ?_
   ·simp [execOp,an,R.oZ,a0.oZ,iJ]
   ·intro eJ lL;rw [List.eq_of_mem_replicate lL];exact m9
   ·intro j q a8
    have aV : ∀eJ∈List.replicate l.toNat (rX z cG),eJ.length=z.length:=fun eJ lL=>by rw [List.eq_of_mem_replicate lL];exact m9
    rcases Nat.eq_zero_or_pos z.length with qH|D8
    ·have:rX z cG=[]:=List.length_eq_zero_iff.1 (by omega)
     rw [this] at a8
     simp at a8
    ·rw [oU D8 _ aV,List.getElem?_replicate] at a8
     by_cases aC:j / z.length<l.toNat
     ·rw [if_pos aC] at a8
      simp only [Option.bind_some] at a8
      obtain ⟨v,e1,e2,bO⟩:=jT _ _ a8
      refine ⟨v,?_,e2,bO _ _ _ _⟩
      have dC:j<c.toNat*i.size:=by
       rw [← eU]
       have:j<l.toNat*z.length:=(Nat.div_lt_iff_lt_mul D8).1 aC
       exact Nat.lt_of_lt_of_le this (Nat.mul_le_mul_right _ (by omega))
      simp only [madeCells]
      rw [Array.getElem?_map,Array.getElem?_range]
      simp only [dC,if_true,Option.map_some]
      rw [nb] at e1
      have hm:j % ez.cells.size<ez.cells.size:=Nat.mod_lt _ (by omega)
      rw [Array.getElem?_eq_getElem hm] at e1
      rw [getElem!_pos ez.cells _ hm];exact e1
     ·rw [if_neg aC] at a8;simp at a8
   ·intro bJ kL mJ l3 hu ca
    refine Rel.bk hu ca (by omega) (by omega) ⟨?_,.inr (by simp)⟩
    rw [size_madeCells]
    simp only [Nat.zero_add,eU]
  ·simp at av
 ·simp at av
theorem Xk {t:TypeId}{x:Operand}{f:Nat}(h:cF g s aw a w)(an:o.op = .fieldAddr t x f)(av:eN P s.E s.aT aR o cG=some bw)(ct:∀p∈bw.fr,p):Fin P g s a w o bw:=by
 simp only [eN,an] at av
 have R:=h.eval x
 split at av
 ·rename_i kC Bf
  split at av
  ·rename_i fd te
   split at av
   ·simp at av
   ·rename_i Q8
    have ao:(P.info? fd.type).isSome=true:=by
     cases ao:P.info? fd.type with
     | none=>simp [Program.cellsOf,ao] at Q8
     | some i=>rfl
    have iJ : ∀A:Addr,A.spot=none→(Instr.fieldAt t (.pointer (some A)) f).run P w = .ok (.pointer (some ⟨A.block,A.off+fd.offset,none⟩)) w:=by
     intro A hA
     have e:A.add fd.offset=⟨A.block,A.off+fd.offset,none⟩:=by
      obtain ⟨b,o,sp⟩:=A
      simp only at hA;subst hA
      exact q9 b o _
     simp [Instr.fieldAt,run_underlying (Jf Bf),te,Instr.sureAddr,fieldPlace,ue ao,Q8,e]
    split at av
    ·rename_i r k i off gH
     rw [gH] at R
     split at av
     ·rename_i ak ae bl
      split at av
      ·rename_i c aS m9
       simp only [Option.some.injEq] at av;subst av
       have j6:s.ak r k=some ak:=sS bl fun p aj=>ct p (by simp [aj])
       have qB:=z0 m9 fun p aj=>ct p (by simp [aj])
       have fo:=h.obj r k ak j6
       rcases R.xz (il j6) with h0|⟨b,m,aj,hval⟩
       ·rw [h0] at fo;simp only [i7] at fo;rw [fo] at qB;simp at qB
       ·refine ik (v:= .pointer (some ⟨b,i*ak.sz+(off+fd.offset),none⟩)) h ?_ rfl ?_
        ·simp [execOp,an,hval,iJ,Nat.add_assoc]
        ·exact R.YA ((il j6).trans (by rw [aj])) _
      ·simp at av
     ·simp at av
    ·rename_i sz es i off gH
     rw [gH] at R
     simp only [Option.some.injEq] at av;subst av
     obtain ⟨dT,b0,aP,hval,h8⟩:=R.xA
     refine ik (v:= .pointer (some ⟨dT,b0+(i*sz+(off+fd.offset)),none⟩)) h ?_ rfl (h8.d7 aP)
     simp [execOp,an,hval,iJ,Nat.add_assoc]
    ·simp at av
  ·simp at av
 ·simp at av
theorem Xl {t:TypeId}{x y:Operand}(h:cF g s aw a w)(an:o.op = .indexAddr t x y)(av:eN P s.E s.aT aR o cG=some bw)(ct:∀p∈bw.fr,p):Fin P g s a w o bw:=by
 simp only [eN,an] at av
 have R:=h.eval x
 have a0:=h.eval y
 split at av
 ·rename_i e k j he gH
  rw [gH] at a0
  have hu:=ra he
  have iJ : ∀(b o len cap:Nat),0≤j→j<len→(P.info? e).isSome=true →
   (Instr.indexAt t (.slice (some ⟨b,o,none⟩) len cap) (.int k j)).run P w = .ok (.pointer (some ⟨b,o+j.toNat*P.cellsOf e,none⟩)) w:=by
   intro b o len cap h0 h1 ao
   have eJ:=q9 b o (j.toNat*P.cellsOf e)
   simp [Instr.indexAt,asIntOf,run_underlying hu,h0,h1,ue ao,eJ]
  have uI : ∀sz,sz=P.cellsOf e→sz≠0→(P.info? e).isSome=true:=by
   intro sz bV cm
   cases ao:P.info? e with
   | none=>simp [Program.cellsOf,ao] at bV;exact absurd bV cm
   | some i=>rfl
  split at av
  ·rename_i sz es AO
   rw [AO] at R
   simp only [Option.ite_none_right_eq_some,Option.some.injEq] at av
   obtain ⟨⟨bV,cm⟩,av⟩:=av
   subst av
   have h0:0≤j:=ct _ (by simp)
   have h1:j<es.length:=ct _ (by simp)
   rcases R.rQ with ⟨Bg,-⟩|⟨dT,off,c,aP,hval,ba,h8⟩
   ·subst Bg;simp at h1;omega
   ·refine ik (v:= .pointer (some ⟨dT,off+(j.toNat*sz+0),none⟩)) h ?_ rfl (h8.d7 aP)
    simp [execOp,an,hval,a0.oZ,iJ _ _ _ _ h0 h1 (uI sz bV cm),bV]
  ·rename_i r q bQ len AO
   rw [AO] at R
   split at av
   ·rename_i row dr
    split at av
    ·rename_i ak ae bl
     simp only [Option.ite_none_right_eq_some,Option.some.injEq] at av
     obtain ⟨⟨bV,cm⟩,av⟩:=av
     subst av
     have j6:s.ak r q=some ak:=by
      unfold S.ak;rw [dr];exact sS bl fun p aj=>ct p (by simp [aj])
     have h0:0≤j:=ct _ (by simp)
     have h1:j<len:=ct _ (by simp)
     rcases R.Aa (il j6) with ⟨-,-,h2,-⟩|⟨b,m,A,c,aj,hval,aV,-,hm⟩
     ·subst h2;simp at h1;omega
     ·rcases hm with hm|⟨hA,hm⟩
      ·omega
      ·subst hA
       have jd:=Dk j6
       refine ik (v:= .pointer (some ⟨b,(bQ+j.toNat)*ak.sz+0,none⟩)) h ?_ rfl (.ref jd ((il j6).trans (by rw [aj])))
       simp [execOp,an,hval,a0.oZ,iJ _ _ _ _ h0 h1 (uI _ bV cm),bV,Nat.add_mul]
    ·simp at av
   ·simp at av
  ·simp at av
 ·simp at av
theorem Zn {t:TypeId}{x y:Operand}(h:cF g s aw a w)(an:o.op = .index t x y)(av:eN P s.E s.aT aR o cG=some bw)(ct:∀p∈bw.fr,p):Fin P g s a w o bw:=by
 simp only [eN,an] at av
 have R:=h.eval x
 have a0:=h.eval y
 split at av
 ·rename_i b k j hu AO abF
  rw [AO] at R;rw [abF] at a0
  simp only [Option.some.injEq] at av;subst av
  have h0:0≤j:=ct _ (by simp)
  have h1:j<b.size:=ct _ (by simp)
  have h2:j.toNat<b.size:=by omega
  refine ik (v:= .int .u8 (b[j.toNat]).toNat) h ?_ rfl ?_
  ·simp [execOp,an,R.xQ,a0.oZ,Instr.index,asIntOf,run_underlying hu,h0,h2]
  ·have e:b.data.toList.getD j.toNat 0=b[j.toNat]:=by
    rw [List.getD_eq_getElem?_getD,Array.getElem?_toList,Array.getElem?_eq_getElem (by simpa using h2)];rfl
   show Rel _ _ _ _ (.n .u8 _) _
   rw [e];exact .n _ _
 ·simp at av
theorem aaJ {c:Call}(h:cF g s aw a w)(an:o.op = .call c)(ba:c.callee = .builtin .len)(av:eN P s.E s.aT aR o cG=some bw)(ct:∀p∈bw.fr,p):Fin P g s a w o bw:=by
 obtain ⟨D9,args,mL⟩:=c
 simp only at ba;subst ba
 simp only [eN,an] at av
 have key : ∀(x:Operand) (n:Nat) (t:TypeId) (v:Value),args.toList=[x]→mL = #[t]→bw.val = .n .i64 n→bw.fE=[]→a.eval x=v →
  (Builtin.len_ #[t] o.type #[v]).run P w = .ok (goInt n) w→Fin P g s a w o bw:=by
  intro x n t v hargs lO aq hi bc iJ
  subst lO
  refine ik (v:=goInt n) h ?_ hi (by rw [aq];exact .n _ _)
  have bA:args = #[x]:=by apply Array.ext';simpa using hargs
  subst bA
  simp [execOp,an,resolve,invoke,builtin,bc,iJ]
 have hargs : ∀y,args.toList.map (e9 s.E)=[y]→ ∃x,args.toList=[x]∧e9 s.E x=y:=by
  intro y a0
  match aV:args.toList,a0 with
  | [x],a0=>simp at a0;exact ⟨x,rfl,a0⟩
 have n0:decide (mL.size=1)=true→ ∃t,mL = #[t]∧mL.getD 0 0=t:=by
  intro eU
  have eU:mL.size=1:=by simpa using eU
  obtain ⟨l⟩:=mL
  match l,eU with
  | [t],_=>exact ⟨t,rfl,rfl⟩
 split at av
 ·rename_i sz es e hm hu eU
  obtain ⟨x,R,gH⟩:=hargs _ hm
  obtain ⟨t,ca,ny⟩:=n0 eU
  rw [ny] at hu
  simp only [Option.some.injEq] at av
  have aq:=h.eval x
  rw [gH] at aq
  rcases aq.rQ with ⟨Bg,A,c,hval,hA⟩|⟨dT,off,c,aP,hval,-⟩
  ·exact key x es.length t _ R ca (by rw [← av]) (by rw [← av]) hval (by subst Bg;simp [Builtin.len_,run_underlying hu])
  ·exact key x es.length t _ R ca (by rw [← av]) (by rw [← av]) hval (by simp [Builtin.len_,run_underlying hu])
 ·rename_i r k bQ len e hm hu eU
  obtain ⟨x,R,gH⟩:=hargs _ hm
  obtain ⟨t,ca,ny⟩:=n0 eU
  rw [ny] at hu
  split at av
  ·rename_i row dr
   split at av
   ·rename_i ak ae bl
    simp only [Option.some.injEq] at av
    have aq:=h.eval x
    rw [gH] at aq
    have j6:s.ak r k=some ak:=by
     unfold S.ak;rw [dr];exact sS bl fun p aj=>ct p (by rw [← av];exact aj)
    rcases aq.Aa (il j6) with ⟨-,-,h2,hval⟩|⟨b,m,A,c,aj,hval,-⟩
    ·exact key x len t _ R ca (by rw [← av]) (by rw [← av]) hval (by subst h2;simp [Builtin.len_,run_underlying hu])
    ·exact key x len t _ R ca (by rw [← av]) (by rw [← av]) hval (by simp [Builtin.len_,run_underlying hu])
   ·simp at av
  ·simp at av
 ·rename_i e hm hu eU
  obtain ⟨x,R,gH⟩:=hargs _ hm
  obtain ⟨t,ca,ny⟩:=n0 eU
  rw [ny] at hu
  simp only [Option.some.injEq] at av
  have aq:=h.eval x
  rw [gH] at aq
  exact key x 0 t _ R ca (by rw [← av];rfl) (by rw [← av]) aq.pb (by simp [Builtin.len_,run_underlying hu])
 ·rename_i b hm hu eU
  obtain ⟨x,R,gH⟩:=hargs _ hm
  obtain ⟨t,ca,ny⟩:=n0 eU
  rw [ny] at hu
  simp only [Option.some.injEq] at av
  have aq:=h.eval x
  rw [gH] at aq
  exact key x b.size t _ R ca (by rw [← av]) (by rw [← av]) aq.xQ (by simp [Builtin.len_,run_underlying hu])
 ·simp at av
theorem CY {ok:Nat→Prop}{a1:iW}{a9:iN}{dT off sz:Nat}{es:List (List az)}(h:n9 w ok a1 a9 dT off sz es)(l n:Nat)(aV:l≤es.length):
 n9 w ok a1 a9 dT (off+l*sz) sz ((es.drop l).take n):=by
 have pY : ∀e∈(es.drop l).take n,e.length=sz:=fun e he=>h.1 e (List.mem_of_mem_drop (List.mem_of_mem_take he))
 refine ⟨pY,fun j x R=> ?_⟩
 rcases Nat.eq_zero_or_pos sz with h0|bV
 ·have e1 : ∀(l:List (List az)),(∀e∈l,e.length=0)→l.flatten=[]:=by
   intro l aV;induction l with
   | nil=>rfl
   | cons a l ih=>rw [List.flatten_cons,ih fun e he=>aV e (by simp [he])];have:=aV a (by simp);simp_all
  rw [e1 _ (fun e he=>(pY e he).trans h0)] at R;simp at R
 ·rw [oU bV _ pY] at R
  have aC:j / sz<n:=by
   rcases Nat.lt_or_ge (j / sz) n with cx|cx
   ·exact cx
   ·rw [List.getElem?_eq_none (by simp;omega)] at R;simp at R
  rw [List.getElem?_take,if_pos aC,List.getElem?_drop] at R
  obtain ⟨v,e1,e2,bO⟩:=h.2 (l*sz+j) x (by
   rw [oU bV es h.1]
   have gv:(l*sz+j) / sz=l+j / sz:=by rw [Nat.mul_comm,Nat.mul_add_div bV]
   have hr:(l*sz+j) % sz=j % sz:=by rw [Nat.mul_comm,Nat.mul_add_mod]
   rw [gv,hr];exact R)
  exact ⟨v,by rw [Nat.add_assoc];exact e1,e2,bO⟩
theorem CU {t e:TypeId}(hu:P.underlying t=some (.slice e))(ao:(P.info? e).isSome=true)(A:Option Addr)(len cap:Nat)(bQ kz:Option Value)(l h:Nat)
 (Q9:(bQ=none∧l=0)∨ ∃k,bQ=some (.int k l)) (Ra:(kz=none∧h=len)∨ ∃k,kz=some (.int k h)) (h1:l≤h) (h2:h≤len) (ab:len≤cap) :
 (Instr.sliceAt t (.slice A len cap) bQ kz none).run P w = .ok (.slice (if cap=l then A else A.map (·.add (l*P.cellsOf e))) (h-l) (cap-l)) w:=by
 have aP : ∀(k:IntKind) (n y:Nat) (code:BoundsCode),n≤y→(Instr.sliceBound (.int k n) y code).run P w = .ok n w:=by
  intro k n y code a2
  simp [Instr.sliceBound,asIntOf,a2]
 rcases Q9 with ⟨rfl,rfl⟩|⟨mS,rfl⟩<;>rcases Ra with ⟨rfl,rfl⟩|⟨li,rfl⟩ <;>
  simp [Instr.sliceAt,Instr.slice,run_underlying hu,Instr.sliceBounds,ue ao,aP,h1,h2,ab,Nat.le_trans h2 ab]
theorem xH {x:Option Operand}(h:cF g s aw a w){d n:Nat}{ak:List Prop}(aP:ar (x.map (e9 s.E)) d=some (n,ak))(ct:∀p∈ak,p):
 (x.map a.eval=none∧n=d)∨ ∃k,x.map a.eval=some (.int k n):=by
 cases x with
 | none=>simp [ar] at aP;exact .inl ⟨rfl,aP.1.symm⟩
 | some x =>
  have R:=h.eval x
  simp only [Option.map_some] at aP ⊢
  unfold ar at aP
  split at aP
  ·rename_i he;simp at he
  ·rename_i _ k y he
   simp only [Option.some.injEq] at he
   rw [he] at R
   simp only [Option.some.injEq,Prod.mk.injEq] at aP
   obtain ⟨rfl,rfl⟩:=aP
   have h0:0≤y:=ct _ (by simp)
   refine .inr ⟨k,?_⟩
   rw [R.oZ,Int.toNat_of_nonneg h0]
  ·simp at aP
theorem Zo {t:TypeId}{x:Operand}{bQ ao:Option Operand}(h:cF g s aw a w)(an:o.op = .slice t x bQ ao none)(av:eN P s.E s.aT aR o cG=some bw)(ct:∀p∈bw.fr,p):Fin P g s a w o bw:=by
 simp only [eN,an] at av
 have R:=h.eval x
 have uI : ∀sz e,sz=P.cellsOf e→sz≠0→(P.info? e).isSome=true:=by
  intro sz e bV cm
  cases ao:P.info? e with
  | none=>simp [Program.cellsOf,ao] at bV;exact absurd bV cm
  | some i=>rfl
 split at av
 ·rename_i e sz es hu gH
  rw [gH] at R
  split at av
  ·rename_i l ae n aS aV a2
   simp only [Option.ite_none_right_eq_some,Option.some.injEq] at av
   obtain ⟨⟨bV,cm⟩,av⟩:=av
   subst av
   have iX:=xH h aV fun p aj=>ct p (by simp [aj])
   have ko:=xH h a2 fun p aj=>ct p (by simp [aj])
   have h1:l≤n:=ct _ (by simp)
   have h2:n≤es.length:=ct _ (by simp)
   rcases R.rQ with ⟨Bg,A,c,hval,hA⟩|⟨dT,off,c,aP,hval,ba,h8⟩
   ·subst Bg
    have Bh:n=0:=by simpa using h2
    subst Bh
    have nc:l=0:=by omega
    subst nc
    refine ik (v:= .slice (if c=0 then A else A.map (·.add (0*P.cellsOf e))) (0-0) (c-0)) h ?_ rfl ?_
    ·have:=CU (w:=w) hu (uI sz e bV cm) A 0 c (bQ.map a.eval) (ao.map a.eval) 0 0 iX ko (Nat.le_refl _) (Nat.le_refl _) (Nat.zero_le _)
     simp only [execOp,an,hval]
     simp only [Option.map_none,Sem.run_bind,this];rfl
    ·refine .jV sz _ _ fun a2=> ?_
     split at a2
     ·rename_i mi;omega
     ·have:=hA (by simpa using a2)
      omega
   ·have hlen:((es.drop l).take (n-l)).length=n-l:=by simp;omega
    refine ik (v:= .slice (if c=l then some ⟨dT,off,none⟩ else (some (⟨dT,off,none⟩:Addr)).map (·.add (l*P.cellsOf e))) (n-l) (c-l)) h ?_ rfl ?_
    ·have:=CU (w:=w) hu (uI sz e bV cm) (some ⟨dT,off,none⟩) es.length c (bQ.map a.eval) (ao.map a.eval) l n iX ko h1 h2 ba
     simp only [execOp,an,hval]
     simp only [Option.map_none,Sem.run_bind,this];rfl
    ·by_cases iq:c=l
     ·have:n-l=0:=by omega
      rw [this]
      show Rel _ _ _ _ (.isl sz ((es.drop l).take 0)) _
      rw [List.take_zero]
      exact .jV sz _ _ (fun _=>by omega)
     ·rw [if_neg iq]
      simp only [Option.map_some,q9,← bV]
      have aq:=(CY h8 l (n-l) (by omega)).isl (c:=c-l) ⟨aP.1,fun e he=>aP.2 e (List.mem_of_mem_drop (List.mem_of_mem_take he))⟩ (by rw [hlen];omega)
      rw [hlen] at aq
      exact aq
  ·simp at av
 ·rename_i e r k Sa len hu gH
  rw [gH] at R
  split at av
  ·simp at av
  ·rename_i row dr
   split at av
   ·simp at av
   ·rename_i ak Sb bl
    split at av
    ·rename_i l ae n aS aV a2
     simp only [Option.ite_none_right_eq_some,Option.some.injEq] at av
     obtain ⟨⟨bV,cm⟩,av⟩:=av
     subst av
     have j6:s.ak r k=some ak:=by
      unfold S.ak;rw [dr];exact sS bl fun p aj=>ct p (by simp [aj])
     have iX:=xH h aV fun p aj=>ct p (by simp [aj])
     have ko:=xH h a2 fun p aj=>ct p (by simp [aj])
     have h1:l≤n:=ct _ (by simp)
     have h2:n≤len:=ct _ (by simp)
     have jd:=Dk j6
     rcases R.uu (il j6) with ⟨aj,rfl,rfl,hval⟩|⟨b,m,A,c,aj,hval,qG,se,l5,hm⟩
     ·have Bh:n=0:=by omega
      subst Bh
      have nc:l=0:=by omega
      subst nc
      refine ik (v:= .slice none 0 0) h ?_ rfl (.nm jd ((il j6).trans (by rw [aj])))
      have:=CU (w:=w) hu (uI _ e bV cm) none 0 0 (bQ.map a.eval) (ao.map a.eval) 0 0 iX ko (Nat.le_refl _) (Nat.le_refl _) (Nat.le_refl _)
      simp only [execOp,an,hval]
      simp only [Option.map_none,Sem.run_bind,this];rfl
     ·refine ik (v:= .slice (if c=l then A else A.map (·.add (l*P.cellsOf e))) (n-l) (c-l)) h ?_ rfl ?_
      ·have:=CU (w:=w) hu (uI _ e bV cm) A len c (bQ.map a.eval) (ao.map a.eval) l n iX ko h1 h2 qG
       simp only [execOp,an,hval]
       simp only [Option.map_none,Sem.run_bind,this];rfl
      ·refine Rel.bk jd ((il j6).trans (by rw [aj])) (by omega) (by omega) ?_
       refine ⟨by rw [← l5];congr 1;omega,?_⟩
       by_cases iq:c=l
       ·exact .inl (by omega)
       ·rcases hm with hm|hA
        ·exact .inl (by omega)
        ·refine .inr ?_
         rw [if_neg iq,hA]
         simp only [Option.map_some,q9,← bV,Nat.add_mul]
    ·simp at av
 ·rename_i b hu gH
  rw [gH] at R
  split at av
  ·rename_i l ae n aS aV a2
   simp only [Option.some.injEq] at av
   subst av
   have iX:=xH h aV fun p aj=>ct p (by simp [aj])
   have ko:=xH h a2 fun p aj=>ct p (by simp [aj])
   have h1:l≤n:=ct _ (by simp)
   have h2:n≤b.size:=ct _ (by simp)
   refine ik (v:= .string (b.extract l n)) h ?_ rfl (.s _)
   have aP : ∀(k:IntKind) (n y:Nat) (code:BoundsCode),n≤y→(Instr.sliceBound (.int k n) y code).run P w = .ok n w:=by
    intro k n y code a2
    simp [Instr.sliceBound,asIntOf,a2]
   simp only [execOp,an,R.xQ,Option.map_none]
   rcases iX with ⟨e1,rfl⟩|⟨mS,e1⟩<;>rcases ko with ⟨e2,rfl⟩|⟨li,e2⟩<;>rw [e1,e2] <;>
    simp [Instr.sliceAt,Instr.slice,run_underlying hu,Instr.sliceBounds,aP,h1,h2]
  ·simp at av
 ·simp at av
end
end Go.VL
namespace Go.VL
set_option linter.unusedVariables false
set_option linter.unusedSimpArgs false
open Go
section
variable {P:Program} {g:G} {s:S} {aw:fj} {a:Act} {w:World} {o:Oper} {cG:fu} {aR:Nat} {bw:hT}
theorem X3 {ok:Nat→Prop}{a1:iW}{a9:iN}{t:TypeId}{c:List az}{off:Nat}{x:az}{vs:List Value}(aV:vs.length=c.length)
 (jT : ∀(j:Nat) u,vs[j]? = some u→j4 u=true) (aq : ∀(j:Nat) x u,c[j]? = some x→vs[j]? = some u→Rel w ok a1 a9 x u)
 (ca:rW P t c off=some x) : ∃v,(part t vs.toArray off).run P w = .ok v w∧Rel w ok a1 a9 x v:=by
 unfold rW at ca
 split at ca
 ·simp at ca
 ·rename_i ao
  simp only [Bool.not_eq_true',Bool.not_eq_false,Bool.and_eq_true] at ao
  simp only [part,Sem.run_bind,Om ao.1,Result.andThen]
  split at ca
  ·rename_i qA
   rw [qA]
   split at ca
   ·rename_i hle
    simp at ca;subst ca
    have e:(vs.toArray.extract off (off+P.cellsOf t))=((vs.drop off).take (P.cellsOf t)).toArray:=by
     apply Array.ext'
     simp [List.extract_eq_take_drop]
    refine ⟨.agg ((vs.drop off).take (P.cellsOf t)).toArray,by simp [ue ao.2],?_⟩
    refine .agg _ (by simp;omega) ?_ ?_
    ·intro j v bc
     rw [List.getElem?_take] at bc
     split at bc
     ·rw [List.getElem?_drop] at bc;exact jT _ _ bc
     ·simp at bc
    ·intro j y v a0 bc
     rw [List.getElem?_take] at bc a0
     split at bc
     ·rename_i aC
      rw [if_pos aC] at a0
      rw [List.getElem?_drop] at bc a0;exact aq _ _ _ a0 bc
     ·simp at bc
   ·simp at ca
  ·rename_i qA
   have qA:Aj P t=false:=by simpa using qA
   rw [qA]
   split at ca
   ·rename_i y a0
    split at ca
    ·simp at ca;subst ca
     have xZ:off<vs.length:=by
      rcases Nat.lt_or_ge off c.length with h|h
      ·omega
      ·rw [List.getElem?_eq_none h] at a0;simp at a0
     exact ⟨vs[off],by simp [xZ],aq off y _ a0 (List.getElem?_eq_getElem xZ)⟩
    ·simp at ca
   ·simp at ca
theorem Zp {t:TypeId}{x:Operand}{f:Nat}(h:cF g s aw a w)(an:o.op = .field t x f)(av:eN P s.E s.aT aR o cG=some bw):Fin P g s a w o bw:=by
 simp only [eN,an] at av
 have R:=h.eval x
 split at av
 ·rename_i kC Bf
  split at av
  ·rename_i fd c te gH
   rw [gH] at R
   cases ca:rW P fd.type c fd.offset with
   | none=>simp [ca] at av
   | some v =>
    simp [ca] at av;subst av
    obtain ⟨vs,hval,aV,ba,aq⟩:=R.z9
    obtain ⟨u,h1,h2⟩:=X3 aV ba aq ca
    refine ik (v:=u) h ?_ rfl h2
    simp [execOp,an,hval,Instr.field,run_underlying (Jf Bf),te,asAgg,h1]
  ·simp at av
 ·simp at av
theorem YC (off:Nat): ∀(vs:List Value) (n:Nat) (cs:Array Value) (j:Nat),off+n+vs.length≤cs.size →
 ((vs.zipIdx n).foldl (fun cs (x:Value×Nat)=>cs.setIfInBounds (off+x.2) x.1) cs)[j]? = if off+n≤j∧j<off+n+vs.length then vs[j-(off+n)]? else cs[j]? := by
 intro vs
 induction vs with
 | nil=>intro n cs j h;simp;intro h1 h2;omega
 | cons v vs ih =>
  intro n cs j h
  simp only [List.length_cons] at h
  simp only [List.zipIdx_cons,List.foldl_cons]
  rw [ih (n+1) _ j (by simp;omega)]
  simp only [List.length_cons,Array.getElem?_setIfInBounds]
  by_cases h1:j=off+n
  ·subst h1
   rw [if_neg (by omega),if_pos rfl,if_pos (by omega),if_pos (by omega)]
   simp
  ·by_cases h2:off+(n+1)≤j∧j<off+(n+1)+vs.length
   ·rw [if_pos h2,if_pos (by omega)]
    rw [show j-(off+n)=(j-(off+(n+1)))+1 by omega];rfl
   ·rw [if_neg h2,if_neg (fun e=>h1 e.symm),if_neg (by omega)]
theorem WG (off:Nat): ∀(vs:List (Value×Nat)) (cs:Array Value),(vs.foldl (fun cs (x:Value×Nat)=>cs.setIfInBounds (off+x.2) x.1) cs).size=cs.size:=by
 intro vs
 induction vs with
 | nil=>intro cs;rfl
 | cons v vs ih=>intro cs;simp only [List.foldl_cons];rw [ih];simp
def yG (w:World)(ok:Nat→Prop)(a1:iW)(a9:iN)(c:List az)(cs:Array Value):Prop :=
 cs.size=c.length∧(∀(j:Nat) u,cs[j]? = some u→j4 u=true)∧ ∀(j:Nat) x u,c[j]? = some x→cs[j]? = some u→Rel w ok a1 a9 x u
theorem Zq {ok:Nat→Prop}{a1:iW}{a9:iN}{c:List az}{cs:Array Value}(h:yG w ok a1 a9 c cs){x:az}{v:Value}{off:Nat}(R:Rel w ok a1 a9 x v)(ba:x.xp=true)
 (h5:off+x.cells.length≤c.length):v.cells.size=x.cells.length ∧
   yG w ok a1 a9 (setCells c off x.cells) (v.cells.zipIdx.foldl (fun cs (y:Value×Nat)=>cs.setIfInBounds (off+y.2) y.1) cs):=by
 obtain ⟨vs,bc,aV,jT,aq⟩:=R.cellsOf (az.NG ba)
 have lO : ∀j,(v.cells.zipIdx.foldl (fun cs (y:Value×Nat)=>cs.setIfInBounds (off+y.2) y.1) cs)[j]? = if off≤j∧j<off+vs.length then vs[j-off]? else cs[j]? := by
  intro j
  rw [bc]
  have:=YC off vs 0 cs j (by rw [h.1];omega)
  simp only [Nat.add_zero] at this
  rw [← this,← Array.foldl_toList,Array.toList_zipIdx]
 refine ⟨by rw [bc];simpa using aV,?_,?_,?_⟩
 ·rw [M5 h5,← h.1,← Array.foldl_toList,WG]
 ·intro j u hu
  rw [lO] at hu
  split at hu
  ·exact jT _ _ hu
  ·exact h.2.1 _ _ hu
 ·intro j y u a0 hu
  rw [lO] at hu
  rw [Je h5] at a0
  by_cases lN:off≤j∧j<off+x.cells.length
  ·rw [if_pos lN] at a0
   rw [if_pos (by rw [aV];exact lN)] at hu
   exact aq _ _ _ a0 hu
  ·rw [if_neg lN] at a0
   rw [if_neg (by rw [aV];exact lN)] at hu
   exact h.2.2 _ _ _ a0 hu
theorem NW {ok:Nat→Prop}{a1:iW}{a9:iN}(place:Nat→Option (Nat×Nat)): ∀(l:List (Nat×Nat×az)) (jF:List (Nat×Value)) (c:List az) (cs:Array Value) (dH:List az),
 yG w ok a1 a9 c cs→l.length=jF.length →
 (∀(j:Nat) off size x i v,l[j]? = some (off,size,x)→jF[j]? = some (i,v)→place i=some (off,size)∧Rel w ok a1 a9 x v) →
 sY c l=some dH→ ∃mM,Instr.fill place cs jF=some mM∧yG w ok a1 a9 dH mM:=by
 intro l
 induction l with
 | nil =>
  intro jF c cs dH h aV _ cg
  have:jF=[]:=List.length_eq_zero_iff.1 (by simpa using aV.symm)
  subst this
  simp [sY] at cg;subst cg
  exact ⟨cs,rfl,h⟩
 | cons q l ih =>
  intro jF c cs dH h aV aj cg
  obtain ⟨off,size,x⟩:=q
  match jF,aV with
  | (i,v)::jF,aV =>
   obtain ⟨acj,R⟩:=aj 0 off size x i v rfl rfl
   simp only [sY] at cg
   split at cg
   ·rename_i ba
    simp only [Bool.and_eq_true,decide_eq_true_eq] at ba
    obtain ⟨⟨h1,h2⟩,ab⟩:=ba
    obtain ⟨e1,e2⟩:=Zq h R h1 (off:=off) (by omega)
    obtain ⟨mM,f1,f2⟩:=ih jF _ _ dH e2 (by simpa using aV) (fun j off size x i v a b=>aj (j+1) off size x i v a b) cg
    refine ⟨mM,?_,f2⟩
    rw [Instr.fill]
    simp only [acj]
    have jo : ¬(decide (v.cells.size≠size) || decide (off+v.cells.size>cs.size))=true:=by simp;rw [e1,h.1];omega
    rw [if_neg jo]
    exact f1
   ·simp at cg
theorem mapM_some {α β:Type}(f:α→β)(p:α→Option β): ∀(l:List α),(∀x∈l,p x=some (f x))→l.mapM p=some (l.map f)
 | [],_=>rfl
 | x::l,h=>by
  rw [List.mapM_cons,h x (by simp),mapM_some f p l fun y a0=>h y (by simp [a0])];rfl
theorem Pr {α β:Type}(p:α→Option β): ∀(l:List α) (gg:List β),l.mapM p=some gg→gg.length=l.length∧ ∀(j:Nat) x y,l[j]? = some x→gg[j]? = some y→p x=some y
 | [],gg,h=>by simp at h;subst h;exact ⟨rfl,fun j x y R=>by simp at R⟩
 | a::l,gg,h=>by
  rw [List.mapM_cons] at h
  cases bA:p a with
  | none=>simp [bA] at h
  | some b =>
   cases aV:l.mapM p with
   | none=>simp [bA,aV] at h
   | some r =>
    simp [bA,aV] at h;subst h
    obtain ⟨h1,h2⟩:=Pr p l r aV
    refine ⟨by simp [h1],fun j x y R a0=> ?_⟩
    cases j with
    | zero=>simp at R a0;subst R;subst a0;exact bA
    | succ j=>simp at R a0;exact h2 j x y R a0
theorem Ps {t:TypeId}{z:List az}(cm:qg P t=some z): ∃i ez,P.info? t=some i∧i.zero=some ez∧ez.cells.size=z.length∧yG w (s.ok g aw w) s.a1 (s.a9 aw) z ez.cells:=by
 obtain ⟨i,ez,ao,kU,pz,jT⟩:=zS cm
 have bV:ez.cells.size=z.length:=by rw [pz];simp
 refine ⟨i,ez,ao,kU,bV,bV,fun j u hu=> ?_,fun j x u R hu=> ?_⟩
 ·have aC:j<z.length:=by
   have:=(Array.getElem?_eq_some_iff.1 hu).1;omega
  obtain ⟨v,e1,e2,-⟩:=jT j z[j] (List.getElem?_eq_getElem aC)
  rw [hu] at e1;simp at e1;subst e1;exact e2
 ·obtain ⟨v,e1,-,bO⟩:=jT j x R
  rw [hu] at e1;simp at e1;subst e1;exact bO _ _ _ _
theorem Zr {t:TypeId}{parts:Array (Nat×Operand)}(h:cF g s aw a w)(an:o.op = .build t parts)(av:eN P s.E s.aT aR o cG=some bw):Fin P g s a w o bw:=by
 simp only [eN,an] at av
 split at av
 ·rename_i kC z Bf cm
  split at av
  ·simp at av
  ·rename_i nv
   have nv : ∀f∈kC.toList,(P.info? f.type).isSome=true:=by
    rw [Bool.not_eq_false] at nv
    exact List.all_eq_true.1 nv
   split at av
   ·rename_i l aV
    cases cg:sY z l with
    | none=>simp [cg] at av
    | some c =>
     simp [cg] at av;subst av
     obtain ⟨it,ez,Bi,kU,eU,hcs⟩:=Ps (w:=w) (s:=s) (g:=g) (aw:=aw) cm
     obtain ⟨kD,qT⟩:=Pr _ _ _ aV
     have abG:kC.toList.mapM (fun f=>(P.info? f.type).map fun i=>(f.offset,i.size))=some (kC.toList.map fun f=>(f.offset,P.cellsOf f.type)):=by
      refine mapM_some (fun f:Field=>(f.offset,P.cellsOf f.type)) _ _ fun f cg=> ?_
      have:=nv f cg
      cases ao:P.info? f.type with
      | none=>simp [ao] at this
      | some i=>simp [Program.cellsOf,ao]
     obtain ⟨mM,f1,f2⟩:=NW (w:=w) (ok:=s.ok g aw w) (a1:=s.a1) (a9:=s.a9 aw) ((kC.toList.map fun f=>(f.offset,P.cellsOf f.type)).toArray[·]?) l (parts.map fun (i,x)=>(i,a.eval x)).toList z ez.cells c hcs (by simpa using kD) (by
      intro j off size x i v aC bc
      simp only [Array.toList_map,List.getElem?_map,Option.map_eq_some_iff] at bc
      obtain ⟨⟨eA,cA⟩,aj,bc⟩:=bc
      simp only [Prod.mk.injEq] at bc
      obtain ⟨rfl,rfl⟩:=bc
      have:=qT j _ _ aj aC
      simp only [Option.map_eq_some_iff,Prod.mk.injEq] at this
      obtain ⟨fd,h1,h2,ab,au⟩:=this
      subst h2;subst ab;subst au
      refine ⟨?_,h.eval cA⟩
      rw [List.getElem?_toArray,List.getElem?_map,Array.getElem?_toList,h1];rfl) cg
     have aP:P.built t (parts.map fun (i,x)=>(i,a.eval x)).toList=some mM:=by
      unfold Program.built
      simp only [Bi,Jf Bf,kU,abG]
      exact f1
     refine ik (v:= .agg mM) h ?_ rfl ?_
     ·have:=run_build w t _ mM aP
      simp [execOp,an,this]
     ·have:=Rel.agg (w:=w) (ok:=s.ok g aw w) (a1:=s.a1) (a9:=s.a9 aw) (c:=c) mM.toList (by simpa using f2.1) (fun j u hu=>f2.2.1 j u (by simpa using hu)) (fun j x u R hu=>f2.2.2 j x u R (by simpa using hu))
      simpa using this
   ·simp at av
 ·simp at av
theorem VR {sz:Nat}{es:List (List az)}(aV:∀e∈es,e.length=sz){i:Nat}(ao:i<es.length){c:List az}(ba:c.length=sz):
 setCells es.flatten (i*sz) c=(es.set i c).flatten:=by
 have hlen : ∀(es:List (List az)),(∀e∈es,e.length=sz)→es.flatten.length=es.length*sz:=by
  intro es
  induction es with
  | nil=>simp
  | cons e es ih =>
   intro h
   rw [List.flatten_cons,List.length_append,ih fun x R=>h x (by simp [R]),h e (by simp),List.length_cons,Nat.add_mul];omega
 have h5:i*sz+c.length≤es.flatten.length:=by
  rw [hlen es aV,ba]
  have:=Nat.mul_le_mul_right sz (show i+1≤es.length by omega)
  rw [Nat.add_mul] at this;omega
 apply List.ext_getElem?
 intro j
 rw [Je h5,NH aV (List.getElem?_eq_getElem ao) ba,ba]
theorem NX {sz:Nat}: ∀(l:List (Nat×az)) (es gf:List (List az)),(∀e∈es,e.length=sz)→xP sz es l=some gf →
 sY es.flatten (l.map fun p=>(p.1*sz,sz,p.2))=some gf.flatten∧(∀e∈gf,e.length=sz)∧gf.length=es.length
 | [],es,gf,aV,h=>by simp [xP] at h;subst h;exact ⟨rfl,aV,rfl⟩
 | (i,x)::l,es,gf,aV,h=>by
  simp only [xP] at h
  split at h
  ·rename_i ba
   simp only [Bool.and_eq_true,decide_eq_true_eq] at ba
   obtain ⟨⟨h1,h2⟩,ab⟩:=ba
   have KX : ∀e∈es.set i x.cells,e.length=sz:=by
    intro e hm
    rcases List.mem_or_eq_of_mem_set hm with cx|cx
    ·exact aV e cx
    ·exact cx▸h2
   obtain ⟨gv,hr,di⟩:=NX l (es.set i x.cells) gf KX h
   have e:=VR aV ab h2
   have h5:i*sz+sz≤es.flatten.length:=by
    have:(setCells es.flatten (i*sz) x.cells).length=(es.set i x.cells).flatten.length:=by rw [e]
    have a8 : ∀(es:List (List az)),(∀e∈es,e.length=sz)→es.flatten.length=es.length*sz:=by
     intro es
     induction es with
     | nil=>simp
     | cons e es ih =>
      intro h
      rw [List.flatten_cons,List.length_append,ih fun x R=>h x (by simp [R]),h e (by simp),List.length_cons,Nat.add_mul];omega
    rw [a8 es aV]
    have:=Nat.mul_le_mul_right sz (show i+1≤es.length by omega)
    rw [Nat.add_mul] at this;omega
   refine ⟨?_,hr,by simpa using di⟩
   simp only [List.map_cons,sY,h1,h2,h5,decide_true,Bool.and_self,if_true]
   rw [e];exact gv
  ·simp at h
theorem W1 {t:TypeId}{len:Nat}{parts:Array (Nat×Operand)}(h:cF g s aw a w)(eQ:s.aT aR=none)(an:o.op = .buildSlice t len parts)(av:eN P s.E s.aT aR o cG=some bw):Fin P g s a w o bw:=by
 simp only [eN,an] at av
 split at av
 ·rename_i e he
  split at av
  ·rename_i z cm
   split at av
   ·simp at av
   ·rename_i ba
    simp only [not_or,Nat.not_lt,Decidable.not_not] at ba
    obtain ⟨mN,yc,yd⟩:=ba
    split at av
    ·rename_i es hh
     simp only [Option.some.injEq] at av;subst av
     obtain ⟨it,ez,Bi,kU,eU,hcs⟩:=Ps (w:=w) (s:=s) (g:=g) (aw:=aw) cm
     have jT:P.cellsOf e=it.size:=by simp [Program.cellsOf,Bi]
     have QL : ∀x∈List.replicate len z,x.length=z.length:=fun x R=>by rw [List.eq_of_mem_replicate R]
     obtain ⟨f1,f2,f3⟩:=NX _ _ _ QL hh
     have qH:yG w (s.ok g aw w) s.a1 (s.a9 aw) (List.replicate len z).flatten ((Array.range (len*it.size)).map (ez.cells[· % ez.cells.size]!)):=by
      have D8:0<z.length:=by omega
      have lO : ∀j,j<len*it.size→((Array.range (len*it.size)).map (ez.cells[· % ez.cells.size]!))[j]? = ez.cells[j % z.length]? := by
       intro j aC
       rw [Array.getElem?_map,Array.getElem?_range]
       simp only [aC,if_true,Option.map_some]
       have hm:j % ez.cells.size<ez.cells.size:=Nat.mod_lt _ (by omega)
       rw [getElem!_pos ez.cells _ hm,← eU,Array.getElem?_eq_getElem hm]
      have dC : ∀(j:Nat) u,((Array.range (len*it.size)).map (ez.cells[· % ez.cells.size]!))[j]? = some u→j<len*it.size:=by
       intro j u hu
       have:=(Array.getElem?_eq_some_iff.1 hu).1
       simpa using this
      refine ⟨by simp [← jT,← yc],fun j u hu=> ?_,fun j x u R hu=> ?_⟩
      ·have aC:=dC j u hu
       rw [lO j aC] at hu
       exact hcs.2.1 _ _ hu
      ·have aC:=dC j u hu
       rw [lO j aC] at hu
       rw [oU D8 _ QL,List.getElem?_replicate] at R
       split at R
       ·exact hcs.2.2 _ _ _ R hu
       ·simp at R
     obtain ⟨mM,g1,g2⟩:=NW (w:=w) (ok:=s.ok g aw w) (a1:=s.a1) (a9:=s.a9 aw) (fun i=>some (i*it.size,it.size)) ((parts.toList.map fun p=>(p.1,e9 s.E p.2)).map fun p=>(p.1*z.length,z.length,p.2)) (parts.map fun (i,x)=>(i,a.eval x)).toList _ _ es.flatten qH (by simp) (by
      intro j off size x i v aC bc
      simp only [Array.toList_map,List.getElem?_map,Option.map_eq_some_iff,List.map_map] at bc aC
      obtain ⟨⟨eA,cA⟩,aj,bc⟩:=bc
      obtain ⟨⟨i2,x2⟩,Bc,aC⟩:=aC
      rw [aj] at Bc
      simp only [Option.some.injEq,Prod.mk.injEq] at Bc bc
      obtain ⟨rfl,rfl⟩:=Bc
      obtain ⟨rfl,rfl⟩:=bc
      simp only [Function.comp,Prod.mk.injEq] at aC
      obtain ⟨rfl,rfl,rfl⟩:=aC
      exact ⟨by rw [← jT,← yc],h.eval cA⟩) f1
     have iJ:(Instr.buildSlice t len (parts.map fun (i,x)=>(i,a.eval x))).run P w = .ok (.slice (some ⟨w.heap.size,0,none⟩) len len) (w.alloc (.cells mM e)):=by
      have h1 : ¬len*it.size>2 ^ 24:=by rw [← jT,← yc];omega
      by_cases h0:len*it.size=0
      ·have nc:len=0:=by
        rcases Nat.eq_zero_or_pos len with cx|cx
        ·exact cx
        ·have:0<len*it.size:=Nat.mul_pos cx (by omega)
         omega
       subst nc
       have e0:((Array.range (0*it.size)).map (ez.cells[· % ez.cells.size]!)) = #[]:=by simp
       rw [e0] at g1
       have aj:parts = #[]:=by
        obtain ⟨l⟩:=parts
        match l,hh with
        | [],_=>rfl
        | p::l,hh=>simp [xP] at hh
       subst aj
       have abH:mM = #[]:=by simpa [Instr.fill] using g1.symm
       subst abH
       simp [Instr.buildSlice,run_underlying (ra he),sizeOf,typeInfo,Bi,newRow,Instr.fill]
       rw [Array.range_zero',Array.map_empty]
      ·simp only [Instr.buildSlice,run_underlying (ra he),sizeOf,typeInfo,Bi,newRow,zeroValue,kU,Sem.run_bind,Result.andThen_ok,run_program,Sem.run_pure,Sem.run_ite,h1,h0,if_false]
       rw [g1];rfl
     refine Dx (v:= .slice (some ⟨w.heap.size,0,none⟩) len len) (ak:=⟨z.length,es,.live⟩) (c:=mM) (eC:=e) h eQ rfl ?_ rfl f2 ?_ ?_
     ·simp [execOp,an,iJ]
     ·intro j x R
      have aC:j<mM.size:=by
       rw [g2.1]
       rcases Nat.lt_or_ge j es.flatten.length with cx|cx
       ·exact cx
       ·rw [List.getElem?_eq_none cx] at R;simp at R
      have hu:mM[j]? = some mM[j]:=Array.getElem?_eq_getElem aC
      exact ⟨_,hu,g2.2.1 _ _ hu,g2.2.2 _ _ _ R hu⟩
     ·intro bJ kL mJ l3 hu ca
      refine Rel.bk hu ca (Nat.le_refl _) ?_ ⟨?_,.inr (by simp)⟩
      ·have:len≤len*z.length:=Nat.le_mul_of_pos_right _ (by omega)
       omega
      ·rw [g2.1]
       have a8 : ∀(es:List (List az)),(∀e∈es,e.length=z.length)→es.flatten.length=es.length*z.length:=by
        intro es
        induction es with
        | nil=>simp
        | cons e es ih =>
         intro h
         rw [List.flatten_cons,List.length_append,ih fun x R=>h x (by simp [R]),h e (by simp),List.length_cons,Nat.add_mul];omega
       rw [a8 es f2,f3];simp
    ·simp at av
  ·simp at av
 ·simp at av
theorem Dd (h:cF g s aw a w)(eQ:s.aT aR=none)(av:eN P s.E s.aT aR o cG=some bw)(ct:∀p∈bw.fr,p):Fin P g s a w o bw:=by
 cases an:o.op with
 | move x=>exact Pq h (.inl an) av
 | assign x=>exact Pq h (.inr an) av
 | pick c x y=>exact aac h an av ct
 | alloc t=>exact Zj h eQ an av
 | box t x=>exact aaI h eQ an av
 | load t x=>exact aad h an av ct
 | store t x y=>exact Zk h an av ct
 | nilCheck x=>exact XB h an av ct
 | binOp op t x y c6=>exact Zl h an av ct
 | unOp op t x=>exact aae h an av
 | convert t c6 x=>exact X0 h an av
 | makeFunc f BX cf=>exact XC h an av
 | makeSlice t x y=>exact Xj h eQ an av ct
 | fieldAddr t x f=>exact Xk h an av ct
 | field t x f=>exact Zp h an av
 | indexAddr t x y=>exact Xl h an av ct
 | index t x y=>exact Zn h an av ct
 | extract x i=>exact X1 h an av
 | slice t x bQ ao LR =>
  cases LR with
  | none=>exact Zo h an av ct
  | some m=>simp [eN,an] at av
 | build t jF=>exact Zr h an av
 | buildSlice t n jF=>exact W1 h eQ an av
 | call c =>
  obtain ⟨D9,args,mL⟩:=c
  cases D9 with
  | builtin b=>cases b<;>first|exact aaJ h an rfl av ct|simp [eN,an] at av
  | value f=>simp [eN,an] at av
  | invoke r m=>simp [eN,an] at av
 | _=>simp [eN,an] at av
end
end Go.VL
namespace Go.VL
set_option linter.unusedVariables false
set_option linter.unusedSimpArgs false
open Go
def aaK:Option ad→fu
 | some o=> .gb o []
 | none=> .none
def qu (sz:Nat)(aT:Nat→Option (List ad))(a:fu):az→Option (List (List az)×List Prop)
 | .isl Ea es=>if Ea=sz then some (es,[]) else none
 | .bk r k bQ len=>match oE (aT r) k a with
  | some (ak,ae)=>if ak.sz=sz then some ((ak.es.drop bQ).take len,ae++[bQ+len≤ak.es.length]) else none
  | none=>none
 | .ei=>some ([],[])
 | .h7=>some ([],[])
 | _=>none
def uD (P:Program)(sz:Nat)(z:List az)(aT:Nat→Option (List ad))(a:fu)(t c6:TypeId)(y:az):Option (List (List az)×List Prop) :=
 if t=c6 then qu sz aT a y else
 match P.underlying c6,y with
 | some (.int _),.n .i64 n=>some (List.replicate n.toNat z,[0≤n,n<9223372036854775808])
 | _,_=>none
def nz (P:Program)(E:Nat→az)(aT:Nat→Option (List ad))(aR:Nat)(b:Builtin)(args:List az)(mL:List TypeId)(cG:fu):Option hT :=
 match b,args,mL,cG with
 | .append,[x,y],[t,c6],.aG m o =>
  match ph P t with
  | none=>none
  | some e=>match P.info? e,qg P e with
   | some i,some z =>
    if z.length≠i.size∨i.size=0∨i.bytes=0 then none else
    match uD P i.size z aT (aaK o) t c6 y with
    | none=>none
    | some (bu,ae)=>match x with
     | .ei=>some {val:= .bk aR 0 0 m,fE:=[(aR,[⟨i.size,bu,.live⟩])],fr:=ae++[m=bu.length,m*i.bytes≤140737488355328]}
     | .bk r k 0 len=>match aT r with
      | none=>none
      | some row=>match dc (some row) k with
       | none=>none
       | some ak=>if ak.ch = .live∧ak.sz=i.size∧aR≠r then
        some {val:= .bk aR 0 0 m,fE:=[(aR,[⟨i.size,ak.es.take len++bu,.live⟩]),(r,row.set k {ak with ch:= .gone})],fr:=ae++[len≤ak.es.length,m=len+bu.length,m*i.bytes≤140737488355328]} else none
     | _=>none
   | _,_=>none
 | .append,[x,y],[t,c6],.fM =>
  match ph P t with
  | none=>none
  | some e=>match P.info? e,qg P e with
   | some i,some z =>
    if z.length≠i.size∨i.size=0∨i.bytes=0 then none else
    match uD P i.size z aT .none t c6 y with
    | none=>none
    | some (bu,ae)=>match x with
     | .bk r k 0 len=>match aT r with
      | none=>none
      | some row=>match dc (some row) k with
       | none=>none
       | some ak=>if ak.ch = .live∧ak.sz=i.size then
        some {val:= .bk r k 0 (len+bu.length),fE:=[(r,row.set k {ak with es:=ak.es.take len++bu})],fr:=ae++[len+bu.length≤ak.es.length,bu.length*i.bytes≤140737488355328]} else none
     | _=>none
   | _,_=>none
 | .copy,[.bk r k 0 len,y],[t,_],_ =>
  match ph P t with
  | none=>none
  | some e=>match P.info? e with
   | none=>none
   | some i=>match qu i.size aT .none y with
    | none=>none
    | some (bu,ae)=>match aT r with
     | none=>none
     | some row=>match dc (some row) k with
      | none=>none
      | some ak=>if ak.ch = .live∧ak.sz=i.size∧i.size≠0 then
       some {val:= .n .i64 bu.length,fE:=[(r,row.set k {ak with es:=bu++ak.es.drop bu.length})],fr:=ae++[bu.length≤len,len≤ak.es.length]} else none
 | .clear,[.bk r k 0 len],[t],_ =>
  match ph P t with
  | none=>none
  | some e=>match P.info? e,qg P e with
   | some i,some z=>match aT r with
    | none=>none
    | some row=>match dc (some row) k with
     | none=>none
     | some ak=>if ak.ch = .live∧ak.sz=i.size∧z.length=i.size∧i.size≠0 then
      some {val:= .dS [],fE:=[(r,row.set k {ak with es:=List.replicate len z})],fr:=[ak.es.length=len]} else none
   | _,_=>none
 | .min,[.n k x,.n d4 y],_,_=>if k=d4 then some {val:= .n k (if y<x then y else x)} else none
 | _,_,_,_=>none
section
variable {g:G} {s:S} {aw:fj} {a:Act} {w bJ:World}
theorem cF.gone (h:cF g s aw a w){r k:Nat}{l:List ad}{o:ad}(aq:s.aT r=some l)(an:s.ak r k=some o):
 cF g (s.setRow r (l.set k {o with ch:= .gone})) aw a w ∧
  ∀x v,Rel w (s.ok g aw w) s.a1 (s.a9 aw) x v→Rel w ((s.setRow r (l.set k {o with ch:= .gone})).ok g aw w) (s.setRow r (l.set k {o with ch:= .gone})).a1 ((s.setRow r (l.set k {o with ch:= .gone})).a9 aw) x v:=by
 have bl : ∀q j p,(s.setRow r (l.set k {o with ch:= .gone})).ak q j=some p→s.ak q j=some p∧ ¬(q=r∧j=k):=by
  intro q j p aj
  rw [lo] at aj
  by_cases e:q=r
  ·subst e
   rw [if_pos rfl] at aj
   unfold dc at aj
   simp only [List.getElem?_set] at aj
   by_cases e2:k=j
   ·subst e2
    by_cases a5:k<l.length
    ·simp [a5] at aj
    ·simp [a5] at aj
   ·rw [if_neg e2] at aj
    refine ⟨?_,fun fI=>e2 fI.2.symm⟩
    unfold S.ak;rw [aq];exact aj
  ·rw [if_neg e] at aj
   exact ⟨aj,fun fI=>e fI.1⟩
 have dt:Step g s aw w (s.setRow r (l.set k {o with ch:= .gone})) aw w:=by
  refine ⟨CX s aq (by simp),fun q j a8=> ?_,fun b aV=> ?_,fun _ _ _=>rfl,Nat.le_refl _⟩
  ·cases aj:(s.setRow r (l.set k {o with ch:= .gone})).ak q j with
   | none=>right;simp [S.a9,aj]
   | some p=>left;simp [S.a9,aj,(bl q j p aj).1]
  ·obtain ⟨q,j,p,m,h1,h2,ab⟩:=aV
   exact .inl ⟨q,j,p,m,(bl q j p h1).1,h2,ab⟩
 refine ⟨{tohS:=⟨?_,?_,?_,h.gL,h.mlt,h.m7,dt.stay h.stay,h.low⟩,env:=fun t=>dt.rel (h.env t),defers:=h.defers,jA:=h.jA},fun x v=>dt.rel⟩
 ·intro q j p aj
  exact dt.obj (fun b m _=>rfl) (h.obj q j p (bl q j p aj).1)
 ·intro q j p hq hG ka b m cq h1 h2 ab au
  exact h.inj q j p hq hG ka b m cq (bl q j p h1).1 (bl hq hG ka h2).1 ab au
 ·intro q j p b m h1 h2
  exact h.own q j p b m (bl q j p h1).1 h2
theorem cF.Pt (h:cF g s aw a w){aR sz:Nat}(eQ:s.aT aR=none):
 ∃bH,bH aR 0=none∧cF g (s.setRow aR [⟨sz,[],.live⟩]) bH a w:=by
 have bl : ∀q k,q≠aR→(s.setRow aR [⟨sz,[],.live⟩]).ak q k=s.ak q k:=fun q k a8=>by rw [lo,if_neg a8]
 let bH:fj:=fun q k=>if q=aR then none else aw q k
 have dk : ∀q k,s.a1 q k→q≠aR:=by
  rintro q k a8 rfl;exact wZ eQ k a8
 have KA : ∀k o,(s.setRow aR [⟨sz,[],.live⟩]).ak aR k=some o→o=⟨sz,[],.live⟩:=by
  intro k o an
  rw [lo,if_pos rfl,lV] at an
  split at an
  ·simp at an;exact an.symm
  ·simp at an
 have dt:Step g s aw w (s.setRow aR [⟨sz,[],.live⟩]) bH w:=by
  refine ⟨fun q k a8=>(mZ _ _ _ _ _).2 (by rw [if_neg (dk q k a8)];exact a8),fun q k a8=> .inl ?_,fun b aV=> ?_,fun _ _ _=>rfl,Nat.le_refl _⟩
  ·simp [S.a9,bl q k (dk q k a8),bH,dk q k a8]
  ·obtain ⟨q,k,o,m,h1,h2,ab⟩:=aV
   by_cases e:q=aR
   ·subst e;simp [bH] at ab
   ·rw [bl q k e] at h1
    simp only [bH,if_neg e] at ab
    exact .inl ⟨q,k,o,m,h1,h2,ab⟩
 refine ⟨bH,by simp [bH],{tohS:=⟨?_,?_,?_,h.gL,h.mlt,h.m7,dt.stay h.stay,h.low⟩,env:=fun t=>dt.rel (h.env t),defers:=h.defers,jA:=h.jA}⟩
 ·intro q k o an
  by_cases e:q=aR
  ·subst e
   rw [KA k o an]
   simp [bH,i7]
  ·rw [bl q k e] at an
   have:=dt.obj (fun b m _=>rfl) (h.obj q k o an)
   simpa [bH,e] using this
 ·intro q k o hq d4 b0 b m cq h1 h2 ab au
  have e:q≠aR:=by rintro rfl;simp [bH] at ab
  have eJ:hq≠aR:=by rintro rfl;simp [bH] at au
  rw [bl q k e] at h1
  rw [bl hq d4 eJ] at h2
  simp only [bH,if_neg e] at ab
  simp only [bH,if_neg eJ] at au
  exact h.inj q k o hq d4 b0 b m cq h1 h2 ab au
 ·intro q k o b m h1 h2
  have e:q≠aR:=by rintro rfl;simp [bH] at h2
  rw [bl q k e] at h1
  simp only [bH,if_neg e] at h2
  exact h.own q k o b m h1 h2
theorem cF.turn (h:cF g s aw a w){r k b m aR:Nat}{l:List ad}{o:ad}(aq:s.aT r=some l)(an:s.ak r k=some o)(a5:o.ch = .live)(aj:aw r k=some (b,m))
 (eQ:s.aT aR=none) (b0:ad) (oJ:b0.ch = .live) (c:Array Value) (eC:TypeId)
 (hw:bJ.heap[b]? = some (.cells c eC (0,0))) (eU:bJ.heap.size=w.heap.size) (uC : ∀q,q≠b→bJ.heap[q]? = w.heap[q]?)
 (p3:bJ.os=w.os) (KV:bJ.tape=w.tape) (Kx:bJ.output=w.output) (hm:c.size=m) (hlen : ∀e∈b0.es,e.length=b0.sz)
 (ba : ∀(j:Nat) x,b0.es.flatten[j]? = some x→ ∃v,c[j]? = some v∧j4 v=true∧Rel w (s.ok g aw w) s.a1 (s.a9 aw) x v) :
 ∃bH,bH aR 0=some (b,m)∧cF g ((s.setRow aR [b0]).setRow r (l.set k {o with ch:= .gone})) bH a bJ:=by
 have dk:r≠aR:=by rintro rfl;rw [eQ] at aq;simp at aq
 have QM : ∀k,¬s.a1 aR k:=wZ eQ
 let bM:=(s.setRow aR [b0]).setRow r (l.set k {o with ch:= .gone})
 let bH:fj:=aw.set aR 0 (some (b,m))
 have bl : ∀q j p,bM.ak q j=some p→(q=aR∧j=0∧p=b0)∨(q≠aR∧s.ak q j=some p∧ ¬(q=r∧j=k)):=by
  intro q j p a8
  rw [lo] at a8
  by_cases e:q=r
  ·subst e
   rw [if_pos rfl] at a8
   unfold dc at a8
   simp only [List.getElem?_set] at a8
   by_cases e2:k=j
   ·subst e2
    by_cases a5:k<l.length<;>simp [a5] at a8
   ·rw [if_neg e2] at a8
    refine .inr ⟨dk,?_,fun fI=>e2 fI.2.symm⟩
    unfold S.ak;rw [aq];exact a8
  ·rw [if_neg e,lo] at a8
   by_cases e2:q=aR
   ·subst e2
    rw [if_pos rfl,lV] at a8
    split at a8
    ·rename_i h0;simp at a8;exact .inl ⟨rfl,h0.1,a8.symm⟩
    ·simp at a8
   ·rw [if_neg e2] at a8
    exact .inr ⟨e2,a8,fun fI=>e fI.1⟩
 have lx : ∀q j,q≠aR→bH q j=aw q j:=fun q j a8=>by simp [bH,fj.set,a8]
 have ye:bH aR 0=some (b,m):=by simp [bH,fj.set]
 have pg:s.lF aw b:=⟨r,k,o,m,an,a5,aj⟩
 have jd : ∀q j,s.a1 q j→bM.a1 q j:=fun q j a8=>by
  have e:q≠aR:=fun e=>QM j (e▸a8)
  rw [mZ,mZ,if_neg e]
  by_cases e2:q=r
  ·subst e2;rw [if_pos rfl];simpa [S.a1,aq] using a8
  ·rw [if_neg e2];exact a8
 have dt:Step g s aw w bM bH bJ:=by
  refine ⟨jd,fun q j a8=> ?_,fun q aV=> ?_,fun q a8 aV=>uC q fun e=>aV (e▸pg),Nat.le_of_eq eU.symm⟩
  ·have na:q≠aR:=fun e=>QM j (e▸a8)
   cases kj:bM.ak q j with
   | none=>right;simp [S.a9,kj]
   | some p =>
    left
    rcases bl q j p kj with ⟨e,-⟩|⟨-,e2,-⟩
    ·exact absurd e na
    ·simp [S.a9,kj,e2,lx q j na]
  ·obtain ⟨hq,j,p,cq,h1,h2,ab⟩:=aV
   rcases bl hq j p h1 with ⟨rfl,rfl,rfl⟩|⟨e1,e2,-⟩
   ·rw [ye] at ab;simp at ab;exact .inl (ab.1▸pg)
   ·rw [lx hq j e1] at ab;exact .inl ⟨hq,j,p,cq,e2,h2,ab⟩
 refine ⟨bH,ye,{tohS:=⟨?_,?_,?_,?_,h.mlt,h.m7,dt.stay h.stay,h.low⟩,env:=fun t=>dt.rel (h.env t),defers:=h.defers,jA:=h.jA}⟩
 ·intro q j p kj
  rcases bl q j p kj with ⟨rfl,rfl,rfl⟩|⟨e1,e2,bO⟩
  ·rw [ye]
   exact ⟨c,eC,hw,hm,hlen,fun i x R=>let ⟨v,f1,f2,f3⟩:=ba i x R;⟨v,f1,f2,dt.rel f3⟩⟩
  ·rw [lx q j e1]
   refine dt.obj (fun kb cq kT=>uC kb ?_) (h.obj q j p e2)
   rintro rfl
   exact bO (h.inj q j p r k o kb cq m e2 an kT aj)
 ·intro q j p hq hG ka kb ib g9 h1 h2 ab au
  rcases bl q j p h1 with ⟨rfl,rfl,rfl⟩|⟨e1,e2,bO⟩<;>rcases bl hq hG ka h2 with ⟨rfl,rfl,rfl⟩|⟨mO,o3,Bj⟩
  ·exact ⟨rfl,rfl⟩
  ·rw [ye] at ab;simp at ab
   rw [lx hq hG mO] at au
   obtain ⟨rfl,rfl⟩:=ab
   exact absurd (h.inj hq hG ka r k o b g9 m o3 an au aj) Bj
  ·rw [ye] at au;simp at au
   rw [lx q j e1] at ab
   obtain ⟨rfl,rfl⟩:=au
   exact absurd (h.inj q j p r k o b ib m e2 an ab aj) bO
  ·rw [lx q j e1] at ab;rw [lx hq hG mO] at au
   exact h.inj q j p hq hG ka kb ib g9 e2 o3 ab au
 ·intro q j p kb cq h1 h2
  rcases bl q j p h1 with ⟨rfl,rfl,rfl⟩|⟨e1,e2,-⟩
  ·rw [ye] at h2;simp at h2
   rw [← h2.1]
   exact h.own r k o b m an aj
  ·rw [lx q j e1] at h2;exact h.own q j p kb cq e2 h2
 ·refine h.gL.step p3 KV Kx (Nat.le_of_eq eU.symm) fun kb qF kT=>uC kb ?_
  rintro rfl
  rcases h.own r k o kb m an aj with h1|h1
  ·omega
  ·exact kT h1
theorem n9.nw {ok:Nat→Prop}{a1:iW}{a9:iN}{dT o sz:Nat}{es:List (List az)}(h:n9 w ok a1 a9 dT o sz es):
 ∃vs:List Value,vs.length=es.length*sz∧(∀(j:Nat) u,vs[j]? = some u→w.cell? ((⟨dT,o,none⟩:Addr).add j)=some u)∧(∀u∈vs,u.oneCell'=true) ∧
  ∀(j:Nat) x u,es.flatten[j]? = some x→vs[j]? = some u→Rel w ok a1 a9 x u:=by
 have jB:es.flatten.length=es.length*sz:=by
  have : ∀(es:List (List az)),(∀e∈es,e.length=sz)→es.flatten.length=es.length*sz:=by
   intro es
   induction es with
   | nil=>intro _;simp
   | cons e es ih =>
    intro fI
    rw [List.flatten_cons,List.length_append,ih fun x R=>fI x (by simp [R]),fI e (by simp),List.length_cons,Nat.add_mul];omega
  exact this es h.1
 have R : ∀i,i<es.length*sz→ ∃v,∀x,es.flatten[i]? = some x→w.cell? ⟨dT,o+i,none⟩=some v∧j4 v=true∧Rel w ok a1 a9 x v:=by
  intro i ao
  have aC:=List.getElem?_eq_getElem (l:=es.flatten) (i:=i) (by omega)
  obtain ⟨v,h1⟩:=h.2 i _ aC
  exact ⟨v,fun x R=>by rw [aC] at R;simp at R;subst R;exact h1⟩
 let vs:List Value:=(List.range (es.length*sz)).map fun i=>if ao:i<es.length*sz then (R i ao).choose else undef
 have pp:vs.length=es.length*sz:=by simp [vs]
 have lO : ∀(i:Nat) u x,vs[i]? = some u→es.flatten[i]? = some x→w.cell? ⟨dT,o+i,none⟩=some u∧j4 u=true∧Rel w ok a1 a9 x u:=by
  intro i u x hu Bk
  have ao:i<es.length*sz:=by
   rcases Nat.lt_or_ge i vs.length with cx|cx
   ·omega
   ·rw [List.getElem?_eq_none cx] at hu;simp at hu
  simp only [vs,List.getElem?_map,List.getElem?_range ao,Option.map_some,dif_pos ao,Option.some.injEq] at hu
  subst hu
  exact (R i ao).choose_spec x Bk
 have hex : ∀(i:Nat) u,vs[i]? = some u→ ∃x,es.flatten[i]? = some x:=by
  intro i u hu
  have ao:i<es.flatten.length:=by
   rcases Nat.lt_or_ge i vs.length with cx|cx
   ·omega
   ·rw [List.getElem?_eq_none cx] at hu;simp at hu
  exact ⟨_,List.getElem?_eq_getElem ao⟩
 refine ⟨vs,pp,fun j u hu=> ?_,fun u hu=> ?_,fun j x u dy hu=>(lO j u x hu dy).2.2⟩
 ·obtain ⟨x,Bk⟩:=hex j u hu
  rw [q9];exact (lO j u x hu Bk).1
 ·obtain ⟨j,aC⟩:=List.getElem?_of_mem hu
  obtain ⟨x,Bk⟩:=hex j u aC
  exact (lO j u x aC Bk).2.1
theorem WH {es bu:List (List az)}{sz:Nat}{xs news:List Value}(R:xs.length=es.length*sz)(he:∀e∈es,e.length=sz){j:Nat}{x:az}(h:(es++bu).flatten[j]? = some x)
 {ok:Nat→Prop} {a1:iW} {a9:iN} (h1 : ∀(j:Nat) x u,es.flatten[j]? = some x→xs[j]? = some u→Rel w ok a1 a9 x u) (h2 : ∀(j:Nat) x u,bu.flatten[j]? = some x→news[j]? = some u→Rel w ok a1 a9 x u)
 {u:Value} (hu:(xs++news)[j]? = some u):Rel w ok a1 a9 x u:=by
 have jB:es.flatten.length=es.length*sz:=by
  have : ∀(es:List (List az)),(∀e∈es,e.length=sz)→es.flatten.length=es.length*sz:=by
   intro es
   induction es with
   | nil=>intro _;simp
   | cons e es ih =>
    intro fI
    rw [List.flatten_cons,List.length_append,ih fun x R=>fI x (by simp [R]),fI e (by simp),List.length_cons,Nat.add_mul];omega
  exact this es he
 rw [List.flatten_append,List.getElem?_append] at h
 rw [List.getElem?_append] at hu
 by_cases aC:j<es.flatten.length
 ·rw [if_pos aC] at h
  rw [if_pos (by omega)] at hu
  exact h1 j x u h hu
 ·rw [if_neg aC] at h
  rw [if_neg (by omega)] at hu
  rw [jB] at h
  rw [R] at hu
  exact h2 _ x u h hu
variable {P:Program}
theorem OT (h:cF g s aw a w){sz:Nat}{x:az}{fl:fu}{bu:List (List az)}{ak:List Prop}(he:qu sz s.aT fl x=some (bu,ak))(bl:∀p∈ak,p){v:Value}(bc:Rel w (s.ok g aw w) s.a1 (s.a9 aw) x v):
 ∃A c,v = .slice A bu.length c∧(∀e∈bu,e.length=sz)∧(bu.length=0∨ ∃dT off,A=some ⟨dT,off,none⟩∧n9 w (s.ok g aw w) s.a1 (s.a9 aw) dT off sz bu):=by
 cases x with
 | isl Ea es =>
  simp only [qu] at he
  split at he
  ·rename_i bV
   subst bV
   simp only [Option.some.injEq,Prod.mk.injEq] at he
   obtain ⟨rfl,rfl⟩:=he
   rcases bc.rQ with ⟨rfl,A,c,rfl,-⟩|⟨dT,off,c,-,rfl,-,h8⟩
   ·exact ⟨A,c,rfl,by simp,.inl rfl⟩
   ·exact ⟨_,c,rfl,h8.1,.inr ⟨dT,off,rfl,h8⟩⟩
  ·simp at he
 | bk r k bQ len =>
  simp only [qu] at he
  split at he
  ·rename_i nd ae j6
   split at he
   ·rename_i bV
    simp only [Option.some.injEq,Prod.mk.injEq] at he
    obtain ⟨rfl,rfl⟩:=he
    have h5:bQ+len≤nd.es.length:=bl _ (by simp)
    have an:s.ak r k=some nd:=sS j6 (fun p aj=>bl p (by simp [aj]))
    have fo:=h.obj r k nd an
    have aV:((nd.es.drop bQ).take len).length=len:=by simp;omega
    rcases bc.Aa (il an) with ⟨-,rfl,rfl,rfl⟩|⟨b,m,A,c,aj,rfl,qG,-,hm⟩
    ·exact ⟨none,0,by simp,by simp,.inl (by simp)⟩
    ·rw [aj] at fo
     have h8:=fo.rd
     subst bV
     have uQ:=CY h8 bQ len (by omega)
     refine ⟨A,c,by rw [aV],uQ.1,?_⟩
     rcases hm with rfl|⟨rfl,-⟩
     ·left;rw [aV];omega
     ·right
      rw [Nat.zero_add] at uQ
      exact ⟨b,_,rfl,uQ⟩
   ·simp at he
  ·simp at he
 | ei =>
  simp only [qu,Option.some.injEq,Prod.mk.injEq] at he
  obtain ⟨rfl,rfl⟩:=he
  rw [bc.pb]
  exact ⟨none,0,rfl,by simp,.inl rfl⟩
 | h7 =>
  simp only [qu,Option.some.injEq,Prod.mk.injEq] at he
  obtain ⟨rfl,rfl⟩:=he
  obtain ⟨A,c,rfl⟩:=bc.Dw
  exact ⟨some A,c,rfl,by simp,.inl rfl⟩
 | _=>simp [qu] at he
structure KB (P:Program) (w:World) (t c6 eC e:TypeId) (i:TypeInfo) (ez ni:Value) (n:Nat) (vs:List Value):Prop where
 zero:n=0→ ∀(B:Option Addr) (len cap:Nat),len≤cap→(Builtin.append_ #[t,c6] eC #[.slice B len cap,ni]).run P w = .ok (.slice B len cap) w
 nil:0<n→(n:Int)≤9223372036854775807→n*i.bytes≤140737488355328 →
  (Builtin.append_ #[t,c6] eC #[.slice none 0 0,ni]).run P w = .ok (.slice (some ⟨w.heap.size,0,none⟩) n (grownCap w n 0 e)) (w.drew.alloc (.cells (vs.toArray++Builtin.zeroCells ez.cells (grownCap w n 0 e-n)) e))
 room:0<n→ ∀(g iD lJ:Nat) (lu:Array Value) (eJ:TypeId),w.heap[g]? = some (.cells lu eJ (0,0))→iD+n≤lJ→iD*i.size+vs.length≤lu.size→n*i.bytes≤140737488355328 →
  (Builtin.append_ #[t,c6] eC #[.slice (some ⟨g,0,none⟩) iD lJ,ni]).run P w = .ok (.slice (some ⟨g,0,none⟩) (iD+n) lJ) (w.setRow g (lu.toList.take (iD*i.size)++vs++lu.toList.drop (iD*i.size+vs.length)).toArray)
 grow:0<n→ ∀(b:Addr) (iD lJ:Nat) (uR:List Value),uR.length=iD*i.size→(∀(j:Nat) v,uR[j]? = some v→w.cell? (b.add j)=some v)→lJ<iD+n→((iD+n:Nat):Int)≤9223372036854775807→Builtin.nextslicecap (iD+n) lJ*i.bytes≤281474976710656→n*i.bytes≤140737488355328 →
  (Builtin.append_ #[t,c6] eC #[.slice (some b) iD lJ,ni]).run P w = .ok (.slice (some ⟨w.heap.size,0,none⟩) (iD+n) (grownCap w (iD+n) lJ e))
    (w.drew.alloc (.cells (uR.toArray++vs.toArray++Builtin.zeroCells ez.cells (grownCap w (iD+n) lJ e-(iD+n))) e))
theorem VS (t eC e:TypeId)(i:TypeInfo)(ca:P.underlying t=some (.slice e))(ao:P.info? e=some i)
 (g iD lJ:Nat) (lu:Array Value) (eJ:TypeId) (dD:w.heap[g]? = some (.cells lu eJ (0,0)))
 (a:Addr) (m c:Nat) (news:List Value) (aV:news.length=m*i.size) (abf : ∀j u,news[j]? = some u→w.cell? (a.add j)=some u) (h1 : ∀u∈news,u.oneCell'=true)
 (rY:iD+m≤lJ) (h5:iD*i.size+news.length≤lu.size) :
 (Builtin.append_ #[t,t] eC #[.slice (some ⟨g,0,none⟩) iD lJ,.slice (some a) m c]).run P w =
   .ok (.slice (some ⟨g,0,none⟩) (iD+m) lJ) (w.setRow g (lu.toList.take (iD*i.size)++news++lu.toList.drop (iD*i.size+news.length)).toArray):=by
 have cg:=run_firstCells_some (P:=P) w i.size m a m c news aV abf
 have l4:=run_storeCells_at P g (iD*i.size) eJ news 0 lu w dD (by simpa using h5) h1
 simp only [Nat.add_zero] at l4
 simp [Builtin.append_,run_underlying ca,sizeOf,typeInfo,ao,Builtin.lenOf,rY,cg,Addr.add_lit,l4]
theorem NY {t eC e:TypeId}{i:TypeInfo}{ez:Value}(ca:P.underlying t=some (.slice e))(ao:P.info? e=some i)(cm:i.zero=some ez){A:Option Addr}{n c:Nat}{vs:List Value}(aV:vs.length=n*i.size)
 (hA:n=0∨ ∃a,A=some a∧ ∀(j:Nat) u,vs[j]? = some u→w.cell? (a.add j)=some u) (h1 : ∀u∈vs,u.oneCell'=true):KB P w t t eC e i ez (.slice A n c) n vs where
 zero:=fun h0 B len cap AP=>by
  subst h0
  cases A<;>cases B<;>simp [Builtin.append_,run_underlying ca,sizeOf,typeInfo,ao,Builtin.lenOf,AP,Builtin.firstCells,loadCells,loadCellsFrom,storeCells]
 nil:=fun h0 uV yf=>by
  obtain ⟨a,rfl,bA⟩:=hA.resolve_left (by omega)
  exact run_append_nil (P:=P) w t eC e i ez ca ao cm a n c vs aV bA h0 uV (by omega)
 room:=fun a2 g iD lJ lu eJ dD rY h5 _=>by
  obtain ⟨a,rfl,bA⟩:=hA.resolve_left (by omega)
  exact VS t eC e i ca ao g iD lJ lu eJ dD a n c vs aV bA h1 rY h5
 grow:=fun a2 b iD lJ uR an hold dD uV h5 _=>by
  obtain ⟨a,rfl,bA⟩:=hA.resolve_left (by omega)
  exact run_append_grow (P:=P) w t eC e i ez ca ao cm b iD lJ uR an hold a n c vs aV bA dD uV h5
theorem X4 {t c6 eC e:TypeId}{i:TypeInfo}{ez:Value}{k:IntKind}(ca:P.underlying t=some (.slice e))(ny:P.underlying c6=some (.int k))(ao:P.info? e=some i)(cm:i.zero=some ez)(lv:ez.cells.size=i.size){m:Nat}(aeZ:(m:Int)<9223372036854775808)
 (h1 : ∀u∈(Builtin.zeroCells ez.cells m).toList,u.oneCell'=true):KB P w t c6 eC e i ez (.int .i64 m) m (Builtin.zeroCells ez.cells m).toList:=by
 have hw:IntKind.i64.wrap (m:Int)=m:=by simp [IntKind.wrap,IntKind.bits,IntKind.signed];omega
 have m5 : ¬((m:Int)<0):=by omega
 have qH : ∀cq,cq*i.size=0→Builtin.zeroCells ez.cells cq = #[]:=fun cq hm=>by
  apply Array.eq_empty_of_size_eq_zero
  rw [size_zeroCells,lv,hm]
 have Eb : ∀bJ:World,(if m*i.size=0 then (pure #[]:Sem (Array Value)) else do pure (Builtin.zeroCells (← zeroValue e).cells m)).run P bJ = .ok (Builtin.zeroCells ez.cells m) bJ:=fun bJ=>by
  split
  ·rename_i hm;rw [qH _ hm];rfl
  ·simp [zeroValue,typeInfo,ao,cm]
 have KC : ∀b:Nat,m*b≤140737488355328→ ¬(281474976710656<(m:Int)*(b:Int)):=fun b aP=>by
  have:((m*b:Nat):Int)≤140737488355328:=by omega
  rw [Int.natCast_mul] at this
  omega
 refine ⟨fun a2 B len cap AP=> ?_,fun a2 uV yf=> ?_,fun a2 g iD lJ lu eJ dD rY h5 yf=> ?_,fun a2 b iD lJ uR an hold dD uV h5 yf=> ?_⟩
 ·subst a2
  have KZ:IntKind.i64.wrap 0=0:=by simpa using hw
  cases B<;>simp [Builtin.append_,run_underlying ca,run_underlying ny,sizeOf,typeInfo,ao,AP,asInt,asIntOf,KZ,storeCells]
 ·have Ec : ¬m=0:=by omega
  have AQ : ¬(9223372036854775807<(m:Int)):=by omega
  have s6:=KC _ yf
  have AR : ¬(281474976710656<Builtin.nextslicecap m 0*i.bytes):=by rw [nextslicecap_zero a2];omega
  have h2:=Eb w.drew
  by_cases hm:m*i.size=0
  ·simp [Builtin.append_,run_underlying ca,run_underlying ny,sizeOf,typeInfo,zeroValue,ao,cm,asInt,asIntOf,hw,m5,s6,Ec,AQ,AR,Question.forced,run_firstCells_none,newRow,grownCap,hm,qH _ hm]
  ·simp [Builtin.append_,run_underlying ca,run_underlying ny,sizeOf,typeInfo,zeroValue,ao,cm,asInt,asIntOf,hw,m5,s6,Ec,AQ,AR,Question.forced,run_firstCells_none,newRow,grownCap,hm]
 ·have s6:=KC _ yf
  have l4:=run_storeCells_at P g (iD*i.size) eJ (Builtin.zeroCells ez.cells m).toList 0 lu w dD (by simpa using h5) h1
  simp only [Nat.add_zero] at l4
  by_cases hm:m*i.size=0
  ·rw [qH _ hm] at l4
   have abI:(storeCells ⟨g,iD*i.size,none⟩ []).run P w = .ok () (w.setRow g lu):=by simpa using l4
   simp [Builtin.append_,run_underlying ca,run_underlying ny,sizeOf,typeInfo,zeroValue,ao,cm,asInt,asIntOf,hw,m5,s6,rY,hm,qH _ hm,Addr.add_lit,abI]
  ·simp [Builtin.append_,run_underlying ca,run_underlying ny,sizeOf,typeInfo,zeroValue,ao,cm,asInt,asIntOf,hw,m5,s6,rY,hm,Addr.add_lit,l4]
 ·have s6:=KC _ yf
  have Rb : ¬(iD+m≤lJ):=by omega
  have AQ : ¬(9223372036854775807<((iD:Int)+(m:Int))):=by omega
  have AR : ¬(281474976710656<Builtin.nextslicecap (iD+m) lJ*i.bytes):=by omega
  have Rc:=run_firstCells_some (P:=P) w.drew i.size iD b iD lJ uR an (by simpa using hold)
  by_cases hm:m*i.size=0
  ·simp [Builtin.append_,run_underlying ca,run_underlying ny,sizeOf,typeInfo,zeroValue,ao,cm,asInt,asIntOf,hw,m5,s6,Rb,AQ,AR,Question.forced,Rc,newRow,grownCap,hm,qH _ hm]
  ·simp [Builtin.append_,run_underlying ca,run_underlying ny,sizeOf,typeInfo,zeroValue,ao,cm,asInt,asIntOf,hw,m5,s6,Rb,AQ,AR,Question.forced,Rc,newRow,grownCap,hm]
theorem IG {aR:Nat}{e:TypeId}{v:Value}{i:TypeInfo}{m:Nat}(h:cF g s aw a w)(eQ:s.aT aR=none){es:List (List az)}(hlen:∀x∈es,x.length=i.size)(hm:m=es.length)
 {nw:List Value} {st:Array Value} {cap:Nat} (pp:nw.length=es.length*i.size) (lI : ∀u∈nw,u.oneCell'=true) (ack:st.size=(cap-m)*i.size) (AP:m≤cap) (abJ:cap<9223372036854775808)
 (fo : ∀(j:Nat) x u,es.flatten[j]? = some x→nw[j]? = some u→Rel w (s.ok g aw w) s.a1 (s.a9 aw) x u)
 (bc:v = .slice (some ⟨w.heap.size,0,none⟩) m cap) :
 ∃bH,cF g (s.setRow aR [⟨i.size,es,.live⟩]) bH a (w.drew.alloc (.cells (nw.toArray++st) e)) ∧
  Rel (w.drew.alloc (.cells (nw.toArray++st) e)) ((s.setRow aR [⟨i.size,es,.live⟩]).ok g bH (w.drew.alloc (.cells (nw.toArray++st) e))) (s.setRow aR [⟨i.size,es,.live⟩]).a1 ((s.setRow aR [⟨i.size,es,.live⟩]).a9 bH) (.bk aR 0 0 m) v:=by
 have bC:=h.drew
 have jB:es.flatten.length=es.length*i.size:=by
  have : ∀(es:List (List az)),(∀e∈es,e.length=i.size)→es.flatten.length=es.length*i.size:=by
   intro es
   induction es with
   | nil=>intro _;simp
   | cons e es ih =>
    intro fI
    rw [List.flatten_cons,List.length_append,ih fun x R=>fI x (by simp [R]),fI e (by simp),List.length_cons,Nat.add_mul];omega
  exact this es hlen
 obtain ⟨bH,p1,p2,-⟩:=bC.alloc eQ ⟨i.size,es,.live⟩ rfl (nw.toArray++st) e hlen (fun j x R=>by
  have aC:j<nw.length:=by
   rcases Nat.lt_or_ge j es.flatten.length with cx|cx
   ·omega
   ·rw [List.getElem?_eq_none cx] at R;simp at R
  refine ⟨nw[j],?_,lI _ (List.getElem_mem aC),?_⟩
  ·rw [Array.getElem?_append_left (by simpa using aC)]
   simp [aC]
  ·exact (fo j x _ R (List.getElem?_eq_getElem aC)).drew)
 refine ⟨bH,p2,?_⟩
 subst bc
 have an:(s.setRow aR [⟨i.size,es,.live⟩]).ak aR 0=some ⟨i.size,es,.live⟩:=by rw [lo,if_pos rfl,lV];simp
 refine Rel.bk (sz:=i.size) (dT:=w.heap.size) (m:=(nw.toArray++st).size) ((mZ _ _ _ _ _).2 (by simp)) ?_ AP abJ ⟨?_,.inr (by simp)⟩
 ·rw [il an,p1];rfl
 ·simp only [Array.size_append,List.size_toArray,ack,pp,Nat.zero_add]
  rw [← hm,← Nat.add_mul]
  congr 1;omega
section
variable {o:Oper} {cG:fu} {aR:Nat} {bw:hT}
theorem Oq (h:cF g s aw a w){t c6 eC e:TypeId}{i:TypeInfo}{z:List az}(hu:P.underlying t=some (.slice e))(ao:P.info? e=some i)(cm:qg P e=some z)(nb:z.length=i.size)(jW:i.size≠0)
 {y:az} {fl:fu} {bu:List (List az)} {ak:List Prop} (he:uD P i.size z s.aT fl t c6 y=some (bu,ak)) (bl : ∀p∈ak,p) {ni:Value} (a0:Rel w (s.ok g aw w) s.a1 (s.a9 aw) y ni) :
 ∃ez vs,i.zero=some ez∧ez.cells.size=i.size∧KB P w t c6 eC e i ez ni bu.length vs∧(∀x∈bu,x.length=i.size)∧vs.length=bu.length*i.size∧(∀u∈vs,u.oneCell'=true) ∧
  ∀(j:Nat) x u,bu.flatten[j]? = some x→vs[j]? = some u→Rel w (s.ok g aw w) s.a1 (s.a9 aw) x u:=by
 obtain ⟨eA,ez,kz,kU,pz,tf⟩:=zS cm
 rw [ao] at kz;simp at kz;subst kz
 have lv:ez.cells.size=i.size:=by rw [← nb,pz];simp
 unfold uD at he
 split at he
 ·rename_i acm
  subst acm
  obtain ⟨A,c,rfl,hlen,K0⟩:=OT h he bl a0
  rcases K0 with h0|⟨dT,off,rfl,h8⟩
  ·have:bu=[]:=List.length_eq_zero_iff.1 h0
   subst this
   exact ⟨ez,[],kU,lv,NY hu ao kU (by simp) (.inl rfl) (by simp),hlen,by simp,by simp,by simp⟩
  ·obtain ⟨vs,v1,v2,v3,v4⟩:=h8.nw
   exact ⟨ez,vs,kU,lv,NY hu ao kU v1 (.inr ⟨_,rfl,v2⟩) v3,hlen,v1,v3,v4⟩
 ·split at he
  ·rename_i k n a5
   simp only [Option.some.injEq,Prod.mk.injEq] at he
   obtain ⟨rfl,rfl⟩:=he
   have h0:0≤n:=bl _ (by simp)
   have uV:n<9223372036854775808:=bl _ (by simp)
   obtain ⟨m,rfl⟩:=Int.eq_ofNat_of_zero_le h0
   have acn:ni = .int .i64 m:=by cases a0;rfl
   subst acn
   have lO : ∀(j:Nat) u,(Builtin.zeroCells ez.cells m).toList[j]? = some u→ez.cells[j % i.size]? = some u:=by
    intro j u nA
    have aC:=(List.getElem?_eq_some_iff.1 nA).1
    rw [Array.length_toList,size_zeroCells,lv] at aC
    have dC:j % i.size<ez.cells.size:=by rw [lv];exact Nat.mod_lt _ (by omega)
    rw [Array.getElem?_toList,Builtin.zeroCells,Array.getElem?_map,lv,Array.getElem?_range] at nA
    rw [if_pos aC] at nA
    simp only [Option.map_some,Option.some.injEq] at nA
    rw [← nA,Array.getElem?_eq_getElem dC,getElem!_pos ez.cells _ dC]
   refine ⟨ez,(Builtin.zeroCells ez.cells m).toList,kU,lv,?_,?_,?_,?_,?_⟩
   ·simp only [List.length_replicate,Int.toNat_natCast]
    refine X4 hu a5 ao kU lv (by omega) fun u qI=> ?_
    obtain ⟨j,aC⟩:=List.getElem?_of_mem qI
    have h1:=lO j u aC
    have dC:j % i.size<z.length:=by rw [nb];exact Nat.mod_lt _ (by omega)
    obtain ⟨v,v1,v2,-⟩:=tf _ _ (List.getElem?_eq_getElem dC)
    rw [h1] at v1
    obtain rfl:=Option.some.inj v1
    exact v2
   ·intro x R
    rw [List.mem_replicate] at R
    rw [R.2,nb]
   ·rw [Array.length_toList,size_zeroCells,lv];simp
   ·intro u qI
    obtain ⟨j,aC⟩:=List.getElem?_of_mem qI
    have h1:=lO j u aC
    have dC:j % i.size<z.length:=by rw [nb];exact Nat.mod_lt _ (by omega)
    obtain ⟨v,v1,v2,-⟩:=tf _ _ (List.getElem?_eq_getElem dC)
    rw [h1] at v1
    obtain rfl:=Option.some.inj v1
    exact v2
   ·intro j x u R nA
    rw [oU (sz:=i.size) (by omega) _ (fun eJ lL=>by rw [List.mem_replicate] at lL;rw [lL.2,nb])] at R
    have h1:=lO j u nA
    cases a8:(List.replicate (Int.toNat (m:Int)) z)[j / i.size]? with
    | none=>rw [a8] at R;simp at R
    | some eJ =>
     have:=List.mem_of_getElem? a8
     rw [List.mem_replicate] at this
     rw [a8,this.2] at R
     simp only [Option.bind_some] at R
     obtain ⟨v,v1,-,v3⟩:=tf _ _ R
     rw [h1] at v1
     obtain rfl:=Option.some.inj v1
     exact v3 _ _ _ _
  ·simp at he
theorem X5 (h:cF g s aw a w)(eQ:s.aT aR=none){x y:az}{qU ni:Value}{t c6:TypeId}{m:Nat}{LS:Option ad}{eC:TypeId}(av:nz P s.E s.aT aR .append [x,y] [t,c6] (.aG m LS)=some bw)(ct:∀p∈bw.fr,p)
 (R:Rel w (s.ok g aw w) s.a1 (s.a9 aw) x qU) (a0:Rel w (s.ok g aw w) s.a1 (s.a9 aw) y ni) :
 ∃v bJ bH,(Builtin.append_ #[t,c6] eC #[qU,ni]).run P w = .ok v bJ∧cF g (s.hM bw.fE) bH a bJ∧Rel bJ ((s.hM bw.fE).ok g bH bJ) (s.hM bw.fE).a1 ((s.hM bw.fE).a9 bH) bw.val v:=by
 simp only [nz] at av
 split at av
 ·simp at av
 ·rename_i e he
  have hu:=ra he
  split at av
  ·rename_i i z ao cm
   split at av
   ·simp at av
   ·rename_i ba
    simp only [not_or,Decidable.not_not] at ba
    obtain ⟨nb,jW,ya⟩:=ba
    split at av
    ·simp at av
    ·rename_i bu ae qC
     have Ed:=fun aj=>Oq (eC:=eC) h hu ao cm nb jW qC aj a0
     by_cases aaL:True
     ·
      split at av
      ·
       simp only [Option.some.injEq] at av
       subst av
       have hm:m=bu.length:=ct _ (by simp)
       have Bl:m*i.bytes≤140737488355328:=ct _ (by simp)
       obtain ⟨ez,vs,kU,lv,hA,hlen,v1,v3,v4⟩:=Ed (fun p aj=>ct p (by simp [aj]))
       clear Ed
       rw [R.pb]
       by_cases h0:bu.length=0
       ·have:bu=[]:=List.length_eq_zero_iff.1 h0
        subst this
        obtain ⟨bH,p1,p2⟩:=h.Pt (sz:=i.size) eQ
        refine ⟨_,w,bH,hA.zero h0 none 0 0 (Nat.le_refl _),p2,?_⟩
        subst hm
        have an:(s.setRow aR [⟨i.size,[],.live⟩]).ak aR 0=some ⟨i.size,[],.live⟩:=by rw [lo,if_pos rfl,lV];simp
        exact .nm (sz:=i.size) ((mZ _ _ _ _ _).2 (by simp)) (by show (s.setRow aR [⟨i.size,[],.live⟩]).a9 bH aR 0=_;rw [il an,p1])
       ··have tg:bu.length*1≤bu.length*i.bytes:=Nat.mul_le_mul_left _ (by omega)
         rw [hm] at Bl
         have iJ:=hA.nil (by omega) (by omega) (by omega)
         have Rd:=grownCap_ge w bu.length 0 e
         have hle:=grownCap_le_maxLen w bu.length 0 e (by simp only [maxLen];omega)
         simp only [maxLen] at hle
         obtain ⟨bH,q1,q2⟩:=IG (e:=e) (i:=i) (m:=m) (nw:=vs) (st:=Builtin.zeroCells ez.cells (grownCap w bu.length 0 e-bu.length)) (cap:=grownCap w bu.length 0 e) h eQ hlen hm v1 v3
          (by rw [size_zeroCells,lv,hm]) (by omega) (by omega) v4 rfl
         refine ⟨.slice (some ⟨w.heap.size,0,none⟩) m (grownCap w bu.length 0 e),_,bH,?_,q1,q2⟩
         rw [hm];exact iJ
      ·
       rename_i r k len
       split at av
       ·simp at av
       ·rename_i row dr
        split at av
        ·simp at av
        ·rename_i ak bl
         split at av
         ·rename_i uW
          obtain ⟨nB,eU,dk⟩:=uW
          simp only [Option.some.injEq] at av
          subst av
          have an:s.ak r k=some ak:=by unfold S.ak;rw [dr];exact bl
          have h5:len≤ak.es.length:=ct _ (by simp)
          have hm:m=len+bu.length:=ct _ (by simp)
          have Bl:m*i.bytes≤140737488355328:=ct _ (by simp)
          have tg:m*1≤m*i.bytes:=Nat.mul_le_mul_left _ (Nat.one_le_iff_ne_zero.2 ya)
          obtain ⟨ez,vs,kU,lv,hA,hlen,v1,v3,v4⟩:=Ed (fun p aj=>ct p (by simp [aj]))
          clear Ed
          have ae8:bu.length*i.bytes≤m*i.bytes:=Nat.mul_le_mul_right _ (by omega)
          have fo:=h.obj r k ak an
          have K1:(ak.es.take len).length=len:=by simp;omega
          have rk:(s.setRow aR [⟨i.size,ak.es.take len++bu,.live⟩]).aT r=some row:=by simp [S.setRow,Ne.symm dk,dr]
          have pq : ∀bH:fj,((s.setRow aR [⟨i.size,ak.es.take len++bu,.live⟩]).setRow r (row.set k {ak with ch:= .gone})).ak aR 0=some ⟨i.size,ak.es.take len++bu,.live⟩:=by
           intro _
           rw [lo,if_neg dk,lo,if_pos rfl,lV];simp
          have AS:((s.setRow aR [⟨i.size,ak.es.take len++bu,.live⟩]).setRow r (row.set k {ak with ch:= .gone})).a1 aR 0:=by rw [mZ,if_neg dk,mZ,if_pos rfl];simp
          show ∃v bJ bH,_∧cF g ((s.setRow aR [⟨i.size,ak.es.take len++bu,.live⟩]).setRow r (row.set k {ak with ch:= .gone})) bH a bJ∧_
          rcases R.uu (il an) with ⟨aj,-,rfl,rfl⟩|⟨b,M,oa,kp,aj,rfl,qG,se,d9,l5⟩
          ·
           rw [aj] at fo
           simp only [i7] at fo
           have hh:ak.es.take 0++bu=bu:=by simp
           by_cases h0:bu.length=0
           ·have:bu=[]:=List.length_eq_zero_iff.1 h0
            subst this
            obtain ⟨bH,p1,p2⟩:=h.Pt (sz:=i.size) eQ
            have pr:(s.setRow aR [⟨i.size,[],.live⟩]).ak r k=some ak:=by rw [lo,if_neg (Ne.symm dk)];exact an
            have abg:(s.setRow aR [⟨i.size,[],.live⟩]).aT r=some row:=by simp [S.setRow,Ne.symm dk,dr]
            obtain ⟨rs,-⟩:=p2.gone abg pr
            have AU:ak.es.take 0++([]:List (List az))=[]:=by simp
            rw [AU]
            rw [AU] at AS pq
            refine ⟨_,w,bH,hA.zero h0 none 0 0 (Nat.le_refl _),rs,?_⟩
            subst hm
            exact .nm (sz:=i.size) AS ((il (pq bH)).trans (by rw [p1]))
           ··have kT:m=bu.length:=by omega
             have iJ:=hA.nil (by omega) (by omega) (by omega)
             have Rd:=grownCap_ge w bu.length 0 e
             have hle:=grownCap_le_maxLen w bu.length 0 e (by simp only [maxLen];omega)
             simp only [maxLen] at hle
             obtain ⟨bH,q1,q2⟩:=IG (e:=e) (i:=i) (m:=m) (nw:=vs) (st:=Builtin.zeroCells ez.cells (grownCap w bu.length 0 e-bu.length)) (cap:=grownCap w bu.length 0 e) h eQ hlen kT v1 v3
              (by rw [size_zeroCells,lv,kT]) (by omega) (by omega) v4 rfl
             rw [hh]
             rw [hh] at rk
             have pr:(s.setRow aR [⟨i.size,bu,.live⟩]).ak r k=some ak:=by rw [lo,if_neg (Ne.symm dk)];exact an
             obtain ⟨rs,BZ⟩:=q1.gone rk pr
             refine ⟨.slice (some ⟨w.heap.size,0,none⟩) m (grownCap w bu.length 0 e),_,bH,?_,rs,BZ _ _ q2⟩
             rw [kT];exact iJ
          ·
           rw [aj] at fo
           have abh:=fo
           obtain ⟨cf,mh,g1,g2,g3,g4⟩:=fo
           have AV : ∀e∈ak.es.take len++bu,e.length=i.size:=by
            intro eJ lL
            rw [List.mem_append] at lL
            rcases lL with cx|cx
            ·rw [g3 eJ (List.mem_of_mem_take cx),eU]
            ·exact hlen eJ cx
           have jB : ∀(es:List (List az)),(∀e∈es,e.length=i.size)→es.flatten.length=es.length*i.size:=by
            intro es
            induction es with
            | nil=>intro _;simp
            | cons e es ih =>
             intro fI
             rw [List.flatten_cons,List.length_append,ih fun x R=>fI x (by simp [R]),fI e (by simp),List.length_cons,Nat.add_mul];omega
           by_cases h0:bu.length=0
           ·
            have:bu=[]:=List.length_eq_zero_iff.1 h0
            subst this
            have AU:ak.es.take len++([]:List (List az))=ak.es.take len:=by simp
            rw [AU]
            rw [AU] at AS pq AV
            obtain ⟨bH,p1,p2⟩:=h.turn dr an nB aj eQ ⟨i.size,ak.es.take len,.live⟩ rfl cf mh g1 rfl (fun _ _=>rfl) rfl rfl rfl g2 AV (fun j q a8=>by
             refine g4 j q ?_
             have aC:j<(ak.es.take len).flatten.length:=by
              rcases Nat.lt_or_ge j (ak.es.take len).flatten.length with cx|cx
              ·exact cx
              ·rw [List.getElem?_eq_none cx] at a8;simp at a8
             have Re:ak.es.flatten=(ak.es.take len).flatten++(ak.es.drop len).flatten:=by rw [← List.flatten_append,List.take_append_drop]
             rw [Re,List.getElem?_append_left aC];exact a8)
            refine ⟨_,w,bH,hA.zero h0 oa len kp qG,p2,?_⟩
            have kT:m=len:=by simpa using hm
            subst kT
            refine .bk (sz:=i.size) (dT:=b) (m:=M) AS ((il (pq bH)).trans (by rw [p1])) qG se ?_
            rw [← eU];exact ⟨d9,l5⟩
           ··
             have hold : ∃xs:List Value,xs.length=len*i.size∧(∀(j:Nat) u,xs[j]? = some u→w.cell? ((⟨b,0,none⟩:Addr).add j)=some u)∧(∀u∈xs,u.oneCell'=true) ∧
              ∀(j:Nat) x u,(ak.es.take len).flatten[j]? = some x→xs[j]? = some u→Rel w (s.ok g aw w) s.a1 (s.a9 aw) x u:=by
              have QN:=CY abh.rd 0 len (by omega)
              simp only [List.drop_zero,Nat.zero_mul,Nat.add_zero] at QN
              obtain ⟨xs,x1,x2,aE,f8⟩:=QN.nw
              exact ⟨xs,by rw [x1,K1,eU],x2,aE,f8⟩
             obtain ⟨xs,x1,x2,aE,f8⟩:=hold
             have aco:xs.length=(ak.es.take len).length*i.size:=by rw [K1];exact x1
             have Pu : ∀(j:Nat) x u,(ak.es.take len++bu).flatten[j]? = some x→(xs++vs)[j]? = some u→Rel w (s.ok g aw w) s.a1 (s.a9 aw) x u :=
              fun j x u acp nA=>WH aco (fun eJ lL=>by rw [g3 eJ (List.mem_of_mem_take lL),eU]) acp f8 v4 nA
             have AW:(ak.es.take len++bu).length=m:=by rw [List.length_append,K1];exact hm.symm
             by_cases rY:len+bu.length≤kp
             ·
              rcases l5 with rfl|rfl
              ·omega
              ·rw [Nat.zero_mul] at *
               rw [Nat.zero_add] at d9
               have aaM:len*i.size+vs.length≤cf.size:=by
                rw [v1,g2,← d9,eU,← Nat.add_mul];exact Nat.mul_le_mul_right _ rY
               have iJ:=hA.room (by omega) b len kp cf mh g1 rY aaM (by omega)
               have abK:(w.setRow b (cf.toList.take (len*i.size)++vs++cf.toList.drop (len*i.size+vs.length)).toArray).heap.size=w.heap.size:=size_setRow _ _ _
               have Rf:xs=cf.toList.take (len*i.size):=by
                apply List.ext_getElem?
                intro j
                rw [List.getElem?_take]
                by_cases aC:j<len*i.size
                ·rw [if_pos aC]
                 have th:j<xs.length:=by omega
                 have:=x2 j _ (List.getElem?_eq_getElem th)
                 rw [q9,cell_of_row w b (0+j) cf mh (0,0) g1,Nat.zero_add] at this
                 rw [List.getElem?_eq_getElem th,← this,Array.getElem?_toList]
                ·rw [if_neg aC,List.getElem?_eq_none (by omega)]
               obtain ⟨bH,p1,p2⟩:=h.turn dr an nB aj eQ ⟨i.size,ak.es.take len++bu,.live⟩ rfl _ mh (setRow_heap w b cf _ mh _ g1) abK (fun q a8=>setRow_other w b q _ a8) rfl rfl rfl
                (by rw [← g2];simp;omega) AV (fun j q a8=>by
                  have aC:j<(xs++vs).length:=by
                   have:j<(ak.es.take len++bu).flatten.length:=by
                    rcases Nat.lt_or_ge j (ak.es.take len++bu).flatten.length with cx|cx
                    ·exact cx
                    ·rw [List.getElem?_eq_none cx] at a8;simp at a8
                   rw [jB _ AV,AW] at this
                   rw [List.length_append,x1,v1,← Nat.add_mul,← hm];exact this
                  refine ⟨(xs++vs)[j],?_,?_,Pu j q _ a8 (List.getElem?_eq_getElem aC)⟩
                  ·rw [List.getElem?_toArray,List.getElem?_append_left (by rw [← Rf];exact aC),← Rf]
                   exact List.getElem?_eq_getElem aC
                  ·have:=List.getElem_mem aC
                   rw [List.mem_append] at this
                   rcases this with cx|cx
                   ·exact aE _ cx
                   ·exact v3 _ cx)
               refine ⟨_,_,bH,iJ,p2,?_⟩
               rw [← hm]
               refine .bk (sz:=i.size) (dT:=b) (m:=M) AS ((il (pq bH)).trans (by rw [p1])) (by omega) se ⟨?_,.inr (by simp)⟩
               rw [Nat.zero_add,← eU];exact d9
             ·
              have hA : ∃vh:Addr,(oa=some vh∧ ∀(j:Nat) u,xs[j]? = some u→w.cell? (vh.add j)=some u)∨(oa=none∧len=0∧kp=0):=by
               cases oa with
               | none =>
                refine ⟨⟨0,0,none⟩,.inr ⟨rfl,?_⟩⟩
                rcases l5 with cx|cx
                ·omega
                ·simp at cx
               | some vh =>
                refine ⟨vh,.inl ⟨rfl,?_⟩⟩
                rcases l5 with cx|cx
                ·have:len=0:=by omega
                 have:xs=[]:=List.length_eq_zero_iff.1 (by rw [x1,this];simp)
                 intro j u aC
                 rw [this] at aC;simp at aC
                ·simp at cx;subst cx;exact x2
              have Rd:=grownCap_ge w (len+bu.length) kp e
              have hle:=grownCap_le_maxLen w (len+bu.length) kp e (by simp only [maxLen];omega)
              simp only [maxLen] at hle
              have iJ:(Builtin.append_ #[t,c6] eC #[.slice oa len kp,ni]).run P w = .ok (.slice (some ⟨w.heap.size,0,none⟩) (len+bu.length) (grownCap w (len+bu.length) kp e))
               (w.drew.alloc (.cells ((xs++vs).toArray++Builtin.zeroCells ez.cells (grownCap w (len+bu.length) kp e-(len+bu.length))) e)):=by
               have abL:(xs++vs).toArray=xs.toArray++vs.toArray:=by apply Array.ext';simp
               rw [abL]
               obtain ⟨vh,⟨rfl,acq⟩|⟨rfl,nc,mi⟩⟩:=hA
               ·exact hA.grow (by omega) vh len kp xs x1 acq (by omega) (by omega) (growslice_fits (by omega) (by rw [← hm];exact Bl)) (by omega)
               ·subst nc;subst mi
                have acr:xs=[]:=List.length_eq_zero_iff.1 (by rw [x1];simp)
                subst acr
                have:=hA.nil (by omega) (by omega) (by omega)
                simpa using this
              obtain ⟨bH,q1,q2⟩:=IG (e:=e) (i:=i) (m:=m) (nw:=xs++vs) (st:=Builtin.zeroCells ez.cells (grownCap w (len+bu.length) kp e-(len+bu.length))) (cap:=grownCap w (len+bu.length) kp e) h eQ AV AW.symm
               (by rw [List.length_append,x1,v1,AW,hm,Nat.add_mul]) (fun u hu=>by
                 rw [List.mem_append] at hu
                 rcases hu with cx|cx
                 ·exact aE _ cx
                 ·exact v3 _ cx) (by rw [size_zeroCells,lv,hm]) (by omega) (by omega) Pu rfl
              have pr:(s.setRow aR [⟨i.size,ak.es.take len++bu,.live⟩]).ak r k=some ak:=by rw [lo,if_neg (Ne.symm dk)];exact an
              obtain ⟨rs,BZ⟩:=q1.gone rk pr
              refine ⟨.slice (some ⟨w.heap.size,0,none⟩) m (grownCap w (len+bu.length) kp e),_,bH,?_,rs,BZ _ _ q2⟩
              rw [hm];exact iJ
         ·simp at av
      ·simp at av
     ·exact absurd trivial aaL
  ·simp at av
end
end
section
variable {P:Program} {g:G} {s:S} {aw:fj} {a:Act} {w:World}
theorem z5 {sz:Nat}: ∀ {es:List (List az)},(∀e∈es,e.length=sz)→es.flatten.length=es.length*sz
 | [],_=>by simp
 | e::es,h=>by
  rw [List.flatten_cons,List.length_append,z5 fun x R=>h x (by simp [R]),h e (by simp),List.length_cons,Nat.add_mul];omega
theorem cF.putAt (h:cF g s aw a w){r k p b M:Nat}{row:List ad}{ak:ad}(aq:s.aT r=some row)(an:s.ak r k=some ak)(a5:ak.ch = .live)(lx:aw r k=some (b,M)){bu gf:List (List az)}{vs:List Value}
 (hlen : ∀x∈bu,x.length=ak.sz) (v1:vs.length=bu.length*ak.sz) (v3 : ∀u∈vs,u.oneCell'=true) (v4 : ∀(j:Nat) x u,bu.flatten[j]? = some x→vs[j]? = some u→Rel w (s.ok g aw w) s.a1 (s.a9 aw) x u)
 (aj:p+bu.length≤ak.es.length) (q:Nat) (hh:gf=(ak.es.take p++bu++ak.es.drop (p+bu.length)).take q) :
 ∃cf mh,w.heap[b]? = some (.cells cf mh (0,0))∧cf.size=M∧ak.es.length*ak.sz≤M∧p*ak.sz+vs.length≤cf.size ∧
  cF g (s.setRow r (row.set k {ak with es:=gf})) aw a (w.setRow b (cf.toList.take (p*ak.sz)++vs++cf.toList.drop (p*ak.sz+vs.length)).toArray) ∧
  ∀x v,Rel w (s.ok g aw w) s.a1 (s.a9 aw) x v→Rel (w.setRow b (cf.toList.take (p*ak.sz)++vs++cf.toList.drop (p*ak.sz+vs.length)).toArray) ((s.setRow r (row.set k {ak with es:=gf})).ok g aw (w.setRow b (cf.toList.take (p*ak.sz)++vs++cf.toList.drop (p*ak.sz+vs.length)).toArray)) (s.setRow r (row.set k {ak with es:=gf})).a1 ((s.setRow r (row.set k {ak with es:=gf})).a9 aw) x v:=by
 have fo:=h.obj r k ak an
 rw [lx] at fo
 obtain ⟨cf,mh,g1,g2,g3,g4⟩:=fo
 have jB:=z5 g3
 have d9:ak.es.length*ak.sz≤M:=by
  rcases Nat.eq_zero_or_pos ak.es.flatten.length with h0|jW
  ·omega
  ·obtain ⟨v,e1,-⟩:=g4 (ak.es.flatten.length-1) _ (List.getElem?_eq_getElem (by omega))
   have:=(Array.getElem?_eq_some_iff.1 e1).1
   omega
 have hmul:p*ak.sz+bu.length*ak.sz≤ak.es.length*ak.sz:=by rw [← Nat.add_mul];exact Nat.mul_le_mul_right _ aj
 have h5:p*ak.sz+vs.length≤cf.size:=by omega
 refine ⟨cf,mh,g1,g2,d9,h5,?_⟩
 have abM : ∀e∈ak.es.take p++bu++ak.es.drop (p+bu.length),e.length=ak.sz:=by
  intro e he
  simp only [List.mem_append] at he
  rcases he with (he|he)|he
  ·exact g3 e (List.mem_of_mem_take he)
  ·exact hlen e he
  ·exact g3 e (List.mem_of_mem_drop he)
 have hA:(ak.es.take p).flatten.length=p*ak.sz:=by rw [z5 fun e he=>g3 e (List.mem_of_mem_take he),List.length_take];congr 1;omega
 have gU:(ak.es.take (p+bu.length)).flatten.length=p*ak.sz+bu.length*ak.sz:=by rw [z5 fun e he=>g3 e (List.mem_of_mem_take he),List.length_take,← Nat.add_mul];congr 1;omega
 have adD:bu.flatten.length=bu.length*ak.sz:=z5 hlen
 have h1 : ∀j,j<p*ak.sz→(ak.es.take p).flatten[j]? = ak.es.flatten[j]? := fun j aC=>by
  conv=>rhs;rw [← List.take_append_drop p ak.es,List.flatten_append,List.getElem?_append_left (by omega)]
 have h2 : ∀j,(ak.es.drop (p+bu.length)).flatten[j]? = ak.es.flatten[p*ak.sz+bu.length*ak.sz+j]? := fun j=>by
  conv=>rhs;rw [← List.take_append_drop (p+bu.length) ak.es,List.flatten_append,List.getElem?_append_right (by omega),gU]
  congr 1;omega
 refine h.write aq an a5 lx gf _ mh (setRow_heap w b cf _ mh _ g1) (size_setRow _ _ _) (fun q a8=>setRow_other w b q _ a8) rfl rfl rfl (by rw [← g2];simp;omega) ?_ ?_
 ·intro e he
  rw [hh] at he
  exact abM e (List.mem_of_mem_take he)
 ·intro j x R
  have dy:(ak.es.take p++bu++ak.es.drop (p+bu.length)).flatten[j]? = some x:=by
   rw [hh] at R
   have aC:=(List.getElem?_eq_some_iff.1 R).1
   conv=>lhs;rw [← List.take_append_drop q (ak.es.take p++bu++ak.es.drop (p+bu.length)),List.flatten_append,List.getElem?_append_left aC]
   exact R
  rw [List.flatten_append,List.flatten_append] at dy
  simp only [List.getElem?_toArray]
  have iq:(cf.toList.take (p*ak.sz)).length=p*ak.sz:=by rw [List.length_take,Array.length_toList];omega
  by_cases br:j<p*ak.sz
  ·rw [List.append_assoc,List.getElem?_append_left (by omega),h1 j br] at dy
   obtain ⟨v,e1,e2,bO⟩:=g4 j x dy
   refine ⟨v,?_,e2,bO⟩
   rw [List.append_assoc,List.getElem?_append_left (by omega),List.getElem?_take,if_pos br,Array.getElem?_toList];exact e1
  ·by_cases cb:j<p*ak.sz+vs.length
   ·rw [List.append_assoc,List.getElem?_append_right (by omega),hA,List.getElem?_append_left (by omega)] at dy
    have bc:j-p*ak.sz<vs.length:=by omega
    refine ⟨vs[j-p*ak.sz],?_,v3 _ (List.getElem_mem bc),v4 _ _ _ dy (List.getElem?_eq_getElem bc)⟩
    rw [List.append_assoc,List.getElem?_append_right (by omega),iq,List.getElem?_append_left (by omega)]
    exact List.getElem?_eq_getElem bc
   ·rw [List.getElem?_append_right (by rw [List.length_append];omega),List.length_append,hA,adD,h2] at dy
    rw [show p*ak.sz+bu.length*ak.sz+(j-(p*ak.sz+bu.length*ak.sz))=j by omega] at dy
    obtain ⟨v,e1,e2,bO⟩:=g4 j x dy
    refine ⟨v,?_,e2,bO⟩
    rw [List.getElem?_append_right (by rw [List.length_append];omega),List.length_append,iq,List.getElem?_drop,Array.getElem?_toList]
    rw [show p*ak.sz+vs.length+(j-(p*ak.sz+vs.length))=j by omega];exact e1
end
section
variable {P:Program} {g:G} {s:S} {aw:fj} {a:Act} {w:World} {aR:Nat} {bw:hT}
theorem aaf (h:cF g s aw a w){x y:az}{qU ni:Value}{t c6 eC:TypeId}(av:nz P s.E s.aT aR .append [x,y] [t,c6] .fM=some bw)(ct:∀p∈bw.fr,p)
 (R:Rel w (s.ok g aw w) s.a1 (s.a9 aw) x qU) (a0:Rel w (s.ok g aw w) s.a1 (s.a9 aw) y ni) :
 ∃v bJ,(Builtin.append_ #[t,c6] eC #[qU,ni]).run P w = .ok v bJ∧cF g (s.hM bw.fE) aw a bJ∧Rel bJ ((s.hM bw.fE).ok g aw bJ) (s.hM bw.fE).a1 ((s.hM bw.fE).a9 aw) bw.val v:=by
 simp only [nz] at av
 split at av
 ·simp at av
 ·rename_i e he
  have hu:=ra he
  split at av
  ·rename_i i z ao cm
   split at av
   ·simp at av
   ·rename_i ba
    simp only [not_or,Decidable.not_not] at ba
    obtain ⟨nb,jW,ya⟩:=ba
    split at av
    ·simp at av
    ·rename_i bu ae qC
     split at av
     ·rename_i r k len
      split at av
      ·simp at av
      ·rename_i row dr
       split at av
       ·simp at av
       ·rename_i ak bl
        split at av
        ·rename_i uW
         obtain ⟨nB,eU⟩:=uW
         simp only [Option.some.injEq] at av
         subst av
         have an:s.ak r k=some ak:=by unfold S.ak;rw [dr];exact bl
         have h5:len+bu.length≤ak.es.length:=ct _ (by simp)
         have Bl:bu.length*i.bytes≤140737488355328:=ct _ (by simp)
         obtain ⟨ez,vs,kU,lv,hA,hlen,v1,v3,v4⟩:=Oq (eC:=eC) h hu ao cm nb jW qC (fun p aj=>ct p (by simp [aj])) a0
         rw [← eU] at v1
         have Qq : ∀x∈bu,x.length=ak.sz:=fun x R=>by rw [hlen x R,eU]
         have hh:ak.es.take len++bu=(ak.es.take len++bu++ak.es.drop (len+bu.length)).take (len+bu.length) :=
          (List.take_left' (by rw [List.length_append,List.length_take];omega)).symm
         rcases R.uu (il an) with ⟨aj,-,rfl,rfl⟩|⟨b,M,oa,kp,aj,rfl,qG,se,d9,l5⟩
         ·have fo:=h.obj r k ak an
          rw [aj] at fo
          simp only [i7] at fo
          rw [fo] at h5
          have h0:bu.length=0:=by simp at h5;exact List.length_eq_zero_iff.2 h5
          have uX:bu=[]:=List.length_eq_zero_iff.1 h0
          subst uX
          have k5:row.set k {ak with es:=ak.es.take 0++[]}=row:=by
           have h1:({ak with es:=ak.es.take 0++[]}:ad)=ak:=by cases ak;simp only [] at fo;subst fo;rfl
           rw [h1]
           have h2:row[k]? = some ak:=by
            unfold dc at bl
            simp only at bl
            split at bl
            ·rename_i b0 dK
             split at bl
             ·simp at bl
             ·simp at bl;rw [← bl];exact dK
            ·simp at bl
           exact List.ext_getElem? fun j=>by
            rw [List.getElem?_set]
            split
            ·rename_i e;subst e
             have:=(List.getElem?_eq_some_iff.1 h2).1
             rw [if_pos this,h2]
            ·rfl
          refine ⟨_,w,hA.zero h0 none 0 0 (Nat.le_refl _),?_⟩
          have eh:s.setRow r row=s:=by
           have:(fun q=>if q=r then some row else s.aT q)=s.aT:=by
            funext q;split
            ·rename_i e;rw [e,dr]
            ·rfl
           show ({s with aT:=_}:S)=s
           rw [this]
          show cF g (s.setRow r (row.set k {ak with es:=ak.es.take 0++[]})) aw a w∧Rel w ((s.setRow r (row.set k {ak with es:=ak.es.take 0++[]})).ok g aw w) (s.setRow r (row.set k {ak with es:=ak.es.take 0++[]})).a1 ((s.setRow r (row.set k {ak with es:=ak.es.take 0++[]})).a9 aw) (.bk r k 0 0) (.slice none 0 0)
          rw [k5,eh]
          exact ⟨h,R⟩
         ·obtain ⟨cf,mh,br,cb,jg,pA,ob,su⟩:=h.putAt dr an nB aj Qq v1 v3 v4 h5 (len+bu.length) hh
          have hle:ak.es.length≤kp:=by
           rw [Nat.zero_add] at d9
           rw [← d9] at jg
           exact Nat.le_of_mul_le_mul_right jg (by omega)
          by_cases mi:kp=0
          ·have h0:bu.length=0:=by omega
           have nc:len=0:=by omega
           subst nc
           have uX:bu=[]:=List.length_eq_zero_iff.1 h0
           subst uX
           have K2:vs=[]:=List.length_eq_zero_iff.1 (by simpa using v1)
           subst K2
           have hw:w.setRow b (cf.toList.take (0*ak.sz)++[]++cf.toList.drop (0*ak.sz+0)).toArray=w:=by
            simp only [Nat.zero_mul,List.take_zero,List.nil_append,Nat.zero_add,List.drop_zero,Array.toArray_toList]
            exact setRow_self w b cf mh (0,0) br
           simp only [List.length_nil] at ob su
           rw [hw] at ob su
           exact ⟨_,w,hA.zero h0 oa 0 kp (Nat.zero_le _),ob,su _ _ R⟩
          ·have Bm:oa=some ⟨b,0,none⟩:=by
            rcases l5 with cx|cx
            ·exact absurd cx mi
            ·simpa using cx
           subst Bm
           by_cases h0:bu.length=0
           ·have uX:bu=[]:=List.length_eq_zero_iff.1 h0
            subst uX
            have K2:vs=[]:=List.length_eq_zero_iff.1 (by simpa using v1)
            subst K2
            have hw:w.setRow b (cf.toList.take (len*ak.sz)++[]++cf.toList.drop (len*ak.sz+0)).toArray=w:=by
             simp only [List.append_nil,Nat.add_zero,List.take_append_drop,Array.toArray_toList]
             exact setRow_self w b cf mh (0,0) br
            simp only [List.length_nil] at ob su
            rw [hw] at ob su
            exact ⟨_,w,hA.zero h0 _ len kp qG,ob,su _ _ R⟩
           ·have iJ:=hA.room (by omega) b len kp cf mh br (by omega) (by rw [← eU];exact pA) Bl
            rw [← eU] at iJ
            refine ⟨_,_,iJ,ob,?_⟩
            have AN:(s.setRow r (row.set k {ak with es:=ak.es.take len++bu})).ak r k=some {ak with es:=ak.es.take len++bu}:=by
             rw [lo,if_pos rfl,OR row k ak _ bl (by simp [nB]),if_pos rfl]
            show Rel _ ((s.setRow r (row.set k {ak with es:=ak.es.take len++bu})).ok g aw _) (s.setRow r (row.set k {ak with es:=ak.es.take len++bu})).a1 ((s.setRow r (row.set k {ak with es:=ak.es.take len++bu})).a9 aw) (.bk r k 0 (len+bu.length)) _
            refine .bk (sz:=ak.sz) (dT:=b) (m:=M) (Dk AN) ((il AN).trans (by rw [aj])) (by omega) se ⟨d9,.inr (by simp)⟩
        ·simp at av
     ·simp at av
  ·simp at av
end
section
variable {P:Program} {g:G} {s:S} {aw:fj} {a:Act} {w:World} {aR:Nat} {bw:hT}
theorem NI {s:S}{r k:Nat}{row:List ad}{ak:ad}(aq:s.aT r=some row)(an:dc (some row) k=some ak):s.setRow r (row.set k ak)=s:=by
 have h2:row[k]? = some ak:=by
  unfold dc at an
  simp only at an
  split at an
  ·rename_i b0 dK
   split at an
   ·simp at an
   ·simp at an;rw [← an];exact dK
  ·simp at an
 have ab:row.set k ak=row:=List.ext_getElem? fun j=>by
  rw [List.getElem?_set]
  split
  ·rename_i e;subst e
   have:=(List.getElem?_eq_some_iff.1 h2).1
   rw [if_pos this,h2]
  ·rfl
 rw [ab]
 have:(fun q=>if q=r then some row else s.aT q)=s.aT:=by
  funext q;split
  ·rename_i e;rw [e,aq]
  ·rfl
 show ({s with aT:=_}:S)=s
 rw [this]
theorem X6 {e:TypeId}{i:TypeInfo}{z:List az}{ez:Value}(lv:ez.cells.size=i.size)(nb:z.length=i.size)(jW:i.size≠0)
 (tf : ∀(j:Nat) x,z[j]? = some x→ ∃v,ez.cells[j]? = some v∧j4 v=true∧ ∀(w:World) (ok:Nat→Prop) (a1:iW) (a9:iN),Rel w ok a1 a9 x v) (m:Nat) :
 (Builtin.zeroCells ez.cells m).toList.length=m*i.size∧(∀u∈(Builtin.zeroCells ez.cells m).toList,u.oneCell'=true) ∧
   ∀(j:Nat) x u,(List.replicate m z).flatten[j]? = some x→(Builtin.zeroCells ez.cells m).toList[j]? = some u→ ∀(w:World) (ok:Nat→Prop) (a1:iW) (a9:iN),Rel w ok a1 a9 x u:=by
 have lO : ∀(j:Nat) u,(Builtin.zeroCells ez.cells m).toList[j]? = some u→ez.cells[j % i.size]? = some u:=by
  intro j u nA
  have aC:=(List.getElem?_eq_some_iff.1 nA).1
  rw [Array.length_toList,size_zeroCells,lv] at aC
  have dC:j % i.size<ez.cells.size:=by rw [lv];exact Nat.mod_lt _ (by omega)
  rw [Array.getElem?_toList,Builtin.zeroCells,Array.getElem?_map,lv,Array.getElem?_range] at nA
  rw [if_pos aC] at nA
  simp only [Option.map_some,Option.some.injEq] at nA
  rw [← nA,Array.getElem?_eq_getElem dC,getElem!_pos ez.cells _ dC]
 refine ⟨?_,?_,?_⟩
 ·rw [Array.length_toList,size_zeroCells,lv]
 ·intro u qI
  obtain ⟨j,aC⟩:=List.getElem?_of_mem qI
  have h1:=lO j u aC
  have dC:j % i.size<z.length:=by rw [nb];exact Nat.mod_lt _ (by omega)
  obtain ⟨v,v1,v2,-⟩:=tf _ _ (List.getElem?_eq_getElem dC)
  rw [h1] at v1
  obtain rfl:=Option.some.inj v1
  exact v2
 ·intro j x u R nA
  rw [oU (sz:=i.size) (by omega) _ (fun eJ lL=>by rw [List.mem_replicate] at lL;rw [lL.2,nb])] at R
  have h1:=lO j u nA
  cases a8:(List.replicate m z)[j / i.size]? with
  | none=>rw [a8] at R;simp at R
  | some eJ =>
   have:=List.mem_of_getElem? a8
   rw [List.mem_replicate] at this
   rw [a8,this.2] at R
   simp only [Option.bind_some] at R
   obtain ⟨v,v1,-,v3⟩:=tf _ _ R
   rw [h1] at v1
   obtain rfl:=Option.some.inj v1
   exact v3
theorem Zs (h:cF g s aw a w){r k len:Nat}{y:az}{qU ni:Value}{t c6 eC:TypeId}{cG:fu}(av:nz P s.E s.aT aR .copy [.bk r k 0 len,y] [t,c6] cG=some bw)(ct:∀p∈bw.fr,p)
 (R:Rel w (s.ok g aw w) s.a1 (s.a9 aw) (.bk r k 0 len) qU) (a0:Rel w (s.ok g aw w) s.a1 (s.a9 aw) y ni) :
 ∃n bJ,(Builtin.copy_ #[t,c6] eC #[qU,ni]).run P w = .ok (goInt n) bJ∧cF g (s.hM bw.fE) aw a bJ∧bw.val = .n .i64 n:=by
 simp only [nz] at av
 split at av
 ·simp at av
 ·rename_i e he
  have hu:=ra he
  split at av
  ·simp at av
  ·rename_i i ao
   split at av
   ·simp at av
   ·rename_i bu ae qC
    split at av
    ·simp at av
    ·rename_i row dr
     split at av
     ·simp at av
     ·rename_i ak bl
      split at av
      ·rename_i uW
       obtain ⟨nB,eU,jW⟩:=uW
       simp only [Option.some.injEq] at av
       subst av
       have an:s.ak r k=some ak:=by unfold S.ak;rw [dr];exact bl
       have h5:bu.length≤len:=ct _ (by simp)
       have hle:len≤ak.es.length:=ct _ (by simp)
       obtain ⟨A,c,rfl,hlen,K0⟩:=OT h qC (fun p aj=>ct p (by simp [aj])) a0
       show ∃n bJ,_∧cF g (s.setRow r (row.set k {ak with es:=bu++ak.es.drop bu.length})) aw a bJ∧_
       by_cases h0:bu.length=0
       ·have uX:bu=[]:=List.length_eq_zero_iff.1 h0
        subst uX
        refine ⟨0,w,?_,?_,rfl⟩
        ·rcases R.uu (il an) with ⟨-,-,rfl,rfl⟩|⟨b,M,oa,kp,-,rfl,-,-,-,-⟩
         ·cases A<;>simp [Builtin.copy_,run_underlying hu,sizeOf,typeInfo,ao,Builtin.lenOf,Builtin.firstCells,loadCells,loadCellsFrom]
         ·cases A<;>cases oa<;>simp [Builtin.copy_,run_underlying hu,sizeOf,typeInfo,ao,Builtin.lenOf,Builtin.firstCells,loadCells,loadCellsFrom,storeCells]
        ·rw [show ({ak with es:=[]++ak.es.drop ([]:List (List az)).length}:ad)=ak from rfl,NI dr bl];exact h
       ·obtain ⟨dT,off,rfl,h8⟩:=K0.resolve_left h0
        obtain ⟨vs,v1,v2,v3,v4⟩:=h8.nw
        rw [← eU] at v1
        rcases R.uu (il an) with ⟨-,-,rfl,-⟩|⟨b,M,oa,kp,aj,rfl,qG,se,d9,l5⟩
        ·exact absurd (Nat.le_zero.1 h5) h0
        ·have Bm:oa=some ⟨b,0,none⟩:=by
          rcases l5 with cx|cx
          ·exact absurd (show bu.length=0 by omega) h0
          ·simpa using cx
         subst Bm
         obtain ⟨cf,mh,br,cb,jg,pA,ob,-⟩:=h.putAt (p:=0) dr an nB aj (fun x R=>by rw [hlen x R,eU]) v1 v3 v4 (by omega) ak.es.length (gf:=bu++ak.es.drop bu.length)
          (by rw [List.take_zero,List.nil_append,Nat.zero_add];exact (List.take_of_length_le (by simp;omega)).symm)
         simp only [Nat.zero_mul,Nat.zero_add,List.take_zero,List.nil_append] at pA ob
         have aV:=run_firstCells_some (P:=P) w i.size bu.length ⟨dT,off,none⟩ bu.length c vs (by rw [v1,eU]) v2
         have l4:=run_storeCells_at P b 0 mh vs 0 cf w br (by simpa using pA) v3
         simp only [Nat.add_zero,List.take_zero,List.nil_append,Nat.zero_add] at l4
         refine ⟨bu.length,_,?_,ob,rfl⟩
         simp [Builtin.copy_,run_underlying hu,sizeOf,typeInfo,ao,Builtin.lenOf,Nat.min_eq_left h5,aV,l4]
      ·simp at av
theorem YD (h:cF g s aw a w){r k len:Nat}{qU:Value}{t eC:TypeId}{cG:fu}(av:nz P s.E s.aT aR .clear [.bk r k 0 len] [t] cG=some bw)(ct:∀p∈bw.fr,p)
 (R:Rel w (s.ok g aw w) s.a1 (s.a9 aw) (.bk r k 0 len) qU) :
 ∃bJ,(Builtin.clear_ #[t] eC #[qU]).run P w = .ok (.tuple #[]) bJ∧cF g (s.hM bw.fE) aw a bJ∧bw.val = .dS []:=by
 simp only [nz] at av
 split at av
 ·simp at av
 ·rename_i e he
  have hu:=ra he
  split at av
  ·rename_i i z ao cm
   split at av
   ·simp at av
   ·rename_i row dr
    split at av
    ·simp at av
    ·rename_i ak bl
     split at av
     ·rename_i uW
      obtain ⟨nB,eU,nb,jW⟩:=uW
      simp only [Option.some.injEq] at av
      subst av
      have an:s.ak r k=some ak:=by unfold S.ak;rw [dr];exact bl
      have hle:ak.es.length=len:=ct _ (by simp)
      show ∃bJ,_∧cF g (s.setRow r (row.set k {ak with es:=List.replicate len z})) aw a bJ∧_
      by_cases h0:len=0
      ·subst h0
       refine ⟨w,?_,?_,rfl⟩
       ·rcases R.uu (il an) with ⟨-,-,-,rfl⟩|⟨b,M,oa,kp,-,rfl,-,-,-,-⟩
        ·simp [Builtin.clear_,run_underlying hu]
        ·cases oa<;>simp [Builtin.clear_,run_underlying hu]
       ·rw [show ({ak with es:=List.replicate 0 z}:ad)=ak by rw [List.replicate_zero,← List.length_eq_zero_iff.1 hle],NI dr bl];exact h
      ·obtain ⟨eA,ez,kz,kU,pz,tf⟩:=zS cm
       rw [ao] at kz;simp at kz;subst kz
       have lv:ez.cells.size=i.size:=by rw [← nb,pz];simp
       rcases R.uu (il an) with ⟨-,-,rfl,-⟩|⟨b,M,oa,kp,aj,rfl,qG,se,d9,l5⟩
       ·exact absurd rfl h0
       ·have Bm:oa=some ⟨b,0,none⟩:=by
         rcases l5 with cx|cx
         ·exact absurd (show len=0 by omega) h0
         ·simpa using cx
        subst Bm
        obtain ⟨v1,v3,v4⟩:=X6 (e:=e) lv nb jW tf len
        rw [← eU] at v1
        obtain ⟨cf,mh,br,cb,jg,pA,ob,-⟩:=h.putAt (p:=0) (bu:=List.replicate len z) dr an nB aj (fun x R=>by rw [List.mem_replicate] at R;rw [R.2,nb,eU]) (by simpa using v1) v3 (fun j x u h1 h2=>v4 j x u h1 h2 _ _ _ _)
         (by simp;omega) len (gf:=List.replicate len z)
         (by simp [hle])
        simp only [Nat.zero_mul,Nat.zero_add,List.take_zero,List.nil_append] at pA ob
        have l4:=run_storeCells_at P b 0 mh (Builtin.zeroCells ez.cells len).toList 0 cf w br (by simpa using pA) v3
        simp only [Nat.add_zero,List.take_zero,List.nil_append,Nat.zero_add] at l4
        refine ⟨_,?_,ob,rfl⟩
        cases len with
        | zero=>exact absurd rfl h0
        | succ n=>simp [Builtin.clear_,run_underlying hu,zeroValue,typeInfo,ao,kU,l4]
     ·simp at av
  ·simp at av
end
section
variable {g:G} {s:S} {aw:fj} {a:Act} {w:World}
def lG (row:List ad):List ad:=row.map fun o=>if o.ch = .live then {o with ch:= .iK} else o
theorem OU (row:List ad)(k:Nat):dc (some (lG row)) k=(dc (some row) k).map fun o=>if o.ch = .live then {o with ch:= .iK} else o:=by
 simp only [dc,lG,List.getElem?_map]
 cases row[k]? with
 | none=>rfl
 | some o =>
  obtain ⟨sz,es,ch⟩:=o
  cases ch<;>simp
theorem cF.freeze (h:cF g s aw a w){r:Nat}{row:List ad}(aq:s.aT r=some row):cF g (s.setRow r (lG row)) aw a w:=by
 have bl : ∀q k o,(s.setRow r (lG row)).ak q k=some o→ ∃p,s.ak q k=some p∧o.sz=p.sz∧o.es=p.es∧(o.ch = .live→p.ch = .live∧q≠r):=by
  intro q k o an
  by_cases e:q=r
  ·subst e
   have:(s.setRow q (lG row)).aT q=some (lG row):=by simp [S.setRow]
   unfold S.ak at an
   rw [this,OU] at an
   rw [Option.map_eq_some_iff] at an
   obtain ⟨p,aj,rfl⟩:=an
   refine ⟨p,by unfold S.ak;rw [aq];exact aj,?_⟩
   split<;>simp_all
  ·have:(s.setRow r (lG row)).aT q=s.aT q:=by simp [S.setRow,e]
   unfold S.ak at an
   rw [this] at an
   exact ⟨o,an,rfl,rfl,fun aV=>⟨aV,e⟩⟩
 have jd : ∀q k,s.a1 q k→(s.setRow r (lG row)).a1 q k:=CX s aq (by simp [lG])
 have k8 : ∀q k,(s.setRow r (lG row)).a9 aw q k=s.a9 aw q k:=by
  intro q k
  by_cases e:q=r
  ·subst e
   simp only [S.a9,S.ak]
   have:(s.setRow q (lG row)).aT q=some (lG row):=by simp [S.setRow]
   rw [this,OU,aq]
   cases dc (some row) k with
   | none=>rfl
   | some o=>simp only [Option.map_some,Option.some.injEq,Prod.mk.injEq,and_true];split<;>rfl
  ·have:(s.setRow r (lG row)).aT q=s.aT q:=by simp [S.setRow,e]
   simp [S.a9,S.ak,this]
 have dt:Step g s aw w (s.setRow r (lG row)) aw w:=⟨jd,fun q k _=> .inl (k8 q k),fun b aV=>by
  obtain ⟨q,k,o,m,h1,h2,ab⟩:=aV
  obtain ⟨p,p1,p2,rs,BZ⟩:=bl q k o h1
  exact .inl ⟨q,k,p,m,p1,(BZ h2).1,ab⟩,fun _ _ _=>rfl,Nat.le_refl _⟩
 refine {tohS:=⟨?_,?_,?_,h.gL,h.mlt,h.m7,?_,h.low⟩,env:=fun t=>dt.rel (h.env t),defers:=h.defers,jA:=h.jA}
 ·intro q k o an
  obtain ⟨p,p1,p2,rs,-⟩:=bl q k o an
  have aj:=dt.obj (fun b m _=>rfl) (h.obj q k p p1)
  cases lx:aw q k with
  | none=>rw [lx] at aj;simp only [i7] at aj ⊢;rw [rs];exact aj
  | some x =>
   obtain ⟨b,m⟩:=x
   rw [lx] at aj
   obtain ⟨c,eC,e1,e2,bO,c5⟩:=aj
   exact ⟨c,eC,e1,e2,by rw [p2,rs];exact bO,by rw [rs];exact c5⟩
 ·intro q k o hq d4 b0 b m cq h1 h2 ab au
  obtain ⟨p,p1,-⟩:=bl q k o h1
  obtain ⟨ka,acs,-⟩:=bl hq d4 b0 h2
  exact h.inj q k p hq d4 ka b m cq p1 acs ab au
 ·intro q k o b m h1 h2
  obtain ⟨p,p1,-⟩:=bl q k o h1
  exact h.own q k p b m p1 h2
 ·intro j k aC
  obtain ⟨e1,e2⟩:=h.stay j k aC
  exact ⟨jd j k e1,by rw [k8];exact e2⟩
end
def xI (P:Program)(t:TypeId):Bool :=
 match P.underlying t with
 | some (.pointer _)=>true
 | _=>false
def yg (P:Program)(E:Nat→az)(aT:Nat→Option (List ad))(aR:Nat)(o:Oper)(cG:fu):Option hT :=
 match o.op with
 | .call {callee:= .builtin b,args,argTypes}=>match b with
  | .len=>eN P E aT aR o cG
  | b=>nz P E aT aR b (args.toList.map (e9 E)) argTypes.toList cG
 | .binOp op t x y _=>match cG,op,e9 E x,e9 E y with
  | .fM,.eql,.isl _ es,.ei=>if (ph P t).isSome then some {val:= .b false,fr:=[es≠[]]} else none
  | .fM,.neq,.isl _ es,.ei=>if (ph P t).isSome then some {val:= .b true,fr:=[es≠[]]} else none
  | .fM,.eql,.jX _ none,.hR=>if xI P t then some {val:= .b true} else none
  | .fM,.neq,.jX _ none,.hR=>if xI P t then some {val:= .b false} else none
  | .fM,.eql,.jX _ (some _),.hR=>if xI P t then some {val:= .b false} else none
  | .fM,.neq,.jX _ (some _),.hR=>if xI P t then some {val:= .b true} else none
  | .fM,_,_,_=>none
  | _,_,_,_=>eN P E aT aR o cG
 | .nilCheck x=>match cG,e9 E x with
  | .fM,.jX sz (some c)=>some {val:= .d7 sz [c] 0 0}
  | .fM,_=>none
  | _,_=>eN P E aT aR o cG
 | _=>eN P E aT aR o cG
section
variable {P:Program} {g:G} {s:S} {aw:fj} {a:Act} {w:World} {o:Oper} {cG:fu} {aR:Nat} {bw:hT}
theorem Dy {args:Array Operand}{E:Nat→az}{x y:az}(h:args.toList.map (e9 E)=[x,y]): ∃p q,args = #[p,q]∧e9 E p=x∧e9 E q=y:=by
 obtain ⟨l⟩:=args
 match l,h with
 | [p,q],h=>simp at h;exact ⟨p,q,rfl,h.1,h.2⟩
theorem aag {args:Array Operand}{E:Nat→az}{x:az}(h:args.toList.map (e9 E)=[x]): ∃p,args = #[p]∧e9 E p=x:=by
 obtain ⟨l⟩:=args
 match l,h with
 | [p],h=>simp at h;exact ⟨p,rfl,h⟩
theorem De {t:TypeId}(h:xI P t=true): ∃e,P.underlying t=some (.pointer e):=by
 unfold xI at h
 split at h
 ·rename_i e he;exact ⟨e,he⟩
 ·simp at h
theorem YE (h:cF g s aw a w)(eQ:s.aT aR=none)(av:yg P s.E s.aT aR o cG=some bw)(ct:∀p∈bw.fr,p):Fin P g s a w o bw:=by
 unfold yg at av
 split at av
 ·rename_i b args mL an
  split at av
  ·exact Dd h eQ av ct
  ·rename_i b aP
   unfold nz at av
   split at av
   ·rename_i x y t c6 m LS hargs n0
    have uJ:nz P s.E s.aT aR .append [x,y] [t,c6] (.aG m LS)=some bw:=av
    obtain ⟨p,q,rfl,rfl,rfl⟩:=Dy hargs
    obtain ⟨l⟩:=mL
    simp only at n0
    subst n0
    obtain ⟨v,bJ,bH,h1,h2,ab⟩:=X5 (eC:=o.type) h eQ uJ ct (h.eval p) (h.eval q)
    exact ⟨v,bJ,bH,.inl (by simp [execOp,an,resolve,invoke,builtin,h1]),h2,ab⟩
   ·rename_i x y t c6 hargs n0
    have uJ:nz P s.E s.aT aR .append [x,y] [t,c6] .fM=some bw:=av
    obtain ⟨p,q,rfl,rfl,rfl⟩:=Dy hargs
    obtain ⟨l⟩:=mL
    simp only at n0
    subst n0
    obtain ⟨v,bJ,h1,h2,ab⟩:=aaf (eC:=o.type) h uJ ct (h.eval p) (h.eval q)
    exact ⟨v,bJ,aw,.inl (by simp [execOp,an,resolve,invoke,builtin,h1]),h2,ab⟩
   ·rename_i cG r k len y t c6 hargs n0
    have uJ:nz P s.E s.aT aR .copy [.bk r k 0 len,y] [t,c6] cG=some bw:=av
    obtain ⟨p,q,rfl,aj,rfl⟩:=Dy hargs
    obtain ⟨l⟩:=mL
    simp only at n0
    subst n0
    have R:=h.eval p
    rw [aj] at R
    obtain ⟨n,bJ,h1,h2,ab⟩:=Zs (eC:=o.type) h uJ ct R (h.eval q)
    refine ⟨goInt n,bJ,aw,.inl (by simp [execOp,an,resolve,invoke,builtin,h1]),h2,?_⟩
    rw [ab];exact .n _ _
   ·rename_i cG r k len t hargs n0
    have uJ:nz P s.E s.aT aR .clear [.bk r k 0 len] [t] cG=some bw:=av
    obtain ⟨p,rfl,aj⟩:=aag hargs
    obtain ⟨l⟩:=mL
    simp only at n0
    subst n0
    have R:=h.eval p
    rw [aj] at R
    obtain ⟨bJ,h1,h2,ab⟩:=YD (eC:=o.type) h uJ ct R
    refine ⟨.tuple #[],bJ,aw,.inl (by simp [execOp,an,resolve,invoke,builtin,h1]),h2,?_⟩
    rw [ab];exact .dS [] rfl (fun j x u aC=>by simp at aC)
   ·rename_i k x d4 y hargs
    split at av
    ·rename_i a5
     simp only [Option.some.injEq] at av
     subst av;subst a5
     obtain ⟨p,q,rfl,aj,a8⟩:=Dy hargs
     have R:=h.eval p
     have a0:=h.eval q
     rw [aj] at R;rw [a8] at a0
     refine ik (v:= .int k (if y<x then y else x)) h ?_ rfl (.n _ _)
     simp [execOp,an,resolve,invoke,builtin,Builtin.min_,R.oZ,a0.oZ,Builtin.min2]
    ·simp at av
   ·simp at av
 ·rename_i op t x y c6 an
  split at av
  ·rename_i sz es R a0
   split at av
   ·rename_i he
    obtain ⟨e,he⟩:=Option.isSome_iff_exists.1 he
    simp only [Option.some.injEq] at av
    subst av
    have h1:=h.eval x
    have h2:=h.eval y
    rw [R] at h1;rw [a0] at h2
    have dk:es≠[]:=ct _ (by simp)
    refine ik (v:= .bool false) h ?_ rfl (.b _)
    simp only [execOp,an]
    rw [Sem.run_bind,(PW (w:=w) (ra he) dk h1 h2 x y).1];rfl
   ·simp at av
  ·rename_i sz es R a0
   split at av
   ·rename_i he
    obtain ⟨e,he⟩:=Option.isSome_iff_exists.1 he
    simp only [Option.some.injEq] at av
    subst av
    have h1:=h.eval x
    have h2:=h.eval y
    rw [R] at h1;rw [a0] at h2
    have dk:es≠[]:=ct _ (by simp)
    refine ik (v:= .bool true) h ?_ rfl (.b _)
    simp only [execOp,an]
    rw [Sem.run_bind,(PW (w:=w) (ra he) dk h1 h2 x y).2];rfl
   ·simp at av
  ·rename_i sz R a0
   split at av
   ·rename_i ca
    obtain ⟨e,he⟩:=De ca
    simp only [Option.some.injEq] at av
    subst av
    have h1:=h.eval x
    have h2:=h.eval y
    rw [R] at h1;rw [a0] at h2
    have p4:Rel w (s.ok g aw w) s.a1 (s.a9 aw) .hR (a.eval x):=by rw [h1.OS];exact .hR
    refine ik (v:= .bool true) h ?_ rfl (.b _)
    simp only [execOp,an]
    rw [Sem.run_bind,(xt (w:=w) (r:=true) (by simp [rm,he]) p4 h2 x y).1];rfl
   ·simp at av
  ·rename_i sz R a0
   split at av
   ·rename_i ca
    obtain ⟨e,he⟩:=De ca
    simp only [Option.some.injEq] at av
    subst av
    have h1:=h.eval x
    have h2:=h.eval y
    rw [R] at h1;rw [a0] at h2
    have p4:Rel w (s.ok g aw w) s.a1 (s.a9 aw) .hR (a.eval x):=by rw [h1.OS];exact .hR
    refine ik (v:= .bool false) h ?_ rfl (.b _)
    simp only [execOp,an]
    rw [Sem.run_bind,(xt (w:=w) (r:=true) (by simp [rm,he]) p4 h2 x y).2];rfl
   ·simp at av
  ·rename_i sz c R a0
   split at av
   ·rename_i ca
    obtain ⟨e,he⟩:=De ca
    simp only [Option.some.injEq] at av
    subst av
    have h1:=h.eval x
    have h2:=h.eval y
    rw [R] at h1;rw [a0] at h2
    refine ik (v:= .bool false) h ?_ rfl (.b _)
    simp only [execOp,an]
    rw [Sem.run_bind,(xt (w:=w) (r:=false) (by simp [rm,he]) h1.JE h2 x y).1];rfl
   ·simp at av
  ·rename_i sz c R a0
   split at av
   ·rename_i ca
    obtain ⟨e,he⟩:=De ca
    simp only [Option.some.injEq] at av
    subst av
    have h1:=h.eval x
    have h2:=h.eval y
    rw [R] at h1;rw [a0] at h2
    refine ik (v:= .bool true) h ?_ rfl (.b _)
    simp only [execOp,an]
    rw [Sem.run_bind,(xt (w:=w) (r:=false) (by simp [rm,he]) h1.JE h2 x y).2];rfl
   ·simp at av
  ·simp at av
  ·exact Dd h eQ av ct
 ·rename_i x an
  split at av
  ·rename_i sz c R
   simp only [Option.some.injEq] at av
   subst av
   have h1:=h.eval x
   rw [R] at h1
   have h2:=h1.JE
   obtain ⟨dT,off,aP,hval,h8⟩:=h2.xA
   refine ik (v:=a.eval x) h ?_ rfl h2
   rw [hval]
   simp only [execOp,an,hval]
   rfl
  ·simp at av
  ·exact Dd h eQ av ct
 ·exact Dd h eQ av ct
end
end Go.VL
namespace Go.VL
set_option linter.unusedVariables false
set_option linter.unusedSimpArgs false
open Go
theorem rH {es:List (List az)}{j:Nat}{x:az}(h:es.flatten[j]? = some x): ∃e∈es,x∈e:=by
 have:=List.mem_of_getElem? h
 rw [List.mem_flatten] at this
 obtain ⟨e,he,R⟩:=this
 exact ⟨e,he,R⟩
theorem Rel.pure {w:World}{ok kL:Nat→Prop}{a1 mJ:iW}{a9 l3:iN}{x:az}{v:Value}(h:Rel w ok a1 a9 x v)(aj:Pure x)(mK:∀b,ok b→kL b):Rel w kL mJ l3 x v:=by
 induction h with
 | dead v=>exact .dead v
 | b x=>exact .b x
 | n k x=>exact .n k x
 | s x=>exact .s x
 | hR=>exact .hR
 | ei=>exact .ei
 | h7 a c=>exact .h7 a c
 | pe=>cases aj
 | ref=>cases aj
 | m0=>cases aj
 | nm=>cases aj
 | bk=>cases aj
 | mE=>cases aj
 | nu=>cases aj
 | jV sz a c h=>exact .jV sz a c h
 | isl cs aP nC aV ba hw iq aq ih =>
  cases aj with
  | isl h=>exact .isl cs (mK _ aP) nC aV ba hw iq fun j x R=>ih j x R (by obtain ⟨e,he,p5⟩:=rH R;exact h e he x p5)
 | d7 cs aP nC aV hw iq aq ih =>
  cases aj with
  | d7 h=>exact .d7 cs (mK _ aP) nC aV hw iq fun j x R=>ih j x R (by obtain ⟨e,he,p5⟩:=rH R;exact h e he x p5)
 | o1 sz=>exact .o1 sz
 | oD h ih =>
  cases aj with
  | oD aj=>exact .oD (ih (.d7 fun e he x R=>by rw [List.mem_singleton] at he;subst he;exact aj x R))
 | agg vs aV iq aq ih =>
  cases aj with
  | agg h=>exact .agg vs aV iq fun j x v R bc=>ih j x v R bc (h x (List.mem_of_getElem? R))
 | dS vs aV aq ih =>
  cases aj with
  | dS h=>exact .dS vs aV fun j x v R bc=>ih j x v R bc (h x (List.mem_of_getElem? R))
 | fn vs aV aq ih =>
  cases aj with
  | fn h=>exact .fn vs aV fun j x v R bc=>ih j x v R bc (h x (List.mem_of_getElem? R))
abbrev gw:=Nat→Nat→Option (Nat×Nat)
structure Down (q:az→Prop):Prop where
 agg : ∀c x,q (.agg c)→x∈c→q x
 dS : ∀c x,q (.dS c)→x∈c→q x
 fn : ∀f c x,q (.fn f c)→x∈c→q x
inductive hs (s:S) (aZ:gw) (b1:fX→Bool) (q:az→Prop):az→az→Prop
 | dead (x:az):hs s aZ b1 q x .dead
 | pure {x:az} (h:Pure x) (a8:q x):hs s aZ b1 q x x
 | ei (sz:Nat):hs s aZ b1 q .ei (.isl sz [])
 | h7 (sz:Nat):hs s aZ b1 q .h7 (.isl sz [])
 | DO (sz:Nat):hs s aZ b1 q .hR (.jX sz none)
 | jX {sz:Nat} {x:az} {c:List az} (h:hs s aZ b1 q x (.d7 sz [c] 0 0)):hs s aZ b1 q x (.jX sz (some c))
 | ref {r k j eA:Nat} (i off:Nat) (h:aZ j eA=some (r,k)) (hu:s.a1 r k):hs s aZ b1 q (.ref r k i off) (.ref j eA i off)
 | bk {r k j eA:Nat} (bQ len:Nat) (h:aZ j eA=some (r,k)) (hu:s.a1 r k):hs s aZ b1 q (.bk r k bQ len) (.bk j eA bQ len)
 | mE (r c sz:Nat):hs s aZ b1 q (.iE r c sz none) (.isl sz [])
 | nu {r c sz k n:Nat} {cA:az} (h:hs s aZ b1 q (.bk r (k+c) 0 n) cA):hs s aZ b1 q (.iE r c sz (some (k,n))) cA
 | iE {r eD c dH sz:Nat} (h:Option (Nat×Nat)) (hm : ∀k,aZ eD (k+dH)=some (r,k+c)):hs s aZ b1 q (.iE r c sz h) (.iE eD dH sz h)
 | d7 {r k:Nat} {o:ad} {gf:List (List az)} (i off:Nat) (an:s.ak r k=some o) (bA:b1 o.ch=true) (aq:(∀j i,aZ j i≠some (r,k))) (dk:o.es≠[]) (aj:jx gf) (hle : ∀e∈gf,e.length=o.sz) (aV:gf.length=o.es.length)
  (h : ∀(j:Nat) x cA,o.es.flatten[j]? = some x→gf.flatten[j]? = some cA→hs s aZ b1 q x cA):hs s aZ b1 q (.ref r k i off) (.d7 o.sz gf i off)
 | isl {r k bQ len:Nat} {o:ad} {gf:List (List az)} (an:s.ak r k=some o) (bA:b1 o.ch=true) (aq:(∀j i,aZ j i≠some (r,k))) (h5:bQ+len≤o.es.length) (aj:jx gf) (hle : ∀e∈gf,e.length=o.sz) (aV:gf.length=len)
  (h : ∀(j:Nat) x cA,((o.es.drop bQ).take len).flatten[j]? = some x→gf.flatten[j]? = some cA→hs s aZ b1 q x cA):hs s aZ b1 q (.bk r k bQ len) (.isl o.sz gf)
 | agg {c dH:List az} (aV:dH.length=c.length) (h : ∀(j:Nat) x cA,c[j]? = some x→dH[j]? = some cA→hs s aZ b1 q x cA):hs s aZ b1 q (.agg c) (.agg dH)
 | dS {c dH:List az} (aV:dH.length=c.length) (h : ∀(j:Nat) x cA,c[j]? = some x→dH[j]? = some cA→hs s aZ b1 q x cA):hs s aZ b1 q (.dS c) (.dS dH)
 | fn {f:Nat} {c dH:List az} (aV:dH.length=c.length) (h : ∀(j:Nat) x cA,c[j]? = some x→dH[j]? = some cA→hs s aZ b1 q x cA):hs s aZ b1 q (.fn f c) (.fn f dH)
theorem q4 {sz:Nat}: ∀(es:List (List az)),(∀e∈es,e.length=sz)→es.flatten.length=es.length*sz
 | [],_=>by simp
 | e::es,h=>by
  rw [List.flatten_cons,List.length_append,q4 es fun x R=>h x (by simp [R]),h e (by simp),List.length_cons,Nat.add_mul];omega
theorem fQ {α:Type}{l:List α}{j:Nat}{x:α}(h:l[j]? = some x):j<l.length:=by
 rcases Nat.lt_or_ge j l.length with cx|cx
 ·exact cx
 ·rw [List.getElem?_eq_none cx] at h;simp at h
theorem hs.rel {g:G}{s:S}{aw:fj}{w:World}{aZ:gw}{b1:fX→Bool}{q:az→Prop}(d9:hS g s aw w){kL:Nat→Prop}{mJ:iW}{l3:iN}
 (H1 : ∀x v,q x→Pure x→Rel w (s.ok g aw w) s.a1 (s.a9 aw) x v→Rel w kL mJ l3 x v)
 (EL : ∀r k o b m,s.ak r k=some o→b1 o.ch=true→(∀j i,aZ j i≠some (r,k))→aw r k=some (b,m)→kL b)
 (B0 : ∀j i r k,aZ j i=some (r,k)→s.a1 r k→mJ j i∧(l3 j i=s.a9 aw r k∨l3 j i=none)) {x cA:az} (bV:hs s aZ b1 q x cA) :
 ∀ {v:Value},Rel w (s.ok g aw w) s.a1 (s.a9 aw) x v→Rel w kL mJ l3 cA v:=by
 induction bV with
 | dead x=>intro v _;exact .dead v
 | pure aj a8=>intro v aq;exact H1 _ v a8 aj aq
 | ei sz=>intro v aq;rw [aq.pb];exact .jV sz none 0 (fun _=>rfl)
 | h7 sz=>intro v aq;obtain ⟨a,c,rfl⟩:=aq.Dw;exact .jV sz (some a) c (fun h=>by simp at h)
 | DO sz=>intro v aq;rw [aq.us];exact .o1 sz
 | jX h ih=>intro v aq;exact .oD (ih aq)
 | @ref r k j eA i off aC hu =>
  intro v aq
  obtain ⟨h1,h2⟩:=B0 j eA r k aC hu
  cases aq with
  | pe a n4 a2 =>
   refine .pe a h1 fun sz p=> ?_
   rcases h2 with e|e<;>rw [e]
   ·exact a2 sz p
   ·simp
  | ref n4 ca =>
   rcases h2 with e|e
   ·exact .ref h1 (e.trans ca)
   ·exact .pe _ h1 fun sz p=>by rw [e];simp
 | @bk r k j eA bQ len aC hu =>
  intro v aq
  obtain ⟨h1,h2⟩:=B0 j eA r k aC hu
  cases aq with
  | m0 a l c n4 a2 =>
   refine .m0 a l c h1 ?_
   rcases h2 with e|e<;>rw [e]
   exact a2
  | nm n4 ca =>
   rcases h2 with e|e
   ·exact .nm h1 (e.trans ca)
   ·exact .m0 _ _ _ h1 e
  | bk n4 ca aV ba hm =>
   rcases h2 with e|e
   ·exact .bk h1 (e.trans ca) aV ba hm
   ·exact .m0 _ _ _ h1 e
 | mE r c sz =>
  intro v aq
  cases aq with
  | mE h0 =>
   rcases h0.rQ with ⟨-,a,c,rfl,bA⟩|⟨dT,off,c,-,rfl,-⟩
   ·exact .jV sz a c bA
   ·exact .jV sz _ c (fun h=>by simp at h)
 | nu h ih =>
  intro v aq
  cases aq with
  | nu h0=>exact ih h0
 | @iE r eD c dH sz h hm =>
  intro v aq
  cases aq with
  | mE h0 =>
   rcases h0.rQ with ⟨-,a,c,rfl,bA⟩|⟨dT,off,c,-,rfl,-⟩
   ·exact .mE (.jV sz a c bA)
   ·exact .mE (.jV sz _ c (fun h=>by simp at h))
  | @nu _ _ _ k n _ h0 =>
   refine .nu ?_
   cases h0 with
   | m0 a l br n4 a2 =>
    obtain ⟨h1,h2⟩:=B0 _ _ _ _ (hm k) n4
    refine .m0 a l br h1 ?_
    rcases h2 with e|e<;>rw [e]
    exact a2
   | nm n4 ca =>
    obtain ⟨h1,h2⟩:=B0 _ _ _ _ (hm k) n4
    rcases h2 with e|e
    ·exact .nm h1 (e.trans ca)
    ·exact .m0 _ _ _ h1 e
   | bk n4 ca aV ba l5 =>
    obtain ⟨h1,h2⟩:=B0 _ _ _ _ (hm k) n4
    rcases h2 with e|e
    ·exact .bk h1 (e.trans ca) aV ba l5
    ·exact .m0 _ _ _ h1 e
 | @d7 r k o gf i off an bA aq dk K3 hle aV h ih =>
  intro v bc
  have fo:=d9.obj r k o an
  rcases bc.xz (il an) with h0|⟨b,m,aj,hval⟩
  ·rw [h0] at fo;exact absurd fo dk
  ·rw [aj] at fo
   have h8:=fo.rd
   rw [hval]
   have jB:gf.flatten.length=o.es.flatten.length:=by rw [q4 gf hle,q4 o.es h8.1,aV]
   have uQ:n9 w kL mJ l3 b 0 o.sz gf:=by
    refine ⟨hle,fun j cA dy=> ?_⟩
    have dC:j<o.es.flatten.length:=by rw [← jB];exact fQ dy
    have R:o.es.flatten[j]? = some o.es.flatten[j]:=List.getElem?_eq_getElem dC
    obtain ⟨u,e1,e2,bO⟩:=h8.2 j _ R
    exact ⟨u,e1,e2,ih j _ cA R dy bO⟩
   have:=uQ.d7 (i:=i) (off:=off) ⟨EL r k o b m an bA aq aj,K3⟩
   rw [Nat.zero_add] at this
   exact this
 | @isl r k bQ len o gf an bA aq h5 K3 hle aV h ih =>
  intro v bc
  have fo:=d9.obj r k o an
  rcases bc.Aa (il an) with ⟨aj,rfl,rfl,hval⟩|⟨b,m,A,c,aj,hval,qG,se,hm⟩
  ·have:gf=[]:=List.length_eq_zero_iff.1 aV
   subst this
   rw [hval];exact .jV _ none 0 (fun _=>rfl)
  ·rw [aj] at fo
   rw [hval]
   rcases Nat.eq_zero_or_pos len with h0|jW
   ·subst h0
    have:gf=[]:=List.length_eq_zero_iff.1 aV
    subst this
    exact .jV _ A c (fun a2=>by rcases hm with h1|⟨h1,-⟩<;>simp_all)
   ·rcases hm with hm|⟨hA,hm⟩
    ·omega
    ·subst hA
     have h8:=CY fo.rd bQ len (by omega)
     rw [Nat.zero_add] at h8
     have jB:gf.flatten.length=((o.es.drop bQ).take len).flatten.length:=by
      rw [q4 gf hle,q4 _ h8.1,aV,List.length_take,List.length_drop,Nat.min_eq_left (by omega)]
     have uQ:n9 w kL mJ l3 b (bQ*o.sz) o.sz gf:=by
      refine ⟨hle,fun j cA dy=> ?_⟩
      have dC:j<((o.es.drop bQ).take len).flatten.length:=by rw [← jB];exact fQ dy
      have R:=List.getElem?_eq_getElem dC
      obtain ⟨u,e1,e2,bO⟩:=h8.2 j _ R
      exact ⟨u,e1,e2,ih j _ cA R dy bO⟩
     have:=uQ.isl (c:=c) ⟨EL r k o b m an bA aq aj,K3⟩ (by omega)
     rw [aV] at this
     exact this
 | @agg c dH aV h ih =>
  intro v bc
  obtain ⟨vs,rfl,h1,h2,ab⟩:=bc.z9
  refine .agg vs (by omega) h2 fun j cA u dy hu=> ?_
  have dC:j<c.length:=by have:=fQ dy;omega
  exact ih j _ cA (List.getElem?_eq_getElem dC) dy (ab j _ u (List.getElem?_eq_getElem dC) hu)
 | @dS c dH aV h ih =>
  intro v bc
  obtain ⟨vs,rfl,h1,ab⟩:=bc.xy
  refine .dS vs (by omega) fun j cA u dy hu=> ?_
  have dC:j<c.length:=by have:=fQ dy;omega
  exact ih j _ cA (List.getElem?_eq_getElem dC) dy (ab j _ u (List.getElem?_eq_getElem dC) hu)
 | @fn f c dH aV h ih =>
  intro v bc
  obtain ⟨vs,rfl,h1,ab⟩:=bc.DF
  refine .fn vs (by omega) fun j cA u dy hu=> ?_
  have dC:j<c.length:=by have:=fQ dy;omega
  exact ih j _ cA (List.getElem?_eq_getElem dC) dy (ab j _ u (List.getElem?_eq_getElem dC) hu)
structure n5 (s:S) (aZ:gw) (b1:fX→Bool) (q:az→Prop) (o b0:ad):Prop where
 sz:b0.sz=o.sz
 ch:b0.ch=o.ch∨(b0.ch = .iK∧o.ch = .live)∨b0.ch = .gone
 len:b0.es.length=o.es.length
 each : ∀e∈b0.es,e.length=o.sz
 at_ : ∀(j:Nat) x cA,o.es.flatten[j]? = some x→b0.es.flatten[j]? = some cA→hs s aZ b1 q x cA
structure ps (s:S) (aZ:gw) (b1:fX→Bool) (q:az→Prop) (hx:Nat→Option (List ad)):Prop where
 inj : ∀j i hG eA p,aZ j i=some p→aZ hG eA=some p→j=hG∧i=eA
 at_ : ∀j i b0,dc (hx j) i=some b0→ ∃r k o,aZ j i=some (r,k)∧s.ak r k=some o∧n5 s aZ b1 q o b0
 a1 : ∀j i r k,aZ j i=some (r,k)→s.a1 r k→i<((hx j).getD []).length
def jC (aw:fj)(aZ:gw):fj:=fun j i=>match aZ j i with
 | some (r,k)=>aw r k
 | none=>none
theorem xJ {aw:fj}{aZ:gw}{j i r k:Nat}(h:aZ j i=some (r,k)):jC aw aZ j i=aw r k:=by simp [jC,h]
def lP (_:az):Prop:=True
theorem abi:Down lP:=⟨fun _ _ _ _=>trivial,fun _ _ _ _=>trivial,fun _ _ _ _ _=>trivial⟩
section
variable {g:G} {s:S} {aw:fj} {w:World} {aZ:gw} {b1:fX→Bool} {q:az→Prop} {bM:S}
theorem ps.ak (h:ps s aZ b1 q bM.aT){j i:Nat}{b0:ad}(an:bM.ak j i=some b0): ∃r k o,aZ j i=some (r,k)∧s.ak r k=some o∧n5 s aZ b1 q o b0:=h.at_ j i b0 an
theorem Pv {o b0:ad}(h:n5 s aZ b1 q o b0)(aV:b0.ch = .live):o.ch = .live:=by
 rcases h.ch with e|⟨e,-⟩|e
 ·exact e.symm.trans aV
 ·rw [e] at aV;simp at aV
 ·rw [e] at aV;simp at aV
theorem ps.live (h:ps s aZ b1 q bM.aT)(b:Nat)(aV:bM.lF (jC aw aZ) b): ∃r k o m,s.ak r k=some o∧o.ch = .live∧aw r k=some (b,m)∧ ∃j i,aZ j i=some (r,k):=by
 obtain ⟨j,i,b0,m,h1,h2,ab⟩:=aV
 obtain ⟨r,k,o,e1,e2,bO⟩:=h.ak h1
 rw [xJ e1] at ab
 exact ⟨r,k,o,m,e2,Pv bO h2,ab,j,i,e1⟩
theorem ps.Ee (h:ps s aZ b1 q bM.aT){j i r k:Nat}(aC:aZ j i=some (r,k)):bM.a9 (jC aw aZ) j i=s.a9 aw r k∨bM.a9 (jC aw aZ) j i=none:=by
 cases an:bM.ak j i with
 | none=>right;simp [S.a9,an]
 | some b0 =>
  obtain ⟨eD,d4,o,e1,e2,bO⟩:=h.ak an
  rw [aC] at e1;simp only [Option.some.injEq,Prod.mk.injEq] at e1
  obtain ⟨rfl,rfl⟩:=e1
  left
  rw [il an,il e2,bO.sz,xJ aC]
theorem hS.LU (d9:hS g s aw w)(h:ps s aZ b1 q bM.aT){fS:G}(a5:AM fS w)(Aw:∀j k,fS.oI j k→bM.a1 j k∧(bM.a9 (jC aw aZ) j k=fS.qE j k∨bM.a9 (jC aw aZ) j k=none))(AX:∀j k,fS.oI j k→j<fS.m)
 (abN : ∀b,fS.o6 b→b<fS.mq.heap.size) (halt : ∀b,fS.A b→b<fS.mq.heap.size)
 (KD : ∀r k o b m,(∃j i,aZ j i=some (r,k))→s.ak r k=some o→aw r k=some (b,m)→fS.mq.heap.size≤b∨fS.o6 b)
 (H1 : ∀b,s.ok g aw w b→bM.ok fS (jC aw aZ) w b)
 (EL : ∀r k o b m,s.ak r k=some o→b1 o.ch=true→(∀j i,aZ j i≠some (r,k))→aw r k=some (b,m)→bM.ok fS (jC aw aZ) w b) :
 hS fS bM (jC aw aZ) w∧ ∀ {x cA:az} {v:Value},hs s aZ b1 q x cA→Rel w (s.ok g aw w) s.a1 (s.a9 aw) x v→Rel w (bM.ok fS (jC aw aZ) w) bM.a1 (bM.a9 (jC aw aZ)) cA v:=by
 have fo : ∀ {x cA:az} {v:Value},hs s aZ b1 q x cA→Rel w (s.ok g aw w) s.a1 (s.a9 aw) x v→Rel w (bM.ok fS (jC aw aZ) w) bM.a1 (bM.a9 (jC aw aZ)) cA v :=
  fun bV aq=>bV.rel d9 (fun x v _ aj aq=>aq.pure aj H1) EL (fun j i r k aC hu=>⟨h.a1 j i r k aC hu,h.Ee aC⟩) aq
 refine ⟨⟨?_,?_,?_,a5,abN,halt,Aw,AX⟩,fo⟩
 ·intro j k b0 dK
  obtain ⟨r,d4,o,e1,e2,bO⟩:=h.ak dK
  have bl:=d9.obj r d4 o e2
  rw [xJ e1]
  cases aj:aw r d4 with
  | none =>
   rw [aj] at bl
   simp only [i7] at bl ⊢
   apply List.length_eq_zero_iff.1
   rw [bO.len,bl];rfl
  | some q =>
   obtain ⟨b,m⟩:=q
   rw [aj] at bl
   obtain ⟨c,eC,h1,h2,ab,au⟩:=bl
   have jB:b0.es.flatten.length=o.es.flatten.length:=by rw [q4 _ bO.each,q4 _ ab,bO.len]
   refine ⟨c,eC,h1,h2,by rw [bO.sz];exact bO.each,fun i cA dy=> ?_⟩
   have dC:i<o.es.flatten.length:=by rw [← jB];exact fQ dy
   have R:=List.getElem?_eq_getElem dC
   obtain ⟨u,f1,f2,f3⟩:=au i _ R
   exact ⟨u,f1,f2,fo (bO.at_ i _ cA R dy) f3⟩
 ·intro j k o hG d4 b0 b m cq h1 h2 ab au
  obtain ⟨r,mS,p,e1,e2,-⟩:=h.ak h1
  obtain ⟨eD,acu,ka,mO,o3,-⟩:=h.ak h2
  rw [xJ e1] at ab
  rw [xJ mO] at au
  obtain ⟨rfl,rfl⟩:=d9.inj r mS p eD acu ka b m cq e2 o3 ab au
  exact h.inj _ _ _ _ _ e1 mO
 ·intro j k o b m h1 h2
  obtain ⟨r,mS,p,e1,e2,-⟩:=h.ak h1
  rw [xJ e1] at h2
  exact KD r mS p b m ⟨j,k,e1⟩ e2 h2
theorem cF.Pw {a:Act}(h:cF g s aw a w)(cQ:ps s aZ (fun _=>true) q bM.aT)(eh:∀t,hs s aZ (fun _=>true) q (s.E t) (bM.E t))(AY:∀j k,g.oI j k→aZ j k=some (j,k)):cF g bM (jC aw aZ) a w:=by
 have jo : ∀b,bM.lF (jC aw aZ) b→s.lF aw b:=fun b aV=>by
  obtain ⟨r,k,o,m,h1,h2,ab,-⟩:=cQ.live b aV
  exact ⟨r,k,o,m,h1,h2,ab⟩
 have Aw : ∀j k,g.oI j k→bM.a1 j k∧(bM.a9 (jC aw aZ) j k=g.qE j k∨bM.a9 (jC aw aZ) j k=none):=by
  intro j k aC
  obtain ⟨e1,e2⟩:=h.stay j k aC
  refine ⟨cQ.a1 j k j k (AY j k aC) e1,?_⟩
  rcases cQ.Ee (aw:=aw) (AY j k aC) with e|e
  ·rw [e];exact e2
  ·exact .inr e
 obtain ⟨h1,h2⟩:=h.tohS.LU cQ h.gL Aw h.low h.mlt h.m7 (fun r k o b m _ an aj=>h.own r k o b m an aj)
  (fun b aP=>⟨aP.1,aP.2.1,fun aV=>aP.2.2 (jo b aV)⟩)
  (fun r k o b m an _ aq aj=>by
    have bl:=h.obj r k o an
    rw [aj] at bl
    obtain ⟨c,eC,e1,-⟩:=bl
    refine ⟨(Array.getElem?_eq_some_iff.1 e1).1,?_,fun aV=> ?_⟩
    ·rcases h.own r k o b m an aj with e|e
     ·exact .inr (.inl e)
     ·exact .inr (.inr e)
    ·obtain ⟨eD,d4,b0,cq,f1,f2,f3,⟨LV,B1,f4⟩⟩:=cQ.live b aV
     obtain ⟨rfl,rfl⟩:=h.inj r k o eD d4 b0 b m cq an f1 aj f3
     exact aq LV B1 f4)
 exact {tohS:=h1,env:=fun t=>h2 (eh t) (h.env t),defers:=h.defers,jA:=h.jA}
end
end Go.VL
namespace Go.VL
set_option linter.unusedVariables false
set_option linter.unusedSimpArgs false
open Go
def eV (T:List (List ad)):S:={E:=fun _=> .dead,aT:=fun r=>T[r]?}
def abj (P:Program)(f:FuncId)(args:List az)(T:List (List ad))(r:az)(ig:List (List ad)):Prop :=
 ∀(g:G) (aw:fj) (w:World) (vs:Array Value),g.mq=w→g.m=T.length→g.oI=(eV T).a1→g.qE=(eV T).a9 aw→hS g (eV T) aw w→vs.size=args.length →
  (∀(j:Nat) x v,args[j]? = some x→vs[j]? = some v→Rel w ((eV T).ok g aw w) (eV T).a1 ((eV T).a9 aw) x v) →
  Calls P f vs w fun e bJ=> ∃v bH,e = .returned v∧hS g (eV ig) bH bJ∧Rel bJ ((eV ig).ok g bH bJ) (eV ig).a1 ((eV ig).a9 bH) r v
inductive b7:az→Prop
 | dead:b7 .dead
 | b (x:Bool):b7 (.b x)
 | n (k:IntKind) (x:Int):b7 (.n k x)
 | s (x:ByteArray):b7 (.s x)
 | hR:b7 .hR
 | ei:b7 .ei
 | h7:b7 .h7
 | jV (sz:Nat):b7 (.isl sz [])
 | ref (r k i off:Nat):b7 (.ref r k i off)
 | bk (r k bQ len:Nat):b7 (.bk r k bQ len)
 | iE (r c sz:Nat) (h:Option (Nat×Nat)):b7 (.iE r c sz h)
 | agg {c:List az} (h : ∀x∈c,b7 x):b7 (.agg c)
 | dS {c:List az} (h : ∀x∈c,b7 x):b7 (.dS c)
theorem abk:Down b7:=⟨fun _ _ h R=>by cases h with|agg h=>exact h _ R,fun _ _ h R=>by cases h with|dS h=>exact h _ R,fun _ _ _ h=>by cases h⟩
theorem Rel.fz {w bJ:World}{ok kL:Nat→Prop}{a1 mJ:iW}{a9 l3:iN}{x:az}(bV:b7 x): ∀ {v:Value},Pure x→Rel w ok a1 a9 x v→Rel bJ kL mJ l3 x v:=by
 induction bV with
 | dead=>intro v _ h;exact .dead v
 | b x=>intro v _ h;rw [h.sZ];exact .b x
 | n k x=>intro v _ h;rw [h.oZ];exact .n k x
 | s x=>intro v _ h;rw [h.xQ];exact .s x
 | hR=>intro v _ h;rw [h.us];exact .hR
 | ei=>intro v _ h;rw [h.pb];exact .ei
 | h7=>intro v _ h;obtain ⟨a,c,rfl⟩:=h.Dw;exact .h7 a c
 | jV sz =>
  intro v _ h
  rcases h.rQ with ⟨-,a,c,rfl,bA⟩|⟨dT,off,c,-,rfl,-⟩
  ·exact .jV sz a c bA
  ·exact .jV sz _ c (fun h=>by simp at h)
 | ref=>intro v aj;cases aj
 | bk=>intro v aj;cases aj
 | iE=>intro v aj;cases aj
 | @agg c ba ih =>
  intro v aj h
  obtain ⟨vs,rfl,h1,h2,ab⟩:=h.z9
  cases aj with
  | agg aj=>exact .agg vs h1 h2 fun j x u R hu=>ih x (List.mem_of_getElem? R) (aj x (List.mem_of_getElem? R)) (ab j x u R hu)
 | @dS c ba ih =>
  intro v aj h
  obtain ⟨vs,rfl,h1,ab⟩:=h.xy
  cases aj with
  | dS aj=>exact .dS vs h1 fun j x u R hu=>ih x (List.mem_of_getElem? R) (aj x (List.mem_of_getElem? R)) (ab j x u R hu)
section
variable {P:Program} {g:G} {s:S} {aw:fj} {a:Act} {w:World}
theorem Al (h:hS g s aw w){r k b m:Nat}{o:ad}(an:s.ak r k=some o)(aj:aw r k=some (b,m)):b<w.heap.size:=by
 have:=h.obj r k o an
 rw [aj] at this
 obtain ⟨c,eC,e,-⟩:=this
 exact (Array.getElem?_eq_some_iff.1 e).1
theorem aaN (h:hS g s aw w){r k b m:Nat}{o:ad}(an:s.ak r k=some o)(a5:o.ch = .iK)(aj:aw r k=some (b,m)):s.ok g aw w b:=by
 refine ⟨Al h an aj,?_,?_⟩
 ·rcases h.own r k o b m an aj with e|e
  ·exact .inr (.inl e)
  ·exact .inr (.inr e)
 ·rintro ⟨eD,d4,b0,cq,h1,h2,ab⟩
  obtain ⟨rfl,rfl⟩:=h.inj r k o eD d4 b0 b m cq an h1 aj ab
  rw [an] at h1;simp at h1;subst h1;rw [a5] at h2;simp at h2
theorem enter (h:hS g s aw w){aZ:gw}{b1:fX→Bool}{q:az→Prop}{T:List (List ad)}(A:Nat→Prop)
 (hA : ∀b,A b→b<w.heap.size) (K4 : ∀b,s.ok g aw w b→A b)
 (K5 : ∀r k o b m,s.ak r k=some o→b1 o.ch=true→aw r k=some (b,m)→A b)
 (cQ:ps s aZ b1 q (eV T).aT) (pg : ∀r k o,(∃j i,aZ j i=some (r,k))→s.ak r k=some o→o.ch = .live) :
 ∃fS:G,fS.mq=w∧fS.A=A∧fS.m=T.length∧fS.oI=(eV T).a1∧fS.qE=(eV T).a9 (jC aw aZ) ∧
  (fS.o6=fun b=> ∃r k o m,(∃j i,aZ j i=some (r,k))∧s.ak r k=some o∧aw r k=some (b,m))∧hS fS (eV T) (jC aw aZ) w ∧
  ∀ {x cA:az} {v:Value},hs s aZ b1 q x cA→Rel w (s.ok g aw w) s.a1 (s.a9 aw) x v→Rel w ((eV T).ok fS (jC aw aZ) w) (eV T).a1 ((eV T).a9 (jC aw aZ)) cA v:=by
 let fS:G:={mq:=w,A:=A,o6:=fun b=> ∃r k o m,(∃j i,aZ j i=some (r,k))∧s.ak r k=some o∧aw r k=some (b,m),N:=0,m:=T.length,oI:=(eV T).a1,qE:=(eV T).a9 (jC aw aZ)}
 refine ⟨fS,rfl,rfl,rfl,rfl,rfl,rfl,?_⟩
 have jo : ∀b,(eV T).lF (jC aw aZ) b→ ∃r k o m,s.ak r k=some o∧o.ch = .live∧aw r k=some (b,m)∧ ∃j i,aZ j i=some (r,k):=fun b aV=>cQ.live b aV
 refine hS.LU (bM:=eV T) (fS:=fS) h cQ ⟨rfl,rfl,rfl,Nat.le_refl _,fun _ _ _=>rfl⟩ (fun j k aC=>⟨aC,.inl rfl⟩) ?_ ?_ hA ?_ ?_ ?_
 ·intro j k aC
  have aC:k<((T[j]?).getD []).length:=aC
  rcases Nat.lt_or_ge j T.length with h1|h1
  ·exact h1
  ·rw [List.getElem?_eq_none h1] at aC;simp at aC
 ·rintro b ⟨r,k,o,m,-,an,aj⟩
  exact Al h an aj
 ·intro r k o b m hm an aj
  exact .inr ⟨r,k,o,m,hm,an,aj⟩
 ·intro b aP
  refine ⟨aP.1,.inl (K4 b aP),fun aV=> ?_⟩
  obtain ⟨r,k,o,m,h1,h2,ab,-⟩:=jo b aV
  exact aP.2.2 ⟨r,k,o,m,h1,h2,ab⟩
 ·intro r k o b m an bA aq aj
  refine ⟨Al h an aj,.inl (K5 r k o b m an bA aj),fun aV=> ?_⟩
  obtain ⟨eD,d4,b0,cq,h1,h2,ab,⟨j,i,aC⟩⟩:=jo b aV
  obtain ⟨rfl,rfl⟩:=h.inj r k o eD d4 b0 b m cq an h1 aj ab
  exact aq j i aC
theorem leave (h:cF g s aw a w){bJ:World}{aZ kE:gw}{b1:fX→Bool}{q0 q:az→Prop}{fS:G}{T fv:List (List ad)}{kM:fj}
 (dD:fS.mq=w) (hA:(∀b,fS.A b→s.ok g aw w b)∨(∀x,q x→b7 x)) (uY:fS.oI=(eV T).a1) (k8:fS.qE=(eV T).a9 (jC aw aZ))
 (d9:fS.o6=fun b=> ∃r k o m,(∃j i,aZ j i=some (r,k))∧s.ak r k=some o∧aw r k=some (b,m))
 (pg : ∀r k o,(∃j i,aZ j i=some (r,k))→s.ak r k=some o→o.ch = .live)
 (cQ:ps s aZ b1 q0 (eV T).aT) (h1:hS fS (eV fv) kM bJ)
 (Ax : ∀j i r k,aZ j i=some (r,k)→kE r k=some (j,i)) (DX : ∀r k j i,kE r k=some (j,i)→aZ j i=some (r,k)∨ ¬s.a1 r k)
 (abO : ∀r k eD d4 p,kE r k=some p→kE eD d4=some p→r=eD∧k=d4)
 {s2:S} (eh:s2.E=s.E)
 (bl : ∀r k o,s2.ak r k=some o→(∃j i p,kE r k=some (j,i)∧(eV fv).ak j i=some p∧n5 (eV fv) kE (fun _=>false) q p o)∨(kE r k=none∧s.ak r k=some o))
 (jd : ∀r k,s.a1 r k→s2.a1 r k) (abP : ∀r k j i,kE r k=some (j,i)→(eV fv).a1 j i→s2.a1 r k)
 {x cA:az} {v:Value} (R:hs (eV fv) kE (fun _=>false) q x cA) (bc:Rel bJ ((eV fv).ok fS kM bJ) (eV fv).a1 ((eV fv).a9 kM) x v) :
 ∃lj,cF g s2 lj a bJ∧Rel bJ (s2.ok g lj bJ) s2.a1 (s2.a9 lj) cA v:=by
 let lj:fj:=fun r k=>match kE r k with|some (j,i)=>kM j i|none=>aw r k
 have p1 : ∀r k j i,kE r k=some (j,i)→lj r k=kM j i:=fun r k j i e=>by simp [lj,e]
 have p2 : ∀r k,kE r k=none→lj r k=aw r k:=fun r k e=>by simp [lj,e]
 have a5:=h1.gL
 have eU:w.heap.size≤bJ.heap.size:=by have:=a5.size;rw [dD] at this;exact this
 have r9 : ∀b,b<w.heap.size→ ¬fS.o6 b→bJ.heap[b]? = w.heap[b]? := fun b aP kT=>by
  have:=a5.block b (by rw [dD];exact aP) kT
  rw [dD] at this;exact this
 have Ef : ∀j k p b m,(eV fv).ak j k=some p→kM j k=some (b,m)→w.heap.size≤b∨ ∃r d4 o cq,(∃j i,aZ j i=some (r,d4))∧s.ak r d4=some o∧aw r d4=some (b,cq):=by
  intro j k p b m aj aP
  rcases h1.own j k p b m aj aP with e|e
  ·rw [dD] at e;exact .inl e
  ·rw [d9] at e;exact .inr e
 have hold : ∀q k o b m,kE q k=none→s.ak q k=some o→aw q k=some (b,m)→b<w.heap.size∧ ¬fS.o6 b:=by
  intro q k o b m a8 an aj
  refine ⟨Al h.tohS an aj,fun kT=> ?_⟩
  rw [d9] at kT
  obtain ⟨r,d4,b0,cq,⟨j,i,aq⟩,dK,nC⟩:=kT
  obtain ⟨rfl,rfl⟩:=h.inj q k o r d4 b0 b m cq an dK aj nC
  rw [Ax _ _ _ _ aq] at a8;simp at a8
 have PY : ∀b,s2.lF lj b→(eV fv).lF kM b∨(∃q k o m,kE q k=none∧s.ak q k=some o∧o.ch = .live∧aw q k=some (b,m)):=by
  rintro b ⟨q,k,o,m,an,nB,aj⟩
  rcases bl q k o an with ⟨j,i,p,e1,e2,bO⟩|⟨e1,e2⟩
  ·rw [p1 _ _ _ _ e1] at aj
   exact .inl ⟨j,i,p,m,e2,Pv bO nB,aj⟩
  ·rw [p2 _ _ e1] at aj
   exact .inr ⟨q,k,o,m,e1,e2,nB,aj⟩
 have mK : ∀b,s.ok g aw w b→s2.ok g lj bJ b:=by
  intro b aP
  refine ⟨Nat.lt_of_lt_of_le aP.1 eU,aP.2.1,fun aV=> ?_⟩
  rcases PY b aV with ⟨j,k,p,m,e1,e2,bO⟩|⟨q,k,o,m,e1,e2,bO,c5⟩
  ·rcases Ef j k p b m e1 bO with e|⟨r,d4,o,cq,aq,an,aj⟩
   ·have:=aP.1;omega
   ·exact aP.2.2 ⟨r,d4,o,cq,an,pg r d4 o aq an,aj⟩
  ·exact aP.2.2 ⟨q,k,o,m,e2,bO,c5⟩
 have QO : ∀r k,s.a1 r k→s2.a9 lj r k=s.a9 aw r k∨s2.a9 lj r k=none:=by
  intro r k aq
  cases an:s2.ak r k with
  | none=>right;simp [S.a9,an]
  | some o =>
   left
   rcases bl r k o an with ⟨j,i,p,e1,e2,bO⟩|⟨e1,e2⟩
   ·rcases DX r k j i e1 with aC|aC
    ·have l4:=(h1.stay j i (by rw [uY];exact cQ.a1 _ _ _ _ aC aq)).2
     rw [k8,il e2] at l4
     have l4:some (p.sz,kM j i)=(eV T).a9 (jC aw aZ) j i:=by
      rcases l4 with e|e
      ·exact e
      ·simp at e
     have:=cQ.Ee (bM:=eV T) (aw:=aw) aC
     rw [← l4] at this
     rw [il an,bO.sz,p1 _ _ _ _ e1]
     rcases this with e|e
     ·exact e
     ·simp at e
    ·exact absurd aq aC
   ·rw [il an,il e2,p2 _ _ e1]
 have abl : ∀b,s.ok g aw w b→bJ.heap[b]? = w.heap[b]? := by
  intro b aP
  refine r9 b aP.1 fun kT=> ?_
  rw [d9] at kT
  obtain ⟨r,d4,o,cq,aq,an,aj⟩:=kT
  exact aP.2.2 ⟨r,d4,o,cq,an,pg r d4 o aq an,aj⟩
 have fo : ∀ {y:az} {u:Value},Rel w (s.ok g aw w) s.a1 (s.a9 aw) y u→Rel bJ (s2.ok g lj bJ) s2.a1 (s2.a9 lj) y u :=
  fun aq=>aq.mono mK abl jd QO
 have abQ:(∀b,fS.A b→s.ok g aw w b)→ ∀b,(eV fv).ok fS kM bJ b→s2.ok g lj bJ b:=by
  intro hA b aP
  have KD:g.A b∨g.mq.heap.size≤b∨g.o6 b:=by
   rcases aP.2.1 with e|e|e
   ·exact (hA b e).2.1
   ·rw [dD] at e;exact .inr (.inl (Nat.le_trans h.gL.size e))
   ·rw [d9] at e
    obtain ⟨r,k,o,m,-,an,aj⟩:=e
    rcases h.own r k o b m an aj with e|e
    ·exact .inr (.inl e)
    ·exact .inr (.inr e)
  refine ⟨aP.1,KD,fun aV=> ?_⟩
  rcases PY b aV with e|⟨q,k,o,m,e1,e2,bO,c5⟩
  ·exact aP.2.2 e
  ·have a8:=hold q k o b m e1 e2 c5
   rcases aP.2.1 with e|e|e
   ·exact (hA b e).2.2 ⟨q,k,o,m,e2,bO,c5⟩
   ·rw [dD] at e;omega
   ·exact a8.2 e
 have Qr : ∀ {y lS:az} {u:Value},hs (eV fv) kE (fun _=>false) q y lS→Rel bJ ((eV fv).ok fS kM bJ) (eV fv).a1 ((eV fv).a9 kM) y u→Rel bJ (s2.ok g lj bJ) s2.a1 (s2.a9 lj) lS u:=by
  intro y lS u bV aq
  refine bV.rel h1 (fun x v a8 aj aq=> ?_) (fun _ _ _ _ _ _ bA _ _=>by simp at bA) ?_ aq
  ·rcases hA with hA|hA
   ·exact aq.pure aj (abQ hA)
   ·exact aq.fz (hA x a8) aj
  ·intro r k j i a8 aC
   refine ⟨abP r k j i a8 aC,?_⟩
   cases an:s2.ak r k with
   | none=>right;simp [S.a9,an]
   | some o =>
    left
    rcases bl r k o an with ⟨hG,eA,p,e1,e2,bO⟩|⟨e1,-⟩
    ·rw [a8] at e1;simp only [Option.some.injEq,Prod.mk.injEq] at e1
     obtain ⟨rfl,rfl⟩:=e1
     rw [il an,il e2,bO.sz,p1 _ _ _ _ a8]
    ·rw [a8] at e1;simp at e1
 refine ⟨lj,{tohS:=⟨?_,?_,?_,?_,h.mlt,h.m7,?_,h.low⟩,env:=fun t=>by rw [eh];exact fo (h.env t),defers:=h.defers,jA:=h.jA},Qr R bc⟩
 ·intro q k o an
  rcases bl q k o an with ⟨j,i,p,e1,e2,bO⟩|⟨e1,e2⟩
  ·have aj:=h1.obj j i p e2
   rw [p1 _ _ _ _ e1]
   cases kj:kM j i with
   | none =>
    rw [kj] at aj
    simp only [i7] at aj ⊢
    apply List.length_eq_zero_iff.1
    rw [bO.len,aj];rfl
   | some sv =>
    obtain ⟨b,m⟩:=sv
    rw [kj] at aj
    obtain ⟨c,eC,f1,f2,f3,f4⟩:=aj
    have jB:o.es.flatten.length=p.es.flatten.length:=by rw [q4 _ bO.each,q4 _ f3,bO.len]
    refine ⟨c,eC,f1,f2,by rw [bO.sz];exact bO.each,fun i cA dy=> ?_⟩
    have dC:i<p.es.flatten.length:=by rw [← jB];exact fQ dy
    have kl:=List.getElem?_eq_getElem dC
    obtain ⟨u,lk,nI,gI⟩:=f4 i _ kl
    exact ⟨u,lk,nI,Qr (bO.at_ i _ cA kl dy) gI⟩
  ·have aj:=h.obj q k o e2
   rw [p2 _ _ e1]
   cases kj:aw q k with
   | none=>rw [kj] at aj;exact aj
   | some sv =>
    obtain ⟨b,m⟩:=sv
    rw [kj] at aj
    obtain ⟨c,eC,f1,f2,f3,f4⟩:=aj
    obtain ⟨tg,K6⟩:=hold q k o b m e1 e2 kj
    refine ⟨c,eC,(r9 b tg K6).trans f1,f2,f3,fun i cA dy=> ?_⟩
    obtain ⟨u,lk,nI,gI⟩:=f4 i cA dy
    exact ⟨u,lk,nI,fo gI⟩
 ·intro q k o hq d4 b0 b m cq h2 ab au aA
  rcases bl q k o h2 with ⟨j,i,p,e1,e2,bO⟩|⟨e1,e2⟩<;>rcases bl hq d4 b0 ab with ⟨hG,eA,ka,mO,o3,Bj⟩|⟨mO,o3⟩
  ·rw [p1 _ _ _ _ e1] at au;rw [p1 _ _ _ _ mO] at aA
   obtain ⟨rfl,rfl⟩:=h1.inj j i p hG eA ka b m cq e2 o3 au aA
   exact abO _ _ _ _ _ e1 mO
  ·rw [p1 _ _ _ _ e1] at au;rw [p2 _ _ mO] at aA
   obtain ⟨f1,f2⟩:=hold hq d4 b0 b cq mO o3 aA
   rcases Ef j i p b m e2 au with e|e
   ·omega
   ·exact absurd (by rw [d9];exact e) f2
  ·rw [p2 _ _ e1] at au;rw [p1 _ _ _ _ mO] at aA
   obtain ⟨f1,f2⟩:=hold q k o b m e1 e2 au
   rcases Ef hG eA ka b cq o3 aA with e|e
   ·omega
   ·exact absurd (by rw [d9];exact e) f2
  ·rw [p2 _ _ e1] at au;rw [p2 _ _ mO] at aA
   exact h.inj q k o hq d4 b0 b m cq e2 o3 au aA
 ·intro q k o b m h2 au
  rcases bl q k o h2 with ⟨j,i,p,e1,e2,bO⟩|⟨e1,e2⟩
  ·rw [p1 _ _ _ _ e1] at au
   rcases Ef j i p b m e2 au with e|⟨r,d4,b0,cq,aq,an,aj⟩
   ·exact .inl (Nat.le_trans h.gL.size e)
   ·exact h.own r d4 b0 b cq an aj
  ·rw [p2 _ _ e1] at au;exact h.own q k o b m e2 au
 ·have e1:=a5.os;have e2:=a5.tape;have bO:=a5.output
  rw [dD] at e1 e2 bO
  refine h.gL.step e1 e2 bO eU fun b aP nD=>r9 b (Nat.lt_of_lt_of_le aP h.gL.size) fun kT=> ?_
  rw [d9] at kT
  obtain ⟨r,k,o,m,-,an,aj⟩:=kT
  rcases h.own r k o b m an aj with e|e
  ·omega
  ·exact nD e
 ·intro j k aC
  obtain ⟨e1,e2⟩:=h.stay j k aC
  refine ⟨jd j k e1,?_⟩
  rcases QO j k e1 with e|e
  ·rw [e];exact e2
  ·exact .inr e
def kA (a b n:Nat):az→az
 | .ref r k i off=>if r=a then .ref b (n+k) i off else .ref r k i off
 | .bk r k bQ len=>if r=a then .bk b (n+k) bQ len else .bk r k bQ len
 | .iE r c sz h=>if r=a then .iE b (n+c) sz h else .iE r c sz h
 | .agg c=> .agg (yh c)
 | .dS c=> .dS (yh c)
 | x=>x
where yh:List az→List az
 | []=>[]
 | x::l=>kA a b n x::yh l
def l6 (a b n:Nat)(o:ad):ad:={o with es:=o.es.map fun e=>e.map (kA a b n)}
def qv (o:ad):ad:=⟨0,[],.gone⟩
theorem DG (a b n:Nat): ∀l:List az,kA.yh a b n l=l.map (kA a b n)
 | []=>rfl
 | x::l=>by rw [kA.yh,DG a b n l];rfl
theorem kg (l:List ad)(k:Nat):dc (some l) k=(l[k]?).bind fun o=>if o.ch = .gone then none else some o:=by
 unfold dc
 cases h:l[k]? <;> simp [h]
theorem map_flatten {es:List (List az)}(f:az→az):(es.map fun e=>e.map f).flatten=es.flatten.map f:=by
 induction es with
 | nil=>rfl
 | cons e es ih=>rw [List.map_cons,List.flatten_cons,List.flatten_cons,List.map_append,ih]
theorem cF.merge (h:cF g s aw a w){r eD:Nat}{l gg:List ad}(aq:s.aT r=some l)(hi:s.aT eD=some gg)(dk:eD≠r):
 ∃bH,cF g ((s.setRow eD (gg.map qv)).setRow r (l++gg.map (l6 eD r l.length))) bH a w ∧
  ∀x v,Rel w (s.ok g aw w) s.a1 (s.a9 aw) x v→Rel w (((s.setRow eD (gg.map qv)).setRow r (l++gg.map (l6 eD r l.length))).ok g bH w)
   ((s.setRow eD (gg.map qv)).setRow r (l++gg.map (l6 eD r l.length))).a1 (((s.setRow eD (gg.map qv)).setRow r (l++gg.map (l6 eD r l.length))).a9 bH) (kA eD r l.length x) v:=by
 generalize sf:(s.setRow eD (gg.map qv)).setRow r (l++gg.map (l6 eD r l.length))=s2
 let bH:fj:=fun q k=>if q=r∧l.length≤k then aw eD (k-l.length) else aw q k
 have bl : ∀q k o,s2.ak q k=some o→(q=r∧l.length≤k∧ ∃p,s.ak eD (k-l.length)=some p∧o=l6 eD r l.length p∧bH q k=aw eD (k-l.length)) ∨
  (q≠eD∧s.ak q k=some o∧bH q k=aw q k∧ ¬(q=r∧l.length≤k)):=by
  intro q k o an
  subst sf
  rw [lo] at an
  by_cases e:q=r
  ·subst e
   rw [if_pos rfl] at an
   by_cases a5:l.length≤k
   ·left
    refine ⟨rfl,a5,?_⟩
    rw [kg,List.getElem?_append_right a5,List.getElem?_map] at an
    cases aj:gg[k-l.length]? with
    | none=>rw [aj] at an;simp at an
    | some p =>
     rw [aj] at an
     simp only [Option.map_some,Option.bind_some] at an
     split at an
     ·simp at an
     ·rename_i dD
      simp only [Option.some.injEq] at an
      refine ⟨p,?_,an.symm,by simp [bH,a5]⟩
      unfold S.ak
      rw [hi,kg,aj,Option.bind_some,if_neg (by simpa [l6] using dD)]
   ·right
    refine ⟨Ne.symm dk,?_,by simp [bH,a5],fun fI=>a5 fI.2⟩
    unfold S.ak
    rw [aq,kg]
    rw [kg,List.getElem?_append_left (by omega)] at an
    exact an
  ·rw [if_neg e,lo] at an
   by_cases e2:q=eD
   ·subst e2
    rw [if_pos rfl,kg,List.getElem?_map] at an
    cases aj:gg[k]? with
    | none=>rw [aj] at an;simp at an
    | some p=>rw [aj] at an;simp [qv] at an
   ·rw [if_neg e2] at an
    exact .inr ⟨e2,an,by simp [bH,e],fun fI=>e fI.1⟩
 have jd : ∀q k,s.a1 q k→s2.a1 q k:=by
  intro q k a8
  subst sf
  rw [mZ]
  by_cases e:q=r
  ·subst e;rw [if_pos rfl];simp [S.a1,aq] at a8;simp;omega
  ·rw [if_neg e,mZ]
   by_cases e2:q=eD
   ·subst e2;rw [if_pos rfl];simpa [S.a1,hi] using a8
   ·rw [if_neg e2];exact a8
 have AZ : ∀k,s.a1 eD k→s2.a1 r (l.length+k):=by
  intro k a8
  subst sf
  rw [mZ,if_pos rfl]
  simp [S.a1,hi] at a8
  simp;omega
 have A0 : ∀k,s2.a9 bH r (l.length+k)=s.a9 aw eD k:=by
  intro k
  subst sf
  simp only [S.a9]
  rw [lo,if_pos rfl]
  unfold S.ak
  rw [hi,kg,kg,List.getElem?_append_right (by omega),List.getElem?_map,show l.length+k-l.length=k by omega]
  cases aj:gg[k]? with
  | none=>simp
  | some p =>
   simp only [Option.map_some,Option.bind_some]
   by_cases dD:p.ch = .gone
   ·rw [if_pos dD,if_pos (by simpa [l6] using dD)];rfl
   ·rw [if_neg dD,if_neg (by simpa [l6] using dD)]
    simp [bH,l6]
 have k8 : ∀q k,s.a1 q k→s2.a9 bH q k=s.a9 aw q k∨s2.a9 bH q k=none:=by
  intro q k a8
  cases an:s2.ak q k with
  | none=>right;simp [S.a9,an]
  | some o =>
   left
   rcases bl q k o an with ⟨rfl,e2,-⟩|⟨-,e2,bO,-⟩
   ·simp [S.a1,aq] at a8;omega
   ·rw [il an,il e2,bO]
 have pg : ∀b,s2.lF bH b→s.lF aw b:=by
  rintro b ⟨q,k,o,m,h1,h2,ab⟩
  rcases bl q k o h1 with ⟨-,-,p,e1,e2,bO⟩|⟨-,e1,e2,-⟩
  ·rw [bO] at ab;subst e2;exact ⟨eD,_,p,m,e1,h2,ab⟩
  ·rw [e2] at ab;exact ⟨q,k,o,m,e1,h2,ab⟩
 have dt:Step g s aw w s2 bH w:=⟨jd,k8,fun b aV=> .inl (pg b aV),fun _ _ _=>rfl,Nat.le_refl _⟩
 have Bn : ∀x v,Rel w (s.ok g aw w) s.a1 (s.a9 aw) x v→Rel w (s2.ok g bH w) s2.a1 (s2.a9 bH) (kA eD r l.length x) v:=by
  intro x v k9
  induction k9 with
  | dead v=>exact .dead v
  | b x=>exact .b x
  | n k x=>exact .n k x
  | s x=>exact .s x
  | hR=>exact .hR
  | ei=>exact .ei
  | h7 a c=>exact .h7 a c
  | @pe r1 k i off a hu fI =>
   unfold kA
   split
   ·rename_i e;subst e
    exact .pe a (AZ k hu) (by rw [A0];exact fI)
   ·exact dt.rel (.pe a hu fI)
  | @ref r1 k i off sz dT m hu fI =>
   unfold kA
   split
   ·rename_i e;subst e
    exact .ref (AZ k hu) (by rw [A0];exact fI)
   ·exact dt.rel (.ref hu fI)
  | @m0 r1 k bQ len a br cb hu fI =>
   unfold kA
   split
   ·rename_i e;subst e
    exact .m0 a br cb (AZ k hu) (by rw [A0];exact fI)
   ·exact dt.rel (.m0 a br cb hu fI)
  | @nm r1 k sz hu fI =>
   unfold kA
   split
   ·rename_i e;subst e
    exact .nm (AZ k hu) (by rw [A0];exact fI)
   ·exact dt.rel (.nm hu fI)
  | @bk r1 k bQ len sz dT m c a hu fI aV ba l5 =>
   unfold kA
   split
   ·rename_i e;subst e
    exact .bk (AZ k hu) (by rw [A0];exact fI) aV ba l5
   ·exact dt.rel (.bk hu fI aV ba l5)
  | @mE r1 c sz v h0 ih =>
   unfold kA
   split
   ·exact .mE (dt.rel h0)
   ·exact dt.rel (.mE h0)
  | @nu r1 c sz k n v h0 ih =>
   unfold kA
   split
   ·rename_i e;subst e
    unfold kA at ih
    rw [if_pos rfl] at ih
    exact .nu (by rw [show k+(l.length+c)=l.length+(k+c) by omega];exact ih)
   ·exact dt.rel (.nu h0)
  | jV sz a c h=>exact .jV sz a c h
  | isl cs aP aj aV ba hw iq k9 ih=>exact dt.rel (.isl cs aP aj aV ba hw iq k9)
  | d7 cs aP aj aV hw iq k9 ih=>exact dt.rel (.d7 cs aP aj aV hw iq k9)
  | o1 sz=>exact .o1 sz
  | oD h0 ih=>exact dt.rel (.oD h0)
  | agg vs aV iq k9 ih =>
   unfold kA
   rw [DG]
   refine .agg vs (by simpa using aV) iq fun j x v R bc=> ?_
   rw [List.getElem?_map,Option.map_eq_some_iff] at R
   obtain ⟨y,a0,rfl⟩:=R
   exact ih j y v a0 bc
  | dS vs aV k9 ih =>
   unfold kA
   rw [DG]
   refine .dS vs (by simpa using aV) fun j x v R bc=> ?_
   rw [List.getElem?_map,Option.map_eq_some_iff] at R
   obtain ⟨y,a0,rfl⟩:=R
   exact ih j y v a0 bc
  | fn vs aV k9 ih=>exact dt.rel (.fn vs aV k9)
 refine ⟨bH,{tohS:=⟨?_,?_,?_,h.gL,h.mlt,h.m7,?_,h.low⟩,env:=fun t=>by rw [show s2.E=s.E by rw [← sf];rfl];exact dt.rel (h.env t),defers:=h.defers,jA:=h.jA},Bn⟩
 ·intro q k o an
  rcases bl q k o an with ⟨-,-,p,e1,e2,bO⟩|⟨-,e1,e2,-⟩
  ·rw [bO]
   subst e2
   have aj:=h.obj eD _ p e1
   cases kj:aw eD (k-l.length) with
   | none=>rw [kj] at aj;simp only [i7] at aj ⊢;simp [l6,aj]
   | some sv =>
    obtain ⟨b,m⟩:=sv
    rw [kj] at aj
    obtain ⟨c,eC,f1,f2,f3,f4⟩:=aj
    refine ⟨c,eC,f1,f2,?_,fun j x R=> ?_⟩
    ·intro e he
     simp only [l6,List.mem_map] at he
     obtain ⟨eJ,lL,rfl⟩:=he
     simpa [l6] using f3 eJ lL
    ·simp only [l6] at R
     rw [map_flatten,List.getElem?_map,Option.map_eq_some_iff] at R
     obtain ⟨y,a0,rfl⟩:=R
     obtain ⟨u,lk,nI,gI⟩:=f4 j y a0
     exact ⟨u,lk,nI,Bn y u gI⟩
  ·rw [e2]
   exact dt.obj (fun b m _=>rfl) (h.obj q k o e1)
 ·intro q k o q1 mS ae b m cq h1 h2 ab au
  rcases bl q k o h1 with ⟨rfl,f1,p,e1,e2,bO⟩|⟨f1,e1,e2,f2⟩<;>rcases bl q1 mS ae h2 with ⟨rfl,yi,ka,mO,o3,Bj⟩|⟨yi,mO,o3,ae9⟩
  ·rw [bO] at ab;rw [Bj] at au
   obtain ⟨-,e⟩:=h.inj _ _ _ _ _ _ b m cq e1 mO ab au
   exact ⟨rfl,by omega⟩
  ·rw [bO] at ab;rw [o3] at au
   obtain ⟨e,-⟩:=h.inj _ _ _ _ _ _ b m cq e1 mO ab au
   exact absurd e.symm yi
  ·rw [e2] at ab;rw [Bj] at au
   obtain ⟨e,-⟩:=h.inj _ _ _ _ _ _ b m cq e1 mO ab au
   exact absurd e f1
  ·rw [e2] at ab;rw [o3] at au
   exact h.inj _ _ _ _ _ _ b m cq e1 mO ab au
 ·intro q k o b m h1 h2
  rcases bl q k o h1 with ⟨-,-,p,e1,e2,bO⟩|⟨-,e1,e2,-⟩
  ·rw [bO] at h2;exact h.own eD _ p b m e1 h2
  ·rw [e2] at h2;exact h.own q k o b m e1 h2
 ·exact dt.stay h.stay
end
end Go.VL
namespace Go.VL
set_option linter.unusedVariables false
set_option linter.unusedSimpArgs false
open Go
def az.iA:az→Bool
 | .dead | .b _ | .n .. | .s _ | .hR | .ei | .h7 | .isl .. | .d7 .. | .jX .. => true
 | _=>false
def az.Am:az→Bool
 | .agg c=>c.all az.iA
 | .fn _ c=>c.all az.iA
 | x=>x.iA
def az.Qs:az→Bool
 | .dS c=>c.all az.Am
 | x=>x.Am
section
variable {w:World} {ok:Nat→Prop} {a1:iW} {a9:iN}
theorem Rel.xR {x:az}{v:Value}(h:Rel w ok a1 a9 x v)(a2:x.iA=true):Pure x:=by
 cases h with
 | dead=>exact .dead
 | b=>exact .b _
 | n=>exact .n _ _
 | s=>exact .s _
 | hR=>exact .hR
 | ei=>exact .ei
 | h7=>exact .h7
 | jV=>exact .isl (by simp)
 | isl cs aP aj=>exact .isl aj
 | d7 cs aP aj=>exact .d7 aj
 | o1 sz=>exact .o1 sz
 | oD h=>cases h with|d7 cs aP aj=>exact .oD fun x R=>aj _ (List.mem_singleton.2 rfl) x R
 | _=>simp [az.iA] at a2
theorem NZ {c:List az}{vs:List Value}(aV:vs.length=c.length)(aq:∀(j:Nat) x u,c[j]? = some x→vs[j]? = some u→Rel w ok a1 a9 x u)
 (a2:c.all az.iA=true) : ∀x∈c,Pure x:=by
 intro x R
 obtain ⟨j,aC⟩:=List.getElem?_of_mem R
 have dC:j<vs.length:=by have:=fQ aC;omega
 exact (aq j x _ aC (List.getElem?_eq_getElem dC)).xR (List.all_eq_true.1 a2 x R)
theorem Rel.DP {x:az}{v:Value}(h:Rel w ok a1 a9 x v)(a2:x.Am=true):Pure x:=by
 cases h with
 | agg vs aV ba aq=>exact .agg (NZ aV aq a2)
 | fn vs aV aq=>exact .fn (NZ aV aq a2)
 | dead=>exact .dead
 | b=>exact .b _
 | n=>exact .n _ _
 | s=>exact .s _
 | hR=>exact .hR
 | ei=>exact .ei
 | h7=>exact .h7
 | jV=>exact .isl (by simp)
 | isl cs aP aj=>exact .isl aj
 | d7 cs aP aj=>exact .d7 aj
 | o1 sz=>exact .o1 sz
 | oD h=>cases h with|d7 cs aP aj=>exact .oD fun x R=>aj _ (List.mem_singleton.2 rfl) x R
 | _=>simp [az.Am,az.iA] at a2
theorem Rel.abm {x:az}{v:Value}(h:Rel w ok a1 a9 x v)(a2:x.Qs=true):Pure x:=by
 by_cases ca : ∃c,x = .dS c
 ·obtain ⟨c,rfl⟩:=ca
  obtain ⟨vs,rfl,aV,aq⟩:=h.xy
  refine .dS fun x R=> ?_
  obtain ⟨j,aC⟩:=List.getElem?_of_mem R
  have dC:j<vs.length:=by have:=fQ aC;omega
  exact (aq j x _ aC (List.getElem?_eq_getElem dC)).DP (List.all_eq_true.1 a2 x R)
 ·refine h.DP ?_
  cases x<;>first|exact a2|exact absurd ⟨_,rfl⟩ ca
end
def cB:List Nat→Nat→Option Nat
 | [],_=>none
 | x::l,r=>if x=r then some 0 else (cB l r).map (· + 1)
theorem N0 : ∀ {l:List Nat} {r j:Nat},cB l r=some j→l[j]? = some r
 | x::l,r,j,h=>by
  unfold cB at h
  split at h
  ·simp at h;subst h;simp [*]
  ·rw [Option.map_eq_some_iff] at h
   obtain ⟨i,ao,rfl⟩:=h
   simpa using N0 ao
theorem N1 : ∀ {l:List Nat} {r j:Nat},l.Nodup→l[j]? = some r→cB l r=some j
 | x::l,r,j,a2,h=>by
  rw [List.nodup_cons] at a2
  unfold cB
  cases j with
  | zero=>simp at h;simp [h]
  | succ j =>
   simp at h
   have:x≠r:=by rintro rfl;exact a2.1 (List.mem_of_getElem? h)
   rw [if_neg this,N1 a2.2 h];rfl
def Bo (dL:Nat)(jc:List ad)(b1:fX→Bool)(x cA:az):Prop :=
 (cA=x∧x.iA=true)∨(∃c sz,x = .iE dL c sz none∧cA = .isl sz [])∨ ∃k bQ len o,(x = .bk dL k bQ len∨ ∃c sz iY,k=iY+c∧bQ=0∧x = .iE dL c sz (some (iY,len)))∧dc (some jc) k=some o∧b1 o.ch=true∧bQ+len≤o.es.length ∧
   jx ((o.es.drop bQ).take len)∧cA = .isl o.sz ((o.es.drop bQ).take len)
def B2 (dL:Nat)(jc:List ad)(b1:fX→Bool)(sz:Nat)(es gf:List (List az)):Prop :=
 gf.length=es.length∧(∀e∈gf,e.length=sz)∧ ∀(j:Nat) x cA,es.flatten[j]? = some x→gf.flatten[j]? = some cA→Bo dL jc b1 x cA
def lq (aT:Nat→Option (List ad))(b6:Nat→Option Nat)(aZ:gw)(b1:fX→Bool):sr→az→Option (az×List Prop)
 | .id,x=>if x.iA then some (x,[]) else
  match x with
  | .ref r k i off=>match b6 r with
   | some j=>some (.ref j k i off,[])
   | none=>none
  | .bk r k bQ len=>match b6 r with
   | some j=>some (.bk j k bQ len,[])
   | none=>none
  | .iE r c sz h=>match b6 r with
   | some j=>some (.iE j c sz h,[])
   | none=>none
  | _=>none
 | .jE sz,.ei=>some (.isl sz [],[])
 | .jE sz,.h7=>some (.isl sz [],[])
 | .ek gf,.bk r k bQ len=>match dc (aT r) k with
  | some o=>if b1 o.ch && (b6 r).isNone then some (.isl o.sz gf,[gf=(o.es.drop bQ).take len,bQ+len≤o.es.length,jx gf]) else none
  | none=>none
 | .jF,_=>some (.dead,[])
 | .cu y,x=>if x.iA then some (y,[x=y]) else none
 | .len n,.bk r k bQ len=>match b6 r with
  | some j=>some (.bk j k bQ n,[len=n])
  | none=>none
 | .LQ sz,x=>match x with
  | .hR=>some (.jX sz none,[])
  | .d7 Ea [c] 0 0=>if Ea=sz then some (.jX sz (some c),[]) else none
  | _=>none
 | .at_ j i n,.bk r k bQ len=>some (.bk j i bQ n,[aZ j i=some (r,k),len=n])
 | .at_ j i _,.ref r k x y=>some (.ref j i x y,[aZ j i=some (r,k)])
 | .view dL o gf,.bk r k bQ len=>match aT r,aT dL with
  | some row,some jc=>if (b6 r).isNone && (b6 dL).isNone then
   some (.isl o.sz gf,[dc (some row) k=some o,b1 o.ch=true,bQ+len≤o.es.length,jx gf,B2 dL jc b1 o.sz ((o.es.drop bQ).take len) gf]) else none
  | _,_=>none
 | _,_=>none
def lr {α β:Type}(f:α→β→Option (β×List Prop)):List α→List β→Option (List β×List Prop)
 | [],[]=>some ([],[])
 | a::l,b::m=>match f a b,lr f l m with
  | some (kb,ae),some (cq,aS)=>some (kb::cq,ae++aS)
  | _,_=>none
 | _,_=>none
def nV (aT:Nat→Option (List ad))(b6:Nat→Option Nat)(aZ:gw)(b1:fX→Bool):yF→az→Option (az×List Prop)
 | .dh c,x=>if x.Am then (match c with | .id=>some (x,[]) | .jF=>some (.dead,[]) | .cu y=>some (y,[x=y])|c=>lq aT b6 aZ b1 c x) else lq aT b6 aZ b1 c x
 | .agg l,.agg c=>match lr (lq aT b6 aZ b1) l c with
  | some (dH,ak)=>some (.agg dH,ak)
  | none=>none
 | .ptr l,.ref r k i off=>match dc (aT r) k with
  | some o=>match o.es with
   | [c]=>if b1 o.ch && (b6 r).isNone then
    match lr (lq aT b6 aZ b1) l c with
    | some (dH,ak)=>some (.d7 o.sz [dH] i off,ak++[jx [dH]])
    | none=>none
    else none
   | _=>none
  | none=>none
 | .Ky l,x=>match x with
  | .ref r k 0 0=>match dc (aT r) k with
   | some o=>match o.es with
    | [c]=>if b1 o.ch && (b6 r).isNone then
     match lr (lq aT b6 aZ b1) l c with
     | some (dH,ak)=>some (.jX o.sz (some dH),ak++[jx [dH]])
     | none=>none
     else none
    | _=>none
   | none=>none
  | _=>none
 | _,_=>none
def nq (aT:Nat→Option (List ad))(b6:Nat→Option Nat)(aZ:gw)(b1:fX→Bool):lg→az→Option (az×List Prop)
 | .br c,x=>if x.Qs then (match c with | .dh .id=>some (x,[])|c=>nV aT b6 aZ b1 c x) else nV aT b6 aZ b1 c x
 | .comp l,.dS c=>match lr (nV aT b6 aZ b1) l c with
  | some (dH,ak)=>some (.dS dH,ak)
  | none=>none
 | .comp l,.fn f c=>match lr (nV aT b6 aZ b1) l c with
  | some (dH,ak)=>some (.fn f dH,ak)
  | none=>none
 | _,_=>none
def sR (row:List ad):Prop:= ∀o∈row,jx o.es∧o.ch = .live
def me (row:List ad):Prop:= ∀o∈row,o.ch = .live∨o.ch = .gone
def nE (b6:Nat→Option Nat):az→az
 | .ref r k i off=>match b6 r with|some j=> .ref j k i off|none=> .dead
 | .bk r k bQ len=>match b6 r with|some j=> .bk j k bQ len|none=> .dead
 | .iE r c sz h=>match b6 r with|some j=> .iE j c sz h|none=> .dead
 | x=>if x.iA then x else .dead
def gC (b6:Nat→Option Nat)(o:ad):ad:={o with es:=o.es.map fun e=>e.map (nE b6)}
def iS (aT:Nat→Option (List ad))(b6:Nat→Option Nat)(aZ:gw)(b1:fX→Bool):iv→List ad→Option (List ad×List Prop)
 | .pure,row=>some (row,[sR row])
 | .cu dO,row=>some (dO,[row=dO,sR dO])
 | .bB dO,row=>some (dO,[dO=row.map (gC b6),me row])
 | .box l,[o]=>match o.es with
  | [c]=>if o.ch = .live then match lr (lq aT b6 aZ b1) l c with
   | some (dH,ak)=>some ([{o with es:=[dH]}],ak)
   | none=>none
   else none
  | _=>none
 | _,_=>none
structure sw (q:az→Prop) (b1:fX→Bool):Prop extends Down q where
 all : ∀k,b1 k=true→ ∀x,q x
theorem ti (b1:fX→Bool):sw lP b1:={toDown:=abi,all:=fun _ _ _=>trivial}
theorem acv:sw b7 (fun _=>false):={toDown:=abk,all:=fun _ h=>by simp at h}
structure ms (s:S) (aZ:gw) (b6:Nat→Option Nat) (b1:fX→Bool):Prop where
 ao : ∀r j,b6 r=some j→ ∀k,aZ j k=some (r,k)
 a2 : ∀r,b6 r=none→ ∀k o,s.ak r k=some o→b1 o.ch=true→ ∀j i,aZ j i≠some (r,k)
section
variable {g:G} {s:S} {aw:fj} {w:World} {aZ:gw} {b6:Nat→Option Nat} {b1:fX→Bool} {q:az→Prop}
theorem Dl {α β:Type}(f:α→β→Option (β×List Prop)): ∀(l:List α) (m cq:List β) (ak:List Prop),lr f l m=some (cq,ak) →
 cq.length=m.length∧l.length=m.length∧ ∀(j:Nat) b kb,m[j]? = some b→cq[j]? = some kb→ ∃x b0,l[j]? = some x∧f x b=some (kb,b0)∧ ∀p∈b0,p∈ak
 | [],[],cq,ak,h=>by
  simp [lr] at h;obtain ⟨rfl,rfl⟩:=h
  exact ⟨rfl,rfl,fun j b kb aP=>by simp at aP⟩
 | [],_::_,_,_,h=>by simp [lr] at h
 | _::_,[],_,_,h=>by simp [lr] at h
 | x::l,b::m,cq,ak,h=>by
  simp only [lr] at h
  split at h
  ·rename_i kb ae g9 aS h1 h2
   simp only [Option.some.injEq,Prod.mk.injEq] at h
   obtain ⟨rfl,rfl⟩:=h
   obtain ⟨e1,e2,bO⟩:=Dl f l m g9 aS h2
   refine ⟨by simp [e1],by simp [e2],fun j c dH ba sd=> ?_⟩
   cases j with
   | zero =>
    simp at ba sd;subst ba;subst sd
    exact ⟨x,ae,rfl,h1,fun p aj=>by simp [aj]⟩
   | succ j =>
    simp at ba sd
    obtain ⟨y,b0,f1,f2,f3⟩:=bO j c dH ba sd
    exact ⟨y,b0,by simpa using f1,f2,fun p aj=>by simp [f3 p aj]⟩
  ·simp at h
theorem JF (d9:hS g s aw w)(H:ms s aZ b6 b1)(bC:sw q b1){c:sr}{x cA:az}{ak:List Prop}(h:lq s.aT b6 aZ b1 c x=some (cA,ak))(bl:∀p∈ak,p)
 (a8:q x) {v:Value} (aq:Rel w (s.ok g aw w) s.a1 (s.a9 aw) x v):hs s aZ b1 q x cA:=by
 have jd : ∀ {r k bQ len:Nat},x = .bk r k bQ len→s.a1 r k:=by
  intro r k bQ len e;subst e;cases aq<;>assumption
 cases c with
 | id =>
  simp only [lq] at h
  split at h
  ·rename_i a2
   simp only [Option.some.injEq,Prod.mk.injEq] at h
   obtain ⟨rfl,rfl⟩:=h
   exact .pure (aq.xR a2) a8
  ·split at h
   ·rename_i r k i off _
    split at h
    ·rename_i j aC
     simp only [Option.some.injEq,Prod.mk.injEq] at h
     obtain ⟨rfl,rfl⟩:=h
     exact .ref i off (H.ao r j aC k) (by cases aq<;>assumption)
    ·simp at h
   ·rename_i r k bQ len _
    split at h
    ·rename_i j aC
     simp only [Option.some.injEq,Prod.mk.injEq] at h
     obtain ⟨rfl,rfl⟩:=h
     exact .bk bQ len (H.ao r j aC k) (jd rfl)
    ·simp at h
   ·rename_i r c sz fI _
    split at h
    ·rename_i j aC
     simp only [Option.some.injEq,Prod.mk.injEq] at h
     obtain ⟨rfl,rfl⟩:=h
     exact .iE fI (fun k=>H.ao r j aC _)
    ·simp at h
   ·simp at h
 | jE sz =>
  cases x<;>simp [lq] at h
  ·obtain ⟨rfl,rfl⟩:=h
   exact .ei sz
  ·obtain ⟨rfl,rfl⟩:=h
   exact .h7 sz
 | ek gf =>
  cases x<;>simp only [lq,reduceCtorEq] at h
  rename_i r k bQ len
  split at h
  ·rename_i o an
   split at h
   ·rename_i ba
    simp only [Bool.and_eq_true,Option.isNone_iff_eq_none] at ba
    simp only [Option.some.injEq,Prod.mk.injEq] at h
    obtain ⟨rfl,rfl⟩:=h
    have h1:gf=(o.es.drop bQ).take len:=bl _ (by simp)
    have h2:bQ+len≤o.es.length:=bl _ (by simp)
    have ab:jx gf:=bl _ (by simp)
    have dK:s.ak r k=some o:=an
    have hlen : ∀e∈o.es,e.length=o.sz:=by
     have ft:=d9.obj r k o dK
     cases aj:aw r k with
     | none=>rw [aj] at ft;simp only [i7] at ft;rw [ft];simp
     | some q=>rw [aj] at ft;obtain ⟨_,_,_,_,e,_⟩:=ft;exact e
    refine .isl dK ba.1 (H.a2 r ba.2 k o dK ba.1) h2 ab ?_ ?_ ?_
    ·rw [h1];exact fun e he=>hlen e (List.mem_of_mem_drop (List.mem_of_mem_take he))
    ·rw [h1];simp;omega
    ·intro j y lS a0 nF
     rw [h1] at nF
     rw [a0] at nF;simp at nF;subst nF
     rw [h1] at ab
     obtain ⟨e,he,Bp⟩:=rH a0
     exact .pure (ab e he y Bp) (bC.all _ ba.1 y)
   ·simp at h
  ·simp at h
 | jF =>
  simp only [lq,Option.some.injEq,Prod.mk.injEq] at h
  obtain ⟨rfl,rfl⟩:=h
  exact .dead x
 | cu y =>
  simp only [lq] at h
  split at h
  ·rename_i a2
   simp only [Option.some.injEq,Prod.mk.injEq] at h
   obtain ⟨rfl,rfl⟩:=h
   have e:x=y:=bl _ (by simp)
   subst e
   exact .pure (aq.xR a2) a8
  ·simp at h
 | len n =>
  cases x<;>simp only [lq,reduceCtorEq] at h
  rename_i r k bQ len
  split at h
  ·rename_i j aC
   simp only [Option.some.injEq,Prod.mk.injEq] at h
   obtain ⟨rfl,rfl⟩:=h
   have e:len=n:=bl _ (by simp)
   subst e
   exact .bk bQ len (H.ao r j aC k) (jd rfl)
  ·simp at h
 | at_ j i n =>
  cases x<;>simp only [lq,reduceCtorEq] at h
  ·rename_i r k x y
   simp only [Option.some.injEq,Prod.mk.injEq] at h
   obtain ⟨rfl,rfl⟩:=h
   exact .ref x y (bl _ (List.mem_cons_self)) (by cases aq<;>assumption)
  ·rename_i r k bQ len
   simp only [Option.some.injEq,Prod.mk.injEq] at h
   obtain ⟨rfl,rfl⟩:=h
   have e:len=n:=bl _ (by simp)
   subst e
   exact .bk bQ len (bl _ (List.mem_cons_self)) (jd rfl)
 | view dL o gf =>
  cases x<;>simp only [lq,reduceCtorEq] at h
  rename_i r k bQ len
  split at h
  ·rename_i row jc dr abn
   split at h
   ·rename_i ba
    simp only [Bool.and_eq_true,Option.isNone_iff_eq_none] at ba
    simp only [Option.some.injEq,Prod.mk.injEq] at h
    obtain ⟨rfl,rfl⟩:=h
    have h1:dc (some row) k=some o:=bl _ (by simp)
    have h2:b1 o.ch=true:=bl _ (by simp)
    have ab:bQ+len≤o.es.length:=bl _ (by simp)
    have au:jx gf:=bl _ (by simp)
    have aA:B2 dL jc b1 o.sz ((o.es.drop bQ).take len) gf:=bl _ (by simp)
    have dK:s.ak r k=some o:=by unfold S.ak;rw [dr];exact h1
    obtain ⟨d1,d2,d3⟩:=aA
    refine .isl dK h2 (H.a2 r ba.1 k o dK h2) ab au d2 (by rw [d1];simp;omega) fun j y lS a0 nF=> ?_
    rcases d3 j y lS a0 nF with ⟨rfl,a2⟩|⟨cb,Rg,rfl,rfl⟩|⟨li,Eg,DY,p,Bq,e1,e2,bO,c5,rfl⟩
    ·obtain ⟨e,he,Bp⟩:=rH nF
     exact .pure (au e he lS Bp) (bC.all _ h2 _)
    ·exact .mE _ _ _
    ·have nC:s.ak dL li=some p:=by unfold S.ak;rw [abn];exact e1
     have hlen : ∀e∈p.es,e.length=p.sz:=by
      have ft:=d9.obj dL li p nC
      cases aj:aw dL li with
      | none=>rw [aj] at ft;simp only [i7] at ft;rw [ft];simp
      | some q=>rw [aj] at ft;obtain ⟨_,_,_,_,e,_⟩:=ft;exact e
     have Qt:hs s aZ b1 q (.bk dL li Eg DY) (.isl p.sz ((p.es.drop Eg).take DY)):=by
      refine .isl nC e2 (H.a2 dL ba.2 li p nC e2) bO c5 (fun e he=>hlen e (List.mem_of_mem_drop (List.mem_of_mem_take he))) (by simp;omega) fun j z afQ cm uZ=> ?_
      rw [cm] at uZ;simp at uZ;subst uZ
      obtain ⟨e,he,acw⟩:=rH cm
      exact .pure (c5 e he z acw) (bC.all _ e2 _)
     rcases Bq with rfl|⟨dh,afa,iY,rfl,rfl,rfl⟩
     ·exact Qt
     ·exact .nu Qt
   ·simp at h
  ·simp at h
 | LQ sz =>
  simp only [lq] at h
  split at h
  ·simp only [Option.some.injEq,Prod.mk.injEq] at h
   obtain ⟨rfl,rfl⟩:=h
   exact .DO _
  ·split at h
   ·rename_i e;subst e
    simp only [Option.some.injEq,Prod.mk.injEq] at h
    obtain ⟨rfl,rfl⟩:=h
    exact .jX (.pure (aq.xR rfl) a8)
   ·simp at h
  ·simp at h
theorem z1 (d9:hS g s aw w)(H:ms s aZ b6 b1)(bC:sw q b1){l:List sr}{c dH:List az}{ak:List Prop}(h:lr (lq s.aT b6 aZ b1) l c=some (dH,ak))(bl:∀p∈ak,p)
 (a8 : ∀x∈c,q x) {vs:List Value} (aV:vs.length=c.length) (aq : ∀(j:Nat) x u,c[j]? = some x→vs[j]? = some u→Rel w (s.ok g aw w) s.a1 (s.a9 aw) x u) :
 dH.length=c.length∧ ∀(j:Nat) x cA,c[j]? = some x→dH[j]? = some cA→hs s aZ b1 q x cA:=by
 obtain ⟨e1,e2,bO⟩:=Dl _ l c dH ak h
 refine ⟨e1,fun j x cA R dy=> ?_⟩
 obtain ⟨y,b0,f1,f2,f3⟩:=bO j x cA R dy
 have dC:j<vs.length:=by have:=fQ R;omega
 exact JF d9 H bC f2 (fun p aj=>bl p (f3 p aj)) (a8 x (List.mem_of_getElem? R)) (aq j x _ R (List.getElem?_eq_getElem dC))
theorem JG (d9:hS g s aw w)(H:ms s aZ b6 b1)(bC:sw q b1){c:yF}{x cA:az}{ak:List Prop}(h:nV s.aT b6 aZ b1 c x=some (cA,ak))(bl:∀p∈ak,p)
 (a8:q x) {v:Value} (aq:Rel w (s.ok g aw w) s.a1 (s.a9 aw) x v):hs s aZ b1 q x cA:=by
 cases c with
 | dh c =>
  simp only [nV] at h
  split at h
  ·rename_i a2
   split at h
   ·simp only [Option.some.injEq,Prod.mk.injEq] at h
    obtain ⟨rfl,rfl⟩:=h
    exact .pure (aq.DP a2) a8
   ·simp only [Option.some.injEq,Prod.mk.injEq] at h
    obtain ⟨rfl,rfl⟩:=h
    exact .dead _
   ·simp only [Option.some.injEq,Prod.mk.injEq] at h
    obtain ⟨rfl,rfl⟩:=h
    have e:=bl _ (List.mem_singleton.2 rfl)
    subst e
    exact .pure (aq.DP a2) a8
   ·exact JF d9 H bC h bl a8 aq
  ·exact JF d9 H bC h bl a8 aq
 | agg l =>
  cases x<;>simp only [nV,reduceCtorEq] at h
  rename_i c
  split at h
  ·rename_i dH nd ba
   simp only [Option.some.injEq,Prod.mk.injEq] at h
   obtain ⟨rfl,rfl⟩:=h
   obtain ⟨vs,rfl,aV,-,Br⟩:=aq.z9
   obtain ⟨e1,e2⟩:=z1 d9 H bC ba bl (fun y a0=>bC.agg _ _ a8 a0) aV Br
   exact .agg e1 e2
  ·simp at h
 | ptr l =>
  cases x<;>simp only [nV,reduceCtorEq] at h
  rename_i r k i off
  split at h
  ·rename_i o an
   split at h
   ·rename_i c hh
    split at h
    ·rename_i ba
     simp only [Bool.and_eq_true,Option.isNone_iff_eq_none] at ba
     split at h
     ·rename_i dH nd iq
      simp only [Option.some.injEq,Prod.mk.injEq] at h
      obtain ⟨rfl,rfl⟩:=h
      have dK:s.ak r k=some o:=an
      have ft:=d9.obj r k o dK
      cases aj:aw r k with
      | none=>rw [aj] at ft;simp only [i7] at ft;rw [hh] at ft;simp at ft
      | some q =>
       obtain ⟨b,m⟩:=q
       rw [aj] at ft
       obtain ⟨cf,eC,g1,g2,g3,g4⟩:=ft
       have KE:c.length=o.sz:=g3 c (by rw [hh];simp)
       have jB:o.es.flatten=c:=by rw [hh];simp
       have hcs : ∀j:Nat,j<c.length→ ∃u,cf[j]? = some u∧Rel w (s.ok g aw w) s.a1 (s.a9 aw) c[j]! u:=by
        intro j aC
        obtain ⟨u,lk,-,gI⟩:=g4 j c[j] (by rw [jB];exact List.getElem?_eq_getElem aC)
        exact ⟨u,lk,by rw [getElem!_pos c j aC];exact gI⟩
       obtain ⟨e1,e2⟩:=z1 (vs:=(List.range c.length).map fun j=>(cf[j]?).getD undef) d9 H bC iq (fun p aj=>bl p (by simp [aj])) (fun y _=>bC.all _ ba.1 y) (by simp) (by
        intro j y u a0 hu
        have aC:=fQ a0
        rw [List.getElem?_map,List.getElem?_range aC] at hu
        simp only [Option.map_some,Option.some.injEq] at hu
        obtain ⟨pB,lk,gI⟩:=hcs j aC
        rw [lk] at hu;simp at hu;subst hu
        rw [List.getElem?_eq_getElem aC] at a0;simp at a0;subst a0
        rw [getElem!_pos c j aC] at gI;exact gI)
       have rZ:jx [dH]:=bl _ (by simp)
       refine .d7 i off dK ba.1 (H.a2 r ba.2 k o dK ba.1) (by rw [hh];simp) rZ (by simp;omega) (by rw [hh];rfl) ?_
       ·intro j y lS a0 nF
        rw [jB] at a0
        simp only [List.flatten_cons,List.flatten_nil,List.append_nil] at nF
        exact e2 j y lS a0 nF
     ·simp at h
    ·simp at h
   ·simp at h
  ·simp at h
 | Ky l =>
  simp only [nV] at h
  split at h
  ·rename_i r k
   split at h
   ·rename_i o an
    split at h
    ·rename_i c hh
     split at h
     ·rename_i ba
      simp only [Bool.and_eq_true,Option.isNone_iff_eq_none] at ba
      split at h
      ·rename_i dH nd iq
       simp only [Option.some.injEq,Prod.mk.injEq] at h
       obtain ⟨rfl,rfl⟩:=h
       have dK:s.ak r k=some o:=an
       have ft:=d9.obj r k o dK
       cases aj:aw r k with
       | none=>rw [aj] at ft;simp only [i7] at ft;rw [hh] at ft;simp at ft
       | some q =>
        obtain ⟨b,m⟩:=q
        rw [aj] at ft
        obtain ⟨cf,eC,g1,g2,g3,g4⟩:=ft
        have KE:c.length=o.sz:=g3 c (by rw [hh];simp)
        have jB:o.es.flatten=c:=by rw [hh];simp
        have hcs : ∀j:Nat,j<c.length→ ∃u,cf[j]? = some u∧Rel w (s.ok g aw w) s.a1 (s.a9 aw) c[j]! u:=by
         intro j aC
         obtain ⟨u,lk,-,gI⟩:=g4 j c[j] (by rw [jB];exact List.getElem?_eq_getElem aC)
         exact ⟨u,lk,by rw [getElem!_pos c j aC];exact gI⟩
        obtain ⟨e1,e2⟩:=z1 (vs:=(List.range c.length).map fun j=>(cf[j]?).getD undef) d9 H bC iq (fun p aj=>bl p (by simp [aj])) (fun y _=>bC.all _ ba.1 y) (by simp) (by
         intro j y u a0 hu
         have aC:=fQ a0
         rw [List.getElem?_map,List.getElem?_range aC] at hu
         simp only [Option.map_some,Option.some.injEq] at hu
         obtain ⟨pB,lk,gI⟩:=hcs j aC
         rw [lk] at hu;simp at hu;subst hu
         rw [List.getElem?_eq_getElem aC] at a0;simp at a0;subst a0
         rw [getElem!_pos c j aC] at gI;exact gI)
        have rZ:jx [dH]:=bl _ (by simp)
        refine .jX (.d7 0 0 dK ba.1 (H.a2 r ba.2 k o dK ba.1) (by rw [hh];simp) rZ (by simp;omega) (by rw [hh];rfl) ?_)
        ·intro j y lS a0 nF
         rw [jB] at a0
         simp only [List.flatten_cons,List.flatten_nil,List.append_nil] at nF
         exact e2 j y lS a0 nF
      ·simp at h
     ·simp at h
    ·simp at h
   ·simp at h
  ·simp at h
theorem z6 (d9:hS g s aw w)(H:ms s aZ b6 b1)(bC:sw q b1){c:lg}{x cA:az}{ak:List Prop}(h:nq s.aT b6 aZ b1 c x=some (cA,ak))(bl:∀p∈ak,p)
 (a8:q x) {v:Value} (aq:Rel w (s.ok g aw w) s.a1 (s.a9 aw) x v):hs s aZ b1 q x cA:=by
 have key : ∀(l:List yF) (c dH:List az) (nd:List Prop) (vs:List Value),lr (nV s.aT b6 aZ b1) l c=some (dH,nd)→(∀p∈nd,p)→(∀x∈c,q x)→vs.length=c.length →
  (∀(j:Nat) x u,c[j]? = some x→vs[j]? = some u→Rel w (s.ok g aw w) s.a1 (s.a9 aw) x u)→dH.length=c.length∧ ∀(j:Nat) x cA,c[j]? = some x→dH[j]? = some cA→hs s aZ b1 q x cA:=by
  intro l c dH nd vs h bl a8 aV aq
  obtain ⟨e1,e2,bO⟩:=Dl _ l c dH nd h
  refine ⟨e1,fun j x cA R dy=> ?_⟩
  obtain ⟨y,b0,f1,f2,f3⟩:=bO j x cA R dy
  have dC:j<vs.length:=by have:=fQ R;omega
  exact JG d9 H bC f2 (fun p aj=>bl p (f3 p aj)) (a8 x (List.mem_of_getElem? R)) (aq j x _ R (List.getElem?_eq_getElem dC))
 cases c with
 | br c =>
  simp only [nq] at h
  split at h
  ·rename_i a2
   split at h
   ·simp only [Option.some.injEq,Prod.mk.injEq] at h
    obtain ⟨rfl,rfl⟩:=h
    exact .pure (aq.abm a2) a8
   ·exact JG d9 H bC h bl a8 aq
  ·exact JG d9 H bC h bl a8 aq
 | comp l =>
  cases x<;>simp only [nq,reduceCtorEq] at h
  ·rename_i c
   split at h
   ·rename_i dH nd ba
    simp only [Option.some.injEq,Prod.mk.injEq] at h
    obtain ⟨rfl,rfl⟩:=h
    obtain ⟨vs,rfl,aV,Br⟩:=aq.xy
    obtain ⟨e1,e2⟩:=key l c dH nd vs ba bl (fun y a0=>bC.dS _ _ a8 a0) aV Br
    exact .dS e1 e2
   ·simp at h
  ·rename_i f c
   split at h
   ·rename_i dH nd ba
    simp only [Option.some.injEq,Prod.mk.injEq] at h
    obtain ⟨rfl,rfl⟩:=h
    obtain ⟨vs,rfl,aV,Br⟩:=aq.DF
    obtain ⟨e1,e2⟩:=key l c dH nd vs ba bl (fun y a0=>bC.fn _ _ _ a8 a0) aV Br
    exact .fn e1 e2
   ·simp at h
theorem Qu (d9:hS g s aw w)(H:ms s aZ b6 b1){r:Nat}{j1:Nat→Nat}{row:List ad}(dr:∀k o,dc (some row) k=some o→s.ak r (j1 k)=some o)
 (a8 : ∀k o,dc (some row) k=some o→ ∀e∈o.es,∀x∈e,q x) :
 ∀(k:Nat) b0,dc (some (row.map (gC b6))) k=some b0→ ∃o,dc (some row) k=some o∧n5 s aZ b1 q o b0:=by
 intro k b0 dK
 rw [kg,List.getElem?_map] at dK
 cases a5:row[k]? with
 | none=>rw [a5] at dK;simp at dK
 | some o =>
  rw [a5] at dK
  simp only [Option.map_some,Option.bind_some] at dK
  split at dK
  ·simp at dK
  ·rename_i dD
   simp only [Option.some.injEq] at dK
   subst dK
   have an:dc (some row) k=some o:=by rw [kg,a5,Option.bind_some,if_neg (by simpa [gC] using dD)]
   have bV:s.ak r (j1 k)=some o:=dr k o an
   refine ⟨o,an,?_⟩
   have ft:=d9.obj r (j1 k) o bV
   have hlen : ∀e∈o.es,e.length=o.sz:=by
    cases aj:aw r (j1 k) with
    | none=>rw [aj] at ft;simp only [i7] at ft;rw [ft];simp
    | some q=>rw [aj] at ft;obtain ⟨_,_,_,_,e,_⟩:=ft;exact e
   refine ⟨rfl,.inl rfl,by simp [gC],?_,fun j x cA R dy=> ?_⟩
   ·intro e he
    simp only [gC,List.mem_map] at he
    obtain ⟨eJ,lL,rfl⟩:=he
    simpa using hlen eJ lL
   ·simp only [gC] at dy
    rw [map_flatten,List.getElem?_map,R] at dy
    simp only [Option.map_some,Option.some.injEq] at dy
    subst dy
    obtain ⟨e,he,p5⟩:=rH R
    have acx:=a8 k o an e he x p5
    cases aj:aw r (j1 k) with
    | none=>rw [aj] at ft;simp only [i7] at ft;rw [ft] at R;simp at R
    | some sv =>
     obtain ⟨b,m⟩:=sv
     rw [aj] at ft
     obtain ⟨c,eC,f1,f2,f3,f4⟩:=ft
     obtain ⟨u,lk,nI,gI⟩:=f4 j x R
     cases x with
     | ref r2 li i2 abR =>
      cases ca:b6 r2 with
      | none=>simp only [nE,ca];exact .dead _
      | some vi=>simp only [nE,ca];exact .ref i2 abR (H.ao _ _ ca _) (by cases gI<;>assumption)
     | bk r2 li Eg DY =>
      cases ca:b6 r2 with
      | none=>simp only [nE,ca];exact .dead _
      | some vi=>simp only [nE,ca];exact .bk Eg DY (H.ao _ _ ca _) (by cases gI<;>assumption)
     | iE r2 cb Rg h2 =>
      cases ca:b6 r2 with
      | none=>simp only [nE,ca];exact .dead _
      | some vi=>simp only [nE,ca];exact .iE h2 (fun k=>H.ao _ _ ca _)
     | _ =>
      simp only [nE]
      split
      ·rename_i a2;exact .pure (gI.xR a2) acx
      ·exact .dead _
theorem Dm (d9:hS g s aw w)(H:ms s aZ b6 b1)(bC:sw q b1){c:iv}{r:Nat}{j1:Nat→Nat}{row dO:List ad}{ak:List Prop}(dr:∀k o,dc (some row) k=some o→s.ak r (j1 k)=some o)
 (h:iS s.aT b6 aZ b1 c row=some (dO,ak)) (bl : ∀p∈ak,p) (a8 : ∀k o,dc (some row) k=some o→ ∀e∈o.es,∀x∈e,q x) :
 dO.length=row.length∧(∀k o,dc (some row) k=some o→o.ch = .live) ∧
 ∀(k:Nat) b0,dc (some dO) k=some b0→ ∃o,dc (some row) k=some o∧n5 s aZ b1 q o b0:=by
 have hlen : ∀k o,dc (some row) k=some o→ ∀e∈o.es,e.length=o.sz:=by
  intro k o an
  have dK:s.ak r (j1 k)=some o:=dr k o an
  have ft:=d9.obj r (j1 k) o dK
  cases aj:aw r (j1 k) with
  | none=>rw [aj] at ft;simp only [i7] at ft;rw [ft];simp
  | some q=>rw [aj] at ft;obtain ⟨_,_,_,_,e,_⟩:=ft;exact e
 have rZ:sR row→(∀k o,dc (some row) k=some o→o.ch = .live) ∧
  ∀(k:Nat) b0,dc (some row) k=some b0→ ∃o,dc (some row) k=some o∧n5 s aZ b1 q o b0:=by
  intro aj
  have pY : ∀k o,dc (some row) k=some o→o∈row:=by
   intro k o an
   unfold dc at an
   simp only at an
   split at an
   ·rename_i b0 dK
    split at an
    ·simp at an
    ·simp at an;subst an;exact List.mem_of_getElem? dK
   ·simp at an
  refine ⟨fun k o an=>(aj o (pY k o an)).2,fun k o an=>⟨o,an,rfl,.inl rfl,rfl,hlen k o an,fun j x cA R dy=> ?_⟩⟩
  rw [R] at dy;simp at dy;subst dy
  obtain ⟨e,he,p5⟩:=rH R
  exact .pure ((aj o (pY k o an)).1 e he x p5) (a8 k o an e he x p5)
 cases c with
 | pure =>
  simp only [iS,Option.some.injEq,Prod.mk.injEq] at h
  obtain ⟨rfl,rfl⟩:=h
  exact ⟨rfl,rZ (bl _ (by simp))⟩
 | cu ax =>
  simp only [iS,Option.some.injEq,Prod.mk.injEq] at h
  obtain ⟨rfl,rfl⟩:=h
  have e:row=ax:=bl _ (by simp)
  subst e
  exact ⟨rfl,rZ (bl _ (by simp))⟩
 | bB ax =>
  simp only [iS,Option.some.injEq,Prod.mk.injEq] at h
  obtain ⟨rfl,rfl⟩:=h
  have e:ax=row.map (gC b6):=bl _ (by simp)
  have K7:me row:=bl _ (by simp)
  subst e
  refine ⟨by simp,fun k o an=>by
   unfold dc at an
   simp only at an
   split at an
   ·rename_i b0 dK
    split at an
    ·simp at an
    ·rename_i dD
     simp at an;subst an
     exact (K7 _ (List.mem_of_getElem? dK)).resolve_right dD
   ·simp at an,Qu d9 H dr a8⟩
 | rx ax=>cases row with
  | nil=>simp [iS] at h
  | cons o l=>cases l<;>simp [iS] at h
 | drop=>cases row with
  | nil=>simp [iS] at h
  | cons o l=>cases l<;>simp [iS] at h
 | box l =>
  match row,h with
  | [o],h =>
   simp only [iS] at h
   split at h
   ·rename_i c hh
    split at h
    ·rename_i nB
     split at h
     ·rename_i dH nd ba
      simp only [Option.some.injEq,Prod.mk.injEq] at h
      obtain ⟨rfl,rfl⟩:=h
      have h0:dc (some [o]) 0=some o:=by rw [lV];simp [nB]
      refine ⟨rfl,fun k p aj=> ?_,fun k p aj=> ?_⟩
      ·rw [lV] at aj
       split at aj
       ·simp at aj;subst aj;exact nB
       ·simp at aj
      ·rw [lV] at aj
       split at aj
       ·rename_i sg
        obtain ⟨rfl,-⟩:=sg
        simp only [Option.some.injEq] at aj;subst aj
        refine ⟨o,h0,?_⟩
        have dK:s.ak r (j1 0)=some o:=dr 0 o h0
        have ft:=d9.obj r (j1 0) o dK
        cases kj:aw r (j1 0) with
        | none=>rw [kj] at ft;simp only [i7] at ft;rw [hh] at ft;simp at ft
        | some q =>
         obtain ⟨b,m⟩:=q
         rw [kj] at ft
         obtain ⟨cf,eC,g1,g2,g3,g4⟩:=ft
         have KE:c.length=o.sz:=g3 c (by rw [hh];simp)
         have jB:o.es.flatten=c:=by rw [hh];simp
         obtain ⟨e1,e2⟩:=z1 (vs:=(List.range c.length).map fun j=>(cf[j]?).getD undef) d9 H bC ba bl (fun y a0=>a8 0 o h0 c (by rw [hh];simp) y a0) (by simp) (by
          intro j y u a0 hu
          have aC:=fQ a0
          rw [List.getElem?_map,List.getElem?_range aC] at hu
          simp only [Option.map_some,Option.some.injEq] at hu
          obtain ⟨pB,lk,-,gI⟩:=g4 j y (by rw [jB];exact a0)
          rw [lk] at hu;simp at hu;subst hu
          exact gI)
         refine ⟨rfl,.inl rfl,by simp [hh],by simp;omega,fun j x cA R dy=> ?_⟩
         rw [jB] at R
         simp only [List.flatten_cons,List.flatten_nil,List.append_nil] at dy
         exact e2 j x cA R dy
       ·simp at aj
     ·simp at h
    ·simp at h
   ·simp at h
  | [],h=>simp [iS] at h
  | _::_::_,h=>simp [iS] at h
end
end Go.VL
namespace Go.VL
set_option linter.unusedVariables false
set_option linter.unusedSimpArgs false
open Go
def Dn (P:Program)(f:FuncId):Prop:= ∃fn,P.funcs[f]? = some fn∧(fn.name == "runtime.NumGoroutine")=false∧fn.body.isSome=true
def Con (P:Program)(f:FuncId)(args:List az)(T:List (List ad))(r:az)(ig:List (List ad)):Prop:=Dn P f∧abj P f args T r ig
def r3 (k:fX):Bool:=k = .iK
def kw (_:fX):Bool:=true
def kJ (_:fX):Bool:=false
def Src.r:Src→Nat
 | .row r=>r
 | .ak r _ _=>r
def Src.has:Src→Nat→Nat→Prop
 | .row r,q,_=>q=r
 | .ak r k _,q,d4=>q=r∧d4=k
def Src.mr:Src→Nat→Nat
 | .row _,k=>k
 | .ak ..,_=>0
def la (l:List Src):gw:=fun j i=>match l[j]? with
 | some (.row r)=>some (r,i)
 | some (.ak r k _)=>if i=0 then some (r,k) else none
 | none=>none
def oF (n:Nat):List Src→Nat→Option Nat
 | [],_=>none
 | .row r::l,q=>if r=q then some n else oF (n+1) l q
 | .ak .. :: l,q=>oF (n+1) l q
def je (n:Nat):List Src→gw
 | [],_,_=>none
 | .row r::l,q,k=>if q=r then some (n,k) else je (n+1) l q k
 | .ak r d4 _::l,q,k=>if q=r∧k=d4 then some (n,0) else je (n+1) l q k
def r4 (l:List Src):Nat→Option Nat:=fun j=>match l[j]? with
 | some (.row r)=>some r
 | _=>none
def apart:Src→Src→Option (List Prop)
 | .ak r k _,.ak eD d4 _=>if r=eD then some [k≠d4] else some []
 | a,b=>if a.r=b.r then none else some []
def DH (a:Src):List Src→Option (List Prop)
 | []=>some []
 | b::l=>match apart a b,DH a l with
  | some x,some y=>some (x++y)
  | _,_=>none
def DQ:List Src→Option (List Prop)
 | []=>some []
 | a::l=>match DH a l,DQ l with
  | some x,some y=>some (x++y)
  | _,_=>none
def A1 (l:List Src):Prop:=l.Pairwise fun a b=> ∀r k,¬(a.has r k∧b.has r k)
theorem Zt {a b:Src}{ak:List Prop}(h:apart a b=some ak)(bl:∀p∈ak,p): ∀r k,¬(a.has r k∧b.has r k):=by
 rintro r k ⟨h1,h2⟩
 have aq : ∀c:Src,c.has r k→c.r=r:=fun c ba=>by
  cases c with
  | row r0=>exact Eq.symm ba
  | ak r0 iY ll=>exact Eq.symm ba.1
 have e:=(aq a h1).trans (aq b h2).symm
 cases a with
 | row r0=>simp only [apart] at h;rw [if_pos e] at h;simp at h
 | ak r0 iY ll =>
  cases b with
  | row r1=>simp only [apart] at h;rw [if_pos e] at h;simp at h
  | ak r1 mS ae =>
   simp only [apart] at h
   rw [if_pos (show r0=r1 from e)] at h
   simp only [Option.some.injEq] at h
   subst h
   exact bl _ (List.mem_singleton.2 rfl) (h1.2.symm.trans h2.2)
theorem Ot {a:Src}: ∀ {l:List Src} {ak:List Prop},DH a l=some ak→(∀p∈ak,p)→ ∀b∈l,∀r k,¬(a.has r k∧b.has r k)
 | [],_,_,_,_,aP=>by simp at aP
 | b::l,ak,h,bl,c,ba=>by
  simp only [DH] at h
  split at h
  ·rename_i x y h1 h2
   simp only [Option.some.injEq] at h;subst h
   rcases List.mem_cons.1 ba with rfl|ba
   ·exact Zt h1 fun p aj=>bl p (by simp [aj])
   ·exact Ot h2 (fun p aj=>bl p (by simp [aj])) c ba
  ·simp at h
theorem OV : ∀ {l:List Src} {ak:List Prop},DQ l=some ak→(∀p∈ak,p)→A1 l
 | [],_,_,_=>List.Pairwise.nil
 | a::l,ak,h,bl=>by
  simp only [DQ] at h
  split at h
  ·rename_i x y h1 h2
   simp only [Option.some.injEq] at h;subst h
   exact List.pairwise_cons.2 ⟨Ot h1 fun p aj=>bl p (by simp [aj]),OV h2 fun p aj=>bl p (by simp [aj])⟩
  ·simp at h
theorem sT {l:List Src}{j i r k:Nat}:la l j i=some (r,k)↔ ∃a,l[j]? = some a∧a.has r k∧i=a.mr k:=by
 unfold la
 cases h:l[j]? with
 | none=>simp
 | some a =>
  cases a with
  | row r0 =>
   simp only [Option.some.injEq,Prod.mk.injEq,exists_eq_left',Src.has,Src.mr]
   constructor<;>rintro ⟨a,b⟩<;>exact ⟨a.symm,b⟩
  | ak r0 iY o =>
   simp only [Option.some.injEq,exists_eq_left',Src.has,Src.mr]
   by_cases e:i=0
   ·rw [if_pos e];simp only [Option.some.injEq,Prod.mk.injEq,e,and_true];constructor<;>rintro ⟨a,b⟩<;>exact ⟨a.symm,b.symm⟩
   ·rw [if_neg e];simp [e]
theorem uv : ∀ {l:List Src} {n r k j i:Nat},je n l r k=some (j,i)→ ∃a,n≤j∧l[j-n]? = some a∧a.has r k∧i=a.mr k
 | [],_,_,_,_,_,h=>by simp [je] at h
 | .row r0::l,n,r,k,j,i,h=>by
  simp only [je] at h
  split at h
  ·rename_i e
   simp only [Option.some.injEq,Prod.mk.injEq] at h
   obtain ⟨rfl,rfl⟩:=h
   exact ⟨.row r0,Nat.le_refl _,by simp,e,rfl⟩
  ·obtain ⟨a,h1,h2,ab,au⟩:=uv h
   exact ⟨a,by omega,by rw [show j-n=(j-(n+1))+1 by omega,List.getElem?_cons_succ];exact h2,ab,au⟩
 | .ak r0 iY o::l,n,r,k,j,i,h=>by
  simp only [je] at h
  split at h
  ·rename_i e
   simp only [Option.some.injEq,Prod.mk.injEq] at h
   obtain ⟨rfl,rfl⟩:=h
   exact ⟨.ak r0 iY o,Nat.le_refl _,by simp,e,rfl⟩
  ·obtain ⟨a,h1,h2,ab,au⟩:=uv h
   exact ⟨a,by omega,by rw [show j-n=(j-(n+1))+1 by omega,List.getElem?_cons_succ];exact h2,ab,au⟩
theorem rb (n:Nat)(a:Src)(l:List Src)(r k:Nat)(h:¬a.has r k):je n (a::l) r k=je (n+1) l r k:=by
 cases a<;>simp only [je,Src.has] at h ⊢ <;> rw [if_neg h]
theorem Zu (n:Nat)(a:Src)(l:List Src)(r k:Nat)(h:a.has r k):je n (a::l) r k=some (n,a.mr k):=by
 cases a<;>simp only [je,Src.has,Src.mr] at h ⊢ <;> rw [if_pos h]
theorem An : ∀ {l:List Src} {n r k j:Nat} {a:Src},A1 l→l[j]? = some a→a.has r k→je n l r k=some (n+j,a.mr k)
 | b::l,n,r,k,0,a,_,h,bA=>by
  simp at h;subst h
  exact Zu n b l r k bA
 | b::l,n,r,k,j+1,a,bC,h,bA=>by
  simp at h
  have bC:=List.pairwise_cons.1 bC
  rw [rb n b l r k fun aP=>bC.1 a (List.mem_of_getElem? h) r k ⟨aP,bA⟩,An (j:=j) bC.2 h bA]
  congr 2;omega
theorem aaP {a:Src}{r k eD d4:Nat}(h:a.has r k)(cx:a.has eD d4)(e:a.mr k=a.mr d4):r=eD∧k=d4:=by
 cases a<;>simp only [Src.has,Src.mr] at h cx e<;>omega
theorem aah {l:List Src}{n r k eD d4:Nat}{p:Nat×Nat}(h:je n l r k=some p)(cx:je n l eD d4=some p):r=eD∧k=d4:=by
 obtain ⟨j,i⟩:=p
 obtain ⟨a,h1,h2,ab,au⟩:=uv h
 obtain ⟨dw,p4,K8,acy,afb⟩:=uv cx
 rw [h2] at K8;simp at K8;subst K8
 exact aaP ab acy (by omega)
theorem Ju : ∀ {l:List Src} {n r j:Nat},oF n l r=some j→n≤j∧l[j-n]? = some (.row r)
 | [],_,_,_,h=>by simp [oF] at h
 | .row r0::l,n,r,j,h=>by
  simp only [oF] at h
  split at h
  ·rename_i e;simp at h;subst h;subst e;exact ⟨Nat.le_refl _,by simp⟩
  ·obtain ⟨h1,h2⟩:=Ju h
   exact ⟨by omega,by rw [show j-n=(j-(n+1))+1 by omega,List.getElem?_cons_succ];exact h2⟩
 | .ak r0 iY o::l,n,r,j,h=>by
  simp only [oF] at h
  obtain ⟨h1,h2⟩:=Ju h
  exact ⟨by omega,by rw [show j-n=(j-(n+1))+1 by omega,List.getElem?_cons_succ];exact h2⟩
theorem Ou : ∀ {l:List Src} {n r:Nat},oF n l r=none→Src.row r ∉ l
 | [],_,_,_=>by simp
 | .row r0::l,n,r,h=>by
  simp only [oF] at h
  split at h
  ·simp at h
  ·rename_i e
   simp only [List.mem_cons,Src.row.injEq,not_or]
   exact ⟨fun h=>e h.symm,Ou h⟩
 | .ak r0 iY o::l,n,r,h=>by
  simp only [oF] at h
  simp only [List.mem_cons,reduceCtorEq,false_or]
  exact Ou h
def lY (aT:Nat→Option (List ad))(b6:Nat→Option Nat)(aZ:gw):List Src→List iv→Option (List (List ad)×List Prop)
 | [],[]=>some ([],[])
 | .row r::l,c::dm=>match aT r with
  | some row=>match iS aT b6 aZ r3 c row,lY aT b6 aZ l dm with
   | some (dO,ae),some (T,aS)=>some (dO::T,ae++aS)
   | _,_=>none
  | none=>none
 | .ak r k o::l,c::dm=>match aT r with
  | some row=>match iS aT b6 aZ r3 c [o],lY aT b6 aZ l dm with
   | some (dO,ae),some (T,aS)=>some (dO::T,(dc (some row) k=some o)::(ae++aS))
   | _,_=>none
  | none=>none
 | _,_=>none
def kP (vj:Nat→Option (List ad))(b6:Nat→Option Nat)(kE:gw):(Nat→Option (List ad))→List Src→List iv→List (List ad)→Option (List (Nat×List ad)×List Prop)
 | _,[],[],[]=>some ([],[])
 | aT,.row q::l,c::dm,row::T=>match iS vj b6 kE kJ c row with
  | some (dO,ae)=>match kP vj b6 kE (fun x=>if x=q then some dO else aT x) l dm T with
   | some (u,aS)=>some ((q,dO)::u,ae++aS)
   | none=>none
  | none=>none
 | aT,.ak q k _::l,c::dm,row::T=>match aT q with
  | some lu=>match iS vj b6 kE kJ c row with
   | some ([b0],ae)=>match kP vj b6 kE (fun x=>if x=q then some (lu.set k b0) else aT x) l dm T with
    | some (u,aS)=>some ((q,lu.set k b0)::u,ae++aS)
    | none=>none
   | _=>none
  | none=>none
 | _,_,_,_=>none
def oK (T:List (List ad)):Prop:= ∀row∈T,∀o∈row,∀e∈o.es,∀x∈e,b7 x
def xS (P:Program)(aT:Nat→Option (List ad))(aR:Nat)(f:FuncId)(args:List az)(cf:BW):Option hT :=
 let l:=if cf.fv.length=cf.aZ.length then cf.aZ else cf.aZ++[.row aR]
 match DQ cf.aZ with
 | none=>none
 | some ll =>
  if cf.aZ.any (fun a=>decide (a.r=aR)) then none else
  if cf.fz then
   match cf.aZ with
   | [] =>
    match lr (nq aT (fun _=>none) (la []) kw) cf.ac args,nq (fun j=>cf.fv[j]?) (r4 l) (je 0 l) kJ cf.ic cf.r,
     kP (fun j=>cf.fv[j]?) (r4 l) (je 0 l) aT l cf.kk cf.fv with
    | some (pT,ae),some (eD,fA),some (u,eO)=>some {val:=eD,fE:=u,fr:=ae++fA++eO++[Con P f pT [] cf.r cf.fv,b7 cf.r]++(if cf.fv.isEmpty then [] else [oK cf.fv])}
    | _,_,_=>none
   | _=>none
  else
   match lr (nq aT (oF 0 cf.aZ) (la cf.aZ) r3) cf.ac args,lY aT (oF 0 cf.aZ) (la cf.aZ) cf.aZ cf.dm,
    nq (fun j=>cf.fv[j]?) (r4 l) (je 0 l) kJ cf.ic cf.r,kP (fun j=>cf.fv[j]?) (r4 l) (je 0 l) aT l cf.kk cf.fv with
   | some (pT,ae),some (T,aS),some (eD,fA),some (u,eO) =>
    some {val:=eD,fE:=u,fr:=ll++ae++aS++fA++eO++[Con P f pT T cf.r cf.fv]}
   | _,_,_,_=>none
theorem N2 {aT:Nat→Option (List ad)}{b6:Nat→Option Nat}{aZ:gw}{b1:fX→Bool}{c:iv}{row dO:List ad}{ak:List Prop}(h:iS aT b6 aZ b1 c row=some (dO,ak))(bl:∀p∈ak,p):
 ∀k o,dc (some row) k=some o→o.ch = .live:=by
 have pY : ∀k o,dc (some row) k=some o→o∈row∧o.ch≠ .gone:=by
  intro k o an
  rw [kg] at an
  cases a5:row[k]? with
  | none=>rw [a5] at an;simp at an
  | some p =>
   rw [a5,Option.bind_some] at an
   split at an
   ·simp at an
   ·rename_i e;simp at an;subst an;exact ⟨List.mem_of_getElem? a5,e⟩
 intro k o an
 obtain ⟨h1,h2⟩:=pY k o an
 cases c with
 | pure =>
  simp only [iS,Option.some.injEq,Prod.mk.injEq] at h
  obtain ⟨rfl,rfl⟩:=h
  exact ((bl _ (List.mem_singleton.2 rfl):sR row) o h1).2
 | cu ax =>
  simp only [iS,Option.some.injEq,Prod.mk.injEq] at h
  obtain ⟨rfl,rfl⟩:=h
  have e:row=ax:=bl _ (by simp)
  have aj:sR ax:=bl _ (by simp)
  exact (aj o (e▸h1)).2
 | bB ax =>
  simp only [iS,Option.some.injEq,Prod.mk.injEq] at h
  obtain ⟨rfl,rfl⟩:=h
  have aj:me row:=bl _ (by simp)
  exact (aj o h1).resolve_right h2
 | rx ax=>cases row with
  | nil=>simp [iS] at h
  | cons o l=>cases l<;>simp [iS] at h
 | drop=>cases row with
  | nil=>simp [iS] at h
  | cons o l=>cases l<;>simp [iS] at h
 | box l =>
  match row,h,h1 with
  | [p],h,h1 =>
   simp only [iS] at h
   rw [List.mem_singleton] at h1;subst h1
   split at h
   ·split at h
    ·rename_i e;exact e
    ·simp at h
   ·simp at h
  | [],h,_=>simp [iS] at h
  | _::_::_,h,_=>simp [iS] at h
section
variable {P:Program} {g:G} {s:S} {aw:fj} {a:Act} {w:World}
theorem Jv (d9:hS g s aw w){aZ:gw}{b6:Nat→Option Nat}(H:ms s aZ b6 r3): ∀(l:List Src) (dm:List iv) (T:List (List ad)) (ak:List Prop),
 lY s.aT b6 aZ l dm=some (T,ak)→(∀p∈ak,p)→T.length=l.length∧ ∀(j:Nat) dO b,T[j]? = some dO→l[j]? = some b →
  (∀r k o,b.has r k→s.ak r k=some o→o.ch = .live)∧(∀r k,b.has r k→s.a1 r k→b.mr k<dO.length) ∧
  (∀r k o,b = .ak r k o→s.ak r k=some o) ∧
  ∀(i:Nat) b0,dc (some dO) i=some b0→ ∃r k o,b.has r k∧i=b.mr k∧s.ak r k=some o∧n5 s aZ r3 lP o b0
 | [],[],T,ak,h,_=>by
  simp [lY] at h;obtain ⟨rfl,rfl⟩:=h
  exact ⟨rfl,fun j dO r aC=>by simp at aC⟩
 | .row r::l,c::dm,T,ak,h,bl=>by
  simp only [lY] at h
  split at h
  ·rename_i row dr
   split at h
   ·rename_i ap ae mT aS h1 h2
    simp only [Option.some.injEq,Prod.mk.injEq] at h
    obtain ⟨rfl,rfl⟩:=h
    obtain ⟨e1,e2⟩:=Jv d9 H l dm mT aS h2 (fun p aj=>bl p (by simp [aj]))
    have j6 : ∀k,s.ak r k=dc (some row) k:=fun k=>by unfold S.ak;rw [dr]
    obtain ⟨f0,f1,f2⟩:=Dm (q:=lP) (j1:=id) d9 H (ti _) (fun k o an=>(j6 k).trans an) h1 (fun p aj=>bl p (by simp [aj])) (fun _ _ _ _ _ _ _=>trivial)
    refine ⟨by simp [e1],fun j dO b aC aP=> ?_⟩
    cases j with
    | zero =>
     simp at aC aP;subst aC;subst aP
     refine ⟨fun q k o a8 an=> ?_,fun q k a8 hu=> ?_,fun _ _ _ e=>by simp at e,fun i b0 dK=> ?_⟩
     ·have a8:q=r:=a8
      subst a8;rw [j6] at an;exact f1 k o an
     ·have a8:q=r:=a8
      subst a8;rw [f0];simpa [S.a1,dr,Src.mr] using hu
     ·obtain ⟨o,g1,g2⟩:=f2 i b0 dK
      exact ⟨r,i,o,rfl,rfl,(j6 i).trans g1,g2⟩
    | succ j=>simp at aC aP;exact e2 j dO b aC aP
   ·simp at h
  ·simp at h
 | .ak r iY ll::l,c::dm,T,ak,h,bl=>by
  simp only [lY] at h
  split at h
  ·rename_i row dr
   split at h
   ·rename_i ap ae mT aS h1 h2
    simp only [Option.some.injEq,Prod.mk.injEq] at h
    obtain ⟨rfl,rfl⟩:=h
    obtain ⟨e1,e2⟩:=Jv d9 H l dm mT aS h2 (fun p aj=>bl p (by simp [aj]))
    have an:s.ak r iY=some ll:=by unfold S.ak;rw [dr];exact bl _ (by simp)
    have lI : ∀k o,dc (some [ll]) k=some o→k=0∧o=ll:=fun k o a5=>by
     rw [lV] at a5;split at a5
     ·rename_i e;simp at a5;exact ⟨e.1,a5.symm⟩
     ·simp at a5
    have K9:ll.ch≠ .gone:=by
     unfold S.ak at an;rw [dr,kg] at an
     cases a5:row[iY]? with
     | none=>rw [a5] at an;simp at an
     | some p =>
      rw [a5,Option.bind_some] at an;split at an
      ·simp at an
      ·rename_i e;simp at an;subst an;exact e
    obtain ⟨f0,f1,f2⟩:=Dm (q:=lP) (j1:=fun _=>iY) (r:=r) d9 H (ti _) (fun k o a5=>by rw [(lI k o a5).2];exact an) h1 (fun p aj=>bl p (by simp [aj])) (fun _ _ _ _ _ _ _=>trivial)
    refine ⟨by simp [e1],fun j dO b aC aP=> ?_⟩
    cases j with
    | zero =>
     simp at aC aP;subst aC;subst aP
     refine ⟨fun q k o a8 pr=> ?_,fun q k a8 hu=> ?_,fun eD d4 b0 e=> ?_,fun i b0 dK=> ?_⟩
     ·obtain ⟨rfl,rfl⟩:q=r∧k=iY:=a8
      rw [an] at pr;simp at pr;subst pr
      exact f1 0 ll (by rw [lV];simp [K9])
     ·rw [f0];simp [Src.mr]
     ·cases e;exact an
     ·obtain ⟨o,g1,g2⟩:=f2 i b0 dK
      obtain ⟨rfl,rfl⟩:=lI i o g1
      exact ⟨r,iY,o,⟨rfl,rfl⟩,rfl,an,g2⟩
    | succ j=>simp at aC aP;exact e2 j dO b aC aP
   ·simp at h
  ·simp at h
 | [],_::_,_,_,h,_=>by simp [lY] at h
 | .row _::_,[],_,_,h,_=>by simp [lY] at h
 | .ak .. :: _,[],_,_,h,_=>by simp [lY] at h
theorem Jn {fS:G}{s1:S}{kM:fj}{bJ:World}(d9:hS fS s1 kM bJ){kE:gw}{q:az→Prop}{b6:Nat→Option Nat}(H:ms s1 kE b6 kJ)(bC:sw q kJ)
 (a8 : ∀j i o,s1.ak j i=some o→ ∀e∈o.es,∀x∈e,q x) :
 ∀(l:List Src) (dm:List iv) (T:List (List ad)) (u:List (Nat×List ad)) (ak:List Prop) (n:Nat) (s:S),A1 l→(∀j row,T[j]? = some row→s1.aT (n+j)=some row) →
 (∀r k j i,je n l r k=some (j,i)→s.a1 r k→s1.a1 j i)→(∀r k o,Src.ak r k o∈l→s.a1 r k) →
 kP s1.aT b6 kE s.aT l dm T=some (u,ak)→(∀p∈ak,p)→T.length=l.length∧(s.hM u).E=s.E ∧
  (∀r k o,(s.hM u).ak r k=some o→(∃j i p,je n l r k=some (j,i)∧s1.ak j i=some p∧n5 s1 kE kJ q p o)∨(je n l r k=none∧s.ak r k=some o)) ∧
  (∀r k,s.a1 r k→(s.hM u).a1 r k)∧(∀r k j i,je n l r k=some (j,i)→s1.a1 j i→(s.hM u).a1 r k)
 | [],[],[],u,ak,n,s,_,_,_,_,h,_=>by
  simp [kP] at h;obtain ⟨rfl,rfl⟩:=h
  exact ⟨rfl,rfl,fun r k o an=> .inr ⟨rfl,an⟩,fun r k h=>h,fun r k j i h=>by simp [je] at h⟩
 | .row q0::l,c::dm,row::T,u,ak,n,s,ru,iG,hu,qI,h,bl=>by
  simp only [kP] at h
  split at h
  ·rename_i dO ae h1
   split at h
   ·rename_i nI aS h2
    simp only [Option.some.injEq,Prod.mk.injEq] at h
    obtain ⟨rfl,rfl⟩:=h
    have Bs:=List.pairwise_cons.1 ru
    have hN:s1.aT n=some row:=iG 0 row rfl
    have uS : ∀k,s1.ak n k=dc (some row) k:=fun k=>by unfold S.ak;rw [hN]
    obtain ⟨f0,f1,f2⟩:=Dm (q:=q) (j1:=id) (r:=n) d9 H bC (fun k o an=>(uS k).trans an) h1 (fun p aj=>bl p (by simp [aj])) (fun k o an=>a8 n k o ((uS k).trans an))
    have jo : ∀k j i,je (n+1) l q0 k≠some (j,i):=fun k j i hm=>by
     obtain ⟨b,ib,g9,qc,LW⟩:=uv hm
     exact Bs.1 b (List.mem_of_getElem? g9) q0 k ⟨rfl,qc⟩
    have x4 : ∀r k,s.a1 r k→(s.setRow q0 dO).a1 r k:=fun r k a5=>by
     rw [mZ]
     by_cases e:r=q0
     ·subst e;rw [if_pos rfl,f0]
      have:=hu r k n k (by simp [je]) a5
      simpa [S.a1,hN] using this
     ·rw [if_neg e];exact a5
    obtain ⟨e1,e2,bO,c5,dg⟩:=Jn d9 H bC a8 l dm T nI aS (n+1) (s.setRow q0 dO) Bs.2 (fun j row aC=>by rw [Nat.add_assoc,Nat.add_comm 1 j];exact iG (j+1) row (by simpa using aC))
     (fun r k j i hm a5=>by
       have dk:r≠q0:=by rintro rfl;exact jo _ _ _ hm
       refine hu r k j i ?_ (by rw [mZ,if_neg dk] at a5;exact a5)
       rw [rb n (.row q0) l r k dk];exact hm)
     (fun r k o hm=>x4 r k (qI r k o (by simp [hm]))) h2 (fun p aj=>bl p (by simp [aj]))
    refine ⟨by simp [e1],e2,fun r k o an=> ?_,fun r k a5=>c5 r k (x4 r k a5),fun r k j i hm a5=> ?_⟩
    ·rcases bO r k o an with ⟨j,i,p,ib,g9,qc⟩|⟨ib,g9⟩
     ·have dk:r≠q0:=by rintro rfl;exact jo _ _ _ ib
      exact .inl ⟨j,i,p,by rw [rb n (.row q0) l r k dk];exact ib,g9,qc⟩
     ·rw [lo] at g9
      by_cases e:r=q0
      ·subst e
       rw [if_pos rfl] at g9
       obtain ⟨p,g1,g2⟩:=f2 k o g9
       exact .inl ⟨n,k,p,by simp [je],(uS k).trans g1,g2⟩
      ·rw [if_neg e] at g9
       exact .inr ⟨by rw [rb n (.row q0) l r k e];exact ib,g9⟩
    ·by_cases e:r=q0
     ·subst e
      simp only [je,if_true] at hm
      simp only [Option.some.injEq,Prod.mk.injEq] at hm
      obtain ⟨rfl,rfl⟩:=hm
      refine c5 r k ?_
      rw [mZ,if_pos rfl,f0]
      simpa [S.a1,hN] using a5
     ·rw [rb n (.row q0) l r k e] at hm
      exact dg r k j i hm a5
   ·simp at h
  ·simp at h
 | .ak q0 iY ll::l,c::dm,row::T,u,ak,n,s,ru,iG,hu,qI,h,bl=>by
  simp only [kP] at h
  split at h
  ·rename_i lu DZ
   split at h
   ·rename_i b0 ae h1
    split at h
    ·rename_i nI aS h2
     simp only [Option.some.injEq,Prod.mk.injEq] at h
     obtain ⟨rfl,rfl⟩:=h
     have Bs:=List.pairwise_cons.1 ru
     have hN:s1.aT n=some row:=iG 0 row rfl
     have uS : ∀k,s1.ak n k=dc (some row) k:=fun k=>by unfold S.ak;rw [hN]
     obtain ⟨f0,f1,f2⟩:=Dm (q:=q) (j1:=id) (r:=n) d9 H bC (fun k o an=>(uS k).trans an) h1 (fun p aj=>bl p (by simp [aj])) (fun k o an=>a8 n k o ((uS k).trans an))
     have jo : ∀j i,je (n+1) l q0 iY≠some (j,i):=fun j i hm=>by
      obtain ⟨b,ib,g9,qc,LW⟩:=uv hm
      exact Bs.1 b (List.mem_of_getElem? g9) q0 iY ⟨⟨rfl,rfl⟩,qc⟩
     have x4 : ∀r k,s.a1 r k→(s.setRow q0 (lu.set iY b0)).a1 r k:=CX s DZ (by simp)
     have sg:iY<lu.length:=by have:=qI q0 iY ll (by simp);simpa [S.a1,DZ] using this
     obtain ⟨e1,e2,bO,c5,dg⟩:=Jn d9 H bC a8 l dm T nI aS (n+1) (s.setRow q0 (lu.set iY b0)) Bs.2 (fun j row aC=>by rw [Nat.add_assoc,Nat.add_comm 1 j];exact iG (j+1) row (by simpa using aC))
      (fun r k j i hm a5=>by
        have dk : ¬(Src.ak q0 iY ll).has r k:=by rintro ⟨rfl,rfl⟩;exact jo _ _ hm
        refine hu r k j i (by rw [rb n _ l r k dk];exact hm) ?_
        rw [mZ] at a5
        split at a5
        ·rename_i e;subst e;simpa [S.a1,DZ] using a5
        ·exact a5)
      (fun r k o hm=>x4 r k (qI r k o (by simp [hm]))) h2 (fun p aj=>bl p (by simp [aj]))
     refine ⟨by simp [e1],e2,fun r k o an=> ?_,fun r k a5=>c5 r k (x4 r k a5),fun r k j i hm a5=> ?_⟩
     ·rcases bO r k o an with ⟨j,i,p,ib,g9,qc⟩|⟨ib,g9⟩
      ·have dk : ¬(Src.ak q0 iY ll).has r k:=by rintro ⟨rfl,rfl⟩;exact jo _ _ ib
       exact .inl ⟨j,i,p,by rw [rb n _ l r k dk];exact ib,g9,qc⟩
      ·rw [lo] at g9
       by_cases e:r=q0
       ·subst e
        rw [if_pos rfl,kg,List.getElem?_set] at g9
        by_cases e2:iY=k
        ·subst e2
         rw [if_pos rfl,if_pos sg,Option.bind_some] at g9
         have qc:dc (some [b0]) 0=some o:=by rw [kg];exact g9
         obtain ⟨p,g1,g2⟩:=f2 0 o qc
         exact .inl ⟨n,0,p,by simp [je],(uS 0).trans g1,g2⟩
        ·rw [if_neg e2] at g9
         have dk : ¬(Src.ak r iY ll).has r k:=by rintro ⟨-,rfl⟩;exact e2 rfl
         exact .inr ⟨by rw [rb n _ l r k dk];exact ib,by unfold S.ak;rw [DZ,kg];exact g9⟩
       ·rw [if_neg e] at g9
        have dk : ¬(Src.ak q0 iY ll).has r k:=by rintro ⟨rfl,-⟩;exact e rfl
        exact .inr ⟨by rw [rb n _ l r k dk];exact ib,g9⟩
     ·by_cases e:(Src.ak q0 iY ll).has r k
      ·obtain ⟨rfl,rfl⟩:=e
       exact c5 r k (x4 r k (qI r k ll (by simp)))
      ·rw [rb n _ l r k e] at hm
       exact dg r k j i hm a5
    ·simp at h
   ·simp at h
  ·simp at h
 | [],[],_::_,_,_,_,_,_,_,_,_,h,_=>by simp [kP] at h
 | [],_::_,_,_,_,_,_,_,_,_,_,h,_=>by simp [kP] at h
 | .row _::_,[],_,_,_,_,_,_,_,_,_,h,_=>by simp [kP] at h
 | .ak .. :: _,[],_,_,_,_,_,_,_,_,_,h,_=>by simp [kP] at h
 | .row _::_,_::_,[],_,_,_,_,_,_,_,_,h,_=>by simp [kP] at h
 | .ak .. :: _,_::_,[],_,_,_,_,_,_,_,_,h,_=>by simp [kP] at h
theorem OW (h:cF g s aw a w){aR:Nat}(eQ:s.aT aR=none){f:FuncId}{args:List az}{cf:BW}{l:List Src}(nc:l=if cf.fv.length=cf.aZ.length then cf.aZ else cf.aZ++[.row aR])
 (ru:A1 cf.aZ) (u0 : ∀a∈cf.aZ,a.r≠aR) {b1:fX→Bool} {A:Nat→Prop} {q:az→Prop} {T:List (List ad)} {b6:Nat→Option Nat}
 (hA : ∀b,A b→b<w.heap.size) (K4 : ∀b,s.ok g aw w b→A b) (K5 : ∀r k o b m,s.ak r k=some o→b1 o.ch=true→aw r k=some (b,m)→A b)
 (acz:(∀b,A b→s.ok g aw w b)∨(∀x,q x→b7 x)) (bC:sw q kJ) (EM:ms s (la cf.aZ) b6 b1)
 (cQ:ps s (la cf.aZ) b1 lP (eV T).aT) (pg : ∀r k o,(∃j i,la cf.aZ j i=some (r,k))→s.ak r k=some o→o.ch = .live) (hex : ∀r k o,Src.ak r k o∈cf.aZ→s.a1 r k)
 {pT:List az} {ae:List Prop} (mN:lr (nq s.aT b6 (la cf.aZ) b1) cf.ac args=some (pT,ae)) (qJ : ∀p∈ae,p)
 {eD:az} {fA:List Prop} (yd:nq (fun j=>cf.fv[j]?) (r4 l) (je 0 l) kJ cf.ic cf.r=some (eD,fA)) (La : ∀p∈fA,p)
 {u:List (Nat×List ad)} {eO:List Prop} (Bt:kP (fun j=>cf.fv[j]?) (r4 l) (je 0 l) s.aT l cf.kk cf.fv=some (u,eO)) (acA : ∀p∈eO,p)
 (x5:Con P f pT T cf.r cf.fv) (acB:q cf.r) (acC : ∀j i o,(eV cf.fv).ak j i=some o→ ∀e∈o.es,∀x∈e,q x)
 {vs:List Value} (aV:vs.length=args.length) (hargs : ∀(j:Nat) x v,args[j]? = some x→vs[j]? = some v→Rel w (s.ok g aw w) s.a1 (s.a9 aw) x v) :
 Dn P f∧Calls P f vs.toArray w fun e bJ=> ∃v bH,e = .returned v∧cF g (s.hM u) bH a bJ∧Rel bJ ((s.hM u).ok g bH bJ) (s.hM u).a1 ((s.hM u).a9 bH) eD v:=by
 have Lb:A1 l:=by
  subst nc
  split
  ·exact ru
  ·refine List.pairwise_append.2 ⟨ru,List.pairwise_singleton _ _,fun b aP c ba r k fI=> ?_⟩
   rw [List.mem_singleton] at ba;subst ba
   have h1:r=aR:=fI.2
   subst h1
   cases b with
   | row r0=>exact u0 _ aP (Eq.symm fI.1)
   | ak r0 iY ll=>exact u0 _ aP (Eq.symm fI.1.1)
 have Rh : ∀(j:Nat) b,cf.aZ[j]? = some b→l[j]? = some b:=by
  intro j b aC
  subst nc
  split
  ·exact aC
  ·rw [List.getElem?_append_left (fQ aC)];exact aC
 have Ri : ∀(j:Nat) b,l[j]? = some b→cf.aZ[j]? = some b∨b = .row aR:=by
  intro j b aC
  subst nc
  split at aC
  ·exact .inl aC
  ·rw [List.getElem?_append] at aC
   split at aC
   ·exact .inl aC
   ·right
    have:=fQ aC
    simp at this
    rw [show j-cf.aZ.length=0 by omega] at aC
    simpa using aC.symm
 refine ⟨x5.1,?_⟩
 obtain ⟨fS,q1,q2,bK,LX,bW,cD,d5,fJ⟩:=enter h.tohS A hA K4 K5 cQ pg
 obtain ⟨e1,e2,bO⟩:=Dl _ _ _ _ _ mN
 have:=x5.2 fS (jC aw (la cf.aZ)) w vs.toArray q1 bK LX bW d5 (by simp [aV,e1]) (by
  intro j cA v dy bc
  have aC:j<args.length:=by have:=fQ dy;omega
  have R:=List.getElem?_eq_getElem aC
  obtain ⟨c,b0,f1,f2,f3⟩:=bO j _ cA R dy
  have Bd:vs[j]? = some v:=by simpa using bc
  exact fJ (z6 h.tohS EM (ti _) f2 (fun p aj=>qJ p (f3 p aj)) trivial (hargs j _ v R Bd)) (hargs j _ v R Bd))
 refine this.mono fun e bJ Bb=> ?_
 obtain ⟨v,kM,rfl,Eh,bc⟩:=Bb
 have Sd:ms (eV cf.fv) (je 0 l) (r4 l) kJ:=by
  refine ⟨fun j r aC k=> ?_,fun _ _ _ _ _ bA=>by simp [kJ] at bA⟩
  unfold r4 at aC
  split at aC
  ·rename_i r0 k9
   simp at aC;subst aC
   have:=An (n:=0) (r:=r0) (k:=k) Lb k9 rfl
   simpa [Src.mr] using this
  ·simp at aC
 have Ax : ∀j i r k,la cf.aZ j i=some (r,k)→je 0 l r k=some (j,i):=fun j i r k hm=>by
  obtain ⟨b,ib,g9,rfl⟩:=sT.1 hm
  have:=An (n:=0) Lb (Rh j b ib) g9
  simpa using this
 have DX : ∀r k j i,je 0 l r k=some (j,i)→la cf.aZ j i=some (r,k)∨ ¬s.a1 r k:=fun r k j i hm=>by
  obtain ⟨b,-,g9,qc,LW⟩:=uv hm
  rcases Ri j b (by simpa using g9) with e|e
  ·exact .inl (sT.2 ⟨b,e,qc,LW⟩)
  ·subst e
   have:r=aR:=qc
   subst this
   exact .inr (wZ eQ k)
 obtain ⟨lk,nI,gI,adE,adF⟩:=Jn (s1:=eV cf.fv) Eh Sd bC acC l cf.kk cf.fv u eO 0 s Lb (fun j row aC=>by simpa [eV] using aC)
  (fun r k j i hm a5=>by
    rcases DX r k j i hm with e|e
    ·exact (Eh.stay j i (by rw [LX];exact cQ.a1 _ _ _ _ e a5)).1
    ·exact absurd a5 e)
  (fun r k o hm=>by
    obtain ⟨j,aC⟩:=List.getElem?_of_mem hm
    rcases Ri j _ aC with e|e
    ·exact hex r k o (List.mem_of_getElem? e)
    ·cases e) Bt acA
 obtain ⟨lj,f1,f2⟩:=leave (q0:=lP) (q:=q) h q1 (by rw [q2];exact acz) LX bW cD pg cQ Eh Ax DX (fun r k eD d4 p=>aah) (s2:=s.hM u) nI gI adE adF
  (z6 Eh Sd bC yd La acB bc) bc
 exact ⟨v,lj,rfl,f1,f2⟩
theorem XD (h:cF g s aw a w){aR:Nat}(eQ:s.aT aR=none){f:FuncId}{args:List az}{cf:BW}{bw:hT}(av:xS P s.aT aR f args cf=some bw)(ct:∀p∈bw.fr,p)
 {vs:List Value} (aV:vs.length=args.length) (hargs : ∀(j:Nat) x v,args[j]? = some x→vs[j]? = some v→Rel w (s.ok g aw w) s.a1 (s.a9 aw) x v) :
 Dn P f∧Calls P f vs.toArray w fun e bJ=> ∃v bH,e = .returned v∧cF g (s.hM bw.fE) bH a bJ∧Rel bJ ((s.hM bw.fE).ok g bH bJ) (s.hM bw.fE).a1 ((s.hM bw.fE).a9 bH) bw.val v:=by
 unfold xS at av
 simp only at av
 generalize nc:(if cf.fv.length=cf.aZ.length then cf.aZ else cf.aZ++[.row aR])=l at av
 split at av
 ·simp at av
 ·rename_i ll si
  split at av
  ·simp at av
  ·rename_i abS
   have u0 : ∀a∈cf.aZ,a.r≠aR:=fun b aP e=>abS (List.any_eq_true.2 ⟨b,aP,by simpa using e⟩)
   split at av
   ·
    split at av
    ·rename_i tj
     split at av
     ·rename_i pT ae eD fA u eO mN yd Bt
      simp only [Option.some.injEq] at av
      subst av
      have x5:Con P f pT [] cf.r cf.fv:=ct _ (by simp)
      have Bu:b7 cf.r:=ct _ (by simp)
      have abT:oK cf.fv:=by
       by_cases e:cf.fv=[]
       ·rw [e];intro row dr;simp at dr
       ·exact ct _ (by
         have:cf.fv.isEmpty=false:=by simpa [List.isEmpty_iff] using e
         simp [this])
      refine OW (b1:=kw) (A:=fun b=>b<w.heap.size) (q:=b7) (T:=[]) (b6:=fun _=>none) h eQ nc.symm (by rw [tj];exact List.Pairwise.nil) u0 (fun _ aP=>aP) (fun b aP=>aP.1)
       (fun r k o b m an _ aj=>Al h.tohS an aj) (.inr fun _ R=>R) acv ?_ ?_ ?_ ?_ (by rw [tj];exact mN) (fun p aj=>ct p (by simp [aj])) yd (fun p aj=>ct p (by simp [aj])) Bt (fun p aj=>ct p (by simp [aj])) x5 Bu ?_ aV hargs
      ·refine ⟨fun _ _ e=>by simp at e,fun r _ k o _ _ j i e=> ?_⟩
       rw [tj] at e;simp [la] at e
      ·refine ⟨fun j i hG eA p e=> ?_,fun j i b0 e=> ?_,fun j i r k e=> ?_⟩
       ·rw [tj] at e;simp [la] at e
       ·simp [eV,dc] at e
       ·rw [tj] at e;simp [la] at e
      ·rintro r k o ⟨j,i,e⟩
       rw [tj] at e;simp [la] at e
      ·rintro r k o e
       rw [tj] at e;simp at e
      ·intro j i o an e he x R
       have an:dc (cf.fv[j]?) i=some o:=an
       cases aq:cf.fv[j]? with
       | none=>rw [aq] at an;simp [dc] at an
       | some row =>
        rw [aq,kg] at an
        cases a5:row[i]? with
        | none=>rw [a5] at an;simp at an
        | some p =>
         rw [a5,Option.bind_some] at an
         split at an
         ·simp at an
         ·simp at an;subst an
          exact abT row (List.mem_of_getElem? aq) p (List.mem_of_getElem? a5) e he x R
     ·simp at av
    ·simp at av
   ·split at av
    ·rename_i pT ae T aS eD fA u eO mN yc yd Bt
     simp only [Option.some.injEq] at av
     subst av
     have ru:=OV si fun p aj=>ct p (by simp [aj])
     have x5:Con P f pT T cf.r cf.fv:=ct _ (by simp)
     have ao : ∀r j,oF 0 cf.aZ r=some j→ ∀k,la cf.aZ j k=some (r,k):=fun r j aC k=>by
      obtain ⟨-,h2⟩:=Ju aC
      simp only [la,show cf.aZ[j]? = some (.row r) by simpa using h2]
     have K7 : ∀(l:List Src) (dm:List iv) (T:List (List ad)) (ak:List Prop),lY s.aT (oF 0 cf.aZ) (la cf.aZ) l dm=some (T,ak)→(∀p∈ak,p) →
      ∀b∈l,∀r k o,b.has r k→s.ak r k=some o→o.ch≠ .iK:=by
      intro l
      induction l with
      | nil=>intro _ _ _ _ _ b aP;simp at aP
      | cons b l ih =>
       intro dm T ak h0 bl c ba r k o fI an
       cases dm with
       | nil=>cases b<;>simp [lY] at h0
       | cons dh dm =>
        cases b with
        | row r0 =>
         simp only [lY] at h0
         split at h0
         ·rename_i row dr
          split at h0
          ·rename_i ap p1 mT p2 h1 h2
           simp only [Option.some.injEq,Prod.mk.injEq] at h0
           obtain ⟨rfl,rfl⟩:=h0
           rcases List.mem_cons.1 ba with rfl|ba
           ·have e:r=r0:=fI
            subst e
            have dK:dc (some row) k=some o:=by unfold S.ak at an;rw [dr] at an;exact an
            have:=N2 h1 (fun p aj=>bl p (by simp [aj])) k o dK
            rw [this];simp
           ·exact ih dm mT p2 h2 (fun p aj=>bl p (by simp [aj])) c ba r k o fI an
          ·simp at h0
         ·simp at h0
        | ak r0 iY ll =>
         simp only [lY] at h0
         split at h0
         ·rename_i row dr
          split at h0
          ·rename_i ap p1 mT p2 h1 h2
           simp only [Option.some.injEq,Prod.mk.injEq] at h0
           obtain ⟨rfl,rfl⟩:=h0
           rcases List.mem_cons.1 ba with rfl|ba
           ·obtain ⟨rfl,rfl⟩:=fI
            have qJ:dc (some row) k=some ll:=bl _ (by simp)
            have dK:dc (some row) k=some o:=by unfold S.ak at an;rw [dr] at an;exact an
            rw [qJ] at dK;simp at dK;subst dK
            have K9:ll.ch≠ .gone:=by
             rw [kg] at qJ
             cases a5:row[k]? with
             | none=>rw [a5] at qJ;simp at qJ
             | some p =>
              rw [a5,Option.bind_some] at qJ;split at qJ
              ·simp at qJ
              ·rename_i e;simp at qJ;subst qJ;exact e
            have:=N2 h1 (fun p aj=>bl p (by simp [aj])) 0 ll (by rw [lV];simp [K9])
            rw [this];simp
           ·exact ih dm mT p2 h2 (fun p aj=>bl p (by simp [aj])) c ba r k o fI an
          ·simp at h0
         ·simp at h0
     have EM:ms s (la cf.aZ) (oF 0 cf.aZ) r3:=by
      refine ⟨ao,fun r aq k o an bA j i hm=> ?_⟩
      obtain ⟨b,ib,g9,-⟩:=sT.1 hm
      exact K7 cf.aZ cf.dm T aS yc (fun p aj=>ct p (by simp [aj])) b (List.mem_of_getElem? ib) r k o g9 an (by simpa [r3] using bA)
     obtain ⟨t1,t2⟩:=Jv h.tohS EM cf.aZ cf.dm T aS yc (fun p aj=>ct p (by simp [aj]))
     have lO : ∀j b,cf.aZ[j]? = some b→ ∃dO,T[j]? = some dO:=fun j b aC=>by
      have:j<T.length:=by have:=fQ aC;omega
      exact ⟨_,List.getElem?_eq_getElem this⟩
     refine OW (b1:=r3) (A:=s.ok g aw w) (q:=lP) (T:=T) h eQ nc.symm ru u0 (fun b aP=>aP.1) (fun b aP=>aP)
      (fun r k o b m an a5 aj=>aaN h.tohS an (by simpa [r3] using a5) aj) (.inl fun _ aP=>aP) (ti _) EM ?_ ?_ ?_ mN (fun p aj=>ct p (by simp [aj])) yd (fun p aj=>ct p (by simp [aj])) Bt
      (fun p aj=>ct p (by simp [aj])) x5 trivial (fun _ _ _ _ _ _ _ _=>trivial) aV hargs
     ·refine ⟨fun j i hG eA p e eJ=> ?_,fun j i b0 dK=> ?_,fun j i r k e hu=> ?_⟩
      ·obtain ⟨r,k⟩:=p
       obtain ⟨b,ib,g9,rfl⟩:=sT.1 e
       obtain ⟨kb,acD,acE,rfl⟩:=sT.1 eJ
       have e1:=An (n:=0) ru ib g9
       have e2:=An (n:=0) ru acD acE
       rw [e1] at e2
       simpa using e2
      ·have aC:j<T.length:=by
        rcases Nat.lt_or_ge j T.length with e|e
        ·exact e
        ·have:(eV T).aT j=none:=List.getElem?_eq_none e
         rw [this] at dK;simp [dc] at dK
       have Rj:T[j]? = some T[j]:=List.getElem?_eq_getElem aC
       have Rk:cf.aZ[j]? = some (cf.aZ[j]'(by omega)):=List.getElem?_eq_getElem (by omega)
       have pr:dc (some T[j]) i=some b0:=by have:(eV T).aT j=some T[j]:=Rj;rw [this] at dK;exact dK
       obtain ⟨r,k,o,n1,n2,adG,adH⟩:=(t2 j _ _ Rj Rk).2.2.2 i b0 pr
       exact ⟨r,k,o,sT.2 ⟨_,Rk,n1,n2⟩,adG,adH⟩
      ·obtain ⟨b,ib,g9,rfl⟩:=sT.1 e
       obtain ⟨dO,rk⟩:=lO j b ib
       have:=(t2 j dO b rk ib).2.1 r k g9 hu
       show b.mr k<((T[j]?).getD []).length
       rw [rk];exact this
     ·rintro r k o ⟨j,i,e⟩ an
      obtain ⟨b,ib,g9,-⟩:=sT.1 e
      obtain ⟨dO,rk⟩:=lO j b ib
      exact (t2 j dO b rk ib).1 r k o g9 an
     ·intro r k o hm
      obtain ⟨j,aC⟩:=List.getElem?_of_mem hm
      obtain ⟨dO,rk⟩:=lO j _ aC
      exact Dk ((t2 j dO _ rk aC).2.2.1 r k o rfl)
    ·simp at av
end
end Go.VL
