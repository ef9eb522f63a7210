/- Lemmas, plain functions of the program, and what they answer. No condition. -/
import Derived.Below
import Derived.Eval
import Derived.KernelRfl
import Derived.Laws.Append
import Derived.Laws.AppendOwn
import Derived.Laws.BytesString
import Derived.Laws.Cells
import Derived.Laws.CopyRow
import Derived.Laws.Entries
import Derived.Laws.MakeOwn
import Derived.Laws.OwnMore
import Derived.Laws.Rows
import Derived.Laws.Slices
import Derived.Laws.Tables
import Derived.Orders
namespace Go.VL
set_option linter.unusedVariables false
set_option linter.unusedSimpArgs false
open Go
inductive ag where
 | dead
 | b (x:Bool)
 | n (k:IntKind) (x:Int)
 | s (x:ByteArray)
 | fL
 | cg
 | fX
 | ref (r k i off:Nat)
 | a6 (r k bV len:Nat)
 | fH (r c sz:Nat) (h:Option (Nat×Nat))
 | isl (sz:Nat) (es:List (List ag))
 | da (sz:Nat) (es:List (List ag)) (i off:Nat)
 | gM (sz:Nat) (c:Option (List ag))
 | agg (c:List ag)
 | dx (vs:List ag)
 | fn (f:Nat) (cap:List ag)
 deriving Inhabited
inductive dY where
 | live|ko|gone
 deriving DecidableEq,Inhabited
structure U where
 sz:Nat
 es:List (List ag)
 bz:dY
 deriving Inhabited
structure S where
 E:Nat→ag
 ax:Nat→Option (List U)
abbrev gQ (v:Value):Bool:=v.oneCell'
abbrev de:=Nat→Nat→Option (Nat×Nat)
abbrev fP:=Nat→Nat→Option (Nat×Option (Nat×Nat))
abbrev f5:=Nat→Nat→Prop
inductive Pure:ag→Prop
 | dead:Pure .dead
 | b (x:Bool):Pure (.b x)
 | n (k:IntKind) (x:Int):Pure (.n k x)
 | s (x:ByteArray):Pure (.s x)
 | fL:Pure .fL
 | cg:Pure .cg
 | fX:Pure .fX
 | isl {sz:Nat} {es:List (List ag)} (h : ∀e∈es,∀x∈e,Pure x):Pure (.isl sz es)
 | da {sz i off:Nat} {es:List (List ag)} (h : ∀e∈es,∀x∈e,Pure x):Pure (.da sz es i off)
 | k6 (sz:Nat):Pure (.gM sz none)
 | kR {sz:Nat} {c:List ag} (h : ∀x∈c,Pure x):Pure (.gM sz (some c))
 | agg {c:List ag} (h : ∀x∈c,Pure x):Pure (.agg c)
 | dx {c:List ag} (h : ∀x∈c,Pure x):Pure (.dx c)
 | fn {f:Nat} {c:List ag} (h : ∀x∈c,Pure x):Pure (.fn f c)
def hL (es:List (List ag)):Prop:= ∀e∈es,∀x∈e,Pure x
inductive Rel (w:World) (ok:Nat→Prop) (aw:f5) (aA:fP):ag→Value→Prop
 | dead (v:Value):Rel w ok aw aA .dead v
 | b (x:Bool):Rel w ok aw aA (.b x) (.bool x)
 | n (k:IntKind) (x:Int):Rel w ok aw aA (.n k x) (.int k x)
 | s (x:ByteArray):Rel w ok aw aA (.s x) (.string x)
 | fL:Rel w ok aw aA .fL (.pointer none)
 | cg:Rel w ok aw aA .cg (.slice none 0 0)
 | fX (a:Addr) (c:Nat):Rel w ok aw aA .fX (.slice (some a) 0 c)
 | lm {r k i off:Nat} (a:Option Addr) (hu:aw r k) (h : ∀sz p,aA r k≠some (sz,some p)):Rel w ok aw aA (.ref r k i off) (.pointer a)
 | ref {r k i off sz cy m:Nat} (hu:aw r k) (h:aA r k=some (sz,some (cy,m))):Rel w ok aw aA (.ref r k i off) (.pointer (some ⟨cy,i*sz+off,none⟩))
 | jx {r k bV len:Nat} (a:Option Addr) (l c:Nat) (hu:aw r k) (h:aA r k=none):Rel w ok aw aA (.a6 r k bV len) (.slice a l c)
 | jT {r k sz:Nat} (hu:aw r k) (h:aA r k=some (sz,none)):Rel w ok aw aA (.a6 r k 0 0) (.slice none 0 0)
 | a6 {r k bV len sz cy m c:Nat} {a:Option Addr} (hu:aw r k) (h:aA r k=some (sz,some (cy,m))) (av:len≤c) (aF:c<9223372036854775808)
  (hm:(bV+c)*sz=m∧(c=0∨a=some ⟨cy,bV*sz,none⟩)):Rel w ok aw aA (.a6 r k bV len) (.slice a len c)
 | jf {r c sz:Nat} {v:Value} (h:Rel w ok aw aA (.isl sz []) v):Rel w ok aw aA (.fH r c sz none) v
 | jY {r c sz k n:Nat} {v:Value} (h:Rel w ok aw aA (.a6 r (k+c) 0 n) v):Rel w ok aw aA (.fH r c sz (some (k,n))) v
 | gb (sz:Nat) (a:Option Addr) (c:Nat) (h:a=none→c=0):Rel w ok aw aA (.isl sz []) (.slice a 0 c)
 | isl {sz:Nat} {es:List (List ag)} {cy off c:Nat} (cs:Nat→Value) (aM:ok cy) (ad:hL es) (av : ∀e∈es,e.length=sz) (aF:es.length≤c)
  (hw : ∀(j:Nat) x,es.flatten[j]? = some x→w.cell? ⟨cy,off+j,none⟩=some (cs j)) (gL : ∀(j:Nat) x,es.flatten[j]? = some x→gQ (cs j)=true)
  (ah : ∀(j:Nat) x,es.flatten[j]? = some x→Rel w ok aw aA x (cs j)):Rel w ok aw aA (.isl sz es) (.slice (some ⟨cy,off,none⟩) es.length c)
 | da {sz:Nat} {es:List (List ag)} {cy o i off:Nat} (cs:Nat→Value) (aM:ok cy) (ad:hL es) (av : ∀e∈es,e.length=sz)
  (hw : ∀(j:Nat) x,es.flatten[j]? = some x→w.cell? ⟨cy,o+j,none⟩=some (cs j)) (gL : ∀(j:Nat) x,es.flatten[j]? = some x→gQ (cs j)=true)
  (ah : ∀(j:Nat) x,es.flatten[j]? = some x→Rel w ok aw aA x (cs j)):Rel w ok aw aA (.da sz es i off) (.pointer (some ⟨cy,o+(i*sz+off),none⟩))
 | k6 (sz:Nat):Rel w ok aw aA (.gM sz none) (.pointer none)
 | kR {sz:Nat} {c:List ag} {v:Value} (h:Rel w ok aw aA (.da sz [c] 0 0) v):Rel w ok aw aA (.gM sz (some c)) v
 | agg {c:List ag} (vs:List Value) (av:vs.length=c.length) (gL : ∀(j:Nat) v,vs[j]? = some v→gQ v=true)
  (ah : ∀(j:Nat) x v,c[j]? = some x→vs[j]? = some v→Rel w ok aw aA x v):Rel w ok aw aA (.agg c) (.agg vs.toArray)
 | dx {c:List ag} (vs:List Value) (av:vs.length=c.length)
  (ah : ∀(j:Nat) x v,c[j]? = some x→vs[j]? = some v→Rel w ok aw aA x v):Rel w ok aw aA (.dx c) (.tuple vs.toArray)
 | fn {f:Nat} {c:List ag} (vs:List Value) (av:vs.length=c.length)
  (ah : ∀(j:Nat) x v,c[j]? = some x→vs[j]? = some v→Rel w ok aw aA x v):Rel w ok aw aA (.fn f c) (.func (.func f) #[] vs.toArray)
theorem Rel.mono {w a9:World}{ok iS:Nat→Prop}{aw ji:f5}{aA iT:fP}{a:ag}{v:Value}(h:Rel w ok aw aA a v)
 (j1 : ∀b,ok b→iS b) (hw : ∀b,ok b→a9.heap[b]? = w.heap[b]?)
 (gf : ∀r k,aw r k→ji r k) (hZ : ∀r k,aw r k→iT r k=aA r k∨iT r k=none):Rel a9 iS ji iT a v:=by
 have gL : ∀b o,ok b→a9.cell? ⟨b,o,none⟩=w.cell? ⟨b,o,none⟩:=fun b o aM=>World.cell?_of_block (hw b aM)
 induction h with
 | dead v=>exact .dead v
 | b x=>exact .b x
 | n k x=>exact .n k x
 | s x=>exact .s x
 | fL=>exact .fL
 | cg=>exact .cg
 | fX a c=>exact .fX a c
 | @lm r k i off a hu h =>
  refine .lm a (gf r k hu) fun sz p=> ?_
  rcases hZ r k hu with e|e<;>rw [e]
  ·exact h sz p
  ·simp
 | @ref r k i off sz cy m hu h =>
  rcases hZ r k hu with e|e
  ·exact .ref (gf r k hu) (e.trans h)
  ·exact .lm _ (gf r k hu) fun sz p=>by rw [e];simp
 | @jx r k bV len a l c hu h=>exact .jx a l c (gf r k hu) (by rcases hZ r k hu with e|e<;>rw [e];exact h)
 | @jT r k sz hu h =>
  rcases hZ r k hu with e|e
  ·exact .jT (gf r k hu) (e.trans h)
  ·exact .jx _ _ _ (gf r k hu) e
 | @a6 r k bV len sz cy m c a hu h av aF hm =>
  rcases hZ r k hu with e|e
  ·exact .a6 (gf r k hu) (e.trans h) av aF hm
  ·exact .jx _ _ _ (gf r k hu) e
 | jf h ih=>exact .jf ih
 | jY h ih=>exact .jY ih
 | gb sz a c h=>exact .gb sz a c h
 | isl cs aM ad av aF tW fO ah ih=>exact .isl cs (j1 _ aM) ad av aF (fun j x J=>(gL _ _ aM).trans (tW j x J)) fO ih
 | da cs aM ad av tW fO ah ih=>exact .da cs (j1 _ aM) ad av (fun j x J=>(gL _ _ aM).trans (tW j x J)) fO ih
 | k6 sz=>exact .k6 sz
 | kR h ih=>exact .kR ih
 | agg vs av fO ah ih=>exact .agg vs av fO ih
 | dx vs av ah ih=>exact .dx vs av ih
 | fn vs av ah ih=>exact .fn vs av ih
structure G where
 i4:World
 A:Nat→Prop
 lb:Nat→Prop
 N:Nat
 m:Nat
 kV:f5
 mx:fP
def S.aw (s:S)(r k:Nat):Prop:=k<((s.ax r).getD []).length
def b4 (row:Option (List U))(k:Nat):Option U :=
 match row with
 | some l=>match l[k]? with
  | some o=>if o.bz = .gone then none else some o
  | none=>none
 | none=>none
def S.R (s:S)(r k:Nat):Option U:=b4 (s.ax r) k
def S.aA (s:S)(af:de):fP:=fun r k=>(s.R r k).map fun o=>(o.sz,af r k)
def S.iz (s:S)(af:de)(b:Nat):Prop:= ∃r k o m,s.R r k=some o∧o.bz = .live∧af r k=some (b,m)
def S.ok (s:S)(g:G)(af:de)(w:World)(b:Nat):Prop :=
 b<w.heap.size∧(g.A b∨g.i4.heap.size≤b∨g.lb b)∧ ¬s.iz af b
def ga (w:World)(ok:Nat→Prop)(aw:f5)(aA:fP)(o:U):Option (Nat×Nat)→Prop
 | none=>o.es=[]
 | some (cy,m)=> ∃c cL,w.heap[cy]? = some (.cells c cL (0,0))∧c.size=m∧(∀e∈o.es,e.length=o.sz) ∧
  ∀(j:Nat) x,o.es.flatten[j]? = some x→ ∃v,c[j]? = some v∧gQ v=true∧Rel w ok aw aA x v
structure tA (g:G) (w:World):Prop where
 os:w.os=g.i4.os
 tape:w.tape=g.i4.tape
 output:w.output=g.i4.output
 size:g.i4.heap.size≤w.heap.size
 block : ∀b,b<g.i4.heap.size→ ¬g.lb b→w.heap[b]? = g.i4.heap[b]?
structure fm (g:G) (s:S) (af:de) (w:World):Prop where
 obj : ∀r k o,s.R r k=some o→ga w (s.ok g af w) s.aw (s.aA af) o (af r k)
 inj : ∀r k o cM b9 bh b m bG,s.R r k=some o→s.R cM b9=some bh→af r k=some (b,m)→af cM b9=some (b,bG)→r=cM∧k=b9
 own : ∀r k o b m,s.R r k=some o→af r k=some (b,m)→g.i4.heap.size≤b∨g.lb b
 fj:tA g w
 mlt : ∀b,g.lb b→b<g.i4.heap.size
 jB : ∀b,g.A b→b<g.i4.heap.size
 stay : ∀j k,g.kV j k→s.aw j k∧(s.aA af j k=g.mx j k∨s.aA af j k=none)
 low : ∀j k,g.kV j k→j<g.m
structure bQ (g:G) (s:S) (af:de) (a:Act) (w:World):Prop extends fm g s af w where
 env : ∀t,Rel w (s.ok g af w) s.aw (s.aA af) (s.E t) (a.tmps.getD t undef)
 defers:a.defers=[]
 gz:g.N≤a.tmps.size
def ofValue:Value→ag
 | .bool x=> .b x
 | .int k x=> .n k x
 | .string x=> .s x
 | .pointer none=> .fL
 | .slice none 0 0=> .cg
 | _=> .dead
theorem Cg {w:World}{ok:Nat→Prop}{aw:f5}{aA:fP}(v:Value):Rel w ok aw aA (ofValue v) v:=by
 unfold ofValue
 split<;>constructor
def c8 (E:Nat→ag):Operand→ag
 | .tmp t=>E t
 | .const v=>ofValue v
 | .global _=> .dead
 | .func f=> .fn f []
theorem bQ.eval {g:G}{s:S}{af:de}{a:Act}{w:World}(h:bQ g s af a w)(x:Operand):
 Rel w (s.ok g af w) s.aw (s.aA af) (c8 s.E x) (a.eval x):=by
 cases x with
 | tmp t=>exact h.env t
 | const v=>exact Cg v
 | global g=>exact .dead _
 | func f=>exact .fn [] rfl (fun j x v J=>by simp at J)
def ag.cells:ag→List ag
 | .agg c=>c
 | x=>[x]
def ag.one:ag→Bool
 | .dead | .agg _ | .dx _=>false
 | _=>true
def ag.qU:ag→Bool
 | .dead | .dx _=>false
 | _=>true
theorem ag.Ch {v:ag}(h:v.qU=true):v.one=true∨ ∃c,v = .agg c:=by
 cases v<;>first|exact .inl rfl|exact .inr ⟨_,rfl⟩|simp [ag.qU] at h
theorem Rel.gQ {w:World}{ok:Nat→Prop}{aw:f5}{aA:fP}{a:ag}{v:Value}(h:Rel w ok aw aA a v)(bY:a.one=true):gQ v=true:=by
 cases h with
 | kR h=>cases h;rfl
 | jf h=>cases h<;>rfl
 | jY h=>cases h<;>rfl
 | _=>first|rfl|simp [ag.one] at bY
theorem Rel.cellsOf {w:World}{ok:Nat→Prop}{aw:f5}{aA:fP}{a:ag}{v:Value}(h:Rel w ok aw aA a v)(bY:a.one=true∨ ∃c,a = .agg c):
 ∃vs:List Value,v.cells=vs.toArray∧vs.length=a.cells.length∧(∀(j:Nat) x,vs[j]? = some x→VL.gQ x=true) ∧
  ∀(j:Nat) x u,a.cells[j]? = some x→vs[j]? = some u→Rel w ok aw aA x u:=by
 rcases bY with bY|⟨c,rfl⟩
 ·have aF:=h.gQ bY
  refine ⟨[v],?_,?_,?_,?_⟩
  ·cases v<;>first|rfl|simp [VL.gQ,Value.oneCell'] at aF
  ·cases a<;>first|rfl|simp [ag.one] at bY
  ·intro j x J
   cases j with
   | zero=>simp at J;subst J;exact aF
   | succ j=>simp at J
  ·intro j x u J hu
   have e:a.cells=[a]:=by cases a<;>first|rfl|simp [ag.one] at bY
   rw [e] at J
   cases j with
   | zero=>simp at J hu;subst J;subst hu;exact h
   | succ j=>simp at J
 ·cases h with
  | agg vs av gL ah=>exact ⟨vs,rfl,av,gL,ah⟩
end Go.VL
namespace Go.VL
set_option linter.unusedVariables false
set_option linter.unusedSimpArgs false
open Go
def S.put (s:S)(dst:Option Tmp)(v:ag):S :=
 match dst with
 | some t=>{s with E:=fun u=>if u=t then v else s.E u}
 | none=>s
def S.setRow (s:S)(r:Nat)(row:List U):S:={s with ax:=fun q=>if q=r then some row else s.ax q}
@[simp] theorem S.n4 (s:S) (dst:Option Tmp) (v:ag):(s.put dst v).ax=s.ax:=by cases dst<;>rfl
@[simp] theorem S.Oa (s:S) (r:Nat) (row:List U):(s.setRow r row).E=s.E:=rfl
theorem s3 {s bb:S}(h:bb.ax=s.ax):bb.R=s.R:=by funext r k;simp [S.R,h]
theorem qV {s bb:S}(h:bb.ax=s.ax):bb.aw=s.aw:=by funext r k;simp [S.aw,h]
theorem qW {s bb:S}(h:bb.ax=s.ax)(af:de):bb.aA af=s.aA af:=by unfold S.aA;rw [s3 h]
theorem Iq {s bb:S}(h:bb.ax=s.ax)(af:de):bb.iz af=s.iz af:=by unfold S.iz;rw [s3 h]
theorem s4 {s bb:S}(h:bb.ax=s.ax)(g:G)(af:de)(w:World):bb.ok g af w=s.ok g af w:=by
 funext b;unfold S.ok;rw [Iq h]
theorem fm.congr {g:G}{s bb:S}{af:de}{w:World}(h:fm g s af w)(e:bb.ax=s.ax):fm g bb af w where
 obj:=by rw [s3 e,qV e,qW e,s4 e];exact h.obj
 inj:=by rw [s3 e];exact h.inj
 own:=by rw [s3 e];exact h.own
 fj:=h.fj
 mlt:=h.mlt
 jB:=h.jB
 stay:=by rw [qV e,qW e];exact h.stay
 low:=h.low
theorem JF (a:Act)(dst:Option Tmp)(v:Value)(t:Nat)(cS:∀d,dst=some d→d<a.tmps.size):
 (a.put dst v).tmps.getD t undef=if dst=some t then v else a.tmps.getD t undef:=by
 cases dst with
 | none=>simp [Act.put]
 | some d =>
  have:=cS d rfl
  simp only [Act.put,Array.getD_eq_getD_getElem?,Array.getElem?_setIfInBounds,Option.some.injEq]
  by_cases e:d=t
  ·subst e;simp [this]
  ·simp [e]
theorem bQ.put {g:G}{s:S}{af:de}{a:Act}{w:World}(h:bQ g s af a w)(dst:Option Tmp){x:ag}{v:Value}
 (bd : ∀d,dst=some d→d<g.N) (ah:Rel w (s.ok g af w) s.aw (s.aA af) x v):bQ g (s.put dst x) af (a.put dst v) w where
 tofm:=h.tofm.congr (S.n4 s dst x)
 env:=by
  have e:=S.n4 s dst x
  rw [s4 e,qV e,qW e]
  intro t
  rw [JF a dst v t fun d Mg=>Nat.lt_of_lt_of_le (bd d Mg) h.gz]
  cases dst with
  | none=>simpa [S.put] using h.env t
  | some d =>
   simp only [S.put,Option.some.injEq]
   by_cases e:t=d
   ·subst e;simpa using ah
   ·rw [if_neg e,if_neg (Ne.symm e)];exact h.env t
 defers:=by cases dst<;>exact h.defers
 gz:=by cases dst<;>simpa [Act.put] using h.gz
structure Step (g:G) (s:S) (af:de) (w:World) (bb:S) (aY:de) (a9:World):Prop where
 aw : ∀r k,s.aw r k→bb.aw r k
 aA : ∀r k,s.aw r k→bb.aA aY r k=s.aA af r k∨bb.aA aY r k=none
 live : ∀b,bb.iz aY b→s.iz af b∨w.heap.size≤b
 heap : ∀b,b<w.heap.size→ ¬s.iz af b→a9.heap[b]? = w.heap[b]?
 size:w.heap.size≤a9.heap.size
theorem Step.ok {g:G}{s bb:S}{af aY:de}{w a9:World}(h:Step g s af w bb aY a9)(b:Nat)(aM:s.ok g af w b):bb.ok g aY a9 b :=
 ⟨Nat.lt_of_lt_of_le aM.1 h.size,aM.2.1,fun av=>by
  rcases h.live b av with h1|h1
  ·exact aM.2.2 h1
  ·exact absurd aM.1 (by omega)⟩
theorem Step.rel {g:G}{s bb:S}{af aY:de}{w a9:World}(h:Step g s af w bb aY a9){x:ag}{v:Value}
 (ah:Rel w (s.ok g af w) s.aw (s.aA af) x v):Rel a9 (bb.ok g aY a9) bb.aw (bb.aA aY) x v :=
 ah.mono h.ok (fun b aM=>h.heap b aM.1 aM.2.2) h.aw h.aA
theorem Step.obj {g:G}{s bb:S}{af aY:de}{w a9:World}(h:Step g s af w bb aY a9){o:U}{p:Option (Nat×Nat)}
 (ad : ∀b m,p=some (b,m)→a9.heap[b]? = w.heap[b]?) (aa:ga w (s.ok g af w) s.aw (s.aA af) o p) :
 ga a9 (bb.ok g aY a9) bb.aw (bb.aA aY) o p:=by
 cases p with
 | none=>exact aa
 | some q =>
  obtain ⟨b,m⟩:=q
  obtain ⟨c,cL,h1,I,aj,aB⟩:=aa
  refine ⟨c,cL,(ad b m rfl).trans h1,I,aj,fun j x J=> ?_⟩
  obtain ⟨v,e1,au,bB⟩:=aB j x J
  exact ⟨v,e1,au,h.rel bB⟩
theorem Step.stay {g:G}{s bb:S}{af aY:de}{w a9:World}(h:Step g s af w bb aY a9)
 (bZ : ∀j k,g.kV j k→s.aw j k∧(s.aA af j k=g.mx j k∨s.aA af j k=none)) : ∀j k,g.kV j k→bb.aw j k∧(bb.aA aY j k=g.mx j k∨bb.aA aY j k=none):=by
 intro j k aq
 obtain ⟨h1,I⟩:=bZ j k aq
 refine ⟨h.aw j k h1,?_⟩
 rcases h.aA j k h1 with e|e
 ·rw [e];exact I
 ·exact .inr e
theorem tA.step {g:G}{w a9:World}(h:tA g w)(h1:a9.os=w.os)(I:a9.tape=w.tape)(aj:a9.output=w.output)(aB:w.heap.size≤a9.heap.size)
 (bk : ∀b,b<g.i4.heap.size→ ¬g.lb b→a9.heap[b]? = w.heap[b]?):tA g a9 :=
 ⟨h1.trans h.os,I.trans h.tape,aj.trans h.output,Nat.le_trans h.size aB,fun b aM hm=>(bk b aM hm).trans (h.block b aM hm)⟩
theorem ib (s:S)(r:Nat)(row:List U)(q k:Nat):(s.setRow r row).R q k=if q=r then b4 (some row) k else s.R q k:=by
 unfold S.R S.setRow
 by_cases e:q=r<;>simp [e]
theorem jw (s:S)(r:Nat)(row:List U)(q k:Nat):(s.setRow r row).aw q k↔(if q=r then k<row.length else s.aw q k):=by
 unfold S.aw S.setRow
 by_cases e:q=r<;>simp [e]
theorem vx {s:S}{r k:Nat}{o:U}(h:s.R r k=some o):s.aw r k:=by
 unfold S.R b4 at h
 unfold S.aw
 cases ah:s.ax r with
 | none=>rw [ah] at h;simp at h
 | some l =>
  rw [ah] at h
  simp only at h
  rcases Nat.lt_or_ge k l.length with h1|h1
  ·simpa using h1
  ·rw [List.getElem?_eq_none h1] at h;simp at h
theorem qJ {s:S}{r:Nat}(h:s.ax r=none)(k:Nat): ¬s.aw r k:=by simp [S.aw,h]
theorem vc (s:S){r:Nat}{l row:List U}(ah:s.ax r=some l)(av:l.length≤row.length)(q k:Nat)(h:s.aw q k):(s.setRow r row).aw q k:=by
 rw [jw]
 by_cases e:q=r
 ·subst e;rw [if_pos rfl];simp [S.aw,ah] at h;omega
 ·rw [if_neg e];exact h
theorem NN {s:S}{r:Nat}(h:s.ax r=none)(k:Nat):s.R r k=none:=by simp [S.R,h,b4]
def de.set (af:de)(r k:Nat)(p:Option (Nat×Nat)):de:=fun q j=>if q=r∧j=k then p else af q j
theorem iM (o:U)(k:Nat):b4 (some [o]) k=if k=0∧o.bz≠ .gone then some o else none:=by
 unfold b4
 cases k with
 | zero=>by_cases h:o.bz = .gone<;>simp [h]
 | succ k=>simp
theorem Rel.drew {w:World}{ok:Nat→Prop}{aw:f5}{aA:fP}{x:ag}{v:Value}(h:Rel w ok aw aA x v):Rel w.drew ok aw aA x v :=
 h.mono (fun _ h=>h) (fun _ _=>rfl) (fun _ _ h=>h) (fun _ _ _=> .inl rfl)
theorem ga.drew {w:World}{ok:Nat→Prop}{aw:f5}{aA:fP}{o:U}{p:Option (Nat×Nat)}(h:ga w ok aw aA o p):ga w.drew ok aw aA o p:=by
 cases p with
 | none=>exact h
 | some q =>
  obtain ⟨c,cL,h1,I,aj,aB⟩:=h
  exact ⟨c,cL,h1,I,aj,fun j x J=>let ⟨v,a,b,c⟩:=aB j x J;⟨v,a,b,c.drew⟩⟩
theorem fm.drew {g:G}{s:S}{af:de}{w:World}(h:fm g s af w):fm g s af w.drew :=
 {obj:=fun r k o aa=>(h.obj r k o aa).drew,inj:=h.inj,own:=h.own,fj:=⟨h.fj.os,h.fj.tape,h.fj.output,h.fj.size,h.fj.block⟩,mlt:=h.mlt,jB:=h.jB,stay:=h.stay,low:=h.low}
theorem bQ.drew {g:G}{s:S}{af:de}{a:Act}{w:World}(h:bQ g s af a w):bQ g s af a w.drew where
 tofm:=h.tofm.drew
 env:=fun t=>(h.env t).drew
 defers:=h.defers
 gz:=h.gz
theorem bQ.alloc {g:G}{s:S}{af:de}{a:Act}{w:World}(h:bQ g s af a w){r:Nat}(ah:s.ax r=none)(o:U)(aR:o.bz = .live)
 (c:Array Value) (cL:TypeId) (hlen : ∀e∈o.es,e.length=o.sz)
 (aF : ∀(j:Nat) x,o.es.flatten[j]? = some x→ ∃v,c[j]? = some v∧gQ v=true∧Rel w (s.ok g af w) s.aw (s.aA af) x v) :
 ∃aY,aY r 0=some (w.heap.size,c.size)∧bQ g (s.setRow r [o]) aY a (w.alloc (.cells c cL)) ∧
  ∀x v,Rel w (s.ok g af w) s.aw (s.aA af) x v→Rel (w.alloc (.cells c cL)) ((s.setRow r [o]).ok g aY (w.alloc (.cells c cL))) (s.setRow r [o]).aw ((s.setRow r [o]).aA aY) x v:=by
 have ir : ∀q k,q≠r→(af.set r 0 (some (w.heap.size,c.size))) q k=af q k:=fun q k aE=>by simp [de.set,aE]
 have aC : ∀q k,q≠r→(s.setRow r [o]).R q k=s.R q k:=fun q k aE=>by rw [ib,if_neg aE]
 have rl : ∀k,(s.setRow r [o]).R r k=if k=0 then some o else none:=fun k=>by
  rw [ib,if_pos rfl,iM];simp [aR]
 have nB : ∀q k p b m,s.R q k=some p→af q k=some (b,m)→b<w.heap.size:=fun q k p b m ad aE=>by
  have:=h.obj q k p ad
  rw [aE] at this
  obtain ⟨cq,i2,dg,_⟩:=this
  exact (Array.getElem?_eq_some_iff.1 dg).1
 have ct:Step g s af w (s.setRow r [o]) (af.set r 0 (some (w.heap.size,c.size))) (w.alloc (.cells c cL)):=by
  refine ⟨fun q k aE=>(jw _ _ _ _ _).2 (by rw [if_neg (by rintro rfl;exact qJ ah k aE)];exact aE),fun q k aE=> ?_,fun b aM=> ?_,fun b aM _=>heap_alloc_old w _ b aM,by simp⟩
  ·have b7:q≠r:=by rintro rfl;exact qJ ah k aE
   left
   simp only [S.aA,aC q k b7,ir q k b7]
  ·obtain ⟨q,k,p,m,h1,I,aj⟩:=aM
   by_cases e:q=r
   ·subst e
    rw [rl] at h1
    by_cases e0:k=0
    ·subst e0;simp [de.set] at aj;right;omega
    ·simp [e0] at h1
   ·rw [aC q k e] at h1;rw [ir q k e] at aj
    exact .inl ⟨q,k,p,m,h1,I,aj⟩
 refine ⟨af.set r 0 (some (w.heap.size,c.size)),by simp [de.set],?_,fun x v=>ct.rel⟩
 refine {tofm:=⟨?_,?_,?_,?_,h.mlt,h.jB,ct.stay h.stay,h.low⟩,env:=fun t=>ct.rel (h.env t),defers:=h.defers,gz:=h.gz}
 ·intro q k p ad
  by_cases e:q=r
  ·subst e
   rw [rl] at ad
   by_cases e0:k=0
   ·subst e0
    simp at ad
    subst ad
    simp only [de.set,and_self,if_true]
    exact ⟨c,cL,heap_alloc_new w _,rfl,hlen,fun j x J=>let ⟨v,e1,au,bB⟩:=aF j x J;⟨v,e1,au,ct.rel bB⟩⟩
   ·simp [e0] at ad
  ·rw [aC q k e] at ad
   rw [ir q k e]
   exact ct.obj (fun b m hm=>heap_alloc_old w _ b (nB q k p b m ad hm)) (h.obj q k p ad)
 ·intro q k p e4 b9 hF b m bG h1 I aj aB
  by_cases e:q=r<;>by_cases cN:e4=r
  ·subst e;subst cN
   rw [rl] at h1 I
   by_cases e0:k=0<;>by_cases e1:b9=0<;>simp [e0,e1] at h1 I
   exact ⟨rfl,by omega⟩
  ·subst e
   rw [rl] at h1;rw [aC _ _ cN] at I;rw [ir _ _ cN] at aB
   by_cases e0:k=0<;>simp [e0] at h1
   subst e0
   simp [de.set] at aj
   have:=nB e4 b9 hF b bG I aB
   omega
  ·subst cN
   rw [aC _ _ e] at h1;rw [rl] at I;rw [ir _ _ e] at aj
   by_cases e0:b9=0<;>simp [e0] at I
   subst e0
   simp [de.set] at aB
   have:=nB q k p b m h1 aj
   omega
  ·rw [aC _ _ e] at h1;rw [aC _ _ cN] at I;rw [ir _ _ e] at aj;rw [ir _ _ cN] at aB
   exact h.inj q k p e4 b9 hF b m bG h1 I aj aB
 ·intro q k p b m h1 I
  by_cases e:q=r
  ·subst e
   rw [rl] at h1
   by_cases e0:k=0<;>simp [e0] at h1
   subst e0
   simp [de.set] at I
   left
   have:=h.fj.size
   omega
  ·rw [aC _ _ e] at h1;rw [ir _ _ e] at I
   exact h.own q k p b m h1 I
 ·exact h.fj.step rfl rfl rfl (by simp) fun b aM _=>heap_alloc_old w _ b (Nat.lt_of_lt_of_le aM h.fj.size)
theorem C4 (l:List U)(k:Nat)(o bh:U)(h:b4 (some l) k=some o)(aR:bh.bz≠ .gone)(j:Nat):
 b4 (some (l.set k bh)) j=if j=k then some bh else b4 (some l) j:=by
 unfold b4 at *
 have cx:k<l.length:=by
  rcases Nat.lt_or_ge k l.length with h1|h1
  ·exact h1
  ·simp [List.getElem?_eq_none h1] at h
 by_cases e:j=k
 ·subst e;simp [cx,aR]
 ·simp only [List.getElem?_set,if_neg (Ne.symm e),if_neg e]
theorem bQ.write {g:G}{s:S}{af:de}{a:Act}{w a9:World}(h:bQ g s af a w){r k b m:Nat}{l:List U}{o:U}(ah:s.ax r=some l)(aa:s.R r k=some o)
 (aR:o.bz = .live) (ad:af r k=some (b,m)) (es:List (List ag)) (c:Array Value) (cL:TypeId)
 (hw:a9.heap[b]? = some (.cells c cL (0,0))) (cS:a9.heap.size=w.heap.size) (o6 : ∀q,q≠b→a9.heap[q]? = w.heap[q]?)
 (Ag:a9.os=w.os) (Ah:a9.tape=w.tape) (z3:a9.output=w.output) (hm:c.size=m)
 (hlen : ∀e∈es,e.length=o.sz)
 (aF : ∀(j:Nat) x,es.flatten[j]? = some x→ ∃v,c[j]? = some v∧gQ v=true∧Rel w (s.ok g af w) s.aw (s.aA af) x v) :
 bQ g (s.setRow r (l.set k {o with es})) af a a9 ∧
  ∀x v,Rel w (s.ok g af w) s.aw (s.aA af) x v→Rel a9 ((s.setRow r (l.set k {o with es})).ok g af a9) (s.setRow r (l.set k {o with es})).aw ((s.setRow r (l.set k {o with es})).aA af) x v:=by
 have kp:({o with es}:U).bz≠ .gone:=by rw [aR];simp
 have aC : ∀q j,(s.setRow r (l.set k {o with es})).R q j=if q=r∧j=k then some {o with es} else s.R q j:=by
  intro q j
  rw [ib]
  by_cases e:q=r
  ·subst e
   have cw:b4 (some l) k=some o:=by rw [← ah];exact aa
   rw [if_pos rfl,C4 l k o _ cw kp]
   by_cases au:j=k<;>simp [au,S.R,ah]
  ·simp [e]
 have lp:s.iz af b:=⟨r,k,o,m,aa,aR,ad⟩
 have ct:Step g s af w (s.setRow r (l.set k {o with es})) af a9:=by
  refine ⟨vc s ah (by simp),fun q j aE=> .inl ?_,fun q aE=> ?_,fun q aE av=>o6 q fun e=>av (e▸lp),Nat.le_of_eq cS.symm⟩
  ·simp only [S.aA,aC]
   by_cases e:q=r∧j=k
   ·obtain ⟨rfl,rfl⟩:=e;simp [aa]
   ·rw [if_neg e]
  ·obtain ⟨e4,j,p,bG,h1,I,aj⟩:=aE
   rw [aC] at h1
   by_cases e:e4=r∧j=k
   ·obtain ⟨rfl,rfl⟩:=e
    exact .inl ⟨e4,j,o,bG,aa,aR,aj⟩
   ·rw [if_neg e] at h1
    exact .inl ⟨e4,j,p,bG,h1,I,aj⟩
 refine ⟨{tofm:=⟨?_,?_,?_,?_,h.mlt,h.jB,ct.stay h.stay,h.low⟩,env:=fun t=>ct.rel (h.env t),defers:=h.defers,gz:=h.gz},fun x v=>ct.rel⟩
 ·intro q j p g9
  rw [aC] at g9
  by_cases e:q=r∧j=k
  ·obtain ⟨rfl,rfl⟩:=e
   simp at g9
   subst g9
   rw [ad]
   exact ⟨c,cL,hw,hm,hlen,fun j x J=>let ⟨v,e1,au,bB⟩:=aF j x J;⟨v,e1,au,ct.rel bB⟩⟩
  ·rw [if_neg e] at g9
   refine ct.obj (fun gY bG h2=>o6 gY ?_) (h.obj q j p g9)
   rintro rfl
   exact e (h.inj q j p r k o gY bG m g9 aa h2 ad)
 ·intro q j p e4 gO hF gY fQ e7 h1 I aj aB
  have key : ∀q j p,(s.setRow r (l.set k {o with es})).R q j=some p→ ∃hF,s.R q j=some hF:=by
   intro q j p aE
   rw [aC] at aE
   by_cases e:q=r∧j=k
   ·obtain ⟨rfl,rfl⟩:=e;exact ⟨o,aa⟩
   ·rw [if_neg e] at aE;exact ⟨p,aE⟩
  obtain ⟨p1,Mh⟩:=key q j p h1
  obtain ⟨e5,tX⟩:=key e4 gO hF I
  exact h.inj q j p1 e4 gO e5 gY fQ e7 Mh tX aj aB
 ·intro q j p gY bG h1 I
  rw [aC] at h1
  by_cases e:q=r∧j=k
  ·obtain ⟨rfl,rfl⟩:=e;exact h.own q j o gY bG aa I
  ·rw [if_neg e] at h1;exact h.own q j p gY bG h1 I
 ·refine h.fj.step Ag Ah z3 (Nat.le_of_eq cS.symm) fun gY tY h2=>o6 gY ?_
  rintro rfl
  rcases h.own r k o gY m aa ad with h1|h1
  ·omega
  ·exact h2 h1
end Go.VL
namespace Go.VL
set_option linter.unusedVariables false
set_option linter.unusedSimpArgs false
open Go
inductive nL where
 | id
 | ek (es:List (List ag))
 | m7 (sz:Nat)
 | gD
 | dd (x:ag)
 | len (n:Nat)
 | A0 (sz:Nat)
 | at_ (j i n:Nat)
 | view (cI:Nat) (o:U) (es:List (List ag))
 deriving Inhabited
inductive rR where
 | d6 (c:nL)
 | ptr (l:List nL)
 | z4 (l:List nL)
 | agg (l:List nL)
 deriving Inhabited
inductive h5 where
 | bS (c:rR)
 | comp (l:List rR)
 deriving Inhabited
inductive fC where
 | pure
 | box (l:List nL)
 | dd (row:List U)
 | dZ (row:List U)
 | rx (row:List U)
 | drop
 deriving Inhabited
structure jC where
 bd:List (Nat×Nat):=[]
 gZ:Option (Nat×Nat):=none
 deriving DecidableEq
inductive Src where
 | row (r:Nat)
 | R (r k:Nat) (o:U)
 deriving Inhabited
structure uy where
 ar:List Src:=[]
 b5:List fC:=[]
 ac:List h5
 r:ag
 cY:List (List U):=[]
 eC:h5:= .bS (.d6 .id)
 fo:List fC:=[]
 eg:List Nat:=[]
 eb:Bool:=true
inductive dy where
 | none
 | al (t:Bool)
 | cO (c:List ag)
 | tB (o:U) (c:List ag)
 | gE
 | call (c:uy)
 | aI (m:Nat) (o:Option U:=Option.none)
 | pG (t:Nat) (v:ag) (a:dy)
 | pH (r:Nat) (a:dy)
 | uz (r n:Nat) (a:dy)
structure fp where
 val:ag
 dI:List (Nat×List U):=[]
 dq:List Prop:=[]
def tg (P:Program)(t:TypeId):Bool :=
 match P.underlying t with
 | some (.struct _)|some (.array _ _)=>true
 | _=>false
def mZ (jI:List Int):ByteArray:=jI.foldl (fun r n=>r.push (UInt8.ofNat n.toNat)) ByteArray.empty
def bytesOf:List (List ag)→Option (List Int)
 | []=>some []
 | [.n .u8 n]::es=>(bytesOf es).map (n :: ·)
 | _=>none
def elemAt (es:List (List ag))(i:Nat):dy→Option (List ag×List Prop)
 | .cO c=>some (c,[es[i]? = some c])
 | .tB _ c=>some (c,[es[i]? = some c])
 | _=>match es[i]? with
  | some c=>some (c,[])
  | none=>none
def kS (row:Option (List U))(k:Nat):dy→Option (U×List Prop)
 | .tB o _=>match row with
  | some row=>some (o,[b4 (some row) k=some o])
  | none=>none
 | _=>match b4 row k with
  | some o=>some (o,[])
  | none=>none
def np (P:Program)(t:TypeId)(c:List ag)(off:Nat):Option ag :=
 if !((P.underlying t).isSome && (P.info? t).isSome) then none else
 if tg P t then (if off+P.cellsOf t≤c.length then some (.agg ((c.drop off).take (P.cellsOf t))) else none)
 else match c[off]? with
  | some x=>if x.one then some x else none
  | none=>none
def z5 (op:BinOp)(x y:ag):Option (ag×List Prop) :=
 match x,y with
 | .n k a,.n b9 b =>
  match op with
  | .shl=>some (.n k (k.wrap (a*2 ^ (min b.toNat k.bits))),[0≤b])
  | .shr=>some (.n k (a.fdiv (2 ^ (min b.toNat k.bits))),[0≤b])
  | _=>if k≠b9 then none else
   match op with
   | .add=>some (.n k (k.wrap (a+b)),[])
   | .sub=>some (.n k (k.wrap (a-b)),[])
   | .mul=>some (.n k (k.wrap (a*b)),[])
   | .quo=>some (.n k (k.wrap (a.tdiv b)),[b≠0])
   | .rem=>some (.n k (a.tmod b),[b≠0])
   | .and=>some (.n k (k.wrap ((BitVec.ofInt k.bits a &&& BitVec.ofInt k.bits b).toNat)),[])
   | .or=>some (.n k (k.wrap ((BitVec.ofInt k.bits a ||| BitVec.ofInt k.bits b).toNat)),[])
   | .xor=>some (.n k (k.wrap ((BitVec.ofInt k.bits a ^^^ BitVec.ofInt k.bits b).toNat)),[])
   | .eql=>some (.b (a == b),[])
   | .neq=>some (.b (a != b),[])
   | .lss=>some (.b (decide (a<b)),[])
   | .leq=>some (.b (decide (a≤b)),[])
   | .gtr=>some (.b (decide (b<a)),[])
   | .geq=>some (.b (decide (b≤a)),[])
   | _=>none
 | .s a,.s b =>
  match op with
  | .add=>some (.s (a++b),[a.size+b.size<9223372036854775808])
  | .eql=>some (.b (a.toList == b.toList),[])
  | .neq=>some (.b (!(a.toList == b.toList)),[])
  | _=>none
 | _,_=>none
def m1 (P:Program)(t:TypeId)(x y:ag):Option Bool :=
 match P.underlying t,x,y with
 | some .bool,.b a,.b c=>some (a == c)
 | some (.pointer _),.fL,.fL=>some true
 | some (.pointer _),.da ..,.fL=>some false
 | some (.pointer _),.fL,.da .. => some false
 | some (.slice _),.cg,.cg=>some true
 | some (.slice _),.fX,.cg=>some false
 | _,_,_=>none
def Ai (op:UnOp)(x:ag):Option ag :=
 match op,x with
 | .neg,.n k a=>some (.n k (k.wrap (0-a)))
 | .not,.b a=>some (.b (!a))
 | _,_=>none
def fieldsOf (P:Program)(t:TypeId):Option (Array Field) :=
 match P.underlying t with
 | some (.struct hy)=>some hy
 | _=>none
def lq (P:Program)(t:TypeId):Option TypeId :=
 match P.underlying t with
 | some (.slice e)=>some e
 | _=>none
def mg (P:Program)(t:TypeId):Option (List ag) :=
 match P.info? t with
 | some i=>match i.zero with
  | some v=>if v.cells.toList.all (·.oneCell') then some (v.cells.toList.map ofValue) else none
  | none=>none
 | none=>none
def th:ag→ag→ag
 | .cg,.isl sz []=> .isl sz []
 | .fL,.gM sz none=> .gM sz none
 | .cg,.fH r c sz none=> .fH r c sz none
 | x,_=>x
def mn:List ag→List ag→List ag
 | x::z,y::c=>th x y::mn z c
 | z,_=>z
def nq (z:List ag):dy→List ag
 | .cO c=>mn z c
 | _=>z
def setCells (c:List ag)(off:Nat)(vs:List ag):List ag:=c.take off++vs++c.drop (off+vs.length)
def n5:List ag→List (Nat×Nat×ag)→Option (List ag)
 | c,[]=>some c
 | c,(off,size,x)::rest =>
  if x.qU && x.cells.length=size && decide (off+size≤c.length) then n5 (setCells c off x.cells) rest else none
def rc (sz:Nat):List (List ag)→List (Nat×ag)→Option (List (List ag))
 | es,[]=>some es
 | es,(i,x)::rest=>if x.qU && x.cells.length=sz && decide (i<es.length) then rc sz (es.set i x.cells) rest else none
def aT:Option ag→Nat→Option (Nat×List Prop)
 | none,d=>some (d,[])
 | some (.n _ x),_=>some (x.toNat,[0≤x])
 | _,_=>none
def cT (P:Program)(E:Nat→ag)(ax:Nat→Option (List U))(ao:Nat)(o:Oper)(bR:dy):Option fp :=
 let fv:=c8 E
 match o.op with
 | .move x | .assign x=>some {val:=fv x}
 | .pick c a b =>
  match fv c,bR with
  | .b x,.al t=>some {val:=if t then fv a else fv b,dq:=[x=t]}
  | .b true,_=>some {val:=fv a}
  | .b false,_=>some {val:=fv b}
  | _,_=>none
 | .alloc t =>
  match mg P t with
  | some c=>some {val:= .ref ao 0 0 0,dI:=[(ao,[⟨c.length,[c],.live⟩])]}
  | none=>none
 | .box _ x =>
  match fv x with
  | .agg c=>some {val:= .ref ao 0 0 0,dI:=[(ao,[⟨c.length,[c],.live⟩])]}
  | v=>if v.one then some {val:= .ref ao 0 0 0,dI:=[(ao,[⟨1,[[v]],.live⟩])]} else none
 | .load t x =>
  match fv x with
  | .ref r k i off =>
   match kS (ax r) k bR with
   | some (R,bC)=>match elemAt R.es i bR with
    | some (c,aW)=>match np P t c off with
     | some v=>some {val:=v,dq:=bC++aW}
     | none=>none
    | none=>none
   | none=>none
  | .da _ es i off =>
   match elemAt es i bR with
   | some (c,aW)=>match np P t c off with
    | some v=>some {val:=v,dq:=aW}
    | none=>none
   | none=>none
  | _=>none
 | .store t x y =>
  match fv x with
  | .ref r k i off =>
   match ax r with
   | none=>none
   | some row =>
   match kS (some row) k bR with
   | some (R,bC) =>
    if R.bz≠ .live then none else
    let v:=fv y
    if v.qU=false then none else
    if v.cells.length≠P.cellsOf t∨(P.info? t).isSome=false then none else
    match bR with
    | .gE=>if off=0 then some {val:= .dead,dI:=[(r,row.set k {R with es:=R.es.set i v.cells})],dq:=bC++[i<R.es.length,v.cells.length=R.sz]} else none
    | _=>match elemAt R.es i bR with
     | some (c,aW)=>if off+v.cells.length≤c.length then some {val:= .dead,dI:=[(r,row.set k {R with es:=R.es.set i (setCells c off v.cells)})],dq:=bC++aW} else none
     | none=>none
   | none=>none
  | _=>none
 | .nilCheck x =>
  match fv x with
  | .ref r k i off=>match kS (ax r) k bR with
   | some (R,bC)=>match elemAt R.es i bR with
    | some (_,aW)=>some {val:= .ref r k i off,dq:=bC++aW}
    | none=>none
   | none=>none
  | .da sz es i off=>some {val:= .da sz es i off}
  | .fn f c=>some {val:= .fn f c}
  | _=>none
 | .binOp op t x y _ =>
  match z5 op (fv x) (fv y) with
  | some (v,R)=>some {val:=v,dq:=R}
  | none=>match op with
   | .eql=>(m1 P t (fv x) (fv y)).map fun r=>{val:= .b r}
   | .neq=>(m1 P t (fv x) (fv y)).map fun r=>{val:= .b (!r)}
   | _=>none
 | .unOp op _ x=>(Ai op (fv x)).map fun v=>{val:=v}
 | .convert src dst x =>
  match P.underlying dst,fv x with
  | some (.int k),.n _ a=>if (P.underlying src).isSome then some {val:= .n k (k.wrap a)} else none
  | some .string,.a6 r k bV len =>
   match (lq P src).bind P.underlying,b4 (ax r) k with
   | some (.int .u8),some R=>match bytesOf ((R.es.drop bV).take len) with
    | some jI=>if bV+len≤R.es.length∧R.sz=1 then some {val:= .s (mZ jI)} else none
    | none=>none
   | _,_=>none
  | _,_=>none
 | .makeFunc (.func f) first captured =>
  if first.size=0 then some {val:= .fn f (captured.toList.map fv)} else none
 | .makeSlice t l c =>
  match lq P t,fv l,fv c with
  | some e,.n _ l,.n _ c =>
   match P.info? e,mg P e with
   | some i,some z=>if z.length=i.size then some {val:= .a6 ao 0 0 l.toNat,dI:=[(ao,[⟨z.length,List.replicate l.toNat (nq z bR),.live⟩])],dq:=[0≤l,l≤c,(i.bytes:Int)*c≤281474976710656,c<9223372036854775808]} else none
   | _,_=>none
  | _,_,_=>none
 | .fieldAddr t x f =>
  match fieldsOf P t with
  | some hy=>match hy[f]? with
   | some fd=>if P.cellsOf fd.type=0 then none else
    match fv x with
    | .ref r k i off=>match kS (ax r) k bR with
     | some (R,bC)=>match elemAt R.es i bR with
      | some (_,aW)=>some {val:= .ref r k i (off+fd.offset),dq:=bC++aW}
      | none=>none
     | none=>none
    | .da sz es i off=>some {val:= .da sz es i (off+fd.offset)}
    | _=>none
   | none=>none
  | none=>none
 | .field t x f =>
  match fieldsOf P t with
  | some hy=>match hy[f]?,fv x with
   | some fd,.agg c=>(np P fd.type c fd.offset).map fun v=>{val:=v}
   | _,_=>none
  | none=>none
 | .indexAddr t x i5 =>
  match lq P t,fv i5 with
  | some e,.n _ j =>
   match fv x with
   | .isl sz es=>if sz=P.cellsOf e∧sz≠0 then some {val:= .da sz es j.toNat 0,dq:=[0≤j,j<es.length]} else none
   | .a6 r k bV len=>match ax r with
    | some row=>match kS (some row) k bR with
     | some (R,bC)=>if R.sz=P.cellsOf e∧R.sz≠0 then some {val:= .ref r k (bV+j.toNat) 0,dq:=bC++[0≤j,j<len]} else none
     | none=>none
    | none=>none
   | _=>none
  | _,_=>none
 | .index t x i5 =>
  match P.underlying t,fv x,fv i5 with
  | some .string,.s s,.n _ j=>some {val:= .n .u8 (s.data.toList.getD j.toNat 0).toNat,dq:=[0≤j,j<s.size]}
  | _,_,_=>none
 | .extract x i =>
  match fv x with
  | .dx vs=>(vs[i]?).map fun v=>{val:=v}
  | _=>none
 | .slice t x bV an none =>
  match P.underlying t,fv x with
  | some (.slice e),.isl sz es =>
   match aT (bV.map fv) 0,aT (an.map fv) es.length with
   | some (l,bC),some (h,aW)=>if sz=P.cellsOf e∧sz≠0 then some {val:= .isl sz ((es.drop l).take (h-l)),dq:=bC++aW++[l≤h,h≤es.length]} else none
   | _,_=>none
  | some (.slice e),.a6 r k E5 len =>
   match ax r with
   | none=>none
   | some row=>match kS (some row) k bR with
    | none=>none
    | some (R,E6) =>
     match aT (bV.map fv) 0,aT (an.map fv) len with
     | some (l,bC),some (h,aW)=>if R.sz=P.cellsOf e∧R.sz≠0 then some {val:= .a6 r k (E5+l) (h-l),dq:=E6++bC++aW++[l≤h,h≤len]} else none
     | _,_=>none
  | some .string,.s s =>
   match aT (bV.map fv) 0,aT (an.map fv) s.size with
   | some (l,bC),some (h,aW)=>some {val:= .s (s.extract l h),dq:=bC++aW++[l≤h,h≤s.size]}
   | _,_=>none
  | _,_=>none
 | .build t parts =>
  match fieldsOf P t,mg P t with
  | some hy,some z =>
   if hy.toList.all (fun f=>(P.info? f.type).isSome)=false then none else
   match parts.toList.mapM fun (p:Nat×Operand)=>(hy[p.1]?).map fun fd=>(fd.offset,P.cellsOf fd.type,fv p.2) with
   | some l=>(n5 z l).map fun c=>{val:= .agg c}
   | none=>none
  | _,_=>none
 | .buildSlice t len parts =>
  match lq P t with
  | some e=>match mg P e with
   | some z =>
    if len*z.length>16777216∨z.length≠P.cellsOf e∨z.length=0 then none else
    match rc z.length (List.replicate len z) (parts.toList.map fun p=>(p.1,fv p.2)) with
    | some es=>some {val:= .a6 ao 0 0 len,dI:=[(ao,[⟨z.length,es,.live⟩])]}
    | none=>none
   | none=>none
  | none=>none
 | .call {callee:= .builtin .len,args,argTypes} =>
  match args.toList.map fv,P.underlying (argTypes.getD 0 0),decide (argTypes.size=1) with
  | [.isl _ es],some (.slice _),true=>some {val:= .n .i64 es.length}
  | [.a6 r k _ len],some (.slice _),true=>match ax r with
   | some row=>match kS (some row) k bR with
    | some (_,bC)=>some {val:= .n .i64 len,dq:=bC}
    | none=>none
   | none=>none
  | [.cg],some (.slice _),true=>some {val:= .n .i64 0}
  | [.s x],some .string,true=>some {val:= .n .i64 x.size}
  | _,_,_=>none
 | _=>none
end Go.VL
namespace Go.VL
set_option linter.unusedVariables false
set_option linter.unusedSimpArgs false
open Go
theorem k2 {α:Type}{sz:Nat}(bZ:0<sz): ∀(es:List (List α)) (_ : ∀e∈es,e.length=sz) (j:Nat),
 es.flatten[j]? = (es[j / sz]?).bind (·[j % sz]?)
 | [],_,j=>by simp
 | e::es,h,j=>by
  have he:e.length=sz:=h e (by simp)
  rw [List.flatten_cons,List.getElem?_append]
  by_cases aq:j<sz
  ·rw [if_pos (by omega),Nat.div_eq_of_lt aq,Nat.mod_eq_of_lt aq];simp
  ·rw [if_neg (by omega),he,k2 bZ es (fun cN iD=>h cN (by simp [iD])) (j-sz)]
   have h1:j / sz=(j-sz) / sz+1:=Nat.div_eq_sub_div bZ (by omega)
   have I:j % sz=(j-sz) % sz:=Nat.mod_eq_sub_mod (by omega)
   rw [h1,I];simp
theorem sS {α:Type}{sz:Nat}{es:List (List α)}(av:∀e∈es,e.length=sz){i:Nat}{c:List α}(he:es[i]? = some c){j:Nat}(aq:j<sz):
 es.flatten[i*sz+j]? = c[j]? := by
 have bZ:0<sz:=by omega
 rw [k2 bZ es av]
 have h1:(i*sz+j) / sz=i:=by
  rw [Nat.mul_comm,Nat.mul_add_div bZ,Nat.div_eq_of_lt aq];omega
 have I:(i*sz+j) % sz=j:=by
  rw [Nat.mul_comm,Nat.mul_add_mod,Nat.mod_eq_of_lt aq]
 rw [h1,I,he];rfl
theorem Ci {α:Type}{sz:Nat}{es:List (List α)}(av:∀e∈es,e.length=sz){i:Nat}{c cq:List α}(he:es[i]? = some c)(aF:cq.length=sz)(j:Nat):
 (es.set i cq).flatten[j]? = if i*sz≤j∧j<i*sz+sz then cq[j-i*sz]? else es.flatten[j]? := by
 rcases Nat.eq_zero_or_pos sz with h0|bZ
 ·subst h0
  have e1 : ∀(l:List (List α)),(∀e∈l,e.length=0)→l.flatten=[]:=by
   intro l av;induction l with
   | nil=>rfl
   | cons a l ih=>rw [List.flatten_cons,ih fun e he=>av e (by simp [he])];have:=av a (by simp);simp_all
  rw [e1 _ av,e1 (es.set i cq) (by
   intro e hm
   rcases List.mem_or_eq_of_mem_set hm with h|h
   ·exact av e h
   ·exact h▸aF)]
  simp
 ·have Aj : ∀e∈es.set i cq,e.length=sz:=by
   intro e hm
   rcases List.mem_or_eq_of_mem_set hm with h|h
   ·exact av e h
   ·exact h▸aF
  have an:i<es.length:=by
   rcases Nat.lt_or_ge i es.length with h|h
   ·exact h
   ·rw [List.getElem?_eq_none h] at he;simp at he
  rw [k2 bZ _ Aj,k2 bZ _ av]
  by_cases aE:j / sz=i
  ·have h1:i*sz≤j∧j<i*sz+sz:=by
    subst aE
    constructor
    ·exact Nat.div_mul_le_self j sz
    ·have:=Nat.lt_div_mul_add (a:=j) bZ;omega
   rw [if_pos h1,aE,List.getElem?_set_self an]
   have:j % sz=j-i*sz:=by
    subst aE;have:=Nat.div_add_mod j sz;rw [Nat.mul_comm] at this;omega
   simp [this]
  ·have h1 : ¬(i*sz≤j∧j<i*sz+sz):=by
    rintro ⟨a,b⟩
    apply aE
    obtain ⟨d,rfl⟩ : ∃d,j=i*sz+d:=⟨j-i*sz,by omega⟩
    rw [Nat.mul_comm i sz,Nat.mul_add_div bZ,Nat.div_eq_of_lt (by omega)]
    omega
   rw [if_neg h1,List.getElem?_set_ne (Ne.symm aE)]
def ku (w:World)(ok:Nat→Prop)(aw:f5)(aA:fP)(cy o sz:Nat)(es:List (List ag)):Prop :=
 (∀e∈es,e.length=sz)∧ ∀(j:Nat) x,es.flatten[j]? = some x→ ∃v,w.cell? ⟨cy,o+j,none⟩=some v∧gQ v=true∧Rel w ok aw aA x v
theorem ga.rd {w:World}{ok:Nat→Prop}{aw:f5}{aA:fP}{o:U}{cy m:Nat}(h:ga w ok aw aA o (some (cy,m))):ku w ok aw aA cy 0 o.sz o.es:=by
 obtain ⟨c,cL,h1,I,aj,aB⟩:=h
 refine ⟨aj,fun j x J=> ?_⟩
 obtain ⟨v,e1,au,bB⟩:=aB j x J
 exact ⟨v,by rw [cell_of_row w cy (0+j) c cL (0,0) h1,Nat.zero_add];exact e1,au,bB⟩
theorem NZ {w:World}{ok:Nat→Prop}{aw:f5}{aA:fP}{x:ag}{v:Value}(h:Rel w ok aw aA x v)(aa:x.one=true):v.oneCell'=true:=h.gQ aa
theorem CM {P:Program}{t:TypeId}(h:(P.underlying t).isSome=true)(w:World):(isAgg t).run P w = .ok (tg P t) w:=by
 cases bd:P.underlying t with
 | none=>simp [bd] at h
 | some d=>cases d<;>simp [isAgg,tg,run_underlying bd,bd]
theorem oO {P:Program}{t:TypeId}(h:(P.info? t).isSome=true)(w:World):(sizeOf t).run P w = .ok (P.cellsOf t) w:=by
 cases an:P.info? t with
 | none=>simp [an] at h
 | some i=>simp [sizeOf,typeInfo,an,Program.cellsOf]
theorem mR (b o n:Nat):(⟨b,o,none⟩:Addr).add n=⟨b,o+n,none⟩:=by unfold Addr.add;split<;>simp_all
theorem zo {P:Program}{w:World}{ok:Nat→Prop}{aw:f5}{aA:fP}{cy o sz i off:Nat}{es:List (List ag)}{c:List ag}{t:TypeId}{x:ag}
 (ft:ku w ok aw aA cy o sz es) (he:es[i]? = some c) (bO:np P t c off=some x) :
 ∃v,(Instr.loadAt t (.pointer (some ⟨cy,o+(i*sz+off),none⟩))).run P w = .ok v w∧Rel w ok aw aA x v:=by
 have hlen:c.length=sz:=ft.1 c (List.mem_of_getElem? he)
 unfold np at bO
 split at bO
 ·simp at bO
 ·rename_i an
  simp only [Bool.not_eq_true',Bool.not_eq_false,Bool.and_eq_true] at an
  have gL : ∀j,j<sz→ ∃y v,c[j]? = some y∧w.cell? ⟨cy,o+(i*sz+j),none⟩=some v∧gQ v=true∧Rel w ok aw aA y v:=by
   intro j aq
   have aG:c[j]? = some c[j]:=List.getElem?_eq_getElem (by omega)
   obtain ⟨v,e1,au,bB⟩:=ft.2 (i*sz+j) c[j] (by rw [sS ft.1 he aq,aG])
   exact ⟨_,v,aG,e1,au,bB⟩
  simp only [Instr.loadAt,Instr.sureAddr,loadVar,Sem.run_bind,Sem.run_pure,Result.andThen,CM an.1,oO an.2]
  split at bO
  ·rename_i mu
   rw [mu]
   split at bO
   ·rename_i hle
    simp at bO;subst bO
    have av:=run_loadCells (P:=P) w ⟨cy,o+(i*sz+off),none⟩ (P.cellsOf t) (fun j=>(w.cell? ⟨cy,o+(i*sz+(off+j)),none⟩).getD undef) (by
     intro j aq
     obtain ⟨y,v,-,e1,-,-⟩:=gL (off+j) (by omega)
     rw [mR,show o+(i*sz+off)+j=o+(i*sz+(off+j)) by omega,e1];rfl)
    refine ⟨.agg (List.map (fun j=>(w.cell? ⟨cy,o+(i*sz+(off+j)),none⟩).getD undef) (List.range (P.cellsOf t))).toArray,by simp [av,Result.andThen,oO an.2],?_⟩
    refine .agg _ (by simp;omega) ?_ ?_
    ·intro j v aN
     rw [List.getElem?_map,Option.map_eq_some_iff] at aN
     obtain ⟨q,pp,rfl⟩:=aN
     obtain ⟨Ak,Al⟩:=List.getElem?_eq_some_iff.1 pp
     have aE:j<P.cellsOf t:=by simpa using Ak
     obtain rfl:j=q:=by simpa using Al
     obtain ⟨y,v,-,e1,au,-⟩:=gL (off+j) (by omega)
     rw [e1];exact au
    ·intro j y v aG aN
     rw [List.getElem?_map,Option.map_eq_some_iff] at aN
     obtain ⟨q,pp,rfl⟩:=aN
     obtain ⟨Ak,Al⟩:=List.getElem?_eq_some_iff.1 pp
     have aE:j<P.cellsOf t:=by simpa using Ak
     obtain rfl:j=q:=by simpa using Al
     rw [List.getElem?_take,if_pos aE,List.getElem?_drop] at aG
     obtain ⟨jJ,v,h0,e1,au,bB⟩:=gL (off+j) (by omega)
     rw [h0] at aG;simp at aG;subst aG
     rw [e1];exact bB
   ·simp at bO
  ·rename_i mu
   have mu:tg P t=false:=by simpa using mu
   rw [mu]
   split at bO
   ·rename_i y aG
    split at bO
    ·simp at bO;subst bO
     have rm:off<sz:=by
      rcases Nat.lt_or_ge off c.length with h|h
      ·omega
      ·rw [List.getElem?_eq_none h] at aG;simp at aG
     obtain ⟨jJ,v,h0,e1,au,bB⟩:=gL off rm
     rw [h0] at aG;simp at aG;subst aG
     exact ⟨v,by simp [e1],bB⟩
    ·simp at bO
   ·simp at bO
theorem B2 {c:List ag}{off:Nat}{vs:List ag}(h:off+vs.length≤c.length):(setCells c off vs).length=c.length:=by
 simp [setCells];omega
theorem zg {c:List ag}{off:Nat}{vs:List ag}(h:off+vs.length≤c.length)(j:Nat):
 (setCells c off vs)[j]? = if off≤j∧j<off+vs.length then vs[j-off]? else c[j]? := by
 unfold setCells
 rw [List.append_assoc,List.getElem?_append]
 have h1:(c.take off).length=off:=by simp;omega
 rw [h1]
 by_cases a:j<off
 ·rw [if_pos a,if_neg (by omega),List.getElem?_take,if_pos a]
 ·rw [if_neg a,List.getElem?_append]
  by_cases b:j<off+vs.length
  ·rw [if_pos (by omega),if_pos ⟨by omega,b⟩]
  ·rw [if_neg (by omega),if_neg (by omega),List.getElem?_drop]
   congr 1;omega
theorem KM {c:Array Value}{p:Nat}{vs:List Value}(h:p+vs.length≤c.size)(j:Nat):
 (c.toList.take p++vs++c.toList.drop (p+vs.length)).toArray[j]? = if p≤j∧j<p+vs.length then vs[j-p]? else c[j]? := by
 rw [List.getElem?_toArray,List.append_assoc,List.getElem?_append]
 have h1:(c.toList.take p).length=p:=by simp;omega
 rw [h1]
 by_cases a:j<p
 ·rw [if_pos a,if_neg (by omega),List.getElem?_take,if_pos a,Array.getElem?_toList]
 ·rw [if_neg a,List.getElem?_append]
  by_cases b:j<p+vs.length
  ·rw [if_pos (by omega),if_pos ⟨by omega,b⟩]
  ·rw [if_neg (by omega),if_neg (by omega),List.getElem?_drop,Array.getElem?_toList]
   congr 1;omega
theorem ID {P:Program}{g:G}{s:S}{af:de}{a:Act}{w:World}(h:bQ g s af a w){r k b m i off:Nat}{l:List U}{o:U}{c:List ag}
 (ah:s.ax r=some l) (aa:s.R r k=some o) (aR:o.bz = .live) (ad:af r k=some (b,m)) (he:o.es[i]? = some c)
 {t:TypeId} (Am:(P.info? t).isSome=true) {x:ag} {v:Value} (J:Rel w (s.ok g af w) s.aw (s.aA af) x v) (iB:x.one=true∨ ∃c,x = .agg c)
 (cS:x.cells.length=P.cellsOf t) (fs:off+x.cells.length≤c.length) :
 ∃a9,(Instr.storeAt t (.pointer (some ⟨b,i*o.sz+off,none⟩)) v).run P w = .ok () a9 ∧
  bQ g (s.setRow r (l.set k {o with es:=o.es.set i (setCells c off x.cells)})) af a a9:=by
 obtain ⟨vs,aN,rs,gL,dj⟩:=J.cellsOf iB
 have aC:=h.obj r k o aa
 rw [ad] at aC
 obtain ⟨bt,cL,h1,I,aj,aB⟩:=aC
 have hlen:c.length=o.sz:=aj c (List.mem_of_getElem? he)
 have rn:i*o.sz+off+vs.length≤bt.size:=by
  rcases Nat.eq_zero_or_pos o.sz with cl|cl
  ·have:off=0:=by omega
   have:vs.length=0:=by omega
   rw [cl];omega
  ·have av:o.es.flatten[i*o.sz+(o.sz-1)]? = some (c[o.sz-1]'(by omega)):=by
    rw [sS aj he (by omega)];exact List.getElem?_eq_getElem (by omega)
   obtain ⟨E7,e1,-,-⟩:=aB _ _ av
   have:=(Array.getElem?_eq_some_iff.1 e1).1
   omega
 have iU:=run_storeCells_at P b (i*o.sz+off) cL vs 0 bt w h1 (by simpa using rn) (fun E7 wo=>by
  obtain ⟨q,aE⟩:=List.getElem?_of_mem wo
  exact gL q E7 aE)
 simp only [Nat.add_zero] at iU
 have fM:(Instr.storeAt t (.pointer (some ⟨b,i*o.sz+off,none⟩)) v).run P w =
  .ok () (w.setRow b (bt.toList.take (i*o.sz+off)++vs++bt.toList.drop (i*o.sz+off+vs.length)).toArray):=by
  have bZ:v.cells.size=P.cellsOf t:=by rw [aN];simpa using rs.trans cS
  simp only [Instr.storeAt,Instr.sureAddr,storeVar,Sem.run_bind,Sem.run_pure,Result.andThen,oO Am,bZ,ne_eq,not_true_eq_false,if_false]
  rw [aN]
  simpa using iU
 refine ⟨_,fM,?_⟩
 have LO:(w.setRow b (bt.toList.take (i*o.sz+off)++vs++bt.toList.drop (i*o.sz+off+vs.length)).toArray).heap.size=w.heap.size:=size_setRow _ _ _
 have pq:(setCells c off x.cells).length=o.sz:=by rw [B2 fs];exact hlen
 refine (h.write ah aa aR ad _ _ cL (setRow_heap w b bt _ cL _ h1) LO (fun q aE=>setRow_other w b q _ aE) rfl rfl rfl ?_ ?_ ?_).1
 ·simp;omega
 ·intro e hm
  rcases List.mem_or_eq_of_mem_set hm with bT|bT
  ·exact aj e bT
  ·exact bT▸pq
 ·intro j y aG
  rw [KM rn]
  rw [Ci aj he pq] at aG
  by_cases jD:i*o.sz≤j∧j<i*o.sz+o.sz
  ·rw [if_pos jD,zg fs] at aG
   by_cases Ec:off≤j-i*o.sz∧j-i*o.sz<off+x.cells.length
   ·rw [if_pos Ec] at aG
    rw [if_pos ⟨by omega,by omega⟩]
    have aE:j-(i*o.sz+off)<vs.length:=by omega
    refine ⟨vs[j-(i*o.sz+off)],List.getElem?_eq_getElem aE,gL _ _ (List.getElem?_eq_getElem aE),dj (j-i*o.sz-off) y _ aG ?_⟩
    rw [show j-i*o.sz-off=j-(i*o.sz+off) by omega]
    exact List.getElem?_eq_getElem aE
   ·rw [if_neg Ec] at aG
    rw [if_neg (by omega)]
    refine aB j y ?_
    rw [show j=i*o.sz+(j-i*o.sz) by omega,sS aj he (by omega)]
    exact aG
  ·rw [if_neg jD] at aG
   rw [if_neg (by rw [rs];omega)]
   exact aB j y aG
end Go.VL
namespace Go.VL
set_option linter.unusedVariables false
set_option linter.unusedSimpArgs false
open Go
def S.fk (s:S)(u:List (Nat×List U)):S:=u.foldl (fun s p=>s.setRow p.1 p.2) s
@[simp] theorem S.Ob (s:S):s.fk []=s:=rfl
@[simp] theorem S.Oc (s:S) (p:Nat×List U):s.fk [p]=s.setRow p.1 p.2:=rfl
section
variable {w:World} {ok:Nat→Prop} {aw:f5} {aA:fP} {v:Value}
theorem Rel.n6 {x:Bool}(h:Rel w ok aw aA (.b x) v):v = .bool x:=by cases h;rfl
theorem Rel.k5 {k:IntKind}{x:Int}(h:Rel w ok aw aA (.n k x) v):v = .int k x:=by cases h;rfl
theorem Rel.re {x:ByteArray}(h:Rel w ok aw aA (.s x) v):v = .string x:=by cases h;rfl
theorem Rel.oX (h:Rel w ok aw aA .fL v):v = .pointer none:=by cases h;rfl
theorem Rel.lj (h:Rel w ok aw aA .cg v):v = .slice none 0 0:=by cases h;rfl
theorem Rel.vJ (h:Rel w ok aw aA .fX v): ∃a c,v = .slice (some a) 0 c:=by cases h;exact ⟨_,_,rfl⟩
theorem Rel.C5 {sz:Nat}(h:Rel w ok aw aA (.gM sz none) v):v = .pointer none:=by cases h;rfl
theorem Rel.zy {sz:Nat}{c:List ag}(h:Rel w ok aw aA (.gM sz (some c)) v):Rel w ok aw aA (.da sz [c] 0 0) v:=by cases h;assumption
theorem Rel.vS {f:Nat}{c:List ag}(h:Rel w ok aw aA (.fn f c) v): ∃vs:List Value,v = .func (.func f) #[] vs.toArray∧vs.length=c.length ∧
 ∀(j:Nat) x u,c[j]? = some x→vs[j]? = some u→Rel w ok aw aA x u:=by
 cases h with|fn vs av ah=>exact ⟨vs,rfl,av,ah⟩
theorem Rel.s8 {c:List ag}(h:Rel w ok aw aA (.agg c) v): ∃vs:List Value,v = .agg vs.toArray∧vs.length=c.length∧(∀(j:Nat) u,vs[j]? = some u→VL.gQ u=true) ∧
 ∀(j:Nat) x u,c[j]? = some x→vs[j]? = some u→Rel w ok aw aA x u:=by
 cases h with|agg vs av aF ah=>exact ⟨vs,rfl,av,aF,ah⟩
theorem Rel.qZ {c:List ag}(h:Rel w ok aw aA (.dx c) v): ∃vs:List Value,v = .tuple vs.toArray∧vs.length=c.length ∧
 ∀(j:Nat) x u,c[j]? = some x→vs[j]? = some u→Rel w ok aw aA x u:=by
 cases h with|dx vs av ah=>exact ⟨vs,rfl,av,ah⟩
theorem Rel.q2 {r k i off sz:Nat}{p:Option (Nat×Nat)}(h:Rel w ok aw aA (.ref r k i off) v)(bO:aA r k=some (sz,p)):
 p=none∨ ∃b m,p=some (b,m)∧v = .pointer (some ⟨b,i*sz+off,none⟩):=by
 cases h with
 | lm a hu a5 =>
  cases p with
  | none=>exact .inl rfl
  | some q=>exact absurd bO (a5 _ _)
 | ref hu h =>
  rw [bO] at h
  simp only [Option.some.injEq,Prod.mk.injEq] at h
  obtain ⟨rfl,rfl⟩:=h
  exact .inr ⟨_,_,rfl,rfl⟩
theorem Rel.Om {r k i off:Nat}(h:Rel w ok aw aA (.ref r k i off) v): ∃a,v = .pointer a:=by
 cases h with
 | lm a=>exact ⟨a,rfl⟩
 | ref=>exact ⟨_,rfl⟩
theorem Rel.Jm {r k i off sz b m:Nat}(h:Rel w ok aw aA (.ref r k i off) v)(bO:aA r k=some (sz,some (b,m)))(Ed:Nat):
 Rel w ok aw aA (.ref r k i Ed) (.pointer (some ⟨b,i*sz+Ed,none⟩)):=by
 cases h with
 | lm a hu a5=>exact absurd bO (a5 _ _)
 | ref hu h=>exact .ref hu bO
theorem Rel.q3 {sz i off:Nat}{es:List (List ag)}(h:Rel w ok aw aA (.da sz es i off) v): ∃cy o,(ok cy∧hL es)∧v = .pointer (some ⟨cy,o+(i*sz+off),none⟩)∧ku w ok aw aA cy o sz es:=by
 cases h with
 | da cs aM ad av hw aF ah=>exact ⟨_,_,⟨aM,ad⟩,rfl,av,fun j x J=>⟨cs j,hw j x J,aF j x J,ah j x J⟩⟩
theorem Rel.s9 {r k bV len sz:Nat}{p:Option (Nat×Nat)}(h:Rel w ok aw aA (.a6 r k bV len) v)(bO:aA r k=some (sz,p)):
 (p=none∧bV=0∧len=0∧v = .slice none 0 0)∨ ∃b m a c,p=some (b,m)∧v = .slice a len c∧len≤c∧c<9223372036854775808∧(c=0∨(a=some ⟨b,bV*sz,none⟩∧(bV+c)*sz=m)):=by
 cases h with
 | jx a l c hu a5=>rw [bO] at a5;simp at a5
 | jT hu h =>
  rw [bO] at h
  simp only [Option.some.injEq,Prod.mk.injEq] at h
  exact .inl ⟨h.2,rfl,rfl,rfl⟩
 | a6 hu h av aF hm =>
  rw [bO] at h
  simp only [Option.some.injEq,Prod.mk.injEq] at h
  obtain ⟨rfl,rfl⟩:=h
  exact .inr ⟨_,_,_,_,rfl,rfl,av,aF,hm.2.imp id fun e=>⟨e,hm.1⟩⟩
theorem Rel.oY {r k bV len sz:Nat}{p:Option (Nat×Nat)}(h:Rel w ok aw aA (.a6 r k bV len) v)(bO:aA r k=some (sz,p)):
 (p=none∧bV=0∧len=0∧v = .slice none 0 0)∨ ∃b m a c,p=some (b,m)∧v = .slice a len c∧len≤c∧c<9223372036854775808∧(bV+c)*sz=m∧(c=0∨a=some ⟨b,bV*sz,none⟩):=by
 cases h with
 | jx a l c hu a5=>rw [bO] at a5;simp at a5
 | jT hu h =>
  rw [bO] at h
  simp only [Option.some.injEq,Prod.mk.injEq] at h
  exact .inl ⟨h.2,rfl,rfl,rfl⟩
 | a6 hu h av aF hm =>
  rw [bO] at h
  simp only [Option.some.injEq,Prod.mk.injEq] at h
  obtain ⟨rfl,rfl⟩:=h
  exact .inr ⟨_,_,_,_,rfl,rfl,av,aF,hm⟩
theorem Rel.N0 {r k bV len:Nat}(h:Rel w ok aw aA (.a6 r k bV len) v): ∃a l c,v = .slice a l c:=by
 cases h<;>exact ⟨_,_,_,rfl⟩
theorem Rel.nj {sz:Nat}{es:List (List ag)}(h:Rel w ok aw aA (.isl sz es) v):
 (es=[]∧ ∃a c,v = .slice a 0 c∧(a=none→c=0))∨ ∃cy off c,(ok cy∧hL es)∧v = .slice (some ⟨cy,off,none⟩) es.length c∧es.length≤c∧ku w ok aw aA cy off sz es:=by
 cases h with
 | gb sz a c h=>exact .inl ⟨rfl,a,c,rfl,h⟩
 | isl cs aM ad av aF hw fO ah=>exact .inr ⟨_,_,_,⟨aM,ad⟩,rfl,aF,av,fun j x J=>⟨cs j,hw j x J,fO j x J,ah j x J⟩⟩
theorem ku.isl {cy off c sz:Nat}{es:List (List ag)}(h:ku w ok aw aA cy off sz es)(aM:ok cy∧hL es)(aF:es.length≤c):Rel w ok aw aA (.isl sz es) (.slice (some ⟨cy,off,none⟩) es.length c):=by
 have J : ∀j:Nat,∃v,∀x,es.flatten[j]? = some x→w.cell? ⟨cy,off+j,none⟩=some v∧VL.gQ v=true∧Rel w ok aw aA x v:=by
  intro j
  cases aq:es.flatten[j]? with
  | none=>exact ⟨undef,fun x J=>by simp at J⟩
  | some y =>
   obtain ⟨v,h1⟩:=h.2 j y aq
   exact ⟨v,fun x J=>by simp at J;subst J;exact h1⟩
 exact .isl (fun j=>(J j).choose) aM.1 aM.2 h.1 aF (fun j x aq=>((J j).choose_spec x aq).1) (fun j x aq=>((J j).choose_spec x aq).2.1) (fun j x aq=>((J j).choose_spec x aq).2.2)
theorem ku.da {cy o i off sz:Nat}{es:List (List ag)}(h:ku w ok aw aA cy o sz es)(aM:ok cy∧hL es):Rel w ok aw aA (.da sz es i off) (.pointer (some ⟨cy,o+(i*sz+off),none⟩)):=by
 have J : ∀j:Nat,∃v,∀x,es.flatten[j]? = some x→w.cell? ⟨cy,o+j,none⟩=some v∧VL.gQ v=true∧Rel w ok aw aA x v:=by
  intro j
  cases aq:es.flatten[j]? with
  | none=>exact ⟨undef,fun x J=>by simp at J⟩
  | some y =>
   obtain ⟨v,h1⟩:=h.2 j y aq
   exact ⟨v,fun x J=>by simp at J;subst J;exact h1⟩
 exact .da (fun j=>(J j).choose) aM.1 aM.2 h.1 (fun j x aq=>((J j).choose_spec x aq).1) (fun j x aq=>((J j).choose_spec x aq).2.1) (fun j x aq=>((J j).choose_spec x aq).2.2)
end
def Fin (P:Program)(g:G)(s:S)(a:Act)(w:World)(o:Oper)(aL:fp):Prop :=
 ∃v a9 aY,((execOp a.eval o).run P w = .ok (.value v) a9∨((execOp a.eval o).run P w = .ok .skip a9∧v=undef)) ∧
  bQ g (s.fk aL.dI) aY a a9∧Rel a9 ((s.fk aL.dI).ok g aY a9) (s.fk aL.dI).aw ((s.fk aL.dI).aA aY) aL.val v
section
variable {P:Program} {g:G} {s:S} {af:de} {a:Act} {w:World} {o:Oper} {bR:dy} {ao:Nat} {aL:fp}
theorem fy (h:bQ g s af a w){v:Value}(fM:(execOp a.eval o).run P w = .ok (.value v) w)(hu:aL.dI=[])
 (ah:Rel w (s.ok g af w) s.aw (s.aA af) aL.val v):Fin P g s a w o aL :=
 ⟨v,w,af,.inl fM,by rw [hu];exact h,by rw [hu];exact ah⟩
theorem Dn {x:Operand}(h:bQ g s af a w)(aa:o.op = .move x∨o.op = .assign x)(ae:cT P s.E s.ax ao o bR=some aL):Fin P g s a w o aL:=by
 have:aL={val:=c8 s.E x}:=by rcases aa with aa|aa<;>simp [cT,aa] at ae<;>exact ae.symm
 subst this
 refine fy (v:=a.eval x) h ?_ rfl (h.eval x)
 rcases aa with aa|aa<;>simp [execOp,aa]
theorem Kg {c x y:Operand}(h:bQ g s af a w)(aa:o.op = .pick c x y)(ae:cT P s.E s.ax ao o bR=some aL)(bI:∀p∈aL.dq,p):Fin P g s a w o aL:=by
 have aF:=h.eval c
 simp only [cT,aa] at ae
 have key : ∀t:Bool,c8 s.E c = .b t→aL.dI=[]→aL.val=(if t then c8 s.E x else c8 s.E y)→Fin P g s a w o aL:=by
  intro t bO hu aN
  rw [bO] at aF
  have e:a.eval c = .bool t:=aF.n6
  refine fy (v:=if t then a.eval x else a.eval y) h (by simp [execOp,aa,e,asBool]) hu ?_
  rw [aN];cases t
  ·exact h.eval y
  ·exact h.eval x
 split at ae
 ·rename_i z t cl
  simp at ae;subst ae
  have e:z=t:=bI _ (by simp)
  subst e
  exact key z cl rfl rfl
 ·rename_i cl _;simp at ae;subst ae;exact key true cl rfl rfl
 ·rename_i cl _;simp at ae;subst ae;exact key false cl rfl rfl
 ·simp at ae
theorem vK (h:bQ g s af a w)(cU:s.ax ao=none){v:Value}{R:U}{c:Array Value}{cL:TypeId}(aR:R.bz = .live)
 (fM:(execOp a.eval o).run P w = .ok (.value v) (w.alloc (.cells c cL))) (hu:aL.dI=[(ao,[R])]) (hlen : ∀e∈R.es,e.length=R.sz)
 (aF : ∀(j:Nat) x,R.es.flatten[j]? = some x→ ∃v,c[j]? = some v∧gQ v=true∧Rel w (s.ok g af w) s.aw (s.aA af) x v)
 (hval : ∀(a9:World) (iS:Nat→Prop) (ji:f5) (iT:fP),ji ao 0→iT ao 0=some (R.sz,some (w.heap.size,c.size))→Rel a9 iS ji iT aL.val v):Fin P g s a w o aL:=by
 obtain ⟨aY,ad,bZ,-⟩:=h.alloc cU R aR c cL hlen aF
 have h1:(s.setRow ao [R]).aw ao 0:=by rw [jw];simp
 have I:(s.setRow ao [R]).aA aY ao 0=some (R.sz,some (w.heap.size,c.size)):=by simp [S.aA,ib,iM,aR,ad]
 exact ⟨v,_,aY,.inl fM,by rw [hu];exact bZ,by rw [hu];exact hval _ _ _ _ h1 I⟩
theorem sT {t:TypeId}{z:List ag}(cl:mg P t=some z): ∃i cJ,P.info? t=some i∧i.zero=some cJ∧z=cJ.cells.toList.map ofValue ∧
 ∀(j:Nat) x,z[j]? = some x→ ∃v,cJ.cells[j]? = some v∧gQ v=true∧ ∀(w:World) (ok:Nat→Prop) (aw:f5) (aA:fP),Rel w ok aw aA x v:=by
 unfold mg at cl
 cases an:P.info? t with
 | none=>simp [an] at cl
 | some i =>
  cases hP:i.zero with
  | none=>simp [an,hP] at cl
  | some cJ =>
   simp only [an,hP] at cl
   split at cl
   ·rename_i jZ
    simp only [Option.some.injEq] at cl
    refine ⟨i,cJ,rfl,hP,cl.symm,fun j x J=> ?_⟩
    subst cl
    rw [List.getElem?_map,Option.map_eq_some_iff] at J
    obtain ⟨v,aN,rfl⟩:=J
    refine ⟨v,by rw [← Array.getElem?_toList];exact aN,?_,fun w ok aw aA=>Cg v⟩
    exact List.all_eq_true.1 jZ v (List.mem_of_getElem? aN)
   ·simp at cl
theorem JG {t:TypeId}(h:bQ g s af a w)(cU:s.ax ao=none)(aa:o.op = .alloc t)(ae:cT P s.E s.ax ao o bR=some aL):Fin P g s a w o aL:=by
 simp only [cT,aa] at ae
 split at ae
 ·rename_i z cl
  obtain ⟨i,cJ,an,hP,e,gL⟩:=sT cl
  simp only [Option.some.injEq] at ae
  subst ae
  refine vK (v:= .pointer (some ⟨w.heap.size,0,none⟩)) (c:=cJ.cells) (cL:=t) (R:=⟨z.length,[z],.live⟩) h cU rfl ?_ rfl (by simp) ?_ ?_
  ·simp [execOp,aa,Instr.alloc,zeroValue,typeInfo,an,hP,newVar,newRow]
  ·intro j x J
   simp only [List.flatten_cons,List.flatten_nil,List.append_nil] at J
   obtain ⟨v,h1,I,aj⟩:=gL j x J
   exact ⟨v,h1,I,aj _ _ _ _⟩
  ·intro a9 iS ji iT hu bO
   have:=Rel.ref (w:=a9) (ok:=iS) (i:=0) (off:=0) hu bO
   simpa using this
 ·simp at ae
theorem KN {t:TypeId}{x:Operand}(h:bQ g s af a w)(cU:s.ax ao=none)(aa:o.op = .box t x)(ae:cT P s.E s.ax ao o bR=some aL):Fin P g s a w o aL:=by
 simp only [cT,aa] at ae
 have J:=h.eval x
 have key : ∀R:U,R.bz = .live→R.es=[(c8 s.E x).cells]→R.sz=(c8 s.E x).cells.length→((c8 s.E x).one=true∨ ∃c,c8 s.E x = .agg c) →
  aL.dI=[(ao,[R])]→aL.val = .ref ao 0 0 0→Fin P g s a w o aL:=by
  intro R aR eZ cS iB hu aN
  obtain ⟨vs,e1,au,bB,dk⟩:=J.cellsOf iB
  refine vK (v:= .pointer (some ⟨w.heap.size,0,none⟩)) (c:=(a.eval x).cells) (cL:=t) h cU aR ?_ hu ?_ ?_ ?_
  ·simp [execOp,aa,Instr.box,newVar,newRow]
  ·intro e he;rw [eZ] at he;simp at he;rw [he,cS]
  ·intro j y aG
   rw [eZ] at aG
   simp only [List.flatten_cons,List.flatten_nil,List.append_nil] at aG
   have aq:j<vs.length:=by
    rcases Nat.lt_or_ge j (c8 s.E x).cells.length with bT|bT
    ·omega
    ·rw [List.getElem?_eq_none bT] at aG;simp at aG
   refine ⟨vs[j],by rw [e1];simp [aq],bB j _ (List.getElem?_eq_getElem aq),dk j y _ aG (List.getElem?_eq_getElem aq)⟩
  ·intro a9 iS ji iT lZ bO
   have:=Rel.ref (w:=a9) (ok:=iS) (i:=0) (off:=0) lZ bO
   rw [aN];simpa using this
 split at ae
 ·rename_i c aF
  simp only [Option.some.injEq] at ae
  subst ae
  exact key _ rfl (by rw [aF];rfl) (by rw [aF];rfl) (.inr ⟨c,aF⟩) rfl rfl
 ·split at ae
  ·rename_i iB
   simp only [Option.some.injEq] at ae
   subst ae
   have e:(c8 s.E x).cells=[c8 s.E x]:=by
    generalize c8 s.E x=y at iB
    cases y<;>first|rfl|simp [ag.one] at iB
   exact key _ rfl (by rw [e]) (by rw [e];rfl) (.inl iB) rfl rfl
  ·simp at ae
theorem fz {s:S}{af:de}{r k:Nat}{R:U}(h:s.R r k=some R):s.aA af r k=some (R.sz,af r k):=by simp [S.aA,h]
theorem n0 {row:Option (List U)}{k:Nat}{R:U}{bC:List Prop}(h:kS row k bR=some (R,bC))(bI:∀p∈bC,p):b4 row k=some R:=by
 unfold kS at h
 split at h
 ·split at h
  ·simp at h;obtain ⟨rfl,rfl⟩:=h;exact bI _ (by simp)
  ·simp at h
 ·split at h
  ·rename_i bT;simp at h;obtain ⟨rfl,rfl⟩:=h;exact bT
  ·simp at h
theorem sY {es:List (List ag)}{i:Nat}{c:List ag}{bC:List Prop}(h:elemAt es i bR=some (c,bC))(bI:∀p∈bC,p):es[i]? = some c:=by
 unfold elemAt at h
 split at h
 ·simp at h;obtain ⟨rfl,rfl⟩:=h;exact bI _ (by simp)
 ·simp at h;obtain ⟨rfl,rfl⟩:=h;exact bI _ (by simp)
 ·split at h
  ·rename_i bT;simp at h;obtain ⟨rfl,rfl⟩:=h;exact bT
  ·simp at h
theorem Kh {t:TypeId}{x:Operand}(h:bQ g s af a w)(aa:o.op = .load t x)(ae:cT P s.E s.ax ao o bR=some aL)(bI:∀p∈aL.dq,p):Fin P g s a w o aL:=by
 simp only [cT,aa] at ae
 have J:=h.eval x
 split at ae
 ·rename_i r k i off eH
  rw [eH] at J
  split at ae
  ·rename_i R bC aC
   split at ae
   ·rename_i c aW jE
    split at ae
    ·rename_i v aN
     simp only [Option.some.injEq] at ae
     subst ae
     have gT:s.R r k=some R:=n0 aC fun p ad=>bI p (by simp [ad])
     have mv:=sY jE fun p ad=>bI p (by simp [ad])
     have dj:=h.obj r k R gT
     rcases J.q2 (fz gT) with h0|⟨b,m,ad,hval⟩
     ·rw [h0] at dj
      simp only [ga] at dj
      rw [dj] at mv;simp at mv
     ·rw [ad] at dj
      obtain ⟨u,h1,I⟩:=zo (P:=P) dj.rd mv aN
      refine fy (v:=u) h ?_ rfl I
      rw [Nat.zero_add] at h1
      simp [execOp,aa,hval,h1]
    ·simp at ae
   ·simp at ae
  ·simp at ae
 ·rename_i sz es i off eH
  rw [eH] at J
  split at ae
  ·rename_i c aW jE
   split at ae
   ·rename_i v aN
    simp only [Option.some.injEq] at ae
    subst ae
    have mv:=sY jE fun p ad=>bI p (by simp [ad])
    obtain ⟨cy,bh,aM,hval,ft⟩:=J.q3
    obtain ⟨u,h1,I⟩:=zo (P:=P) ft mv aN
    refine fy (v:=u) h ?_ rfl I
    simp [execOp,aa,hval,h1]
   ·simp at ae
  ·simp at ae
 ·simp at ae
end
end Go.VL
namespace Go.VL
set_option linter.unusedVariables false
set_option linter.unusedSimpArgs false
open Go
section
variable {P:Program} {g:G} {s:S} {af:de} {a:Act} {w:World} {o:Oper} {bR:dy} {ao:Nat} {aL:fp}
theorem CN (h:bQ g s af a w){r k i off:Nat}{row:List U}{R:U}{c:List ag}{t:TypeId}{x y:Operand}(aa:o.op = .store t x y)
 (eH:c8 s.E x = .ref r k i off) (cn:s.ax r=some row) (aC:s.R r k=some R) (aR:R.bz = .live) (jE:R.es[i]? = some c)
 (iB:(c8 s.E y).one=true∨ ∃c,c8 s.E y = .agg c) (cS:(c8 s.E y).cells.length=P.cellsOf t) (Am:(P.info? t).isSome=true)
 (fs:off+(c8 s.E y).cells.length≤c.length) (ae:aL.val = .dead) (hu:aL.dI=[(r,row.set k {R with es:=R.es.set i (setCells c off (c8 s.E y).cells)})]):Fin P g s a w o aL:=by
 have J:=h.eval x
 rw [eH] at J
 have dj:=h.obj r k R aC
 rcases J.q2 (fz aC) with h0|⟨b,m,ad,hval⟩
 ·rw [h0] at dj;simp only [ga] at dj;rw [dj] at jE;simp at jE
 ·obtain ⟨a9,h1,I⟩:=ID (P:=P) h cn aC aR ad jE Am (h.eval y) iB cS fs
  refine ⟨undef,a9,af,.inr ⟨?_,rfl⟩,by rw [hu];exact I,by rw [ae];exact .dead _⟩
  simp [execOp,aa,hval,h1]
theorem JH {t:TypeId}{x y:Operand}(h:bQ g s af a w)(aa:o.op = .store t x y)(ae:cT P s.E s.ax ao o bR=some aL)(bI:∀p∈aL.dq,p):Fin P g s a w o aL:=by
 simp only [cT,aa] at ae
 split at ae
 ·rename_i r k i off eH
  split at ae
  ·simp at ae
  ·rename_i row cn
   split at ae
   ·rename_i R bC LP
    split at ae
    ·simp at ae
    ·rename_i aR
     have aR:R.bz = .live:=by simpa using aR
     split at ae
     ·simp at ae
     ·rename_i iB
      have iB:=ag.Ch (by simpa using iB)
      split at ae
      ·simp at ae
      ·rename_i cS
       simp only [not_or,Decidable.not_not,Bool.not_eq_false] at cS
       have gT:(∀p∈bC,p)→s.R r k=some R:=fun bY=>by
        have:=n0 LP bY
        unfold S.R;rw [cn];exact this
       split at ae
       ·split at ae
        ·rename_i rm
         simp only [Option.some.injEq] at ae
         subst ae;subst rm
         have cx:i<R.es.length:=bI _ (by simp)
         have fO:(c8 s.E y).cells.length=R.sz:=bI _ (by simp)
         have tC:=gT fun p ad=>bI p (by simp [ad])
         have hlen:(R.es[i]).length=R.sz:=by
          have dj:=h.obj r k R tC
          cases ad:af r k with
          | none=>rw [ad] at dj;simp only [ga] at dj;rw [dj] at cx;simp at cx
          | some q =>
           rw [ad] at dj
           obtain ⟨_,_,_,_,aj,_⟩:=dj
           exact aj _ (List.getElem_mem cx)
         refine CN h aa eH cn tC aR (c:=R.es[i]) (List.getElem?_eq_getElem cx) iB cS.1 cS.2 (by omega) rfl ?_
         have e:setCells R.es[i] 0 (c8 s.E y).cells=(c8 s.E y).cells:=by
          simp [setCells,hlen,fO]
         rw [e]
        ·simp at ae
       ·split at ae
        ·rename_i c aW jE
         split at ae
         ·rename_i fs
          simp only [Option.some.injEq] at ae
          subst ae
          exact CN h aa eH cn (gT fun p ad=>bI p (by simp [ad])) aR (sY jE fun p ad=>bI p (by simp [ad])) iB cS.1 cS.2 fs rfl rfl
         ·simp at ae
        ·simp at ae
   ·simp at ae
 ·simp at ae
theorem IE {x:Operand}(h:bQ g s af a w)(aa:o.op = .nilCheck x)(ae:cT P s.E s.ax ao o bR=some aL)(bI:∀p∈aL.dq,p):Fin P g s a w o aL:=by
 simp only [cT,aa] at ae
 have J:=h.eval x
 split at ae
 ·rename_i r k i off eH
  rw [eH] at J
  split at ae
  ·rename_i R bC aC
   split at ae
   ·rename_i c aW jE
    simp only [Option.some.injEq] at ae
    subst ae
    have gT:s.R r k=some R:=n0 aC fun p ad=>bI p (by simp [ad])
    have mv:=sY jE fun p ad=>bI p (by simp [ad])
    have dj:=h.obj r k R gT
    rcases J.q2 (fz gT) with h0|⟨b,m,ad,hval⟩
    ·rw [h0] at dj;simp only [ga] at dj;rw [dj] at mv;simp at mv
    ·refine fy (v:=a.eval x) h ?_ rfl J
     simp [execOp,aa,hval]
   ·simp at ae
  ·simp at ae
 ·rename_i sz es i off eH
  rw [eH] at J
  simp only [Option.some.injEq] at ae
  subst ae
  obtain ⟨cy,bh,aM,hval,ft⟩:=J.q3
  refine fy (v:=a.eval x) h ?_ rfl J
  simp [execOp,aa,hval]
 ·rename_i f c eH
  rw [eH] at J
  simp only [Option.some.injEq] at ae
  subst ae
  obtain ⟨vs,hval,-⟩:=J.vS
  refine fy (v:=a.eval x) h ?_ rfl J
  simp [execOp,aa,hval]
 ·simp at ae
theorem Jn {op:BinOp}{t:TypeId}{x y z:ag}{R:List Prop}(ae:z5 op x y=some (z,R))(bI:∀p∈R,p)
 {ok:Nat→Prop} {aw:f5} {aA:fP} {hQ hR:Value} (J:Rel w ok aw aA x hQ) (aG:Rel w ok aw aA y hR) (p q:Operand) :
 ∃v,((do eqGuard op t p q hQ hR;binOp op t hQ hR):Sem Value).run P w = .ok v w∧Rel w ok aw aA z v:=by
 unfold z5 at ae
 split at ae
 ·rename_i k n b9 jK
  have fJ:=J.k5;have f6:=aG.k5
  subst fJ;subst f6
  have c1 : ∀op,eqGuard op t p q (.int k n) (.int b9 jK)=pure ():=fun op=>eqGuard_at_int ..
  simp only [Sem.run_bind,c1,Sem.run_pure,Result.andThen_ok]
  split at ae
  ·simp only [Option.some.injEq,Prod.mk.injEq] at ae
   obtain ⟨rfl,rfl⟩:=ae
   have h0:0≤jK:=bI _ (by simp)
   exact ⟨_,by simp [binOp,Op.shift,show ¬jK<0 by omega],.n _ _⟩
  ·simp only [Option.some.injEq,Prod.mk.injEq] at ae
   obtain ⟨rfl,rfl⟩:=ae
   have h0:0≤jK:=bI _ (by simp)
   exact ⟨_,by simp [binOp,Op.shift,show ¬jK<0 by omega],.n _ _⟩
  ·split at ae
   ·simp at ae
   ·rename_i aR
    have aR:k=b9:=by simpa using aR
    subst aR
    split at ae<;>simp only [Option.some.injEq,Prod.mk.injEq,reduceCtorEq] at ae
    all_goals (obtain ⟨rfl,rfl⟩:=ae)
    case h_4|h_5 =>
     have h0:jK≠0:=bI _ (by simp)
     exact ⟨_,by simp [binOp,Op.intDiv,h0],.n _ _⟩
    all_goals first
     | (refine ⟨_,?_,.n _ _⟩;rw [binOp_add];rfl)
     | (refine ⟨_,?_,.n _ _⟩;rw [binOp_sub];rfl)
     | (refine ⟨_,?_,.n _ _⟩;rw [binOp_mul];rfl)
     | (refine ⟨_,?_,.n _ _⟩;rw [binOp_and];rfl)
     | (refine ⟨_,?_,.n _ _⟩;rw [binOp_or];rfl)
     | (refine ⟨_,?_,.n _ _⟩;rw [binOp_xor];rfl)
     | (refine ⟨_,?_,.b _⟩;simp [binOp,Op.intCmp];done)
 ·rename_i bP jJ
  have fJ:=J.re;have f6:=aG.re
  subst fJ;subst f6
  have c1 : ∀op,eqGuard op t p q (.string bP) (.string jJ)=pure ():=fun op=>eqGuard_at_string ..
  simp only [Sem.run_bind,c1,Sem.run_pure,Result.andThen_ok]
  split at ae<;>simp only [Option.some.injEq,Prod.mk.injEq,reduceCtorEq] at ae
  all_goals (obtain ⟨rfl,rfl⟩:=ae)
  ·have h0:bP.size+jJ.size<9223372036854775808:=bI _ (by simp)
   refine ⟨_,?_,.s _⟩
   have h1 : ¬((bP.size+jJ.size:Nat):Int)>IntKind.i64.max:=by rw [IntKind.max_i64];omega
   rw [IntKind.max_i64] at h1
   simp [binOp,Op.stringOp]
   omega
  ·exact ⟨_,by simp [binOp,Op.stringOp],.b _⟩
  ·exact ⟨_,by simp [binOp,Op.stringOp],.b _⟩
 ·simp at ae
theorem oS (t:TypeId)(x y:Value):Op.equal t x y=Op.equalIn (9999+1) t x y:=rfl
theorem sF {t:TypeId}{a b:Bool}(d:Nat)(bd:P.underlying t=some .bool):(Op.equalIn (d+1) t (.bool a) (.bool b)).run P w = .ok (a == b) w:=by
 unfold Op.equalIn;simp [run_underlying bd]
theorem sU {t e:TypeId}(d:Nat)(bd:P.underlying t=some (.pointer e)):(Op.equalIn (d+1) t (.pointer none) (.pointer none)).run P w = .ok true w:=by
 unfold Op.equalIn;simp [run_underlying bd]
theorem sV {t e:TypeId}{a:Addr}(d:Nat)(bd:P.underlying t=some (.pointer e)):(Op.equalIn (d+1) t (.pointer (some a)) (.pointer none)).run P w = .ok false w:=by
 unfold Op.equalIn;simp [run_underlying bd]
theorem sW {t e:TypeId}{a:Addr}(d:Nat)(bd:P.underlying t=some (.pointer e)):(Op.equalIn (d+1) t (.pointer none) (.pointer (some a))).run P w = .ok false w:=by
 unfold Op.equalIn;simp [run_underlying bd]
theorem sX {t e:TypeId}(d:Nat)(bd:P.underlying t=some (.slice e)):(Op.equalIn (d+1) t (.slice none 0 0) (.slice none 0 0)).run P w = .ok true w:=by
 unfold Op.equalIn;simp [run_underlying bd]
theorem Cs {t e:TypeId}{a:Addr}{c:Nat}(d:Nat)(bd:P.underlying t=some (.slice e))(n:Nat):(Op.equalIn (d+1) t (.slice (some a) n c) (.slice none 0 0)).run P w = .ok false w:=by
 unfold Op.equalIn;simp [run_underlying bd]
theorem qX {t:TypeId}{x y:ag}{r:Bool}(ae:m1 P t x y=some r)
 {ok:Nat→Prop} {aw:f5} {aA:fP} {hQ hR:Value} (J:Rel w ok aw aA x hQ) (aG:Rel w ok aw aA y hR) (p q:Operand) :
 ((do eqGuard .eql t p q hQ hR;binOp .eql t hQ hR):Sem Value).run P w = .ok (.bool r) w ∧
 ((do eqGuard .neq t p q hQ hR;binOp .neq t hQ hR):Sem Value).run P w = .ok (.bool !r) w:=by
 have key : ∀b:Bool,(∀op,eqGuard op t p q hQ hR=pure ())→binOp .eql t hQ hR=(do pure (.bool (← Op.equal t hQ hR)))→binOp .neq t hQ hR=(do pure (.bool (!(← Op.equal t hQ hR)))) →
  (Op.equal t hQ hR).run P w = .ok b w→((do eqGuard .eql t p q hQ hR;binOp .eql t hQ hR):Sem Value).run P w = .ok (.bool b) w ∧
  ((do eqGuard .neq t p q hQ hR;binOp .neq t hQ hR):Sem Value).run P w = .ok (.bool !b) w:=by
  intro b c1 h1 I aj
  constructor
  ·rw [c1,h1];simp [aj]
  ·rw [c1,I];simp [aj]
 unfold m1 at ae
 split at ae
 ·rename_i bP jJ bd
  simp only [Option.some.injEq] at ae;subst ae
  have fJ:=J.n6;have f6:=aG.n6
  subst fJ;subst f6
  exact key _ (fun op=>eqGuard_at_bool ..) rfl rfl (by rw [oS];first|exact sF _ bd|exact sU _ bd|exact sV _ bd|exact sW _ bd|exact sX _ bd)
 ·rename_i e bd
  simp only [Option.some.injEq] at ae;subst ae
  have fJ:=J.oX;have f6:=aG.oX
  subst fJ;subst f6
  exact key _ (fun op=>eqGuard_at_pointer ..) rfl rfl (by rw [oS];first|exact sF _ bd|exact sU _ bd|exact sV _ bd|exact sW _ bd|exact sX _ bd)
 ·rename_i e sz es i off bd
  simp only [Option.some.injEq] at ae;subst ae
  obtain ⟨cy,bh,-,fJ,-⟩:=J.q3
  have f6:=aG.oX
  subst fJ;subst f6
  exact key _ (fun op=>eqGuard_at_pointer ..) rfl rfl (by rw [oS];first|exact sF _ bd|exact sU _ bd|exact sV _ bd|exact sW _ bd|exact sX _ bd)
 ·rename_i e sz es i off bd
  simp only [Option.some.injEq] at ae;subst ae
  obtain ⟨cy,bh,-,f6,-⟩:=aG.q3
  have fJ:=J.oX
  subst fJ;subst f6
  exact key _ (fun op=>eqGuard_at_pointer ..) rfl rfl (by rw [oS];first|exact sF _ bd|exact sU _ bd|exact sV _ bd|exact sW _ bd|exact sX _ bd)
 ·rename_i e bd
  simp only [Option.some.injEq] at ae;subst ae
  have fJ:=J.lj;have f6:=aG.lj
  subst fJ;subst f6
  exact key _ (fun op=>eqGuard_at_slice ..) rfl rfl (by rw [oS];first|exact sF _ bd|exact sU _ bd|exact sV _ bd|exact sW _ bd|exact sX _ bd)
 ·rename_i e bd
  simp only [Option.some.injEq] at ae;subst ae
  obtain ⟨pI,c,fJ⟩:=J.vJ
  have f6:=aG.lj
  subst fJ;subst f6
  exact key _ (fun op=>eqGuard_at_slice ..) rfl rfl (by rw [oS];exact Cs _ bd 0)
 ·simp at ae
theorem DH {t e:TypeId}(bd:P.underlying t=some (.slice e)){sz:Nat}{es:List (List ag)}(b7:es≠[])
 {ok:Nat→Prop} {aw:f5} {aA:fP} {hQ hR:Value} (J:Rel w ok aw aA (.isl sz es) hQ) (aG:Rel w ok aw aA .cg hR) (p q:Operand) :
 ((do eqGuard .eql t p q hQ hR;binOp .eql t hQ hR):Sem Value).run P w = .ok (.bool false) w ∧
 ((do eqGuard .neq t p q hQ hR;binOp .neq t hQ hR):Sem Value).run P w = .ok (.bool true) w:=by
 rcases J.nj with ⟨h0,-⟩|⟨cy,off,c,-,fJ,-⟩
 ·exact absurd h0 b7
 ·have f6:=aG.lj
  subst fJ;subst f6
  have aj:(Op.equal t (.slice (some ⟨cy,off,none⟩) es.length c) (.slice none 0 0)).run P w = .ok false w:=by rw [oS];exact Cs _ bd _
  have c1 : ∀op,eqGuard op t p q (.slice (some ⟨cy,off,none⟩) es.length c) (.slice none 0 0)=pure ():=fun op=>eqGuard_at_slice ..
  have h1:binOp .eql t (.slice (some ⟨cy,off,none⟩) es.length c) (.slice none 0 0)=(do pure (.bool (← Op.equal t (.slice (some ⟨cy,off,none⟩) es.length c) (.slice none 0 0)))):=rfl
  have I:binOp .neq t (.slice (some ⟨cy,off,none⟩) es.length c) (.slice none 0 0)=(do pure (.bool (!(← Op.equal t (.slice (some ⟨cy,off,none⟩) es.length c) (.slice none 0 0))))):=rfl
  constructor
  ·rw [c1,h1];simp [aj]
  ·rw [c1,I];simp [aj]
theorem JI {op:BinOp}{t c2:TypeId}{x y:Operand}(h:bQ g s af a w)(aa:o.op = .binOp op t x y c2)(ae:cT P s.E s.ax ao o bR=some aL)(bI:∀p∈aL.dq,p):Fin P g s a w o aL:=by
 simp only [cT,aa] at ae
 have J:=h.eval x
 have aG:=h.eval y
 split at ae
 ·rename_i v R aM
  simp only [Option.some.injEq] at ae
  subst ae
  obtain ⟨u,h1,I⟩:=Jn (P:=P) (t:=t) aM bI J aG x y
  refine fy (v:=u) h ?_ rfl I
  simp only [execOp,aa]
  rw [Sem.run_bind,h1];rfl
 ·split at ae
  ·cases he:m1 P t (c8 s.E x) (c8 s.E y) with
   | none=>simp [he] at ae
   | some r =>
    simp [he] at ae;subst ae
    refine fy (v:= .bool r) h ?_ rfl (.b r)
    simp only [execOp,aa]
    rw [Sem.run_bind,(qX (w:=w) he J aG x y).1];rfl
  ·cases he:m1 P t (c8 s.E x) (c8 s.E y) with
   | none=>simp [he] at ae
   | some r =>
    simp [he] at ae;subst ae
    refine fy (v:= .bool !r) h ?_ rfl (.b _)
    simp only [execOp,aa]
    rw [Sem.run_bind,(qX (w:=w) he J aG x y).2];rfl
  ·simp at ae
theorem Ki {op:UnOp}{t:TypeId}{x:Operand}(h:bQ g s af a w)(aa:o.op = .unOp op t x)(ae:cT P s.E s.ax ao o bR=some aL):Fin P g s a w o aL:=by
 simp only [cT,aa] at ae
 have J:=h.eval x
 cases he:Ai op (c8 s.E x) with
 | none=>simp [he] at ae
 | some v =>
  simp [he] at ae;subst ae
  unfold Ai at he
  split at he
  ·rename_i k n eH
   rw [eH] at J
   simp only [Option.some.injEq] at he;subst he
   refine fy (v:= .int k (k.wrap (0-n))) h ?_ rfl (.n _ _)
   simp [execOp,aa,J.k5,Op.unary,Op.intArith]
  ·rename_i b eH
   rw [eH] at J
   simp only [Option.some.injEq] at he;subst he
   refine fy (v:= .bool !b) h ?_ rfl (.b _)
   simp [execOp,aa,J.n6,Op.unary]
  ·simp at he
theorem IX {t c2:TypeId}{x:Operand}(h:bQ g s af a w)(aa:o.op = .convert t c2 x)(ae:cT P s.E s.ax ao o bR=some aL):Fin P g s a w o aL:=by
 simp only [cT,aa] at ae
 have J:=h.eval x
 split at ae
 ·rename_i k b9 n bd eH
  rw [eH] at J
  split at ae
  case isFalse=>simp at ae
  rename_i bZ
  simp only [Option.some.injEq] at ae
  subst ae
  refine fy (v:= .int k (k.wrap n)) h ?_ rfl (.n _ _)
  cases Et:P.underlying t with
  | none=>simp [Et] at bZ
  | some d=>simp [execOp,aa,J.k5,convert,run_underlying bd,run_underlying Et,Conv.intToInt]
 ·rename_i r k bV len bd eH
  rw [eH] at J
  split at ae
  ·rename_i R wb aC
   split at ae
   ·rename_i jI An
    split at ae
    ·rename_i aF
     simp only [Option.some.injEq] at ae
     subst ae
     obtain ⟨e,bZ,he⟩ : ∃e,P.underlying t=some (.slice e)∧P.underlying e=some (.int .u8):=by
      unfold lq at wb
      split at wb
      ·rename_i e bZ;exact ⟨e,bZ,wb⟩
      ·simp at wb
     have cw:s.R r k=some R:=aC
     have dj:=h.obj r k R cw
     have hzero : ∀(j9:Option Addr) (c:Nat),len=0→(convert t c2 (.slice j9 0 c)).run P w = .ok (.string (mZ jI)) w:=by
      intro j9 c h0
      subst h0
      have:jI=[]:=by simpa [bytesOf] using An
      subst this
      cases j9 with
      | none=>rw [run_convert_bytes_string w t c2 e none 0 c bZ he bd];simp [Conv.bytesToString,mZ]
      | some j9 =>
       rw [run_convert_bytes_string w t c2 e (some j9) 0 c bZ he bd,run_bytesToString w j9 0 c [] (by
        have:=run_loadCells_list (P:=P) w j9 [] (fun j v aq=>by simp at aq)
        simpa using this)]
       rfl
     rcases J.s9 (fz cw) with ⟨ad,rfl,rfl,hval⟩|⟨b,m,A,c,ad,hval,my,nE,hm⟩
     ·refine fy (v:= .string (mZ jI)) h ?_ rfl (.s _)
      simp [execOp,aa,hval,hzero none 0 rfl]
     ·refine fy (v:= .string (mZ jI)) h ?_ rfl (.s _)
      by_cases h0:len=0
      ·subst h0;simp [execOp,aa,hval,hzero A c rfl]
      ·rcases hm with hm|⟨hA,hm⟩
       ·omega
       ·subst hA
        rw [ad] at dj
        have ft:=dj.rd
        have wq : ∀(es:List (List ag)) (jI:List Int),bytesOf es=some jI→es.length=jI.length∧ ∀(i:Nat) n,jI[i]? = some n→es[i]? = some [.n .u8 n]:=by
         intro es
         induction es with
         | nil=>intro jI h;simp [bytesOf] at h;subst h;exact ⟨rfl,fun i n an=>by simp at an⟩
         | cons x es ih =>
          intro jI h
          unfold bytesOf at h
          split at h
          ·simp at *
          ·rename_i ma Pb wt
           simp only [List.cons.injEq] at wt
           obtain ⟨rfl,rfl⟩:=wt
           rw [Option.map_eq_some_iff] at h
           obtain ⟨dL,wu,rfl⟩:=h
           obtain ⟨e1,au⟩:=ih dL wu
           refine ⟨by simp [e1],fun i n an=> ?_⟩
           cases i with
           | zero=>simp at an;subst an;rfl
           | succ i=>simpa using au i n (by simpa using an)
          ·simp at h
        obtain ⟨e1,au⟩:=wq _ _ An
        have hlen:jI.length=len:=by rw [← e1];simp;omega
        have zX:(loadCells ⟨b,bV*R.sz,none⟩ len).run P w = .ok (jI.map (Value.int .u8)).toArray w:=by
         have:=run_loadCells_list (P:=P) w ⟨b,bV*R.sz,none⟩ (jI.map (Value.int .u8)) (fun j v aq=>by
          rw [List.getElem?_map,Option.map_eq_some_iff] at aq
          obtain ⟨n,a5,rfl⟩:=aq
          have jD:=au j n a5
          have pr:j<len:=by rw [← hlen];exact (List.getElem?_eq_some_iff.1 a5).1
          rw [List.getElem?_take_of_lt pr,List.getElem?_drop] at jD
          obtain ⟨v,v1,v2,v3⟩:=ft.2 ((bV+j)*R.sz+0) (.n .u8 n) (by rw [sS ft.1 jD (by omega)];rfl)
          have aN:=v3.k5
          subst aN
          rw [mR,← v1,aF.2]
          congr 2
          omega)
         rw [List.length_map,hlen] at this
         exact this
        have I:=run_bytesToString w ⟨b,bV*R.sz,none⟩ len c jI zX
        rw [← run_convert_bytes_string w t c2 e _ len c bZ he bd] at I
        simp [execOp,aa,hval,I,mZ]
    ·simp at ae
   ·simp at ae
  ·simp at ae
 ·simp at ae
theorem IF {f:Fn}{wW bt:Array Operand}(h:bQ g s af a w)(aa:o.op = .makeFunc f wW bt)(ae:cT P s.E s.ax ao o bR=some aL):Fin P g s a w o aL:=by
 cases f with
 | func n =>
  simp only [cT,aa] at ae
  split at ae
  ·rename_i Mi
   simp only [Option.some.injEq] at ae;subst ae
   refine fy (v:= .func (.func n) #[] (bt.map a.eval)) h ?_ rfl ?_
   ·have:wW = #[]:=by simpa using Mi
    subst this
    simp [execOp,aa,Instr.makeFunc]
   ·have:=Rel.fn (f:=n) (c:=bt.toList.map (c8 s.E)) (w:=w) (ok:=s.ok g af w) (aw:=s.aw) (aA:=s.aA af) (bt.toList.map a.eval) (by simp) (by
     intro j x v J aN
     rw [List.getElem?_map,Option.map_eq_some_iff] at J aN
     obtain ⟨p,ad,rfl⟩:=J
     obtain ⟨q,aE,rfl⟩:=aN
     rw [ad] at aE;simp at aE;subst aE
     exact h.eval p)
    have e:(bt.toList.map a.eval).toArray=bt.map a.eval:=by apply Array.ext';rw [Array.toList_map]
    rw [e] at this
    exact this
  ·simp at ae
 | _=>simp [cT,aa] at ae
theorem IY {i:Nat}{x:Operand}(h:bQ g s af a w)(aa:o.op = .extract x i)(ae:cT P s.E s.ax ao o bR=some aL):Fin P g s a w o aL:=by
 simp only [cT,aa] at ae
 have J:=h.eval x
 split at ae
 ·rename_i vs eH
  rw [eH] at J
  cases an:vs[i]? with
  | none=>simp [an] at ae
  | some v =>
   simp [an] at ae;subst ae
   obtain ⟨aw,hval,av,ah⟩:=J.qZ
   have cx:i<aw.length:=by
    rcases Nat.lt_or_ge i vs.length with bT|bT
    ·omega
    ·rw [List.getElem?_eq_none bT] at an;simp at an
   have hu:aw[i]? = some aw[i]:=List.getElem?_eq_getElem cx
   refine fy (v:=aw[i]) h ?_ rfl (ah i v _ an hu)
   simp [execOp,aa,hval,Instr.extract,hu]
 ·simp at ae
end
end Go.VL
namespace Go.VL
set_option linter.unusedVariables false
set_option linter.unusedSimpArgs false
open Go
section
variable {P:Program} {g:G} {s:S} {af:de} {a:Act} {w:World} {o:Oper} {bR:dy} {ao:Nat} {aL:fp}
theorem mS {t e:TypeId}(h:lq P t=some e):P.underlying t=some (.slice e):=by
 unfold lq at h
 split at h
 ·rename_i cN he;simp at h;subst h;exact he
 ·simp at h
theorem zh {t:TypeId}{hy:Array Field}(h:fieldsOf P t=some hy):P.underlying t=some (.struct hy):=by
 unfold fieldsOf at h
 split at h
 ·rename_i cN he;simp at h;subst h;exact he
 ·simp at h
theorem Cb : ∀(z c:List ag),(mn z c).length=z.length
 | x::z,y::c=>by simp [mn,Cb z c]
 | [],_=>by simp [mn]
 | _::_,[]=>by simp [mn]
theorem Ir (z:List ag)(bR:dy):(nq z bR).length=z.length:=by
 unfold nq
 split
 ·exact Cb z _
 ·rfl
theorem IZ (x y:ag){w:World}{ok:Nat→Prop}{aw:f5}{aA:fP}{v:Value}(h:Rel w ok aw aA x v):Rel w ok aw aA (th x y) v:=by
 unfold th
 split
 ·rw [h.lj];exact .gb _ _ _ (fun _=>rfl)
 ·rw [h.oX];exact .k6 _
 ·rw [h.lj];exact .jf (.gb _ _ _ (fun _=>rfl))
 ·exact h
theorem CO : ∀(z c:List ag) (j:Nat) q,(mn z c)[j]? = some q→ ∃x,z[j]? = some x∧(q=x∨ ∃y,q=th x y)
 | x::z,y::c,0,q,h=>by simp [mn] at h;exact ⟨x,rfl,.inr ⟨y,h.symm⟩⟩
 | x::z,y::c,j+1,q,h=>by
  simp only [mn,List.getElem?_cons_succ] at h
  simpa using CO z c j q h
 | [],c,j,q,h=>by simp [mn] at h
 | x::z,[],j,q,h=>⟨q,by simpa [mn] using h,.inl rfl⟩
theorem JJ (z:List ag)(bR:dy)(j:Nat)(q:ag)(h:(nq z bR)[j]? = some q): ∃x,z[j]? = some x∧(q=x∨ ∃y,q=th x y):=by
 unfold nq at h
 split at h
 ·exact CO z _ j q h
 ·exact ⟨q,h,.inl rfl⟩
theorem Is {t:TypeId}{x y:Operand}(h:bQ g s af a w)(cU:s.ax ao=none)(aa:o.op = .makeSlice t x y)(ae:cT P s.E s.ax ao o bR=some aL)(bI:∀p∈aL.dq,p):Fin P g s a w o aL:=by
 simp only [cT,aa] at ae
 have J:=h.eval x
 have aG:=h.eval y
 split at ae
 ·rename_i e iH l hd c he LQ LR
  rw [LQ] at J;rw [LR] at aG
  split at ae
  ·rename_i i z an cl
   obtain ⟨gw,cJ,gW,hP,pJ,DI⟩:=sT cl
   rw [an] at gW;simp at gW;subst gW
   simp only [Option.ite_none_right_eq_some,Option.some.injEq] at ae
   obtain ⟨cS,ae⟩:=ae
   subst ae
   have jE:=Ir z bR
   have gL : ∀(j:Nat) q,(nq z bR)[j]? = some q→ ∃v,cJ.cells[j]? = some v∧VL.gQ v=true∧ ∀w ok aw aA,Rel w ok aw aA q v:=by
    intro j q aE
    obtain ⟨x,cp,wv⟩:=JJ z bR j q aE
    obtain ⟨v,v1,v2,v3⟩:=DI j x cp
    refine ⟨v,v1,v2,fun w ok aw aA=> ?_⟩
    rcases wv with rfl|⟨y,rfl⟩
    ·exact v3 w ok aw aA
    ·exact IZ x y (v3 w ok aw aA)
   clear DI
   have h0:0≤l:=bI _ (by simp)
   have h1:l≤c:=bI _ (by simp)
   have I:(i.bytes:Int)*c≤281474976710656:=bI _ (by simp)
   have aj:c<9223372036854775808:=bI _ (by simp)
   have jF:z.length=cJ.cells.size:=by rw [pJ];simp
   have fM:=run_make (P:=P) w t e i cJ (mS he) an hP iH hd l c h0 h1 I (by omega)
   refine vK (v:= .slice (some ⟨w.heap.size,0,none⟩) l.toNat c.toNat) (R:=⟨z.length,List.replicate l.toNat (nq z bR),.live⟩) (c:=madeCells cJ.cells (c.toNat*i.size)) (cL:=e) h cU rfl ?_ rfl ?_ ?_ ?_
   ·simp [execOp,aa,J.k5,aG.k5,fM]
   ·intro cN iD;rw [List.eq_of_mem_replicate iD];exact jE
   ·intro j q aE
    have av : ∀cN∈List.replicate l.toNat (nq z bR),cN.length=z.length:=fun cN iD=>by rw [List.eq_of_mem_replicate iD];exact jE
    rcases Nat.eq_zero_or_pos z.length with oc|wx
    ·have:nq z bR=[]:=List.length_eq_zero_iff.1 (by omega)
     rw [this] at aE
     simp at aE
    ·rw [k2 wx _ av,List.getElem?_replicate] at aE
     by_cases aq:j / z.length<l.toNat
     ·rw [if_pos aq] at aE
      simp only [Option.bind_some] at aE
      obtain ⟨v,e1,au,bB⟩:=gL _ _ aE
      refine ⟨v,?_,au,bB _ _ _ _⟩
      have cx:j<c.toNat*i.size:=by
       rw [← cS]
       have:j<l.toNat*z.length:=(Nat.div_lt_iff_lt_mul wx).1 aq
       exact Nat.lt_of_lt_of_le this (Nat.mul_le_mul_right _ (by omega))
      simp only [madeCells]
      rw [Array.getElem?_map,Array.getElem?_range]
      simp only [cx,if_true,Option.map_some]
      rw [jF] at e1
      have hm:j % cJ.cells.size<cJ.cells.size:=Nat.mod_lt _ (by omega)
      rw [Array.getElem?_eq_getElem hm] at e1
      rw [getElem!_pos cJ.cells _ hm];exact e1
     ·rw [if_neg aq] at aE;simp at aE
   ·intro a9 iS ji iT hu bO
    refine Rel.a6 hu bO (by omega) (by omega) ⟨?_,.inr (by simp)⟩
    rw [size_madeCells]
    simp only [Nat.zero_add,cS]
  ·simp at ae
 ·simp at ae
theorem It {t:TypeId}{x:Operand}{f:Nat}(h:bQ g s af a w)(aa:o.op = .fieldAddr t x f)(ae:cT P s.E s.ax ao o bR=some aL)(bI:∀p∈aL.dq,p):Fin P g s a w o aL:=by
 simp only [cT,aa] at ae
 have J:=h.eval x
 split at ae
 ·rename_i hy tZ
  split at ae
  ·rename_i fd od
   split at ae
   ·simp at ae
   ·rename_i Eu
    have an:(P.info? fd.type).isSome=true:=by
     cases an:P.info? fd.type with
     | none=>simp [Program.cellsOf,an] at Eu
     | some i=>rfl
    have fM : ∀A:Addr,A.spot=none→(Instr.fieldAt t (.pointer (some A)) f).run P w = .ok (.pointer (some ⟨A.block,A.off+fd.offset,none⟩)) w:=by
     intro A hA
     have e:A.add fd.offset=⟨A.block,A.off+fd.offset,none⟩:=by
      obtain ⟨b,o,sp⟩:=A
      simp only at hA;subst hA
      exact mR b o _
     simp [Instr.fieldAt,run_underlying (zh tZ),od,Instr.sureAddr,fieldPlace,oO an,Eu,e]
    split at ae
    ·rename_i r k i off eH
     rw [eH] at J
     split at ae
     ·rename_i R bC aC
      split at ae
      ·rename_i c aW jE
       simp only [Option.some.injEq] at ae;subst ae
       have gT:s.R r k=some R:=n0 aC fun p ad=>bI p (by simp [ad])
       have mv:=sY jE fun p ad=>bI p (by simp [ad])
       have dj:=h.obj r k R gT
       rcases J.q2 (fz gT) with h0|⟨b,m,ad,hval⟩
       ·rw [h0] at dj;simp only [ga] at dj;rw [dj] at mv;simp at mv
       ·refine fy (v:= .pointer (some ⟨b,i*R.sz+(off+fd.offset),none⟩)) h ?_ rfl ?_
        ·simp [execOp,aa,hval,fM,Nat.add_assoc]
        ·exact J.Jm ((fz gT).trans (by rw [ad])) _
      ·simp at ae
     ·simp at ae
    ·rename_i sz es i off eH
     rw [eH] at J
     simp only [Option.some.injEq] at ae;subst ae
     obtain ⟨cy,bh,aM,hval,ft⟩:=J.q3
     refine fy (v:= .pointer (some ⟨cy,bh+(i*sz+(off+fd.offset)),none⟩)) h ?_ rfl (ft.da aM)
     simp [execOp,aa,hval,fM,Nat.add_assoc]
    ·simp at ae
  ·simp at ae
 ·simp at ae
theorem Iu {t:TypeId}{x y:Operand}(h:bQ g s af a w)(aa:o.op = .indexAddr t x y)(ae:cT P s.E s.ax ao o bR=some aL)(bI:∀p∈aL.dq,p):Fin P g s a w o aL:=by
 simp only [cT,aa] at ae
 have J:=h.eval x
 have aG:=h.eval y
 split at ae
 ·rename_i e k j he eH
  rw [eH] at aG
  have hu:=mS he
  have fM : ∀(b o len cap:Nat),0≤j→j<len→(P.info? e).isSome=true →
   (Instr.indexAt t (.slice (some ⟨b,o,none⟩) len cap) (.int k j)).run P w = .ok (.pointer (some ⟨b,o+j.toNat*P.cellsOf e,none⟩)) w:=by
   intro b o len cap h0 h1 an
   have cN:=mR b o (j.toNat*P.cellsOf e)
   simp [Instr.indexAt,asIntOf,run_underlying hu,h0,h1,oO an,cN]
  have pa : ∀sz,sz=P.cellsOf e→sz≠0→(P.info? e).isSome=true:=by
   intro sz bZ cl
   cases an:P.info? e with
   | none=>simp [Program.cellsOf,an] at bZ;exact absurd bZ cl
   | some i=>rfl
  split at ae
  ·rename_i sz es tD
   rw [tD] at J
   simp only [Option.ite_none_right_eq_some,Option.some.injEq] at ae
   obtain ⟨⟨bZ,cl⟩,ae⟩:=ae
   subst ae
   have h0:0≤j:=bI _ (by simp)
   have h1:j<es.length:=bI _ (by simp)
   rcases J.nj with ⟨t0,-⟩|⟨cy,off,c,aM,hval,aF,ft⟩
   ·subst t0;simp at h1;omega
   ·refine fy (v:= .pointer (some ⟨cy,off+(j.toNat*sz+0),none⟩)) h ?_ rfl (ft.da aM)
    simp [execOp,aa,hval,aG.k5,fM _ _ _ _ h0 h1 (pa sz bZ cl),bZ]
  ·rename_i r q bV len tD
   rw [tD] at J
   split at ae
   ·rename_i row cn
    split at ae
    ·rename_i R bC aC
     simp only [Option.ite_none_right_eq_some,Option.some.injEq] at ae
     obtain ⟨⟨bZ,cl⟩,ae⟩:=ae
     subst ae
     have gT:s.R r q=some R:=by
      unfold S.R;rw [cn];exact n0 aC fun p ad=>bI p (by simp [ad])
     have h0:0≤j:=bI _ (by simp)
     have h1:j<len:=bI _ (by simp)
     rcases J.s9 (fz gT) with ⟨-,-,I,-⟩|⟨b,m,A,c,ad,hval,av,-,hm⟩
     ·subst I;simp at h1;omega
     ·rcases hm with hm|⟨hA,hm⟩
      ·omega
      ·subst hA
       have gf:=vx gT
       refine fy (v:= .pointer (some ⟨b,(bV+j.toNat)*R.sz+0,none⟩)) h ?_ rfl (.ref gf ((fz gT).trans (by rw [ad])))
       simp [execOp,aa,hval,aG.k5,fM _ _ _ _ h0 h1 (pa _ bZ cl),bZ,Nat.add_mul]
    ·simp at ae
   ·simp at ae
  ·simp at ae
 ·simp at ae
theorem JK {t:TypeId}{x y:Operand}(h:bQ g s af a w)(aa:o.op = .index t x y)(ae:cT P s.E s.ax ao o bR=some aL)(bI:∀p∈aL.dq,p):Fin P g s a w o aL:=by
 simp only [cT,aa] at ae
 have J:=h.eval x
 have aG:=h.eval y
 split at ae
 ·rename_i b k j hu tD LS
  rw [tD] at J;rw [LS] at aG
  simp only [Option.some.injEq] at ae;subst ae
  have h0:0≤j:=bI _ (by simp)
  have h1:j<b.size:=bI _ (by simp)
  have I:j.toNat<b.size:=by omega
  refine fy (v:= .int .u8 (b[j.toNat]).toNat) h ?_ rfl ?_
  ·simp [execOp,aa,J.re,aG.k5,Instr.index,asIntOf,run_underlying hu,h0,I]
  ·have e:b.data.toList.getD j.toNat 0=b[j.toNat]:=by
    rw [List.getD_eq_getElem?_getD,Array.getElem?_toList,Array.getElem?_eq_getElem (by simpa using I)];rfl
   show Rel _ _ _ _ (.n .u8 _) _
   rw [e];exact .n _ _
 ·simp at ae
theorem KO {c:Call}(h:bQ g s af a w)(aa:o.op = .call c)(aF:c.callee = .builtin .len)(ae:cT P s.E s.ax ao o bR=some aL)(bI:∀p∈aL.dq,p):Fin P g s a w o aL:=by
 obtain ⟨wy,args,jj⟩:=c
 simp only at aF;subst aF
 simp only [cT,aa] at ae
 have key : ∀(x:Operand) (n:Nat) (t:TypeId) (v:Value),args.toList=[x]→jj = #[t]→aL.val = .n .i64 n→aL.dI=[]→a.eval x=v →
  (Builtin.len_ #[t] o.type #[v]).run P w = .ok (goInt n) w→Fin P g s a w o aL:=by
  intro x n t v hargs iE ah eR aN fM
  subst iE
  refine fy (v:=goInt n) h ?_ eR (by rw [ah];exact .n _ _)
  have bY:args = #[x]:=by apply Array.ext';simpa using hargs
  subst bY
  simp [execOp,aa,resolve,invoke,builtin,aN,fM]
 have hargs : ∀y,args.toList.map (c8 s.E)=[y]→ ∃x,args.toList=[x]∧c8 s.E x=y:=by
  intro y aG
  match av:args.toList,aG with
  | [x],aG=>simp at aG;exact ⟨x,rfl,aG⟩
 have kn:decide (jj.size=1)=true→ ∃t,jj = #[t]∧jj.getD 0 0=t:=by
  intro cS
  have cS:jj.size=1:=by simpa using cS
  obtain ⟨l⟩:=jj
  match l,cS with
  | [t],_=>exact ⟨t,rfl,rfl⟩
 split at ae
 ·rename_i sz es e hm hu cS
  obtain ⟨x,J,eH⟩:=hargs _ hm
  obtain ⟨t,bO,kW⟩:=kn cS
  rw [kW] at hu
  simp only [Option.some.injEq] at ae
  have ah:=h.eval x
  rw [eH] at ah
  rcases ah.nj with ⟨t0,A,c,hval,hA⟩|⟨cy,off,c,aM,hval,-⟩
  ·exact key x es.length t _ J bO (by rw [← ae]) (by rw [← ae]) hval (by subst t0;simp [Builtin.len_,run_underlying hu])
  ·exact key x es.length t _ J bO (by rw [← ae]) (by rw [← ae]) hval (by simp [Builtin.len_,run_underlying hu])
 ·rename_i r k bV len e hm hu cS
  obtain ⟨x,J,eH⟩:=hargs _ hm
  obtain ⟨t,bO,kW⟩:=kn cS
  rw [kW] at hu
  split at ae
  ·rename_i row cn
   split at ae
   ·rename_i R bC aC
    simp only [Option.some.injEq] at ae
    have ah:=h.eval x
    rw [eH] at ah
    have gT:s.R r k=some R:=by
     unfold S.R;rw [cn];exact n0 aC fun p ad=>bI p (by rw [← ae];exact ad)
    rcases ah.s9 (fz gT) with ⟨-,-,I,hval⟩|⟨b,m,A,c,ad,hval,-⟩
    ·exact key x len t _ J bO (by rw [← ae]) (by rw [← ae]) hval (by subst I;simp [Builtin.len_,run_underlying hu])
    ·exact key x len t _ J bO (by rw [← ae]) (by rw [← ae]) hval (by simp [Builtin.len_,run_underlying hu])
   ·simp at ae
  ·simp at ae
 ·rename_i e hm hu cS
  obtain ⟨x,J,eH⟩:=hargs _ hm
  obtain ⟨t,bO,kW⟩:=kn cS
  rw [kW] at hu
  simp only [Option.some.injEq] at ae
  have ah:=h.eval x
  rw [eH] at ah
  exact key x 0 t _ J bO (by rw [← ae];rfl) (by rw [← ae]) ah.lj (by simp [Builtin.len_,run_underlying hu])
 ·rename_i b hm hu cS
  obtain ⟨x,J,eH⟩:=hargs _ hm
  obtain ⟨t,bO,kW⟩:=kn cS
  rw [kW] at hu
  simp only [Option.some.injEq] at ae
  have ah:=h.eval x
  rw [eH] at ah
  exact key x b.size t _ J bO (by rw [← ae]) (by rw [← ae]) ah.re (by simp [Builtin.len_,run_underlying hu])
 ·simp at ae
theorem vd {ok:Nat→Prop}{aw:f5}{aA:fP}{cy off sz:Nat}{es:List (List ag)}(h:ku w ok aw aA cy off sz es)(l n:Nat)(av:l≤es.length):
 ku w ok aw aA cy (off+l*sz) sz ((es.drop l).take n):=by
 have m0 : ∀e∈(es.drop l).take n,e.length=sz:=fun e he=>h.1 e (List.mem_of_mem_drop (List.mem_of_mem_take he))
 refine ⟨m0,fun j x J=> ?_⟩
 rcases Nat.eq_zero_or_pos sz with h0|bZ
 ·have e1 : ∀(l:List (List ag)),(∀e∈l,e.length=0)→l.flatten=[]:=by
   intro l av;induction l with
   | nil=>rfl
   | cons a l ih=>rw [List.flatten_cons,ih fun e he=>av e (by simp [he])];have:=av a (by simp);simp_all
  rw [e1 _ (fun e he=>(m0 e he).trans h0)] at J;simp at J
 ·rw [k2 bZ _ m0] at J
  have aq:j / sz<n:=by
   rcases Nat.lt_or_ge (j / sz) n with bT|bT
   ·exact bT
   ·rw [List.getElem?_eq_none (by simp;omega)] at J;simp at J
  rw [List.getElem?_take,if_pos aq,List.getElem?_drop] at J
  obtain ⟨v,e1,au,bB⟩:=h.2 (l*sz+j) x (by
   rw [k2 bZ es h.1]
   have eM:(l*sz+j) / sz=l+j / sz:=by rw [Nat.mul_comm,Nat.mul_add_div bZ]
   have fR:(l*sz+j) % sz=j % sz:=by rw [Nat.mul_comm,Nat.mul_add_mod]
   rw [eM,fR];exact J)
  exact ⟨v,by rw [Nat.add_assoc];exact e1,au,bB⟩
theorem va {t e:TypeId}(hu:P.underlying t=some (.slice e))(an:(P.info? e).isSome=true)(A:Option Addr)(len cap:Nat)(bV gW:Option Value)(l h:Nat)
 (Mj:(bV=none∧l=0)∨ ∃k,bV=some (.int k l)) (Mk:(gW=none∧h=len)∨ ∃k,gW=some (.int k h)) (h1:l≤h) (I:h≤len) (aj:len≤cap) :
 (Instr.sliceAt t (.slice A len cap) bV gW none).run P w = .ok (.slice (if cap=l then A else A.map (·.add (l*P.cellsOf e))) (h-l) (cap-l)) w:=by
 have aM : ∀(k:IntKind) (n y:Nat) (code:BoundsCode),n≤y→(Instr.sliceBound (.int k n) y code).run P w = .ok n w:=by
  intro k n y code a5
  simp [Instr.sliceBound,asIntOf,a5]
 rcases Mj with ⟨rfl,rfl⟩|⟨iH,rfl⟩<;>rcases Mk with ⟨rfl,rfl⟩|⟨hd,rfl⟩ <;>
  simp [Instr.sliceAt,Instr.slice,run_underlying hu,Instr.sliceBounds,oO an,aM,h1,I,aj,Nat.le_trans I aj]
theorem q7 {x:Option Operand}(h:bQ g s af a w){d n:Nat}{R:List Prop}(aM:aT (x.map (c8 s.E)) d=some (n,R))(bI:∀p∈R,p):
 (x.map a.eval=none∧n=d)∨ ∃k,x.map a.eval=some (.int k n):=by
 cases x with
 | none=>simp [aT] at aM;exact .inl ⟨rfl,aM.1.symm⟩
 | some x =>
  have J:=h.eval x
  simp only [Option.map_some] at aM ⊢
  unfold aT at aM
  split at aM
  ·rename_i he;simp at he
  ·rename_i _ k y he
   simp only [Option.some.injEq] at he
   rw [he] at J
   simp only [Option.some.injEq,Prod.mk.injEq] at aM
   obtain ⟨rfl,rfl⟩:=aM
   have h0:0≤y:=bI _ (by simp)
   refine .inr ⟨k,?_⟩
   rw [J.k5,Int.toNat_of_nonneg h0]
  ·simp at aM
theorem JL {t:TypeId}{x:Operand}{bV an:Option Operand}(h:bQ g s af a w)(aa:o.op = .slice t x bV an none)(ae:cT P s.E s.ax ao o bR=some aL)(bI:∀p∈aL.dq,p):Fin P g s a w o aL:=by
 simp only [cT,aa] at ae
 have J:=h.eval x
 have pa : ∀sz e,sz=P.cellsOf e→sz≠0→(P.info? e).isSome=true:=by
  intro sz e bZ cl
  cases an:P.info? e with
  | none=>simp [Program.cellsOf,an] at bZ;exact absurd bZ cl
  | some i=>rfl
 split at ae
 ·rename_i e sz es hu eH
  rw [eH] at J
  split at ae
  ·rename_i l bC n aW av a5
   simp only [Option.ite_none_right_eq_some,Option.some.injEq] at ae
   obtain ⟨⟨bZ,cl⟩,ae⟩:=ae
   subst ae
   have iu:=q7 h av fun p ad=>bI p (by simp [ad])
   have iI:=q7 h a5 fun p ad=>bI p (by simp [ad])
   have h1:l≤n:=bI _ (by simp)
   have I:n≤es.length:=bI _ (by simp)
   rcases J.nj with ⟨t0,A,c,hval,hA⟩|⟨cy,off,c,aM,hval,aF,ft⟩
   ·subst t0
    have Ao:n=0:=by simpa using I
    subst Ao
    have kq:l=0:=by omega
    subst kq
    refine fy (v:= .slice (if c=0 then A else A.map (·.add (0*P.cellsOf e))) (0-0) (c-0)) h ?_ rfl ?_
    ·have:=va (w:=w) hu (pa sz e bZ cl) A 0 c (bV.map a.eval) (an.map a.eval) 0 0 iu iI (Nat.le_refl _) (Nat.le_refl _) (Nat.zero_le _)
     simp only [execOp,aa,hval]
     simp only [Option.map_none,Sem.run_bind,this];rfl
    ·refine .gb sz _ _ fun a5=> ?_
     split at a5
     ·rename_i wz;omega
     ·have:=hA (by simpa using a5)
      omega
   ·have hlen:((es.drop l).take (n-l)).length=n-l:=by simp;omega
    refine fy (v:= .slice (if c=l then some ⟨cy,off,none⟩ else (some (⟨cy,off,none⟩:Addr)).map (·.add (l*P.cellsOf e))) (n-l) (c-l)) h ?_ rfl ?_
    ·have:=va (w:=w) hu (pa sz e bZ cl) (some ⟨cy,off,none⟩) es.length c (bV.map a.eval) (an.map a.eval) l n iu iI h1 I aF
     simp only [execOp,aa,hval]
     simp only [Option.map_none,Sem.run_bind,this];rfl
    ·by_cases fO:c=l
     ·have:n-l=0:=by omega
      rw [this]
      show Rel _ _ _ _ (.isl sz ((es.drop l).take 0)) _
      rw [List.take_zero]
      exact .gb sz _ _ (fun _=>by omega)
     ·rw [if_neg fO]
      simp only [Option.map_some,mR,← bZ]
      have ah:=(vd ft l (n-l) (by omega)).isl (c:=c-l) ⟨aM.1,fun e he=>aM.2 e (List.mem_of_mem_drop (List.mem_of_mem_take he))⟩ (by rw [hlen];omega)
      rw [hlen] at ah
      exact ah
  ·simp at ae
 ·rename_i e r k E5 len hu eH
  rw [eH] at J
  split at ae
  ·simp at ae
  ·rename_i row cn
   split at ae
   ·simp at ae
   ·rename_i R E6 aC
    split at ae
    ·rename_i l bC n aW av a5
     simp only [Option.ite_none_right_eq_some,Option.some.injEq] at ae
     obtain ⟨⟨bZ,cl⟩,ae⟩:=ae
     subst ae
     have gT:s.R r k=some R:=by
      unfold S.R;rw [cn];exact n0 aC fun p ad=>bI p (by simp [ad])
     have iu:=q7 h av fun p ad=>bI p (by simp [ad])
     have iI:=q7 h a5 fun p ad=>bI p (by simp [ad])
     have h1:l≤n:=bI _ (by simp)
     have I:n≤len:=bI _ (by simp)
     have gf:=vx gT
     rcases J.oY (fz gT) with ⟨ad,rfl,rfl,hval⟩|⟨b,m,A,c,ad,hval,my,nE,jk,hm⟩
     ·have Ao:n=0:=by omega
      subst Ao
      have kq:l=0:=by omega
      subst kq
      refine fy (v:= .slice none 0 0) h ?_ rfl (.jT gf ((fz gT).trans (by rw [ad])))
      have:=va (w:=w) hu (pa _ e bZ cl) none 0 0 (bV.map a.eval) (an.map a.eval) 0 0 iu iI (Nat.le_refl _) (Nat.le_refl _) (Nat.le_refl _)
      simp only [execOp,aa,hval]
      simp only [Option.map_none,Sem.run_bind,this];rfl
     ·refine fy (v:= .slice (if c=l then A else A.map (·.add (l*P.cellsOf e))) (n-l) (c-l)) h ?_ rfl ?_
      ·have:=va (w:=w) hu (pa _ e bZ cl) A len c (bV.map a.eval) (an.map a.eval) l n iu iI h1 I my
       simp only [execOp,aa,hval]
       simp only [Option.map_none,Sem.run_bind,this];rfl
      ·refine Rel.a6 gf ((fz gT).trans (by rw [ad])) (by omega) (by omega) ?_
       refine ⟨by rw [← jk];congr 1;omega,?_⟩
       by_cases fO:c=l
       ·exact .inl (by omega)
       ·rcases hm with hm|hA
        ·exact .inl (by omega)
        ·refine .inr ?_
         rw [if_neg fO,hA]
         simp only [Option.map_some,mR,← bZ,Nat.add_mul]
    ·simp at ae
 ·rename_i b hu eH
  rw [eH] at J
  split at ae
  ·rename_i l bC n aW av a5
   simp only [Option.some.injEq] at ae
   subst ae
   have iu:=q7 h av fun p ad=>bI p (by simp [ad])
   have iI:=q7 h a5 fun p ad=>bI p (by simp [ad])
   have h1:l≤n:=bI _ (by simp)
   have I:n≤b.size:=bI _ (by simp)
   refine fy (v:= .string (b.extract l n)) h ?_ rfl (.s _)
   have aM : ∀(k:IntKind) (n y:Nat) (code:BoundsCode),n≤y→(Instr.sliceBound (.int k n) y code).run P w = .ok n w:=by
    intro k n y code a5
    simp [Instr.sliceBound,asIntOf,a5]
   simp only [execOp,aa,J.re,Option.map_none]
   rcases iu with ⟨e1,rfl⟩|⟨iH,e1⟩<;>rcases iI with ⟨au,rfl⟩|⟨hd,au⟩<;>rw [e1,au] <;>
    simp [Instr.sliceAt,Instr.slice,run_underlying hu,Instr.sliceBounds,aM,h1,I]
  ·simp at ae
 ·simp at ae
end
end Go.VL
namespace Go.VL
set_option linter.unusedVariables false
set_option linter.unusedSimpArgs false
open Go
section
variable {P:Program} {g:G} {s:S} {af:de} {a:Act} {w:World} {o:Oper} {bR:dy} {ao:Nat} {aL:fp}
theorem I0 {ok:Nat→Prop}{aw:f5}{aA:fP}{t:TypeId}{c:List ag}{off:Nat}{x:ag}{vs:List Value}(av:vs.length=c.length)
 (gL : ∀(j:Nat) u,vs[j]? = some u→gQ u=true) (ah : ∀(j:Nat) x u,c[j]? = some x→vs[j]? = some u→Rel w ok aw aA x u)
 (bO:np P t c off=some x) : ∃v,(part t vs.toArray off).run P w = .ok v w∧Rel w ok aw aA x v:=by
 unfold np at bO
 split at bO
 ·simp at bO
 ·rename_i an
  simp only [Bool.not_eq_true',Bool.not_eq_false,Bool.and_eq_true] at an
  simp only [part,Sem.run_bind,CM an.1,Result.andThen]
  split at bO
  ·rename_i mu
   rw [mu]
   split at bO
   ·rename_i hle
    simp at bO;subst bO
    have e:(vs.toArray.extract off (off+P.cellsOf t))=((vs.drop off).take (P.cellsOf t)).toArray:=by
     apply Array.ext'
     simp [List.extract_eq_take_drop]
    refine ⟨.agg ((vs.drop off).take (P.cellsOf t)).toArray,by simp [oO an.2],?_⟩
    refine .agg _ (by simp;omega) ?_ ?_
    ·intro j v aN
     rw [List.getElem?_take] at aN
     split at aN
     ·rw [List.getElem?_drop] at aN;exact gL _ _ aN
     ·simp at aN
    ·intro j y v aG aN
     rw [List.getElem?_take] at aN aG
     split at aN
     ·rename_i aq
      rw [if_pos aq] at aG
      rw [List.getElem?_drop] at aN aG;exact ah _ _ _ aG aN
     ·simp at aN
   ·simp at bO
  ·rename_i mu
   have mu:tg P t=false:=by simpa using mu
   rw [mu]
   split at bO
   ·rename_i y aG
    split at bO
    ·simp at bO;subst bO
     have rm:off<vs.length:=by
      rcases Nat.lt_or_ge off c.length with h|h
      ·omega
      ·rw [List.getElem?_eq_none h] at aG;simp at aG
     exact ⟨vs[off],by simp [rm],ah off y _ aG (List.getElem?_eq_getElem rm)⟩
    ·simp at bO
   ·simp at bO
theorem JM {t:TypeId}{x:Operand}{f:Nat}(h:bQ g s af a w)(aa:o.op = .field t x f)(ae:cT P s.E s.ax ao o bR=some aL):Fin P g s a w o aL:=by
 simp only [cT,aa] at ae
 have J:=h.eval x
 split at ae
 ·rename_i hy tZ
  split at ae
  ·rename_i fd c od eH
   rw [eH] at J
   cases bO:np P fd.type c fd.offset with
   | none=>simp [bO] at ae
   | some v =>
    simp [bO] at ae;subst ae
    obtain ⟨vs,hval,av,aF,ah⟩:=J.s8
    obtain ⟨u,h1,I⟩:=I0 av aF ah bO
    refine fy (v:=u) h ?_ rfl I
    simp [execOp,aa,hval,Instr.field,run_underlying (zh tZ),od,asAgg,h1]
  ·simp at ae
 ·simp at ae
theorem Jo (off:Nat): ∀(vs:List Value) (n:Nat) (cs:Array Value) (j:Nat),off+n+vs.length≤cs.size →
 ((vs.zipIdx n).foldl (fun cs (x:Value×Nat)=>cs.setIfInBounds (off+x.2) x.1) cs)[j]? = if off+n≤j∧j<off+n+vs.length then vs[j-(off+n)]? else cs[j]? := by
 intro vs
 induction vs with
 | nil=>intro n cs j h;simp;intro h1 I;omega
 | cons v vs ih =>
  intro n cs j h
  simp only [List.length_cons] at h
  simp only [List.zipIdx_cons,List.foldl_cons]
  rw [ih (n+1) _ j (by simp;omega)]
  simp only [List.length_cons,Array.getElem?_setIfInBounds]
  by_cases h1:j=off+n
  ·subst h1
   rw [if_neg (by omega),if_pos rfl,if_pos (by omega),if_pos (by omega)]
   simp
  ·by_cases I:off+(n+1)≤j∧j<off+(n+1)+vs.length
   ·rw [if_pos I,if_pos (by omega)]
    rw [show j-(off+n)=(j-(off+(n+1)))+1 by omega];rfl
   ·rw [if_neg I,if_neg (fun e=>h1 e.symm),if_neg (by omega)]
theorem HW (off:Nat): ∀(vs:List (Value×Nat)) (cs:Array Value),(vs.foldl (fun cs (x:Value×Nat)=>cs.setIfInBounds (off+x.2) x.1) cs).size=cs.size:=by
 intro vs
 induction vs with
 | nil=>intro cs;rfl
 | cons v vs ih=>intro cs;simp only [List.foldl_cons];rw [ih];simp
def rS (w:World)(ok:Nat→Prop)(aw:f5)(aA:fP)(c:List ag)(cs:Array Value):Prop :=
 cs.size=c.length∧(∀(j:Nat) u,cs[j]? = some u→gQ u=true)∧ ∀(j:Nat) x u,c[j]? = some x→cs[j]? = some u→Rel w ok aw aA x u
theorem JN {ok:Nat→Prop}{aw:f5}{aA:fP}{c:List ag}{cs:Array Value}(h:rS w ok aw aA c cs){x:ag}{v:Value}{off:Nat}(J:Rel w ok aw aA x v)(aF:x.qU=true)
 (fs:off+x.cells.length≤c.length):v.cells.size=x.cells.length ∧
   rS w ok aw aA (setCells c off x.cells) (v.cells.zipIdx.foldl (fun cs (y:Value×Nat)=>cs.setIfInBounds (off+y.2) y.1) cs):=by
 obtain ⟨vs,aN,av,gL,ah⟩:=J.cellsOf (ag.Ch aF)
 have iE : ∀j,(v.cells.zipIdx.foldl (fun cs (y:Value×Nat)=>cs.setIfInBounds (off+y.2) y.1) cs)[j]? = if off≤j∧j<off+vs.length then vs[j-off]? else cs[j]? := by
  intro j
  rw [aN]
  have:=Jo off vs 0 cs j (by rw [h.1];omega)
  simp only [Nat.add_zero] at this
  rw [← this,← Array.foldl_toList,Array.toList_zipIdx]
 refine ⟨by rw [aN];simpa using av,?_,?_,?_⟩
 ·rw [B2 fs,← h.1,← Array.foldl_toList,HW]
 ·intro j u hu
  rw [iE] at hu
  split at hu
  ·exact gL _ _ hu
  ·exact h.2.1 _ _ hu
 ·intro j y u aG hu
  rw [iE] at hu
  rw [zg fs] at aG
  by_cases jD:off≤j∧j<off+x.cells.length
  ·rw [if_pos jD] at aG
   rw [if_pos (by rw [av];exact jD)] at hu
   exact ah _ _ _ aG hu
  ·rw [if_neg jD] at aG
   rw [if_neg (by rw [av];exact jD)] at hu
   exact h.2.2 _ _ _ aG hu
theorem Ct {ok:Nat→Prop}{aw:f5}{aA:fP}(place:Nat→Option (Nat×Nat)): ∀(l:List (Nat×Nat×ag)) (gD:List (Nat×Value)) (c:List ag) (cs:Array Value) (cq:List ag),
 rS w ok aw aA c cs→l.length=gD.length →
 (∀(j:Nat) off size x i v,l[j]? = some (off,size,x)→gD[j]? = some (i,v)→place i=some (off,size)∧Rel w ok aw aA x v) →
 n5 c l=some cq→ ∃jl,Instr.fill place cs gD=some jl∧rS w ok aw aA cq jl:=by
 intro l
 induction l with
 | nil =>
  intro gD c cs cq h av _ bp
  have:gD=[]:=List.length_eq_zero_iff.1 (by simpa using av.symm)
  subst this
  simp [n5] at bp;subst bp
  exact ⟨cs,rfl,h⟩
 | cons q l ih =>
  intro gD c cs cq h av ad bp
  obtain ⟨off,size,x⟩:=q
  match gD,av with
  | (i,v)::gD,av =>
   obtain ⟨Ml,J⟩:=ad 0 off size x i v rfl rfl
   simp only [n5] at bp
   split at bp
   ·rename_i aF
    simp only [Bool.and_eq_true,decide_eq_true_eq] at aF
    obtain ⟨⟨h1,I⟩,aj⟩:=aF
    obtain ⟨e1,au⟩:=JN h J h1 (off:=off) (by omega)
    obtain ⟨jl,f1,f2⟩:=ih gD _ _ cq au (by simpa using av) (fun j off size x i v a b=>ad (j+1) off size x i v a b) bp
    refine ⟨jl,?_,f2⟩
    rw [Instr.fill]
    simp only [Ml]
    have kp : ¬(decide (v.cells.size≠size) || decide (off+v.cells.size>cs.size))=true:=by simp;rw [e1,h.1];omega
    rw [if_neg kp]
    exact f1
   ·simp at bp
theorem mapM_some {α β:Type}(f:α→β)(p:α→Option β): ∀(l:List α),(∀x∈l,p x=some (f x))→l.mapM p=some (l.map f)
 | [],_=>rfl
 | x::l,h=>by
  rw [List.mapM_cons,h x (by simp),mapM_some f p l fun y aG=>h y (by simp [aG])];rfl
theorem Dp {α β:Type}(p:α→Option β): ∀(l:List α) (dl:List β),l.mapM p=some dl→dl.length=l.length∧ ∀(j:Nat) x y,l[j]? = some x→dl[j]? = some y→p x=some y
 | [],dl,h=>by simp at h;subst h;exact ⟨rfl,fun j x y J=>by simp at J⟩
 | a::l,dl,h=>by
  rw [List.mapM_cons] at h
  cases bY:p a with
  | none=>simp [bY] at h
  | some b =>
   cases av:l.mapM p with
   | none=>simp [bY,av] at h
   | some r =>
    simp [bY,av] at h;subst h
    obtain ⟨h1,I⟩:=Dp p l r av
    refine ⟨by simp [h1],fun j x y J aG=> ?_⟩
    cases j with
    | zero=>simp at J aG;subst J;subst aG;exact bY
    | succ j=>simp at J aG;exact I j x y J aG
theorem Dq {t:TypeId}{z:List ag}(cl:mg P t=some z): ∃i cJ,P.info? t=some i∧i.zero=some cJ∧cJ.cells.size=z.length∧rS w (s.ok g af w) s.aw (s.aA af) z cJ.cells:=by
 obtain ⟨i,cJ,an,hP,pJ,gL⟩:=sT cl
 have bZ:cJ.cells.size=z.length:=by rw [pJ];simp
 refine ⟨i,cJ,an,hP,bZ,bZ,fun j u hu=> ?_,fun j x u J hu=> ?_⟩
 ·have aq:j<z.length:=by
   have:=(Array.getElem?_eq_some_iff.1 hu).1;omega
  obtain ⟨v,e1,au,-⟩:=gL j z[j] (List.getElem?_eq_getElem aq)
  rw [hu] at e1;simp at e1;subst e1;exact au
 ·obtain ⟨v,e1,-,bB⟩:=gL j x J
  rw [hu] at e1;simp at e1;subst e1;exact bB _ _ _ _
theorem JO {t:TypeId}{parts:Array (Nat×Operand)}(h:bQ g s af a w)(aa:o.op = .build t parts)(ae:cT P s.E s.ax ao o bR=some aL):Fin P g s a w o aL:=by
 simp only [cT,aa] at ae
 split at ae
 ·rename_i hy z tZ cl
  split at ae
  ·simp at ae
  ·rename_i jZ
   have jZ : ∀f∈hy.toList,(P.info? f.type).isSome=true:=by
    rw [Bool.not_eq_false] at jZ
    exact List.all_eq_true.1 jZ
   split at ae
   ·rename_i l av
    cases bp:n5 z l with
    | none=>simp [bp] at ae
    | some c =>
     simp [bp] at ae;subst ae
     obtain ⟨it,cJ,t8,hP,cS,hcs⟩:=Dq (w:=w) (s:=s) (g:=g) (af:=af) cl
     obtain ⟨lH,nM⟩:=Dp _ _ _ av
     have LU:hy.toList.mapM (fun f=>(P.info? f.type).map fun i=>(f.offset,i.size))=some (hy.toList.map fun f=>(f.offset,P.cellsOf f.type)):=by
      refine mapM_some (fun f:Field=>(f.offset,P.cellsOf f.type)) _ _ fun f bp=> ?_
      have:=jZ f bp
      cases an:P.info? f.type with
      | none=>simp [an] at this
      | some i=>simp [Program.cellsOf,an]
     obtain ⟨jl,f1,f2⟩:=Ct (w:=w) (ok:=s.ok g af w) (aw:=s.aw) (aA:=s.aA af) ((hy.toList.map fun f=>(f.offset,P.cellsOf f.type)).toArray[·]?) l (parts.map fun (i,x)=>(i,a.eval x)).toList z cJ.cells c hcs (by simpa using lH) (by
      intro j off size x i v aq aN
      simp only [Array.toList_map,List.getElem?_map,Option.map_eq_some_iff] at aN
      obtain ⟨⟨gw,bP⟩,ad,aN⟩:=aN
      simp only [Prod.mk.injEq] at aN
      obtain ⟨rfl,rfl⟩:=aN
      have:=nM j _ _ ad aq
      simp only [Option.map_eq_some_iff,Prod.mk.injEq] at this
      obtain ⟨fd,h1,I,aj,aB⟩:=this
      subst I;subst aj;subst aB
      refine ⟨?_,h.eval bP⟩
      rw [List.getElem?_toArray,List.getElem?_map,Array.getElem?_toList,h1];rfl) bp
     have aM:P.built t (parts.map fun (i,x)=>(i,a.eval x)).toList=some jl:=by
      unfold Program.built
      simp only [t8,zh tZ,hP,LU]
      exact f1
     refine fy (v:= .agg jl) h ?_ rfl ?_
     ·have:=run_build w t _ jl aM
      simp [execOp,aa,this]
     ·have:=Rel.agg (w:=w) (ok:=s.ok g af w) (aw:=s.aw) (aA:=s.aA af) (c:=c) jl.toList (by simpa using f2.1) (fun j u hu=>f2.2.1 j u (by simpa using hu)) (fun j x u J hu=>f2.2.2 j x u J (by simpa using hu))
      simpa using this
   ·simp at ae
 ·simp at ae
theorem Hs {sz:Nat}{es:List (List ag)}(av:∀e∈es,e.length=sz){i:Nat}(an:i<es.length){c:List ag}(aF:c.length=sz):
 setCells es.flatten (i*sz) c=(es.set i c).flatten:=by
 have hlen : ∀(es:List (List ag)),(∀e∈es,e.length=sz)→es.flatten.length=es.length*sz:=by
  intro es
  induction es with
  | nil=>simp
  | cons e es ih =>
   intro h
   rw [List.flatten_cons,List.length_append,ih fun x J=>h x (by simp [J]),h e (by simp),List.length_cons,Nat.add_mul];omega
 have fs:i*sz+c.length≤es.flatten.length:=by
  rw [hlen es av,aF]
  have:=Nat.mul_le_mul_right sz (show i+1≤es.length by omega)
  rw [Nat.add_mul] at this;omega
 apply List.ext_getElem?
 intro j
 rw [zg fs,Ci av (List.getElem?_eq_getElem an) aF,aF]
theorem Cu {sz:Nat}: ∀(l:List (Nat×ag)) (es ea:List (List ag)),(∀e∈es,e.length=sz)→rc sz es l=some ea →
 n5 es.flatten (l.map fun p=>(p.1*sz,sz,p.2))=some ea.flatten∧(∀e∈ea,e.length=sz)∧ea.length=es.length
 | [],es,ea,av,h=>by simp [rc] at h;subst h;exact ⟨rfl,av,rfl⟩
 | (i,x)::l,es,ea,av,h=>by
  simp only [rc] at h
  split at h
  ·rename_i aF
   simp only [Bool.and_eq_true,decide_eq_true_eq] at aF
   obtain ⟨⟨h1,I⟩,aj⟩:=aF
   have Aj : ∀e∈es.set i x.cells,e.length=sz:=by
    intro e hm
    rcases List.mem_or_eq_of_mem_set hm with bT|bT
    ·exact av e bT
    ·exact bT▸I
   obtain ⟨eM,fR,dM⟩:=Cu l (es.set i x.cells) ea Aj h
   have e:=Hs av aj I
   have fs:i*sz+sz≤es.flatten.length:=by
    have:(setCells es.flatten (i*sz) x.cells).length=(es.set i x.cells).flatten.length:=by rw [e]
    have aE : ∀(es:List (List ag)),(∀e∈es,e.length=sz)→es.flatten.length=es.length*sz:=by
     intro es
     induction es with
     | nil=>simp
     | cons e es ih =>
      intro h
      rw [List.flatten_cons,List.length_append,ih fun x J=>h x (by simp [J]),h e (by simp),List.length_cons,Nat.add_mul];omega
    rw [aE es av]
    have:=Nat.mul_le_mul_right sz (show i+1≤es.length by omega)
    rw [Nat.add_mul] at this;omega
   refine ⟨?_,fR,by simpa using dM⟩
   simp only [List.map_cons,n5,h1,I,fs,decide_true,Bool.and_self,if_true]
   rw [e];exact eM
  ·simp at h
theorem Ib {t:TypeId}{len:Nat}{parts:Array (Nat×Operand)}(h:bQ g s af a w)(cU:s.ax ao=none)(aa:o.op = .buildSlice t len parts)(ae:cT P s.E s.ax ao o bR=some aL):Fin P g s a w o aL:=by
 simp only [cT,aa] at ae
 split at ae
 ·rename_i e he
  split at ae
  ·rename_i z cl
   split at ae
   ·simp at ae
   ·rename_i aF
    simp only [not_or,Nat.not_lt,Decidable.not_not] at aF
    obtain ⟨ru,rv,ry⟩:=aF
    split at ae
    ·rename_i es eZ
     simp only [Option.some.injEq] at ae;subst ae
     obtain ⟨it,cJ,t8,hP,cS,hcs⟩:=Dq (w:=w) (s:=s) (g:=g) (af:=af) cl
     have gL:P.cellsOf e=it.size:=by simp [Program.cellsOf,t8]
     have Ee : ∀x∈List.replicate len z,x.length=z.length:=fun x J=>by rw [List.eq_of_mem_replicate J]
     obtain ⟨f1,f2,f3⟩:=Cu _ _ _ Ee eZ
     have oc:rS w (s.ok g af w) s.aw (s.aA af) (List.replicate len z).flatten ((Array.range (len*it.size)).map (cJ.cells[· % cJ.cells.size]!)):=by
      have wx:0<z.length:=by omega
      have iE : ∀j,j<len*it.size→((Array.range (len*it.size)).map (cJ.cells[· % cJ.cells.size]!))[j]? = cJ.cells[j % z.length]? := by
       intro j aq
       rw [Array.getElem?_map,Array.getElem?_range]
       simp only [aq,if_true,Option.map_some]
       have hm:j % cJ.cells.size<cJ.cells.size:=Nat.mod_lt _ (by omega)
       rw [getElem!_pos cJ.cells _ hm,← cS,Array.getElem?_eq_getElem hm]
      have cx : ∀(j:Nat) u,((Array.range (len*it.size)).map (cJ.cells[· % cJ.cells.size]!))[j]? = some u→j<len*it.size:=by
       intro j u hu
       have:=(Array.getElem?_eq_some_iff.1 hu).1
       simpa using this
      refine ⟨by simp [← gL,← rv],fun j u hu=> ?_,fun j x u J hu=> ?_⟩
      ·have aq:=cx j u hu
       rw [iE j aq] at hu
       exact hcs.2.1 _ _ hu
      ·have aq:=cx j u hu
       rw [iE j aq] at hu
       rw [k2 wx _ Ee,List.getElem?_replicate] at J
       split at J
       ·exact hcs.2.2 _ _ _ J hu
       ·simp at J
     obtain ⟨jl,g1,g2⟩:=Ct (w:=w) (ok:=s.ok g af w) (aw:=s.aw) (aA:=s.aA af) (fun i=>some (i*it.size,it.size)) ((parts.toList.map fun p=>(p.1,c8 s.E p.2)).map fun p=>(p.1*z.length,z.length,p.2)) (parts.map fun (i,x)=>(i,a.eval x)).toList _ _ es.flatten oc (by simp) (by
      intro j off size x i v aq aN
      simp only [Array.toList_map,List.getElem?_map,Option.map_eq_some_iff,List.map_map] at aN aq
      obtain ⟨⟨gw,bP⟩,ad,aN⟩:=aN
      obtain ⟨⟨pK,ep⟩,tX,aq⟩:=aq
      rw [ad] at tX
      simp only [Option.some.injEq,Prod.mk.injEq] at tX aN
      obtain ⟨rfl,rfl⟩:=tX
      obtain ⟨rfl,rfl⟩:=aN
      simp only [Function.comp,Prod.mk.injEq] at aq
      obtain ⟨rfl,rfl,rfl⟩:=aq
      exact ⟨by rw [← gL,← rv],h.eval bP⟩) f1
     have fM:(Instr.buildSlice t len (parts.map fun (i,x)=>(i,a.eval x))).run P w = .ok (.slice (some ⟨w.heap.size,0,none⟩) len len) (w.alloc (.cells jl e)):=by
      have h1 : ¬len*it.size>2 ^ 24:=by rw [← gL,← rv];omega
      by_cases h0:len*it.size=0
      ·have kq:len=0:=by
        rcases Nat.eq_zero_or_pos len with bT|bT
        ·exact bT
        ·have:0<len*it.size:=Nat.mul_pos bT (by omega)
         omega
       subst kq
       have e0:((Array.range (0*it.size)).map (cJ.cells[· % cJ.cells.size]!)) = #[]:=by simp
       rw [e0] at g1
       have ad:parts = #[]:=by
        obtain ⟨l⟩:=parts
        match l,eZ with
        | [],_=>rfl
        | p::l,eZ=>simp [rc] at eZ
       subst ad
       have LV:jl = #[]:=by simpa [Instr.fill] using g1.symm
       subst LV
       simp [Instr.buildSlice,run_underlying (mS he),sizeOf,typeInfo,t8,newRow,Instr.fill]
       rw [Array.range_zero',Array.map_empty]
      ·simp only [Instr.buildSlice,run_underlying (mS he),sizeOf,typeInfo,t8,newRow,zeroValue,hP,Sem.run_bind,Result.andThen_ok,run_program,Sem.run_pure,Sem.run_ite,h1,h0,if_false]
       rw [g1];rfl
     refine vK (v:= .slice (some ⟨w.heap.size,0,none⟩) len len) (R:=⟨z.length,es,.live⟩) (c:=jl) (cL:=e) h cU rfl ?_ rfl f2 ?_ ?_
     ·simp [execOp,aa,fM]
     ·intro j x J
      have aq:j<jl.size:=by
       rw [g2.1]
       rcases Nat.lt_or_ge j es.flatten.length with bT|bT
       ·exact bT
       ·rw [List.getElem?_eq_none bT] at J;simp at J
      have hu:jl[j]? = some jl[j]:=Array.getElem?_eq_getElem aq
      exact ⟨_,hu,g2.2.1 _ _ hu,g2.2.2 _ _ _ J hu⟩
     ·intro a9 iS ji iT hu bO
      refine Rel.a6 hu bO (Nat.le_refl _) ?_ ⟨?_,.inr (by simp)⟩
      ·have:len≤len*z.length:=Nat.le_mul_of_pos_right _ (by omega)
       omega
      ·rw [g2.1]
       have aE : ∀(es:List (List ag)),(∀e∈es,e.length=z.length)→es.flatten.length=es.length*z.length:=by
        intro es
        induction es with
        | nil=>simp
        | cons e es ih =>
         intro h
         rw [List.flatten_cons,List.length_append,ih fun x J=>h x (by simp [J]),h e (by simp),List.length_cons,Nat.add_mul];omega
       rw [aE es f2,f3];simp
    ·simp at ae
  ·simp at ae
 ·simp at ae
theorem vo (h:bQ g s af a w)(cU:s.ax ao=none)(ae:cT P s.E s.ax ao o bR=some aL)(bI:∀p∈aL.dq,p):Fin P g s a w o aL:=by
 cases aa:o.op with
 | move x=>exact Dn h (.inl aa) ae
 | assign x=>exact Dn h (.inr aa) ae
 | pick c x y=>exact Kg h aa ae bI
 | alloc t=>exact JG h cU aa ae
 | box t x=>exact KN h cU aa ae
 | load t x=>exact Kh h aa ae bI
 | store t x y=>exact JH h aa ae bI
 | nilCheck x=>exact IE h aa ae bI
 | binOp op t x y c2=>exact JI h aa ae bI
 | unOp op t x=>exact Ki h aa ae
 | convert t c2 x=>exact IX h aa ae
 | makeFunc f wW bt=>exact IF h aa ae
 | makeSlice t x y=>exact Is h cU aa ae bI
 | fieldAddr t x f=>exact It h aa ae bI
 | field t x f=>exact JM h aa ae
 | indexAddr t x y=>exact Iu h aa ae bI
 | index t x y=>exact JK h aa ae bI
 | extract x i=>exact IY h aa ae
 | slice t x bV an A1 =>
  cases A1 with
  | none=>exact JL h aa ae bI
  | some m=>simp [cT,aa] at ae
 | build t gD=>exact JO h aa ae
 | buildSlice t n gD=>exact Ib h cU aa ae
 | call c =>
  obtain ⟨wy,args,jj⟩:=c
  cases wy with
  | builtin b=>cases b<;>first|exact KO h aa rfl ae bI|simp [cT,aa] at ae
  | value f=>simp [cT,aa] at ae
  | invoke r m=>simp [cT,aa] at ae
 | _=>simp [cT,aa] at ae
end
end Go.VL
namespace Go.VL
set_option linter.unusedVariables false
set_option linter.unusedSimpArgs false
open Go
def KP:Option U→dy
 | some o=> .tB o []
 | none=> .none
def mo (sz:Nat)(ax:Nat→Option (List U))(a:dy):ag→Option (List (List ag)×List Prop)
 | .isl wA es=>if wA=sz then some (es,[]) else none
 | .a6 r k bV len=>match kS (ax r) k a with
  | some (R,bC)=>if R.sz=sz then some ((R.es.drop bV).take len,bC++[bV+len≤R.es.length]) else none
  | none=>none
 | .cg=>some ([],[])
 | .fX=>some ([],[])
 | _=>none
def o7 (P:Program)(sz:Nat)(z:List ag)(ax:Nat→Option (List U))(a:dy)(t c2:TypeId)(y:ag):Option (List (List ag)×List Prop) :=
 if t=c2 then mo sz ax a y else
 match P.underlying c2,y with
 | some (.int _),.n .i64 n=>some (List.replicate n.toNat z,[0≤n,n<9223372036854775808])
 | _,_=>none
def j2 (P:Program)(E:Nat→ag)(ax:Nat→Option (List U))(ao:Nat)(b:Builtin)(args:List ag)(jj:List TypeId)(bR:dy):Option fp :=
 match b,args,jj,bR with
 | .append,[x,y],[t,c2],.aI m o =>
  match lq P t with
  | none=>none
  | some e=>match P.info? e,mg P e with
   | some i,some z =>
    if z.length≠i.size∨i.size=0∨i.bytes=0 then none else
    match o7 P i.size z ax (KP o) t c2 y with
    | none=>none
    | some (aK,bC)=>match x with
     | .cg=>some {val:= .a6 ao 0 0 m,dI:=[(ao,[⟨i.size,aK,.live⟩])],dq:=bC++[m=aK.length,m*i.bytes≤140737488355328]}
     | .a6 r k 0 len=>match ax r with
      | none=>none
      | some row=>match b4 (some row) k with
       | none=>none
       | some R=>if R.bz = .live∧R.sz=i.size∧ao≠r then
        some {val:= .a6 ao 0 0 m,dI:=[(ao,[⟨i.size,R.es.take len++aK,.live⟩]),(r,row.set k {R with bz:= .gone})],dq:=bC++[len≤R.es.length,m=len+aK.length,m*i.bytes≤140737488355328]} else none
     | _=>none
   | _,_=>none
 | .append,[x,y],[t,c2],.gE =>
  match lq P t with
  | none=>none
  | some e=>match P.info? e,mg P e with
   | some i,some z =>
    if z.length≠i.size∨i.size=0∨i.bytes=0 then none else
    match o7 P i.size z ax .none t c2 y with
    | none=>none
    | some (aK,bC)=>match x with
     | .a6 r k 0 len=>match ax r with
      | none=>none
      | some row=>match b4 (some row) k with
       | none=>none
       | some R=>if R.bz = .live∧R.sz=i.size then
        some {val:= .a6 r k 0 (len+aK.length),dI:=[(r,row.set k {R with es:=R.es.take len++aK})],dq:=bC++[len+aK.length≤R.es.length,aK.length*i.bytes≤140737488355328]} else none
     | _=>none
   | _,_=>none
 | .copy,[.a6 r k 0 len,y],[t,_],_ =>
  match lq P t with
  | none=>none
  | some e=>match P.info? e with
   | none=>none
   | some i=>match mo i.size ax .none y with
    | none=>none
    | some (aK,bC)=>match ax r with
     | none=>none
     | some row=>match b4 (some row) k with
      | none=>none
      | some R=>if R.bz = .live∧R.sz=i.size∧i.size≠0 then
       some {val:= .n .i64 aK.length,dI:=[(r,row.set k {R with es:=aK++R.es.drop aK.length})],dq:=bC++[aK.length≤len,len≤R.es.length]} else none
 | .clear,[.a6 r k 0 len],[t],_ =>
  match lq P t with
  | none=>none
  | some e=>match P.info? e,mg P e with
   | some i,some z=>match ax r with
    | none=>none
    | some row=>match b4 (some row) k with
     | none=>none
     | some R=>if R.bz = .live∧R.sz=i.size∧z.length=i.size∧i.size≠0 then
      some {val:= .dx [],dI:=[(r,row.set k {R with es:=List.replicate len z})],dq:=[R.es.length=len]} else none
   | _,_=>none
 | .min,[.n k x,.n b9 y],_,_=>if k=b9 then some {val:= .n k (if y<x then y else x)} else none
 | _,_,_,_=>none
section
variable {g:G} {s:S} {af:de} {a:Act} {w a9:World}
theorem bQ.gone (h:bQ g s af a w){r k:Nat}{l:List U}{o:U}(ah:s.ax r=some l)(aa:s.R r k=some o):
 bQ g (s.setRow r (l.set k {o with bz:= .gone})) af a w ∧
  ∀x v,Rel w (s.ok g af w) s.aw (s.aA af) x v→Rel w ((s.setRow r (l.set k {o with bz:= .gone})).ok g af w) (s.setRow r (l.set k {o with bz:= .gone})).aw ((s.setRow r (l.set k {o with bz:= .gone})).aA af) x v:=by
 have aC : ∀q j p,(s.setRow r (l.set k {o with bz:= .gone})).R q j=some p→s.R q j=some p∧ ¬(q=r∧j=k):=by
  intro q j p ad
  rw [ib] at ad
  by_cases e:q=r
  ·subst e
   rw [if_pos rfl] at ad
   unfold b4 at ad
   simp only [List.getElem?_set] at ad
   by_cases au:k=j
   ·subst au
    by_cases aR:k<l.length
    ·simp [aR] at ad
    ·simp [aR] at ad
   ·rw [if_neg au] at ad
    refine ⟨?_,fun dg=>au dg.2.symm⟩
    unfold S.R;rw [ah];exact ad
  ·rw [if_neg e] at ad
   exact ⟨ad,fun dg=>e dg.1⟩
 have ct:Step g s af w (s.setRow r (l.set k {o with bz:= .gone})) af w:=by
  refine ⟨vc s ah (by simp),fun q j aE=> ?_,fun b av=> ?_,fun _ _ _=>rfl,Nat.le_refl _⟩
  ·cases ad:(s.setRow r (l.set k {o with bz:= .gone})).R q j with
   | none=>right;simp [S.aA,ad]
   | some p=>left;simp [S.aA,ad,(aC q j p ad).1]
  ·obtain ⟨q,j,p,m,h1,I,aj⟩:=av
   exact .inl ⟨q,j,p,m,(aC q j p h1).1,I,aj⟩
 refine ⟨{tofm:=⟨?_,?_,?_,h.fj,h.mlt,h.jB,ct.stay h.stay,h.low⟩,env:=fun t=>ct.rel (h.env t),defers:=h.defers,gz:=h.gz},fun x v=>ct.rel⟩
 ·intro q j p ad
  exact ct.obj (fun b m _=>rfl) (h.obj q j p (aC q j p ad).1)
 ·intro q j p e4 gO hF b m bG h1 I aj aB
  exact h.inj q j p e4 gO hF b m bG (aC q j p h1).1 (aC e4 gO hF I).1 aj aB
 ·intro q j p b m h1 I
  exact h.own q j p b m (aC q j p h1).1 I
theorem bQ.Dr (h:bQ g s af a w){ao sz:Nat}(cU:s.ax ao=none):
 ∃aY,aY ao 0=none∧bQ g (s.setRow ao [⟨sz,[],.live⟩]) aY a w:=by
 have aC : ∀q k,q≠ao→(s.setRow ao [⟨sz,[],.live⟩]).R q k=s.R q k:=fun q k aE=>by rw [ib,if_neg aE]
 let aY:de:=fun q k=>if q=ao then none else af q k
 have b7 : ∀q k,s.aw q k→q≠ao:=by
  rintro q k aE rfl;exact qJ cU k aE
 have z6 : ∀k o,(s.setRow ao [⟨sz,[],.live⟩]).R ao k=some o→o=⟨sz,[],.live⟩:=by
  intro k o aa
  rw [ib,if_pos rfl,iM] at aa
  split at aa
  ·simp at aa;exact aa.symm
  ·simp at aa
 have ct:Step g s af w (s.setRow ao [⟨sz,[],.live⟩]) aY w:=by
  refine ⟨fun q k aE=>(jw _ _ _ _ _).2 (by rw [if_neg (b7 q k aE)];exact aE),fun q k aE=> .inl ?_,fun b av=> ?_,fun _ _ _=>rfl,Nat.le_refl _⟩
  ·simp [S.aA,aC q k (b7 q k aE),aY,b7 q k aE]
  ·obtain ⟨q,k,o,m,h1,I,aj⟩:=av
   by_cases e:q=ao
   ·subst e;simp [aY] at aj
   ·rw [aC q k e] at h1
    simp only [aY,if_neg e] at aj
    exact .inl ⟨q,k,o,m,h1,I,aj⟩
 refine ⟨aY,by simp [aY],{tofm:=⟨?_,?_,?_,h.fj,h.mlt,h.jB,ct.stay h.stay,h.low⟩,env:=fun t=>ct.rel (h.env t),defers:=h.defers,gz:=h.gz}⟩
 ·intro q k o aa
  by_cases e:q=ao
  ·subst e
   rw [z6 k o aa]
   simp [aY,ga]
  ·rw [aC q k e] at aa
   have:=ct.obj (fun b m _=>rfl) (h.obj q k o aa)
   simpa [aY,e] using this
 ·intro q k o e4 b9 bh b m bG h1 I aj aB
  have e:q≠ao:=by rintro rfl;simp [aY] at aj
  have cN:e4≠ao:=by rintro rfl;simp [aY] at aB
  rw [aC q k e] at h1
  rw [aC e4 b9 cN] at I
  simp only [aY,if_neg e] at aj
  simp only [aY,if_neg cN] at aB
  exact h.inj q k o e4 b9 bh b m bG h1 I aj aB
 ·intro q k o b m h1 I
  have e:q≠ao:=by rintro rfl;simp [aY] at I
  rw [aC q k e] at h1
  simp only [aY,if_neg e] at I
  exact h.own q k o b m h1 I
theorem bQ.turn (h:bQ g s af a w){r k b m ao:Nat}{l:List U}{o:U}(ah:s.ax r=some l)(aa:s.R r k=some o)(aR:o.bz = .live)(ad:af r k=some (b,m))
 (cU:s.ax ao=none) (bh:U) (kX:bh.bz = .live) (c:Array Value) (cL:TypeId)
 (hw:a9.heap[b]? = some (.cells c cL (0,0))) (cS:a9.heap.size=w.heap.size) (o6 : ∀q,q≠b→a9.heap[q]? = w.heap[q]?)
 (Ag:a9.os=w.os) (Ah:a9.tape=w.tape) (z3:a9.output=w.output) (hm:c.size=m) (hlen : ∀e∈bh.es,e.length=bh.sz)
 (aF : ∀(j:Nat) x,bh.es.flatten[j]? = some x→ ∃v,c[j]? = some v∧gQ v=true∧Rel w (s.ok g af w) s.aw (s.aA af) x v) :
 ∃aY,aY ao 0=some (b,m)∧bQ g ((s.setRow ao [bh]).setRow r (l.set k {o with bz:= .gone})) aY a a9:=by
 have b7:r≠ao:=by rintro rfl;rw [cU] at ah;simp at ah
 have Ef : ∀k,¬s.aw ao k:=qJ cU
 let bb:=(s.setRow ao [bh]).setRow r (l.set k {o with bz:= .gone})
 let aY:de:=af.set ao 0 (some (b,m))
 have aC : ∀q j p,bb.R q j=some p→(q=ao∧j=0∧p=bh)∨(q≠ao∧s.R q j=some p∧ ¬(q=r∧j=k)):=by
  intro q j p aE
  rw [ib] at aE
  by_cases e:q=r
  ·subst e
   rw [if_pos rfl] at aE
   unfold b4 at aE
   simp only [List.getElem?_set] at aE
   by_cases au:k=j
   ·subst au
    by_cases aR:k<l.length<;>simp [aR] at aE
   ·rw [if_neg au] at aE
    refine .inr ⟨b7,?_,fun dg=>au dg.2.symm⟩
    unfold S.R;rw [ah];exact aE
  ·rw [if_neg e,ib] at aE
   by_cases au:q=ao
   ·subst au
    rw [if_pos rfl,iM] at aE
    split at aE
    ·rename_i h0;simp at aE;exact .inl ⟨rfl,h0.1,aE.symm⟩
    ·simp at aE
   ·rw [if_neg au] at aE
    exact .inr ⟨au,aE,fun dg=>e dg.1⟩
 have ir : ∀q j,q≠ao→aY q j=af q j:=fun q j aE=>by simp [aY,de.set,aE]
 have rz:aY ao 0=some (b,m):=by simp [aY,de.set]
 have lp:s.iz af b:=⟨r,k,o,m,aa,aR,ad⟩
 have gf : ∀q j,s.aw q j→bb.aw q j:=fun q j aE=>by
  have e:q≠ao:=fun e=>Ef j (e▸aE)
  rw [jw,jw,if_neg e]
  by_cases au:q=r
  ·subst au;rw [if_pos rfl];simpa [S.aw,ah] using aE
  ·rw [if_neg au];exact aE
 have ct:Step g s af w bb aY a9:=by
  refine ⟨gf,fun q j aE=> ?_,fun q av=> ?_,fun q aE av=>o6 q fun e=>av (e▸lp),Nat.le_of_eq cS.symm⟩
  ·have wv:q≠ao:=fun e=>Ef j (e▸aE)
   cases g9:bb.R q j with
   | none=>right;simp [S.aA,g9]
   | some p =>
    left
    rcases aC q j p g9 with ⟨e,-⟩|⟨-,au,-⟩
    ·exact absurd e wv
    ·simp [S.aA,g9,au,ir q j wv]
  ·obtain ⟨e4,j,p,bG,h1,I,aj⟩:=av
   rcases aC e4 j p h1 with ⟨rfl,rfl,rfl⟩|⟨e1,au,-⟩
   ·rw [rz] at aj;simp at aj;exact .inl (aj.1▸lp)
   ·rw [ir e4 j e1] at aj;exact .inl ⟨e4,j,p,bG,au,I,aj⟩
 refine ⟨aY,rz,{tofm:=⟨?_,?_,?_,?_,h.mlt,h.jB,ct.stay h.stay,h.low⟩,env:=fun t=>ct.rel (h.env t),defers:=h.defers,gz:=h.gz}⟩
 ·intro q j p g9
  rcases aC q j p g9 with ⟨rfl,rfl,rfl⟩|⟨e1,au,bB⟩
  ·rw [rz]
   exact ⟨c,cL,hw,hm,hlen,fun i x J=>let ⟨v,f1,f2,f3⟩:=aF i x J;⟨v,f1,f2,ct.rel f3⟩⟩
  ·rw [ir q j e1]
   refine ct.obj (fun gY bG h2=>o6 gY ?_) (h.obj q j p au)
   rintro rfl
   exact bB (h.inj q j p r k o gY bG m au aa h2 ad)
 ·intro q j p e4 gO hF gY fQ e7 h1 I aj aB
  rcases aC q j p h1 with ⟨rfl,rfl,rfl⟩|⟨e1,au,bB⟩<;>rcases aC e4 gO hF I with ⟨rfl,rfl,rfl⟩|⟨jm,k8,ua⟩
  ·exact ⟨rfl,rfl⟩
  ·rw [rz] at aj;simp at aj
   rw [ir e4 gO jm] at aB
   obtain ⟨rfl,rfl⟩:=aj
   exact absurd (h.inj e4 gO hF r k o b e7 m k8 aa aB ad) ua
  ·rw [rz] at aB;simp at aB
   rw [ir q j e1] at aj
   obtain ⟨rfl,rfl⟩:=aB
   exact absurd (h.inj q j p r k o b fQ m au aa aj ad) bB
  ·rw [ir q j e1] at aj;rw [ir e4 gO jm] at aB
   exact h.inj q j p e4 gO hF gY fQ e7 au k8 aj aB
 ·intro q j p gY bG h1 I
  rcases aC q j p h1 with ⟨rfl,rfl,rfl⟩|⟨e1,au,-⟩
  ·rw [rz] at I;simp at I
   rw [← I.1]
   exact h.own r k o b m aa ad
  ·rw [ir q j e1] at I;exact h.own q j p gY bG au I
 ·refine h.fj.step Ag Ah z3 (Nat.le_of_eq cS.symm) fun gY tY h2=>o6 gY ?_
  rintro rfl
  rcases h.own r k o gY m aa ad with h1|h1
  ·omega
  ·exact h2 h1
theorem ku.j0 {ok:Nat→Prop}{aw:f5}{aA:fP}{cy o sz:Nat}{es:List (List ag)}(h:ku w ok aw aA cy o sz es):
 ∃vs:List Value,vs.length=es.length*sz∧(∀(j:Nat) u,vs[j]? = some u→w.cell? ((⟨cy,o,none⟩:Addr).add j)=some u)∧(∀u∈vs,u.oneCell'=true) ∧
  ∀(j:Nat) x u,es.flatten[j]? = some x→vs[j]? = some u→Rel w ok aw aA x u:=by
 have gX:es.flatten.length=es.length*sz:=by
  have : ∀(es:List (List ag)),(∀e∈es,e.length=sz)→es.flatten.length=es.length*sz:=by
   intro es
   induction es with
   | nil=>intro _;simp
   | cons e es ih =>
    intro dg
    rw [List.flatten_cons,List.length_append,ih fun x J=>dg x (by simp [J]),dg e (by simp),List.length_cons,Nat.add_mul];omega
  exact this es h.1
 have J : ∀i,i<es.length*sz→ ∃v,∀x,es.flatten[i]? = some x→w.cell? ⟨cy,o+i,none⟩=some v∧gQ v=true∧Rel w ok aw aA x v:=by
  intro i an
  have aq:=List.getElem?_eq_getElem (l:=es.flatten) (i:=i) (by omega)
  obtain ⟨v,h1⟩:=h.2 i _ aq
  exact ⟨v,fun x J=>by rw [aq] at J;simp at J;subst J;exact h1⟩
 let vs:List Value:=(List.range (es.length*sz)).map fun i=>if an:i<es.length*sz then (J i an).choose else undef
 have rs:vs.length=es.length*sz:=by simp [vs]
 have iE : ∀(i:Nat) u x,vs[i]? = some u→es.flatten[i]? = some x→w.cell? ⟨cy,o+i,none⟩=some u∧gQ u=true∧Rel w ok aw aA x u:=by
  intro i u x hu nF
  have an:i<es.length*sz:=by
   rcases Nat.lt_or_ge i vs.length with bT|bT
   ·omega
   ·rw [List.getElem?_eq_none bT] at hu;simp at hu
  simp only [vs,List.getElem?_map,List.getElem?_range an,Option.map_some,dif_pos an,Option.some.injEq] at hu
  subst hu
  exact (J i an).choose_spec x nF
 have hex : ∀(i:Nat) u,vs[i]? = some u→ ∃x,es.flatten[i]? = some x:=by
  intro i u hu
  have an:i<es.flatten.length:=by
   rcases Nat.lt_or_ge i vs.length with bT|bT
   ·omega
   ·rw [List.getElem?_eq_none bT] at hu;simp at hu
  exact ⟨_,List.getElem?_eq_getElem an⟩
 refine ⟨vs,rs,fun j u hu=> ?_,fun u hu=> ?_,fun j x u cp hu=>(iE j u x hu cp).2.2⟩
 ·obtain ⟨x,nF⟩:=hex j u hu
  rw [mR];exact (iE j u x hu nF).1
 ·obtain ⟨j,aq⟩:=List.getElem?_of_mem hu
  obtain ⟨x,nF⟩:=hex j u aq
  exact (iE j u x aq nF).2.1
theorem HX {es aK:List (List ag)}{sz:Nat}{xs news:List Value}(J:xs.length=es.length*sz)(he:∀e∈es,e.length=sz){j:Nat}{x:ag}(h:(es++aK).flatten[j]? = some x)
 {ok:Nat→Prop} {aw:f5} {aA:fP} (h1 : ∀(j:Nat) x u,es.flatten[j]? = some x→xs[j]? = some u→Rel w ok aw aA x u) (I : ∀(j:Nat) x u,aK.flatten[j]? = some x→news[j]? = some u→Rel w ok aw aA x u)
 {u:Value} (hu:(xs++news)[j]? = some u):Rel w ok aw aA x u:=by
 have gX:es.flatten.length=es.length*sz:=by
  have : ∀(es:List (List ag)),(∀e∈es,e.length=sz)→es.flatten.length=es.length*sz:=by
   intro es
   induction es with
   | nil=>intro _;simp
   | cons e es ih =>
    intro dg
    rw [List.flatten_cons,List.length_append,ih fun x J=>dg x (by simp [J]),dg e (by simp),List.length_cons,Nat.add_mul];omega
  exact this es he
 rw [List.flatten_append,List.getElem?_append] at h
 rw [List.getElem?_append] at hu
 by_cases aq:j<es.flatten.length
 ·rw [if_pos aq] at h
  rw [if_pos (by omega)] at hu
  exact h1 j x u h hu
 ·rw [if_neg aq] at h
  rw [if_neg (by omega)] at hu
  rw [gX] at h
  rw [J] at hu
  exact I _ x u h hu
variable {P:Program}
theorem C6 (h:bQ g s af a w){sz:Nat}{x:ag}{di:dy}{aK:List (List ag)}{R:List Prop}(he:mo sz s.ax di x=some (aK,R))(aC:∀p∈R,p){v:Value}(aN:Rel w (s.ok g af w) s.aw (s.aA af) x v):
 ∃A c,v = .slice A aK.length c∧(∀e∈aK,e.length=sz)∧(aK.length=0∨ ∃cy off,A=some ⟨cy,off,none⟩∧ku w (s.ok g af w) s.aw (s.aA af) cy off sz aK):=by
 cases x with
 | isl wA es =>
  simp only [mo] at he
  split at he
  ·rename_i bZ
   subst bZ
   simp only [Option.some.injEq,Prod.mk.injEq] at he
   obtain ⟨rfl,rfl⟩:=he
   rcases aN.nj with ⟨rfl,A,c,rfl,-⟩|⟨cy,off,c,-,rfl,-,ft⟩
   ·exact ⟨A,c,rfl,by simp,.inl rfl⟩
   ·exact ⟨_,c,rfl,ft.1,.inr ⟨cy,off,rfl,ft⟩⟩
  ·simp at he
 | a6 r k bV len =>
  simp only [mo] at he
  split at he
  ·rename_i jG bC gT
   split at he
   ·rename_i bZ
    simp only [Option.some.injEq,Prod.mk.injEq] at he
    obtain ⟨rfl,rfl⟩:=he
    have fs:bV+len≤jG.es.length:=aC _ (by simp)
    have aa:s.R r k=some jG:=n0 gT (fun p ad=>aC p (by simp [ad]))
    have dj:=h.obj r k jG aa
    have av:((jG.es.drop bV).take len).length=len:=by simp;omega
    rcases aN.s9 (fz aa) with ⟨-,rfl,rfl,rfl⟩|⟨b,m,A,c,ad,rfl,my,-,hm⟩
    ·exact ⟨none,0,by simp,by simp,.inl (by simp)⟩
    ·rw [ad] at dj
     have ft:=dj.rd
     subst bZ
     have ph:=vd ft bV len (by omega)
     refine ⟨A,c,by rw [av],ph.1,?_⟩
     rcases hm with rfl|⟨rfl,-⟩
     ·left;rw [av];omega
     ·right
      rw [Nat.zero_add] at ph
      exact ⟨b,_,rfl,ph⟩
   ·simp at he
  ·simp at he
 | cg =>
  simp only [mo,Option.some.injEq,Prod.mk.injEq] at he
  obtain ⟨rfl,rfl⟩:=he
  rw [aN.lj]
  exact ⟨none,0,rfl,by simp,.inl rfl⟩
 | fX =>
  simp only [mo,Option.some.injEq,Prod.mk.injEq] at he
  obtain ⟨rfl,rfl⟩:=he
  obtain ⟨A,c,rfl⟩:=aN.vJ
  exact ⟨some A,c,rfl,by simp,.inl rfl⟩
 | _=>simp [mo] at he
structure z7 (P:Program) (w:World) (t c2 cL e:TypeId) (i:TypeInfo) (cJ jL:Value) (n:Nat) (vs:List Value):Prop where
 zero:n=0→ ∀(B:Option Addr) (len cap:Nat),len≤cap→(Builtin.append_ #[t,c2] cL #[.slice B len cap,jL]).run P w = .ok (.slice B len cap) w
 nil:0<n→(n:Int)≤9223372036854775807→n*i.bytes≤140737488355328 →
  (Builtin.append_ #[t,c2] cL #[.slice none 0 0,jL]).run P w = .ok (.slice (some ⟨w.heap.size,0,none⟩) n (grownCap w n 0 e)) (w.drew.alloc (.cells (vs.toArray++Builtin.zeroCells cJ.cells (grownCap w n 0 e-n)) e))
 room:0<n→ ∀(g fG iC:Nat) (ik:Array Value) (cN:TypeId),w.heap[g]? = some (.cells ik cN (0,0))→fG+n≤iC→fG*i.size+vs.length≤ik.size→n*i.bytes≤140737488355328 →
  (Builtin.append_ #[t,c2] cL #[.slice (some ⟨g,0,none⟩) fG iC,jL]).run P w = .ok (.slice (some ⟨g,0,none⟩) (fG+n) iC) (w.setRow g (ik.toList.take (fG*i.size)++vs++ik.toList.drop (fG*i.size+vs.length)).toArray)
 grow:0<n→ ∀(b:Addr) (fG iC:Nat) (pi:List Value),pi.length=fG*i.size→(∀(j:Nat) v,pi[j]? = some v→w.cell? (b.add j)=some v)→iC<fG+n→((fG+n:Nat):Int)≤9223372036854775807→Builtin.nextslicecap (fG+n) iC*i.bytes≤281474976710656→n*i.bytes≤140737488355328 →
  (Builtin.append_ #[t,c2] cL #[.slice (some b) fG iC,jL]).run P w = .ok (.slice (some ⟨w.heap.size,0,none⟩) (fG+n) (grownCap w (fG+n) iC e))
    (w.drew.alloc (.cells (pi.toArray++vs.toArray++Builtin.zeroCells cJ.cells (grownCap w (fG+n) iC e-(fG+n))) e))
theorem Ht (t cL e:TypeId)(i:TypeInfo)(bO:P.underlying t=some (.slice e))(an:P.info? e=some i)
 (g fG iC:Nat) (ik:Array Value) (cN:TypeId) (c1:w.heap[g]? = some (.cells ik cN (0,0)))
 (a:Addr) (m c:Nat) (news:List Value) (av:news.length=m*i.size) (Lm : ∀j u,news[j]? = some u→w.cell? (a.add j)=some u) (h1 : ∀u∈news,u.oneCell'=true)
 (nr:fG+m≤iC) (fs:fG*i.size+news.length≤ik.size) :
 (Builtin.append_ #[t,t] cL #[.slice (some ⟨g,0,none⟩) fG iC,.slice (some a) m c]).run P w =
   .ok (.slice (some ⟨g,0,none⟩) (fG+m) iC) (w.setRow g (ik.toList.take (fG*i.size)++news++ik.toList.drop (fG*i.size+news.length)).toArray):=by
 have bp:=run_firstCells_some (P:=P) w i.size m a m c news av Lm
 have iU:=run_storeCells_at P g (fG*i.size) cN news 0 ik w c1 (by simpa using fs) h1
 simp only [Nat.add_zero] at iU
 simp [Builtin.append_,run_underlying bO,sizeOf,typeInfo,an,Builtin.lenOf,nr,bp,Addr.add_lit,iU]
theorem Cv {t cL e:TypeId}{i:TypeInfo}{cJ:Value}(bO:P.underlying t=some (.slice e))(an:P.info? e=some i)(cl:i.zero=some cJ){A:Option Addr}{n c:Nat}{vs:List Value}(av:vs.length=n*i.size)
 (hA:n=0∨ ∃a,A=some a∧ ∀(j:Nat) u,vs[j]? = some u→w.cell? (a.add j)=some u) (h1 : ∀u∈vs,u.oneCell'=true):z7 P w t t cL e i cJ (.slice A n c) n vs where
 zero:=fun h0 B len cap tE=>by
  subst h0
  cases A<;>cases B<;>simp [Builtin.append_,run_underlying bO,sizeOf,typeInfo,an,Builtin.lenOf,tE,Builtin.firstCells,loadCells,loadCellsFrom,storeCells]
 nil:=fun h0 ps rA=>by
  obtain ⟨a,rfl,bY⟩:=hA.resolve_left (by omega)
  exact run_append_nil (P:=P) w t cL e i cJ bO an cl a n c vs av bY h0 ps (by omega)
 room:=fun a5 g fG iC ik cN c1 nr fs _=>by
  obtain ⟨a,rfl,bY⟩:=hA.resolve_left (by omega)
  exact Ht t cL e i bO an g fG iC ik cN c1 a n c vs av bY h1 nr fs
 grow:=fun a5 b fG iC pi aa hold c1 ps fs _=>by
  obtain ⟨a,rfl,bY⟩:=hA.resolve_left (by omega)
  exact run_append_grow (P:=P) w t cL e i cJ bO an cl b fG iC pi aa hold a n c vs av bY c1 ps fs
theorem I1 {t c2 cL e:TypeId}{i:TypeInfo}{cJ:Value}{k:IntKind}(bO:P.underlying t=some (.slice e))(kW:P.underlying c2=some (.int k))(an:P.info? e=some i)(cl:i.zero=some cJ)(il:cJ.cells.size=i.size){m:Nat}(O7:(m:Int)<9223372036854775808)
 (h1 : ∀u∈(Builtin.zeroCells cJ.cells m).toList,u.oneCell'=true):z7 P w t c2 cL e i cJ (.int .i64 m) m (Builtin.zeroCells cJ.cells m).toList:=by
 have hw:IntKind.i64.wrap (m:Int)=m:=by simp [IntKind.wrap,IntKind.bits,IntKind.signed];omega
 have rp : ¬((m:Int)<0):=by omega
 have oc : ∀bG,bG*i.size=0→Builtin.zeroCells cJ.cells bG = #[]:=fun bG hm=>by
  apply Array.eq_empty_of_size_eq_zero
  rw [size_zeroCells,il,hm]
 have Mm : ∀a9:World,(if m*i.size=0 then (pure #[]:Sem (Array Value)) else do pure (Builtin.zeroCells (← zeroValue e).cells m)).run P a9 = .ok (Builtin.zeroCells cJ.cells m) a9:=fun a9=>by
  split
  ·rename_i hm;rw [oc _ hm];rfl
  ·simp [zeroValue,typeInfo,an,cl]
 have z8 : ∀b:Nat,m*b≤140737488355328→ ¬(281474976710656<(m:Int)*(b:Int)):=fun b aM=>by
  have:((m*b:Nat):Int)≤140737488355328:=by omega
  rw [Int.natCast_mul] at this
  omega
 refine ⟨fun a5 B len cap tE=> ?_,fun a5 ps rA=> ?_,fun a5 g fG iC ik cN c1 nr fs rA=> ?_,fun a5 b fG iC pi aa hold c1 ps fs rA=> ?_⟩
 ·subst a5
  have Mn:IntKind.i64.wrap 0=0:=by simpa using hw
  cases B<;>simp [Builtin.append_,run_underlying bO,run_underlying kW,sizeOf,typeInfo,an,tE,asInt,asIntOf,Mn,storeCells]
 ·have Ev : ¬m=0:=by omega
  have tF : ¬(9223372036854775807<(m:Int)):=by omega
  have n8:=z8 _ rA
  have tG : ¬(281474976710656<Builtin.nextslicecap m 0*i.bytes):=by rw [nextslicecap_zero a5];omega
  have I:=Mm w.drew
  by_cases hm:m*i.size=0
  ·simp [Builtin.append_,run_underlying bO,run_underlying kW,sizeOf,typeInfo,zeroValue,an,cl,asInt,asIntOf,hw,rp,n8,Ev,tF,tG,Question.forced,run_firstCells_none,newRow,grownCap,hm,oc _ hm]
  ·simp [Builtin.append_,run_underlying bO,run_underlying kW,sizeOf,typeInfo,zeroValue,an,cl,asInt,asIntOf,hw,rp,n8,Ev,tF,tG,Question.forced,run_firstCells_none,newRow,grownCap,hm]
 ·have n8:=z8 _ rA
  have iU:=run_storeCells_at P g (fG*i.size) cN (Builtin.zeroCells cJ.cells m).toList 0 ik w c1 (by simpa using fs) h1
  simp only [Nat.add_zero] at iU
  by_cases hm:m*i.size=0
  ·rw [oc _ hm] at iU
   have LW:(storeCells ⟨g,fG*i.size,none⟩ []).run P w = .ok () (w.setRow g ik):=by simpa using iU
   simp [Builtin.append_,run_underlying bO,run_underlying kW,sizeOf,typeInfo,zeroValue,an,cl,asInt,asIntOf,hw,rp,n8,nr,hm,oc _ hm,Addr.add_lit,LW]
  ·simp [Builtin.append_,run_underlying bO,run_underlying kW,sizeOf,typeInfo,zeroValue,an,cl,asInt,asIntOf,hw,rp,n8,nr,hm,Addr.add_lit,iU]
 ·have n8:=z8 _ rA
  have l0 : ¬(fG+m≤iC):=by omega
  have tF : ¬(9223372036854775807<((fG:Int)+(m:Int))):=by omega
  have tG : ¬(281474976710656<Builtin.nextslicecap (fG+m) iC*i.bytes):=by omega
  have Ew:=run_firstCells_some (P:=P) w.drew i.size fG b fG iC pi aa (by simpa using hold)
  by_cases hm:m*i.size=0
  ·simp [Builtin.append_,run_underlying bO,run_underlying kW,sizeOf,typeInfo,zeroValue,an,cl,asInt,asIntOf,hw,rp,n8,l0,tF,tG,Question.forced,Ew,newRow,grownCap,hm,oc _ hm]
  ·simp [Builtin.append_,run_underlying bO,run_underlying kW,sizeOf,typeInfo,zeroValue,an,cl,asInt,asIntOf,hw,rp,n8,l0,tF,tG,Question.forced,Ew,newRow,grownCap,hm]
theorem y7 {ao:Nat}{e:TypeId}{v:Value}{i:TypeInfo}{m:Nat}(h:bQ g s af a w)(cU:s.ax ao=none){es:List (List ag)}(hlen:∀x∈es,x.length=i.size)(hm:m=es.length)
 {j0:List Value} {nN:Array Value} {cap:Nat} (rs:j0.length=es.length*i.size) (iB : ∀u∈j0,u.oneCell'=true) (Mo:nN.size=(cap-m)*i.size) (tE:m≤cap) (LX:cap<9223372036854775808)
 (dj : ∀(j:Nat) x u,es.flatten[j]? = some x→j0[j]? = some u→Rel w (s.ok g af w) s.aw (s.aA af) x u)
 (aN:v = .slice (some ⟨w.heap.size,0,none⟩) m cap) :
 ∃aY,bQ g (s.setRow ao [⟨i.size,es,.live⟩]) aY a (w.drew.alloc (.cells (j0.toArray++nN) e)) ∧
  Rel (w.drew.alloc (.cells (j0.toArray++nN) e)) ((s.setRow ao [⟨i.size,es,.live⟩]).ok g aY (w.drew.alloc (.cells (j0.toArray++nN) e))) (s.setRow ao [⟨i.size,es,.live⟩]).aw ((s.setRow ao [⟨i.size,es,.live⟩]).aA aY) (.a6 ao 0 0 m) v:=by
 have bd:=h.drew
 have gX:es.flatten.length=es.length*i.size:=by
  have : ∀(es:List (List ag)),(∀e∈es,e.length=i.size)→es.flatten.length=es.length*i.size:=by
   intro es
   induction es with
   | nil=>intro _;simp
   | cons e es ih =>
    intro dg
    rw [List.flatten_cons,List.length_append,ih fun x J=>dg x (by simp [J]),dg e (by simp),List.length_cons,Nat.add_mul];omega
  exact this es hlen
 obtain ⟨aY,p1,e5,-⟩:=bd.alloc cU ⟨i.size,es,.live⟩ rfl (j0.toArray++nN) e hlen (fun j x J=>by
  have aq:j<j0.length:=by
   rcases Nat.lt_or_ge j es.flatten.length with bT|bT
   ·omega
   ·rw [List.getElem?_eq_none bT] at J;simp at J
  refine ⟨j0[j],?_,iB _ (List.getElem_mem aq),?_⟩
  ·rw [Array.getElem?_append_left (by simpa using aq)]
   simp [aq]
  ·exact (dj j x _ J (List.getElem?_eq_getElem aq)).drew)
 refine ⟨aY,e5,?_⟩
 subst aN
 have aa:(s.setRow ao [⟨i.size,es,.live⟩]).R ao 0=some ⟨i.size,es,.live⟩:=by rw [ib,if_pos rfl,iM];simp
 refine Rel.a6 (sz:=i.size) (cy:=w.heap.size) (m:=(j0.toArray++nN).size) ((jw _ _ _ _ _).2 (by simp)) ?_ tE LX ⟨?_,.inr (by simp)⟩
 ·rw [fz aa,p1];rfl
 ·simp only [Array.size_append,List.size_toArray,Mo,rs,Nat.zero_add]
  rw [← hm,← Nat.add_mul]
  congr 1;omega
section
variable {o:Oper} {bR:dy} {ao:Nat} {aL:fp}
theorem CP (h:bQ g s af a w){t c2 cL e:TypeId}{i:TypeInfo}{z:List ag}(hu:P.underlying t=some (.slice e))(an:P.info? e=some i)(cl:mg P e=some z)(jF:z.length=i.size)(jg:i.size≠0)
 {y:ag} {di:dy} {aK:List (List ag)} {R:List Prop} (he:o7 P i.size z s.ax di t c2 y=some (aK,R)) (aC : ∀p∈R,p) {jL:Value} (aG:Rel w (s.ok g af w) s.aw (s.aA af) y jL) :
 ∃cJ vs,i.zero=some cJ∧cJ.cells.size=i.size∧z7 P w t c2 cL e i cJ jL aK.length vs∧(∀x∈aK,x.length=i.size)∧vs.length=aK.length*i.size∧(∀u∈vs,u.oneCell'=true) ∧
  ∀(j:Nat) x u,aK.flatten[j]? = some x→vs[j]? = some u→Rel w (s.ok g af w) s.aw (s.aA af) x u:=by
 obtain ⟨gw,cJ,gW,hP,pJ,oe⟩:=sT cl
 rw [an] at gW;simp at gW;subst gW
 have il:cJ.cells.size=i.size:=by rw [← jF,pJ];simp
 unfold o7 at he
 split at he
 ·rename_i Mp
  subst Mp
  obtain ⟨A,c,rfl,hlen,Ap⟩:=C6 h he aC aG
  rcases Ap with h0|⟨cy,off,rfl,ft⟩
  ·have:aK=[]:=List.length_eq_zero_iff.1 h0
   subst this
   exact ⟨cJ,[],hP,il,Cv hu an hP (by simp) (.inl rfl) (by simp),hlen,by simp,by simp,by simp⟩
  ·obtain ⟨vs,v1,v2,v3,v4⟩:=ft.j0
   exact ⟨cJ,vs,hP,il,Cv hu an hP v1 (.inr ⟨_,rfl,v2⟩) v3,hlen,v1,v3,v4⟩
 ·split at he
  ·rename_i k n aR
   simp only [Option.some.injEq,Prod.mk.injEq] at he
   obtain ⟨rfl,rfl⟩:=he
   have h0:0≤n:=aC _ (by simp)
   have ps:n<9223372036854775808:=aC _ (by simp)
   obtain ⟨m,rfl⟩:=Int.eq_ofNat_of_zero_le h0
   have Mq:jL = .int .i64 m:=by cases aG;rfl
   subst Mq
   have iE : ∀(j:Nat) u,(Builtin.zeroCells cJ.cells m).toList[j]? = some u→cJ.cells[j % i.size]? = some u:=by
    intro j u j3
    have aq:=(List.getElem?_eq_some_iff.1 j3).1
    rw [Array.length_toList,size_zeroCells,il] at aq
    have cx:j % i.size<cJ.cells.size:=by rw [il];exact Nat.mod_lt _ (by omega)
    rw [Array.getElem?_toList,Builtin.zeroCells,Array.getElem?_map,il,Array.getElem?_range] at j3
    rw [if_pos aq] at j3
    simp only [Option.map_some,Option.some.injEq] at j3
    rw [← j3,Array.getElem?_eq_getElem cx,getElem!_pos cJ.cells _ cx]
   refine ⟨cJ,(Builtin.zeroCells cJ.cells m).toList,hP,il,?_,?_,?_,?_,?_⟩
   ·simp only [List.length_replicate,Int.toNat_natCast]
    refine I1 hu aR an hP il (by omega) fun u mz=> ?_
    obtain ⟨j,aq⟩:=List.getElem?_of_mem mz
    have h1:=iE j u aq
    have cx:j % i.size<z.length:=by rw [jF];exact Nat.mod_lt _ (by omega)
    obtain ⟨v,v1,v2,-⟩:=oe _ _ (List.getElem?_eq_getElem cx)
    rw [h1] at v1
    obtain rfl:=Option.some.inj v1
    exact v2
   ·intro x J
    rw [List.mem_replicate] at J
    rw [J.2,jF]
   ·rw [Array.length_toList,size_zeroCells,il];simp
   ·intro u mz
    obtain ⟨j,aq⟩:=List.getElem?_of_mem mz
    have h1:=iE j u aq
    have cx:j % i.size<z.length:=by rw [jF];exact Nat.mod_lt _ (by omega)
    obtain ⟨v,v1,v2,-⟩:=oe _ _ (List.getElem?_eq_getElem cx)
    rw [h1] at v1
    obtain rfl:=Option.some.inj v1
    exact v2
   ·intro j x u J j3
    rw [k2 (sz:=i.size) (by omega) _ (fun cN iD=>by rw [List.mem_replicate] at iD;rw [iD.2,jF])] at J
    have h1:=iE j u j3
    cases aE:(List.replicate (Int.toNat (m:Int)) z)[j / i.size]? with
    | none=>rw [aE] at J;simp at J
    | some cN =>
     have:=List.mem_of_getElem? aE
     rw [List.mem_replicate] at this
     rw [aE,this.2] at J
     simp only [Option.bind_some] at J
     obtain ⟨v,v1,-,v3⟩:=oe _ _ J
     rw [h1] at v1
     obtain rfl:=Option.some.inj v1
     exact v3 _ _ _ _
  ·simp at he
theorem I2 (h:bQ g s af a w)(cU:s.ax ao=none){x y:ag}{mG jL:Value}{t c2:TypeId}{m:Nat}{A2:Option U}{cL:TypeId}(ae:j2 P s.E s.ax ao .append [x,y] [t,c2] (.aI m A2)=some aL)(bI:∀p∈aL.dq,p)
 (J:Rel w (s.ok g af w) s.aw (s.aA af) x mG) (aG:Rel w (s.ok g af w) s.aw (s.aA af) y jL) :
 ∃v a9 aY,(Builtin.append_ #[t,c2] cL #[mG,jL]).run P w = .ok v a9∧bQ g (s.fk aL.dI) aY a a9∧Rel a9 ((s.fk aL.dI).ok g aY a9) (s.fk aL.dI).aw ((s.fk aL.dI).aA aY) aL.val v:=by
 simp only [j2] at ae
 split at ae
 ·simp at ae
 ·rename_i e he
  have hu:=mS he
  split at ae
  ·rename_i i z an cl
   split at ae
   ·simp at ae
   ·rename_i aF
    simp only [not_or,Decidable.not_not] at aF
    obtain ⟨jF,jg,wq⟩:=aF
    split at ae
    ·simp at ae
    ·rename_i aK bC mw
     have wB:=fun ad=>CP (cL:=cL) h hu an cl jF jg mw ad aG
     by_cases KQ:True
     ·
      split at ae
      ·
       simp only [Option.some.injEq] at ae
       subst ae
       have hm:m=aK.length:=bI _ (by simp)
       have ub:m*i.bytes≤140737488355328:=bI _ (by simp)
       obtain ⟨cJ,vs,hP,il,hA,hlen,v1,v3,v4⟩:=wB (fun p ad=>bI p (by simp [ad]))
       clear wB
       rw [J.lj]
       by_cases h0:aK.length=0
       ·have:aK=[]:=List.length_eq_zero_iff.1 h0
        subst this
        obtain ⟨aY,p1,e5⟩:=h.Dr (sz:=i.size) cU
        refine ⟨_,w,aY,hA.zero h0 none 0 0 (Nat.le_refl _),e5,?_⟩
        subst hm
        have aa:(s.setRow ao [⟨i.size,[],.live⟩]).R ao 0=some ⟨i.size,[],.live⟩:=by rw [ib,if_pos rfl,iM];simp
        exact .jT (sz:=i.size) ((jw _ _ _ _ _).2 (by simp)) (by show (s.setRow ao [⟨i.size,[],.live⟩]).aA aY ao 0=_;rw [fz aa,p1])
       ··have Aq:aK.length*1≤aK.length*i.bytes:=Nat.mul_le_mul_left _ (by omega)
         rw [hm] at ub
         have fM:=hA.nil (by omega) (by omega) (by omega)
         have Ex:=grownCap_ge w aK.length 0 e
         have hle:=grownCap_le_maxLen w aK.length 0 e (by simp only [maxLen];omega)
         simp only [maxLen] at hle
         obtain ⟨aY,q1,bu⟩:=y7 (e:=e) (i:=i) (m:=m) (j0:=vs) (nN:=Builtin.zeroCells cJ.cells (grownCap w aK.length 0 e-aK.length)) (cap:=grownCap w aK.length 0 e) h cU hlen hm v1 v3
          (by rw [size_zeroCells,il,hm]) (by omega) (by omega) v4 rfl
         refine ⟨.slice (some ⟨w.heap.size,0,none⟩) m (grownCap w aK.length 0 e),_,aY,?_,q1,bu⟩
         rw [hm];exact fM
      ·
       rename_i r k len
       split at ae
       ·simp at ae
       ·rename_i row cn
        split at ae
        ·simp at ae
        ·rename_i R aC
         split at ae
         ·rename_i pt
          obtain ⟨j4,cS,b7⟩:=pt
          simp only [Option.some.injEq] at ae
          subst ae
          have aa:s.R r k=some R:=by unfold S.R;rw [cn];exact aC
          have fs:len≤R.es.length:=bI _ (by simp)
          have hm:m=len+aK.length:=bI _ (by simp)
          have ub:m*i.bytes≤140737488355328:=bI _ (by simp)
          have Aq:m*1≤m*i.bytes:=Nat.mul_le_mul_left _ (Nat.one_le_iff_ne_zero.2 wq)
          obtain ⟨cJ,vs,hP,il,hA,hlen,v1,v3,v4⟩:=wB (fun p ad=>bI p (by simp [ad]))
          clear wB
          have Pc:aK.length*i.bytes≤m*i.bytes:=Nat.mul_le_mul_right _ (by omega)
          have dj:=h.obj r k R aa
          have Ar:(R.es.take len).length=len:=by simp;omega
          have mW:(s.setRow ao [⟨i.size,R.es.take len++aK,.live⟩]).ax r=some row:=by simp [S.setRow,Ne.symm b7,cn]
          have lA : ∀aY:de,((s.setRow ao [⟨i.size,R.es.take len++aK,.live⟩]).setRow r (row.set k {R with bz:= .gone})).R ao 0=some ⟨i.size,R.es.take len++aK,.live⟩:=by
           intro _
           rw [ib,if_neg b7,ib,if_pos rfl,iM];simp
          have tH:((s.setRow ao [⟨i.size,R.es.take len++aK,.live⟩]).setRow r (row.set k {R with bz:= .gone})).aw ao 0:=by rw [jw,if_neg b7,jw,if_pos rfl];simp
          show ∃v a9 aY,_∧bQ g ((s.setRow ao [⟨i.size,R.es.take len++aK,.live⟩]).setRow r (row.set k {R with bz:= .gone})) aY a a9∧_
          rcases J.oY (fz aa) with ⟨ad,-,rfl,rfl⟩|⟨b,M,kv,iv,ad,rfl,my,nE,cu,jk⟩
          ·
           rw [ad] at dj
           simp only [ga] at dj
           have eZ:R.es.take 0++aK=aK:=by simp
           by_cases h0:aK.length=0
           ·have:aK=[]:=List.length_eq_zero_iff.1 h0
            subst this
            obtain ⟨aY,p1,e5⟩:=h.Dr (sz:=i.size) cU
            have lB:(s.setRow ao [⟨i.size,[],.live⟩]).R r k=some R:=by rw [ib,if_neg (Ne.symm b7)];exact aa
            have Ln:(s.setRow ao [⟨i.size,[],.live⟩]).ax r=some row:=by simp [S.setRow,Ne.symm b7,cn]
            obtain ⟨m8,-⟩:=e5.gone Ln lB
            have tI:R.es.take 0++([]:List (List ag))=[]:=by simp
            rw [tI]
            rw [tI] at tH lA
            refine ⟨_,w,aY,hA.zero h0 none 0 0 (Nat.le_refl _),m8,?_⟩
            subst hm
            exact .jT (sz:=i.size) tH ((fz (lA aY)).trans (by rw [p1]))
           ··have h2:m=aK.length:=by omega
             have fM:=hA.nil (by omega) (by omega) (by omega)
             have Ex:=grownCap_ge w aK.length 0 e
             have hle:=grownCap_le_maxLen w aK.length 0 e (by simp only [maxLen];omega)
             simp only [maxLen] at hle
             obtain ⟨aY,q1,bu⟩:=y7 (e:=e) (i:=i) (m:=m) (j0:=vs) (nN:=Builtin.zeroCells cJ.cells (grownCap w aK.length 0 e-aK.length)) (cap:=grownCap w aK.length 0 e) h cU hlen h2 v1 v3
              (by rw [size_zeroCells,il,h2]) (by omega) (by omega) v4 rfl
             rw [eZ]
             rw [eZ] at mW
             have lB:(s.setRow ao [⟨i.size,aK,.live⟩]).R r k=some R:=by rw [ib,if_neg (Ne.symm b7)];exact aa
             obtain ⟨m8,uA⟩:=q1.gone mW lB
             refine ⟨.slice (some ⟨w.heap.size,0,none⟩) m (grownCap w aK.length 0 e),_,aY,?_,m8,uA _ _ bu⟩
             rw [h2];exact fM
          ·
           rw [ad] at dj
           have Lo:=dj
           obtain ⟨bt,i2,g1,g2,g3,g4⟩:=dj
           have tJ : ∀e∈R.es.take len++aK,e.length=i.size:=by
            intro cN iD
            rw [List.mem_append] at iD
            rcases iD with bT|bT
            ·rw [g3 cN (List.mem_of_mem_take bT),cS]
            ·exact hlen cN bT
           have gX : ∀(es:List (List ag)),(∀e∈es,e.length=i.size)→es.flatten.length=es.length*i.size:=by
            intro es
            induction es with
            | nil=>intro _;simp
            | cons e es ih =>
             intro dg
             rw [List.flatten_cons,List.length_append,ih fun x J=>dg x (by simp [J]),dg e (by simp),List.length_cons,Nat.add_mul];omega
           by_cases h0:aK.length=0
           ·
            have:aK=[]:=List.length_eq_zero_iff.1 h0
            subst this
            have tI:R.es.take len++([]:List (List ag))=R.es.take len:=by simp
            rw [tI]
            rw [tI] at tH lA tJ
            obtain ⟨aY,p1,e5⟩:=h.turn cn aa j4 ad cU ⟨i.size,R.es.take len,.live⟩ rfl bt i2 g1 rfl (fun _ _=>rfl) rfl rfl rfl g2 tJ (fun j q aE=>by
             refine g4 j q ?_
             have aq:j<(R.es.take len).flatten.length:=by
              rcases Nat.lt_or_ge j (R.es.take len).flatten.length with bT|bT
              ·exact bT
              ·rw [List.getElem?_eq_none bT] at aE;simp at aE
             have Ey:R.es.flatten=(R.es.take len).flatten++(R.es.drop len).flatten:=by rw [← List.flatten_append,List.take_append_drop]
             rw [Ey,List.getElem?_append_left aq];exact aE)
            refine ⟨_,w,aY,hA.zero h0 kv len iv my,e5,?_⟩
            have h2:m=len:=by simpa using hm
            subst h2
            refine .a6 (sz:=i.size) (cy:=b) (m:=M) tH ((fz (lA aY)).trans (by rw [p1])) my nE ?_
            rw [← cS];exact ⟨cu,jk⟩
           ··
             have hold : ∃xs:List Value,xs.length=len*i.size∧(∀(j:Nat) u,xs[j]? = some u→w.cell? ((⟨b,0,none⟩:Addr).add j)=some u)∧(∀u∈xs,u.oneCell'=true) ∧
              ∀(j:Nat) x u,(R.es.take len).flatten[j]? = some x→xs[j]? = some u→Rel w (s.ok g af w) s.aw (s.aA af) x u:=by
              have Eg:=vd Lo.rd 0 len (by omega)
              simp only [List.drop_zero,Nat.zero_mul,Nat.add_zero] at Eg
              obtain ⟨xs,x1,ep,aP,iX⟩:=Eg.j0
              exact ⟨xs,by rw [x1,Ar,cS],ep,aP,iX⟩
             obtain ⟨xs,x1,ep,aP,iX⟩:=hold
             have Mr:xs.length=(R.es.take len).length*i.size:=by rw [Ar];exact x1
             have Ds : ∀(j:Nat) x u,(R.es.take len++aK).flatten[j]? = some x→(xs++vs)[j]? = some u→Rel w (s.ok g af w) s.aw (s.aA af) x u :=
              fun j x u Ms j3=>HX Mr (fun cN iD=>by rw [g3 cN (List.mem_of_mem_take iD),cS]) Ms iX v4 j3
             have tK:(R.es.take len++aK).length=m:=by rw [List.length_append,Ar];exact hm.symm
             by_cases nr:len+aK.length≤iv
             ·
              rcases jk with rfl|rfl
              ·omega
              ·rw [Nat.zero_mul] at *
               rw [Nat.zero_add] at cu
               have KR:len*i.size+vs.length≤bt.size:=by
                rw [v1,g2,← cu,cS,← Nat.add_mul];exact Nat.mul_le_mul_right _ nr
               have fM:=hA.room (by omega) b len iv bt i2 g1 nr KR (by omega)
               have LY:(w.setRow b (bt.toList.take (len*i.size)++vs++bt.toList.drop (len*i.size+vs.length)).toArray).heap.size=w.heap.size:=size_setRow _ _ _
               have Ez:xs=bt.toList.take (len*i.size):=by
                apply List.ext_getElem?
                intro j
                rw [List.getElem?_take]
                by_cases aq:j<len*i.size
                ·rw [if_pos aq]
                 have EA:j<xs.length:=by omega
                 have:=ep j _ (List.getElem?_eq_getElem EA)
                 rw [mR,cell_of_row w b (0+j) bt i2 (0,0) g1,Nat.zero_add] at this
                 rw [List.getElem?_eq_getElem EA,← this,Array.getElem?_toList]
                ·rw [if_neg aq,List.getElem?_eq_none (by omega)]
               obtain ⟨aY,p1,e5⟩:=h.turn cn aa j4 ad cU ⟨i.size,R.es.take len++aK,.live⟩ rfl _ i2 (setRow_heap w b bt _ i2 _ g1) LY (fun q aE=>setRow_other w b q _ aE) rfl rfl rfl
                (by rw [← g2];simp;omega) tJ (fun j q aE=>by
                  have aq:j<(xs++vs).length:=by
                   have:j<(R.es.take len++aK).flatten.length:=by
                    rcases Nat.lt_or_ge j (R.es.take len++aK).flatten.length with bT|bT
                    ·exact bT
                    ·rw [List.getElem?_eq_none bT] at aE;simp at aE
                   rw [gX _ tJ,tK] at this
                   rw [List.length_append,x1,v1,← Nat.add_mul,← hm];exact this
                  refine ⟨(xs++vs)[j],?_,?_,Ds j q _ aE (List.getElem?_eq_getElem aq)⟩
                  ·rw [List.getElem?_toArray,List.getElem?_append_left (by rw [← Ez];exact aq),← Ez]
                   exact List.getElem?_eq_getElem aq
                  ·have:=List.getElem_mem aq
                   rw [List.mem_append] at this
                   rcases this with bT|bT
                   ·exact aP _ bT
                   ·exact v3 _ bT)
               refine ⟨_,_,aY,fM,e5,?_⟩
               rw [← hm]
               refine .a6 (sz:=i.size) (cy:=b) (m:=M) tH ((fz (lA aY)).trans (by rw [p1])) (by omega) nE ⟨?_,.inr (by simp)⟩
               rw [Nat.zero_add,← cS];exact cu
             ·
              have hA : ∃pI:Addr,(kv=some pI∧ ∀(j:Nat) u,xs[j]? = some u→w.cell? (pI.add j)=some u)∨(kv=none∧len=0∧iv=0):=by
               cases kv with
               | none =>
                refine ⟨⟨0,0,none⟩,.inr ⟨rfl,?_⟩⟩
                rcases jk with bT|bT
                ·omega
                ·simp at bT
               | some pI =>
                refine ⟨pI,.inl ⟨rfl,?_⟩⟩
                rcases jk with bT|bT
                ·have:len=0:=by omega
                 have:xs=[]:=List.length_eq_zero_iff.1 (by rw [x1,this];simp)
                 intro j u aq
                 rw [this] at aq;simp at aq
                ·simp at bT;subst bT;exact ep
              have Ex:=grownCap_ge w (len+aK.length) iv e
              have hle:=grownCap_le_maxLen w (len+aK.length) iv e (by simp only [maxLen];omega)
              simp only [maxLen] at hle
              have fM:(Builtin.append_ #[t,c2] cL #[.slice kv len iv,jL]).run P w = .ok (.slice (some ⟨w.heap.size,0,none⟩) (len+aK.length) (grownCap w (len+aK.length) iv e))
               (w.drew.alloc (.cells ((xs++vs).toArray++Builtin.zeroCells cJ.cells (grownCap w (len+aK.length) iv e-(len+aK.length))) e)):=by
               have LZ:(xs++vs).toArray=xs.toArray++vs.toArray:=by apply Array.ext';simp
               rw [LZ]
               obtain ⟨pI,⟨rfl,Mt⟩|⟨rfl,kq,wz⟩⟩:=hA
               ·exact hA.grow (by omega) pI len iv xs x1 Mt (by omega) (by omega) (growslice_fits (by omega) (by rw [← hm];exact ub)) (by omega)
               ·subst kq;subst wz
                have Mu:xs=[]:=List.length_eq_zero_iff.1 (by rw [x1];simp)
                subst Mu
                have:=hA.nil (by omega) (by omega) (by omega)
                simpa using this
              obtain ⟨aY,q1,bu⟩:=y7 (e:=e) (i:=i) (m:=m) (j0:=xs++vs) (nN:=Builtin.zeroCells cJ.cells (grownCap w (len+aK.length) iv e-(len+aK.length))) (cap:=grownCap w (len+aK.length) iv e) h cU tJ tK.symm
               (by rw [List.length_append,x1,v1,tK,hm,Nat.add_mul]) (fun u hu=>by
                 rw [List.mem_append] at hu
                 rcases hu with bT|bT
                 ·exact aP _ bT
                 ·exact v3 _ bT) (by rw [size_zeroCells,il,hm]) (by omega) (by omega) Ds rfl
              have lB:(s.setRow ao [⟨i.size,R.es.take len++aK,.live⟩]).R r k=some R:=by rw [ib,if_neg (Ne.symm b7)];exact aa
              obtain ⟨m8,uA⟩:=q1.gone mW lB
              refine ⟨.slice (some ⟨w.heap.size,0,none⟩) m (grownCap w (len+aK.length) iv e),_,aY,?_,m8,uA _ _ bu⟩
              rw [hm];exact fM
         ·simp at ae
      ·simp at ae
     ·exact absurd trivial KQ
  ·simp at ae
end
end
section
variable {P:Program} {g:G} {s:S} {af:de} {a:Act} {w:World}
theorem s5 {sz:Nat}: ∀ {es:List (List ag)},(∀e∈es,e.length=sz)→es.flatten.length=es.length*sz
 | [],_=>by simp
 | e::es,h=>by
  rw [List.flatten_cons,List.length_append,s5 fun x J=>h x (by simp [J]),h e (by simp),List.length_cons,Nat.add_mul];omega
theorem bQ.putAt (h:bQ g s af a w){r k p b M:Nat}{row:List U}{R:U}(ah:s.ax r=some row)(aa:s.R r k=some R)(aR:R.bz = .live)(ir:af r k=some (b,M)){aK ea:List (List ag)}{vs:List Value}
 (hlen : ∀x∈aK,x.length=R.sz) (v1:vs.length=aK.length*R.sz) (v3 : ∀u∈vs,u.oneCell'=true) (v4 : ∀(j:Nat) x u,aK.flatten[j]? = some x→vs[j]? = some u→Rel w (s.ok g af w) s.aw (s.aA af) x u)
 (ad:p+aK.length≤R.es.length) (q:Nat) (eZ:ea=(R.es.take p++aK++R.es.drop (p+aK.length)).take q) :
 ∃bt i2,w.heap[b]? = some (.cells bt i2 (0,0))∧bt.size=M∧R.es.length*R.sz≤M∧p*R.sz+vs.length≤bt.size ∧
  bQ g (s.setRow r (row.set k {R with es:=ea})) af a (w.setRow b (bt.toList.take (p*R.sz)++vs++bt.toList.drop (p*R.sz+vs.length)).toArray) ∧
  ∀x v,Rel w (s.ok g af w) s.aw (s.aA af) x v→Rel (w.setRow b (bt.toList.take (p*R.sz)++vs++bt.toList.drop (p*R.sz+vs.length)).toArray) ((s.setRow r (row.set k {R with es:=ea})).ok g af (w.setRow b (bt.toList.take (p*R.sz)++vs++bt.toList.drop (p*R.sz+vs.length)).toArray)) (s.setRow r (row.set k {R with es:=ea})).aw ((s.setRow r (row.set k {R with es:=ea})).aA af) x v:=by
 have dj:=h.obj r k R aa
 rw [ir] at dj
 obtain ⟨bt,i2,g1,g2,g3,g4⟩:=dj
 have gX:=s5 g3
 have cu:R.es.length*R.sz≤M:=by
  rcases Nat.eq_zero_or_pos R.es.flatten.length with h0|jg
  ·omega
  ·obtain ⟨v,e1,-⟩:=g4 (R.es.flatten.length-1) _ (List.getElem?_eq_getElem (by omega))
   have:=(Array.getElem?_eq_some_iff.1 e1).1
   omega
 have hmul:p*R.sz+aK.length*R.sz≤R.es.length*R.sz:=by rw [← Nat.add_mul];exact Nat.mul_le_mul_right _ ad
 have fs:p*R.sz+vs.length≤bt.size:=by omega
 refine ⟨bt,i2,g1,g2,cu,fs,?_⟩
 have L0 : ∀e∈R.es.take p++aK++R.es.drop (p+aK.length),e.length=R.sz:=by
  intro e he
  simp only [List.mem_append] at he
  rcases he with (he|he)|he
  ·exact g3 e (List.mem_of_mem_take he)
  ·exact hlen e he
  ·exact g3 e (List.mem_of_mem_drop he)
 have hA:(R.es.take p).flatten.length=p*R.sz:=by rw [s5 fun e he=>g3 e (List.mem_of_mem_take he),List.length_take];congr 1;omega
 have pL:(R.es.take (p+aK.length)).flatten.length=p*R.sz+aK.length*R.sz:=by rw [s5 fun e he=>g3 e (List.mem_of_mem_take he),List.length_take,← Nat.add_mul];congr 1;omega
 have Np:aK.flatten.length=aK.length*R.sz:=s5 hlen
 have h1 : ∀j,j<p*R.sz→(R.es.take p).flatten[j]? = R.es.flatten[j]? := fun j aq=>by
  conv=>rhs;rw [← List.take_append_drop p R.es,List.flatten_append,List.getElem?_append_left (by omega)]
 have I : ∀j,(R.es.drop (p+aK.length)).flatten[j]? = R.es.flatten[p*R.sz+aK.length*R.sz+j]? := fun j=>by
  conv=>rhs;rw [← List.take_append_drop (p+aK.length) R.es,List.flatten_append,List.getElem?_append_right (by omega),pL]
  congr 1;omega
 refine h.write ah aa aR ir ea _ i2 (setRow_heap w b bt _ i2 _ g1) (size_setRow _ _ _) (fun q aE=>setRow_other w b q _ aE) rfl rfl rfl (by rw [← g2];simp;omega) ?_ ?_
 ·intro e he
  rw [eZ] at he
  exact L0 e (List.mem_of_mem_take he)
 ·intro j x J
  have cp:(R.es.take p++aK++R.es.drop (p+aK.length)).flatten[j]? = some x:=by
   rw [eZ] at J
   have aq:=(List.getElem?_eq_some_iff.1 J).1
   conv=>lhs;rw [← List.take_append_drop q (R.es.take p++aK++R.es.drop (p+aK.length)),List.flatten_append,List.getElem?_append_left aq]
   exact J
  rw [List.flatten_append,List.flatten_append] at cp
  simp only [List.getElem?_toArray]
  have fO:(bt.toList.take (p*R.sz)).length=p*R.sz:=by rw [List.length_take,Array.length_toList];omega
  by_cases bS:j<p*R.sz
  ·rw [List.append_assoc,List.getElem?_append_left (by omega),h1 j bS] at cp
   obtain ⟨v,e1,au,bB⟩:=g4 j x cp
   refine ⟨v,?_,au,bB⟩
   rw [List.append_assoc,List.getElem?_append_left (by omega),List.getElem?_take,if_pos bS,Array.getElem?_toList];exact e1
  ·by_cases dh:j<p*R.sz+vs.length
   ·rw [List.append_assoc,List.getElem?_append_right (by omega),hA,List.getElem?_append_left (by omega)] at cp
    have aN:j-p*R.sz<vs.length:=by omega
    refine ⟨vs[j-p*R.sz],?_,v3 _ (List.getElem_mem aN),v4 _ _ _ cp (List.getElem?_eq_getElem aN)⟩
    rw [List.append_assoc,List.getElem?_append_right (by omega),fO,List.getElem?_append_left (by omega)]
    exact List.getElem?_eq_getElem aN
   ·rw [List.getElem?_append_right (by rw [List.length_append];omega),List.length_append,hA,Np,I] at cp
    rw [show p*R.sz+aK.length*R.sz+(j-(p*R.sz+aK.length*R.sz))=j by omega] at cp
    obtain ⟨v,e1,au,bB⟩:=g4 j x cp
    refine ⟨v,?_,au,bB⟩
    rw [List.getElem?_append_right (by rw [List.length_append];omega),List.length_append,fO,List.getElem?_drop,Array.getElem?_toList]
    rw [show p*R.sz+vs.length+(j-(p*R.sz+vs.length))=j by omega];exact e1
end
section
variable {P:Program} {g:G} {s:S} {af:de} {a:Act} {w:World} {ao:Nat} {aL:fp}
theorem Kj (h:bQ g s af a w){x y:ag}{mG jL:Value}{t c2 cL:TypeId}(ae:j2 P s.E s.ax ao .append [x,y] [t,c2] .gE=some aL)(bI:∀p∈aL.dq,p)
 (J:Rel w (s.ok g af w) s.aw (s.aA af) x mG) (aG:Rel w (s.ok g af w) s.aw (s.aA af) y jL) :
 ∃v a9,(Builtin.append_ #[t,c2] cL #[mG,jL]).run P w = .ok v a9∧bQ g (s.fk aL.dI) af a a9∧Rel a9 ((s.fk aL.dI).ok g af a9) (s.fk aL.dI).aw ((s.fk aL.dI).aA af) aL.val v:=by
 simp only [j2] at ae
 split at ae
 ·simp at ae
 ·rename_i e he
  have hu:=mS he
  split at ae
  ·rename_i i z an cl
   split at ae
   ·simp at ae
   ·rename_i aF
    simp only [not_or,Decidable.not_not] at aF
    obtain ⟨jF,jg,wq⟩:=aF
    split at ae
    ·simp at ae
    ·rename_i aK bC mw
     split at ae
     ·rename_i r k len
      split at ae
      ·simp at ae
      ·rename_i row cn
       split at ae
       ·simp at ae
       ·rename_i R aC
        split at ae
        ·rename_i pt
         obtain ⟨j4,cS⟩:=pt
         simp only [Option.some.injEq] at ae
         subst ae
         have aa:s.R r k=some R:=by unfold S.R;rw [cn];exact aC
         have fs:len+aK.length≤R.es.length:=bI _ (by simp)
         have ub:aK.length*i.bytes≤140737488355328:=bI _ (by simp)
         obtain ⟨cJ,vs,hP,il,hA,hlen,v1,v3,v4⟩:=CP (cL:=cL) h hu an cl jF jg mw (fun p ad=>bI p (by simp [ad])) aG
         rw [← cS] at v1
         have Lp : ∀x∈aK,x.length=R.sz:=fun x J=>by rw [hlen x J,cS]
         have eZ:R.es.take len++aK=(R.es.take len++aK++R.es.drop (len+aK.length)).take (len+aK.length) :=
          (List.take_left' (by rw [List.length_append,List.length_take];omega)).symm
         rcases J.oY (fz aa) with ⟨ad,-,rfl,rfl⟩|⟨b,M,kv,iv,ad,rfl,my,nE,cu,jk⟩
         ·have dj:=h.obj r k R aa
          rw [ad] at dj
          simp only [ga] at dj
          rw [dj] at fs
          have h0:aK.length=0:=by simp at fs;exact List.length_eq_zero_iff.2 fs
          have pu:aK=[]:=List.length_eq_zero_iff.1 h0
          subst pu
          have Lq:row.set k {R with es:=R.es.take 0++[]}=row:=by
           have h1:({R with es:=R.es.take 0++[]}:U)=R:=by cases R;simp only [] at dj;subst dj;rfl
           rw [h1]
           have I:row[k]? = some R:=by
            unfold b4 at aC
            simp only at aC
            split at aC
            ·rename_i bh cw
             split at aC
             ·simp at aC
             ·simp at aC;rw [← aC];exact cw
            ·simp at aC
           exact List.ext_getElem? fun j=>by
            rw [List.getElem?_set]
            split
            ·rename_i e;subst e
             have:=(List.getElem?_eq_some_iff.1 I).1
             rw [if_pos this,I]
            ·rfl
          refine ⟨_,w,hA.zero h0 none 0 0 (Nat.le_refl _),?_⟩
          have c6:s.setRow r row=s:=by
           have:(fun q=>if q=r then some row else s.ax q)=s.ax:=by
            funext q;split
            ·rename_i e;rw [e,cn]
            ·rfl
           show ({s with ax:=_}:S)=s
           rw [this]
          show bQ g (s.setRow r (row.set k {R with es:=R.es.take 0++[]})) af a w∧Rel w ((s.setRow r (row.set k {R with es:=R.es.take 0++[]})).ok g af w) (s.setRow r (row.set k {R with es:=R.es.take 0++[]})).aw ((s.setRow r (row.set k {R with es:=R.es.take 0++[]})).aA af) (.a6 r k 0 0) (.slice none 0 0)
          rw [Lq,c6]
          exact ⟨h,J⟩
         ·obtain ⟨bt,i2,bS,dh,i6,m9,kw,mb⟩:=h.putAt cn aa j4 ad Lp v1 v3 v4 fs (len+aK.length) eZ
          have hle:R.es.length≤iv:=by
           rw [Nat.zero_add] at cu
           rw [← cu] at i6
           exact Nat.le_of_mul_le_mul_right i6 (by omega)
          by_cases wz:iv=0
          ·have h0:aK.length=0:=by omega
           have kq:len=0:=by omega
           subst kq
           have pu:aK=[]:=List.length_eq_zero_iff.1 h0
           subst pu
           have As:vs=[]:=List.length_eq_zero_iff.1 (by simpa using v1)
           subst As
           have hw:w.setRow b (bt.toList.take (0*R.sz)++[]++bt.toList.drop (0*R.sz+0)).toArray=w:=by
            simp only [Nat.zero_mul,List.take_zero,List.nil_append,Nat.zero_add,List.drop_zero,Array.toArray_toList]
            exact setRow_self w b bt i2 (0,0) bS
           simp only [List.length_nil] at kw mb
           rw [hw] at kw mb
           exact ⟨_,w,hA.zero h0 kv 0 iv (Nat.zero_le _),kw,mb _ _ J⟩
          ·have uc:kv=some ⟨b,0,none⟩:=by
            rcases jk with bT|bT
            ·exact absurd bT wz
            ·simpa using bT
           subst uc
           by_cases h0:aK.length=0
           ·have pu:aK=[]:=List.length_eq_zero_iff.1 h0
            subst pu
            have As:vs=[]:=List.length_eq_zero_iff.1 (by simpa using v1)
            subst As
            have hw:w.setRow b (bt.toList.take (len*R.sz)++[]++bt.toList.drop (len*R.sz+0)).toArray=w:=by
             simp only [List.append_nil,Nat.add_zero,List.take_append_drop,Array.toArray_toList]
             exact setRow_self w b bt i2 (0,0) bS
            simp only [List.length_nil] at kw mb
            rw [hw] at kw mb
            exact ⟨_,w,hA.zero h0 _ len iv my,kw,mb _ _ J⟩
           ·have fM:=hA.room (by omega) b len iv bt i2 bS (by omega) (by rw [← cS];exact m9) ub
            rw [← cS] at fM
            refine ⟨_,_,fM,kw,?_⟩
            have tC:(s.setRow r (row.set k {R with es:=R.es.take len++aK})).R r k=some {R with es:=R.es.take len++aK}:=by
             rw [ib,if_pos rfl,C4 row k R _ aC (by simp [j4]),if_pos rfl]
            show Rel _ ((s.setRow r (row.set k {R with es:=R.es.take len++aK})).ok g af _) (s.setRow r (row.set k {R with es:=R.es.take len++aK})).aw ((s.setRow r (row.set k {R with es:=R.es.take len++aK})).aA af) (.a6 r k 0 (len+aK.length)) _
            refine .a6 (sz:=R.sz) (cy:=b) (m:=M) (vx tC) ((fz tC).trans (by rw [ad])) (by omega) nE ⟨cu,.inr (by simp)⟩
        ·simp at ae
     ·simp at ae
  ·simp at ae
end
section
variable {P:Program} {g:G} {s:S} {af:de} {a:Act} {w:World} {ao:Nat} {aL:fp}
theorem Cj {s:S}{r k:Nat}{row:List U}{R:U}(ah:s.ax r=some row)(aa:b4 (some row) k=some R):s.setRow r (row.set k R)=s:=by
 have I:row[k]? = some R:=by
  unfold b4 at aa
  simp only at aa
  split at aa
  ·rename_i bh cw
   split at aa
   ·simp at aa
   ·simp at aa;rw [← aa];exact cw
  ·simp at aa
 have aj:row.set k R=row:=List.ext_getElem? fun j=>by
  rw [List.getElem?_set]
  split
  ·rename_i e;subst e
   have:=(List.getElem?_eq_some_iff.1 I).1
   rw [if_pos this,I]
  ·rfl
 rw [aj]
 have:(fun q=>if q=r then some row else s.ax q)=s.ax:=by
  funext q;split
  ·rename_i e;rw [e,ah]
  ·rfl
 show ({s with ax:=_}:S)=s
 rw [this]
theorem I3 {e:TypeId}{i:TypeInfo}{z:List ag}{cJ:Value}(il:cJ.cells.size=i.size)(jF:z.length=i.size)(jg:i.size≠0)
 (oe : ∀(j:Nat) x,z[j]? = some x→ ∃v,cJ.cells[j]? = some v∧gQ v=true∧ ∀(w:World) (ok:Nat→Prop) (aw:f5) (aA:fP),Rel w ok aw aA x v) (m:Nat) :
 (Builtin.zeroCells cJ.cells m).toList.length=m*i.size∧(∀u∈(Builtin.zeroCells cJ.cells m).toList,u.oneCell'=true) ∧
   ∀(j:Nat) x u,(List.replicate m z).flatten[j]? = some x→(Builtin.zeroCells cJ.cells m).toList[j]? = some u→ ∀(w:World) (ok:Nat→Prop) (aw:f5) (aA:fP),Rel w ok aw aA x u:=by
 have iE : ∀(j:Nat) u,(Builtin.zeroCells cJ.cells m).toList[j]? = some u→cJ.cells[j % i.size]? = some u:=by
  intro j u j3
  have aq:=(List.getElem?_eq_some_iff.1 j3).1
  rw [Array.length_toList,size_zeroCells,il] at aq
  have cx:j % i.size<cJ.cells.size:=by rw [il];exact Nat.mod_lt _ (by omega)
  rw [Array.getElem?_toList,Builtin.zeroCells,Array.getElem?_map,il,Array.getElem?_range] at j3
  rw [if_pos aq] at j3
  simp only [Option.map_some,Option.some.injEq] at j3
  rw [← j3,Array.getElem?_eq_getElem cx,getElem!_pos cJ.cells _ cx]
 refine ⟨?_,?_,?_⟩
 ·rw [Array.length_toList,size_zeroCells,il]
 ·intro u mz
  obtain ⟨j,aq⟩:=List.getElem?_of_mem mz
  have h1:=iE j u aq
  have cx:j % i.size<z.length:=by rw [jF];exact Nat.mod_lt _ (by omega)
  obtain ⟨v,v1,v2,-⟩:=oe _ _ (List.getElem?_eq_getElem cx)
  rw [h1] at v1
  obtain rfl:=Option.some.inj v1
  exact v2
 ·intro j x u J j3
  rw [k2 (sz:=i.size) (by omega) _ (fun cN iD=>by rw [List.mem_replicate] at iD;rw [iD.2,jF])] at J
  have h1:=iE j u j3
  cases aE:(List.replicate m z)[j / i.size]? with
  | none=>rw [aE] at J;simp at J
  | some cN =>
   have:=List.mem_of_getElem? aE
   rw [List.mem_replicate] at this
   rw [aE,this.2] at J
   simp only [Option.bind_some] at J
   obtain ⟨v,v1,-,v3⟩:=oe _ _ J
   rw [h1] at v1
   obtain rfl:=Option.some.inj v1
   exact v3
theorem JP (h:bQ g s af a w){r k len:Nat}{y:ag}{mG jL:Value}{t c2 cL:TypeId}{bR:dy}(ae:j2 P s.E s.ax ao .copy [.a6 r k 0 len,y] [t,c2] bR=some aL)(bI:∀p∈aL.dq,p)
 (J:Rel w (s.ok g af w) s.aw (s.aA af) (.a6 r k 0 len) mG) (aG:Rel w (s.ok g af w) s.aw (s.aA af) y jL) :
 ∃n a9,(Builtin.copy_ #[t,c2] cL #[mG,jL]).run P w = .ok (goInt n) a9∧bQ g (s.fk aL.dI) af a a9∧aL.val = .n .i64 n:=by
 simp only [j2] at ae
 split at ae
 ·simp at ae
 ·rename_i e he
  have hu:=mS he
  split at ae
  ·simp at ae
  ·rename_i i an
   split at ae
   ·simp at ae
   ·rename_i aK bC mw
    split at ae
    ·simp at ae
    ·rename_i row cn
     split at ae
     ·simp at ae
     ·rename_i R aC
      split at ae
      ·rename_i pt
       obtain ⟨j4,cS,jg⟩:=pt
       simp only [Option.some.injEq] at ae
       subst ae
       have aa:s.R r k=some R:=by unfold S.R;rw [cn];exact aC
       have fs:aK.length≤len:=bI _ (by simp)
       have hle:len≤R.es.length:=bI _ (by simp)
       obtain ⟨A,c,rfl,hlen,Ap⟩:=C6 h mw (fun p ad=>bI p (by simp [ad])) aG
       show ∃n a9,_∧bQ g (s.setRow r (row.set k {R with es:=aK++R.es.drop aK.length})) af a a9∧_
       by_cases h0:aK.length=0
       ·have pu:aK=[]:=List.length_eq_zero_iff.1 h0
        subst pu
        refine ⟨0,w,?_,?_,rfl⟩
        ·rcases J.oY (fz aa) with ⟨-,-,rfl,rfl⟩|⟨b,M,kv,iv,-,rfl,-,-,-,-⟩
         ·cases A<;>simp [Builtin.copy_,run_underlying hu,sizeOf,typeInfo,an,Builtin.lenOf,Builtin.firstCells,loadCells,loadCellsFrom]
         ·cases A<;>cases kv<;>simp [Builtin.copy_,run_underlying hu,sizeOf,typeInfo,an,Builtin.lenOf,Builtin.firstCells,loadCells,loadCellsFrom,storeCells]
        ·rw [show ({R with es:=[]++R.es.drop ([]:List (List ag)).length}:U)=R from rfl,Cj cn aC];exact h
       ·obtain ⟨cy,off,rfl,ft⟩:=Ap.resolve_left h0
        obtain ⟨vs,v1,v2,v3,v4⟩:=ft.j0
        rw [← cS] at v1
        rcases J.oY (fz aa) with ⟨-,-,rfl,-⟩|⟨b,M,kv,iv,ad,rfl,my,nE,cu,jk⟩
        ·exact absurd (Nat.le_zero.1 fs) h0
        ·have uc:kv=some ⟨b,0,none⟩:=by
          rcases jk with bT|bT
          ·exact absurd (show aK.length=0 by omega) h0
          ·simpa using bT
         subst uc
         obtain ⟨bt,i2,bS,dh,i6,m9,kw,-⟩:=h.putAt (p:=0) cn aa j4 ad (fun x J=>by rw [hlen x J,cS]) v1 v3 v4 (by omega) R.es.length (ea:=aK++R.es.drop aK.length)
          (by rw [List.take_zero,List.nil_append,Nat.zero_add];exact (List.take_of_length_le (by simp;omega)).symm)
         simp only [Nat.zero_mul,Nat.zero_add,List.take_zero,List.nil_append] at m9 kw
         have av:=run_firstCells_some (P:=P) w i.size aK.length ⟨cy,off,none⟩ aK.length c vs (by rw [v1,cS]) v2
         have iU:=run_storeCells_at P b 0 i2 vs 0 bt w bS (by simpa using m9) v3
         simp only [Nat.add_zero,List.take_zero,List.nil_append,Nat.zero_add] at iU
         refine ⟨aK.length,_,?_,kw,rfl⟩
         simp [Builtin.copy_,run_underlying hu,sizeOf,typeInfo,an,Builtin.lenOf,Nat.min_eq_left fs,av,iU]
      ·simp at ae
theorem Jp (h:bQ g s af a w){r k len:Nat}{mG:Value}{t cL:TypeId}{bR:dy}(ae:j2 P s.E s.ax ao .clear [.a6 r k 0 len] [t] bR=some aL)(bI:∀p∈aL.dq,p)
 (J:Rel w (s.ok g af w) s.aw (s.aA af) (.a6 r k 0 len) mG) :
 ∃a9,(Builtin.clear_ #[t] cL #[mG]).run P w = .ok (.tuple #[]) a9∧bQ g (s.fk aL.dI) af a a9∧aL.val = .dx []:=by
 simp only [j2] at ae
 split at ae
 ·simp at ae
 ·rename_i e he
  have hu:=mS he
  split at ae
  ·rename_i i z an cl
   split at ae
   ·simp at ae
   ·rename_i row cn
    split at ae
    ·simp at ae
    ·rename_i R aC
     split at ae
     ·rename_i pt
      obtain ⟨j4,cS,jF,jg⟩:=pt
      simp only [Option.some.injEq] at ae
      subst ae
      have aa:s.R r k=some R:=by unfold S.R;rw [cn];exact aC
      have hle:R.es.length=len:=bI _ (by simp)
      show ∃a9,_∧bQ g (s.setRow r (row.set k {R with es:=List.replicate len z})) af a a9∧_
      by_cases h0:len=0
      ·subst h0
       refine ⟨w,?_,?_,rfl⟩
       ·rcases J.oY (fz aa) with ⟨-,-,-,rfl⟩|⟨b,M,kv,iv,-,rfl,-,-,-,-⟩
        ·simp [Builtin.clear_,run_underlying hu]
        ·cases kv<;>simp [Builtin.clear_,run_underlying hu]
       ·rw [show ({R with es:=List.replicate 0 z}:U)=R by rw [List.replicate_zero,← List.length_eq_zero_iff.1 hle],Cj cn aC];exact h
      ·obtain ⟨gw,cJ,gW,hP,pJ,oe⟩:=sT cl
       rw [an] at gW;simp at gW;subst gW
       have il:cJ.cells.size=i.size:=by rw [← jF,pJ];simp
       rcases J.oY (fz aa) with ⟨-,-,rfl,-⟩|⟨b,M,kv,iv,ad,rfl,my,nE,cu,jk⟩
       ·exact absurd rfl h0
       ·have uc:kv=some ⟨b,0,none⟩:=by
         rcases jk with bT|bT
         ·exact absurd (show len=0 by omega) h0
         ·simpa using bT
        subst uc
        obtain ⟨v1,v3,v4⟩:=I3 (e:=e) il jF jg oe len
        rw [← cS] at v1
        obtain ⟨bt,i2,bS,dh,i6,m9,kw,-⟩:=h.putAt (p:=0) (aK:=List.replicate len z) cn aa j4 ad (fun x J=>by rw [List.mem_replicate] at J;rw [J.2,jF,cS]) (by simpa using v1) v3 (fun j x u h1 I=>v4 j x u h1 I _ _ _ _)
         (by simp;omega) len (ea:=List.replicate len z)
         (by simp [hle])
        simp only [Nat.zero_mul,Nat.zero_add,List.take_zero,List.nil_append] at m9 kw
        have iU:=run_storeCells_at P b 0 i2 (Builtin.zeroCells cJ.cells len).toList 0 bt w bS (by simpa using m9) v3
        simp only [Nat.add_zero,List.take_zero,List.nil_append,Nat.zero_add] at iU
        refine ⟨_,?_,kw,rfl⟩
        cases len with
        | zero=>exact absurd rfl h0
        | succ n=>simp [Builtin.clear_,run_underlying hu,zeroValue,typeInfo,an,hP,iU]
     ·simp at ae
  ·simp at ae
end
section
variable {g:G} {s:S} {af:de} {a:Act} {w:World}
def hY (row:List U):List U:=row.map fun o=>if o.bz = .live then {o with bz:= .ko} else o
theorem C7 (row:List U)(k:Nat):b4 (some (hY row)) k=(b4 (some row) k).map fun o=>if o.bz = .live then {o with bz:= .ko} else o:=by
 simp only [b4,hY,List.getElem?_map]
 cases row[k]? with
 | none=>rfl
 | some o =>
  obtain ⟨sz,es,bz⟩:=o
  cases bz<;>simp
theorem bQ.freeze (h:bQ g s af a w){r:Nat}{row:List U}(ah:s.ax r=some row):bQ g (s.setRow r (hY row)) af a w:=by
 have aC : ∀q k o,(s.setRow r (hY row)).R q k=some o→ ∃p,s.R q k=some p∧o.sz=p.sz∧o.es=p.es∧(o.bz = .live→p.bz = .live∧q≠r):=by
  intro q k o aa
  by_cases e:q=r
  ·subst e
   have:(s.setRow q (hY row)).ax q=some (hY row):=by simp [S.setRow]
   unfold S.R at aa
   rw [this,C7] at aa
   rw [Option.map_eq_some_iff] at aa
   obtain ⟨p,ad,rfl⟩:=aa
   refine ⟨p,by unfold S.R;rw [ah];exact ad,?_⟩
   split<;>simp_all
  ·have:(s.setRow r (hY row)).ax q=s.ax q:=by simp [S.setRow,e]
   unfold S.R at aa
   rw [this] at aa
   exact ⟨o,aa,rfl,rfl,fun av=>⟨av,e⟩⟩
 have gf : ∀q k,s.aw q k→(s.setRow r (hY row)).aw q k:=vc s ah (by simp [hY])
 have hZ : ∀q k,(s.setRow r (hY row)).aA af q k=s.aA af q k:=by
  intro q k
  by_cases e:q=r
  ·subst e
   simp only [S.aA,S.R]
   have:(s.setRow q (hY row)).ax q=some (hY row):=by simp [S.setRow]
   rw [this,C7,ah]
   cases b4 (some row) k with
   | none=>rfl
   | some o=>simp only [Option.map_some,Option.some.injEq,Prod.mk.injEq,and_true];split<;>rfl
  ·have:(s.setRow r (hY row)).ax q=s.ax q:=by simp [S.setRow,e]
   simp [S.aA,S.R,this]
 have ct:Step g s af w (s.setRow r (hY row)) af w:=⟨gf,fun q k _=> .inl (hZ q k),fun b av=>by
  obtain ⟨q,k,o,m,h1,I,aj⟩:=av
  obtain ⟨p,p1,e5,m8,uA⟩:=aC q k o h1
  exact .inl ⟨q,k,p,m,p1,(uA I).1,aj⟩,fun _ _ _=>rfl,Nat.le_refl _⟩
 refine {tofm:=⟨?_,?_,?_,h.fj,h.mlt,h.jB,?_,h.low⟩,env:=fun t=>ct.rel (h.env t),defers:=h.defers,gz:=h.gz}
 ·intro q k o aa
  obtain ⟨p,p1,e5,m8,-⟩:=aC q k o aa
  have ad:=ct.obj (fun b m _=>rfl) (h.obj q k p p1)
  cases ir:af q k with
  | none=>rw [ir] at ad;simp only [ga] at ad ⊢;rw [m8];exact ad
  | some x =>
   obtain ⟨b,m⟩:=x
   rw [ir] at ad
   obtain ⟨c,cL,e1,au,bB,dk⟩:=ad
   exact ⟨c,cL,e1,au,by rw [e5,m8];exact bB,by rw [m8];exact dk⟩
 ·intro q k o e4 b9 bh b m bG h1 I aj aB
  obtain ⟨p,p1,-⟩:=aC q k o h1
  obtain ⟨hF,Mv,-⟩:=aC e4 b9 bh I
  exact h.inj q k p e4 b9 hF b m bG p1 Mv aj aB
 ·intro q k o b m h1 I
  obtain ⟨p,p1,-⟩:=aC q k o h1
  exact h.own q k p b m p1 I
 ·intro j k aq
  obtain ⟨e1,au⟩:=h.stay j k aq
  exact ⟨gf j k e1,by rw [hZ];exact au⟩
end
def q8 (P:Program)(t:TypeId):Bool :=
 match P.underlying t with
 | some (.pointer _)=>true
 | _=>false
def rB (P:Program)(E:Nat→ag)(ax:Nat→Option (List U))(ao:Nat)(o:Oper)(bR:dy):Option fp :=
 match o.op with
 | .call {callee:= .builtin b,args,argTypes}=>match b with
  | .len=>cT P E ax ao o bR
  | b=>j2 P E ax ao b (args.toList.map (c8 E)) argTypes.toList bR
 | .binOp op t x y _=>match bR,op,c8 E x,c8 E y with
  | .gE,.eql,.isl _ es,.cg=>if (lq P t).isSome then some {val:= .b false,dq:=[es≠[]]} else none
  | .gE,.neq,.isl _ es,.cg=>if (lq P t).isSome then some {val:= .b true,dq:=[es≠[]]} else none
  | .gE,.eql,.gM _ none,.fL=>if q8 P t then some {val:= .b true} else none
  | .gE,.neq,.gM _ none,.fL=>if q8 P t then some {val:= .b false} else none
  | .gE,.eql,.gM _ (some _),.fL=>if q8 P t then some {val:= .b false} else none
  | .gE,.neq,.gM _ (some _),.fL=>if q8 P t then some {val:= .b true} else none
  | .gE,_,_,_=>none
  | _,_,_,_=>cT P E ax ao o bR
 | .nilCheck x=>match bR,c8 E x with
  | .gE,.gM sz (some c)=>some {val:= .da sz [c] 0 0}
  | .gE,_=>none
  | _,_=>cT P E ax ao o bR
 | _=>cT P E ax ao o bR
section
variable {P:Program} {g:G} {s:S} {af:de} {a:Act} {w:World} {o:Oper} {bR:dy} {ao:Nat} {aL:fp}
theorem vL {args:Array Operand}{E:Nat→ag}{x y:ag}(h:args.toList.map (c8 E)=[x,y]): ∃p q,args = #[p,q]∧c8 E p=x∧c8 E q=y:=by
 obtain ⟨l⟩:=args
 match l,h with
 | [p,q],h=>simp at h;exact ⟨p,q,rfl,h.1,h.2⟩
theorem Kk {args:Array Operand}{E:Nat→ag}{x:ag}(h:args.toList.map (c8 E)=[x]): ∃p,args = #[p]∧c8 E p=x:=by
 obtain ⟨l⟩:=args
 match l,h with
 | [p],h=>simp at h;exact ⟨p,rfl,h⟩
theorem vp {t:TypeId}(h:q8 P t=true): ∃e,P.underlying t=some (.pointer e):=by
 unfold q8 at h
 split at h
 ·rename_i e he;exact ⟨e,he⟩
 ·simp at h
theorem Jq (h:bQ g s af a w)(cU:s.ax ao=none)(ae:rB P s.E s.ax ao o bR=some aL)(bI:∀p∈aL.dq,p):Fin P g s a w o aL:=by
 unfold rB at ae
 split at ae
 ·rename_i b args jj aa
  split at ae
  ·exact vo h cU ae bI
  ·rename_i b aM
   unfold j2 at ae
   split at ae
   ·rename_i x y t c2 m A2 hargs kn
    have pb:j2 P s.E s.ax ao .append [x,y] [t,c2] (.aI m A2)=some aL:=ae
    obtain ⟨p,q,rfl,rfl,rfl⟩:=vL hargs
    obtain ⟨l⟩:=jj
    simp only at kn
    subst kn
    obtain ⟨v,a9,aY,h1,I,aj⟩:=I2 (cL:=o.type) h cU pb bI (h.eval p) (h.eval q)
    exact ⟨v,a9,aY,.inl (by simp [execOp,aa,resolve,invoke,builtin,h1]),I,aj⟩
   ·rename_i x y t c2 hargs kn
    have pb:j2 P s.E s.ax ao .append [x,y] [t,c2] .gE=some aL:=ae
    obtain ⟨p,q,rfl,rfl,rfl⟩:=vL hargs
    obtain ⟨l⟩:=jj
    simp only at kn
    subst kn
    obtain ⟨v,a9,h1,I,aj⟩:=Kj (cL:=o.type) h pb bI (h.eval p) (h.eval q)
    exact ⟨v,a9,af,.inl (by simp [execOp,aa,resolve,invoke,builtin,h1]),I,aj⟩
   ·rename_i bR r k len y t c2 hargs kn
    have pb:j2 P s.E s.ax ao .copy [.a6 r k 0 len,y] [t,c2] bR=some aL:=ae
    obtain ⟨p,q,rfl,ad,rfl⟩:=vL hargs
    obtain ⟨l⟩:=jj
    simp only at kn
    subst kn
    have J:=h.eval p
    rw [ad] at J
    obtain ⟨n,a9,h1,I,aj⟩:=JP (cL:=o.type) h pb bI J (h.eval q)
    refine ⟨goInt n,a9,af,.inl (by simp [execOp,aa,resolve,invoke,builtin,h1]),I,?_⟩
    rw [aj];exact .n _ _
   ·rename_i bR r k len t hargs kn
    have pb:j2 P s.E s.ax ao .clear [.a6 r k 0 len] [t] bR=some aL:=ae
    obtain ⟨p,rfl,ad⟩:=Kk hargs
    obtain ⟨l⟩:=jj
    simp only at kn
    subst kn
    have J:=h.eval p
    rw [ad] at J
    obtain ⟨a9,h1,I,aj⟩:=Jp (cL:=o.type) h pb bI J
    refine ⟨.tuple #[],a9,af,.inl (by simp [execOp,aa,resolve,invoke,builtin,h1]),I,?_⟩
    rw [aj];exact .dx [] rfl (fun j x u aq=>by simp at aq)
   ·rename_i k x b9 y hargs
    split at ae
    ·rename_i aR
     simp only [Option.some.injEq] at ae
     subst ae;subst aR
     obtain ⟨p,q,rfl,ad,aE⟩:=vL hargs
     have J:=h.eval p
     have aG:=h.eval q
     rw [ad] at J;rw [aE] at aG
     refine fy (v:= .int k (if y<x then y else x)) h ?_ rfl (.n _ _)
     simp [execOp,aa,resolve,invoke,builtin,Builtin.min_,J.k5,aG.k5,Builtin.min2]
    ·simp at ae
   ·simp at ae
 ·rename_i op t x y c2 aa
  split at ae
  ·rename_i sz es J aG
   split at ae
   ·rename_i he
    obtain ⟨e,he⟩:=Option.isSome_iff_exists.1 he
    simp only [Option.some.injEq] at ae
    subst ae
    have h1:=h.eval x
    have I:=h.eval y
    rw [J] at h1;rw [aG] at I
    have b7:es≠[]:=bI _ (by simp)
    refine fy (v:= .bool false) h ?_ rfl (.b _)
    simp only [execOp,aa]
    rw [Sem.run_bind,(DH (w:=w) (mS he) b7 h1 I x y).1];rfl
   ·simp at ae
  ·rename_i sz es J aG
   split at ae
   ·rename_i he
    obtain ⟨e,he⟩:=Option.isSome_iff_exists.1 he
    simp only [Option.some.injEq] at ae
    subst ae
    have h1:=h.eval x
    have I:=h.eval y
    rw [J] at h1;rw [aG] at I
    have b7:es≠[]:=bI _ (by simp)
    refine fy (v:= .bool true) h ?_ rfl (.b _)
    simp only [execOp,aa]
    rw [Sem.run_bind,(DH (w:=w) (mS he) b7 h1 I x y).2];rfl
   ·simp at ae
  ·rename_i sz J aG
   split at ae
   ·rename_i bO
    obtain ⟨e,he⟩:=vp bO
    simp only [Option.some.injEq] at ae
    subst ae
    have h1:=h.eval x
    have I:=h.eval y
    rw [J] at h1;rw [aG] at I
    have l1:Rel w (s.ok g af w) s.aw (s.aA af) .fL (a.eval x):=by rw [h1.C5];exact .fL
    refine fy (v:= .bool true) h ?_ rfl (.b _)
    simp only [execOp,aa]
    rw [Sem.run_bind,(qX (w:=w) (r:=true) (by simp [m1,he]) l1 I x y).1];rfl
   ·simp at ae
  ·rename_i sz J aG
   split at ae
   ·rename_i bO
    obtain ⟨e,he⟩:=vp bO
    simp only [Option.some.injEq] at ae
    subst ae
    have h1:=h.eval x
    have I:=h.eval y
    rw [J] at h1;rw [aG] at I
    have l1:Rel w (s.ok g af w) s.aw (s.aA af) .fL (a.eval x):=by rw [h1.C5];exact .fL
    refine fy (v:= .bool false) h ?_ rfl (.b _)
    simp only [execOp,aa]
    rw [Sem.run_bind,(qX (w:=w) (r:=true) (by simp [m1,he]) l1 I x y).2];rfl
   ·simp at ae
  ·rename_i sz c J aG
   split at ae
   ·rename_i bO
    obtain ⟨e,he⟩:=vp bO
    simp only [Option.some.injEq] at ae
    subst ae
    have h1:=h.eval x
    have I:=h.eval y
    rw [J] at h1;rw [aG] at I
    refine fy (v:= .bool false) h ?_ rfl (.b _)
    simp only [execOp,aa]
    rw [Sem.run_bind,(qX (w:=w) (r:=false) (by simp [m1,he]) h1.zy I x y).1];rfl
   ·simp at ae
  ·rename_i sz c J aG
   split at ae
   ·rename_i bO
    obtain ⟨e,he⟩:=vp bO
    simp only [Option.some.injEq] at ae
    subst ae
    have h1:=h.eval x
    have I:=h.eval y
    rw [J] at h1;rw [aG] at I
    refine fy (v:= .bool true) h ?_ rfl (.b _)
    simp only [execOp,aa]
    rw [Sem.run_bind,(qX (w:=w) (r:=false) (by simp [m1,he]) h1.zy I x y).2];rfl
   ·simp at ae
  ·simp at ae
  ·exact vo h cU ae bI
 ·rename_i x aa
  split at ae
  ·rename_i sz c J
   simp only [Option.some.injEq] at ae
   subst ae
   have h1:=h.eval x
   rw [J] at h1
   have I:=h1.zy
   obtain ⟨cy,off,aM,hval,ft⟩:=I.q3
   refine fy (v:=a.eval x) h ?_ rfl I
   rw [hval]
   simp only [execOp,aa,hval]
   rfl
  ·simp at ae
  ·exact vo h cU ae bI
 ·exact vo h cU ae bI
end
end Go.VL
namespace Go.VL
set_option linter.unusedVariables false
set_option linter.unusedSimpArgs false
open Go
theorem nf {es:List (List ag)}{j:Nat}{x:ag}(h:es.flatten[j]? = some x): ∃e∈es,x∈e:=by
 have:=List.mem_of_getElem? h
 rw [List.mem_flatten] at this
 obtain ⟨e,he,J⟩:=this
 exact ⟨e,he,J⟩
theorem Rel.pure {w:World}{ok iS:Nat→Prop}{aw ji:f5}{aA iT:fP}{x:ag}{v:Value}(h:Rel w ok aw aA x v)(ad:Pure x)(j1:∀b,ok b→iS b):Rel w iS ji iT x v:=by
 induction h with
 | dead v=>exact .dead v
 | b x=>exact .b x
 | n k x=>exact .n k x
 | s x=>exact .s x
 | fL=>exact .fL
 | cg=>exact .cg
 | fX a c=>exact .fX a c
 | lm=>cases ad
 | ref=>cases ad
 | jx=>cases ad
 | jT=>cases ad
 | a6=>cases ad
 | jf=>cases ad
 | jY=>cases ad
 | gb sz a c h=>exact .gb sz a c h
 | isl cs aM j5 av aF hw fO ah ih =>
  cases ad with
  | isl h=>exact .isl cs (j1 _ aM) j5 av aF hw fO fun j x J=>ih j x J (by obtain ⟨e,he,l2⟩:=nf J;exact h e he x l2)
 | da cs aM j5 av hw fO ah ih =>
  cases ad with
  | da h=>exact .da cs (j1 _ aM) j5 av hw fO fun j x J=>ih j x J (by obtain ⟨e,he,l2⟩:=nf J;exact h e he x l2)
 | k6 sz=>exact .k6 sz
 | kR h ih =>
  cases ad with
  | kR ad=>exact .kR (ih (.da fun e he x J=>by rw [List.mem_singleton] at he;subst he;exact ad x J))
 | agg vs av fO ah ih =>
  cases ad with
  | agg h=>exact .agg vs av fO fun j x v J aN=>ih j x v J aN (h x (List.mem_of_getElem? J))
 | dx vs av ah ih =>
  cases ad with
  | dx h=>exact .dx vs av fun j x v J aN=>ih j x v J aN (h x (List.mem_of_getElem? J))
 | fn vs av ah ih =>
  cases ad with
  | fn h=>exact .fn vs av fun j x v J aN=>ih j x v J aN (h x (List.mem_of_getElem? J))
abbrev er:=Nat→Nat→Option (Nat×Nat)
structure Down (q:ag→Prop):Prop where
 agg : ∀c x,q (.agg c)→x∈c→q x
 dx : ∀c x,q (.dx c)→x∈c→q x
 fn : ∀f c x,q (.fn f c)→x∈c→q x
inductive e6 (s:S) (ar:er) (bl:dY→Bool) (q:ag→Prop):ag→ag→Prop
 | dead (x:ag):e6 s ar bl q x .dead
 | pure {x:ag} (h:Pure x) (aE:q x):e6 s ar bl q x x
 | cg (sz:Nat):e6 s ar bl q .cg (.isl sz [])
 | fX (sz:Nat):e6 s ar bl q .fX (.isl sz [])
 | vY (sz:Nat):e6 s ar bl q .fL (.gM sz none)
 | gM {sz:Nat} {x:ag} {c:List ag} (h:e6 s ar bl q x (.da sz [c] 0 0)):e6 s ar bl q x (.gM sz (some c))
 | ref {r k j gw:Nat} (i off:Nat) (h:ar j gw=some (r,k)) (hu:s.aw r k):e6 s ar bl q (.ref r k i off) (.ref j gw i off)
 | a6 {r k j gw:Nat} (bV len:Nat) (h:ar j gw=some (r,k)) (hu:s.aw r k):e6 s ar bl q (.a6 r k bV len) (.a6 j gw bV len)
 | jf (r c sz:Nat):e6 s ar bl q (.fH r c sz none) (.isl sz [])
 | jY {r c sz k n:Nat} {bP:ag} (h:e6 s ar bl q (.a6 r (k+c) 0 n) bP):e6 s ar bl q (.fH r c sz (some (k,n))) bP
 | fH {r cM c cq sz:Nat} (h:Option (Nat×Nat)) (hm : ∀k,ar cM (k+cq)=some (r,k+c)):e6 s ar bl q (.fH r c sz h) (.fH cM cq sz h)
 | da {r k:Nat} {o:U} {ea:List (List ag)} (i off:Nat) (aa:s.R r k=some o) (bY:bl o.bz=true) (ah:(∀j i,ar j i≠some (r,k))) (b7:o.es≠[]) (ad:hL ea) (hle : ∀e∈ea,e.length=o.sz) (av:ea.length=o.es.length)
  (h : ∀(j:Nat) x bP,o.es.flatten[j]? = some x→ea.flatten[j]? = some bP→e6 s ar bl q x bP):e6 s ar bl q (.ref r k i off) (.da o.sz ea i off)
 | isl {r k bV len:Nat} {o:U} {ea:List (List ag)} (aa:s.R r k=some o) (bY:bl o.bz=true) (ah:(∀j i,ar j i≠some (r,k))) (fs:bV+len≤o.es.length) (ad:hL ea) (hle : ∀e∈ea,e.length=o.sz) (av:ea.length=len)
  (h : ∀(j:Nat) x bP,((o.es.drop bV).take len).flatten[j]? = some x→ea.flatten[j]? = some bP→e6 s ar bl q x bP):e6 s ar bl q (.a6 r k bV len) (.isl o.sz ea)
 | agg {c cq:List ag} (av:cq.length=c.length) (h : ∀(j:Nat) x bP,c[j]? = some x→cq[j]? = some bP→e6 s ar bl q x bP):e6 s ar bl q (.agg c) (.agg cq)
 | dx {c cq:List ag} (av:cq.length=c.length) (h : ∀(j:Nat) x bP,c[j]? = some x→cq[j]? = some bP→e6 s ar bl q x bP):e6 s ar bl q (.dx c) (.dx cq)
 | fn {f:Nat} {c cq:List ag} (av:cq.length=c.length) (h : ∀(j:Nat) x bP,c[j]? = some x→cq[j]? = some bP→e6 s ar bl q x bP):e6 s ar bl q (.fn f c) (.fn f cq)
theorem mO {sz:Nat}: ∀(es:List (List ag)),(∀e∈es,e.length=sz)→es.flatten.length=es.length*sz
 | [],_=>by simp
 | e::es,h=>by
  rw [List.flatten_cons,List.length_append,mO es fun x J=>h x (by simp [J]),h e (by simp),List.length_cons,Nat.add_mul];omega
theorem d8 {α:Type}{l:List α}{j:Nat}{x:α}(h:l[j]? = some x):j<l.length:=by
 rcases Nat.lt_or_ge j l.length with bT|bT
 ·exact bT
 ·rw [List.getElem?_eq_none bT] at h;simp at h
theorem e6.rel {g:G}{s:S}{af:de}{w:World}{ar:er}{bl:dY→Bool}{q:ag→Prop}(cu:fm g s af w){iS:Nat→Prop}{ji:f5}{iT:fP}
 (H1 : ∀x v,q x→Pure x→Rel w (s.ok g af w) s.aw (s.aA af) x v→Rel w iS ji iT x v)
 (wX : ∀r k o b m,s.R r k=some o→bl o.bz=true→(∀j i,ar j i≠some (r,k))→af r k=some (b,m)→iS b)
 (uB : ∀j i r k,ar j i=some (r,k)→s.aw r k→ji j i∧(iT j i=s.aA af r k∨iT j i=none)) {x bP:ag} (bZ:e6 s ar bl q x bP) :
 ∀ {v:Value},Rel w (s.ok g af w) s.aw (s.aA af) x v→Rel w iS ji iT bP v:=by
 induction bZ with
 | dead x=>intro v _;exact .dead v
 | pure ad aE=>intro v ah;exact H1 _ v aE ad ah
 | cg sz=>intro v ah;rw [ah.lj];exact .gb sz none 0 (fun _=>rfl)
 | fX sz=>intro v ah;obtain ⟨a,c,rfl⟩:=ah.vJ;exact .gb sz (some a) c (fun h=>by simp at h)
 | vY sz=>intro v ah;rw [ah.oX];exact .k6 sz
 | gM h ih=>intro v ah;exact .kR (ih ah)
 | @ref r k j gw i off aq hu =>
  intro v ah
  obtain ⟨h1,I⟩:=uB j gw r k aq hu
  cases ah with
  | lm a lZ a5 =>
   refine .lm a h1 fun sz p=> ?_
   rcases I with e|e<;>rw [e]
   ·exact a5 sz p
   ·simp
  | ref lZ bO =>
   rcases I with e|e
   ·exact .ref h1 (e.trans bO)
   ·exact .lm _ h1 fun sz p=>by rw [e];simp
 | @a6 r k j gw bV len aq hu =>
  intro v ah
  obtain ⟨h1,I⟩:=uB j gw r k aq hu
  cases ah with
  | jx a l c lZ a5 =>
   refine .jx a l c h1 ?_
   rcases I with e|e<;>rw [e]
   exact a5
  | jT lZ bO =>
   rcases I with e|e
   ·exact .jT h1 (e.trans bO)
   ·exact .jx _ _ _ h1 e
  | a6 lZ bO av aF hm =>
   rcases I with e|e
   ·exact .a6 h1 (e.trans bO) av aF hm
   ·exact .jx _ _ _ h1 e
 | jf r c sz =>
  intro v ah
  cases ah with
  | jf h0 =>
   rcases h0.nj with ⟨-,a,c,rfl,bY⟩|⟨cy,off,c,-,rfl,-⟩
   ·exact .gb sz a c bY
   ·exact .gb sz _ c (fun h=>by simp at h)
 | jY h ih =>
  intro v ah
  cases ah with
  | jY h0=>exact ih h0
 | @fH r cM c cq sz h hm =>
  intro v ah
  cases ah with
  | jf h0 =>
   rcases h0.nj with ⟨-,a,c,rfl,bY⟩|⟨cy,off,c,-,rfl,-⟩
   ·exact .jf (.gb sz a c bY)
   ·exact .jf (.gb sz _ c (fun h=>by simp at h))
  | @jY _ _ _ k n _ h0 =>
   refine .jY ?_
   cases h0 with
   | jx a l bS lZ a5 =>
    obtain ⟨h1,I⟩:=uB _ _ _ _ (hm k) lZ
    refine .jx a l bS h1 ?_
    rcases I with e|e<;>rw [e]
    exact a5
   | jT lZ bO =>
    obtain ⟨h1,I⟩:=uB _ _ _ _ (hm k) lZ
    rcases I with e|e
    ·exact .jT h1 (e.trans bO)
    ·exact .jx _ _ _ h1 e
   | a6 lZ bO av aF jk =>
    obtain ⟨h1,I⟩:=uB _ _ _ _ (hm k) lZ
    rcases I with e|e
    ·exact .a6 h1 (e.trans bO) av aF jk
    ·exact .jx _ _ _ h1 e
 | @da r k o ea i off aa bY ah b7 At hle av h ih =>
  intro v aN
  have dj:=cu.obj r k o aa
  rcases aN.q2 (fz aa) with h0|⟨b,m,ad,hval⟩
  ·rw [h0] at dj;exact absurd dj b7
  ·rw [ad] at dj
   have ft:=dj.rd
   rw [hval]
   have gX:ea.flatten.length=o.es.flatten.length:=by rw [mO ea hle,mO o.es ft.1,av]
   have ph:ku w iS ji iT b 0 o.sz ea:=by
    refine ⟨hle,fun j bP cp=> ?_⟩
    have cx:j<o.es.flatten.length:=by rw [← gX];exact d8 cp
    have J:o.es.flatten[j]? = some o.es.flatten[j]:=List.getElem?_eq_getElem cx
    obtain ⟨u,e1,au,bB⟩:=ft.2 j _ J
    exact ⟨u,e1,au,ih j _ bP J cp bB⟩
   have:=ph.da (i:=i) (off:=off) ⟨wX r k o b m aa bY ah ad,At⟩
   rw [Nat.zero_add] at this
   exact this
 | @isl r k bV len o ea aa bY ah fs At hle av h ih =>
  intro v aN
  have dj:=cu.obj r k o aa
  rcases aN.s9 (fz aa) with ⟨ad,rfl,rfl,hval⟩|⟨b,m,A,c,ad,hval,my,nE,hm⟩
  ·have:ea=[]:=List.length_eq_zero_iff.1 av
   subst this
   rw [hval];exact .gb _ none 0 (fun _=>rfl)
  ·rw [ad] at dj
   rw [hval]
   rcases Nat.eq_zero_or_pos len with h0|jg
   ·subst h0
    have:ea=[]:=List.length_eq_zero_iff.1 av
    subst this
    exact .gb _ A c (fun a5=>by rcases hm with h1|⟨h1,-⟩<;>simp_all)
   ·rcases hm with hm|⟨hA,hm⟩
    ·omega
    ·subst hA
     have ft:=vd dj.rd bV len (by omega)
     rw [Nat.zero_add] at ft
     have gX:ea.flatten.length=((o.es.drop bV).take len).flatten.length:=by
      rw [mO ea hle,mO _ ft.1,av,List.length_take,List.length_drop,Nat.min_eq_left (by omega)]
     have ph:ku w iS ji iT b (bV*o.sz) o.sz ea:=by
      refine ⟨hle,fun j bP cp=> ?_⟩
      have cx:j<((o.es.drop bV).take len).flatten.length:=by rw [← gX];exact d8 cp
      have J:=List.getElem?_eq_getElem cx
      obtain ⟨u,e1,au,bB⟩:=ft.2 j _ J
      exact ⟨u,e1,au,ih j _ bP J cp bB⟩
     have:=ph.isl (c:=c) ⟨wX r k o b m aa bY ah ad,At⟩ (by omega)
     rw [av] at this
     exact this
 | @agg c cq av h ih =>
  intro v aN
  obtain ⟨vs,rfl,h1,I,aj⟩:=aN.s8
  refine .agg vs (by omega) I fun j bP u cp hu=> ?_
  have cx:j<c.length:=by have:=d8 cp;omega
  exact ih j _ bP (List.getElem?_eq_getElem cx) cp (aj j _ u (List.getElem?_eq_getElem cx) hu)
 | @dx c cq av h ih =>
  intro v aN
  obtain ⟨vs,rfl,h1,aj⟩:=aN.qZ
  refine .dx vs (by omega) fun j bP u cp hu=> ?_
  have cx:j<c.length:=by have:=d8 cp;omega
  exact ih j _ bP (List.getElem?_eq_getElem cx) cp (aj j _ u (List.getElem?_eq_getElem cx) hu)
 | @fn f c cq av h ih =>
  intro v aN
  obtain ⟨vs,rfl,h1,aj⟩:=aN.vS
  refine .fn vs (by omega) fun j bP u cp hu=> ?_
  have cx:j<c.length:=by have:=d8 cp;omega
  exact ih j _ bP (List.getElem?_eq_getElem cx) cp (aj j _ u (List.getElem?_eq_getElem cx) hu)
structure kr (s:S) (ar:er) (bl:dY→Bool) (q:ag→Prop) (o bh:U):Prop where
 sz:bh.sz=o.sz
 bz:bh.bz=o.bz∨(bh.bz = .ko∧o.bz = .live)∨bh.bz = .gone
 len:bh.es.length=o.es.length
 each : ∀e∈bh.es,e.length=o.sz
 at_ : ∀(j:Nat) x bP,o.es.flatten[j]? = some x→bh.es.flatten[j]? = some bP→e6 s ar bl q x bP
structure lC (s:S) (ar:er) (bl:dY→Bool) (q:ag→Prop) (e8:Nat→Option (List U)):Prop where
 inj : ∀j i gO gw p,ar j i=some p→ar gO gw=some p→j=gO∧i=gw
 at_ : ∀j i bh,b4 (e8 j) i=some bh→ ∃r k o,ar j i=some (r,k)∧s.R r k=some o∧kr s ar bl q o bh
 aw : ∀j i r k,ar j i=some (r,k)→s.aw r k→i<((e8 j).getD []).length
def gA (af:de)(ar:er):de:=fun j i=>match ar j i with
 | some (r,k)=>af r k
 | none=>none
theorem q9 {af:de}{ar:er}{j i r k:Nat}(h:ar j i=some (r,k)):gA af ar j i=af r k:=by simp [gA,h]
def iF (_:ag):Prop:=True
theorem Lr:Down iF:=⟨fun _ _ _ _=>trivial,fun _ _ _ _=>trivial,fun _ _ _ _ _=>trivial⟩
section
variable {g:G} {s:S} {af:de} {w:World} {ar:er} {bl:dY→Bool} {q:ag→Prop} {bb:S}
theorem lC.R (h:lC s ar bl q bb.ax){j i:Nat}{bh:U}(aa:bb.R j i=some bh): ∃r k o,ar j i=some (r,k)∧s.R r k=some o∧kr s ar bl q o bh:=h.at_ j i bh aa
theorem Dt {o bh:U}(h:kr s ar bl q o bh)(av:bh.bz = .live):o.bz = .live:=by
 rcases h.bz with e|⟨e,-⟩|e
 ·exact e.symm.trans av
 ·rw [e] at av;simp at av
 ·rw [e] at av;simp at av
theorem lC.live (h:lC s ar bl q bb.ax)(b:Nat)(av:bb.iz (gA af ar) b): ∃r k o m,s.R r k=some o∧o.bz = .live∧af r k=some (b,m)∧ ∃j i,ar j i=some (r,k):=by
 obtain ⟨j,i,bh,m,h1,I,aj⟩:=av
 obtain ⟨r,k,o,e1,au,bB⟩:=h.R h1
 rw [q9 e1] at aj
 exact ⟨r,k,o,m,au,Dt bB I,aj,j,i,e1⟩
theorem lC.wC (h:lC s ar bl q bb.ax){j i r k:Nat}(aq:ar j i=some (r,k)):bb.aA (gA af ar) j i=s.aA af r k∨bb.aA (gA af ar) j i=none:=by
 cases aa:bb.R j i with
 | none=>right;simp [S.aA,aa]
 | some bh =>
  obtain ⟨cM,b9,o,e1,au,bB⟩:=h.R aa
  rw [aq] at e1;simp only [Option.some.injEq,Prod.mk.injEq] at e1
  obtain ⟨rfl,rfl⟩:=e1
  left
  rw [fz aa,fz au,bB.sz,q9 aq]
theorem fm.A3 (cu:fm g s af w)(h:lC s ar bl q bb.ax){dS:G}(aR:tA dS w)(tt:∀j k,dS.kV j k→bb.aw j k∧(bb.aA (gA af ar) j k=dS.mx j k∨bb.aA (gA af ar) j k=none))(L1:∀j k,dS.kV j k→j<dS.m)
 (L2 : ∀b,dS.lb b→b<dS.i4.heap.size) (halt : ∀b,dS.A b→b<dS.i4.heap.size)
 (z9 : ∀r k o b m,(∃j i,ar j i=some (r,k))→s.R r k=some o→af r k=some (b,m)→dS.i4.heap.size≤b∨dS.lb b)
 (H1 : ∀b,s.ok g af w b→bb.ok dS (gA af ar) w b)
 (wX : ∀r k o b m,s.R r k=some o→bl o.bz=true→(∀j i,ar j i≠some (r,k))→af r k=some (b,m)→bb.ok dS (gA af ar) w b) :
 fm dS bb (gA af ar) w∧ ∀ {x bP:ag} {v:Value},e6 s ar bl q x bP→Rel w (s.ok g af w) s.aw (s.aA af) x v→Rel w (bb.ok dS (gA af ar) w) bb.aw (bb.aA (gA af ar)) bP v:=by
 have dj : ∀ {x bP:ag} {v:Value},e6 s ar bl q x bP→Rel w (s.ok g af w) s.aw (s.aA af) x v→Rel w (bb.ok dS (gA af ar) w) bb.aw (bb.aA (gA af ar)) bP v :=
  fun bZ ah=>bZ.rel cu (fun x v _ ad ah=>ah.pure ad H1) wX (fun j i r k aq hu=>⟨h.aw j i r k aq hu,h.wC aq⟩) ah
 refine ⟨⟨?_,?_,?_,aR,L2,halt,tt,L1⟩,dj⟩
 ·intro j k bh cw
  obtain ⟨r,b9,o,e1,au,bB⟩:=h.R cw
  have aC:=cu.obj r b9 o au
  rw [q9 e1]
  cases ad:af r b9 with
  | none =>
   rw [ad] at aC
   simp only [ga] at aC ⊢
   apply List.length_eq_zero_iff.1
   rw [bB.len,aC];rfl
  | some q =>
   obtain ⟨b,m⟩:=q
   rw [ad] at aC
   obtain ⟨c,cL,h1,I,aj,aB⟩:=aC
   have gX:bh.es.flatten.length=o.es.flatten.length:=by rw [mO _ bB.each,mO _ aj,bB.len]
   refine ⟨c,cL,h1,I,by rw [bB.sz];exact bB.each,fun i bP cp=> ?_⟩
   have cx:i<o.es.flatten.length:=by rw [← gX];exact d8 cp
   have J:=List.getElem?_eq_getElem cx
   obtain ⟨u,f1,f2,f3⟩:=aB i _ J
   exact ⟨u,f1,f2,dj (bB.at_ i _ bP J cp) f3⟩
 ·intro j k o gO b9 bh b m bG h1 I aj aB
  obtain ⟨r,iH,p,e1,au,-⟩:=h.R h1
  obtain ⟨cM,Mw,hF,jm,k8,-⟩:=h.R I
  rw [q9 e1] at aj
  rw [q9 jm] at aB
  obtain ⟨rfl,rfl⟩:=cu.inj r iH p cM Mw hF b m bG au k8 aj aB
  exact h.inj _ _ _ _ _ e1 jm
 ·intro j k o b m h1 I
  obtain ⟨r,iH,p,e1,au,-⟩:=h.R h1
  rw [q9 e1] at I
  exact z9 r iH p b m ⟨j,k,e1⟩ au I
theorem bQ.Du {a:Act}(h:bQ g s af a w)(b6:lC s ar (fun _=>true) q bb.ax)(c6:∀t,e6 s ar (fun _=>true) q (s.E t) (bb.E t))(tL:∀j k,g.kV j k→ar j k=some (j,k)):bQ g bb (gA af ar) a w:=by
 have kp : ∀b,bb.iz (gA af ar) b→s.iz af b:=fun b av=>by
  obtain ⟨r,k,o,m,h1,I,aj,-⟩:=b6.live b av
  exact ⟨r,k,o,m,h1,I,aj⟩
 have tt : ∀j k,g.kV j k→bb.aw j k∧(bb.aA (gA af ar) j k=g.mx j k∨bb.aA (gA af ar) j k=none):=by
  intro j k aq
  obtain ⟨e1,au⟩:=h.stay j k aq
  refine ⟨b6.aw j k j k (tL j k aq) e1,?_⟩
  rcases b6.wC (af:=af) (tL j k aq) with e|e
  ·rw [e];exact au
  ·exact .inr e
 obtain ⟨h1,I⟩:=h.tofm.A3 b6 h.fj tt h.low h.mlt h.jB (fun r k o b m _ aa ad=>h.own r k o b m aa ad)
  (fun b aM=>⟨aM.1,aM.2.1,fun av=>aM.2.2 (kp b av)⟩)
  (fun r k o b m aa _ ah ad=>by
    have aC:=h.obj r k o aa
    rw [ad] at aC
    obtain ⟨c,cL,e1,-⟩:=aC
    refine ⟨(Array.getElem?_eq_some_iff.1 e1).1,?_,fun av=> ?_⟩
    ·rcases h.own r k o b m aa ad with e|e
     ·exact .inr (.inl e)
     ·exact .inr (.inr e)
    ·obtain ⟨cM,b9,bh,bG,f1,f2,f3,⟨A4,A5,f4⟩⟩:=b6.live b av
     obtain ⟨rfl,rfl⟩:=h.inj r k o cM b9 bh b m bG aa f1 ad f3
     exact ah A4 A5 f4)
 exact {tofm:=h1,env:=fun t=>I (c6 t) (h.env t),defers:=h.defers,gz:=h.gz}
end
end Go.VL
namespace Go.VL
set_option linter.unusedVariables false
set_option linter.unusedSimpArgs false
open Go
def cX (T:List (List U)):S:={E:=fun _=> .dead,ax:=fun r=>T[r]?}
def Ls (P:Program)(f:FuncId)(args:List ag)(T:List (List U))(r:ag)(gj:List (List U)):Prop :=
 ∀(g:G) (af:de) (w:World) (vs:Array Value),g.i4=w→g.m=T.length→g.kV=(cX T).aw→g.mx=(cX T).aA af→fm g (cX T) af w→vs.size=args.length →
  (∀(j:Nat) x v,args[j]? = some x→vs[j]? = some v→Rel w ((cX T).ok g af w) (cX T).aw ((cX T).aA af) x v) →
  Calls P f vs w fun e a9=> ∃v aY,e = .returned v∧fm g (cX gj) aY a9∧Rel a9 ((cX gj).ok g aY a9) (cX gj).aw ((cX gj).aA aY) r v
inductive bj:ag→Prop
 | dead:bj .dead
 | b (x:Bool):bj (.b x)
 | n (k:IntKind) (x:Int):bj (.n k x)
 | s (x:ByteArray):bj (.s x)
 | fL:bj .fL
 | cg:bj .cg
 | fX:bj .fX
 | gb (sz:Nat):bj (.isl sz [])
 | ref (r k i off:Nat):bj (.ref r k i off)
 | a6 (r k bV len:Nat):bj (.a6 r k bV len)
 | fH (r c sz:Nat) (h:Option (Nat×Nat)):bj (.fH r c sz h)
 | agg {c:List ag} (h : ∀x∈c,bj x):bj (.agg c)
 | dx {c:List ag} (h : ∀x∈c,bj x):bj (.dx c)
theorem Lt:Down bj:=⟨fun _ _ h J=>by cases h with|agg h=>exact h _ J,fun _ _ h J=>by cases h with|dx h=>exact h _ J,fun _ _ _ h=>by cases h⟩
theorem Rel.eb {w a9:World}{ok iS:Nat→Prop}{aw ji:f5}{aA iT:fP}{x:ag}(bZ:bj x): ∀ {v:Value},Pure x→Rel w ok aw aA x v→Rel a9 iS ji iT x v:=by
 induction bZ with
 | dead=>intro v _ h;exact .dead v
 | b x=>intro v _ h;rw [h.n6];exact .b x
 | n k x=>intro v _ h;rw [h.k5];exact .n k x
 | s x=>intro v _ h;rw [h.re];exact .s x
 | fL=>intro v _ h;rw [h.oX];exact .fL
 | cg=>intro v _ h;rw [h.lj];exact .cg
 | fX=>intro v _ h;obtain ⟨a,c,rfl⟩:=h.vJ;exact .fX a c
 | gb sz =>
  intro v _ h
  rcases h.nj with ⟨-,a,c,rfl,bY⟩|⟨cy,off,c,-,rfl,-⟩
  ·exact .gb sz a c bY
  ·exact .gb sz _ c (fun h=>by simp at h)
 | ref=>intro v ad;cases ad
 | a6=>intro v ad;cases ad
 | fH=>intro v ad;cases ad
 | @agg c aF ih =>
  intro v ad h
  obtain ⟨vs,rfl,h1,I,aj⟩:=h.s8
  cases ad with
  | agg ad=>exact .agg vs h1 I fun j x u J hu=>ih x (List.mem_of_getElem? J) (ad x (List.mem_of_getElem? J)) (aj j x u J hu)
 | @dx c aF ih =>
  intro v ad h
  obtain ⟨vs,rfl,h1,aj⟩:=h.qZ
  cases ad with
  | dx ad=>exact .dx vs h1 fun j x u J hu=>ih x (List.mem_of_getElem? J) (ad x (List.mem_of_getElem? J)) (aj j x u J hu)
section
variable {P:Program} {g:G} {s:S} {af:de} {a:Act} {w:World}
theorem ti (h:fm g s af w){r k b m:Nat}{o:U}(aa:s.R r k=some o)(ad:af r k=some (b,m)):b<w.heap.size:=by
 have:=h.obj r k o aa
 rw [ad] at this
 obtain ⟨c,cL,e,-⟩:=this
 exact (Array.getElem?_eq_some_iff.1 e).1
theorem KS (h:fm g s af w){r k b m:Nat}{o:U}(aa:s.R r k=some o)(aR:o.bz = .ko)(ad:af r k=some (b,m)):s.ok g af w b:=by
 refine ⟨ti h aa ad,?_,?_⟩
 ·rcases h.own r k o b m aa ad with e|e
  ·exact .inr (.inl e)
  ·exact .inr (.inr e)
 ·rintro ⟨cM,b9,bh,bG,h1,I,aj⟩
  obtain ⟨rfl,rfl⟩:=h.inj r k o cM b9 bh b m bG aa h1 ad aj
  rw [aa] at h1;simp at h1;subst h1;rw [aR] at I;simp at I
theorem enter (h:fm g s af w){ar:er}{bl:dY→Bool}{q:ag→Prop}{T:List (List U)}(A:Nat→Prop)
 (hA : ∀b,A b→b<w.heap.size) (Au : ∀b,s.ok g af w b→A b)
 (Av : ∀r k o b m,s.R r k=some o→bl o.bz=true→af r k=some (b,m)→A b)
 (b6:lC s ar bl q (cX T).ax) (lp : ∀r k o,(∃j i,ar j i=some (r,k))→s.R r k=some o→o.bz = .live) :
 ∃dS:G,dS.i4=w∧dS.A=A∧dS.m=T.length∧dS.kV=(cX T).aw∧dS.mx=(cX T).aA (gA af ar) ∧
  (dS.lb=fun b=> ∃r k o m,(∃j i,ar j i=some (r,k))∧s.R r k=some o∧af r k=some (b,m))∧fm dS (cX T) (gA af ar) w ∧
  ∀ {x bP:ag} {v:Value},e6 s ar bl q x bP→Rel w (s.ok g af w) s.aw (s.aA af) x v→Rel w ((cX T).ok dS (gA af ar) w) (cX T).aw ((cX T).aA (gA af ar)) bP v:=by
 let dS:G:={i4:=w,A:=A,lb:=fun b=> ∃r k o m,(∃j i,ar j i=some (r,k))∧s.R r k=some o∧af r k=some (b,m),N:=0,m:=T.length,kV:=(cX T).aw,mx:=(cX T).aA (gA af ar)}
 refine ⟨dS,rfl,rfl,rfl,rfl,rfl,rfl,?_⟩
 have kp : ∀b,(cX T).iz (gA af ar) b→ ∃r k o m,s.R r k=some o∧o.bz = .live∧af r k=some (b,m)∧ ∃j i,ar j i=some (r,k):=fun b av=>b6.live b av
 refine fm.A3 (bb:=cX T) (dS:=dS) h b6 ⟨rfl,rfl,rfl,Nat.le_refl _,fun _ _ _=>rfl⟩ (fun j k aq=>⟨aq,.inl rfl⟩) ?_ ?_ hA ?_ ?_ ?_
 ·intro j k aq
  have aq:k<((T[j]?).getD []).length:=aq
  rcases Nat.lt_or_ge j T.length with h1|h1
  ·exact h1
  ·rw [List.getElem?_eq_none h1] at aq;simp at aq
 ·rintro b ⟨r,k,o,m,-,aa,ad⟩
  exact ti h aa ad
 ·intro r k o b m hm aa ad
  exact .inr ⟨r,k,o,m,hm,aa,ad⟩
 ·intro b aM
  refine ⟨aM.1,.inl (Au b aM),fun av=> ?_⟩
  obtain ⟨r,k,o,m,h1,I,aj,-⟩:=kp b av
  exact aM.2.2 ⟨r,k,o,m,h1,I,aj⟩
 ·intro r k o b m aa bY ah ad
  refine ⟨ti h aa ad,.inl (Av r k o b m aa bY ad),fun av=> ?_⟩
  obtain ⟨cM,b9,bh,bG,h1,I,aj,⟨j,i,aq⟩⟩:=kp b av
  obtain ⟨rfl,rfl⟩:=h.inj r k o cM b9 bh b m bG aa h1 ad aj
  exact ah j i aq
theorem leave (h:bQ g s af a w){a9:World}{ar hz:er}{bl:dY→Bool}{q0 q:ag→Prop}{dS:G}{T cY:List (List U)}{hG:de}
 (c1:dS.i4=w) (hA:(∀b,dS.A b→s.ok g af w b)∨(∀x,q x→bj x)) (rC:dS.kV=(cX T).aw) (hZ:dS.mx=(cX T).aA (gA af ar))
 (cu:dS.lb=fun b=> ∃r k o m,(∃j i,ar j i=some (r,k))∧s.R r k=some o∧af r k=some (b,m))
 (lp : ∀r k o,(∃j i,ar j i=some (r,k))→s.R r k=some o→o.bz = .live)
 (b6:lC s ar bl q0 (cX T).ax) (h1:fm dS (cX cY) hG a9)
 (tu : ∀j i r k,ar j i=some (r,k)→hz r k=some (j,i)) (wc : ∀r k j i,hz r k=some (j,i)→ar j i=some (r,k)∨ ¬s.aw r k)
 (L3 : ∀r k cM b9 p,hz r k=some p→hz cM b9=some p→r=cM∧k=b9)
 {s2:S} (c6:s2.E=s.E)
 (aC : ∀r k o,s2.R r k=some o→(∃j i p,hz r k=some (j,i)∧(cX cY).R j i=some p∧kr (cX cY) hz (fun _=>false) q p o)∨(hz r k=none∧s.R r k=some o))
 (gf : ∀r k,s.aw r k→s2.aw r k) (L4 : ∀r k j i,hz r k=some (j,i)→(cX cY).aw j i→s2.aw r k)
 {x bP:ag} {v:Value} (J:e6 (cX cY) hz (fun _=>false) q x bP) (aN:Rel a9 ((cX cY).ok dS hG a9) (cX cY).aw ((cX cY).aA hG) x v) :
 ∃h6,bQ g s2 h6 a a9∧Rel a9 (s2.ok g h6 a9) s2.aw (s2.aA h6) bP v:=by
 let h6:de:=fun r k=>match hz r k with|some (j,i)=>hG j i|none=>af r k
 have p1 : ∀r k j i,hz r k=some (j,i)→h6 r k=hG j i:=fun r k j i e=>by simp [h6,e]
 have e5 : ∀r k,hz r k=none→h6 r k=af r k:=fun r k e=>by simp [h6,e]
 have aR:=h1.fj
 have cS:w.heap.size≤a9.heap.size:=by have:=aR.size;rw [c1] at this;exact this
 have nB : ∀b,b<w.heap.size→ ¬dS.lb b→a9.heap[b]? = w.heap[b]? := fun b aM h2=>by
  have:=aR.block b (by rw [c1];exact aM) h2
  rw [c1] at this;exact this
 have wD : ∀j k p b m,(cX cY).R j k=some p→hG j k=some (b,m)→w.heap.size≤b∨ ∃r b9 o bG,(∃j i,ar j i=some (r,b9))∧s.R r b9=some o∧af r b9=some (b,bG):=by
  intro j k p b m ad aM
  rcases h1.own j k p b m ad aM with e|e
  ·rw [c1] at e;exact .inl e
  ·rw [cu] at e;exact .inr e
 have hold : ∀q k o b m,hz q k=none→s.R q k=some o→af q k=some (b,m)→b<w.heap.size∧ ¬dS.lb b:=by
  intro q k o b m aE aa ad
  refine ⟨ti h.tofm aa ad,fun h2=> ?_⟩
  rw [cu] at h2
  obtain ⟨r,b9,bh,bG,⟨j,i,ah⟩,cw,j5⟩:=h2
  obtain ⟨rfl,rfl⟩:=h.inj q k o r b9 bh b m bG aa cw ad j5
  rw [tu _ _ _ _ ah] at aE;simp at aE
 have DJ : ∀b,s2.iz h6 b→(cX cY).iz hG b∨(∃q k o m,hz q k=none∧s.R q k=some o∧o.bz = .live∧af q k=some (b,m)):=by
  rintro b ⟨q,k,o,m,aa,j4,ad⟩
  rcases aC q k o aa with ⟨j,i,p,e1,au,bB⟩|⟨e1,au⟩
  ·rw [p1 _ _ _ _ e1] at ad
   exact .inl ⟨j,i,p,m,au,Dt bB j4,ad⟩
  ·rw [e5 _ _ e1] at ad
   exact .inr ⟨q,k,o,m,e1,au,j4,ad⟩
 have j1 : ∀b,s.ok g af w b→s2.ok g h6 a9 b:=by
  intro b aM
  refine ⟨Nat.lt_of_lt_of_le aM.1 cS,aM.2.1,fun av=> ?_⟩
  rcases DJ b av with ⟨j,k,p,m,e1,au,bB⟩|⟨q,k,o,m,e1,au,bB,dk⟩
  ·rcases wD j k p b m e1 bB with e|⟨r,b9,o,bG,ah,aa,ad⟩
   ·have:=aM.1;omega
   ·exact aM.2.2 ⟨r,b9,o,bG,aa,lp r b9 o ah aa,ad⟩
  ·exact aM.2.2 ⟨q,k,o,m,au,bB,dk⟩
 have Eh : ∀r k,s.aw r k→s2.aA h6 r k=s.aA af r k∨s2.aA h6 r k=none:=by
  intro r k ah
  cases aa:s2.R r k with
  | none=>right;simp [S.aA,aa]
  | some o =>
   left
   rcases aC r k o aa with ⟨j,i,p,e1,au,bB⟩|⟨e1,au⟩
   ·rcases wc r k j i e1 with aq|aq
    ·have iU:=(h1.stay j i (by rw [rC];exact b6.aw _ _ _ _ aq ah)).2
     rw [hZ,fz au] at iU
     have iU:some (p.sz,hG j i)=(cX T).aA (gA af ar) j i:=by
      rcases iU with e|e
      ·exact e
      ·simp at e
     have:=b6.wC (bb:=cX T) (af:=af) aq
     rw [← iU] at this
     rw [fz aa,bB.sz,p1 _ _ _ _ e1]
     rcases this with e|e
     ·exact e
     ·simp at e
    ·exact absurd ah aq
   ·rw [fz aa,fz au,e5 _ _ e1]
 have Lu : ∀b,s.ok g af w b→a9.heap[b]? = w.heap[b]? := by
  intro b aM
  refine nB b aM.1 fun h2=> ?_
  rw [cu] at h2
  obtain ⟨r,b9,o,bG,ah,aa,ad⟩:=h2
  exact aM.2.2 ⟨r,b9,o,bG,aa,lp r b9 o ah aa,ad⟩
 have dj : ∀ {y:ag} {u:Value},Rel w (s.ok g af w) s.aw (s.aA af) y u→Rel a9 (s2.ok g h6 a9) s2.aw (s2.aA h6) y u :=
  fun ah=>ah.mono j1 Lu gf Eh
 have L5:(∀b,dS.A b→s.ok g af w b)→ ∀b,(cX cY).ok dS hG a9 b→s2.ok g h6 a9 b:=by
  intro hA b aM
  have z9:g.A b∨g.i4.heap.size≤b∨g.lb b:=by
   rcases aM.2.1 with e|e|e
   ·exact (hA b e).2.1
   ·rw [c1] at e;exact .inr (.inl (Nat.le_trans h.fj.size e))
   ·rw [cu] at e
    obtain ⟨r,k,o,m,-,aa,ad⟩:=e
    rcases h.own r k o b m aa ad with e|e
    ·exact .inr (.inl e)
    ·exact .inr (.inr e)
  refine ⟨aM.1,z9,fun av=> ?_⟩
  rcases DJ b av with e|⟨q,k,o,m,e1,au,bB,dk⟩
  ·exact aM.2.2 e
  ·have aE:=hold q k o b m e1 au dk
   rcases aM.2.1 with e|e|e
   ·exact (hA b e).2.2 ⟨q,k,o,m,au,bB,dk⟩
   ·rw [c1] at e;omega
   ·exact aE.2 e
 have DY : ∀ {y jJ:ag} {u:Value},e6 (cX cY) hz (fun _=>false) q y jJ→Rel a9 ((cX cY).ok dS hG a9) (cX cY).aw ((cX cY).aA hG) y u→Rel a9 (s2.ok g h6 a9) s2.aw (s2.aA h6) jJ u:=by
  intro y jJ u bZ ah
  refine bZ.rel h1 (fun x v aE ad ah=> ?_) (fun _ _ _ _ _ _ bY _ _=>by simp at bY) ?_ ah
  ·rcases hA with hA|hA
   ·exact ah.pure ad (L5 hA)
   ·exact ah.eb (hA x aE) ad
  ·intro r k j i aE aq
   refine ⟨L4 r k j i aE aq,?_⟩
   cases aa:s2.R r k with
   | none=>right;simp [S.aA,aa]
   | some o =>
    left
    rcases aC r k o aa with ⟨gO,gw,p,e1,au,bB⟩|⟨e1,-⟩
    ·rw [aE] at e1;simp only [Option.some.injEq,Prod.mk.injEq] at e1
     obtain ⟨rfl,rfl⟩:=e1
     rw [fz aa,fz au,bB.sz,p1 _ _ _ _ aE]
    ·rw [aE] at e1;simp at e1
 refine ⟨h6,{tofm:=⟨?_,?_,?_,?_,h.mlt,h.jB,?_,h.low⟩,env:=fun t=>by rw [c6];exact dj (h.env t),defers:=h.defers,gz:=h.gz},DY J aN⟩
 ·intro q k o aa
  rcases aC q k o aa with ⟨j,i,p,e1,au,bB⟩|⟨e1,au⟩
  ·have ad:=h1.obj j i p au
   rw [p1 _ _ _ _ e1]
   cases g9:hG j i with
   | none =>
    rw [g9] at ad
    simp only [ga] at ad ⊢
    apply List.length_eq_zero_iff.1
    rw [bB.len,ad];rfl
   | some nO =>
    obtain ⟨b,m⟩:=nO
    rw [g9] at ad
    obtain ⟨c,cL,f1,f2,f3,f4⟩:=ad
    have gX:o.es.flatten.length=p.es.flatten.length:=by rw [mO _ bB.each,mO _ f3,bB.len]
    refine ⟨c,cL,f1,f2,by rw [bB.sz];exact bB.each,fun i bP cp=> ?_⟩
    have cx:i<p.es.flatten.length:=by rw [← gX];exact d8 cp
    have wE:=List.getElem?_eq_getElem cx
    obtain ⟨u,i7,lI,hf⟩:=f4 i _ wE
    exact ⟨u,i7,lI,DY (bB.at_ i _ bP wE cp) hf⟩
  ·have ad:=h.obj q k o au
   rw [e5 _ _ e1]
   cases g9:af q k with
   | none=>rw [g9] at ad;exact ad
   | some nO =>
    obtain ⟨b,m⟩:=nO
    rw [g9] at ad
    obtain ⟨c,cL,f1,f2,f3,f4⟩:=ad
    obtain ⟨Aq,Mx⟩:=hold q k o b m e1 au g9
    refine ⟨c,cL,(nB b Aq Mx).trans f1,f2,f3,fun i bP cp=> ?_⟩
    obtain ⟨u,i7,lI,hf⟩:=f4 i bP cp
    exact ⟨u,i7,lI,dj hf⟩
 ·intro q k o e4 b9 bh b m bG I aj aB bk
  rcases aC q k o I with ⟨j,i,p,e1,au,bB⟩|⟨e1,au⟩<;>rcases aC e4 b9 bh aj with ⟨gO,gw,hF,jm,k8,ua⟩|⟨jm,k8⟩
  ·rw [p1 _ _ _ _ e1] at aB;rw [p1 _ _ _ _ jm] at bk
   obtain ⟨rfl,rfl⟩:=h1.inj j i p gO gw hF b m bG au k8 aB bk
   exact L3 _ _ _ _ _ e1 jm
  ·rw [p1 _ _ _ _ e1] at aB;rw [e5 _ _ jm] at bk
   obtain ⟨f1,f2⟩:=hold e4 b9 bh b bG jm k8 bk
   rcases wD j i p b m au aB with e|e
   ·omega
   ·exact absurd (by rw [cu];exact e) f2
  ·rw [e5 _ _ e1] at aB;rw [p1 _ _ _ _ jm] at bk
   obtain ⟨f1,f2⟩:=hold q k o b m e1 au aB
   rcases wD gO gw hF b bG k8 bk with e|e
   ·omega
   ·exact absurd (by rw [cu];exact e) f2
  ·rw [e5 _ _ e1] at aB;rw [e5 _ _ jm] at bk
   exact h.inj q k o e4 b9 bh b m bG au k8 aB bk
 ·intro q k o b m I aB
  rcases aC q k o I with ⟨j,i,p,e1,au,bB⟩|⟨e1,au⟩
  ·rw [p1 _ _ _ _ e1] at aB
   rcases wD j i p b m au aB with e|⟨r,b9,bh,bG,ah,aa,ad⟩
   ·exact .inl (Nat.le_trans h.fj.size e)
   ·exact h.own r b9 bh b bG aa ad
  ·rw [e5 _ _ e1] at aB;exact h.own q k o b m au aB
 ·have e1:=aR.os;have au:=aR.tape;have bB:=aR.output
  rw [c1] at e1 au bB
  refine h.fj.step e1 au bB cS fun b aM My=>nB b (Nat.lt_of_lt_of_le aM h.fj.size) fun h2=> ?_
  rw [cu] at h2
  obtain ⟨r,k,o,m,-,aa,ad⟩:=h2
  rcases h.own r k o b m aa ad with e|e
  ·omega
  ·exact My e
 ·intro j k aq
  obtain ⟨e1,au⟩:=h.stay j k aq
  refine ⟨gf j k e1,?_⟩
  rcases Eh j k e1 with e|e
  ·rw [e];exact au
  ·exact .inr e
def ht (a b n:Nat):ag→ag
 | .ref r k i off=>if r=a then .ref b (n+k) i off else .ref r k i off
 | .a6 r k bV len=>if r=a then .a6 b (n+k) bV len else .a6 r k bV len
 | .fH r c sz h=>if r=a then .fH b (n+c) sz h else .fH r c sz h
 | .agg c=> .agg (rD c)
 | .dx c=> .dx (rD c)
 | x=>x
where rD:List ag→List ag
 | []=>[]
 | x::l=>ht a b n x::rD l
def iV (a b n:Nat)(o:U):U:={o with es:=o.es.map fun e=>e.map (ht a b n)}
def mq (o:U):U:=⟨0,[],.gone⟩
theorem vT (a b n:Nat): ∀l:List ag,ht.rD a b n l=l.map (ht a b n)
 | []=>rfl
 | x::l=>by rw [ht.rD,vT a b n l];rfl
theorem g8 (l:List U)(k:Nat):b4 (some l) k=(l[k]?).bind fun o=>if o.bz = .gone then none else some o:=by
 unfold b4
 cases h:l[k]? <;> simp [h]
theorem map_flatten {es:List (List ag)}(f:ag→ag):(es.map fun e=>e.map f).flatten=es.flatten.map f:=by
 induction es with
 | nil=>rfl
 | cons e es ih=>rw [List.map_cons,List.flatten_cons,List.flatten_cons,List.map_append,ih]
theorem bQ.merge (h:bQ g s af a w){r cM:Nat}{l dl:List U}(ah:s.ax r=some l)(eR:s.ax cM=some dl)(b7:cM≠r):
 ∃aY,bQ g ((s.setRow cM (dl.map mq)).setRow r (l++dl.map (iV cM r l.length))) aY a w ∧
  ∀x v,Rel w (s.ok g af w) s.aw (s.aA af) x v→Rel w (((s.setRow cM (dl.map mq)).setRow r (l++dl.map (iV cM r l.length))).ok g aY w)
   ((s.setRow cM (dl.map mq)).setRow r (l++dl.map (iV cM r l.length))).aw (((s.setRow cM (dl.map mq)).setRow r (l++dl.map (iV cM r l.length))).aA aY) (ht cM r l.length x) v:=by
 generalize ud:(s.setRow cM (dl.map mq)).setRow r (l++dl.map (iV cM r l.length))=s2
 let aY:de:=fun q k=>if q=r∧l.length≤k then af cM (k-l.length) else af q k
 have aC : ∀q k o,s2.R q k=some o→(q=r∧l.length≤k∧ ∃p,s.R cM (k-l.length)=some p∧o=iV cM r l.length p∧aY q k=af cM (k-l.length)) ∨
  (q≠cM∧s.R q k=some o∧aY q k=af q k∧ ¬(q=r∧l.length≤k)):=by
  intro q k o aa
  subst ud
  rw [ib] at aa
  by_cases e:q=r
  ·subst e
   rw [if_pos rfl] at aa
   by_cases aR:l.length≤k
   ·left
    refine ⟨rfl,aR,?_⟩
    rw [g8,List.getElem?_append_right aR,List.getElem?_map] at aa
    cases ad:dl[k-l.length]? with
    | none=>rw [ad] at aa;simp at aa
    | some p =>
     rw [ad] at aa
     simp only [Option.map_some,Option.bind_some] at aa
     split at aa
     ·simp at aa
     ·rename_i c1
      simp only [Option.some.injEq] at aa
      refine ⟨p,?_,aa.symm,by simp [aY,aR]⟩
      unfold S.R
      rw [eR,g8,ad,Option.bind_some,if_neg (by simpa [iV] using c1)]
   ·right
    refine ⟨Ne.symm b7,?_,by simp [aY,aR],fun dg=>aR dg.2⟩
    unfold S.R
    rw [ah,g8]
    rw [g8,List.getElem?_append_left (by omega)] at aa
    exact aa
  ·rw [if_neg e,ib] at aa
   by_cases au:q=cM
   ·subst au
    rw [if_pos rfl,g8,List.getElem?_map] at aa
    cases ad:dl[k]? with
    | none=>rw [ad] at aa;simp at aa
    | some p=>rw [ad] at aa;simp [mq] at aa
   ·rw [if_neg au] at aa
    exact .inr ⟨au,aa,by simp [aY,e],fun dg=>e dg.1⟩
 have gf : ∀q k,s.aw q k→s2.aw q k:=by
  intro q k aE
  subst ud
  rw [jw]
  by_cases e:q=r
  ·subst e;rw [if_pos rfl];simp [S.aw,ah] at aE;simp;omega
  ·rw [if_neg e,jw]
   by_cases au:q=cM
   ·subst au;rw [if_pos rfl];simpa [S.aw,eR] using aE
   ·rw [if_neg au];exact aE
 have tM : ∀k,s.aw cM k→s2.aw r (l.length+k):=by
  intro k aE
  subst ud
  rw [jw,if_pos rfl]
  simp [S.aw,eR] at aE
  simp;omega
 have tN : ∀k,s2.aA aY r (l.length+k)=s.aA af cM k:=by
  intro k
  subst ud
  simp only [S.aA]
  rw [ib,if_pos rfl]
  unfold S.R
  rw [eR,g8,g8,List.getElem?_append_right (by omega),List.getElem?_map,show l.length+k-l.length=k by omega]
  cases ad:dl[k]? with
  | none=>simp
  | some p =>
   simp only [Option.map_some,Option.bind_some]
   by_cases c1:p.bz = .gone
   ·rw [if_pos c1,if_pos (by simpa [iV] using c1)];rfl
   ·rw [if_neg c1,if_neg (by simpa [iV] using c1)]
    simp [aY,iV]
 have hZ : ∀q k,s.aw q k→s2.aA aY q k=s.aA af q k∨s2.aA aY q k=none:=by
  intro q k aE
  cases aa:s2.R q k with
  | none=>right;simp [S.aA,aa]
  | some o =>
   left
   rcases aC q k o aa with ⟨rfl,au,-⟩|⟨-,au,bB,-⟩
   ·simp [S.aw,ah] at aE;omega
   ·rw [fz aa,fz au,bB]
 have lp : ∀b,s2.iz aY b→s.iz af b:=by
  rintro b ⟨q,k,o,m,h1,I,aj⟩
  rcases aC q k o h1 with ⟨-,-,p,e1,au,bB⟩|⟨-,e1,au,-⟩
  ·rw [bB] at aj;subst au;exact ⟨cM,_,p,m,e1,I,aj⟩
  ·rw [au] at aj;exact ⟨q,k,o,m,e1,I,aj⟩
 have ct:Step g s af w s2 aY w:=⟨gf,hZ,fun b av=> .inl (lp b av),fun _ _ _=>rfl,Nat.le_refl _⟩
 have ue : ∀x v,Rel w (s.ok g af w) s.aw (s.aA af) x v→Rel w (s2.ok g aY w) s2.aw (s2.aA aY) (ht cM r l.length x) v:=by
  intro x v lD
  induction lD with
  | dead v=>exact .dead v
  | b x=>exact .b x
  | n k x=>exact .n k x
  | s x=>exact .s x
  | fL=>exact .fL
  | cg=>exact .cg
  | fX a c=>exact .fX a c
  | @lm r1 k i off a hu dg =>
   unfold ht
   split
   ·rename_i e;subst e
    exact .lm a (tM k hu) (by rw [tN];exact dg)
   ·exact ct.rel (.lm a hu dg)
  | @ref r1 k i off sz cy m hu dg =>
   unfold ht
   split
   ·rename_i e;subst e
    exact .ref (tM k hu) (by rw [tN];exact dg)
   ·exact ct.rel (.ref hu dg)
  | @jx r1 k bV len a bS dh hu dg =>
   unfold ht
   split
   ·rename_i e;subst e
    exact .jx a bS dh (tM k hu) (by rw [tN];exact dg)
   ·exact ct.rel (.jx a bS dh hu dg)
  | @jT r1 k sz hu dg =>
   unfold ht
   split
   ·rename_i e;subst e
    exact .jT (tM k hu) (by rw [tN];exact dg)
   ·exact ct.rel (.jT hu dg)
  | @a6 r1 k bV len sz cy m c a hu dg av aF jk =>
   unfold ht
   split
   ·rename_i e;subst e
    exact .a6 (tM k hu) (by rw [tN];exact dg) av aF jk
   ·exact ct.rel (.a6 hu dg av aF jk)
  | @jf r1 c sz v h0 ih =>
   unfold ht
   split
   ·exact .jf (ct.rel h0)
   ·exact ct.rel (.jf h0)
  | @jY r1 c sz k n v h0 ih =>
   unfold ht
   split
   ·rename_i e;subst e
    unfold ht at ih
    rw [if_pos rfl] at ih
    exact .jY (by rw [show k+(l.length+c)=l.length+(k+c) by omega];exact ih)
   ·exact ct.rel (.jY h0)
  | gb sz a c h=>exact .gb sz a c h
  | isl cs aM ad av aF hw fO lD ih=>exact ct.rel (.isl cs aM ad av aF hw fO lD)
  | da cs aM ad av hw fO lD ih=>exact ct.rel (.da cs aM ad av hw fO lD)
  | k6 sz=>exact .k6 sz
  | kR h0 ih=>exact ct.rel (.kR h0)
  | agg vs av fO lD ih =>
   unfold ht
   rw [vT]
   refine .agg vs (by simpa using av) fO fun j x v J aN=> ?_
   rw [List.getElem?_map,Option.map_eq_some_iff] at J
   obtain ⟨y,aG,rfl⟩:=J
   exact ih j y v aG aN
  | dx vs av lD ih =>
   unfold ht
   rw [vT]
   refine .dx vs (by simpa using av) fun j x v J aN=> ?_
   rw [List.getElem?_map,Option.map_eq_some_iff] at J
   obtain ⟨y,aG,rfl⟩:=J
   exact ih j y v aG aN
  | fn vs av lD ih=>exact ct.rel (.fn vs av lD)
 refine ⟨aY,{tofm:=⟨?_,?_,?_,h.fj,h.mlt,h.jB,?_,h.low⟩,env:=fun t=>by rw [show s2.E=s.E by rw [← ud];rfl];exact ct.rel (h.env t),defers:=h.defers,gz:=h.gz},ue⟩
 ·intro q k o aa
  rcases aC q k o aa with ⟨-,-,p,e1,au,bB⟩|⟨-,e1,au,-⟩
  ·rw [bB]
   subst au
   have ad:=h.obj cM _ p e1
   cases g9:af cM (k-l.length) with
   | none=>rw [g9] at ad;simp only [ga] at ad ⊢;simp [iV,ad]
   | some nO =>
    obtain ⟨b,m⟩:=nO
    rw [g9] at ad
    obtain ⟨c,cL,f1,f2,f3,f4⟩:=ad
    refine ⟨c,cL,f1,f2,?_,fun j x J=> ?_⟩
    ·intro e he
     simp only [iV,List.mem_map] at he
     obtain ⟨cN,iD,rfl⟩:=he
     simpa [iV] using f3 cN iD
    ·simp only [iV] at J
     rw [map_flatten,List.getElem?_map,Option.map_eq_some_iff] at J
     obtain ⟨y,aG,rfl⟩:=J
     obtain ⟨u,i7,lI,hf⟩:=f4 j y aG
     exact ⟨u,i7,lI,ue y u hf⟩
  ·rw [au]
   exact ct.obj (fun b m _=>rfl) (h.obj q k o e1)
 ·intro q k o q1 iH bC b m bG h1 I aj aB
  rcases aC q k o h1 with ⟨rfl,f1,p,e1,au,bB⟩|⟨f1,e1,au,f2⟩<;>rcases aC q1 iH bC I with ⟨rfl,rE,hF,jm,k8,ua⟩|⟨rE,jm,k8,Pd⟩
  ·rw [bB] at aj;rw [ua] at aB
   obtain ⟨-,e⟩:=h.inj _ _ _ _ _ _ b m bG e1 jm aj aB
   exact ⟨rfl,by omega⟩
  ·rw [bB] at aj;rw [k8] at aB
   obtain ⟨e,-⟩:=h.inj _ _ _ _ _ _ b m bG e1 jm aj aB
   exact absurd e.symm rE
  ·rw [au] at aj;rw [ua] at aB
   obtain ⟨e,-⟩:=h.inj _ _ _ _ _ _ b m bG e1 jm aj aB
   exact absurd e f1
  ·rw [au] at aj;rw [k8] at aB
   exact h.inj _ _ _ _ _ _ b m bG e1 jm aj aB
 ·intro q k o b m h1 I
  rcases aC q k o h1 with ⟨-,-,p,e1,au,bB⟩|⟨-,e1,au,-⟩
  ·rw [bB] at I;exact h.own cM _ p b m e1 I
  ·rw [au] at I;exact h.own q k o b m e1 I
 ·exact ct.stay h.stay
end
end Go.VL
namespace Go.VL
set_option linter.unusedVariables false
set_option linter.unusedSimpArgs false
open Go
def ag.gp:ag→Bool
 | .dead | .b _ | .n .. | .s _ | .fL | .cg | .fX | .isl .. | .da .. | .gM .. => true
 | _=>false
def ag.tj:ag→Bool
 | .agg c=>c.all ag.gp
 | .fn _ c=>c.all ag.gp
 | x=>x.gp
def ag.DZ:ag→Bool
 | .dx c=>c.all ag.tj
 | x=>x.tj
section
variable {w:World} {ok:Nat→Prop} {aw:f5} {aA:fP}
theorem Rel.rf {x:ag}{v:Value}(h:Rel w ok aw aA x v)(a5:x.gp=true):Pure x:=by
 cases h with
 | dead=>exact .dead
 | b=>exact .b _
 | n=>exact .n _ _
 | s=>exact .s _
 | fL=>exact .fL
 | cg=>exact .cg
 | fX=>exact .fX
 | gb=>exact .isl (by simp)
 | isl cs aM ad=>exact .isl ad
 | da cs aM ad=>exact .da ad
 | k6 sz=>exact .k6 sz
 | kR h=>cases h with|da cs aM ad=>exact .kR fun x J=>ad _ (List.mem_singleton.2 rfl) x J
 | _=>simp [ag.gp] at a5
theorem Cw {c:List ag}{vs:List Value}(av:vs.length=c.length)(ah:∀(j:Nat) x u,c[j]? = some x→vs[j]? = some u→Rel w ok aw aA x u)
 (a5:c.all ag.gp=true) : ∀x∈c,Pure x:=by
 intro x J
 obtain ⟨j,aq⟩:=List.getElem?_of_mem J
 have cx:j<vs.length:=by have:=d8 aq;omega
 exact (ah j x _ aq (List.getElem?_eq_getElem cx)).rf (List.all_eq_true.1 a5 x J)
theorem Rel.vZ {x:ag}{v:Value}(h:Rel w ok aw aA x v)(a5:x.tj=true):Pure x:=by
 cases h with
 | agg vs av aF ah=>exact .agg (Cw av ah a5)
 | fn vs av ah=>exact .fn (Cw av ah a5)
 | dead=>exact .dead
 | b=>exact .b _
 | n=>exact .n _ _
 | s=>exact .s _
 | fL=>exact .fL
 | cg=>exact .cg
 | fX=>exact .fX
 | gb=>exact .isl (by simp)
 | isl cs aM ad=>exact .isl ad
 | da cs aM ad=>exact .da ad
 | k6 sz=>exact .k6 sz
 | kR h=>cases h with|da cs aM ad=>exact .kR fun x J=>ad _ (List.mem_singleton.2 rfl) x J
 | _=>simp [ag.tj,ag.gp] at a5
theorem Rel.Lv {x:ag}{v:Value}(h:Rel w ok aw aA x v)(a5:x.DZ=true):Pure x:=by
 by_cases bO : ∃c,x = .dx c
 ·obtain ⟨c,rfl⟩:=bO
  obtain ⟨vs,rfl,av,ah⟩:=h.qZ
  refine .dx fun x J=> ?_
  obtain ⟨j,aq⟩:=List.getElem?_of_mem J
  have cx:j<vs.length:=by have:=d8 aq;omega
  exact (ah j x _ aq (List.getElem?_eq_getElem cx)).vZ (List.all_eq_true.1 a5 x J)
 ·refine h.vZ ?_
  cases x<;>first|exact a5|exact absurd ⟨_,rfl⟩ bO
end
def d9:List Nat→Nat→Option Nat
 | [],_=>none
 | x::l,r=>if x=r then some 0 else (d9 l r).map (· + 1)
theorem Cx : ∀ {l:List Nat} {r j:Nat},d9 l r=some j→l[j]? = some r
 | x::l,r,j,h=>by
  unfold d9 at h
  split at h
  ·simp at h;subst h;simp [*]
  ·rw [Option.map_eq_some_iff] at h
   obtain ⟨i,an,rfl⟩:=h
   simpa using Cx an
theorem Cy : ∀ {l:List Nat} {r j:Nat},l.Nodup→l[j]? = some r→d9 l r=some j
 | x::l,r,j,a5,h=>by
  rw [List.nodup_cons] at a5
  unfold d9
  cases j with
  | zero=>simp at h;simp [h]
  | succ j =>
   simp at h
   have:x≠r:=by rintro rfl;exact a5.1 (List.mem_of_getElem? h)
   rw [if_neg this,Cy a5.2 h];rfl
def uf (cI:Nat)(fN:List U)(bl:dY→Bool)(x bP:ag):Prop :=
 (bP=x∧x.gp=true)∨(∃c sz,x = .fH cI c sz none∧bP = .isl sz [])∨ ∃k bV len o,(x = .a6 cI k bV len∨ ∃c sz gx,k=gx+c∧bV=0∧x = .fH cI c sz (some (gx,len)))∧b4 (some fN) k=some o∧bl o.bz=true∧bV+len≤o.es.length ∧
   hL ((o.es.drop bV).take len)∧bP = .isl o.sz ((o.es.drop bV).take len)
def uC (cI:Nat)(fN:List U)(bl:dY→Bool)(sz:Nat)(es ea:List (List ag)):Prop :=
 ea.length=es.length∧(∀e∈ea,e.length=sz)∧ ∀(j:Nat) x bP,es.flatten[j]? = some x→ea.flatten[j]? = some bP→uf cI fN bl x bP
def ie (ax:Nat→Option (List U))(bn:Nat→Option Nat)(ar:er)(bl:dY→Bool):nL→ag→Option (ag×List Prop)
 | .id,x=>if x.gp then some (x,[]) else
  match x with
  | .ref r k i off=>match bn r with
   | some j=>some (.ref j k i off,[])
   | none=>none
  | .a6 r k bV len=>match bn r with
   | some j=>some (.a6 j k bV len,[])
   | none=>none
  | .fH r c sz h=>match bn r with
   | some j=>some (.fH j c sz h,[])
   | none=>none
  | _=>none
 | .m7 sz,.cg=>some (.isl sz [],[])
 | .m7 sz,.fX=>some (.isl sz [],[])
 | .ek ea,.a6 r k bV len=>match b4 (ax r) k with
  | some o=>if bl o.bz && (bn r).isNone then some (.isl o.sz ea,[ea=(o.es.drop bV).take len,bV+len≤o.es.length,hL ea]) else none
  | none=>none
 | .gD,_=>some (.dead,[])
 | .dd y,x=>if x.gp then some (y,[x=y]) else none
 | .len n,.a6 r k bV len=>match bn r with
  | some j=>some (.a6 j k bV n,[len=n])
  | none=>none
 | .A0 sz,x=>match x with
  | .fL=>some (.gM sz none,[])
  | .da wA [c] 0 0=>if wA=sz then some (.gM sz (some c),[]) else none
  | _=>none
 | .at_ j i n,.a6 r k bV len=>some (.a6 j i bV n,[ar j i=some (r,k),len=n])
 | .at_ j i _,.ref r k x y=>some (.ref j i x y,[ar j i=some (r,k)])
 | .view cI o ea,.a6 r k bV len=>match ax r,ax cI with
  | some row,some fN=>if (bn r).isNone && (bn cI).isNone then
   some (.isl o.sz ea,[b4 (some row) k=some o,bl o.bz=true,bV+len≤o.es.length,hL ea,uC cI fN bl o.sz ((o.es.drop bV).take len) ea]) else none
  | _,_=>none
 | _,_=>none
def ig {α β:Type}(f:α→β→Option (β×List Prop)):List α→List β→Option (List β×List Prop)
 | [],[]=>some ([],[])
 | a::l,b::m=>match f a b,ig f l m with
  | some (gY,bC),some (bG,aW)=>some (gY::bG,bC++aW)
  | _,_=>none
 | _,_=>none
def kg (ax:Nat→Option (List U))(bn:Nat→Option Nat)(ar:er)(bl:dY→Bool):rR→ag→Option (ag×List Prop)
 | .d6 c,x=>if x.tj then (match c with | .id=>some (x,[]) | .gD=>some (.dead,[]) | .dd y=>some (y,[x=y])|c=>ie ax bn ar bl c x) else ie ax bn ar bl c x
 | .agg l,.agg c=>match ig (ie ax bn ar bl) l c with
  | some (cq,R)=>some (.agg cq,R)
  | none=>none
 | .ptr l,.ref r k i off=>match b4 (ax r) k with
  | some o=>match o.es with
   | [c]=>if bl o.bz && (bn r).isNone then
    match ig (ie ax bn ar bl) l c with
    | some (cq,R)=>some (.da o.sz [cq] i off,R++[hL [cq]])
    | none=>none
    else none
   | _=>none
  | none=>none
 | .z4 l,x=>match x with
  | .ref r k 0 0=>match b4 (ax r) k with
   | some o=>match o.es with
    | [c]=>if bl o.bz && (bn r).isNone then
     match ig (ie ax bn ar bl) l c with
     | some (cq,R)=>some (.gM o.sz (some cq),R++[hL [cq]])
     | none=>none
     else none
    | _=>none
   | none=>none
  | _=>none
 | _,_=>none
def jV (ax:Nat→Option (List U))(bn:Nat→Option Nat)(ar:er)(bl:dY→Bool):h5→ag→Option (ag×List Prop)
 | .bS c,x=>if x.DZ then (match c with | .d6 .id=>some (x,[])|c=>kg ax bn ar bl c x) else kg ax bn ar bl c x
 | .comp l,.dx c=>match ig (kg ax bn ar bl) l c with
  | some (cq,R)=>some (.dx cq,R)
  | none=>none
 | .comp l,.fn f c=>match ig (kg ax bn ar bl) l c with
  | some (cq,R)=>some (.fn f cq,R)
  | none=>none
 | _,_=>none
def nY (row:List U):Prop:= ∀o∈row,hL o.es∧o.bz = .live
def fE (row:List U):Prop:= ∀o∈row,o.bz = .live∨o.bz = .gone
def j6 (bn:Nat→Option Nat):ag→ag
 | .ref r k i off=>match bn r with|some j=> .ref j k i off|none=> .dead
 | .a6 r k bV len=>match bn r with|some j=> .a6 j k bV len|none=> .dead
 | .fH r c sz h=>match bn r with|some j=> .fH j c sz h|none=> .dead
 | x=>if x.gp then x else .dead
def h3 (bn:Nat→Option Nat)(o:U):U:={o with es:=o.es.map fun e=>e.map (j6 bn)}
def fV (ax:Nat→Option (List U))(bn:Nat→Option Nat)(ar:er)(bl:dY→Bool):fC→List U→Option (List U×List Prop)
 | .pure,row=>some (row,[nY row])
 | .dd cB,row=>some (cB,[row=cB,nY cB])
 | .dZ cB,row=>some (cB,[cB=row.map (h3 bn),fE row])
 | .box l,[o]=>match o.es with
  | [c]=>if o.bz = .live then match ig (ie ax bn ar bl) l c with
   | some (cq,R)=>some ([{o with es:=[cq]}],R)
   | none=>none
   else none
  | _=>none
 | _,_=>none
structure nP (q:ag→Prop) (bl:dY→Bool):Prop extends Down q where
 all : ∀k,bl k=true→ ∀x,q x
theorem og (bl:dY→Bool):nP iF bl:={toDown:=Lr,all:=fun _ _ _=>trivial}
theorem Mz:nP bj (fun _=>false):={toDown:=Lt,all:=fun _ h=>by simp at h}
structure i9 (s:S) (ar:er) (bn:Nat→Option Nat) (bl:dY→Bool):Prop where
 an : ∀r j,bn r=some j→ ∀k,ar j k=some (r,k)
 a5 : ∀r,bn r=none→ ∀k o,s.R r k=some o→bl o.bz=true→ ∀j i,ar j i≠some (r,k)
section
variable {g:G} {s:S} {af:de} {w:World} {ar:er} {bn:Nat→Option Nat} {bl:dY→Bool} {q:ag→Prop}
theorem vy {α β:Type}(f:α→β→Option (β×List Prop)): ∀(l:List α) (m bG:List β) (R:List Prop),ig f l m=some (bG,R) →
 bG.length=m.length∧l.length=m.length∧ ∀(j:Nat) b gY,m[j]? = some b→bG[j]? = some gY→ ∃x bh,l[j]? = some x∧f x b=some (gY,bh)∧ ∀p∈bh,p∈R
 | [],[],bG,R,h=>by
  simp [ig] at h;obtain ⟨rfl,rfl⟩:=h
  exact ⟨rfl,rfl,fun j b gY aM=>by simp at aM⟩
 | [],_::_,_,_,h=>by simp [ig] at h
 | _::_,[],_,_,h=>by simp [ig] at h
 | x::l,b::m,bG,R,h=>by
  simp only [ig] at h
  split at h
  ·rename_i gY bC e7 aW h1 I
   simp only [Option.some.injEq,Prod.mk.injEq] at h
   obtain ⟨rfl,rfl⟩:=h
   obtain ⟨e1,au,bB⟩:=vy f l m e7 aW I
   refine ⟨by simp [e1],by simp [au],fun j c cq aF pq=> ?_⟩
   cases j with
   | zero =>
    simp at aF pq;subst aF;subst pq
    exact ⟨x,bC,rfl,h1,fun p ad=>by simp [ad]⟩
   | succ j =>
    simp at aF pq
    obtain ⟨y,bh,f1,f2,f3⟩:=bB j c cq aF pq
    exact ⟨y,bh,by simpa using f1,f2,fun p ad=>by simp [f3 p ad]⟩
  ·simp at h
theorem zz (cu:fm g s af w)(H:i9 s ar bn bl)(bd:nP q bl){c:nL}{x bP:ag}{R:List Prop}(h:ie s.ax bn ar bl c x=some (bP,R))(aC:∀p∈R,p)
 (aE:q x) {v:Value} (ah:Rel w (s.ok g af w) s.aw (s.aA af) x v):e6 s ar bl q x bP:=by
 have gf : ∀ {r k bV len:Nat},x = .a6 r k bV len→s.aw r k:=by
  intro r k bV len e;subst e;cases ah<;>assumption
 cases c with
 | id =>
  simp only [ie] at h
  split at h
  ·rename_i a5
   simp only [Option.some.injEq,Prod.mk.injEq] at h
   obtain ⟨rfl,rfl⟩:=h
   exact .pure (ah.rf a5) aE
  ·split at h
   ·rename_i r k i off _
    split at h
    ·rename_i j aq
     simp only [Option.some.injEq,Prod.mk.injEq] at h
     obtain ⟨rfl,rfl⟩:=h
     exact .ref i off (H.an r j aq k) (by cases ah<;>assumption)
    ·simp at h
   ·rename_i r k bV len _
    split at h
    ·rename_i j aq
     simp only [Option.some.injEq,Prod.mk.injEq] at h
     obtain ⟨rfl,rfl⟩:=h
     exact .a6 bV len (H.an r j aq k) (gf rfl)
    ·simp at h
   ·rename_i r c sz dg _
    split at h
    ·rename_i j aq
     simp only [Option.some.injEq,Prod.mk.injEq] at h
     obtain ⟨rfl,rfl⟩:=h
     exact .fH dg (fun k=>H.an r j aq _)
    ·simp at h
   ·simp at h
 | m7 sz =>
  cases x<;>simp [ie] at h
  ·obtain ⟨rfl,rfl⟩:=h
   exact .cg sz
  ·obtain ⟨rfl,rfl⟩:=h
   exact .fX sz
 | ek ea =>
  cases x<;>simp only [ie,reduceCtorEq] at h
  rename_i r k bV len
  split at h
  ·rename_i o aa
   split at h
   ·rename_i aF
    simp only [Bool.and_eq_true,Option.isNone_iff_eq_none] at aF
    simp only [Option.some.injEq,Prod.mk.injEq] at h
    obtain ⟨rfl,rfl⟩:=h
    have h1:ea=(o.es.drop bV).take len:=aC _ (by simp)
    have I:bV+len≤o.es.length:=aC _ (by simp)
    have aj:hL ea:=aC _ (by simp)
    have cw:s.R r k=some o:=aa
    have hlen : ∀e∈o.es,e.length=o.sz:=by
     have dw:=cu.obj r k o cw
     cases ad:af r k with
     | none=>rw [ad] at dw;simp only [ga] at dw;rw [dw];simp
     | some q=>rw [ad] at dw;obtain ⟨_,_,_,_,e,_⟩:=dw;exact e
    refine .isl cw aF.1 (H.a5 r aF.2 k o cw aF.1) I aj ?_ ?_ ?_
    ·rw [h1];exact fun e he=>hlen e (List.mem_of_mem_drop (List.mem_of_mem_take he))
    ·rw [h1];simp;omega
    ·intro j y jJ aG lE
     rw [h1] at lE
     rw [aG] at lE;simp at lE;subst lE
     rw [h1] at aj
     obtain ⟨e,he,ug⟩:=nf aG
     exact .pure (aj e he y ug) (bd.all _ aF.1 y)
   ·simp at h
  ·simp at h
 | gD =>
  simp only [ie,Option.some.injEq,Prod.mk.injEq] at h
  obtain ⟨rfl,rfl⟩:=h
  exact .dead x
 | dd y =>
  simp only [ie] at h
  split at h
  ·rename_i a5
   simp only [Option.some.injEq,Prod.mk.injEq] at h
   obtain ⟨rfl,rfl⟩:=h
   have e:x=y:=aC _ (by simp)
   subst e
   exact .pure (ah.rf a5) aE
  ·simp at h
 | len n =>
  cases x<;>simp only [ie,reduceCtorEq] at h
  rename_i r k bV len
  split at h
  ·rename_i j aq
   simp only [Option.some.injEq,Prod.mk.injEq] at h
   obtain ⟨rfl,rfl⟩:=h
   have e:len=n:=aC _ (by simp)
   subst e
   exact .a6 bV len (H.an r j aq k) (gf rfl)
  ·simp at h
 | at_ j i n =>
  cases x<;>simp only [ie,reduceCtorEq] at h
  ·rename_i r k x y
   simp only [Option.some.injEq,Prod.mk.injEq] at h
   obtain ⟨rfl,rfl⟩:=h
   exact .ref x y (aC _ (List.mem_cons_self)) (by cases ah<;>assumption)
  ·rename_i r k bV len
   simp only [Option.some.injEq,Prod.mk.injEq] at h
   obtain ⟨rfl,rfl⟩:=h
   have e:len=n:=aC _ (by simp)
   subst e
   exact .a6 bV len (aC _ (List.mem_cons_self)) (gf rfl)
 | view cI o ea =>
  cases x<;>simp only [ie,reduceCtorEq] at h
  rename_i r k bV len
  split at h
  ·rename_i row fN cn Lw
   split at h
   ·rename_i aF
    simp only [Bool.and_eq_true,Option.isNone_iff_eq_none] at aF
    simp only [Option.some.injEq,Prod.mk.injEq] at h
    obtain ⟨rfl,rfl⟩:=h
    have h1:b4 (some row) k=some o:=aC _ (by simp)
    have I:bl o.bz=true:=aC _ (by simp)
    have aj:bV+len≤o.es.length:=aC _ (by simp)
    have aB:hL ea:=aC _ (by simp)
    have bk:uC cI fN bl o.sz ((o.es.drop bV).take len) ea:=aC _ (by simp)
    have cw:s.R r k=some o:=by unfold S.R;rw [cn];exact h1
    obtain ⟨d1,d2,wY⟩:=bk
    refine .isl cw I (H.a5 r aF.1 k o cw I) aj aB d2 (by rw [d1];simp;omega) fun j y jJ aG lE=> ?_
    rcases wY j y jJ aG lE with ⟨rfl,a5⟩|⟨dh,EB,rfl,rfl⟩|⟨hd,wF,we,p,MA,e1,au,bB,dk,rfl⟩
    ·obtain ⟨e,he,ug⟩:=nf lE
     exact .pure (aB e he jJ ug) (bd.all _ I _)
    ·exact .jf _ _ _
    ·have j5:s.R cI hd=some p:=by unfold S.R;rw [Lw];exact e1
     have hlen : ∀e∈p.es,e.length=p.sz:=by
      have dw:=cu.obj cI hd p j5
      cases ad:af cI hd with
      | none=>rw [ad] at dw;simp only [ga] at dw;rw [dw];simp
      | some q=>rw [ad] at dw;obtain ⟨_,_,_,_,e,_⟩:=dw;exact e
     have D0:e6 s ar bl q (.a6 cI hd wF we) (.isl p.sz ((p.es.drop wF).take we)):=by
      refine .isl j5 au (H.a5 cI aF.2 hd p j5 au) bB dk (fun e he=>hlen e (List.mem_of_mem_drop (List.mem_of_mem_take he))) (by simp;omega) fun j z Pw cl Aw=> ?_
      rw [cl] at Aw;simp at Aw;subst Aw
      obtain ⟨e,he,MB⟩:=nf cl
      exact .pure (dk e he z MB) (bd.all _ au _)
     rcases MA with rfl|⟨d6,Pe,gx,rfl,rfl,rfl⟩
     ·exact D0
     ·exact .jY D0
   ·simp at h
  ·simp at h
 | A0 sz =>
  simp only [ie] at h
  split at h
  ·simp only [Option.some.injEq,Prod.mk.injEq] at h
   obtain ⟨rfl,rfl⟩:=h
   exact .vY _
  ·split at h
   ·rename_i e;subst e
    simp only [Option.some.injEq,Prod.mk.injEq] at h
    obtain ⟨rfl,rfl⟩:=h
    exact .gM (.pure (ah.rf rfl) aE)
   ·simp at h
  ·simp at h
theorem sZ (cu:fm g s af w)(H:i9 s ar bn bl)(bd:nP q bl){l:List nL}{c cq:List ag}{R:List Prop}(h:ig (ie s.ax bn ar bl) l c=some (cq,R))(aC:∀p∈R,p)
 (aE : ∀x∈c,q x) {vs:List Value} (av:vs.length=c.length) (ah : ∀(j:Nat) x u,c[j]? = some x→vs[j]? = some u→Rel w (s.ok g af w) s.aw (s.aA af) x u) :
 cq.length=c.length∧ ∀(j:Nat) x bP,c[j]? = some x→cq[j]? = some bP→e6 s ar bl q x bP:=by
 obtain ⟨e1,au,bB⟩:=vy _ l c cq R h
 refine ⟨e1,fun j x bP J cp=> ?_⟩
 obtain ⟨y,bh,f1,f2,f3⟩:=bB j x bP J cp
 have cx:j<vs.length:=by have:=d8 J;omega
 exact zz cu H bd f2 (fun p ad=>aC p (f3 p ad)) (aE x (List.mem_of_getElem? J)) (ah j x _ J (List.getElem?_eq_getElem cx))
theorem zA (cu:fm g s af w)(H:i9 s ar bn bl)(bd:nP q bl){c:rR}{x bP:ag}{R:List Prop}(h:kg s.ax bn ar bl c x=some (bP,R))(aC:∀p∈R,p)
 (aE:q x) {v:Value} (ah:Rel w (s.ok g af w) s.aw (s.aA af) x v):e6 s ar bl q x bP:=by
 cases c with
 | d6 c =>
  simp only [kg] at h
  split at h
  ·rename_i a5
   split at h
   ·simp only [Option.some.injEq,Prod.mk.injEq] at h
    obtain ⟨rfl,rfl⟩:=h
    exact .pure (ah.vZ a5) aE
   ·simp only [Option.some.injEq,Prod.mk.injEq] at h
    obtain ⟨rfl,rfl⟩:=h
    exact .dead _
   ·simp only [Option.some.injEq,Prod.mk.injEq] at h
    obtain ⟨rfl,rfl⟩:=h
    have e:=aC _ (List.mem_singleton.2 rfl)
    subst e
    exact .pure (ah.vZ a5) aE
   ·exact zz cu H bd h aC aE ah
  ·exact zz cu H bd h aC aE ah
 | agg l =>
  cases x<;>simp only [kg,reduceCtorEq] at h
  rename_i c
  split at h
  ·rename_i cq jG aF
   simp only [Option.some.injEq,Prod.mk.injEq] at h
   obtain ⟨rfl,rfl⟩:=h
   obtain ⟨vs,rfl,av,-,uh⟩:=ah.s8
   obtain ⟨e1,au⟩:=sZ cu H bd aF aC (fun y aG=>bd.agg _ _ aE aG) av uh
   exact .agg e1 au
  ·simp at h
 | ptr l =>
  cases x<;>simp only [kg,reduceCtorEq] at h
  rename_i r k i off
  split at h
  ·rename_i o aa
   split at h
   ·rename_i c eZ
    split at h
    ·rename_i aF
     simp only [Bool.and_eq_true,Option.isNone_iff_eq_none] at aF
     split at h
     ·rename_i cq jG fO
      simp only [Option.some.injEq,Prod.mk.injEq] at h
      obtain ⟨rfl,rfl⟩:=h
      have cw:s.R r k=some o:=aa
      have dw:=cu.obj r k o cw
      cases ad:af r k with
      | none=>rw [ad] at dw;simp only [ga] at dw;rw [eZ] at dw;simp at dw
      | some q =>
       obtain ⟨b,m⟩:=q
       rw [ad] at dw
       obtain ⟨bt,cL,g1,g2,g3,g4⟩:=dw
       have Aa:c.length=o.sz:=g3 c (by rw [eZ];simp)
       have gX:o.es.flatten=c:=by rw [eZ];simp
       have hcs : ∀j:Nat,j<c.length→ ∃u,bt[j]? = some u∧Rel w (s.ok g af w) s.aw (s.aA af) c[j]! u:=by
        intro j aq
        obtain ⟨u,i7,-,hf⟩:=g4 j c[j] (by rw [gX];exact List.getElem?_eq_getElem aq)
        exact ⟨u,i7,by rw [getElem!_pos c j aq];exact hf⟩
       obtain ⟨e1,au⟩:=sZ (vs:=(List.range c.length).map fun j=>(bt[j]?).getD undef) cu H bd fO (fun p ad=>aC p (by simp [ad])) (fun y _=>bd.all _ aF.1 y) (by simp) (by
        intro j y u aG hu
        have aq:=d8 aG
        rw [List.getElem?_map,List.getElem?_range aq] at hu
        simp only [Option.map_some,Option.some.injEq] at hu
        obtain ⟨A6,i7,hf⟩:=hcs j aq
        rw [i7] at hu;simp at hu;subst hu
        rw [List.getElem?_eq_getElem aq] at aG;simp at aG;subst aG
        rw [getElem!_pos c j aq] at hf;exact hf)
       have ns:hL [cq]:=aC _ (by simp)
       refine .da i off cw aF.1 (H.a5 r aF.2 k o cw aF.1) (by rw [eZ];simp) ns (by simp;omega) (by rw [eZ];rfl) ?_
       ·intro j y jJ aG lE
        rw [gX] at aG
        simp only [List.flatten_cons,List.flatten_nil,List.append_nil] at lE
        exact au j y jJ aG lE
     ·simp at h
    ·simp at h
   ·simp at h
  ·simp at h
 | z4 l =>
  simp only [kg] at h
  split at h
  ·rename_i r k
   split at h
   ·rename_i o aa
    split at h
    ·rename_i c eZ
     split at h
     ·rename_i aF
      simp only [Bool.and_eq_true,Option.isNone_iff_eq_none] at aF
      split at h
      ·rename_i cq jG fO
       simp only [Option.some.injEq,Prod.mk.injEq] at h
       obtain ⟨rfl,rfl⟩:=h
       have cw:s.R r k=some o:=aa
       have dw:=cu.obj r k o cw
       cases ad:af r k with
       | none=>rw [ad] at dw;simp only [ga] at dw;rw [eZ] at dw;simp at dw
       | some q =>
        obtain ⟨b,m⟩:=q
        rw [ad] at dw
        obtain ⟨bt,cL,g1,g2,g3,g4⟩:=dw
        have Aa:c.length=o.sz:=g3 c (by rw [eZ];simp)
        have gX:o.es.flatten=c:=by rw [eZ];simp
        have hcs : ∀j:Nat,j<c.length→ ∃u,bt[j]? = some u∧Rel w (s.ok g af w) s.aw (s.aA af) c[j]! u:=by
         intro j aq
         obtain ⟨u,i7,-,hf⟩:=g4 j c[j] (by rw [gX];exact List.getElem?_eq_getElem aq)
         exact ⟨u,i7,by rw [getElem!_pos c j aq];exact hf⟩
        obtain ⟨e1,au⟩:=sZ (vs:=(List.range c.length).map fun j=>(bt[j]?).getD undef) cu H bd fO (fun p ad=>aC p (by simp [ad])) (fun y _=>bd.all _ aF.1 y) (by simp) (by
         intro j y u aG hu
         have aq:=d8 aG
         rw [List.getElem?_map,List.getElem?_range aq] at hu
         simp only [Option.map_some,Option.some.injEq] at hu
         obtain ⟨A6,i7,hf⟩:=hcs j aq
         rw [i7] at hu;simp at hu;subst hu
         rw [List.getElem?_eq_getElem aq] at aG;simp at aG;subst aG
         rw [getElem!_pos c j aq] at hf;exact hf)
        have ns:hL [cq]:=aC _ (by simp)
        refine .gM (.da 0 0 cw aF.1 (H.a5 r aF.2 k o cw aF.1) (by rw [eZ];simp) ns (by simp;omega) (by rw [eZ];rfl) ?_)
        ·intro j y jJ aG lE
         rw [gX] at aG
         simp only [List.flatten_cons,List.flatten_nil,List.append_nil] at lE
         exact au j y jJ aG lE
      ·simp at h
     ·simp at h
    ·simp at h
   ·simp at h
  ·simp at h
theorem s6 (cu:fm g s af w)(H:i9 s ar bn bl)(bd:nP q bl){c:h5}{x bP:ag}{R:List Prop}(h:jV s.ax bn ar bl c x=some (bP,R))(aC:∀p∈R,p)
 (aE:q x) {v:Value} (ah:Rel w (s.ok g af w) s.aw (s.aA af) x v):e6 s ar bl q x bP:=by
 have key : ∀(l:List rR) (c cq:List ag) (jG:List Prop) (vs:List Value),ig (kg s.ax bn ar bl) l c=some (cq,jG)→(∀p∈jG,p)→(∀x∈c,q x)→vs.length=c.length →
  (∀(j:Nat) x u,c[j]? = some x→vs[j]? = some u→Rel w (s.ok g af w) s.aw (s.aA af) x u)→cq.length=c.length∧ ∀(j:Nat) x bP,c[j]? = some x→cq[j]? = some bP→e6 s ar bl q x bP:=by
  intro l c cq jG vs h aC aE av ah
  obtain ⟨e1,au,bB⟩:=vy _ l c cq jG h
  refine ⟨e1,fun j x bP J cp=> ?_⟩
  obtain ⟨y,bh,f1,f2,f3⟩:=bB j x bP J cp
  have cx:j<vs.length:=by have:=d8 J;omega
  exact zA cu H bd f2 (fun p ad=>aC p (f3 p ad)) (aE x (List.mem_of_getElem? J)) (ah j x _ J (List.getElem?_eq_getElem cx))
 cases c with
 | bS c =>
  simp only [jV] at h
  split at h
  ·rename_i a5
   split at h
   ·simp only [Option.some.injEq,Prod.mk.injEq] at h
    obtain ⟨rfl,rfl⟩:=h
    exact .pure (ah.Lv a5) aE
   ·exact zA cu H bd h aC aE ah
  ·exact zA cu H bd h aC aE ah
 | comp l =>
  cases x<;>simp only [jV,reduceCtorEq] at h
  ·rename_i c
   split at h
   ·rename_i cq jG aF
    simp only [Option.some.injEq,Prod.mk.injEq] at h
    obtain ⟨rfl,rfl⟩:=h
    obtain ⟨vs,rfl,av,uh⟩:=ah.qZ
    obtain ⟨e1,au⟩:=key l c cq jG vs aF aC (fun y aG=>bd.dx _ _ aE aG) av uh
    exact .dx e1 au
   ·simp at h
  ·rename_i f c
   split at h
   ·rename_i cq jG aF
    simp only [Option.some.injEq,Prod.mk.injEq] at h
    obtain ⟨rfl,rfl⟩:=h
    obtain ⟨vs,rfl,av,uh⟩:=ah.vS
    obtain ⟨e1,au⟩:=key l c cq jG vs aF aC (fun y aG=>bd.fn _ _ _ aE aG) av uh
    exact .fn e1 au
   ·simp at h
theorem D1 (cu:fm g s af w)(H:i9 s ar bn bl){r:Nat}{gP:Nat→Nat}{row:List U}(cn:∀k o,b4 (some row) k=some o→s.R r (gP k)=some o)
 (aE : ∀k o,b4 (some row) k=some o→ ∀e∈o.es,∀x∈e,q x) :
 ∀(k:Nat) bh,b4 (some (row.map (h3 bn))) k=some bh→ ∃o,b4 (some row) k=some o∧kr s ar bl q o bh:=by
 intro k bh cw
 rw [g8,List.getElem?_map] at cw
 cases aR:row[k]? with
 | none=>rw [aR] at cw;simp at cw
 | some o =>
  rw [aR] at cw
  simp only [Option.map_some,Option.bind_some] at cw
  split at cw
  ·simp at cw
  ·rename_i c1
   simp only [Option.some.injEq] at cw
   subst cw
   have aa:b4 (some row) k=some o:=by rw [g8,aR,Option.bind_some,if_neg (by simpa [h3] using c1)]
   have bZ:s.R r (gP k)=some o:=cn k o aa
   refine ⟨o,aa,?_⟩
   have dw:=cu.obj r (gP k) o bZ
   have hlen : ∀e∈o.es,e.length=o.sz:=by
    cases ad:af r (gP k) with
    | none=>rw [ad] at dw;simp only [ga] at dw;rw [dw];simp
    | some q=>rw [ad] at dw;obtain ⟨_,_,_,_,e,_⟩:=dw;exact e
   refine ⟨rfl,.inl rfl,by simp [h3],?_,fun j x bP J cp=> ?_⟩
   ·intro e he
    simp only [h3,List.mem_map] at he
    obtain ⟨cN,iD,rfl⟩:=he
    simpa using hlen cN iD
   ·simp only [h3] at cp
    rw [map_flatten,List.getElem?_map,J] at cp
    simp only [Option.map_some,Option.some.injEq] at cp
    subst cp
    obtain ⟨e,he,l2⟩:=nf J
    have MC:=aE k o aa e he x l2
    cases ad:af r (gP k) with
    | none=>rw [ad] at dw;simp only [ga] at dw;rw [dw] at J;simp at J
    | some nO =>
     obtain ⟨b,m⟩:=nO
     rw [ad] at dw
     obtain ⟨c,cL,f1,f2,f3,f4⟩:=dw
     obtain ⟨u,i7,lI,hf⟩:=f4 j x J
     cases x with
     | ref bF hd pK L6 =>
      cases bO:bn bF with
      | none=>simp only [j6,bO];exact .dead _
      | some wZ=>simp only [j6,bO];exact .ref pK L6 (H.an _ _ bO _) (by cases hf<;>assumption)
     | a6 bF hd wF we =>
      cases bO:bn bF with
      | none=>simp only [j6,bO];exact .dead _
      | some wZ=>simp only [j6,bO];exact .a6 wF we (H.an _ _ bO _) (by cases hf<;>assumption)
     | fH bF dh EB I =>
      cases bO:bn bF with
      | none=>simp only [j6,bO];exact .dead _
      | some wZ=>simp only [j6,bO];exact .fH I (fun k=>H.an _ _ bO _)
     | _ =>
      simp only [j6]
      split
      ·rename_i a5;exact .pure (hf.rf a5) MC
      ·exact .dead _
theorem vz (cu:fm g s af w)(H:i9 s ar bn bl)(bd:nP q bl){c:fC}{r:Nat}{gP:Nat→Nat}{row cB:List U}{R:List Prop}(cn:∀k o,b4 (some row) k=some o→s.R r (gP k)=some o)
 (h:fV s.ax bn ar bl c row=some (cB,R)) (aC : ∀p∈R,p) (aE : ∀k o,b4 (some row) k=some o→ ∀e∈o.es,∀x∈e,q x) :
 cB.length=row.length∧(∀k o,b4 (some row) k=some o→o.bz = .live) ∧
 ∀(k:Nat) bh,b4 (some cB) k=some bh→ ∃o,b4 (some row) k=some o∧kr s ar bl q o bh:=by
 have hlen : ∀k o,b4 (some row) k=some o→ ∀e∈o.es,e.length=o.sz:=by
  intro k o aa
  have cw:s.R r (gP k)=some o:=cn k o aa
  have dw:=cu.obj r (gP k) o cw
  cases ad:af r (gP k) with
  | none=>rw [ad] at dw;simp only [ga] at dw;rw [dw];simp
  | some q=>rw [ad] at dw;obtain ⟨_,_,_,_,e,_⟩:=dw;exact e
 have ns:nY row→(∀k o,b4 (some row) k=some o→o.bz = .live) ∧
  ∀(k:Nat) bh,b4 (some row) k=some bh→ ∃o,b4 (some row) k=some o∧kr s ar bl q o bh:=by
  intro ad
  have m0 : ∀k o,b4 (some row) k=some o→o∈row:=by
   intro k o aa
   unfold b4 at aa
   simp only at aa
   split at aa
   ·rename_i bh cw
    split at aa
    ·simp at aa
    ·simp at aa;subst aa;exact List.mem_of_getElem? cw
   ·simp at aa
  refine ⟨fun k o aa=>(ad o (m0 k o aa)).2,fun k o aa=>⟨o,aa,rfl,.inl rfl,rfl,hlen k o aa,fun j x bP J cp=> ?_⟩⟩
  rw [J] at cp;simp at cp;subst cp
  obtain ⟨e,he,l2⟩:=nf J
  exact .pure ((ad o (m0 k o aa)).1 e he x l2) (aE k o aa e he x l2)
 cases c with
 | pure =>
  simp only [fV,Option.some.injEq,Prod.mk.injEq] at h
  obtain ⟨rfl,rfl⟩:=h
  exact ⟨rfl,ns (aC _ (by simp))⟩
 | dd bi =>
  simp only [fV,Option.some.injEq,Prod.mk.injEq] at h
  obtain ⟨rfl,rfl⟩:=h
  have e:row=bi:=aC _ (by simp)
  subst e
  exact ⟨rfl,ns (aC _ (by simp))⟩
 | dZ bi =>
  simp only [fV,Option.some.injEq,Prod.mk.injEq] at h
  obtain ⟨rfl,rfl⟩:=h
  have e:bi=row.map (h3 bn):=aC _ (by simp)
  have Ax:fE row:=aC _ (by simp)
  subst e
  refine ⟨by simp,fun k o aa=>by
   unfold b4 at aa
   simp only at aa
   split at aa
   ·rename_i bh cw
    split at aa
    ·simp at aa
    ·rename_i c1
     simp at aa;subst aa
     exact (Ax _ (List.mem_of_getElem? cw)).resolve_right c1
   ·simp at aa,D1 cu H cn aE⟩
 | rx bi=>cases row with
  | nil=>simp [fV] at h
  | cons o l=>cases l<;>simp [fV] at h
 | drop=>cases row with
  | nil=>simp [fV] at h
  | cons o l=>cases l<;>simp [fV] at h
 | box l =>
  match row,h with
  | [o],h =>
   simp only [fV] at h
   split at h
   ·rename_i c eZ
    split at h
    ·rename_i j4
     split at h
     ·rename_i cq jG aF
      simp only [Option.some.injEq,Prod.mk.injEq] at h
      obtain ⟨rfl,rfl⟩:=h
      have h0:b4 (some [o]) 0=some o:=by rw [iM];simp [j4]
      refine ⟨rfl,fun k p ad=> ?_,fun k p ad=> ?_⟩
      ·rw [iM] at ad
       split at ad
       ·simp at ad;subst ad;exact j4
       ·simp at ad
      ·rw [iM] at ad
       split at ad
       ·rename_i ui
        obtain ⟨rfl,-⟩:=ui
        simp only [Option.some.injEq] at ad;subst ad
        refine ⟨o,h0,?_⟩
        have cw:s.R r (gP 0)=some o:=cn 0 o h0
        have dw:=cu.obj r (gP 0) o cw
        cases g9:af r (gP 0) with
        | none=>rw [g9] at dw;simp only [ga] at dw;rw [eZ] at dw;simp at dw
        | some q =>
         obtain ⟨b,m⟩:=q
         rw [g9] at dw
         obtain ⟨bt,cL,g1,g2,g3,g4⟩:=dw
         have Aa:c.length=o.sz:=g3 c (by rw [eZ];simp)
         have gX:o.es.flatten=c:=by rw [eZ];simp
         obtain ⟨e1,au⟩:=sZ (vs:=(List.range c.length).map fun j=>(bt[j]?).getD undef) cu H bd aF aC (fun y aG=>aE 0 o h0 c (by rw [eZ];simp) y aG) (by simp) (by
          intro j y u aG hu
          have aq:=d8 aG
          rw [List.getElem?_map,List.getElem?_range aq] at hu
          simp only [Option.map_some,Option.some.injEq] at hu
          obtain ⟨A6,i7,-,hf⟩:=g4 j y (by rw [gX];exact aG)
          rw [i7] at hu;simp at hu;subst hu
          exact hf)
         refine ⟨rfl,.inl rfl,by simp [eZ],by simp;omega,fun j x bP J cp=> ?_⟩
         rw [gX] at J
         simp only [List.flatten_cons,List.flatten_nil,List.append_nil] at cp
         exact au j x bP J cp
       ·simp at ad
     ·simp at h
    ·simp at h
   ·simp at h
  | [],h=>simp [fV] at h
  | _::_::_,h=>simp [fV] at h
end
end Go.VL
namespace Go.VL
set_option linter.unusedVariables false
set_option linter.unusedSimpArgs false
open Go
def vA (P:Program)(f:FuncId):Prop:= ∃fn,P.funcs[f]? = some fn∧(fn.name == "runtime.NumGoroutine")=false∧fn.body.isSome=true
def Con (P:Program)(f:FuncId)(args:List ag)(T:List (List U))(r:ag)(gj:List (List U)):Prop:=vA P f∧Ls P f args T r gj
def mr (k:dY):Bool:=k = .ko
def gR (_:dY):Bool:=true
def hE (_:dY):Bool:=false
def Src.r:Src→Nat
 | .row r=>r
 | .R r _ _=>r
def Src.has:Src→Nat→Nat→Prop
 | .row r,q,_=>q=r
 | .R r k _,q,b9=>q=r∧b9=k
def Src.i5:Src→Nat→Nat
 | .row _,k=>k
 | .R ..,_=>0
def ha (l:List Src):er:=fun j i=>match l[j]? with
 | some (.row r)=>some (r,i)
 | some (.R r k _)=>if i=0 then some (r,k) else none
 | none=>none
def kT (n:Nat):List Src→Nat→Option Nat
 | [],_=>none
 | .row r::l,q=>if r=q then some n else kT (n+1) l q
 | .R .. :: l,q=>kT (n+1) l q
def gg (n:Nat):List Src→er
 | [],_,_=>none
 | .row r::l,q,k=>if q=r then some (n,k) else gg (n+1) l q k
 | .R r b9 _::l,q,k=>if q=r∧k=b9 then some (n,0) else gg (n+1) l q k
def nt (l:List Src):Nat→Option Nat:=fun j=>match l[j]? with
 | some (.row r)=>some r
 | _=>none
def apart:Src→Src→Option (List Prop)
 | .R r k _,.R cM b9 _=>if r=cM then some [k≠b9] else some []
 | a,b=>if a.r=b.r then none else some []
def vU (a:Src):List Src→Option (List Prop)
 | []=>some []
 | b::l=>match apart a b,vU a l with
  | some x,some y=>some (x++y)
  | _,_=>none
def v5:List Src→Option (List Prop)
 | []=>some []
 | a::l=>match vU a l,v5 l with
  | some x,some y=>some (x++y)
  | _,_=>none
def tO (l:List Src):Prop:=l.Pairwise fun a b=> ∀r k,¬(a.has r k∧b.has r k)
theorem JQ {a b:Src}{R:List Prop}(h:apart a b=some R)(aC:∀p∈R,p): ∀r k,¬(a.has r k∧b.has r k):=by
 rintro r k ⟨h1,I⟩
 have ah : ∀c:Src,c.has r k→c.r=r:=fun c aF=>by
  cases c with
  | row r0=>exact Eq.symm aF
  | R r0 gx h7=>exact Eq.symm aF.1
 have e:=(ah a h1).trans (ah b I).symm
 cases a with
 | row r0=>simp only [apart] at h;rw [if_pos e] at h;simp at h
 | R r0 gx h7 =>
  cases b with
  | row r1=>simp only [apart] at h;rw [if_pos e] at h;simp at h
  | R r1 iH bC =>
   simp only [apart] at h
   rw [if_pos (show r0=r1 from e)] at h
   simp only [Option.some.injEq] at h
   subst h
   exact aC _ (List.mem_singleton.2 rfl) (h1.2.symm.trans I.2)
theorem CQ {a:Src}: ∀ {l:List Src} {R:List Prop},vU a l=some R→(∀p∈R,p)→ ∀b∈l,∀r k,¬(a.has r k∧b.has r k)
 | [],_,_,_,_,aM=>by simp at aM
 | b::l,R,h,aC,c,aF=>by
  simp only [vU] at h
  split at h
  ·rename_i x y h1 I
   simp only [Option.some.injEq] at h;subst h
   rcases List.mem_cons.1 aF with rfl|aF
   ·exact JQ h1 fun p ad=>aC p (by simp [ad])
   ·exact CQ I (fun p ad=>aC p (by simp [ad])) c aF
  ·simp at h
theorem C8 : ∀ {l:List Src} {R:List Prop},v5 l=some R→(∀p∈R,p)→tO l
 | [],_,_,_=>List.Pairwise.nil
 | a::l,R,h,aC=>by
  simp only [v5] at h
  split at h
  ·rename_i x y h1 I
   simp only [Option.some.injEq] at h;subst h
   exact List.pairwise_cons.2 ⟨CQ h1 fun p ad=>aC p (by simp [ad]),C8 I fun p ad=>aC p (by simp [ad])⟩
  ·simp at h
theorem n2 {l:List Src}{j i r k:Nat}:ha l j i=some (r,k)↔ ∃a,l[j]? = some a∧a.has r k∧i=a.i5 k:=by
 unfold ha
 cases h:l[j]? with
 | none=>simp
 | some a =>
  cases a with
  | row r0 =>
   simp only [Option.some.injEq,Prod.mk.injEq,exists_eq_left',Src.has,Src.i5]
   constructor<;>rintro ⟨a,b⟩<;>exact ⟨a.symm,b⟩
  | R r0 gx o =>
   simp only [Option.some.injEq,exists_eq_left',Src.has,Src.i5]
   by_cases e:i=0
   ·rw [if_pos e];simp only [Option.some.injEq,Prod.mk.injEq,e,and_true];constructor<;>rintro ⟨a,b⟩<;>exact ⟨a.symm,b.symm⟩
   ·rw [if_neg e];simp [e]
theorem oZ : ∀ {l:List Src} {n r k j i:Nat},gg n l r k=some (j,i)→ ∃a,n≤j∧l[j-n]? = some a∧a.has r k∧i=a.i5 k
 | [],_,_,_,_,_,h=>by simp [gg] at h
 | .row r0::l,n,r,k,j,i,h=>by
  simp only [gg] at h
  split at h
  ·rename_i e
   simp only [Option.some.injEq,Prod.mk.injEq] at h
   obtain ⟨rfl,rfl⟩:=h
   exact ⟨.row r0,Nat.le_refl _,by simp,e,rfl⟩
  ·obtain ⟨a,h1,I,aj,aB⟩:=oZ h
   exact ⟨a,by omega,by rw [show j-n=(j-(n+1))+1 by omega,List.getElem?_cons_succ];exact I,aj,aB⟩
 | .R r0 gx o::l,n,r,k,j,i,h=>by
  simp only [gg] at h
  split at h
  ·rename_i e
   simp only [Option.some.injEq,Prod.mk.injEq] at h
   obtain ⟨rfl,rfl⟩:=h
   exact ⟨.R r0 gx o,Nat.le_refl _,by simp,e,rfl⟩
  ·obtain ⟨a,h1,I,aj,aB⟩:=oZ h
   exact ⟨a,by omega,by rw [show j-n=(j-(n+1))+1 by omega,List.getElem?_cons_succ];exact I,aj,aB⟩
theorem mT (n:Nat)(a:Src)(l:List Src)(r k:Nat)(h:¬a.has r k):gg n (a::l) r k=gg (n+1) l r k:=by
 cases a<;>simp only [gg,Src.has] at h ⊢ <;> rw [if_neg h]
theorem JR (n:Nat)(a:Src)(l:List Src)(r k:Nat)(h:a.has r k):gg n (a::l) r k=some (n,a.i5 k):=by
 cases a<;>simp only [gg,Src.has,Src.i5] at h ⊢ <;> rw [if_pos h]
theorem tk : ∀ {l:List Src} {n r k j:Nat} {a:Src},tO l→l[j]? = some a→a.has r k→gg n l r k=some (n+j,a.i5 k)
 | b::l,n,r,k,0,a,_,h,bY=>by
  simp at h;subst h
  exact JR n b l r k bY
 | b::l,n,r,k,j+1,a,bd,h,bY=>by
  simp at h
  have bd:=List.pairwise_cons.1 bd
  rw [mT n b l r k fun aM=>bd.1 a (List.mem_of_getElem? h) r k ⟨aM,bY⟩,tk (j:=j) bd.2 h bY]
  congr 2;omega
theorem KU {a:Src}{r k cM b9:Nat}(h:a.has r k)(bT:a.has cM b9)(e:a.i5 k=a.i5 b9):r=cM∧k=b9:=by
 cases a<;>simp only [Src.has,Src.i5] at h bT e<;>omega
theorem Kl {l:List Src}{n r k cM b9:Nat}{p:Nat×Nat}(h:gg n l r k=some p)(bT:gg n l cM b9=some p):r=cM∧k=b9:=by
 obtain ⟨j,i⟩:=p
 obtain ⟨a,h1,I,aj,aB⟩:=oZ h
 obtain ⟨cm,l1,Ay,MD,Pf⟩:=oZ bT
 rw [I] at Ay;simp at Ay;subst Ay
 exact KU aj MD (by omega)
theorem zu : ∀ {l:List Src} {n r j:Nat},kT n l r=some j→n≤j∧l[j-n]? = some (.row r)
 | [],_,_,_,h=>by simp [kT] at h
 | .row r0::l,n,r,j,h=>by
  simp only [kT] at h
  split at h
  ·rename_i e;simp at h;subst h;subst e;exact ⟨Nat.le_refl _,by simp⟩
  ·obtain ⟨h1,I⟩:=zu h
   exact ⟨by omega,by rw [show j-n=(j-(n+1))+1 by omega,List.getElem?_cons_succ];exact I⟩
 | .R r0 gx o::l,n,r,j,h=>by
  simp only [kT] at h
  obtain ⟨h1,I⟩:=zu h
  exact ⟨by omega,by rw [show j-n=(j-(n+1))+1 by omega,List.getElem?_cons_succ];exact I⟩
theorem CR : ∀ {l:List Src} {n r:Nat},kT n l r=none→Src.row r ∉ l
 | [],_,_,_=>by simp
 | .row r0::l,n,r,h=>by
  simp only [kT] at h
  split at h
  ·simp at h
  ·rename_i e
   simp only [List.mem_cons,Src.row.injEq,not_or]
   exact ⟨fun h=>e h.symm,CR h⟩
 | .R r0 gx o::l,n,r,h=>by
  simp only [kT] at h
  simp only [List.mem_cons,reduceCtorEq,false_or]
  exact CR h
def iO (ax:Nat→Option (List U))(bn:Nat→Option Nat)(ar:er):List Src→List fC→Option (List (List U)×List Prop)
 | [],[]=>some ([],[])
 | .row r::l,c::b5=>match ax r with
  | some row=>match fV ax bn ar mr c row,iO ax bn ar l b5 with
   | some (cB,bC),some (T,aW)=>some (cB::T,bC++aW)
   | _,_=>none
  | none=>none
 | .R r k o::l,c::b5=>match ax r with
  | some row=>match fV ax bn ar mr c [o],iO ax bn ar l b5 with
   | some (cB,bC),some (T,aW)=>some (cB::T,(b4 (some row) k=some o)::(bC++aW))
   | _,_=>none
  | none=>none
 | _,_=>none
def hK (pM:Nat→Option (List U))(bn:Nat→Option Nat)(hz:er):(Nat→Option (List U))→List Src→List fC→List (List U)→Option (List (Nat×List U)×List Prop)
 | _,[],[],[]=>some ([],[])
 | ax,.row q::l,c::b5,row::T=>match fV pM bn hz hE c row with
  | some (cB,bC)=>match hK pM bn hz (fun x=>if x=q then some cB else ax x) l b5 T with
   | some (u,aW)=>some ((q,cB)::u,bC++aW)
   | none=>none
  | none=>none
 | ax,.R q k _::l,c::b5,row::T=>match ax q with
  | some ik=>match fV pM bn hz hE c row with
   | some ([bh],bC)=>match hK pM bn hz (fun x=>if x=q then some (ik.set k bh) else ax x) l b5 T with
    | some (u,aW)=>some ((q,ik.set k bh)::u,bC++aW)
    | none=>none
   | _=>none
  | none=>none
 | _,_,_,_=>none
def h4 (T:List (List U)):Prop:= ∀row∈T,∀o∈row,∀e∈o.es,∀x∈e,bj x
def rh (P:Program)(ax:Nat→Option (List U))(ao:Nat)(f:FuncId)(args:List ag)(bt:uy):Option fp :=
 let l:=if bt.cY.length=bt.ar.length then bt.ar else bt.ar++[.row ao]
 match v5 bt.ar with
 | none=>none
 | some h7 =>
  if bt.ar.any (fun a=>decide (a.r=ao)) then none else
  if bt.eb then
   match bt.ar with
   | [] =>
    match ig (jV ax (fun _=>none) (ha []) gR) bt.ac args,jV (fun j=>bt.cY[j]?) (nt l) (gg 0 l) hE bt.eC bt.r,
     hK (fun j=>bt.cY[j]?) (nt l) (gg 0 l) ax l bt.fo bt.cY with
    | some (lU,bC),some (cM,fw),some (u,fl)=>some {val:=cM,dI:=u,dq:=bC++fw++fl++[Con P f lU [] bt.r bt.cY,bj bt.r]++(if bt.cY.isEmpty then [] else [h4 bt.cY])}
    | _,_,_=>none
   | _=>none
  else
   match ig (jV ax (kT 0 bt.ar) (ha bt.ar) mr) bt.ac args,iO ax (kT 0 bt.ar) (ha bt.ar) bt.ar bt.b5,
    jV (fun j=>bt.cY[j]?) (nt l) (gg 0 l) hE bt.eC bt.r,hK (fun j=>bt.cY[j]?) (nt l) (gg 0 l) ax l bt.fo bt.cY with
   | some (lU,bC),some (T,aW),some (cM,fw),some (u,fl) =>
    some {val:=cM,dI:=u,dq:=h7++bC++aW++fw++fl++[Con P f lU T bt.r bt.cY]}
   | _,_,_,_=>none
theorem Cz {ax:Nat→Option (List U)}{bn:Nat→Option Nat}{ar:er}{bl:dY→Bool}{c:fC}{row cB:List U}{R:List Prop}(h:fV ax bn ar bl c row=some (cB,R))(aC:∀p∈R,p):
 ∀k o,b4 (some row) k=some o→o.bz = .live:=by
 have m0 : ∀k o,b4 (some row) k=some o→o∈row∧o.bz≠ .gone:=by
  intro k o aa
  rw [g8] at aa
  cases aR:row[k]? with
  | none=>rw [aR] at aa;simp at aa
  | some p =>
   rw [aR,Option.bind_some] at aa
   split at aa
   ·simp at aa
   ·rename_i e;simp at aa;subst aa;exact ⟨List.mem_of_getElem? aR,e⟩
 intro k o aa
 obtain ⟨h1,I⟩:=m0 k o aa
 cases c with
 | pure =>
  simp only [fV,Option.some.injEq,Prod.mk.injEq] at h
  obtain ⟨rfl,rfl⟩:=h
  exact ((aC _ (List.mem_singleton.2 rfl):nY row) o h1).2
 | dd bi =>
  simp only [fV,Option.some.injEq,Prod.mk.injEq] at h
  obtain ⟨rfl,rfl⟩:=h
  have e:row=bi:=aC _ (by simp)
  have ad:nY bi:=aC _ (by simp)
  exact (ad o (e▸h1)).2
 | dZ bi =>
  simp only [fV,Option.some.injEq,Prod.mk.injEq] at h
  obtain ⟨rfl,rfl⟩:=h
  have ad:fE row:=aC _ (by simp)
  exact (ad o h1).resolve_right I
 | rx bi=>cases row with
  | nil=>simp [fV] at h
  | cons o l=>cases l<;>simp [fV] at h
 | drop=>cases row with
  | nil=>simp [fV] at h
  | cons o l=>cases l<;>simp [fV] at h
 | box l =>
  match row,h,h1 with
  | [p],h,h1 =>
   simp only [fV] at h
   rw [List.mem_singleton] at h1;subst h1
   split at h
   ·split at h
    ·rename_i e;exact e
    ·simp at h
   ·simp at h
  | [],h,_=>simp [fV] at h
  | _::_::_,h,_=>simp [fV] at h
section
variable {P:Program} {g:G} {s:S} {af:de} {a:Act} {w:World}
theorem zv (cu:fm g s af w){ar:er}{bn:Nat→Option Nat}(H:i9 s ar bn mr): ∀(l:List Src) (b5:List fC) (T:List (List U)) (R:List Prop),
 iO s.ax bn ar l b5=some (T,R)→(∀p∈R,p)→T.length=l.length∧ ∀(j:Nat) cB b,T[j]? = some cB→l[j]? = some b →
  (∀r k o,b.has r k→s.R r k=some o→o.bz = .live)∧(∀r k,b.has r k→s.aw r k→b.i5 k<cB.length) ∧
  (∀r k o,b = .R r k o→s.R r k=some o) ∧
  ∀(i:Nat) bh,b4 (some cB) i=some bh→ ∃r k o,b.has r k∧i=b.i5 k∧s.R r k=some o∧kr s ar mr iF o bh
 | [],[],T,R,h,_=>by
  simp [iO] at h;obtain ⟨rfl,rfl⟩:=h
  exact ⟨rfl,fun j cB r aq=>by simp at aq⟩
 | .row r::l,c::b5,T,R,h,aC=>by
  simp only [iO] at h
  split at h
  ·rename_i row cn
   split at h
   ·rename_i b3 bC js aW h1 I
    simp only [Option.some.injEq,Prod.mk.injEq] at h
    obtain ⟨rfl,rfl⟩:=h
    obtain ⟨e1,au⟩:=zv cu H l b5 js aW I (fun p ad=>aC p (by simp [ad]))
    have gT : ∀k,s.R r k=b4 (some row) k:=fun k=>by unfold S.R;rw [cn]
    obtain ⟨f0,f1,f2⟩:=vz (q:=iF) (gP:=id) cu H (og _) (fun k o aa=>(gT k).trans aa) h1 (fun p ad=>aC p (by simp [ad])) (fun _ _ _ _ _ _ _=>trivial)
    refine ⟨by simp [e1],fun j cB b aq aM=> ?_⟩
    cases j with
    | zero =>
     simp at aq aM;subst aq;subst aM
     refine ⟨fun q k o aE aa=> ?_,fun q k aE hu=> ?_,fun _ _ _ e=>by simp at e,fun i bh cw=> ?_⟩
     ·have aE:q=r:=aE
      subst aE;rw [gT] at aa;exact f1 k o aa
     ·have aE:q=r:=aE
      subst aE;rw [f0];simpa [S.aw,cn,Src.i5] using hu
     ·obtain ⟨o,g1,g2⟩:=f2 i bh cw
      exact ⟨r,i,o,rfl,rfl,(gT i).trans g1,g2⟩
    | succ j=>simp at aq aM;exact au j cB b aq aM
   ·simp at h
  ·simp at h
 | .R r gx h7::l,c::b5,T,R,h,aC=>by
  simp only [iO] at h
  split at h
  ·rename_i row cn
   split at h
   ·rename_i b3 bC js aW h1 I
    simp only [Option.some.injEq,Prod.mk.injEq] at h
    obtain ⟨rfl,rfl⟩:=h
    obtain ⟨e1,au⟩:=zv cu H l b5 js aW I (fun p ad=>aC p (by simp [ad]))
    have aa:s.R r gx=some h7:=by unfold S.R;rw [cn];exact aC _ (by simp)
    have iB : ∀k o,b4 (some [h7]) k=some o→k=0∧o=h7:=fun k o aR=>by
     rw [iM] at aR;split at aR
     ·rename_i e;simp at aR;exact ⟨e.1,aR.symm⟩
     ·simp at aR
    have Az:h7.bz≠ .gone:=by
     unfold S.R at aa;rw [cn,g8] at aa
     cases aR:row[gx]? with
     | none=>rw [aR] at aa;simp at aa
     | some p =>
      rw [aR,Option.bind_some] at aa;split at aa
      ·simp at aa
      ·rename_i e;simp at aa;subst aa;exact e
    obtain ⟨f0,f1,f2⟩:=vz (q:=iF) (gP:=fun _=>gx) (r:=r) cu H (og _) (fun k o aR=>by rw [(iB k o aR).2];exact aa) h1 (fun p ad=>aC p (by simp [ad])) (fun _ _ _ _ _ _ _=>trivial)
    refine ⟨by simp [e1],fun j cB b aq aM=> ?_⟩
    cases j with
    | zero =>
     simp at aq aM;subst aq;subst aM
     refine ⟨fun q k o aE lB=> ?_,fun q k aE hu=> ?_,fun cM b9 bh e=> ?_,fun i bh cw=> ?_⟩
     ·obtain ⟨rfl,rfl⟩:q=r∧k=gx:=aE
      rw [aa] at lB;simp at lB;subst lB
      exact f1 0 h7 (by rw [iM];simp [Az])
     ·rw [f0];simp [Src.i5]
     ·cases e;exact aa
     ·obtain ⟨o,g1,g2⟩:=f2 i bh cw
      obtain ⟨rfl,rfl⟩:=iB i o g1
      exact ⟨r,gx,o,⟨rfl,rfl⟩,rfl,aa,g2⟩
    | succ j=>simp at aq aM;exact au j cB b aq aM
   ·simp at h
  ·simp at h
 | [],_::_,_,_,h,_=>by simp [iO] at h
 | .row _::_,[],_,_,h,_=>by simp [iO] at h
 | .R .. :: _,[],_,_,h,_=>by simp [iO] at h
theorem zp {dS:G}{s1:S}{hG:de}{a9:World}(cu:fm dS s1 hG a9){hz:er}{q:ag→Prop}{bn:Nat→Option Nat}(H:i9 s1 hz bn hE)(bd:nP q hE)
 (aE : ∀j i o,s1.R j i=some o→ ∀e∈o.es,∀x∈e,q x) :
 ∀(l:List Src) (b5:List fC) (T:List (List U)) (u:List (Nat×List U)) (R:List Prop) (n:Nat) (s:S),tO l→(∀j row,T[j]? = some row→s1.ax (n+j)=some row) →
 (∀r k j i,gg n l r k=some (j,i)→s.aw r k→s1.aw j i)→(∀r k o,Src.R r k o∈l→s.aw r k) →
 hK s1.ax bn hz s.ax l b5 T=some (u,R)→(∀p∈R,p)→T.length=l.length∧(s.fk u).E=s.E ∧
  (∀r k o,(s.fk u).R r k=some o→(∃j i p,gg n l r k=some (j,i)∧s1.R j i=some p∧kr s1 hz hE q p o)∨(gg n l r k=none∧s.R r k=some o)) ∧
  (∀r k,s.aw r k→(s.fk u).aw r k)∧(∀r k j i,gg n l r k=some (j,i)→s1.aw j i→(s.fk u).aw r k)
 | [],[],[],u,R,n,s,_,_,_,_,h,_=>by
  simp [hK] at h;obtain ⟨rfl,rfl⟩:=h
  exact ⟨rfl,rfl,fun r k o aa=> .inr ⟨rfl,aa⟩,fun r k h=>h,fun r k j i h=>by simp [gg] at h⟩
 | .row q0::l,c::b5,row::T,u,R,n,s,na,ol,hu,mz,h,aC=>by
  simp only [hK] at h
  split at h
  ·rename_i cB bC h1
   split at h
   ·rename_i lI aW I
    simp only [Option.some.injEq,Prod.mk.injEq] at h
    obtain ⟨rfl,rfl⟩:=h
    have uj:=List.pairwise_cons.1 na
    have j7:s1.ax n=some row:=ol 0 row rfl
    have pj : ∀k,s1.R n k=b4 (some row) k:=fun k=>by unfold S.R;rw [j7]
    obtain ⟨f0,f1,f2⟩:=vz (q:=q) (gP:=id) (r:=n) cu H bd (fun k o aa=>(pj k).trans aa) h1 (fun p ad=>aC p (by simp [ad])) (fun k o aa=>aE n k o ((pj k).trans aa))
    have kp : ∀k j i,gg (n+1) l q0 k≠some (j,i):=fun k j i hm=>by
     obtain ⟨b,fQ,e7,mc,A7⟩:=oZ hm
     exact uj.1 b (List.mem_of_getElem? e7) q0 k ⟨rfl,mc⟩
    have rq : ∀r k,s.aw r k→(s.setRow q0 cB).aw r k:=fun r k aR=>by
     rw [jw]
     by_cases e:r=q0
     ·subst e;rw [if_pos rfl,f0]
      have:=hu r k n k (by simp [gg]) aR
      simpa [S.aw,j7] using this
     ·rw [if_neg e];exact aR
    obtain ⟨e1,au,bB,dk,gk⟩:=zp cu H bd aE l b5 T lI aW (n+1) (s.setRow q0 cB) uj.2 (fun j row aq=>by rw [Nat.add_assoc,Nat.add_comm 1 j];exact ol (j+1) row (by simpa using aq))
     (fun r k j i hm aR=>by
       have b7:r≠q0:=by rintro rfl;exact kp _ _ _ hm
       refine hu r k j i ?_ (by rw [jw,if_neg b7] at aR;exact aR)
       rw [mT n (.row q0) l r k b7];exact hm)
     (fun r k o hm=>rq r k (mz r k o (by simp [hm]))) I (fun p ad=>aC p (by simp [ad]))
    refine ⟨by simp [e1],au,fun r k o aa=> ?_,fun r k aR=>dk r k (rq r k aR),fun r k j i hm aR=> ?_⟩
    ·rcases bB r k o aa with ⟨j,i,p,fQ,e7,mc⟩|⟨fQ,e7⟩
     ·have b7:r≠q0:=by rintro rfl;exact kp _ _ _ fQ
      exact .inl ⟨j,i,p,by rw [mT n (.row q0) l r k b7];exact fQ,e7,mc⟩
     ·rw [ib] at e7
      by_cases e:r=q0
      ·subst e
       rw [if_pos rfl] at e7
       obtain ⟨p,g1,g2⟩:=f2 k o e7
       exact .inl ⟨n,k,p,by simp [gg],(pj k).trans g1,g2⟩
      ·rw [if_neg e] at e7
       exact .inr ⟨by rw [mT n (.row q0) l r k e];exact fQ,e7⟩
    ·by_cases e:r=q0
     ·subst e
      simp only [gg,if_true] at hm
      simp only [Option.some.injEq,Prod.mk.injEq] at hm
      obtain ⟨rfl,rfl⟩:=hm
      refine dk r k ?_
      rw [jw,if_pos rfl,f0]
      simpa [S.aw,j7] using aR
     ·rw [mT n (.row q0) l r k e] at hm
      exact gk r k j i hm aR
   ·simp at h
  ·simp at h
 | .R q0 gx h7::l,c::b5,row::T,u,R,n,s,na,ol,hu,mz,h,aC=>by
  simp only [hK] at h
  split at h
  ·rename_i ik wg
   split at h
   ·rename_i bh bC h1
    split at h
    ·rename_i lI aW I
     simp only [Option.some.injEq,Prod.mk.injEq] at h
     obtain ⟨rfl,rfl⟩:=h
     have uj:=List.pairwise_cons.1 na
     have j7:s1.ax n=some row:=ol 0 row rfl
     have pj : ∀k,s1.R n k=b4 (some row) k:=fun k=>by unfold S.R;rw [j7]
     obtain ⟨f0,f1,f2⟩:=vz (q:=q) (gP:=id) (r:=n) cu H bd (fun k o aa=>(pj k).trans aa) h1 (fun p ad=>aC p (by simp [ad])) (fun k o aa=>aE n k o ((pj k).trans aa))
     have kp : ∀j i,gg (n+1) l q0 gx≠some (j,i):=fun j i hm=>by
      obtain ⟨b,fQ,e7,mc,A7⟩:=oZ hm
      exact uj.1 b (List.mem_of_getElem? e7) q0 gx ⟨⟨rfl,rfl⟩,mc⟩
     have rq : ∀r k,s.aw r k→(s.setRow q0 (ik.set gx bh)).aw r k:=vc s wg (by simp)
     have ui:gx<ik.length:=by have:=mz q0 gx h7 (by simp);simpa [S.aw,wg] using this
     obtain ⟨e1,au,bB,dk,gk⟩:=zp cu H bd aE l b5 T lI aW (n+1) (s.setRow q0 (ik.set gx bh)) uj.2 (fun j row aq=>by rw [Nat.add_assoc,Nat.add_comm 1 j];exact ol (j+1) row (by simpa using aq))
      (fun r k j i hm aR=>by
        have b7 : ¬(Src.R q0 gx h7).has r k:=by rintro ⟨rfl,rfl⟩;exact kp _ _ hm
        refine hu r k j i (by rw [mT n _ l r k b7];exact hm) ?_
        rw [jw] at aR
        split at aR
        ·rename_i e;subst e;simpa [S.aw,wg] using aR
        ·exact aR)
      (fun r k o hm=>rq r k (mz r k o (by simp [hm]))) I (fun p ad=>aC p (by simp [ad]))
     refine ⟨by simp [e1],au,fun r k o aa=> ?_,fun r k aR=>dk r k (rq r k aR),fun r k j i hm aR=> ?_⟩
     ·rcases bB r k o aa with ⟨j,i,p,fQ,e7,mc⟩|⟨fQ,e7⟩
      ·have b7 : ¬(Src.R q0 gx h7).has r k:=by rintro ⟨rfl,rfl⟩;exact kp _ _ fQ
       exact .inl ⟨j,i,p,by rw [mT n _ l r k b7];exact fQ,e7,mc⟩
      ·rw [ib] at e7
       by_cases e:r=q0
       ·subst e
        rw [if_pos rfl,g8,List.getElem?_set] at e7
        by_cases au:gx=k
        ·subst au
         rw [if_pos rfl,if_pos ui,Option.bind_some] at e7
         have mc:b4 (some [bh]) 0=some o:=by rw [g8];exact e7
         obtain ⟨p,g1,g2⟩:=f2 0 o mc
         exact .inl ⟨n,0,p,by simp [gg],(pj 0).trans g1,g2⟩
        ·rw [if_neg au] at e7
         have b7 : ¬(Src.R r gx h7).has r k:=by rintro ⟨-,rfl⟩;exact au rfl
         exact .inr ⟨by rw [mT n _ l r k b7];exact fQ,by unfold S.R;rw [wg,g8];exact e7⟩
       ·rw [if_neg e] at e7
        have b7 : ¬(Src.R q0 gx h7).has r k:=by rintro ⟨rfl,-⟩;exact e rfl
        exact .inr ⟨by rw [mT n _ l r k b7];exact fQ,e7⟩
     ·by_cases e:(Src.R q0 gx h7).has r k
      ·obtain ⟨rfl,rfl⟩:=e
       exact dk r k (rq r k (mz r k h7 (by simp)))
      ·rw [mT n _ l r k e] at hm
       exact gk r k j i hm aR
    ·simp at h
   ·simp at h
  ·simp at h
 | [],[],_::_,_,_,_,_,_,_,_,_,h,_=>by simp [hK] at h
 | [],_::_,_,_,_,_,_,_,_,_,_,h,_=>by simp [hK] at h
 | .row _::_,[],_,_,_,_,_,_,_,_,_,h,_=>by simp [hK] at h
 | .R .. :: _,[],_,_,_,_,_,_,_,_,_,h,_=>by simp [hK] at h
 | .row _::_,_::_,[],_,_,_,_,_,_,_,_,h,_=>by simp [hK] at h
 | .R .. :: _,_::_,[],_,_,_,_,_,_,_,_,h,_=>by simp [hK] at h
theorem C9 (h:bQ g s af a w){ao:Nat}(cU:s.ax ao=none){f:FuncId}{args:List ag}{bt:uy}{l:List Src}(kq:l=if bt.cY.length=bt.ar.length then bt.ar else bt.ar++[.row ao])
 (na:tO bt.ar) (pv : ∀a∈bt.ar,a.r≠ao) {bl:dY→Bool} {A:Nat→Prop} {q:ag→Prop} {T:List (List U)} {bn:Nat→Option Nat}
 (hA : ∀b,A b→b<w.heap.size) (Au : ∀b,s.ok g af w b→A b) (Av : ∀r k o b m,s.R r k=some o→bl o.bz=true→af r k=some (b,m)→A b)
 (ME:(∀b,A b→s.ok g af w b)∨(∀x,q x→bj x)) (bd:nP q hE) (w0:i9 s (ha bt.ar) bn bl)
 (b6:lC s (ha bt.ar) bl iF (cX T).ax) (lp : ∀r k o,(∃j i,ha bt.ar j i=some (r,k))→s.R r k=some o→o.bz = .live) (hex : ∀r k o,Src.R r k o∈bt.ar→s.aw r k)
 {lU:List ag} {bC:List Prop} (ru:ig (jV s.ax bn (ha bt.ar) bl) bt.ac args=some (lU,bC)) (mA : ∀p∈bC,p)
 {cM:ag} {fw:List Prop} (ry:jV (fun j=>bt.cY[j]?) (nt l) (gg 0 l) hE bt.eC bt.r=some (cM,fw)) (AA : ∀p∈fw,p)
 {u:List (Nat×List U)} {fl:List Prop} (uk:hK (fun j=>bt.cY[j]?) (nt l) (gg 0 l) s.ax l bt.fo bt.cY=some (u,fl)) (MF : ∀p∈fl,p)
 (rr:Con P f lU T bt.r bt.cY) (MG:q bt.r) (MH : ∀j i o,(cX bt.cY).R j i=some o→ ∀e∈o.es,∀x∈e,q x)
 {vs:List Value} (av:vs.length=args.length) (hargs : ∀(j:Nat) x v,args[j]? = some x→vs[j]? = some v→Rel w (s.ok g af w) s.aw (s.aA af) x v) :
 vA P f∧Calls P f vs.toArray w fun e a9=> ∃v aY,e = .returned v∧bQ g (s.fk u) aY a a9∧Rel a9 ((s.fk u).ok g aY a9) (s.fk u).aw ((s.fk u).aA aY) cM v:=by
 have AB:tO l:=by
  subst kq
  split
  ·exact na
  ·refine List.pairwise_append.2 ⟨na,List.pairwise_singleton _ _,fun b aM c aF r k dg=> ?_⟩
   rw [List.mem_singleton] at aF;subst aF
   have h1:r=ao:=dg.2
   subst h1
   cases b with
   | row r0=>exact pv _ aM (Eq.symm dg.1)
   | R r0 gx h7=>exact pv _ aM (Eq.symm dg.1.1)
 have MI : ∀(j:Nat) b,bt.ar[j]? = some b→l[j]? = some b:=by
  intro j b aq
  subst kq
  split
  ·exact aq
  ·rw [List.getElem?_append_left (d8 aq)];exact aq
 have EC : ∀(j:Nat) b,l[j]? = some b→bt.ar[j]? = some b∨b = .row ao:=by
  intro j b aq
  subst kq
  split at aq
  ·exact .inl aq
  ·rw [List.getElem?_append] at aq
   split at aq
   ·exact .inl aq
   ·right
    have:=d8 aq
    simp at this
    rw [show j-bt.ar.length=0 by omega] at aq
    simpa using aq.symm
 refine ⟨rr.1,?_⟩
 obtain ⟨dS,q1,bu,cr,A8,dr,d7,hg,iw⟩:=enter h.tofm A hA Au Av b6 lp
 obtain ⟨e1,au,bB⟩:=vy _ _ _ _ _ ru
 have:=rr.2 dS (gA af (ha bt.ar)) w vs.toArray q1 cr A8 dr hg (by simp [av,e1]) (by
  intro j bP v cp aN
  have aq:j<args.length:=by have:=d8 cp;omega
  have J:=List.getElem?_eq_getElem aq
  obtain ⟨c,bh,f1,f2,f3⟩:=bB j _ bP J cp
  have wo:vs[j]? = some v:=by simpa using aN
  exact iw (s6 h.tofm w0 (og _) f2 (fun p ad=>mA p (f3 p ad)) trivial (hargs j _ v J wo)) (hargs j _ v J wo))
 refine this.mono fun e a9 tW=> ?_
 obtain ⟨v,hG,rfl,wG,aN⟩:=tW
 have E8:i9 (cX bt.cY) (gg 0 l) (nt l) hE:=by
  refine ⟨fun j r aq k=> ?_,fun _ _ _ _ _ bY=>by simp [hE] at bY⟩
  unfold nt at aq
  split at aq
  ·rename_i r0 lD
   simp at aq;subst aq
   have:=tk (n:=0) (r:=r0) (k:=k) AB lD rfl
   simpa [Src.i5] using this
  ·simp at aq
 have tu : ∀j i r k,ha bt.ar j i=some (r,k)→gg 0 l r k=some (j,i):=fun j i r k hm=>by
  obtain ⟨b,fQ,e7,rfl⟩:=n2.1 hm
  have:=tk (n:=0) AB (MI j b fQ) e7
  simpa using this
 have wc : ∀r k j i,gg 0 l r k=some (j,i)→ha bt.ar j i=some (r,k)∨ ¬s.aw r k:=fun r k j i hm=>by
  obtain ⟨b,-,e7,mc,A7⟩:=oZ hm
  rcases EC j b (by simpa using e7) with e|e
  ·exact .inl (n2.2 ⟨b,e,mc,A7⟩)
  ·subst e
   have:r=ao:=mc
   subst this
   exact .inr (qJ cU k)
 obtain ⟨i7,lI,hf,Nq,Nr⟩:=zp (s1:=cX bt.cY) wG E8 bd MH l bt.fo bt.cY u fl 0 s AB (fun j row aq=>by simpa [cX] using aq)
  (fun r k j i hm aR=>by
    rcases wc r k j i hm with e|e
    ·exact (wG.stay j i (by rw [A8];exact b6.aw _ _ _ _ e aR)).1
    ·exact absurd aR e)
  (fun r k o hm=>by
    obtain ⟨j,aq⟩:=List.getElem?_of_mem hm
    rcases EC j _ aq with e|e
    ·exact hex r k o (List.mem_of_getElem? e)
    ·cases e) uk MF
 obtain ⟨h6,f1,f2⟩:=leave (q0:=iF) (q:=q) h q1 (by rw [bu];exact ME) A8 dr d7 lp b6 wG tu wc (fun r k cM b9 p=>Kl) (s2:=s.fk u) lI hf Nq Nr
  (s6 wG E8 bd ry AA MG aN) aN
 exact ⟨v,h6,rfl,f1,f2⟩
theorem IG (h:bQ g s af a w){ao:Nat}(cU:s.ax ao=none){f:FuncId}{args:List ag}{bt:uy}{aL:fp}(ae:rh P s.ax ao f args bt=some aL)(bI:∀p∈aL.dq,p)
 {vs:List Value} (av:vs.length=args.length) (hargs : ∀(j:Nat) x v,args[j]? = some x→vs[j]? = some v→Rel w (s.ok g af w) s.aw (s.aA af) x v) :
 vA P f∧Calls P f vs.toArray w fun e a9=> ∃v aY,e = .returned v∧bQ g (s.fk aL.dI) aY a a9∧Rel a9 ((s.fk aL.dI).ok g aY a9) (s.fk aL.dI).aw ((s.fk aL.dI).aA aY) aL.val v:=by
 unfold rh at ae
 simp only at ae
 generalize kq:(if bt.cY.length=bt.ar.length then bt.ar else bt.ar++[.row ao])=l at ae
 split at ae
 ·simp at ae
 ·rename_i h7 MJ
  split at ae
  ·simp at ae
  ·rename_i L7
   have pv : ∀a∈bt.ar,a.r≠ao:=fun b aM e=>L7 (List.any_eq_true.2 ⟨b,aM,by simpa using e⟩)
   split at ae
   ·
    split at ae
    ·rename_i oh
     split at ae
     ·rename_i lU bC cM fw u fl ru ry uk
      simp only [Option.some.injEq] at ae
      subst ae
      have rr:Con P f lU [] bt.r bt.cY:=bI _ (by simp)
      have ul:bj bt.r:=bI _ (by simp)
      have L8:h4 bt.cY:=by
       by_cases e:bt.cY=[]
       ·rw [e];intro row cn;simp at cn
       ·exact bI _ (by
         have:bt.cY.isEmpty=false:=by simpa [List.isEmpty_iff] using e
         simp [this])
      refine C9 (bl:=gR) (A:=fun b=>b<w.heap.size) (q:=bj) (T:=[]) (bn:=fun _=>none) h cU kq.symm (by rw [oh];exact List.Pairwise.nil) pv (fun _ aM=>aM) (fun b aM=>aM.1)
       (fun r k o b m aa _ ad=>ti h.tofm aa ad) (.inr fun _ J=>J) Mz ?_ ?_ ?_ ?_ (by rw [oh];exact ru) (fun p ad=>bI p (by simp [ad])) ry (fun p ad=>bI p (by simp [ad])) uk (fun p ad=>bI p (by simp [ad])) rr ul ?_ av hargs
      ·refine ⟨fun _ _ e=>by simp at e,fun r _ k o _ _ j i e=> ?_⟩
       rw [oh] at e;simp [ha] at e
      ·refine ⟨fun j i gO gw p e=> ?_,fun j i bh e=> ?_,fun j i r k e=> ?_⟩
       ·rw [oh] at e;simp [ha] at e
       ·simp [cX,b4] at e
       ·rw [oh] at e;simp [ha] at e
      ·rintro r k o ⟨j,i,e⟩
       rw [oh] at e;simp [ha] at e
      ·rintro r k o e
       rw [oh] at e;simp at e
      ·intro j i o aa e he x J
       have aa:b4 (bt.cY[j]?) i=some o:=aa
       cases ah:bt.cY[j]? with
       | none=>rw [ah] at aa;simp [b4] at aa
       | some row =>
        rw [ah,g8] at aa
        cases aR:row[i]? with
        | none=>rw [aR] at aa;simp at aa
        | some p =>
         rw [aR,Option.bind_some] at aa
         split at aa
         ·simp at aa
         ·simp at aa;subst aa
          exact L8 row (List.mem_of_getElem? ah) p (List.mem_of_getElem? aR) e he x J
     ·simp at ae
    ·simp at ae
   ·split at ae
    ·rename_i lU bC T aW cM fw u fl ru rv ry uk
     simp only [Option.some.injEq] at ae
     subst ae
     have na:=C8 MJ fun p ad=>bI p (by simp [ad])
     have rr:Con P f lU T bt.r bt.cY:=bI _ (by simp)
     have an : ∀r j,kT 0 bt.ar r=some j→ ∀k,ha bt.ar j k=some (r,k):=fun r j aq k=>by
      obtain ⟨-,I⟩:=zu aq
      simp only [ha,show bt.ar[j]? = some (.row r) by simpa using I]
     have Ax : ∀(l:List Src) (b5:List fC) (T:List (List U)) (R:List Prop),iO s.ax (kT 0 bt.ar) (ha bt.ar) l b5=some (T,R)→(∀p∈R,p) →
      ∀b∈l,∀r k o,b.has r k→s.R r k=some o→o.bz≠ .ko:=by
      intro l
      induction l with
      | nil=>intro _ _ _ _ _ b aM;simp at aM
      | cons b l ih =>
       intro b5 T R h0 aC c aF r k o dg aa
       cases b5 with
       | nil=>cases b<;>simp [iO] at h0
       | cons d6 b5 =>
        cases b with
        | row r0 =>
         simp only [iO] at h0
         split at h0
         ·rename_i row cn
          split at h0
          ·rename_i b3 p1 js e5 h1 I
           simp only [Option.some.injEq,Prod.mk.injEq] at h0
           obtain ⟨rfl,rfl⟩:=h0
           rcases List.mem_cons.1 aF with rfl|aF
           ·have e:r=r0:=dg
            subst e
            have cw:b4 (some row) k=some o:=by unfold S.R at aa;rw [cn] at aa;exact aa
            have:=Cz h1 (fun p ad=>aC p (by simp [ad])) k o cw
            rw [this];simp
           ·exact ih b5 js e5 I (fun p ad=>aC p (by simp [ad])) c aF r k o dg aa
          ·simp at h0
         ·simp at h0
        | R r0 gx h7 =>
         simp only [iO] at h0
         split at h0
         ·rename_i row cn
          split at h0
          ·rename_i b3 p1 js e5 h1 I
           simp only [Option.some.injEq,Prod.mk.injEq] at h0
           obtain ⟨rfl,rfl⟩:=h0
           rcases List.mem_cons.1 aF with rfl|aF
           ·obtain ⟨rfl,rfl⟩:=dg
            have mA:b4 (some row) k=some h7:=aC _ (by simp)
            have cw:b4 (some row) k=some o:=by unfold S.R at aa;rw [cn] at aa;exact aa
            rw [mA] at cw;simp at cw;subst cw
            have Az:h7.bz≠ .gone:=by
             rw [g8] at mA
             cases aR:row[k]? with
             | none=>rw [aR] at mA;simp at mA
             | some p =>
              rw [aR,Option.bind_some] at mA;split at mA
              ·simp at mA
              ·rename_i e;simp at mA;subst mA;exact e
            have:=Cz h1 (fun p ad=>aC p (by simp [ad])) 0 h7 (by rw [iM];simp [Az])
            rw [this];simp
           ·exact ih b5 js e5 I (fun p ad=>aC p (by simp [ad])) c aF r k o dg aa
          ·simp at h0
         ·simp at h0
     have w0:i9 s (ha bt.ar) (kT 0 bt.ar) mr:=by
      refine ⟨an,fun r ah k o aa bY j i hm=> ?_⟩
      obtain ⟨b,fQ,e7,-⟩:=n2.1 hm
      exact Ax bt.ar bt.b5 T aW rv (fun p ad=>bI p (by simp [ad])) b (List.mem_of_getElem? fQ) r k o e7 aa (by simpa [mr] using bY)
     obtain ⟨t1,t2⟩:=zv h.tofm w0 bt.ar bt.b5 T aW rv (fun p ad=>bI p (by simp [ad]))
     have iE : ∀j b,bt.ar[j]? = some b→ ∃cB,T[j]? = some cB:=fun j b aq=>by
      have:j<T.length:=by have:=d8 aq;omega
      exact ⟨_,List.getElem?_eq_getElem this⟩
     refine C9 (bl:=mr) (A:=s.ok g af w) (q:=iF) (T:=T) h cU kq.symm na pv (fun b aM=>aM.1) (fun b aM=>aM)
      (fun r k o b m aa aR ad=>KS h.tofm aa (by simpa [mr] using aR) ad) (.inl fun _ aM=>aM) (og _) w0 ?_ ?_ ?_ ru (fun p ad=>bI p (by simp [ad])) ry (fun p ad=>bI p (by simp [ad])) uk
      (fun p ad=>bI p (by simp [ad])) rr trivial (fun _ _ _ _ _ _ _ _=>trivial) av hargs
     ·refine ⟨fun j i gO gw p e cN=> ?_,fun j i bh cw=> ?_,fun j i r k e hu=> ?_⟩
      ·obtain ⟨r,k⟩:=p
       obtain ⟨b,fQ,e7,rfl⟩:=n2.1 e
       obtain ⟨gY,MK,ML,rfl⟩:=n2.1 cN
       have e1:=tk (n:=0) na fQ e7
       have au:=tk (n:=0) na MK ML
       rw [e1] at au
       simpa using au
      ·have aq:j<T.length:=by
        rcases Nat.lt_or_ge j T.length with e|e
        ·exact e
        ·have:(cX T).ax j=none:=List.getElem?_eq_none e
         rw [this] at cw;simp [b4] at cw
       have ED:T[j]? = some T[j]:=List.getElem?_eq_getElem aq
       have EE:bt.ar[j]? = some (bt.ar[j]'(by omega)):=List.getElem?_eq_getElem (by omega)
       have lB:b4 (some T[j]) i=some bh:=by have:(cX T).ax j=some T[j]:=ED;rw [this] at cw;exact cw
       obtain ⟨r,k,o,n1,g0,Ns,Nt⟩:=(t2 j _ _ ED EE).2.2.2 i bh lB
       exact ⟨r,k,o,n2.2 ⟨_,EE,n1,g0⟩,Ns,Nt⟩
      ·obtain ⟨b,fQ,e7,rfl⟩:=n2.1 e
       obtain ⟨cB,mW⟩:=iE j b fQ
       have:=(t2 j cB b mW fQ).2.1 r k e7 hu
       show b.i5 k<((T[j]?).getD []).length
       rw [mW];exact this
     ·rintro r k o ⟨j,i,e⟩ aa
      obtain ⟨b,fQ,e7,-⟩:=n2.1 e
      obtain ⟨cB,mW⟩:=iE j b fQ
      exact (t2 j cB b mW fQ).1 r k o e7 aa
     ·intro r k o hm
      obtain ⟨j,aq⟩:=List.getElem?_of_mem hm
      obtain ⟨cB,mW⟩:=iE j _ aq
      exact vx ((t2 j cB _ mW aq).2.2.1 r k o rfl)
    ·simp at ae
end
end Go.VL
