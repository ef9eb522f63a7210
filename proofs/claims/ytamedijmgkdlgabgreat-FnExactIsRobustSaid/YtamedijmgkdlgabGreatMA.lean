/- Lemmas, plain functions of the program, and what they answer. No condition. -/
import Derived.Below
import Derived.Eval
import Derived.KernelRfl
import Derived.Laws.Append
import Derived.Laws.AppendOwn
import Derived.Laws.BytesString
import Derived.Laws.Cells
import Derived.Laws.CopyRow
import Derived.Laws.Entries
import Derived.Laws.MakeOwn
import Derived.Laws.OwnMore
import Derived.Laws.Rows
import Derived.Laws.Slices
import Derived.Laws.Tables
import Derived.Orders
namespace Go.VL
set_option linter.unusedVariables false
set_option linter.unusedSimpArgs false
open Go
inductive aB where
 | dead
 | b (x:Bool)
 | n (k:IntKind) (x:Int)
 | s (x:ByteArray)
 | hY
 | eo
 | ib
 | ref (r k i off:Nat)
 | bm (r k bV len:Nat)
 | iI (r c sz:Nat) (h:Option (Nat×Nat))
 | isl (sz:Nat) (es:List (List aB))
 | eb (sz:Nat) (es:List (List aB)) (i off:Nat)
 | j0 (sz:Nat) (c:Option (List aB))
 | agg (c:List aB)
 | dX (vs:List aB)
 | fn (f:Nat) (cap:List aB)
 deriving Inhabited
inductive f5 where
 | live|iO|gone
 deriving DecidableEq,Inhabited
structure ae where
 sz:Nat
 es:List (List aB)
 cp:f5
 deriving Inhabited
structure S where
 E:Nat→aB
 aW:Nat→Option (List ae)
abbrev j7 (v:Value):Bool:=v.oneCell'
abbrev fm:=Nat→Nat→Option (Nat×Nat)
abbrev iR:=Nat→Nat→Option (Nat×Option (Nat×Nat))
abbrev i2:=Nat→Nat→Prop
inductive Pure:aB→Prop
 | dead:Pure .dead
 | b (x:Bool):Pure (.b x)
 | n (k:IntKind) (x:Int):Pure (.n k x)
 | s (x:ByteArray):Pure (.s x)
 | hY:Pure .hY
 | eo:Pure .eo
 | ib:Pure .ib
 | isl {sz:Nat} {es:List (List aB)} (h : ∀e∈es,∀x∈e,Pure x):Pure (.isl sz es)
 | eb {sz i off:Nat} {es:List (List aB)} (h : ∀e∈es,∀x∈e,Pure x):Pure (.eb sz es i off)
 | o5 (sz:Nat):Pure (.j0 sz none)
 | oH {sz:Nat} {c:List aB} (h : ∀x∈c,Pure x):Pure (.j0 sz (some c))
 | agg {c:List aB} (h : ∀x∈c,Pure x):Pure (.agg c)
 | dX {c:List aB} (h : ∀x∈c,Pure x):Pure (.dX c)
 | fn {f:Nat} {c:List aB} (h : ∀x∈c,Pure x):Pure (.fn f c)
def jo (es:List (List aB)):Prop:= ∀e∈es,∀x∈e,Pure x
inductive Rel (w:World) (ok:Nat→Prop) (a5:i2) (bd:iR):aB→Value→Prop
 | dead (v:Value):Rel w ok a5 bd .dead v
 | b (x:Bool):Rel w ok a5 bd (.b x) (.bool x)
 | n (k:IntKind) (x:Int):Rel w ok a5 bd (.n k x) (.int k x)
 | s (x:ByteArray):Rel w ok a5 bd (.s x) (.string x)
 | hY:Rel w ok a5 bd .hY (.pointer none)
 | eo:Rel w ok a5 bd .eo (.slice none 0 0)
 | ib (a:Addr) (c:Nat):Rel w ok a5 bd .ib (.slice (some a) 0 c)
 | pj {r k i off:Nat} (a:Option Addr) (hu:a5 r k) (h : ∀sz p,bd r k≠some (sz,some p)):Rel w ok a5 bd (.ref r k i off) (.pointer a)
 | ref {r k i off sz d3 m:Nat} (hu:a5 r k) (h:bd r k=some (sz,some (d3,m))):Rel w ok a5 bd (.ref r k i off) (.pointer (some ⟨d3,i*sz+off,none⟩))
 | m6 {r k bV len:Nat} (a:Option Addr) (l c:Nat) (hu:a5 r k) (h:bd r k=none):Rel w ok a5 bd (.bm r k bV len) (.slice a l c)
 | ns {r k sz:Nat} (hu:a5 r k) (h:bd r k=some (sz,none)):Rel w ok a5 bd (.bm r k 0 0) (.slice none 0 0)
 | bm {r k bV len sz d3 m c:Nat} {a:Option Addr} (hu:a5 r k) (h:bd r k=some (sz,some (d3,m))) (aT:len≤c) (bf:c<9223372036854775808)
  (hm:(bV+c)*sz=m∧(c=0∨a=some ⟨d3,bV*sz,none⟩)):Rel w ok a5 bd (.bm r k bV len) (.slice a len c)
 | mJ {r c sz:Nat} {v:Value} (h:Rel w ok a5 bd (.isl sz []) v):Rel w ok a5 bd (.iI r c sz none) v
 | nz {r c sz k n:Nat} {v:Value} (h:Rel w ok a5 bd (.bm r (k+c) 0 n) v):Rel w ok a5 bd (.iI r c sz (some (k,n))) v
 | jY (sz:Nat) (a:Option Addr) (c:Nat) (h:a=none→c=0):Rel w ok a5 bd (.isl sz []) (.slice a 0 c)
 | isl {sz:Nat} {es:List (List aB)} {d3 off c:Nat} (cs:Nat→Value) (aS:ok d3) (ak:jo es) (aT : ∀e∈es,e.length=sz) (bf:es.length≤c)
  (hw : ∀(j:Nat) x,es.flatten[j]? = some x→w.cell? ⟨d3,off+j,none⟩=some (cs j)) (jW : ∀(j:Nat) x,es.flatten[j]? = some x→j7 (cs j)=true)
  (ar : ∀(j:Nat) x,es.flatten[j]? = some x→Rel w ok a5 bd x (cs j)):Rel w ok a5 bd (.isl sz es) (.slice (some ⟨d3,off,none⟩) es.length c)
 | eb {sz:Nat} {es:List (List aB)} {d3 I i off:Nat} (cs:Nat→Value) (aS:ok d3) (ak:jo es) (aT : ∀e∈es,e.length=sz)
  (hw : ∀(j:Nat) x,es.flatten[j]? = some x→w.cell? ⟨d3,I+j,none⟩=some (cs j)) (jW : ∀(j:Nat) x,es.flatten[j]? = some x→j7 (cs j)=true)
  (ar : ∀(j:Nat) x,es.flatten[j]? = some x→Rel w ok a5 bd x (cs j)):Rel w ok a5 bd (.eb sz es i off) (.pointer (some ⟨d3,I+(i*sz+off),none⟩))
 | o5 (sz:Nat):Rel w ok a5 bd (.j0 sz none) (.pointer none)
 | oH {sz:Nat} {c:List aB} {v:Value} (h:Rel w ok a5 bd (.eb sz [c] 0 0) v):Rel w ok a5 bd (.j0 sz (some c)) v
 | agg {c:List aB} (vs:List Value) (aT:vs.length=c.length) (jW : ∀(j:Nat) v,vs[j]? = some v→j7 v=true)
  (ar : ∀(j:Nat) x v,c[j]? = some x→vs[j]? = some v→Rel w ok a5 bd x v):Rel w ok a5 bd (.agg c) (.agg vs.toArray)
 | dX {c:List aB} (vs:List Value) (aT:vs.length=c.length)
  (ar : ∀(j:Nat) x v,c[j]? = some x→vs[j]? = some v→Rel w ok a5 bd x v):Rel w ok a5 bd (.dX c) (.tuple vs.toArray)
 | fn {f:Nat} {c:List aB} (vs:List Value) (aT:vs.length=c.length)
  (ar : ∀(j:Nat) x v,c[j]? = some x→vs[j]? = some v→Rel w ok a5 bd x v):Rel w ok a5 bd (.fn f c) (.func (.func f) #[] vs.toArray)
theorem Rel.mono {w bN:World}{ok kN:Nat→Prop}{a5 mO:i2}{bd l6:iR}{a:aB}{v:Value}(h:Rel w ok a5 bd a v)
 (mP : ∀b,ok b→kN b) (hw : ∀b,ok b→bN.heap[b]? = w.heap[b]?)
 (jg : ∀r k,a5 r k→mO r k) (lb : ∀r k,a5 r k→l6 r k=bd r k∨l6 r k=none):Rel bN kN mO l6 a v:=by
 have jW : ∀b I,ok b→bN.cell? ⟨b,I,none⟩=w.cell? ⟨b,I,none⟩:=fun b I aS=>World.cell?_of_block (hw b aS)
 induction h with
 | dead v=>exact .dead v
 | b x=>exact .b x
 | n k x=>exact .n k x
 | s x=>exact .s x
 | hY=>exact .hY
 | eo=>exact .eo
 | ib a c=>exact .ib a c
 | @pj r k i off a hu h =>
  refine .pj a (jg r k hu) fun sz p=> ?_
  rcases lb r k hu with e|e<;>rw [e]
  ·exact h sz p
  ·simp
 | @ref r k i off sz d3 m hu h =>
  rcases lb r k hu with e|e
  ·exact .ref (jg r k hu) (e.trans h)
  ·exact .pj _ (jg r k hu) fun sz p=>by rw [e];simp
 | @m6 r k bV len a l c hu h=>exact .m6 a l c (jg r k hu) (by rcases lb r k hu with e|e<;>rw [e];exact h)
 | @ns r k sz hu h =>
  rcases lb r k hu with e|e
  ·exact .ns (jg r k hu) (e.trans h)
  ·exact .m6 _ _ _ (jg r k hu) e
 | @bm r k bV len sz d3 m c a hu h aT bf hm =>
  rcases lb r k hu with e|e
  ·exact .bm (jg r k hu) (e.trans h) aT bf hm
  ·exact .m6 _ _ _ (jg r k hu) e
 | mJ h ih=>exact .mJ ih
 | nz h ih=>exact .nz ih
 | jY sz a c h=>exact .jY sz a c h
 | isl cs aS ak aT bf Bi iw ar ih=>exact .isl cs (mP _ aS) ak aT bf (fun j x U=>(jW _ _ aS).trans (Bi j x U)) iw ih
 | eb cs aS ak aT Bi iw ar ih=>exact .eb cs (mP _ aS) ak aT (fun j x U=>(jW _ _ aS).trans (Bi j x U)) iw ih
 | o5 sz=>exact .o5 sz
 | oH h ih=>exact .oH ih
 | agg vs aT iw ar ih=>exact .agg vs aT iw ih
 | dX vs aT ar ih=>exact .dX vs aT ih
 | fn vs aT ar ih=>exact .fn vs aT ih
structure G where
 mx:World
 A:Nat→Prop
 pa:Nat→Prop
 N:Nat
 m:Nat
 oM:i2
 qI:iR
def S.a5 (s:S)(r k:Nat):Prop:=k<((s.aW r).getD []).length
def dh (row:Option (List ae))(k:Nat):Option ae :=
 match row with
 | some l=>match l[k]? with
  | some I=>if I.cp = .gone then none else some I
  | none=>none
 | none=>none
def S.ao (s:S)(r k:Nat):Option ae:=dh (s.aW r) k
def S.bd (s:S)(ay:fm):iR:=fun r k=>(s.ao r k).map fun I=>(I.sz,ay r k)
def S.lI (s:S)(ay:fm)(b:Nat):Prop:= ∃r k I m,s.ao r k=some I∧I.cp = .live∧ay r k=some (b,m)
def S.ok (s:S)(g:G)(ay:fm)(w:World)(b:Nat):Prop :=
 b<w.heap.size∧(g.A b∨g.mx.heap.size≤b∨g.pa b)∧ ¬s.lI ay b
def jb (w:World)(ok:Nat→Prop)(a5:i2)(bd:iR)(I:ae):Option (Nat×Nat)→Prop
 | none=>I.es=[]
 | some (d3,m)=> ∃c eH,w.heap[d3]? = some (.cells c eH (0,0))∧c.size=m∧(∀e∈I.es,e.length=I.sz) ∧
  ∀(j:Nat) x,I.es.flatten[j]? = some x→ ∃v,c[j]? = some v∧j7 v=true∧Rel w ok a5 bd x v
structure AV (g:G) (w:World):Prop where
 os:w.os=g.mx.os
 tape:w.tape=g.mx.tape
 output:w.output=g.mx.output
 size:g.mx.heap.size≤w.heap.size
 block : ∀b,b<g.mx.heap.size→ ¬g.pa b→w.heap[b]? = g.mx.heap[b]?
structure hZ (g:G) (s:S) (ay:fm) (w:World):Prop where
 obj : ∀r k I,s.ao r k=some I→jb w (s.ok g ay w) s.a5 (s.bd ay) I (ay r k)
 inj : ∀r k I eJ d8 b6 b m cx,s.ao r k=some I→s.ao eJ d8=some b6→ay r k=some (b,m)→ay eJ d8=some (b,cx)→r=eJ∧k=d8
 own : ∀r k I b m,s.ao r k=some I→ay r k=some (b,m)→g.mx.heap.size≤b∨g.pa b
 gQ:AV g w
 mlt : ∀b,g.pa b→b<g.mx.heap.size
 nd : ∀b,g.A b→b<g.mx.heap.size
 stay : ∀j k,g.oM j k→s.a5 j k∧(s.bd ay j k=g.qI j k∨s.bd ay j k=none)
 low : ∀j k,g.oM j k→j<g.m
structure cL (g:G) (s:S) (ay:fm) (a:Act) (w:World):Prop extends hZ g s ay w where
 env : ∀t,Rel w (s.ok g ay w) s.a5 (s.bd ay) (s.E t) (a.tmps.getD t undef)
 defers:a.defers=[]
 jF:g.N≤a.tmps.size
def ofValue:Value→aB
 | .bool x=> .b x
 | .int k x=> .n k x
 | .string x=> .s x
 | .pointer none=> .hY
 | .slice none 0 0=> .eo
 | _=> .dead
theorem NY {w:World}{ok:Nat→Prop}{a5:i2}{bd:iR}(v:Value):Rel w ok a5 bd (ofValue v) v:=by
 unfold ofValue
 split<;>constructor
def fe (E:Nat→aB):Operand→aB
 | .tmp t=>E t
 | .const v=>ofValue v
 | .global _=> .dead
 | .func f=> .fn f []
theorem cL.eval {g:G}{s:S}{ay:fm}{a:Act}{w:World}(h:cL g s ay a w)(x:Operand):
 Rel w (s.ok g ay w) s.a5 (s.bd ay) (fe s.E x) (a.eval x):=by
 cases x with
 | tmp t=>exact h.env t
 | const v=>exact NY v
 | global g=>exact .dead _
 | func f=>exact .fn [] rfl (fun j x v U=>by simp at U)
def aB.cells:aB→List aB
 | .agg c=>c
 | x=>[x]
def aB.one:aB→Bool
 | .dead | .agg _ | .dX _=>false
 | _=>true
def aB.xv:aB→Bool
 | .dead | .dX _=>false
 | _=>true
theorem aB.NZ {v:aB}(h:v.xv=true):v.one=true∨ ∃c,v = .agg c:=by
 cases v<;>first|exact .inl rfl|exact .inr ⟨_,rfl⟩|simp [aB.xv] at h
theorem Rel.j7 {w:World}{ok:Nat→Prop}{a5:i2}{bd:iR}{a:aB}{v:Value}(h:Rel w ok a5 bd a v)(bF:a.one=true):j7 v=true:=by
 cases h with
 | oH h=>cases h;rfl
 | mJ h=>cases h<;>rfl
 | nz h=>cases h<;>rfl
 | _=>first|rfl|simp [aB.one] at bF
theorem Rel.cellsOf {w:World}{ok:Nat→Prop}{a5:i2}{bd:iR}{a:aB}{v:Value}(h:Rel w ok a5 bd a v)(bF:a.one=true∨ ∃c,a = .agg c):
 ∃vs:List Value,v.cells=vs.toArray∧vs.length=a.cells.length∧(∀(j:Nat) x,vs[j]? = some x→VL.j7 x=true) ∧
  ∀(j:Nat) x u,a.cells[j]? = some x→vs[j]? = some u→Rel w ok a5 bd x u:=by
 rcases bF with bF|⟨c,rfl⟩
 ·have bf:=h.j7 bF
  refine ⟨[v],?_,?_,?_,?_⟩
  ·cases v<;>first|rfl|simp [VL.j7,Value.oneCell'] at bf
  ·cases a<;>first|rfl|simp [aB.one] at bF
  ·intro j x U
   cases j with
   | zero=>simp at U;subst U;exact bf
   | succ j=>simp at U
  ·intro j x u U hu
   have e:a.cells=[a]:=by cases a<;>first|rfl|simp [aB.one] at bF
   rw [e] at U
   cases j with
   | zero=>simp at U hu;subst U;subst hu;exact h
   | succ j=>simp at U
 ·cases h with
  | agg vs aT jW ar=>exact ⟨vs,rfl,aT,jW,ar⟩
end Go.VL
namespace Go.VL
set_option linter.unusedVariables false
set_option linter.unusedSimpArgs false
open Go
def S.put (s:S)(dst:Option Tmp)(v:aB):S :=
 match dst with
 | some t=>{s with E:=fun u=>if u=t then v else s.E u}
 | none=>s
def S.setRow (s:S)(r:Nat)(row:List ae):S:={s with aW:=fun q=>if q=r then some row else s.aW q}
@[simp] theorem S.s5 (s:S) (dst:Option Tmp) (v:aB):(s.put dst v).aW=s.aW:=by cases dst<;>rfl
@[simp] theorem S.aeS (s:S) (r:Nat) (row:List ae):(s.setRow r row).E=s.E:=rfl
theorem Ab {s bR:S}(h:bR.aW=s.aW):bR.ao=s.ao:=by funext r k;simp [S.ao,h]
theorem xw {s bR:S}(h:bR.aW=s.aW):bR.a5=s.a5:=by funext r k;simp [S.a5,h]
theorem xx {s bR:S}(h:bR.aW=s.aW)(ay:fm):bR.bd ay=s.bd ay:=by unfold S.bd;rw [Ab h]
theorem XL {s bR:S}(h:bR.aW=s.aW)(ay:fm):bR.lI ay=s.lI ay:=by unfold S.lI;rw [Ab h]
theorem Ac {s bR:S}(h:bR.aW=s.aW)(g:G)(ay:fm)(w:World):bR.ok g ay w=s.ok g ay w:=by
 funext b;unfold S.ok;rw [XL h]
theorem hZ.congr {g:G}{s bR:S}{ay:fm}{w:World}(h:hZ g s ay w)(e:bR.aW=s.aW):hZ g bR ay w where
 obj:=by rw [Ab e,xw e,xx e,Ac e];exact h.obj
 inj:=by rw [Ab e];exact h.inj
 own:=by rw [Ab e];exact h.own
 gQ:=h.gQ
 mlt:=h.mlt
 nd:=h.nd
 stay:=by rw [xw e,xx e];exact h.stay
 low:=h.low
theorem ZN (a:Act)(dst:Option Tmp)(v:Value)(t:Nat)(eY:∀d,dst=some d→d<a.tmps.size):
 (a.put dst v).tmps.getD t undef=if dst=some t then v else a.tmps.getD t undef:=by
 cases dst with
 | none=>simp [Act.put]
 | some d =>
  have:=eY d rfl
  simp only [Act.put,Array.getD_eq_getD_getElem?,Array.getElem?_setIfInBounds,Option.some.injEq]
  by_cases e:d=t
  ·subst e;simp [this]
  ·simp [e]
theorem cL.put {g:G}{s:S}{ay:fm}{a:Act}{w:World}(h:cL g s ay a w)(dst:Option Tmp){x:aB}{v:Value}
 (bJ : ∀d,dst=some d→d<g.N) (ar:Rel w (s.ok g ay w) s.a5 (s.bd ay) x v):cL g (s.put dst x) ay (a.put dst v) w where
 tohZ:=h.tohZ.congr (S.s5 s dst x)
 env:=by
  have e:=S.s5 s dst x
  rw [Ac e,xw e,xx e]
  intro t
  rw [ZN a dst v t fun d p7=>Nat.lt_of_lt_of_le (bJ d p7) h.jF]
  cases dst with
  | none=>simpa [S.put] using h.env t
  | some d =>
   simp only [S.put,Option.some.injEq]
   by_cases e:t=d
   ·subst e;simpa using ar
   ·rw [if_neg e,if_neg (Ne.symm e)];exact h.env t
 defers:=by cases dst<;>exact h.defers
 jF:=by cases dst<;>simpa [Act.put] using h.jF
structure Step (g:G) (s:S) (ay:fm) (w:World) (bR:S) (bM:fm) (bN:World):Prop where
 a5 : ∀r k,s.a5 r k→bR.a5 r k
 bd : ∀r k,s.a5 r k→bR.bd bM r k=s.bd ay r k∨bR.bd bM r k=none
 live : ∀b,bR.lI bM b→s.lI ay b∨w.heap.size≤b
 heap : ∀b,b<w.heap.size→ ¬s.lI ay b→bN.heap[b]? = w.heap[b]?
 size:w.heap.size≤bN.heap.size
theorem Step.ok {g:G}{s bR:S}{ay bM:fm}{w bN:World}(h:Step g s ay w bR bM bN)(b:Nat)(aS:s.ok g ay w b):bR.ok g bM bN b :=
 ⟨Nat.lt_of_lt_of_le aS.1 h.size,aS.2.1,fun aT=>by
  rcases h.live b aT with h1|h1
  ·exact aS.2.2 h1
  ·exact absurd aS.1 (by omega)⟩
theorem Step.rel {g:G}{s bR:S}{ay bM:fm}{w bN:World}(h:Step g s ay w bR bM bN){x:aB}{v:Value}
 (ar:Rel w (s.ok g ay w) s.a5 (s.bd ay) x v):Rel bN (bR.ok g bM bN) bR.a5 (bR.bd bM) x v :=
 ar.mono h.ok (fun b aS=>h.heap b aS.1 aS.2.2) h.a5 h.bd
theorem Step.obj {g:G}{s bR:S}{ay bM:fm}{w bN:World}(h:Step g s ay w bR bM bN){I:ae}{p:Option (Nat×Nat)}
 (ak : ∀b m,p=some (b,m)→bN.heap[b]? = w.heap[b]?) (ap:jb w (s.ok g ay w) s.a5 (s.bd ay) I p) :
 jb bN (bR.ok g bM bN) bR.a5 (bR.bd bM) I p:=by
 cases p with
 | none=>exact ap
 | some q =>
  obtain ⟨b,m⟩:=q
  obtain ⟨c,eH,h1,o,ab,av⟩:=ap
  refine ⟨c,eH,(ak b m rfl).trans h1,o,ab,fun j x U=> ?_⟩
  obtain ⟨v,e1,aD,bS⟩:=av j x U
  exact ⟨v,e1,aD,h.rel bS⟩
theorem Step.stay {g:G}{s bR:S}{ay bM:fm}{w bN:World}(h:Step g s ay w bR bM bN)
 (b0 : ∀j k,g.oM j k→s.a5 j k∧(s.bd ay j k=g.qI j k∨s.bd ay j k=none)) : ∀j k,g.oM j k→bR.a5 j k∧(bR.bd bM j k=g.qI j k∨bR.bd bM j k=none):=by
 intro j k aF
 obtain ⟨h1,o⟩:=b0 j k aF
 refine ⟨h.a5 j k h1,?_⟩
 rcases h.bd j k h1 with e|e
 ·rw [e];exact o
 ·exact .inr e
theorem AV.step {g:G}{w bN:World}(h:AV g w)(h1:bN.os=w.os)(o:bN.tape=w.tape)(ab:bN.output=w.output)(av:w.heap.size≤bN.heap.size)
 (az : ∀b,b<g.mx.heap.size→ ¬g.pa b→bN.heap[b]? = w.heap[b]?):AV g bN :=
 ⟨h1.trans h.os,o.trans h.tape,ab.trans h.output,Nat.le_trans h.size av,fun b aS hm=>(az b aS hm).trans (h.block b aS hm)⟩
theorem lr (s:S)(r:Nat)(row:List ae)(q k:Nat):(s.setRow r row).ao q k=if q=r then dh (some row) k else s.ao q k:=by
 unfold S.ao S.setRow
 by_cases e:q=r<;>simp [e]
theorem m5 (s:S)(r:Nat)(row:List ae)(q k:Nat):(s.setRow r row).a5 q k↔(if q=r then k<row.length else s.a5 q k):=by
 unfold S.a5 S.setRow
 by_cases e:q=r<;>simp [e]
theorem Dt {s:S}{r k:Nat}{I:ae}(h:s.ao r k=some I):s.a5 r k:=by
 unfold S.ao dh at h
 unfold S.a5
 cases ar:s.aW r with
 | none=>rw [ar] at h;simp at h
 | some l =>
  rw [ar] at h
  simp only at h
  rcases Nat.lt_or_ge k l.length with h1|h1
  ·simpa using h1
  ·rw [List.getElem?_eq_none h1] at h;simp at h
theorem w6 {s:S}{r:Nat}(h:s.aW r=none)(k:Nat): ¬s.a5 r k:=by simp [S.a5,h]
theorem C5 (s:S){r:Nat}{l row:List ae}(ar:s.aW r=some l)(aT:l.length≤row.length)(q k:Nat)(h:s.a5 q k):(s.setRow r row).a5 q k:=by
 rw [m5]
 by_cases e:q=r
 ·subst e;rw [if_pos rfl];simp [S.a5,ar] at h;omega
 ·rw [if_neg e];exact h
theorem aeB {s:S}{r:Nat}(h:s.aW r=none)(k:Nat):s.ao r k=none:=by simp [S.ao,h,dh]
def fm.set (ay:fm)(r k:Nat)(p:Option (Nat×Nat)):fm:=fun q j=>if q=r∧j=k then p else ay q j
theorem lY (I:ae)(k:Nat):dh (some [I]) k=if k=0∧I.cp≠ .gone then some I else none:=by
 unfold dh
 cases k with
 | zero=>by_cases h:I.cp = .gone<;>simp [h]
 | succ k=>simp
theorem Rel.drew {w:World}{ok:Nat→Prop}{a5:i2}{bd:iR}{x:aB}{v:Value}(h:Rel w ok a5 bd x v):Rel w.drew ok a5 bd x v :=
 h.mono (fun _ h=>h) (fun _ _=>rfl) (fun _ _ h=>h) (fun _ _ _=> .inl rfl)
theorem jb.drew {w:World}{ok:Nat→Prop}{a5:i2}{bd:iR}{I:ae}{p:Option (Nat×Nat)}(h:jb w ok a5 bd I p):jb w.drew ok a5 bd I p:=by
 cases p with
 | none=>exact h
 | some q =>
  obtain ⟨c,eH,h1,o,ab,av⟩:=h
  exact ⟨c,eH,h1,o,ab,fun j x U=>let ⟨v,a,b,c⟩:=av j x U;⟨v,a,b,c.drew⟩⟩
theorem hZ.drew {g:G}{s:S}{ay:fm}{w:World}(h:hZ g s ay w):hZ g s ay w.drew :=
 {obj:=fun r k I ap=>(h.obj r k I ap).drew,inj:=h.inj,own:=h.own,gQ:=⟨h.gQ.os,h.gQ.tape,h.gQ.output,h.gQ.size,h.gQ.block⟩,mlt:=h.mlt,nd:=h.nd,stay:=h.stay,low:=h.low}
theorem cL.drew {g:G}{s:S}{ay:fm}{a:Act}{w:World}(h:cL g s ay a w):cL g s ay a w.drew where
 tohZ:=h.tohZ.drew
 env:=fun t=>(h.env t).drew
 defers:=h.defers
 jF:=h.jF
theorem cL.alloc {g:G}{s:S}{ay:fm}{a:Act}{w:World}(h:cL g s ay a w){r:Nat}(ar:s.aW r=none)(I:ae)(a8:I.cp = .live)
 (c:Array Value) (eH:TypeId) (hlen : ∀e∈I.es,e.length=I.sz)
 (bf : ∀(j:Nat) x,I.es.flatten[j]? = some x→ ∃v,c[j]? = some v∧j7 v=true∧Rel w (s.ok g ay w) s.a5 (s.bd ay) x v) :
 ∃bM,bM r 0=some (w.heap.size,c.size)∧cL g (s.setRow r [I]) bM a (w.alloc (.cells c eH)) ∧
  ∀x v,Rel w (s.ok g ay w) s.a5 (s.bd ay) x v→Rel (w.alloc (.cells c eH)) ((s.setRow r [I]).ok g bM (w.alloc (.cells c eH))) (s.setRow r [I]).a5 ((s.setRow r [I]).bd bM) x v:=by
 have lA : ∀q k,q≠r→(ay.set r 0 (some (w.heap.size,c.size))) q k=ay q k:=fun q k bc=>by simp [fm.set,bc]
 have bo : ∀q k,q≠r→(s.setRow r [I]).ao q k=s.ao q k:=fun q k bc=>by rw [lr,if_neg bc]
 have x4 : ∀k,(s.setRow r [I]).ao r k=if k=0 then some I else none:=fun k=>by
  rw [lr,if_pos rfl,lY];simp [a8]
 have sc : ∀q k p b m,s.ao q k=some p→ay q k=some (b,m)→b<w.heap.size:=fun q k p b m ak bc=>by
  have:=h.obj q k p ak
  rw [bc] at this
  obtain ⟨dL,mn,fL,_⟩:=this
  exact (Array.getElem?_eq_some_iff.1 fL).1
 have dy:Step g s ay w (s.setRow r [I]) (ay.set r 0 (some (w.heap.size,c.size))) (w.alloc (.cells c eH)):=by
  refine ⟨fun q k bc=>(m5 _ _ _ _ _).2 (by rw [if_neg (by rintro rfl;exact w6 ar k bc)];exact bc),fun q k bc=> ?_,fun b aS=> ?_,fun b aS _=>heap_alloc_old w _ b aS,by simp⟩
  ·have dr:q≠r:=by rintro rfl;exact w6 ar k bc
   left
   simp only [S.bd,bo q k dr,lA q k dr]
  ·obtain ⟨q,k,p,m,h1,o,ab⟩:=aS
   by_cases e:q=r
   ·subst e
    rw [x4] at h1
    by_cases e0:k=0
    ·subst e0;simp [fm.set] at ab;right;omega
    ·simp [e0] at h1
   ·rw [bo q k e] at h1;rw [lA q k e] at ab
    exact .inl ⟨q,k,p,m,h1,o,ab⟩
 refine ⟨ay.set r 0 (some (w.heap.size,c.size)),by simp [fm.set],?_,fun x v=>dy.rel⟩
 refine {tohZ:=⟨?_,?_,?_,?_,h.mlt,h.nd,dy.stay h.stay,h.low⟩,env:=fun t=>dy.rel (h.env t),defers:=h.defers,jF:=h.jF}
 ·intro q k p ak
  by_cases e:q=r
  ·subst e
   rw [x4] at ak
   by_cases e0:k=0
   ·subst e0
    simp at ak
    subst ak
    simp only [fm.set,and_self,if_true]
    exact ⟨c,eH,heap_alloc_new w _,rfl,hlen,fun j x U=>let ⟨v,e1,aD,bS⟩:=bf j x U;⟨v,e1,aD,dy.rel bS⟩⟩
   ·simp [e0] at ak
  ·rw [bo q k e] at ak
   rw [lA q k e]
   exact dy.obj (fun b m hm=>heap_alloc_old w _ b (sc q k p b m ak hm)) (h.obj q k p ak)
 ·intro q k p hv d8 kd b m cx h1 o ab av
  by_cases e:q=r<;>by_cases eN:hv=r
  ·subst e;subst eN
   rw [x4] at h1 o
   by_cases e0:k=0<;>by_cases e1:d8=0<;>simp [e0,e1] at h1 o
   exact ⟨rfl,by omega⟩
  ·subst e
   rw [x4] at h1;rw [bo _ _ eN] at o;rw [lA _ _ eN] at av
   by_cases e0:k=0<;>simp [e0] at h1
   subst e0
   simp [fm.set] at ab
   have:=sc hv d8 kd b cx o av
   omega
  ·subst eN
   rw [bo _ _ e] at h1;rw [x4] at o;rw [lA _ _ e] at ab
   by_cases e0:d8=0<;>simp [e0] at o
   subst e0
   simp [fm.set] at av
   have:=sc q k p b m h1 ab
   omega
  ·rw [bo _ _ e] at h1;rw [bo _ _ eN] at o;rw [lA _ _ e] at ab;rw [lA _ _ eN] at av
   exact h.inj q k p hv d8 kd b m cx h1 o ab av
 ·intro q k p b m h1 o
  by_cases e:q=r
  ·subst e
   rw [x4] at h1
   by_cases e0:k=0<;>simp [e0] at h1
   subst e0
   simp [fm.set] at o
   left
   have:=h.gQ.size
   omega
  ·rw [bo _ _ e] at h1;rw [lA _ _ e] at o
   exact h.own q k p b m h1 o
 ·exact h.gQ.step rfl rfl rfl (by simp) fun b aS _=>heap_alloc_old w _ b (Nat.lt_of_lt_of_le aS h.gQ.size)
theorem Pb (l:List ae)(k:Nat)(I b6:ae)(h:dh (some l) k=some I)(a8:b6.cp≠ .gone)(j:Nat):
 dh (some (l.set k b6)) j=if j=k then some b6 else dh (some l) j:=by
 unfold dh at *
 have dG:k<l.length:=by
  rcases Nat.lt_or_ge k l.length with h1|h1
  ·exact h1
  ·simp [List.getElem?_eq_none h1] at h
 by_cases e:j=k
 ·subst e;simp [dG,a8]
 ·simp only [List.getElem?_set,if_neg (Ne.symm e),if_neg e]
theorem cL.write {g:G}{s:S}{ay:fm}{a:Act}{w bN:World}(h:cL g s ay a w){r k b m:Nat}{l:List ae}{I:ae}(ar:s.aW r=some l)(ap:s.ao r k=some I)
 (a8:I.cp = .live) (ak:ay r k=some (b,m)) (es:List (List aB)) (c:Array Value) (eH:TypeId)
 (hw:bN.heap[b]? = some (.cells c eH (0,0))) (eY:bN.heap.size=w.heap.size) (uH : ∀q,q≠b→bN.heap[q]? = w.heap[q]?)
 (p8:bN.os=w.os) (Lb:bN.tape=w.tape) (KN:bN.output=w.output) (hm:c.size=m)
 (hlen : ∀e∈es,e.length=I.sz)
 (bf : ∀(j:Nat) x,es.flatten[j]? = some x→ ∃v,c[j]? = some v∧j7 v=true∧Rel w (s.ok g ay w) s.a5 (s.bd ay) x v) :
 cL g (s.setRow r (l.set k {I with es})) ay a bN ∧
  ∀x v,Rel w (s.ok g ay w) s.a5 (s.bd ay) x v→Rel bN ((s.setRow r (l.set k {I with es})).ok g ay bN) (s.setRow r (l.set k {I with es})).a5 ((s.setRow r (l.set k {I with es})).bd ay) x v:=by
 have jv:({I with es}:ae).cp≠ .gone:=by rw [a8];simp
 have bo : ∀q j,(s.setRow r (l.set k {I with es})).ao q j=if q=r∧j=k then some {I with es} else s.ao q j:=by
  intro q j
  rw [lr]
  by_cases e:q=r
  ·subst e
   have dO:dh (some l) k=some I:=by rw [← ar];exact ap
   rw [if_pos rfl,Pb l k I _ dO jv]
   by_cases aD:j=k<;>simp [aD,S.ao,ar]
  ·simp [e]
 have pn:s.lI ay b:=⟨r,k,I,m,ap,a8,ak⟩
 have dy:Step g s ay w (s.setRow r (l.set k {I with es})) ay bN:=by
  refine ⟨C5 s ar (by simp),fun q j bc=> .inl ?_,fun q bc=> ?_,fun q bc aT=>uH q fun e=>aT (e▸pn),Nat.le_of_eq eY.symm⟩
  ·simp only [S.bd,bo]
   by_cases e:q=r∧j=k
   ·obtain ⟨rfl,rfl⟩:=e;simp [ap]
   ·rw [if_neg e]
  ·obtain ⟨hv,j,p,cx,h1,o,ab⟩:=bc
   rw [bo] at h1
   by_cases e:hv=r∧j=k
   ·obtain ⟨rfl,rfl⟩:=e
    exact .inl ⟨hv,j,I,cx,ap,a8,ab⟩
   ·rw [if_neg e] at h1
    exact .inl ⟨hv,j,p,cx,h1,o,ab⟩
 refine ⟨{tohZ:=⟨?_,?_,?_,?_,h.mlt,h.nd,dy.stay h.stay,h.low⟩,env:=fun t=>dy.rel (h.env t),defers:=h.defers,jF:=h.jF},fun x v=>dy.rel⟩
 ·intro q j p km
  rw [bo] at km
  by_cases e:q=r∧j=k
  ·obtain ⟨rfl,rfl⟩:=e
   simp at km
   subst km
   rw [ak]
   exact ⟨c,eH,hw,hm,hlen,fun j x U=>let ⟨v,e1,aD,bS⟩:=bf j x U;⟨v,e1,aD,dy.rel bS⟩⟩
  ·rw [if_neg e] at km
   refine dy.obj (fun ke cx kW=>uH ke ?_) (h.obj q j p km)
   rintro rfl
   exact e (h.inj q j p r k I ke cx m km ap kW ak)
 ·intro q j p hv hK kd ke ij hf h1 o ab av
  have key : ∀q j p,(s.setRow r (l.set k {I with es})).ao q j=some p→ ∃kd,s.ao q j=some kd:=by
   intro q j p bc
   rw [bo] at bc
   by_cases e:q=r∧j=k
   ·obtain ⟨rfl,rfl⟩:=e;exact ⟨I,ap⟩
   ·rw [if_neg e] at bc;exact ⟨p,bc⟩
  obtain ⟨p1,Rs⟩:=key q j p h1
  obtain ⟨hi,Bj⟩:=key hv hK kd o
  exact h.inj q j p1 hv hK hi ke ij hf Rs Bj ab av
 ·intro q j p ke cx h1 o
  rw [bo] at h1
  by_cases e:q=r∧j=k
  ·obtain ⟨rfl,rfl⟩:=e;exact h.own q j I ke cx ap o
  ·rw [if_neg e] at h1;exact h.own q j p ke cx h1 o
 ·refine h.gQ.step p8 Lb KN (Nat.le_of_eq eY.symm) fun ke qJ kW=>uH ke ?_
  rintro rfl
  rcases h.own r k I ke m ap ak with h1|h1
  ·omega
  ·exact kW h1
end Go.VL
namespace Go.VL
set_option linter.unusedVariables false
set_option linter.unusedSimpArgs false
open Go
inductive sv where
 | id
 | ek (es:List (List aB))
 | jj (sz:Nat)
 | jJ
 | cA (x:aB)
 | len (n:Nat)
 | L7 (sz:Nat)
 | at_ (j i n:Nat)
 | view (dP:Nat) (I:ae) (es:List (List aB))
 deriving Inhabited
inductive yJ where
 | di (c:sv)
 | ptr (l:List sv)
 | KO (l:List sv)
 | agg (l:List sv)
 deriving Inhabited
inductive lj where
 | bu (c:yJ)
 | comp (l:List yJ)
 deriving Inhabited
inductive iz where
 | pure
 | box (l:List sv)
 | cA (row:List ae)
 | bG (row:List ae)
 | rx (row:List ae)
 | drop
 deriving Inhabited
structure nf where
 bJ:List (Nat×Nat):=[]
 iA:Option (Nat×Nat):=none
 deriving DecidableEq
inductive Src where
 | row (r:Nat)
 | ao (r k:Nat) (I:ae)
 deriving Inhabited
structure B4 where
 a1:List Src:=[]
 dt:List iz:=[]
 ac:List lj
 r:aB
 fy:List (List ae):=[]
 ik:lj:= .bu (.di .id)
 kn:List iz:=[]
 fI:List Nat:=[]
 fB:Bool:=true
inductive fx where
 | none
 | aa (t:Bool)
 | b9 (c:List aB)
 | gh (I:ae) (c:List aB)
 | fP
 | call (c:B4)
 | aJ (m:Nat) (I:Option ae:=Option.none)
 | kf (t:Nat) (v:aB) (a:fx)
 | sw (r:Nat) (a:fx)
 | vl (r n:Nat) (a:fx)
structure h2 where
 val:aB
 fJ:List (Nat×List ae):=[]
 fu:List Prop:=[]
def Ar (P:Program)(t:TypeId):Bool :=
 match P.underlying t with
 | some (.struct _)|some (.array _ _)=>true
 | _=>false
def x5 (nm:List Int):ByteArray:=nm.foldl (fun r n=>r.push (UInt8.ofNat n.toNat)) ByteArray.empty
def bytesOf:List (List aB)→Option (List Int)
 | []=>some []
 | [.n .u8 n]::es=>(bytesOf es).map (n :: ·)
 | _=>none
def elemAt (es:List (List aB))(i:Nat):fx→Option (List aB×List Prop)
 | .b9 c=>some (c,[es[i]? = some c])
 | .gh _ c=>some (c,[es[i]? = some c])
 | _=>match es[i]? with
  | some c=>some (c,[])
  | none=>none
def oI (row:Option (List ae))(k:Nat):fx→Option (ae×List Prop)
 | .gh I _=>match row with
  | some row=>some (I,[dh (some row) k=some I])
  | none=>none
 | _=>match dh row k with
  | some I=>some (I,[])
  | none=>none
def r2 (P:Program)(t:TypeId)(c:List aB)(off:Nat):Option aB :=
 if !((P.underlying t).isSome && (P.info? t).isSome) then none else
 if Ar P t then (if off+P.cellsOf t≤c.length then some (.agg ((c.drop off).take (P.cellsOf t))) else none)
 else match c[off]? with
  | some x=>if x.one then some x else none
  | none=>none
def KP (op:BinOp)(x y:aB):Option (aB×List Prop) :=
 match x,y with
 | .n k a,.n d8 b =>
  match op with
  | .shl=>some (.n k (k.wrap (a*2 ^ (min b.toNat k.bits))),[0≤b])
  | .shr=>some (.n k (a.fdiv (2 ^ (min b.toNat k.bits))),[0≤b])
  | _=>if k≠d8 then none else
   match op with
   | .add=>some (.n k (k.wrap (a+b)),[])
   | .sub=>some (.n k (k.wrap (a-b)),[])
   | .mul=>some (.n k (k.wrap (a*b)),[])
   | .quo=>some (.n k (k.wrap (a.tdiv b)),[b≠0])
   | .rem=>some (.n k (a.tmod b),[b≠0])
   | .and=>some (.n k (k.wrap ((BitVec.ofInt k.bits a &&& BitVec.ofInt k.bits b).toNat)),[])
   | .or=>some (.n k (k.wrap ((BitVec.ofInt k.bits a ||| BitVec.ofInt k.bits b).toNat)),[])
   | .xor=>some (.n k (k.wrap ((BitVec.ofInt k.bits a ^^^ BitVec.ofInt k.bits b).toNat)),[])
   | .eql=>some (.b (a == b),[])
   | .neq=>some (.b (a != b),[])
   | .lss=>some (.b (decide (a<b)),[])
   | .leq=>some (.b (decide (a≤b)),[])
   | .gtr=>some (.b (decide (b<a)),[])
   | .geq=>some (.b (decide (b≤a)),[])
   | _=>none
 | .s a,.s b =>
  match op with
  | .add=>some (.s (a++b),[a.size+b.size<9223372036854775808])
  | .eql=>some (.b (a.toList == b.toList),[])
  | .neq=>some (.b (!(a.toList == b.toList)),[])
  | _=>none
 | _,_=>none
def rq (P:Program)(t:TypeId)(x y:aB):Option Bool :=
 match P.underlying t,x,y with
 | some .bool,.b a,.b c=>some (a == c)
 | some (.pointer _),.hY,.hY=>some true
 | some (.pointer _),.eb ..,.hY=>some false
 | some (.pointer _),.hY,.eb .. => some false
 | some (.slice _),.eo,.eo=>some true
 | some (.slice _),.ib,.eo=>some false
 | _,_,_=>none
def Lc (op:UnOp)(x:aB):Option aB :=
 match op,x with
 | .neg,.n k a=>some (.n k (k.wrap (0-a)))
 | .not,.b a=>some (.b (!a))
 | _,_=>none
def fieldsOf (P:Program)(t:TypeId):Option (Array Field) :=
 match P.underlying t with
 | some (.struct kE)=>some kE
 | _=>none
def po (P:Program)(t:TypeId):Option TypeId :=
 match P.underlying t with
 | some (.slice e)=>some e
 | _=>none
def ql (P:Program)(t:TypeId):Option (List aB) :=
 match P.info? t with
 | some i=>match i.zero with
  | some v=>if v.cells.toList.all (·.oneCell') then some (v.cells.toList.map ofValue) else none
  | none=>none
 | none=>none
def As:aB→aB→aB
 | .eo,.isl sz []=> .isl sz []
 | .hY,.j0 sz none=> .j0 sz none
 | .eo,.iI r c sz none=> .iI r c sz none
 | x,_=>x
def qv:List aB→List aB→List aB
 | x::z,y::c=>As x y::qv z c
 | z,_=>z
def r3 (z:List aB):fx→List aB
 | .b9 c=>qv z c
 | _=>z
def setCells (c:List aB)(off:Nat)(vs:List aB):List aB:=c.take off++vs++c.drop (off+vs.length)
def s6:List aB→List (Nat×Nat×aB)→Option (List aB)
 | c,[]=>some c
 | c,(off,size,x)::rest =>
  if x.xv && x.cells.length=size && decide (off+size≤c.length) then s6 (setCells c off x.cells) rest else none
def xU (sz:Nat):List (List aB)→List (Nat×aB)→Option (List (List aB))
 | es,[]=>some es
 | es,(i,x)::rest=>if x.xv && x.cells.length=sz && decide (i<es.length) then xU sz (es.set i x.cells) rest else none
def au:Option aB→Nat→Option (Nat×List Prop)
 | none,d=>some (d,[])
 | some (.n _ x),_=>some (x.toNat,[0≤x])
 | _,_=>none
def eR (P:Program)(E:Nat→aB)(aW:Nat→Option (List ae))(aV:Nat)(I:Oper)(cM:fx):Option h2 :=
 let il:=fe E
 match I.op with
 | .move x | .assign x=>some {val:=il x}
 | .pick c a b =>
  match il c,cM with
  | .b x,.aa t=>some {val:=if t then il a else il b,fu:=[x=t]}
  | .b true,_=>some {val:=il a}
  | .b false,_=>some {val:=il b}
  | _,_=>none
 | .alloc t =>
  match ql P t with
  | some c=>some {val:= .ref aV 0 0 0,fJ:=[(aV,[⟨c.length,[c],.live⟩])]}
  | none=>none
 | .box _ x =>
  match il x with
  | .agg c=>some {val:= .ref aV 0 0 0,fJ:=[(aV,[⟨c.length,[c],.live⟩])]}
  | v=>if v.one then some {val:= .ref aV 0 0 0,fJ:=[(aV,[⟨1,[[v]],.live⟩])]} else none
 | .load t x =>
  match il x with
  | .ref r k i off =>
   match oI (aW r) k cM with
   | some (ao,af)=>match elemAt ao.es i cM with
    | some (c,aU)=>match r2 P t c off with
     | some v=>some {val:=v,fu:=af++aU}
     | none=>none
    | none=>none
   | none=>none
  | .eb _ es i off =>
   match elemAt es i cM with
   | some (c,aU)=>match r2 P t c off with
    | some v=>some {val:=v,fu:=aU}
    | none=>none
   | none=>none
  | _=>none
 | .store t x y =>
  match il x with
  | .ref r k i off =>
   match aW r with
   | none=>none
   | some row =>
   match oI (some row) k cM with
   | some (ao,af) =>
    if ao.cp≠ .live then none else
    let v:=il y
    if v.xv=false then none else
    if v.cells.length≠P.cellsOf t∨(P.info? t).isSome=false then none else
    match cM with
    | .fP=>if off=0 then some {val:= .dead,fJ:=[(r,row.set k {ao with es:=ao.es.set i v.cells})],fu:=af++[i<ao.es.length,v.cells.length=ao.sz]} else none
    | _=>match elemAt ao.es i cM with
     | some (c,aU)=>if off+v.cells.length≤c.length then some {val:= .dead,fJ:=[(r,row.set k {ao with es:=ao.es.set i (setCells c off v.cells)})],fu:=af++aU} else none
     | none=>none
   | none=>none
  | _=>none
 | .nilCheck x =>
  match il x with
  | .ref r k i off=>match oI (aW r) k cM with
   | some (ao,af)=>match elemAt ao.es i cM with
    | some (_,aU)=>some {val:= .ref r k i off,fu:=af++aU}
    | none=>none
   | none=>none
  | .eb sz es i off=>some {val:= .eb sz es i off}
  | .fn f c=>some {val:= .fn f c}
  | _=>none
 | .binOp op t x y _ =>
  match KP op (il x) (il y) with
  | some (v,ao)=>some {val:=v,fu:=ao}
  | none=>match op with
   | .eql=>(rq P t (il x) (il y)).map fun r=>{val:= .b r}
   | .neq=>(rq P t (il x) (il y)).map fun r=>{val:= .b (!r)}
   | _=>none
 | .unOp op _ x=>(Lc op (il x)).map fun v=>{val:=v}
 | .convert src dst x =>
  match P.underlying dst,il x with
  | some (.int k),.n _ a=>if (P.underlying src).isSome then some {val:= .n k (k.wrap a)} else none
  | some .string,.bm r k bV len =>
   match (po P src).bind P.underlying,dh (aW r) k with
   | some (.int .u8),some ao=>match bytesOf ((ao.es.drop bV).take len) with
    | some nm=>if bV+len≤ao.es.length∧ao.sz=1 then some {val:= .s (x5 nm)} else none
    | none=>none
   | _,_=>none
  | _,_=>none
 | .makeFunc (.func f) first captured =>
  if first.size=0 then some {val:= .fn f (captured.toList.map il)} else none
 | .makeSlice t l c =>
  match po P t,il l,il c with
  | some e,.n _ l,.n _ c =>
   match P.info? e,ql P e with
   | some i,some z=>if z.length=i.size then some {val:= .bm aV 0 0 l.toNat,fJ:=[(aV,[⟨z.length,List.replicate l.toNat (r3 z cM),.live⟩])],fu:=[0≤l,l≤c,(i.bytes:Int)*c≤281474976710656,c<9223372036854775808]} else none
   | _,_=>none
  | _,_,_=>none
 | .fieldAddr t x f =>
  match fieldsOf P t with
  | some kE=>match kE[f]? with
   | some fd=>if P.cellsOf fd.type=0 then none else
    match il x with
    | .ref r k i off=>match oI (aW r) k cM with
     | some (ao,af)=>match elemAt ao.es i cM with
      | some (_,aU)=>some {val:= .ref r k i (off+fd.offset),fu:=af++aU}
      | none=>none
     | none=>none
    | .eb sz es i off=>some {val:= .eb sz es i (off+fd.offset)}
    | _=>none
   | none=>none
  | none=>none
 | .field t x f =>
  match fieldsOf P t with
  | some kE=>match kE[f]?,il x with
   | some fd,.agg c=>(r2 P fd.type c fd.offset).map fun v=>{val:=v}
   | _,_=>none
  | none=>none
 | .indexAddr t x my =>
  match po P t,il my with
  | some e,.n _ j =>
   match il x with
   | .isl sz es=>if sz=P.cellsOf e∧sz≠0 then some {val:= .eb sz es j.toNat 0,fu:=[0≤j,j<es.length]} else none
   | .bm r k bV len=>match aW r with
    | some row=>match oI (some row) k cM with
     | some (ao,af)=>if ao.sz=P.cellsOf e∧ao.sz≠0 then some {val:= .ref r k (bV+j.toNat) 0,fu:=af++[0≤j,j<len]} else none
     | none=>none
    | none=>none
   | _=>none
  | _,_=>none
 | .index t x my =>
  match P.underlying t,il x,il my with
  | some .string,.s s,.n _ j=>some {val:= .n .u8 (s.data.toList.getD j.toNat 0).toNat,fu:=[0≤j,j<s.size]}
  | _,_,_=>none
 | .extract x i =>
  match il x with
  | .dX vs=>(vs[i]?).map fun v=>{val:=v}
  | _=>none
 | .slice t x bV aq none =>
  match P.underlying t,il x with
  | some (.slice e),.isl sz es =>
   match au (bV.map il) 0,au (aq.map il) es.length with
   | some (l,af),some (h,aU)=>if sz=P.cellsOf e∧sz≠0 then some {val:= .isl sz ((es.drop l).take (h-l)),fu:=af++aU++[l≤h,h≤es.length]} else none
   | _,_=>none
  | some (.slice e),.bm r k Sw len =>
   match aW r with
   | none=>none
   | some row=>match oI (some row) k cM with
    | none=>none
    | some (ao,Sx) =>
     match au (bV.map il) 0,au (aq.map il) len with
     | some (l,af),some (h,aU)=>if ao.sz=P.cellsOf e∧ao.sz≠0 then some {val:= .bm r k (Sw+l) (h-l),fu:=Sx++af++aU++[l≤h,h≤len]} else none
     | _,_=>none
  | some .string,.s s =>
   match au (bV.map il) 0,au (aq.map il) s.size with
   | some (l,af),some (h,aU)=>some {val:= .s (s.extract l h),fu:=af++aU++[l≤h,h≤s.size]}
   | _,_=>none
  | _,_=>none
 | .build t parts =>
  match fieldsOf P t,ql P t with
  | some kE,some z =>
   if kE.toList.all (fun f=>(P.info? f.type).isSome)=false then none else
   match parts.toList.mapM fun (p:Nat×Operand)=>(kE[p.1]?).map fun fd=>(fd.offset,P.cellsOf fd.type,il p.2) with
   | some l=>(s6 z l).map fun c=>{val:= .agg c}
   | none=>none
  | _,_=>none
 | .buildSlice t len parts =>
  match po P t with
  | some e=>match ql P e with
   | some z =>
    if len*z.length>16777216∨z.length≠P.cellsOf e∨z.length=0 then none else
    match xU z.length (List.replicate len z) (parts.toList.map fun p=>(p.1,il p.2)) with
    | some es=>some {val:= .bm aV 0 0 len,fJ:=[(aV,[⟨z.length,es,.live⟩])]}
    | none=>none
   | none=>none
  | none=>none
 | .call {callee:= .builtin .len,args,argTypes} =>
  match args.toList.map il,P.underlying (argTypes.getD 0 0),decide (argTypes.size=1) with
  | [.isl _ es],some (.slice _),true=>some {val:= .n .i64 es.length}
  | [.bm r k _ len],some (.slice _),true=>match aW r with
   | some row=>match oI (some row) k cM with
    | some (_,af)=>some {val:= .n .i64 len,fu:=af}
    | none=>none
   | none=>none
  | [.eo],some (.slice _),true=>some {val:= .n .i64 0}
  | [.s x],some .string,true=>some {val:= .n .i64 x.size}
  | _,_,_=>none
 | _=>none
end Go.VL
namespace Go.VL
set_option linter.unusedVariables false
set_option linter.unusedSimpArgs false
open Go
theorem oY {α:Type}{sz:Nat}(b0:0<sz): ∀(es:List (List α)) (_ : ∀e∈es,e.length=sz) (j:Nat),
 es.flatten[j]? = (es[j / sz]?).bind (·[j % sz]?)
 | [],_,j=>by simp
 | e::es,h,j=>by
  have he:e.length=sz:=h e (by simp)
  rw [List.flatten_cons,List.getElem?_append]
  by_cases aF:j<sz
  ·rw [if_pos (by omega),Nat.div_eq_of_lt aF,Nat.mod_eq_of_lt aF];simp
  ·rw [if_neg (by omega),he,oY b0 es (fun eN lO=>h eN (by simp [lO])) (j-sz)]
   have h1:j / sz=(j-sz) / sz+1:=Nat.div_eq_sub_div b0 (by omega)
   have o:j % sz=(j-sz) % sz:=Nat.mod_eq_sub_mod (by omega)
   rw [h1,o];simp
theorem zZ {α:Type}{sz:Nat}{es:List (List α)}(aT:∀e∈es,e.length=sz){i:Nat}{c:List α}(he:es[i]? = some c){j:Nat}(aF:j<sz):
 es.flatten[i*sz+j]? = c[j]? := by
 have b0:0<sz:=by omega
 rw [oY b0 es aT]
 have h1:(i*sz+j) / sz=i:=by
  rw [Nat.mul_comm,Nat.mul_add_div b0,Nat.div_eq_of_lt aF];omega
 have o:(i*sz+j) % sz=j:=by
  rw [Nat.mul_comm,Nat.mul_add_mod,Nat.mod_eq_of_lt aF]
 rw [h1,o,he];rfl
theorem N0 {α:Type}{sz:Nat}{es:List (List α)}(aT:∀e∈es,e.length=sz){i:Nat}{c dL:List α}(he:es[i]? = some c)(bf:dL.length=sz)(j:Nat):
 (es.set i dL).flatten[j]? = if i*sz≤j∧j<i*sz+sz then dL[j-i*sz]? else es.flatten[j]? := by
 rcases Nat.eq_zero_or_pos sz with h0|b0
 ·subst h0
  have e1 : ∀(l:List (List α)),(∀e∈l,e.length=0)→l.flatten=[]:=by
   intro l aT;induction l with
   | nil=>rfl
   | cons a l ih=>rw [List.flatten_cons,ih fun e he=>aT e (by simp [he])];have:=aT a (by simp);simp_all
  rw [e1 _ aT,e1 (es.set i dL) (by
   intro e hm
   rcases List.mem_or_eq_of_mem_set hm with h|h
   ·exact aT e h
   ·exact h▸bf)]
  simp
 ·have Ld : ∀e∈es.set i dL,e.length=sz:=by
   intro e hm
   rcases List.mem_or_eq_of_mem_set hm with h|h
   ·exact aT e h
   ·exact h▸bf
  have aq:i<es.length:=by
   rcases Nat.lt_or_ge i es.length with h|h
   ·exact h
   ·rw [List.getElem?_eq_none h] at he;simp at he
  rw [oY b0 _ Ld,oY b0 _ aT]
  by_cases bc:j / sz=i
  ·have h1:i*sz≤j∧j<i*sz+sz:=by
    subst bc
    constructor
    ·exact Nat.div_mul_le_self j sz
    ·have:=Nat.lt_div_mul_add (a:=j) b0;omega
   rw [if_pos h1,bc,List.getElem?_set_self aq]
   have:j % sz=j-i*sz:=by
    subst bc;have:=Nat.div_add_mod j sz;rw [Nat.mul_comm] at this;omega
   simp [this]
  ·have h1 : ¬(i*sz≤j∧j<i*sz+sz):=by
    rintro ⟨a,b⟩
    apply bc
    obtain ⟨d,rfl⟩ : ∃d,j=i*sz+d:=⟨j-i*sz,by omega⟩
    rw [Nat.mul_comm i sz,Nat.mul_add_div b0,Nat.div_eq_of_lt (by omega)]
    omega
   rw [if_neg h1,List.getElem?_set_ne (Ne.symm bc)]
def oe (w:World)(ok:Nat→Prop)(a5:i2)(bd:iR)(d3 I sz:Nat)(es:List (List aB)):Prop :=
 (∀e∈es,e.length=sz)∧ ∀(j:Nat) x,es.flatten[j]? = some x→ ∃v,w.cell? ⟨d3,I+j,none⟩=some v∧j7 v=true∧Rel w ok a5 bd x v
theorem jb.rd {w:World}{ok:Nat→Prop}{a5:i2}{bd:iR}{I:ae}{d3 m:Nat}(h:jb w ok a5 bd I (some (d3,m))):oe w ok a5 bd d3 0 I.sz I.es:=by
 obtain ⟨c,eH,h1,o,ab,av⟩:=h
 refine ⟨ab,fun j x U=> ?_⟩
 obtain ⟨v,e1,aD,bS⟩:=av j x U
 exact ⟨v,by rw [cell_of_row w d3 (0+j) c eH (0,0) h1,Nat.zero_add];exact e1,aD,bS⟩
theorem aeK {w:World}{ok:Nat→Prop}{a5:i2}{bd:iR}{x:aB}{v:Value}(h:Rel w ok a5 bd x v)(ap:x.one=true):v.oneCell'=true:=h.j7 ap
theorem OK {P:Program}{t:TypeId}(h:(P.underlying t).isSome=true)(w:World):(isAgg t).run P w = .ok (Ar P t) w:=by
 cases bJ:P.underlying t with
 | none=>simp [bJ] at h
 | some d=>cases d<;>simp [isAgg,Ar,run_underlying bJ,bJ]
theorem uk {P:Program}{t:TypeId}(h:(P.info? t).isSome=true)(w:World):(sizeOf t).run P w = .ok (P.cellsOf t) w:=by
 cases aq:P.info? t with
 | none=>simp [aq] at h
 | some i=>simp [sizeOf,typeInfo,aq,Program.cellsOf]
theorem rc (b I n:Nat):(⟨b,I,none⟩:Addr).add n=⟨b,I+n,none⟩:=by unfold Addr.add;split<;>simp_all
theorem JB {P:Program}{w:World}{ok:Nat→Prop}{a5:i2}{bd:iR}{d3 I sz i off:Nat}{es:List (List aB)}{c:List aB}{t:TypeId}{x:aB}
 (ic:oe w ok a5 bd d3 I sz es) (he:es[i]? = some c) (ch:r2 P t c off=some x) :
 ∃v,(Instr.loadAt t (.pointer (some ⟨d3,I+(i*sz+off),none⟩))).run P w = .ok v w∧Rel w ok a5 bd x v:=by
 have hlen:c.length=sz:=ic.1 c (List.mem_of_getElem? he)
 unfold r2 at ch
 split at ch
 ·simp at ch
 ·rename_i aq
  simp only [Bool.not_eq_true',Bool.not_eq_false,Bool.and_eq_true] at aq
  have jW : ∀j,j<sz→ ∃y v,c[j]? = some y∧w.cell? ⟨d3,I+(i*sz+j),none⟩=some v∧j7 v=true∧Rel w ok a5 bd y v:=by
   intro j aF
   have a3:c[j]? = some c[j]:=List.getElem?_eq_getElem (by omega)
   obtain ⟨v,e1,aD,bS⟩:=ic.2 (i*sz+j) c[j] (by rw [zZ ic.1 he aF,a3])
   exact ⟨_,v,a3,e1,aD,bS⟩
  simp only [Instr.loadAt,Instr.sureAddr,loadVar,Sem.run_bind,Sem.run_pure,Result.andThen,OK aq.1,uk aq.2]
  split at ch
  ·rename_i qE
   rw [qE]
   split at ch
   ·rename_i hle
    simp at ch;subst ch
    have aT:=run_loadCells (P:=P) w ⟨d3,I+(i*sz+off),none⟩ (P.cellsOf t) (fun j=>(w.cell? ⟨d3,I+(i*sz+(off+j)),none⟩).getD undef) (by
     intro j aF
     obtain ⟨y,v,-,e1,-,-⟩:=jW (off+j) (by omega)
     rw [rc,show I+(i*sz+off)+j=I+(i*sz+(off+j)) by omega,e1];rfl)
    refine ⟨.agg (List.map (fun j=>(w.cell? ⟨d3,I+(i*sz+(off+j)),none⟩).getD undef) (List.range (P.cellsOf t))).toArray,by simp [aT,Result.andThen,uk aq.2],?_⟩
    refine .agg _ (by simp;omega) ?_ ?_
    ·intro j v bh
     rw [List.getElem?_map,Option.map_eq_some_iff] at bh
     obtain ⟨q,lP,rfl⟩:=bh
     obtain ⟨n8,yd⟩:=List.getElem?_eq_some_iff.1 lP
     have bc:j<P.cellsOf t:=by simpa using n8
     obtain rfl:j=q:=by simpa using yd
     obtain ⟨y,v,-,e1,aD,-⟩:=jW (off+j) (by omega)
     rw [e1];exact aD
    ·intro j y v a3 bh
     rw [List.getElem?_map,Option.map_eq_some_iff] at bh
     obtain ⟨q,lP,rfl⟩:=bh
     obtain ⟨n8,yd⟩:=List.getElem?_eq_some_iff.1 lP
     have bc:j<P.cellsOf t:=by simpa using n8
     obtain rfl:j=q:=by simpa using yd
     rw [List.getElem?_take,if_pos bc,List.getElem?_drop] at a3
     obtain ⟨lV,v,h0,e1,aD,bS⟩:=jW (off+j) (by omega)
     rw [h0] at a3;simp at a3;subst a3
     rw [e1];exact bS
   ·simp at ch
  ·rename_i qE
   have qE:Ar P t=false:=by simpa using qE
   rw [qE]
   split at ch
   ·rename_i y a3
    split at ch
    ·simp at ch;subst ch
     have x6:off<sz:=by
      rcases Nat.lt_or_ge off c.length with h|h
      ·omega
      ·rw [List.getElem?_eq_none h] at a3;simp at a3
     obtain ⟨lV,v,h0,e1,aD,bS⟩:=jW off x6
     rw [h0] at a3;simp at a3;subst a3
     exact ⟨v,by simp [e1],bS⟩
    ·simp at ch
   ·simp at ch
theorem Nr {c:List aB}{off:Nat}{vs:List aB}(h:off+vs.length≤c.length):(setCells c off vs).length=c.length:=by
 simp [setCells];omega
theorem Jt {c:List aB}{off:Nat}{vs:List aB}(h:off+vs.length≤c.length)(j:Nat):
 (setCells c off vs)[j]? = if off≤j∧j<off+vs.length then vs[j-off]? else c[j]? := by
 unfold setCells
 rw [List.append_assoc,List.getElem?_append]
 have h1:(c.take off).length=off:=by simp;omega
 rw [h1]
 by_cases a:j<off
 ·rw [if_pos a,if_neg (by omega),List.getElem?_take,if_pos a]
 ·rw [if_neg a,List.getElem?_append]
  by_cases b:j<off+vs.length
  ·rw [if_pos (by omega),if_pos ⟨by omega,b⟩]
  ·rw [if_neg (by omega),if_neg (by omega),List.getElem?_drop]
   congr 1;omega
theorem abd {c:Array Value}{p:Nat}{vs:List Value}(h:p+vs.length≤c.size)(j:Nat):
 (c.toList.take p++vs++c.toList.drop (p+vs.length)).toArray[j]? = if p≤j∧j<p+vs.length then vs[j-p]? else c[j]? := by
 rw [List.getElem?_toArray,List.append_assoc,List.getElem?_append]
 have h1:(c.toList.take p).length=p:=by simp;omega
 rw [h1]
 by_cases a:j<p
 ·rw [if_pos a,if_neg (by omega),List.getElem?_take,if_pos a,Array.getElem?_toList]
 ·rw [if_neg a,List.getElem?_append]
  by_cases b:j<p+vs.length
  ·rw [if_pos (by omega),if_pos ⟨by omega,b⟩]
  ·rw [if_neg (by omega),if_neg (by omega),List.getElem?_drop,Array.getElem?_toList]
   congr 1;omega
theorem X4 {P:Program}{g:G}{s:S}{ay:fm}{a:Act}{w:World}(h:cL g s ay a w){r k b m i off:Nat}{l:List ae}{I:ae}{c:List aB}
 (ar:s.aW r=some l) (ap:s.ao r k=some I) (a8:I.cp = .live) (ak:ay r k=some (b,m)) (he:I.es[i]? = some c)
 {t:TypeId} (Le:(P.info? t).isSome=true) {x:aB} {v:Value} (U:Rel w (s.ok g ay w) s.a5 (s.bd ay) x v) (lL:x.one=true∨ ∃c,x = .agg c)
 (eY:x.cells.length=P.cellsOf t) (h9:off+x.cells.length≤c.length) :
 ∃bN,(Instr.storeAt t (.pointer (some ⟨b,i*I.sz+off,none⟩)) v).run P w = .ok () bN ∧
  cL g (s.setRow r (l.set k {I with es:=I.es.set i (setCells c off x.cells)})) ay a bN:=by
 obtain ⟨vs,bh,pu,jW,fs⟩:=U.cellsOf lL
 have bo:=h.obj r k I ap
 rw [ak] at bo
 obtain ⟨cm,eH,h1,o,ab,av⟩:=bo
 have hlen:c.length=I.sz:=ab c (List.mem_of_getElem? he)
 have x7:i*I.sz+off+vs.length≤cm.size:=by
  rcases Nat.eq_zero_or_pos I.sz with cv|cv
  ·have:off=0:=by omega
   have:vs.length=0:=by omega
   rw [cv];omega
  ·have aT:I.es.flatten[i*I.sz+(I.sz-1)]? = some (c[I.sz-1]'(by omega)):=by
    rw [zZ ab he (by omega)];exact List.getElem?_eq_getElem (by omega)
   obtain ⟨Sy,e1,-,-⟩:=av _ _ aT
   have:=(Array.getElem?_eq_some_iff.1 e1).1
   omega
 have l7:=run_storeCells_at P b (i*I.sz+off) eH vs 0 cm w h1 (by simpa using x7) (fun Sy Bk=>by
  obtain ⟨q,bc⟩:=List.getElem?_of_mem Bk
  exact jW q Sy bc)
 simp only [Nat.add_zero] at l7
 have iN:(Instr.storeAt t (.pointer (some ⟨b,i*I.sz+off,none⟩)) v).run P w =
  .ok () (w.setRow b (cm.toList.take (i*I.sz+off)++vs++cm.toList.drop (i*I.sz+off+vs.length)).toArray):=by
  have b0:v.cells.size=P.cellsOf t:=by rw [bh];simpa using pu.trans eY
  simp only [Instr.storeAt,Instr.sureAddr,storeVar,Sem.run_bind,Sem.run_pure,Result.andThen,uk Le,b0,ne_eq,not_true_eq_false,if_false]
  rw [bh]
  simpa using l7
 refine ⟨_,iN,?_⟩
 have ab6:(w.setRow b (cm.toList.take (i*I.sz+off)++vs++cm.toList.drop (i*I.sz+off+vs.length)).toArray).heap.size=w.heap.size:=size_setRow _ _ _
 have si:(setCells c off x.cells).length=I.sz:=by rw [Nr h9];exact hlen
 refine (h.write ar ap a8 ak _ _ eH (setRow_heap w b cm _ eH _ h1) ab6 (fun q bc=>setRow_other w b q _ bc) rfl rfl rfl ?_ ?_ ?_).1
 ·simp;omega
 ·intro e hm
  rcases List.mem_or_eq_of_mem_set hm with cD|cD
  ·exact ab e cD
  ·exact cD▸si
 ·intro j y a3
  rw [abd x7]
  rw [N0 ab he si] at a3
  by_cases lQ:i*I.sz≤j∧j<i*I.sz+I.sz
  ·rw [if_pos lQ,Jt h9] at a3
   by_cases Q5:off≤j-i*I.sz∧j-i*I.sz<off+x.cells.length
   ·rw [if_pos Q5] at a3
    rw [if_pos ⟨by omega,by omega⟩]
    have bc:j-(i*I.sz+off)<vs.length:=by omega
    refine ⟨vs[j-(i*I.sz+off)],List.getElem?_eq_getElem bc,jW _ _ (List.getElem?_eq_getElem bc),fs (j-i*I.sz-off) y _ a3 ?_⟩
    rw [show j-i*I.sz-off=j-(i*I.sz+off) by omega]
    exact List.getElem?_eq_getElem bc
   ·rw [if_neg Q5] at a3
    rw [if_neg (by omega)]
    refine av j y ?_
    rw [show j=i*I.sz+(j-i*I.sz) by omega,zZ ab he (by omega)]
    exact a3
  ·rw [if_neg lQ] at a3
   rw [if_neg (by rw [pu];omega)]
   exact av j y a3
end Go.VL
namespace Go.VL
set_option linter.unusedVariables false
set_option linter.unusedSimpArgs false
open Go
def S.hQ (s:S)(u:List (Nat×List ae)):S:=u.foldl (fun s p=>s.setRow p.1 p.2) s
@[simp] theorem S.aeT (s:S):s.hQ []=s:=rfl
@[simp] theorem S.aeU (s:S) (p:Nat×List ae):s.hQ [p]=s.setRow p.1 p.2:=rfl
section
variable {w:World} {ok:Nat→Prop} {a5:i2} {bd:iR} {v:Value}
theorem Rel.s7 {x:Bool}(h:Rel w ok a5 bd (.b x) v):v = .bool x:=by cases h;rfl
theorem Rel.o3 {k:IntKind}{x:Int}(h:Rel w ok a5 bd (.n k x) v):v = .int k x:=by cases h;rfl
theorem Rel.xV {x:ByteArray}(h:Rel w ok a5 bd (.s x) v):v = .string x:=by cases h;rfl
theorem Rel.uy (h:Rel w ok a5 bd .hY v):v = .pointer none:=by cases h;rfl
theorem Rel.pg (h:Rel w ok a5 bd .eo v):v = .slice none 0 0:=by cases h;rfl
theorem Rel.DF (h:Rel w ok a5 bd .ib v): ∃a c,v = .slice (some a) 0 c:=by cases h;exact ⟨_,_,rfl⟩
theorem Rel.Pc {sz:Nat}(h:Rel w ok a5 bd (.j0 sz none) v):v = .pointer none:=by cases h;rfl
theorem Rel.JU {sz:Nat}{c:List aB}(h:Rel w ok a5 bd (.j0 sz (some c)) v):Rel w ok a5 bd (.eb sz [c] 0 0) v:=by cases h;assumption
theorem Rel.DO {f:Nat}{c:List aB}(h:Rel w ok a5 bd (.fn f c) v): ∃vs:List Value,v = .func (.func f) #[] vs.toArray∧vs.length=c.length ∧
 ∀(j:Nat) x u,c[j]? = some x→vs[j]? = some u→Rel w ok a5 bd x u:=by
 cases h with|fn vs aT ar=>exact ⟨vs,rfl,aT,ar⟩
theorem Rel.Ah {c:List aB}(h:Rel w ok a5 bd (.agg c) v): ∃vs:List Value,v = .agg vs.toArray∧vs.length=c.length∧(∀(j:Nat) u,vs[j]? = some u→VL.j7 u=true) ∧
 ∀(j:Nat) x u,c[j]? = some x→vs[j]? = some u→Rel w ok a5 bd x u:=by
 cases h with|agg vs aT bf ar=>exact ⟨vs,rfl,aT,bf,ar⟩
theorem Rel.xD {c:List aB}(h:Rel w ok a5 bd (.dX c) v): ∃vs:List Value,v = .tuple vs.toArray∧vs.length=c.length ∧
 ∀(j:Nat) x u,c[j]? = some x→vs[j]? = some u→Rel w ok a5 bd x u:=by
 cases h with|dX vs aT ar=>exact ⟨vs,rfl,aT,ar⟩
theorem Rel.xE {r k i off sz:Nat}{p:Option (Nat×Nat)}(h:Rel w ok a5 bd (.ref r k i off) v)(ch:bd r k=some (sz,p)):
 p=none∨ ∃b m,p=some (b,m)∧v = .pointer (some ⟨b,i*sz+off,none⟩):=by
 cases h with
 | pj a hu a4 =>
  cases p with
  | none=>exact .inl rfl
  | some q=>exact absurd ch (a4 _ _)
 | ref hu h =>
  rw [ch] at h
  simp only [Option.some.injEq,Prod.mk.injEq] at h
  obtain ⟨rfl,rfl⟩:=h
  exact .inr ⟨_,_,rfl,rfl⟩
theorem Rel.ae0 {r k i off:Nat}(h:Rel w ok a5 bd (.ref r k i off) v): ∃a,v = .pointer a:=by
 cases h with
 | pj a=>exact ⟨a,rfl⟩
 | ref=>exact ⟨_,rfl⟩
theorem Rel.Y6 {r k i off sz b m:Nat}(h:Rel w ok a5 bd (.ref r k i off) v)(ch:bd r k=some (sz,some (b,m)))(Q6:Nat):
 Rel w ok a5 bd (.ref r k i Q6) (.pointer (some ⟨b,i*sz+Q6,none⟩)):=by
 cases h with
 | pj a hu a4=>exact absurd ch (a4 _ _)
 | ref hu h=>exact .ref hu ch
theorem Rel.xF {sz i off:Nat}{es:List (List aB)}(h:Rel w ok a5 bd (.eb sz es i off) v): ∃d3 I,(ok d3∧jo es)∧v = .pointer (some ⟨d3,I+(i*sz+off),none⟩)∧oe w ok a5 bd d3 I sz es:=by
 cases h with
 | eb cs aS ak aT hw bf ar=>exact ⟨_,_,⟨aS,ak⟩,rfl,aT,fun j x U=>⟨cs j,hw j x U,bf j x U,ar j x U⟩⟩
theorem Rel.Ai {r k bV len sz:Nat}{p:Option (Nat×Nat)}(h:Rel w ok a5 bd (.bm r k bV len) v)(ch:bd r k=some (sz,p)):
 (p=none∧bV=0∧len=0∧v = .slice none 0 0)∨ ∃b m a c,p=some (b,m)∧v = .slice a len c∧len≤c∧c<9223372036854775808∧(c=0∨(a=some ⟨b,bV*sz,none⟩∧(bV+c)*sz=m)):=by
 cases h with
 | m6 a l c hu a4=>rw [ch] at a4;simp at a4
 | ns hu h =>
  rw [ch] at h
  simp only [Option.some.injEq,Prod.mk.injEq] at h
  exact .inl ⟨h.2,rfl,rfl,rfl⟩
 | bm hu h aT bf hm =>
  rw [ch] at h
  simp only [Option.some.injEq,Prod.mk.injEq] at h
  obtain ⟨rfl,rfl⟩:=h
  exact .inr ⟨_,_,_,_,rfl,rfl,aT,bf,hm.2.imp id fun e=>⟨e,hm.1⟩⟩
theorem Rel.uz {r k bV len sz:Nat}{p:Option (Nat×Nat)}(h:Rel w ok a5 bd (.bm r k bV len) v)(ch:bd r k=some (sz,p)):
 (p=none∧bV=0∧len=0∧v = .slice none 0 0)∨ ∃b m a c,p=some (b,m)∧v = .slice a len c∧len≤c∧c<9223372036854775808∧(bV+c)*sz=m∧(c=0∨a=some ⟨b,bV*sz,none⟩):=by
 cases h with
 | m6 a l c hu a4=>rw [ch] at a4;simp at a4
 | ns hu h =>
  rw [ch] at h
  simp only [Option.some.injEq,Prod.mk.injEq] at h
  exact .inl ⟨h.2,rfl,rfl,rfl⟩
 | bm hu h aT bf hm =>
  rw [ch] at h
  simp only [Option.some.injEq,Prod.mk.injEq] at h
  obtain ⟨rfl,rfl⟩:=h
  exact .inr ⟨_,_,_,_,rfl,rfl,aT,bf,hm⟩
theorem Rel.aeL {r k bV len:Nat}(h:Rel w ok a5 bd (.bm r k bV len) v): ∃a l c,v = .slice a l c:=by
 cases h<;>exact ⟨_,_,_,rfl⟩
theorem Rel.rU {sz:Nat}{es:List (List aB)}(h:Rel w ok a5 bd (.isl sz es) v):
 (es=[]∧ ∃a c,v = .slice a 0 c∧(a=none→c=0))∨ ∃d3 off c,(ok d3∧jo es)∧v = .slice (some ⟨d3,off,none⟩) es.length c∧es.length≤c∧oe w ok a5 bd d3 off sz es:=by
 cases h with
 | jY sz a c h=>exact .inl ⟨rfl,a,c,rfl,h⟩
 | isl cs aS ak aT bf hw iw ar=>exact .inr ⟨_,_,_,⟨aS,ak⟩,rfl,bf,aT,fun j x U=>⟨cs j,hw j x U,iw j x U,ar j x U⟩⟩
theorem oe.isl {d3 off c sz:Nat}{es:List (List aB)}(h:oe w ok a5 bd d3 off sz es)(aS:ok d3∧jo es)(bf:es.length≤c):Rel w ok a5 bd (.isl sz es) (.slice (some ⟨d3,off,none⟩) es.length c):=by
 have U : ∀j:Nat,∃v,∀x,es.flatten[j]? = some x→w.cell? ⟨d3,off+j,none⟩=some v∧VL.j7 v=true∧Rel w ok a5 bd x v:=by
  intro j
  cases aF:es.flatten[j]? with
  | none=>exact ⟨undef,fun x U=>by simp at U⟩
  | some y =>
   obtain ⟨v,h1⟩:=h.2 j y aF
   exact ⟨v,fun x U=>by simp at U;subst U;exact h1⟩
 exact .isl (fun j=>(U j).choose) aS.1 aS.2 h.1 bf (fun j x aF=>((U j).choose_spec x aF).1) (fun j x aF=>((U j).choose_spec x aF).2.1) (fun j x aF=>((U j).choose_spec x aF).2.2)
theorem oe.eb {d3 I i off sz:Nat}{es:List (List aB)}(h:oe w ok a5 bd d3 I sz es)(aS:ok d3∧jo es):Rel w ok a5 bd (.eb sz es i off) (.pointer (some ⟨d3,I+(i*sz+off),none⟩)):=by
 have U : ∀j:Nat,∃v,∀x,es.flatten[j]? = some x→w.cell? ⟨d3,I+j,none⟩=some v∧VL.j7 v=true∧Rel w ok a5 bd x v:=by
  intro j
  cases aF:es.flatten[j]? with
  | none=>exact ⟨undef,fun x U=>by simp at U⟩
  | some y =>
   obtain ⟨v,h1⟩:=h.2 j y aF
   exact ⟨v,fun x U=>by simp at U;subst U;exact h1⟩
 exact .eb (fun j=>(U j).choose) aS.1 aS.2 h.1 (fun j x aF=>((U j).choose_spec x aF).1) (fun j x aF=>((U j).choose_spec x aF).2.1) (fun j x aF=>((U j).choose_spec x aF).2.2)
end
def Fin (P:Program)(g:G)(s:S)(a:Act)(w:World)(I:Oper)(bC:h2):Prop :=
 ∃v bN bM,((execOp a.eval I).run P w = .ok (.value v) bN∨((execOp a.eval I).run P w = .ok .skip bN∧v=undef)) ∧
  cL g (s.hQ bC.fJ) bM a bN∧Rel bN ((s.hQ bC.fJ).ok g bM bN) (s.hQ bC.fJ).a5 ((s.hQ bC.fJ).bd bM) bC.val v
section
variable {P:Program} {g:G} {s:S} {ay:fm} {a:Act} {w:World} {I:Oper} {cM:fx} {aV:Nat} {bC:h2}
theorem ir (h:cL g s ay a w){v:Value}(iN:(execOp a.eval I).run P w = .ok (.value v) w)(hu:bC.fJ=[])
 (ar:Rel w (s.ok g ay w) s.a5 (s.bd ay) bC.val v):Fin P g s a w I bC :=
 ⟨v,w,ay,.inl iN,by rw [hu];exact h,by rw [hu];exact ar⟩
theorem PL {x:Operand}(h:cL g s ay a w)(ap:I.op = .move x∨I.op = .assign x)(aw:eR P s.E s.aW aV I cM=some bC):Fin P g s a w I bC:=by
 have:bC={val:=fe s.E x}:=by rcases ap with ap|ap<;>simp [eR,ap] at aw<;>exact aw.symm
 subst this
 refine ir (v:=a.eval x) h ?_ rfl (h.eval x)
 rcases ap with ap|ap<;>simp [execOp,ap]
theorem aaI {c x y:Operand}(h:cL g s ay a w)(ap:I.op = .pick c x y)(aw:eR P s.E s.aW aV I cM=some bC)(cz:∀p∈bC.fu,p):Fin P g s a w I bC:=by
 have bf:=h.eval c
 simp only [eR,ap] at aw
 have key : ∀t:Bool,fe s.E c = .b t→bC.fJ=[]→bC.val=(if t then fe s.E x else fe s.E y)→Fin P g s a w I bC:=by
  intro t ch hu bh
  rw [ch] at bf
  have e:a.eval c = .bool t:=bf.s7
  refine ir (v:=if t then a.eval x else a.eval y) h (by simp [execOp,ap,e,asBool]) hu ?_
  rw [bh];cases t
  ·exact h.eval y
  ·exact h.eval x
 split at aw
 ·rename_i z t cv
  simp at aw;subst aw
  have e:z=t:=cz _ (by simp)
  subst e
  exact key z cv rfl rfl
 ·rename_i cv _;simp at aw;subst aw;exact key true cv rfl rfl
 ·rename_i cv _;simp at aw;subst aw;exact key false cv rfl rfl
 ·simp at aw
theorem DG (h:cL g s ay a w)(eU:s.aW aV=none){v:Value}{ao:ae}{c:Array Value}{eH:TypeId}(a8:ao.cp = .live)
 (iN:(execOp a.eval I).run P w = .ok (.value v) (w.alloc (.cells c eH))) (hu:bC.fJ=[(aV,[ao])]) (hlen : ∀e∈ao.es,e.length=ao.sz)
 (bf : ∀(j:Nat) x,ao.es.flatten[j]? = some x→ ∃v,c[j]? = some v∧j7 v=true∧Rel w (s.ok g ay w) s.a5 (s.bd ay) x v)
 (hval : ∀(bN:World) (kN:Nat→Prop) (mO:i2) (l6:iR),mO aV 0→l6 aV 0=some (ao.sz,some (w.heap.size,c.size))→Rel bN kN mO l6 bC.val v):Fin P g s a w I bC:=by
 obtain ⟨bM,ak,b0,-⟩:=h.alloc eU ao a8 c eH hlen bf
 have h1:(s.setRow aV [ao]).a5 aV 0:=by rw [m5];simp
 have o:(s.setRow aV [ao]).bd bM aV 0=some (ao.sz,some (w.heap.size,c.size)):=by simp [S.bd,lr,lY,a8,ak]
 exact ⟨v,_,bM,.inl iN,by rw [hu];exact b0,by rw [hu];exact hval _ _ _ _ h1 o⟩
theorem z0 {t:TypeId}{z:List aB}(cv:ql P t=some z): ∃i eE,P.info? t=some i∧i.zero=some eE∧z=eE.cells.toList.map ofValue ∧
 ∀(j:Nat) x,z[j]? = some x→ ∃v,eE.cells[j]? = some v∧j7 v=true∧ ∀(w:World) (ok:Nat→Prop) (a5:i2) (bd:iR),Rel w ok a5 bd x v:=by
 unfold ql at cv
 cases aq:P.info? t with
 | none=>simp [aq] at cv
 | some i =>
  cases kX:i.zero with
  | none=>simp [aq,kX] at cv
  | some eE =>
   simp only [aq,kX] at cv
   split at cv
   ·rename_i nA
    simp only [Option.some.injEq] at cv
    refine ⟨i,eE,rfl,kX,cv.symm,fun j x U=> ?_⟩
    subst cv
    rw [List.getElem?_map,Option.map_eq_some_iff] at U
    obtain ⟨v,bh,rfl⟩:=U
    refine ⟨v,by rw [← Array.getElem?_toList];exact bh,?_,fun w ok a5 bd=>NY v⟩
    exact List.all_eq_true.1 nA v (List.mem_of_getElem? bh)
   ·simp at cv
theorem ZO {t:TypeId}(h:cL g s ay a w)(eU:s.aW aV=none)(ap:I.op = .alloc t)(aw:eR P s.E s.aW aV I cM=some bC):Fin P g s a w I bC:=by
 simp only [eR,ap] at aw
 split at aw
 ·rename_i z cv
  obtain ⟨i,eE,aq,kX,e,jW⟩:=z0 cv
  simp only [Option.some.injEq] at aw
  subst aw
  refine DG (v:= .pointer (some ⟨w.heap.size,0,none⟩)) (c:=eE.cells) (eH:=t) (ao:=⟨z.length,[z],.live⟩) h eU rfl ?_ rfl (by simp) ?_ ?_
  ·simp [execOp,ap,Instr.alloc,zeroValue,typeInfo,aq,kX,newVar,newRow]
  ·intro j x U
   simp only [List.flatten_cons,List.flatten_nil,List.append_nil] at U
   obtain ⟨v,h1,o,ab⟩:=jW j x U
   exact ⟨v,h1,o,ab _ _ _ _⟩
  ·intro bN kN mO l6 hu ch
   have:=Rel.ref (w:=bN) (ok:=kN) (i:=0) (off:=0) hu ch
   simpa using this
 ·simp at aw
theorem abe {t:TypeId}{x:Operand}(h:cL g s ay a w)(eU:s.aW aV=none)(ap:I.op = .box t x)(aw:eR P s.E s.aW aV I cM=some bC):Fin P g s a w I bC:=by
 simp only [eR,ap] at aw
 have U:=h.eval x
 have key : ∀ao:ae,ao.cp = .live→ao.es=[(fe s.E x).cells]→ao.sz=(fe s.E x).cells.length→((fe s.E x).one=true∨ ∃c,fe s.E x = .agg c) →
  bC.fJ=[(aV,[ao])]→bC.val = .ref aV 0 0 0→Fin P g s a w I bC:=by
  intro ao a8 hl eY lL hu bh
  obtain ⟨vs,e1,aD,bS,da⟩:=U.cellsOf lL
  refine DG (v:= .pointer (some ⟨w.heap.size,0,none⟩)) (c:=(a.eval x).cells) (eH:=t) h eU a8 ?_ hu ?_ ?_ ?_
  ·simp [execOp,ap,Instr.box,newVar,newRow]
  ·intro e he;rw [hl] at he;simp at he;rw [he,eY]
  ·intro j y a3
   rw [hl] at a3
   simp only [List.flatten_cons,List.flatten_nil,List.append_nil] at a3
   have aF:j<vs.length:=by
    rcases Nat.lt_or_ge j (fe s.E x).cells.length with cD|cD
    ·omega
    ·rw [List.getElem?_eq_none cD] at a3;simp at a3
   refine ⟨vs[j],by rw [e1];simp [aF],bS j _ (List.getElem?_eq_getElem aF),da j y _ a3 (List.getElem?_eq_getElem aF)⟩
  ·intro bN kN mO l6 n9 ch
   have:=Rel.ref (w:=bN) (ok:=kN) (i:=0) (off:=0) n9 ch
   rw [bh];simpa using this
 split at aw
 ·rename_i c bf
  simp only [Option.some.injEq] at aw
  subst aw
  exact key _ rfl (by rw [bf];rfl) (by rw [bf];rfl) (.inr ⟨c,bf⟩) rfl rfl
 ·split at aw
  ·rename_i lL
   simp only [Option.some.injEq] at aw
   subst aw
   have e:(fe s.E x).cells=[fe s.E x]:=by
    generalize fe s.E x=y at lL
    cases y<;>first|rfl|simp [aB.one] at lL
   exact key _ rfl (by rw [e]) (by rw [e];rfl) (.inl lL) rfl rfl
  ·simp at aw
theorem iu {s:S}{ay:fm}{r k:Nat}{ao:ae}(h:s.ao r k=some ao):s.bd ay r k=some (ao.sz,ay r k):=by simp [S.bd,h]
theorem sY {row:Option (List ae)}{k:Nat}{ao:ae}{af:List Prop}(h:oI row k cM=some (ao,af))(cz:∀p∈af,p):dh row k=some ao:=by
 unfold oI at h
 split at h
 ·split at h
  ·simp at h;obtain ⟨rfl,rfl⟩:=h;exact cz _ (by simp)
  ·simp at h
 ·split at h
  ·rename_i cD;simp at h;obtain ⟨rfl,rfl⟩:=h;exact cD
  ·simp at h
theorem z8 {es:List (List aB)}{i:Nat}{c:List aB}{af:List Prop}(h:elemAt es i cM=some (c,af))(cz:∀p∈af,p):es[i]? = some c:=by
 unfold elemAt at h
 split at h
 ·simp at h;obtain ⟨rfl,rfl⟩:=h;exact cz _ (by simp)
 ·simp at h;obtain ⟨rfl,rfl⟩:=h;exact cz _ (by simp)
 ·split at h
  ·rename_i cD;simp at h;obtain ⟨rfl,rfl⟩:=h;exact cD
  ·simp at h
theorem aaJ {t:TypeId}{x:Operand}(h:cL g s ay a w)(ap:I.op = .load t x)(aw:eR P s.E s.aW aV I cM=some bC)(cz:∀p∈bC.fu,p):Fin P g s a w I bC:=by
 simp only [eR,ap] at aw
 have U:=h.eval x
 split at aw
 ·rename_i r k i off gM
  rw [gM] at U
  split at aw
  ·rename_i ao af bo
   split at aw
   ·rename_i c aU ng
    split at aw
    ·rename_i v bh
     simp only [Option.some.injEq] at aw
     subst aw
     have j9:s.ao r k=some ao:=sY bo fun p ak=>cz p (by simp [ak])
     have qF:=z8 ng fun p ak=>cz p (by simp [ak])
     have fs:=h.obj r k ao j9
     rcases U.xE (iu j9) with h0|⟨b,m,ak,hval⟩
     ·rw [h0] at fs
      simp only [jb] at fs
      rw [fs] at qF;simp at qF
     ·rw [ak] at fs
      obtain ⟨u,h1,o⟩:=JB (P:=P) fs.rd qF bh
      refine ir (v:=u) h ?_ rfl o
      rw [Nat.zero_add] at h1
      simp [execOp,ap,hval,h1]
    ·simp at aw
   ·simp at aw
  ·simp at aw
 ·rename_i sz es i off gM
  rw [gM] at U
  split at aw
  ·rename_i c aU ng
   split at aw
   ·rename_i v bh
    simp only [Option.some.injEq] at aw
    subst aw
    have qF:=z8 ng fun p ak=>cz p (by simp [ak])
    obtain ⟨d3,b6,aS,hval,ic⟩:=U.xF
    obtain ⟨u,h1,o⟩:=JB (P:=P) ic qF bh
    refine ir (v:=u) h ?_ rfl o
    simp [execOp,ap,hval,h1]
   ·simp at aw
  ·simp at aw
 ·simp at aw
end
end Go.VL
namespace Go.VL
set_option linter.unusedVariables false
set_option linter.unusedSimpArgs false
open Go
section
variable {P:Program} {g:G} {s:S} {ay:fm} {a:Act} {w:World} {I:Oper} {cM:fx} {aV:Nat} {bC:h2}
theorem OL (h:cL g s ay a w){r k i off:Nat}{row:List ae}{ao:ae}{c:List aB}{t:TypeId}{x y:Operand}(ap:I.op = .store t x y)
 (gM:fe s.E x = .ref r k i off) (dx:s.aW r=some row) (bo:s.ao r k=some ao) (a8:ao.cp = .live) (ng:ao.es[i]? = some c)
 (lL:(fe s.E y).one=true∨ ∃c,fe s.E y = .agg c) (eY:(fe s.E y).cells.length=P.cellsOf t) (Le:(P.info? t).isSome=true)
 (h9:off+(fe s.E y).cells.length≤c.length) (aw:bC.val = .dead) (hu:bC.fJ=[(r,row.set k {ao with es:=ao.es.set i (setCells c off (fe s.E y).cells)})]):Fin P g s a w I bC:=by
 have U:=h.eval x
 rw [gM] at U
 have fs:=h.obj r k ao bo
 rcases U.xE (iu bo) with h0|⟨b,m,ak,hval⟩
 ·rw [h0] at fs;simp only [jb] at fs;rw [fs] at ng;simp at ng
 ·obtain ⟨bN,h1,o⟩:=X4 (P:=P) h dx bo a8 ak ng Le (h.eval y) lL eY h9
  refine ⟨undef,bN,ay,.inr ⟨?_,rfl⟩,by rw [hu];exact o,by rw [aw];exact .dead _⟩
  simp [execOp,ap,hval,h1]
theorem ZP {t:TypeId}{x y:Operand}(h:cL g s ay a w)(ap:I.op = .store t x y)(aw:eR P s.E s.aW aV I cM=some bC)(cz:∀p∈bC.fu,p):Fin P g s a w I bC:=by
 simp only [eR,ap] at aw
 split at aw
 ·rename_i r k i off gM
  split at aw
  ·simp at aw
  ·rename_i row dx
   split at aw
   ·rename_i ao af ab7
    split at aw
    ·simp at aw
    ·rename_i a8
     have a8:ao.cp = .live:=by simpa using a8
     split at aw
     ·simp at aw
     ·rename_i lL
      have lL:=aB.NZ (by simpa using lL)
      split at aw
      ·simp at aw
      ·rename_i eY
       simp only [not_or,Decidable.not_not,Bool.not_eq_false] at eY
       have j9:(∀p∈af,p)→s.ao r k=some ao:=fun bF=>by
        have:=sY ab7 bF
        unfold S.ao;rw [dx];exact this
       split at aw
       ·split at aw
        ·rename_i x6
         simp only [Option.some.injEq] at aw
         subst aw;subst x6
         have dG:i<ao.es.length:=cz _ (by simp)
         have iw:(fe s.E y).cells.length=ao.sz:=cz _ (by simp)
         have AW:=j9 fun p ak=>cz p (by simp [ak])
         have hlen:(ao.es[i]).length=ao.sz:=by
          have fs:=h.obj r k ao AW
          cases ak:ay r k with
          | none=>rw [ak] at fs;simp only [jb] at fs;rw [fs] at dG;simp at dG
          | some q =>
           rw [ak] at fs
           obtain ⟨_,_,_,_,ab,_⟩:=fs
           exact ab _ (List.getElem_mem dG)
         refine OL h ap gM dx AW a8 (c:=ao.es[i]) (List.getElem?_eq_getElem dG) lL eY.1 eY.2 (by omega) rfl ?_
         have e:setCells ao.es[i] 0 (fe s.E y).cells=(fe s.E y).cells:=by
          simp [setCells,hlen,iw]
         rw [e]
        ·simp at aw
       ·split at aw
        ·rename_i c aU ng
         split at aw
         ·rename_i h9
          simp only [Option.some.injEq] at aw
          subst aw
          exact OL h ap gM dx (j9 fun p ak=>cz p (by simp [ak])) a8 (z8 ng fun p ak=>cz p (by simp [ak])) lL eY.1 eY.2 h9 rfl rfl
         ·simp at aw
        ·simp at aw
   ·simp at aw
 ·simp at aw
theorem X5 {x:Operand}(h:cL g s ay a w)(ap:I.op = .nilCheck x)(aw:eR P s.E s.aW aV I cM=some bC)(cz:∀p∈bC.fu,p):Fin P g s a w I bC:=by
 simp only [eR,ap] at aw
 have U:=h.eval x
 split at aw
 ·rename_i r k i off gM
  rw [gM] at U
  split at aw
  ·rename_i ao af bo
   split at aw
   ·rename_i c aU ng
    simp only [Option.some.injEq] at aw
    subst aw
    have j9:s.ao r k=some ao:=sY bo fun p ak=>cz p (by simp [ak])
    have qF:=z8 ng fun p ak=>cz p (by simp [ak])
    have fs:=h.obj r k ao j9
    rcases U.xE (iu j9) with h0|⟨b,m,ak,hval⟩
    ·rw [h0] at fs;simp only [jb] at fs;rw [fs] at qF;simp at qF
    ·refine ir (v:=a.eval x) h ?_ rfl U
     simp [execOp,ap,hval]
   ·simp at aw
  ·simp at aw
 ·rename_i sz es i off gM
  rw [gM] at U
  simp only [Option.some.injEq] at aw
  subst aw
  obtain ⟨d3,b6,aS,hval,ic⟩:=U.xF
  refine ir (v:=a.eval x) h ?_ rfl U
  simp [execOp,ap,hval]
 ·rename_i f c gM
  rw [gM] at U
  simp only [Option.some.injEq] at aw
  subst aw
  obtain ⟨vs,hval,-⟩:=U.DO
  refine ir (v:=a.eval x) h ?_ rfl U
  simp [execOp,ap,hval]
 ·simp at aw
theorem Y7 {op:BinOp}{t:TypeId}{x y z:aB}{ao:List Prop}(aw:KP op x y=some (z,ao))(cz:∀p∈ao,p)
 {ok:Nat→Prop} {a5:i2} {bd:iR} {kY kZ:Value} (U:Rel w ok a5 bd x kY) (a3:Rel w ok a5 bd y kZ) (p q:Operand) :
 ∃v,((do eqGuard op t p q kY kZ;binOp op t kY kZ):Sem Value).run P w = .ok v w∧Rel w ok a5 bd z v:=by
 unfold KP at aw
 split at aw
 ·rename_i k n d8 nn
  have hL:=U.o3;have iS:=a3.o3
  subst hL;subst iS
  have dH : ∀op,eqGuard op t p q (.int k n) (.int d8 nn)=pure ():=fun op=>eqGuard_at_int ..
  simp only [Sem.run_bind,dH,Sem.run_pure,Result.andThen_ok]
  split at aw
  ·simp only [Option.some.injEq,Prod.mk.injEq] at aw
   obtain ⟨rfl,rfl⟩:=aw
   have h0:0≤nn:=cz _ (by simp)
   exact ⟨_,by simp [binOp,Op.shift,show ¬nn<0 by omega],.n _ _⟩
  ·simp only [Option.some.injEq,Prod.mk.injEq] at aw
   obtain ⟨rfl,rfl⟩:=aw
   have h0:0≤nn:=cz _ (by simp)
   exact ⟨_,by simp [binOp,Op.shift,show ¬nn<0 by omega],.n _ _⟩
  ·split at aw
   ·simp at aw
   ·rename_i a8
    have a8:k=d8:=by simpa using a8
    subst a8
    split at aw<;>simp only [Option.some.injEq,Prod.mk.injEq,reduceCtorEq] at aw
    all_goals (obtain ⟨rfl,rfl⟩:=aw)
    case h_4|h_5 =>
     have h0:nn≠0:=cz _ (by simp)
     exact ⟨_,by simp [binOp,Op.intDiv,h0],.n _ _⟩
    all_goals first
     | (refine ⟨_,?_,.n _ _⟩;rw [binOp_add];rfl)
     | (refine ⟨_,?_,.n _ _⟩;rw [binOp_sub];rfl)
     | (refine ⟨_,?_,.n _ _⟩;rw [binOp_mul];rfl)
     | (refine ⟨_,?_,.n _ _⟩;rw [binOp_and];rfl)
     | (refine ⟨_,?_,.n _ _⟩;rw [binOp_or];rfl)
     | (refine ⟨_,?_,.n _ _⟩;rw [binOp_xor];rfl)
     | (refine ⟨_,?_,.b _⟩;simp [binOp,Op.intCmp];done)
 ·rename_i cG lV
  have hL:=U.xV;have iS:=a3.xV
  subst hL;subst iS
  have dH : ∀op,eqGuard op t p q (.string cG) (.string lV)=pure ():=fun op=>eqGuard_at_string ..
  simp only [Sem.run_bind,dH,Sem.run_pure,Result.andThen_ok]
  split at aw<;>simp only [Option.some.injEq,Prod.mk.injEq,reduceCtorEq] at aw
  all_goals (obtain ⟨rfl,rfl⟩:=aw)
  ·have h0:cG.size+lV.size<9223372036854775808:=cz _ (by simp)
   refine ⟨_,?_,.s _⟩
   have h1 : ¬((cG.size+lV.size:Nat):Int)>IntKind.i64.max:=by rw [IntKind.max_i64];omega
   rw [IntKind.max_i64] at h1
   simp [binOp,Op.stringOp]
   omega
  ·exact ⟨_,by simp [binOp,Op.stringOp],.b _⟩
  ·exact ⟨_,by simp [binOp,Op.stringOp],.b _⟩
 ·simp at aw
theorem us (t:TypeId)(x y:Value):Op.equal t x y=Op.equalIn (9999+1) t x y:=rfl
theorem zI {t:TypeId}{a b:Bool}(d:Nat)(bJ:P.underlying t=some .bool):(Op.equalIn (d+1) t (.bool a) (.bool b)).run P w = .ok (a == b) w:=by
 unfold Op.equalIn;simp [run_underlying bJ]
theorem z1 {t e:TypeId}(d:Nat)(bJ:P.underlying t=some (.pointer e)):(Op.equalIn (d+1) t (.pointer none) (.pointer none)).run P w = .ok true w:=by
 unfold Op.equalIn;simp [run_underlying bJ]
theorem z2 {t e:TypeId}{a:Addr}(d:Nat)(bJ:P.underlying t=some (.pointer e)):(Op.equalIn (d+1) t (.pointer (some a)) (.pointer none)).run P w = .ok false w:=by
 unfold Op.equalIn;simp [run_underlying bJ]
theorem z3 {t e:TypeId}{a:Addr}(d:Nat)(bJ:P.underlying t=some (.pointer e)):(Op.equalIn (d+1) t (.pointer none) (.pointer (some a))).run P w = .ok false w:=by
 unfold Op.equalIn;simp [run_underlying bJ]
theorem z4 {t e:TypeId}(d:Nat)(bJ:P.underlying t=some (.slice e)):(Op.equalIn (d+1) t (.slice none 0 0) (.slice none 0 0)).run P w = .ok true w:=by
 unfold Op.equalIn;simp [run_underlying bJ]
theorem Of {t e:TypeId}{a:Addr}{c:Nat}(d:Nat)(bJ:P.underlying t=some (.slice e))(n:Nat):(Op.equalIn (d+1) t (.slice (some a) n c) (.slice none 0 0)).run P w = .ok false w:=by
 unfold Op.equalIn;simp [run_underlying bJ]
theorem xy {t:TypeId}{x y:aB}{r:Bool}(aw:rq P t x y=some r)
 {ok:Nat→Prop} {a5:i2} {bd:iR} {kY kZ:Value} (U:Rel w ok a5 bd x kY) (a3:Rel w ok a5 bd y kZ) (p q:Operand) :
 ((do eqGuard .eql t p q kY kZ;binOp .eql t kY kZ):Sem Value).run P w = .ok (.bool r) w ∧
 ((do eqGuard .neq t p q kY kZ;binOp .neq t kY kZ):Sem Value).run P w = .ok (.bool !r) w:=by
 have key : ∀b:Bool,(∀op,eqGuard op t p q kY kZ=pure ())→binOp .eql t kY kZ=(do pure (.bool (← Op.equal t kY kZ)))→binOp .neq t kY kZ=(do pure (.bool (!(← Op.equal t kY kZ)))) →
  (Op.equal t kY kZ).run P w = .ok b w→((do eqGuard .eql t p q kY kZ;binOp .eql t kY kZ):Sem Value).run P w = .ok (.bool b) w ∧
  ((do eqGuard .neq t p q kY kZ;binOp .neq t kY kZ):Sem Value).run P w = .ok (.bool !b) w:=by
  intro b dH h1 o ab
  constructor
  ·rw [dH,h1];simp [ab]
  ·rw [dH,o];simp [ab]
 unfold rq at aw
 split at aw
 ·rename_i cG lV bJ
  simp only [Option.some.injEq] at aw;subst aw
  have hL:=U.s7;have iS:=a3.s7
  subst hL;subst iS
  exact key _ (fun op=>eqGuard_at_bool ..) rfl rfl (by rw [us];first|exact zI _ bJ|exact z1 _ bJ|exact z2 _ bJ|exact z3 _ bJ|exact z4 _ bJ)
 ·rename_i e bJ
  simp only [Option.some.injEq] at aw;subst aw
  have hL:=U.uy;have iS:=a3.uy
  subst hL;subst iS
  exact key _ (fun op=>eqGuard_at_pointer ..) rfl rfl (by rw [us];first|exact zI _ bJ|exact z1 _ bJ|exact z2 _ bJ|exact z3 _ bJ|exact z4 _ bJ)
 ·rename_i e sz es i off bJ
  simp only [Option.some.injEq] at aw;subst aw
  obtain ⟨d3,b6,-,hL,-⟩:=U.xF
  have iS:=a3.uy
  subst hL;subst iS
  exact key _ (fun op=>eqGuard_at_pointer ..) rfl rfl (by rw [us];first|exact zI _ bJ|exact z1 _ bJ|exact z2 _ bJ|exact z3 _ bJ|exact z4 _ bJ)
 ·rename_i e sz es i off bJ
  simp only [Option.some.injEq] at aw;subst aw
  obtain ⟨d3,b6,-,iS,-⟩:=a3.xF
  have hL:=U.uy
  subst hL;subst iS
  exact key _ (fun op=>eqGuard_at_pointer ..) rfl rfl (by rw [us];first|exact zI _ bJ|exact z1 _ bJ|exact z2 _ bJ|exact z3 _ bJ|exact z4 _ bJ)
 ·rename_i e bJ
  simp only [Option.some.injEq] at aw;subst aw
  have hL:=U.pg;have iS:=a3.pg
  subst hL;subst iS
  exact key _ (fun op=>eqGuard_at_slice ..) rfl rfl (by rw [us];first|exact zI _ bJ|exact z1 _ bJ|exact z2 _ bJ|exact z3 _ bJ|exact z4 _ bJ)
 ·rename_i e bJ
  simp only [Option.some.injEq] at aw;subst aw
  obtain ⟨vm,c,hL⟩:=U.DF
  have iS:=a3.pg
  subst hL;subst iS
  exact key _ (fun op=>eqGuard_at_slice ..) rfl rfl (by rw [us];exact Of _ bJ 0)
 ·simp at aw
theorem Qh {t e:TypeId}(bJ:P.underlying t=some (.slice e)){sz:Nat}{es:List (List aB)}(dr:es≠[])
 {ok:Nat→Prop} {a5:i2} {bd:iR} {kY kZ:Value} (U:Rel w ok a5 bd (.isl sz es) kY) (a3:Rel w ok a5 bd .eo kZ) (p q:Operand) :
 ((do eqGuard .eql t p q kY kZ;binOp .eql t kY kZ):Sem Value).run P w = .ok (.bool false) w ∧
 ((do eqGuard .neq t p q kY kZ;binOp .neq t kY kZ):Sem Value).run P w = .ok (.bool true) w:=by
 rcases U.rU with ⟨h0,-⟩|⟨d3,off,c,-,hL,-⟩
 ·exact absurd h0 dr
 ·have iS:=a3.pg
  subst hL;subst iS
  have ab:(Op.equal t (.slice (some ⟨d3,off,none⟩) es.length c) (.slice none 0 0)).run P w = .ok false w:=by rw [us];exact Of _ bJ _
  have dH : ∀op,eqGuard op t p q (.slice (some ⟨d3,off,none⟩) es.length c) (.slice none 0 0)=pure ():=fun op=>eqGuard_at_slice ..
  have h1:binOp .eql t (.slice (some ⟨d3,off,none⟩) es.length c) (.slice none 0 0)=(do pure (.bool (← Op.equal t (.slice (some ⟨d3,off,none⟩) es.length c) (.slice none 0 0)))):=rfl
  have o:binOp .neq t (.slice (some ⟨d3,off,none⟩) es.length c) (.slice none 0 0)=(do pure (.bool (!(← Op.equal t (.slice (some ⟨d3,off,none⟩) es.length c) (.slice none 0 0))))):=rfl
  constructor
  ·rw [dH,h1];simp [ab]
  ·rw [dH,o];simp [ab]
theorem ZQ {op:BinOp}{t db:TypeId}{x y:Operand}(h:cL g s ay a w)(ap:I.op = .binOp op t x y db)(aw:eR P s.E s.aW aV I cM=some bC)(cz:∀p∈bC.fu,p):Fin P g s a w I bC:=by
 simp only [eR,ap] at aw
 have U:=h.eval x
 have a3:=h.eval y
 split at aw
 ·rename_i v ao aS
  simp only [Option.some.injEq] at aw
  subst aw
  obtain ⟨u,h1,o⟩:=Y7 (P:=P) (t:=t) aS cz U a3 x y
  refine ir (v:=u) h ?_ rfl o
  simp only [execOp,ap]
  rw [Sem.run_bind,h1];rfl
 ·split at aw
  ·cases he:rq P t (fe s.E x) (fe s.E y) with
   | none=>simp [he] at aw
   | some r =>
    simp [he] at aw;subst aw
    refine ir (v:= .bool r) h ?_ rfl (.b r)
    simp only [execOp,ap]
    rw [Sem.run_bind,(xy (w:=w) he U a3 x y).1];rfl
  ·cases he:rq P t (fe s.E x) (fe s.E y) with
   | none=>simp [he] at aw
   | some r =>
    simp [he] at aw;subst aw
    refine ir (v:= .bool !r) h ?_ rfl (.b _)
    simp only [execOp,ap]
    rw [Sem.run_bind,(xy (w:=w) he U a3 x y).2];rfl
  ·simp at aw
theorem aaK {op:UnOp}{t:TypeId}{x:Operand}(h:cL g s ay a w)(ap:I.op = .unOp op t x)(aw:eR P s.E s.aW aV I cM=some bC):Fin P g s a w I bC:=by
 simp only [eR,ap] at aw
 have U:=h.eval x
 cases he:Lc op (fe s.E x) with
 | none=>simp [he] at aw
 | some v =>
  simp [he] at aw;subst aw
  unfold Lc at he
  split at he
  ·rename_i k n gM
   rw [gM] at U
   simp only [Option.some.injEq] at he;subst he
   refine ir (v:= .int k (k.wrap (0-n))) h ?_ rfl (.n _ _)
   simp [execOp,ap,U.o3,Op.unary,Op.intArith]
  ·rename_i b gM
   rw [gM] at U
   simp only [Option.some.injEq] at he;subst he
   refine ir (v:= .bool !b) h ?_ rfl (.b _)
   simp [execOp,ap,U.s7,Op.unary]
  ·simp at he
theorem Yu {t db:TypeId}{x:Operand}(h:cL g s ay a w)(ap:I.op = .convert t db x)(aw:eR P s.E s.aW aV I cM=some bC):Fin P g s a w I bC:=by
 simp only [eR,ap] at aw
 have U:=h.eval x
 split at aw
 ·rename_i k d8 n bJ gM
  rw [gM] at U
  split at aw
  case isFalse=>simp at aw
  rename_i b0
  simp only [Option.some.injEq] at aw
  subst aw
  refine ir (v:= .int k (k.wrap n)) h ?_ rfl (.n _ _)
  cases Rt:P.underlying t with
  | none=>simp [Rt] at b0
  | some d=>simp [execOp,ap,U.o3,convert,run_underlying bJ,run_underlying Rt,Conv.intToInt]
 ·rename_i r k bV len bJ gM
  rw [gM] at U
  split at aw
  ·rename_i ao D5 bo
   split at aw
   ·rename_i nm Bl
    split at aw
    ·rename_i bf
     simp only [Option.some.injEq] at aw
     subst aw
     obtain ⟨e,b0,he⟩ : ∃e,P.underlying t=some (.slice e)∧P.underlying e=some (.int .u8):=by
      unfold po at D5
      split at D5
      ·rename_i e b0;exact ⟨e,b0,D5⟩
      ·simp at D5
     have dO:s.ao r k=some ao:=bo
     have fs:=h.obj r k ao dO
     have hzero : ∀(k0:Option Addr) (c:Nat),len=0→(convert t db (.slice k0 0 c)).run P w = .ok (.string (x5 nm)) w:=by
      intro k0 c h0
      subst h0
      have:nm=[]:=by simpa [bytesOf] using Bl
      subst this
      cases k0 with
      | none=>rw [run_convert_bytes_string w t db e none 0 c b0 he bJ];simp [Conv.bytesToString,x5]
      | some k0 =>
       rw [run_convert_bytes_string w t db e (some k0) 0 c b0 he bJ,run_bytesToString w k0 0 c [] (by
        have:=run_loadCells_list (P:=P) w k0 [] (fun j v aF=>by simp at aF)
        simpa using this)]
       rfl
     rcases U.Ai (iu dO) with ⟨ak,rfl,rfl,hval⟩|⟨b,m,A,c,ak,hval,qK,sj,hm⟩
     ·refine ir (v:= .string (x5 nm)) h ?_ rfl (.s _)
      simp [execOp,ap,hval,hzero none 0 rfl]
     ·refine ir (v:= .string (x5 nm)) h ?_ rfl (.s _)
      by_cases h0:len=0
      ·subst h0;simp [execOp,ap,hval,hzero A c rfl]
      ·rcases hm with hm|⟨hA,hm⟩
       ·omega
       ·subst hA
        rw [ak] at fs
        have ic:=fs.rd
        have ye : ∀(es:List (List aB)) (nm:List Int),bytesOf es=some nm→es.length=nm.length∧ ∀(i:Nat) n,nm[i]? = some n→es[i]? = some [.n .u8 n]:=by
         intro es
         induction es with
         | nil=>intro nm h;simp [bytesOf] at h;subst h;exact ⟨rfl,fun i n aq=>by simp at aq⟩
         | cons x es ih =>
          intro nm h
          unfold bytesOf at h
          split at h
          ·simp at *
          ·rename_i lk afC yf
           simp only [List.cons.injEq] at yf
           obtain ⟨rfl,rfl⟩:=yf
           rw [Option.map_eq_some_iff] at h
           obtain ⟨d6,Eg,rfl⟩:=h
           obtain ⟨e1,aD⟩:=ih d6 Eg
           refine ⟨by simp [e1],fun i n aq=> ?_⟩
           cases i with
           | zero=>simp at aq;subst aq;rfl
           | succ i=>simpa using aD i n (by simpa using aq)
          ·simp at h
        obtain ⟨e1,aD⟩:=ye _ _ Bl
        have hlen:nm.length=len:=by rw [← e1];simp;omega
        have abK:(loadCells ⟨b,bV*ao.sz,none⟩ len).run P w = .ok (nm.map (Value.int .u8)).toArray w:=by
         have:=run_loadCells_list (P:=P) w ⟨b,bV*ao.sz,none⟩ (nm.map (Value.int .u8)) (fun j v aF=>by
          rw [List.getElem?_map,Option.map_eq_some_iff] at aF
          obtain ⟨n,a4,rfl⟩:=aF
          have lQ:=aD j n a4
          have uZ:j<len:=by rw [← hlen];exact (List.getElem?_eq_some_iff.1 a4).1
          rw [List.getElem?_take_of_lt uZ,List.getElem?_drop] at lQ
          obtain ⟨v,v1,v2,v3⟩:=ic.2 ((bV+j)*ao.sz+0) (.n .u8 n) (by rw [zZ ic.1 lQ (by omega)];rfl)
          have bh:=v3.o3
          subst bh
          rw [rc,← v1,bf.2]
          congr 2
          omega)
         rw [List.length_map,hlen] at this
         exact this
        have o:=run_bytesToString w ⟨b,bV*ao.sz,none⟩ len c nm abK
        rw [← run_convert_bytes_string w t db e _ len c b0 he bJ] at o
        simp [execOp,ap,hval,o,x5]
    ·simp at aw
   ·simp at aw
  ·simp at aw
 ·simp at aw
theorem X6 {f:Fn}{B5 cm:Array Operand}(h:cL g s ay a w)(ap:I.op = .makeFunc f B5 cm)(aw:eR P s.E s.aW aV I cM=some bC):Fin P g s a w I bC:=by
 cases f with
 | func n =>
  simp only [eR,ap] at aw
  split at aw
  ·rename_i acP
   simp only [Option.some.injEq] at aw;subst aw
   refine ir (v:= .func (.func n) #[] (cm.map a.eval)) h ?_ rfl ?_
   ·have:B5 = #[]:=by simpa using acP
    subst this
    simp [execOp,ap,Instr.makeFunc]
   ·have:=Rel.fn (f:=n) (c:=cm.toList.map (fe s.E)) (w:=w) (ok:=s.ok g ay w) (a5:=s.a5) (bd:=s.bd ay) (cm.toList.map a.eval) (by simp) (by
     intro j x v U bh
     rw [List.getElem?_map,Option.map_eq_some_iff] at U bh
     obtain ⟨p,ak,rfl⟩:=U
     obtain ⟨q,bc,rfl⟩:=bh
     rw [ak] at bc;simp at bc;subst bc
     exact h.eval p)
    have e:(cm.toList.map a.eval).toArray=cm.map a.eval:=by apply Array.ext';rw [Array.toList_map]
    rw [e] at this
    exact this
  ·simp at aw
 | _=>simp [eR,ap] at aw
theorem Yv {i:Nat}{x:Operand}(h:cL g s ay a w)(ap:I.op = .extract x i)(aw:eR P s.E s.aW aV I cM=some bC):Fin P g s a w I bC:=by
 simp only [eR,ap] at aw
 have U:=h.eval x
 split at aw
 ·rename_i vs gM
  rw [gM] at U
  cases aq:vs[i]? with
  | none=>simp [aq] at aw
  | some v =>
   simp [aq] at aw;subst aw
   obtain ⟨a5,hval,aT,ar⟩:=U.xD
   have dG:i<a5.length:=by
    rcases Nat.lt_or_ge i vs.length with cD|cD
    ·omega
    ·rw [List.getElem?_eq_none cD] at aq;simp at aq
   have hu:a5[i]? = some a5[i]:=List.getElem?_eq_getElem dG
   refine ir (v:=a5[i]) h ?_ rfl (ar i v _ aq hu)
   simp [execOp,ap,hval,Instr.extract,hu]
 ·simp at aw
end
end Go.VL
namespace Go.VL
set_option linter.unusedVariables false
set_option linter.unusedSimpArgs false
open Go
section
variable {P:Program} {g:G} {s:S} {ay:fm} {a:Act} {w:World} {I:Oper} {cM:fx} {aV:Nat} {bC:h2}
theorem re {t e:TypeId}(h:po P t=some e):P.underlying t=some (.slice e):=by
 unfold po at h
 split at h
 ·rename_i eN he;simp at h;subst h;exact he
 ·simp at h
theorem Ju {t:TypeId}{kE:Array Field}(h:fieldsOf P t=some kE):P.underlying t=some (.struct kE):=by
 unfold fieldsOf at h
 split at h
 ·rename_i eN he;simp at h;subst h;exact he
 ·simp at h
theorem NL : ∀(z c:List aB),(qv z c).length=z.length
 | x::z,y::c=>by simp [qv,NL z c]
 | [],_=>by simp [qv]
 | _::_,[]=>by simp [qv]
theorem XM (z:List aB)(cM:fx):(r3 z cM).length=z.length:=by
 unfold r3
 split
 ·exact NL z _
 ·rfl
theorem Yw (x y:aB){w:World}{ok:Nat→Prop}{a5:i2}{bd:iR}{v:Value}(h:Rel w ok a5 bd x v):Rel w ok a5 bd (As x y) v:=by
 unfold As
 split
 ·rw [h.pg];exact .jY _ _ _ (fun _=>rfl)
 ·rw [h.uy];exact .o5 _
 ·rw [h.pg];exact .mJ (.jY _ _ _ (fun _=>rfl))
 ·exact h
theorem OM : ∀(z c:List aB) (j:Nat) q,(qv z c)[j]? = some q→ ∃x,z[j]? = some x∧(q=x∨ ∃y,q=As x y)
 | x::z,y::c,0,q,h=>by simp [qv] at h;exact ⟨x,rfl,.inr ⟨y,h.symm⟩⟩
 | x::z,y::c,j+1,q,h=>by
  simp only [qv,List.getElem?_cons_succ] at h
  simpa using OM z c j q h
 | [],c,j,q,h=>by simp [qv] at h
 | x::z,[],j,q,h=>⟨q,by simpa [qv] using h,.inl rfl⟩
theorem ZR (z:List aB)(cM:fx)(j:Nat)(q:aB)(h:(r3 z cM)[j]? = some q): ∃x,z[j]? = some x∧(q=x∨ ∃y,q=As x y):=by
 unfold r3 at h
 split at h
 ·exact OM z _ j q h
 ·exact ⟨q,h,.inl rfl⟩
theorem XN {t:TypeId}{x y:Operand}(h:cL g s ay a w)(eU:s.aW aV=none)(ap:I.op = .makeSlice t x y)(aw:eR P s.E s.aW aV I cM=some bC)(cz:∀p∈bC.fu,p):Fin P g s a w I bC:=by
 simp only [eR,ap] at aw
 have U:=h.eval x
 have a3:=h.eval y
 split at aw
 ·rename_i e mX l ll c he ab8 ab9
  rw [ab8] at U;rw [ab9] at a3
  split at aw
  ·rename_i i z aq cv
   obtain ⟨eF,eE,kB,kX,pE,Qi⟩:=z0 cv
   rw [aq] at kB;simp at kB;subst kB
   simp only [Option.ite_none_right_eq_some,Option.some.injEq] at aw
   obtain ⟨eY,aw⟩:=aw
   subst aw
   have ng:=XM z cM
   have jW : ∀(j:Nat) q,(r3 z cM)[j]? = some q→ ∃v,eE.cells[j]? = some v∧VL.j7 v=true∧ ∀w ok a5 bd,Rel w ok a5 bd q v:=by
    intro j q bc
    obtain ⟨x,dC,nh⟩:=ZR z cM j q bc
    obtain ⟨v,v1,v2,v3⟩:=Qi j x dC
    refine ⟨v,v1,v2,fun w ok a5 bd=> ?_⟩
    rcases nh with rfl|⟨y,rfl⟩
    ·exact v3 w ok a5 bd
    ·exact Yw x y (v3 w ok a5 bd)
   clear Qi
   have h0:0≤l:=cz _ (by simp)
   have h1:l≤c:=cz _ (by simp)
   have o:(i.bytes:Int)*c≤281474976710656:=cz _ (by simp)
   have ab:c<9223372036854775808:=cz _ (by simp)
   have ni:z.length=eE.cells.size:=by rw [pE];simp
   have iN:=run_make (P:=P) w t e i eE (re he) aq kX mX ll l c h0 h1 o (by omega)
   refine DG (v:= .slice (some ⟨w.heap.size,0,none⟩) l.toNat c.toNat) (ao:=⟨z.length,List.replicate l.toNat (r3 z cM),.live⟩) (c:=madeCells eE.cells (c.toNat*i.size)) (eH:=e) h eU rfl ?_ rfl ?_ ?_ ?_
   ·simp [execOp,ap,U.o3,a3.o3,iN]
   ·intro eN lO;rw [List.eq_of_mem_replicate lO];exact ng
   ·intro j q bc
    have aT : ∀eN∈List.replicate l.toNat (r3 z cM),eN.length=z.length:=fun eN lO=>by rw [List.eq_of_mem_replicate lO];exact ng
    rcases Nat.eq_zero_or_pos z.length with qL|Eh
    ·have:r3 z cM=[]:=List.length_eq_zero_iff.1 (by omega)
     rw [this] at bc
     simp at bc
    ·rw [oY Eh _ aT,List.getElem?_replicate] at bc
     by_cases aF:j / z.length<l.toNat
     ·rw [if_pos aF] at bc
      simp only [Option.bind_some] at bc
      obtain ⟨v,e1,aD,bS⟩:=jW _ _ bc
      refine ⟨v,?_,aD,bS _ _ _ _⟩
      have dG:j<c.toNat*i.size:=by
       rw [← eY]
       have:j<l.toNat*z.length:=(Nat.div_lt_iff_lt_mul Eh).1 aF
       exact Nat.lt_of_lt_of_le this (Nat.mul_le_mul_right _ (by omega))
      simp only [madeCells]
      rw [Array.getElem?_map,Array.getElem?_range]
      simp only [dG,if_true,Option.map_some]
      rw [ni] at e1
      have hm:j % eE.cells.size<eE.cells.size:=Nat.mod_lt _ (by omega)
      rw [Array.getElem?_eq_getElem hm] at e1
      rw [getElem!_pos eE.cells _ hm];exact e1
     ·rw [if_neg aF] at bc;simp at bc
   ·intro bN kN mO l6 hu ch
    refine Rel.bm hu ch (by omega) (by omega) ⟨?_,.inr (by simp)⟩
    rw [size_madeCells]
    simp only [Nat.zero_add,eY]
  ·simp at aw
 ·simp at aw
theorem XO {t:TypeId}{x:Operand}{f:Nat}(h:cL g s ay a w)(ap:I.op = .fieldAddr t x f)(aw:eR P s.E s.aW aV I cM=some bC)(cz:∀p∈bC.fu,p):Fin P g s a w I bC:=by
 simp only [eR,ap] at aw
 have U:=h.eval x
 split at aw
 ·rename_i kE Bm
  split at aw
  ·rename_i fd tj
   split at aw
   ·simp at aw
   ·rename_i Ru
    have aq:(P.info? fd.type).isSome=true:=by
     cases aq:P.info? fd.type with
     | none=>simp [Program.cellsOf,aq] at Ru
     | some i=>rfl
    have iN : ∀A:Addr,A.spot=none→(Instr.fieldAt t (.pointer (some A)) f).run P w = .ok (.pointer (some ⟨A.block,A.off+fd.offset,none⟩)) w:=by
     intro A hA
     have e:A.add fd.offset=⟨A.block,A.off+fd.offset,none⟩:=by
      obtain ⟨b,I,sp⟩:=A
      simp only at hA;subst hA
      exact rc b I _
     simp [Instr.fieldAt,run_underlying (Ju Bm),tj,Instr.sureAddr,fieldPlace,uk aq,Ru,e]
    split at aw
    ·rename_i r k i off gM
     rw [gM] at U
     split at aw
     ·rename_i ao af bo
      split at aw
      ·rename_i c aU ng
       simp only [Option.some.injEq] at aw;subst aw
       have j9:s.ao r k=some ao:=sY bo fun p ak=>cz p (by simp [ak])
       have qF:=z8 ng fun p ak=>cz p (by simp [ak])
       have fs:=h.obj r k ao j9
       rcases U.xE (iu j9) with h0|⟨b,m,ak,hval⟩
       ·rw [h0] at fs;simp only [jb] at fs;rw [fs] at qF;simp at qF
       ·refine ir (v:= .pointer (some ⟨b,i*ao.sz+(off+fd.offset),none⟩)) h ?_ rfl ?_
        ·simp [execOp,ap,hval,iN,Nat.add_assoc]
        ·exact U.Y6 ((iu j9).trans (by rw [ak])) _
      ·simp at aw
     ·simp at aw
    ·rename_i sz es i off gM
     rw [gM] at U
     simp only [Option.some.injEq] at aw;subst aw
     obtain ⟨d3,b6,aS,hval,ic⟩:=U.xF
     refine ir (v:= .pointer (some ⟨d3,b6+(i*sz+(off+fd.offset)),none⟩)) h ?_ rfl (ic.eb aS)
     simp [execOp,ap,hval,iN,Nat.add_assoc]
    ·simp at aw
  ·simp at aw
 ·simp at aw
theorem XP {t:TypeId}{x y:Operand}(h:cL g s ay a w)(ap:I.op = .indexAddr t x y)(aw:eR P s.E s.aW aV I cM=some bC)(cz:∀p∈bC.fu,p):Fin P g s a w I bC:=by
 simp only [eR,ap] at aw
 have U:=h.eval x
 have a3:=h.eval y
 split at aw
 ·rename_i e k j he gM
  rw [gM] at a3
  have hu:=re he
  have iN : ∀(b I len cap:Nat),0≤j→j<len→(P.info? e).isSome=true →
   (Instr.indexAt t (.slice (some ⟨b,I,none⟩) len cap) (.int k j)).run P w = .ok (.pointer (some ⟨b,I+j.toNat*P.cellsOf e,none⟩)) w:=by
   intro b I len cap h0 h1 aq
   have eN:=rc b I (j.toNat*P.cellsOf e)
   simp [Instr.indexAt,asIntOf,run_underlying hu,h0,h1,uk aq,eN]
  have uN : ∀sz,sz=P.cellsOf e→sz≠0→(P.info? e).isSome=true:=by
   intro sz b0 cv
   cases aq:P.info? e with
   | none=>simp [Program.cellsOf,aq] at b0;exact absurd b0 cv
   | some i=>rfl
  split at aw
  ·rename_i sz es AX
   rw [AX] at U
   simp only [Option.ite_none_right_eq_some,Option.some.injEq] at aw
   obtain ⟨⟨b0,cv⟩,aw⟩:=aw
   subst aw
   have h0:0≤j:=cz _ (by simp)
   have h1:j<es.length:=cz _ (by simp)
   rcases U.rU with ⟨Bn,-⟩|⟨d3,off,c,aS,hval,bf,ic⟩
   ·subst Bn;simp at h1;omega
   ·refine ir (v:= .pointer (some ⟨d3,off+(j.toNat*sz+0),none⟩)) h ?_ rfl (ic.eb aS)
    simp [execOp,ap,hval,a3.o3,iN _ _ _ _ h0 h1 (uN sz b0 cv),b0]
  ·rename_i r q bV len AX
   rw [AX] at U
   split at aw
   ·rename_i row dx
    split at aw
    ·rename_i ao af bo
     simp only [Option.ite_none_right_eq_some,Option.some.injEq] at aw
     obtain ⟨⟨b0,cv⟩,aw⟩:=aw
     subst aw
     have j9:s.ao r q=some ao:=by
      unfold S.ao;rw [dx];exact sY bo fun p ak=>cz p (by simp [ak])
     have h0:0≤j:=cz _ (by simp)
     have h1:j<len:=cz _ (by simp)
     rcases U.Ai (iu j9) with ⟨-,-,o,-⟩|⟨b,m,A,c,ak,hval,aT,-,hm⟩
     ·subst o;simp at h1;omega
     ·rcases hm with hm|⟨hA,hm⟩
      ·omega
      ·subst hA
       have jg:=Dt j9
       refine ir (v:= .pointer (some ⟨b,(bV+j.toNat)*ao.sz+0,none⟩)) h ?_ rfl (.ref jg ((iu j9).trans (by rw [ak])))
       simp [execOp,ap,hval,a3.o3,iN _ _ _ _ h0 h1 (uN _ b0 cv),b0,Nat.add_mul]
    ·simp at aw
   ·simp at aw
  ·simp at aw
 ·simp at aw
theorem ZS {t:TypeId}{x y:Operand}(h:cL g s ay a w)(ap:I.op = .index t x y)(aw:eR P s.E s.aW aV I cM=some bC)(cz:∀p∈bC.fu,p):Fin P g s a w I bC:=by
 simp only [eR,ap] at aw
 have U:=h.eval x
 have a3:=h.eval y
 split at aw
 ·rename_i b k j hu AX aca
  rw [AX] at U;rw [aca] at a3
  simp only [Option.some.injEq] at aw;subst aw
  have h0:0≤j:=cz _ (by simp)
  have h1:j<b.size:=cz _ (by simp)
  have o:j.toNat<b.size:=by omega
  refine ir (v:= .int .u8 (b[j.toNat]).toNat) h ?_ rfl ?_
  ·simp [execOp,ap,U.xV,a3.o3,Instr.index,asIntOf,run_underlying hu,h0,o]
  ·have e:b.data.toList.getD j.toNat 0=b[j.toNat]:=by
    rw [List.getD_eq_getElem?_getD,Array.getElem?_toList,Array.getElem?_eq_getElem (by simpa using o)];rfl
   show Rel _ _ _ _ (.n .u8 _) _
   rw [e];exact .n _ _
 ·simp at aw
theorem abf {c:Call}(h:cL g s ay a w)(ap:I.op = .call c)(bf:c.callee = .builtin .len)(aw:eR P s.E s.aW aV I cM=some bC)(cz:∀p∈bC.fu,p):Fin P g s a w I bC:=by
 obtain ⟨Ei,args,mQ⟩:=c
 simp only at bf;subst bf
 simp only [eR,ap] at aw
 have key : ∀(x:Operand) (n:Nat) (t:TypeId) (v:Value),args.toList=[x]→mQ = #[t]→bC.val = .n .i64 n→bC.fJ=[]→a.eval x=v →
  (Builtin.len_ #[t] I.type #[v]).run P w = .ok (goInt n) w→Fin P g s a w I bC:=by
  intro x n t v hargs lR ar hn bh iN
  subst lR
  refine ir (v:=goInt n) h ?_ hn (by rw [ar];exact .n _ _)
  have bF:args = #[x]:=by apply Array.ext';simpa using hargs
  subst bF
  simp [execOp,ap,resolve,invoke,builtin,bh,iN]
 have hargs : ∀y,args.toList.map (fe s.E)=[y]→ ∃x,args.toList=[x]∧fe s.E x=y:=by
  intro y a3
  match aT:args.toList,a3 with
  | [x],a3=>simp at a3;exact ⟨x,rfl,a3⟩
 have n6:decide (mQ.size=1)=true→ ∃t,mQ = #[t]∧mQ.getD 0 0=t:=by
  intro eY
  have eY:mQ.size=1:=by simpa using eY
  obtain ⟨l⟩:=mQ
  match l,eY with
  | [t],_=>exact ⟨t,rfl,rfl⟩
 split at aw
 ·rename_i sz es e hm hu eY
  obtain ⟨x,U,gM⟩:=hargs _ hm
  obtain ⟨t,ch,nC⟩:=n6 eY
  rw [nC] at hu
  simp only [Option.some.injEq] at aw
  have ar:=h.eval x
  rw [gM] at ar
  rcases ar.rU with ⟨Bn,A,c,hval,hA⟩|⟨d3,off,c,aS,hval,-⟩
  ·exact key x es.length t _ U ch (by rw [← aw]) (by rw [← aw]) hval (by subst Bn;simp [Builtin.len_,run_underlying hu])
  ·exact key x es.length t _ U ch (by rw [← aw]) (by rw [← aw]) hval (by simp [Builtin.len_,run_underlying hu])
 ·rename_i r k bV len e hm hu eY
  obtain ⟨x,U,gM⟩:=hargs _ hm
  obtain ⟨t,ch,nC⟩:=n6 eY
  rw [nC] at hu
  split at aw
  ·rename_i row dx
   split at aw
   ·rename_i ao af bo
    simp only [Option.some.injEq] at aw
    have ar:=h.eval x
    rw [gM] at ar
    have j9:s.ao r k=some ao:=by
     unfold S.ao;rw [dx];exact sY bo fun p ak=>cz p (by rw [← aw];exact ak)
    rcases ar.Ai (iu j9) with ⟨-,-,o,hval⟩|⟨b,m,A,c,ak,hval,-⟩
    ·exact key x len t _ U ch (by rw [← aw]) (by rw [← aw]) hval (by subst o;simp [Builtin.len_,run_underlying hu])
    ·exact key x len t _ U ch (by rw [← aw]) (by rw [← aw]) hval (by simp [Builtin.len_,run_underlying hu])
   ·simp at aw
  ·simp at aw
 ·rename_i e hm hu eY
  obtain ⟨x,U,gM⟩:=hargs _ hm
  obtain ⟨t,ch,nC⟩:=n6 eY
  rw [nC] at hu
  simp only [Option.some.injEq] at aw
  have ar:=h.eval x
  rw [gM] at ar
  exact key x 0 t _ U ch (by rw [← aw];rfl) (by rw [← aw]) ar.pg (by simp [Builtin.len_,run_underlying hu])
 ·rename_i b hm hu eY
  obtain ⟨x,U,gM⟩:=hargs _ hm
  obtain ⟨t,ch,nC⟩:=n6 eY
  rw [nC] at hu
  simp only [Option.some.injEq] at aw
  have ar:=h.eval x
  rw [gM] at ar
  exact key x b.size t _ U ch (by rw [← aw]) (by rw [← aw]) ar.xV (by simp [Builtin.len_,run_underlying hu])
 ·simp at aw
theorem C6 {ok:Nat→Prop}{a5:i2}{bd:iR}{d3 off sz:Nat}{es:List (List aB)}(h:oe w ok a5 bd d3 off sz es)(l n:Nat)(aT:l≤es.length):
 oe w ok a5 bd d3 (off+l*sz) sz ((es.drop l).take n):=by
 have p6 : ∀e∈(es.drop l).take n,e.length=sz:=fun e he=>h.1 e (List.mem_of_mem_drop (List.mem_of_mem_take he))
 refine ⟨p6,fun j x U=> ?_⟩
 rcases Nat.eq_zero_or_pos sz with h0|b0
 ·have e1 : ∀(l:List (List aB)),(∀e∈l,e.length=0)→l.flatten=[]:=by
   intro l aT;induction l with
   | nil=>rfl
   | cons a l ih=>rw [List.flatten_cons,ih fun e he=>aT e (by simp [he])];have:=aT a (by simp);simp_all
  rw [e1 _ (fun e he=>(p6 e he).trans h0)] at U;simp at U
 ·rw [oY b0 _ p6] at U
  have aF:j / sz<n:=by
   rcases Nat.lt_or_ge (j / sz) n with cD|cD
   ·exact cD
   ·rw [List.getElem?_eq_none (by simp;omega)] at U;simp at U
  rw [List.getElem?_take,if_pos aF,List.getElem?_drop] at U
  obtain ⟨v,e1,aD,bS⟩:=h.2 (l*sz+j) x (by
   rw [oY b0 es h.1]
   have gB:(l*sz+j) / sz=l+j / sz:=by rw [Nat.mul_comm,Nat.mul_add_div b0]
   have hx:(l*sz+j) % sz=j % sz:=by rw [Nat.mul_comm,Nat.mul_add_mod]
   rw [gB,hx];exact U)
  exact ⟨v,by rw [Nat.add_assoc];exact e1,aD,bS⟩
theorem C1 {t e:TypeId}(hu:P.underlying t=some (.slice e))(aq:(P.info? e).isSome=true)(A:Option Addr)(len cap:Nat)(bV kB:Option Value)(l h:Nat)
 (Rv:(bV=none∧l=0)∨ ∃k,bV=some (.int k l)) (Rw:(kB=none∧h=len)∨ ∃k,kB=some (.int k h)) (h1:l≤h) (o:h≤len) (ab:len≤cap) :
 (Instr.sliceAt t (.slice A len cap) bV kB none).run P w = .ok (.slice (if cap=l then A else A.map (·.add (l*P.cellsOf e))) (h-l) (cap-l)) w:=by
 have aS : ∀(k:IntKind) (n y:Nat) (code:BoundsCode),n≤y→(Instr.sliceBound (.int k n) y code).run P w = .ok n w:=by
  intro k n y code a4
  simp [Instr.sliceBound,asIntOf,a4]
 rcases Rv with ⟨rfl,rfl⟩|⟨mX,rfl⟩<;>rcases Rw with ⟨rfl,rfl⟩|⟨ll,rfl⟩ <;>
  simp [Instr.sliceAt,Instr.slice,run_underlying hu,Instr.sliceBounds,uk aq,aS,h1,o,ab,Nat.le_trans o ab]
theorem xM {x:Option Operand}(h:cL g s ay a w){d n:Nat}{ao:List Prop}(aS:au (x.map (fe s.E)) d=some (n,ao))(cz:∀p∈ao,p):
 (x.map a.eval=none∧n=d)∨ ∃k,x.map a.eval=some (.int k n):=by
 cases x with
 | none=>simp [au] at aS;exact .inl ⟨rfl,aS.1.symm⟩
 | some x =>
  have U:=h.eval x
  simp only [Option.map_some] at aS ⊢
  unfold au at aS
  split at aS
  ·rename_i he;simp at he
  ·rename_i _ k y he
   simp only [Option.some.injEq] at he
   rw [he] at U
   simp only [Option.some.injEq,Prod.mk.injEq] at aS
   obtain ⟨rfl,rfl⟩:=aS
   have h0:0≤y:=cz _ (by simp)
   refine .inr ⟨k,?_⟩
   rw [U.o3,Int.toNat_of_nonneg h0]
  ·simp at aS
theorem ZT {t:TypeId}{x:Operand}{bV aq:Option Operand}(h:cL g s ay a w)(ap:I.op = .slice t x bV aq none)(aw:eR P s.E s.aW aV I cM=some bC)(cz:∀p∈bC.fu,p):Fin P g s a w I bC:=by
 simp only [eR,ap] at aw
 have U:=h.eval x
 have uN : ∀sz e,sz=P.cellsOf e→sz≠0→(P.info? e).isSome=true:=by
  intro sz e b0 cv
  cases aq:P.info? e with
  | none=>simp [Program.cellsOf,aq] at b0;exact absurd b0 cv
  | some i=>rfl
 split at aw
 ·rename_i e sz es hu gM
  rw [gM] at U
  split at aw
  ·rename_i l af n aU aT a4
   simp only [Option.ite_none_right_eq_some,Option.some.injEq] at aw
   obtain ⟨⟨b0,cv⟩,aw⟩:=aw
   subst aw
   have i3:=xM h aT fun p ak=>cz p (by simp [ak])
   have kr:=xM h a4 fun p ak=>cz p (by simp [ak])
   have h1:l≤n:=cz _ (by simp)
   have o:n≤es.length:=cz _ (by simp)
   rcases U.rU with ⟨Bn,A,c,hval,hA⟩|⟨d3,off,c,aS,hval,bf,ic⟩
   ·subst Bn
    have Bo:n=0:=by simpa using o
    subst Bo
    have nj:l=0:=by omega
    subst nj
    refine ir (v:= .slice (if c=0 then A else A.map (·.add (0*P.cellsOf e))) (0-0) (c-0)) h ?_ rfl ?_
    ·have:=C1 (w:=w) hu (uN sz e b0 cv) A 0 c (bV.map a.eval) (aq.map a.eval) 0 0 i3 kr (Nat.le_refl _) (Nat.le_refl _) (Nat.zero_le _)
     simp only [execOp,ap,hval]
     simp only [Option.map_none,Sem.run_bind,this];rfl
    ·refine .jY sz _ _ fun a4=> ?_
     split at a4
     ·rename_i mo;omega
     ·have:=hA (by simpa using a4)
      omega
   ·have hlen:((es.drop l).take (n-l)).length=n-l:=by simp;omega
    refine ir (v:= .slice (if c=l then some ⟨d3,off,none⟩ else (some (⟨d3,off,none⟩:Addr)).map (·.add (l*P.cellsOf e))) (n-l) (c-l)) h ?_ rfl ?_
    ·have:=C1 (w:=w) hu (uN sz e b0 cv) (some ⟨d3,off,none⟩) es.length c (bV.map a.eval) (aq.map a.eval) l n i3 kr h1 o bf
     simp only [execOp,ap,hval]
     simp only [Option.map_none,Sem.run_bind,this];rfl
    ·by_cases iw:c=l
     ·have:n-l=0:=by omega
      rw [this]
      show Rel _ _ _ _ (.isl sz ((es.drop l).take 0)) _
      rw [List.take_zero]
      exact .jY sz _ _ (fun _=>by omega)
     ·rw [if_neg iw]
      simp only [Option.map_some,rc,← b0]
      have ar:=(C6 ic l (n-l) (by omega)).isl (c:=c-l) ⟨aS.1,fun e he=>aS.2 e (List.mem_of_mem_drop (List.mem_of_mem_take he))⟩ (by rw [hlen];omega)
      rw [hlen] at ar
      exact ar
  ·simp at aw
 ·rename_i e r k Sw len hu gM
  rw [gM] at U
  split at aw
  ·simp at aw
  ·rename_i row dx
   split at aw
   ·simp at aw
   ·rename_i ao Sx bo
    split at aw
    ·rename_i l af n aU aT a4
     simp only [Option.ite_none_right_eq_some,Option.some.injEq] at aw
     obtain ⟨⟨b0,cv⟩,aw⟩:=aw
     subst aw
     have j9:s.ao r k=some ao:=by
      unfold S.ao;rw [dx];exact sY bo fun p ak=>cz p (by simp [ak])
     have i3:=xM h aT fun p ak=>cz p (by simp [ak])
     have kr:=xM h a4 fun p ak=>cz p (by simp [ak])
     have h1:l≤n:=cz _ (by simp)
     have o:n≤len:=cz _ (by simp)
     have jg:=Dt j9
     rcases U.uz (iu j9) with ⟨ak,rfl,rfl,hval⟩|⟨b,m,A,c,ak,hval,qK,sj,l8,hm⟩
     ·have Bo:n=0:=by omega
      subst Bo
      have nj:l=0:=by omega
      subst nj
      refine ir (v:= .slice none 0 0) h ?_ rfl (.ns jg ((iu j9).trans (by rw [ak])))
      have:=C1 (w:=w) hu (uN _ e b0 cv) none 0 0 (bV.map a.eval) (aq.map a.eval) 0 0 i3 kr (Nat.le_refl _) (Nat.le_refl _) (Nat.le_refl _)
      simp only [execOp,ap,hval]
      simp only [Option.map_none,Sem.run_bind,this];rfl
     ·refine ir (v:= .slice (if c=l then A else A.map (·.add (l*P.cellsOf e))) (n-l) (c-l)) h ?_ rfl ?_
      ·have:=C1 (w:=w) hu (uN _ e b0 cv) A len c (bV.map a.eval) (aq.map a.eval) l n i3 kr h1 o qK
       simp only [execOp,ap,hval]
       simp only [Option.map_none,Sem.run_bind,this];rfl
      ·refine Rel.bm jg ((iu j9).trans (by rw [ak])) (by omega) (by omega) ?_
       refine ⟨by rw [← l8];congr 1;omega,?_⟩
       by_cases iw:c=l
       ·exact .inl (by omega)
       ·rcases hm with hm|hA
        ·exact .inl (by omega)
        ·refine .inr ?_
         rw [if_neg iw,hA]
         simp only [Option.map_some,rc,← b0,Nat.add_mul]
    ·simp at aw
 ·rename_i b hu gM
  rw [gM] at U
  split at aw
  ·rename_i l af n aU aT a4
   simp only [Option.some.injEq] at aw
   subst aw
   have i3:=xM h aT fun p ak=>cz p (by simp [ak])
   have kr:=xM h a4 fun p ak=>cz p (by simp [ak])
   have h1:l≤n:=cz _ (by simp)
   have o:n≤b.size:=cz _ (by simp)
   refine ir (v:= .string (b.extract l n)) h ?_ rfl (.s _)
   have aS : ∀(k:IntKind) (n y:Nat) (code:BoundsCode),n≤y→(Instr.sliceBound (.int k n) y code).run P w = .ok n w:=by
    intro k n y code a4
    simp [Instr.sliceBound,asIntOf,a4]
   simp only [execOp,ap,U.xV,Option.map_none]
   rcases i3 with ⟨e1,rfl⟩|⟨mX,e1⟩<;>rcases kr with ⟨aD,rfl⟩|⟨ll,aD⟩<;>rw [e1,aD] <;>
    simp [Instr.sliceAt,Instr.slice,run_underlying hu,Instr.sliceBounds,aS,h1,o]
  ·simp at aw
 ·simp at aw
end
end Go.VL
namespace Go.VL
set_option linter.unusedVariables false
set_option linter.unusedSimpArgs false
open Go
section
variable {P:Program} {g:G} {s:S} {ay:fm} {a:Act} {w:World} {I:Oper} {cM:fx} {aV:Nat} {bC:h2}
theorem Yx {ok:Nat→Prop}{a5:i2}{bd:iR}{t:TypeId}{c:List aB}{off:Nat}{x:aB}{vs:List Value}(aT:vs.length=c.length)
 (jW : ∀(j:Nat) u,vs[j]? = some u→j7 u=true) (ar : ∀(j:Nat) x u,c[j]? = some x→vs[j]? = some u→Rel w ok a5 bd x u)
 (ch:r2 P t c off=some x) : ∃v,(part t vs.toArray off).run P w = .ok v w∧Rel w ok a5 bd x v:=by
 unfold r2 at ch
 split at ch
 ·simp at ch
 ·rename_i aq
  simp only [Bool.not_eq_true',Bool.not_eq_false,Bool.and_eq_true] at aq
  simp only [part,Sem.run_bind,OK aq.1,Result.andThen]
  split at ch
  ·rename_i qE
   rw [qE]
   split at ch
   ·rename_i hle
    simp at ch;subst ch
    have e:(vs.toArray.extract off (off+P.cellsOf t))=((vs.drop off).take (P.cellsOf t)).toArray:=by
     apply Array.ext'
     simp [List.extract_eq_take_drop]
    refine ⟨.agg ((vs.drop off).take (P.cellsOf t)).toArray,by simp [uk aq.2],?_⟩
    refine .agg _ (by simp;omega) ?_ ?_
    ·intro j v bh
     rw [List.getElem?_take] at bh
     split at bh
     ·rw [List.getElem?_drop] at bh;exact jW _ _ bh
     ·simp at bh
    ·intro j y v a3 bh
     rw [List.getElem?_take] at bh a3
     split at bh
     ·rename_i aF
      rw [if_pos aF] at a3
      rw [List.getElem?_drop] at bh a3;exact ar _ _ _ a3 bh
     ·simp at bh
   ·simp at ch
  ·rename_i qE
   have qE:Ar P t=false:=by simpa using qE
   rw [qE]
   split at ch
   ·rename_i y a3
    split at ch
    ·simp at ch;subst ch
     have x6:off<vs.length:=by
      rcases Nat.lt_or_ge off c.length with h|h
      ·omega
      ·rw [List.getElem?_eq_none h] at a3;simp at a3
     exact ⟨vs[off],by simp [x6],ar off y _ a3 (List.getElem?_eq_getElem x6)⟩
    ·simp at ch
   ·simp at ch
theorem ZU {t:TypeId}{x:Operand}{f:Nat}(h:cL g s ay a w)(ap:I.op = .field t x f)(aw:eR P s.E s.aW aV I cM=some bC):Fin P g s a w I bC:=by
 simp only [eR,ap] at aw
 have U:=h.eval x
 split at aw
 ·rename_i kE Bm
  split at aw
  ·rename_i fd c tj gM
   rw [gM] at U
   cases ch:r2 P fd.type c fd.offset with
   | none=>simp [ch] at aw
   | some v =>
    simp [ch] at aw;subst aw
    obtain ⟨vs,hval,aT,bf,ar⟩:=U.Ah
    obtain ⟨u,h1,o⟩:=Yx aT bf ar ch
    refine ir (v:=u) h ?_ rfl o
    simp [execOp,ap,hval,Instr.field,run_underlying (Ju Bm),tj,asAgg,h1]
  ·simp at aw
 ·simp at aw
theorem Y8 (off:Nat): ∀(vs:List Value) (n:Nat) (cs:Array Value) (j:Nat),off+n+vs.length≤cs.size →
 ((vs.zipIdx n).foldl (fun cs (x:Value×Nat)=>cs.setIfInBounds (off+x.2) x.1) cs)[j]? = if off+n≤j∧j<off+n+vs.length then vs[j-(off+n)]? else cs[j]? := by
 intro vs
 induction vs with
 | nil=>intro n cs j h;simp;intro h1 o;omega
 | cons v vs ih =>
  intro n cs j h
  simp only [List.length_cons] at h
  simp only [List.zipIdx_cons,List.foldl_cons]
  rw [ih (n+1) _ j (by simp;omega)]
  simp only [List.length_cons,Array.getElem?_setIfInBounds]
  by_cases h1:j=off+n
  ·subst h1
   rw [if_neg (by omega),if_pos rfl,if_pos (by omega),if_pos (by omega)]
   simp
  ·by_cases o:off+(n+1)≤j∧j<off+(n+1)+vs.length
   ·rw [if_pos o,if_pos (by omega)]
    rw [show j-(off+n)=(j-(off+(n+1)))+1 by omega];rfl
   ·rw [if_neg o,if_neg (fun e=>h1 e.symm),if_neg (by omega)]
theorem Xb (off:Nat): ∀(vs:List (Value×Nat)) (cs:Array Value),(vs.foldl (fun cs (x:Value×Nat)=>cs.setIfInBounds (off+x.2) x.1) cs).size=cs.size:=by
 intro vs
 induction vs with
 | nil=>intro cs;rfl
 | cons v vs ih=>intro cs;simp only [List.foldl_cons];rw [ih];simp
def yK (w:World)(ok:Nat→Prop)(a5:i2)(bd:iR)(c:List aB)(cs:Array Value):Prop :=
 cs.size=c.length∧(∀(j:Nat) u,cs[j]? = some u→j7 u=true)∧ ∀(j:Nat) x u,c[j]? = some x→cs[j]? = some u→Rel w ok a5 bd x u
theorem ZV {ok:Nat→Prop}{a5:i2}{bd:iR}{c:List aB}{cs:Array Value}(h:yK w ok a5 bd c cs){x:aB}{v:Value}{off:Nat}(U:Rel w ok a5 bd x v)(bf:x.xv=true)
 (h9:off+x.cells.length≤c.length):v.cells.size=x.cells.length ∧
   yK w ok a5 bd (setCells c off x.cells) (v.cells.zipIdx.foldl (fun cs (y:Value×Nat)=>cs.setIfInBounds (off+y.2) y.1) cs):=by
 obtain ⟨vs,bh,aT,jW,ar⟩:=U.cellsOf (aB.NZ bf)
 have lR : ∀j,(v.cells.zipIdx.foldl (fun cs (y:Value×Nat)=>cs.setIfInBounds (off+y.2) y.1) cs)[j]? = if off≤j∧j<off+vs.length then vs[j-off]? else cs[j]? := by
  intro j
  rw [bh]
  have:=Y8 off vs 0 cs j (by rw [h.1];omega)
  simp only [Nat.add_zero] at this
  rw [← this,← Array.foldl_toList,Array.toList_zipIdx]
 refine ⟨by rw [bh];simpa using aT,?_,?_,?_⟩
 ·rw [Nr h9,← h.1,← Array.foldl_toList,Xb]
 ·intro j u hu
  rw [lR] at hu
  split at hu
  ·exact jW _ _ hu
  ·exact h.2.1 _ _ hu
 ·intro j y u a3 hu
  rw [lR] at hu
  rw [Jt h9] at a3
  by_cases lQ:off≤j∧j<off+x.cells.length
  ·rw [if_pos lQ] at a3
   rw [if_pos (by rw [aT];exact lQ)] at hu
   exact ar _ _ _ a3 hu
  ·rw [if_neg lQ] at a3
   rw [if_neg (by rw [aT];exact lQ)] at hu
   exact h.2.2 _ _ _ a3 hu
theorem Og {ok:Nat→Prop}{a5:i2}{bd:iR}(place:Nat→Option (Nat×Nat)): ∀(l:List (Nat×Nat×aB)) (jJ:List (Nat×Value)) (c:List aB) (cs:Array Value) (dL:List aB),
 yK w ok a5 bd c cs→l.length=jJ.length →
 (∀(j:Nat) off size x i v,l[j]? = some (off,size,x)→jJ[j]? = some (i,v)→place i=some (off,size)∧Rel w ok a5 bd x v) →
 s6 c l=some dL→ ∃mR,Instr.fill place cs jJ=some mR∧yK w ok a5 bd dL mR:=by
 intro l
 induction l with
 | nil =>
  intro jJ c cs dL h aT _ cl
  have:jJ=[]:=List.length_eq_zero_iff.1 (by simpa using aT.symm)
  subst this
  simp [s6] at cl;subst cl
  exact ⟨cs,rfl,h⟩
 | cons q l ih =>
  intro jJ c cs dL h aT ak cl
  obtain ⟨off,size,x⟩:=q
  match jJ,aT with
  | (i,v)::jJ,aT =>
   obtain ⟨acQ,U⟩:=ak 0 off size x i v rfl rfl
   simp only [s6] at cl
   split at cl
   ·rename_i bf
    simp only [Bool.and_eq_true,decide_eq_true_eq] at bf
    obtain ⟨⟨h1,o⟩,ab⟩:=bf
    obtain ⟨e1,aD⟩:=ZV h U h1 (off:=off) (by omega)
    obtain ⟨mR,f1,f2⟩:=ih jJ _ _ dL aD (by simpa using aT) (fun j off size x i v a b=>ak (j+1) off size x i v a b) cl
    refine ⟨mR,?_,f2⟩
    rw [Instr.fill]
    simp only [acQ]
    have jv : ¬(decide (v.cells.size≠size) || decide (off+v.cells.size>cs.size))=true:=by simp;rw [e1,h.1];omega
    rw [if_neg jv]
    exact f1
   ·simp at cl
theorem mapM_some {α β:Type}(f:α→β)(p:α→Option β): ∀(l:List α),(∀x∈l,p x=some (f x))→l.mapM p=some (l.map f)
 | [],_=>rfl
 | x::l,h=>by
  rw [List.mapM_cons,h x (by simp),mapM_some f p l fun y a3=>h y (by simp [a3])];rfl
theorem PM {α β:Type}(p:α→Option β): ∀(l:List α) (gk:List β),l.mapM p=some gk→gk.length=l.length∧ ∀(j:Nat) x y,l[j]? = some x→gk[j]? = some y→p x=some y
 | [],gk,h=>by simp at h;subst h;exact ⟨rfl,fun j x y U=>by simp at U⟩
 | a::l,gk,h=>by
  rw [List.mapM_cons] at h
  cases bF:p a with
  | none=>simp [bF] at h
  | some b =>
   cases aT:l.mapM p with
   | none=>simp [bF,aT] at h
   | some r =>
    simp [bF,aT] at h;subst h
    obtain ⟨h1,o⟩:=PM p l r aT
    refine ⟨by simp [h1],fun j x y U a3=> ?_⟩
    cases j with
    | zero=>simp at U a3;subst U;subst a3;exact bF
    | succ j=>simp at U a3;exact o j x y U a3
theorem PN {t:TypeId}{z:List aB}(cv:ql P t=some z): ∃i eE,P.info? t=some i∧i.zero=some eE∧eE.cells.size=z.length∧yK w (s.ok g ay w) s.a5 (s.bd ay) z eE.cells:=by
 obtain ⟨i,eE,aq,kX,pE,jW⟩:=z0 cv
 have b0:eE.cells.size=z.length:=by rw [pE];simp
 refine ⟨i,eE,aq,kX,b0,b0,fun j u hu=> ?_,fun j x u U hu=> ?_⟩
 ·have aF:j<z.length:=by
   have:=(Array.getElem?_eq_some_iff.1 hu).1;omega
  obtain ⟨v,e1,aD,-⟩:=jW j z[j] (List.getElem?_eq_getElem aF)
  rw [hu] at e1;simp at e1;subst e1;exact aD
 ·obtain ⟨v,e1,-,bS⟩:=jW j x U
  rw [hu] at e1;simp at e1;subst e1;exact bS _ _ _ _
theorem ZW {t:TypeId}{parts:Array (Nat×Operand)}(h:cL g s ay a w)(ap:I.op = .build t parts)(aw:eR P s.E s.aW aV I cM=some bC):Fin P g s a w I bC:=by
 simp only [eR,ap] at aw
 split at aw
 ·rename_i kE z Bm cv
  split at aw
  ·simp at aw
  ·rename_i nA
   have nA : ∀f∈kE.toList,(P.info? f.type).isSome=true:=by
    rw [Bool.not_eq_false] at nA
    exact List.all_eq_true.1 nA
   split at aw
   ·rename_i l aT
    cases cl:s6 z l with
    | none=>simp [cl] at aw
    | some c =>
     simp [cl] at aw;subst aw
     obtain ⟨it,eE,Bp,kX,eY,hcs⟩:=PN (w:=w) (s:=s) (g:=g) (ay:=ay) cv
     obtain ⟨kF,qX⟩:=PM _ _ _ aT
     have acb:kE.toList.mapM (fun f=>(P.info? f.type).map fun i=>(f.offset,i.size))=some (kE.toList.map fun f=>(f.offset,P.cellsOf f.type)):=by
      refine mapM_some (fun f:Field=>(f.offset,P.cellsOf f.type)) _ _ fun f cl=> ?_
      have:=nA f cl
      cases aq:P.info? f.type with
      | none=>simp [aq] at this
      | some i=>simp [Program.cellsOf,aq]
     obtain ⟨mR,f1,f2⟩:=Og (w:=w) (ok:=s.ok g ay w) (a5:=s.a5) (bd:=s.bd ay) ((kE.toList.map fun f=>(f.offset,P.cellsOf f.type)).toArray[·]?) l (parts.map fun (i,x)=>(i,a.eval x)).toList z eE.cells c hcs (by simpa using kF) (by
      intro j off size x i v aF bh
      simp only [Array.toList_map,List.getElem?_map,Option.map_eq_some_iff] at bh
      obtain ⟨⟨eF,cG⟩,ak,bh⟩:=bh
      simp only [Prod.mk.injEq] at bh
      obtain ⟨rfl,rfl⟩:=bh
      have:=qX j _ _ ak aF
      simp only [Option.map_eq_some_iff,Prod.mk.injEq] at this
      obtain ⟨fd,h1,o,ab,av⟩:=this
      subst o;subst ab;subst av
      refine ⟨?_,h.eval cG⟩
      rw [List.getElem?_toArray,List.getElem?_map,Array.getElem?_toList,h1];rfl) cl
     have aS:P.built t (parts.map fun (i,x)=>(i,a.eval x)).toList=some mR:=by
      unfold Program.built
      simp only [Bp,Ju Bm,kX,acb]
      exact f1
     refine ir (v:= .agg mR) h ?_ rfl ?_
     ·have:=run_build w t _ mR aS
      simp [execOp,ap,this]
     ·have:=Rel.agg (w:=w) (ok:=s.ok g ay w) (a5:=s.a5) (bd:=s.bd ay) (c:=c) mR.toList (by simpa using f2.1) (fun j u hu=>f2.2.1 j u (by simpa using hu)) (fun j x u U hu=>f2.2.2 j x u U (by simpa using hu))
      simpa using this
   ·simp at aw
 ·simp at aw
theorem Wj {sz:Nat}{es:List (List aB)}(aT:∀e∈es,e.length=sz){i:Nat}(aq:i<es.length){c:List aB}(bf:c.length=sz):
 setCells es.flatten (i*sz) c=(es.set i c).flatten:=by
 have hlen : ∀(es:List (List aB)),(∀e∈es,e.length=sz)→es.flatten.length=es.length*sz:=by
  intro es
  induction es with
  | nil=>simp
  | cons e es ih =>
   intro h
   rw [List.flatten_cons,List.length_append,ih fun x U=>h x (by simp [U]),h e (by simp),List.length_cons,Nat.add_mul];omega
 have h9:i*sz+c.length≤es.flatten.length:=by
  rw [hlen es aT,bf]
  have:=Nat.mul_le_mul_right sz (show i+1≤es.length by omega)
  rw [Nat.add_mul] at this;omega
 apply List.ext_getElem?
 intro j
 rw [Jt h9,N0 aT (List.getElem?_eq_getElem aq) bf,bf]
theorem Oh {sz:Nat}: ∀(l:List (Nat×aB)) (es gj:List (List aB)),(∀e∈es,e.length=sz)→xU sz es l=some gj →
 s6 es.flatten (l.map fun p=>(p.1*sz,sz,p.2))=some gj.flatten∧(∀e∈gj,e.length=sz)∧gj.length=es.length
 | [],es,gj,aT,h=>by simp [xU] at h;subst h;exact ⟨rfl,aT,rfl⟩
 | (i,x)::l,es,gj,aT,h=>by
  simp only [xU] at h
  split at h
  ·rename_i bf
   simp only [Bool.and_eq_true,decide_eq_true_eq] at bf
   obtain ⟨⟨h1,o⟩,ab⟩:=bf
   have Ld : ∀e∈es.set i x.cells,e.length=sz:=by
    intro e hm
    rcases List.mem_or_eq_of_mem_set hm with cD|cD
    ·exact aT e cD
    ·exact cD▸o
   obtain ⟨gB,hx,dn⟩:=Oh l (es.set i x.cells) gj Ld h
   have e:=Wj aT ab o
   have h9:i*sz+sz≤es.flatten.length:=by
    have:(setCells es.flatten (i*sz) x.cells).length=(es.set i x.cells).flatten.length:=by rw [e]
    have bc : ∀(es:List (List aB)),(∀e∈es,e.length=sz)→es.flatten.length=es.length*sz:=by
     intro es
     induction es with
     | nil=>simp
     | cons e es ih =>
      intro h
      rw [List.flatten_cons,List.length_append,ih fun x U=>h x (by simp [U]),h e (by simp),List.length_cons,Nat.add_mul];omega
    rw [bc es aT]
    have:=Nat.mul_le_mul_right sz (show i+1≤es.length by omega)
    rw [Nat.add_mul] at this;omega
   refine ⟨?_,hx,by simpa using dn⟩
   simp only [List.map_cons,s6,h1,o,h9,decide_true,Bool.and_self,if_true]
   rw [e];exact gB
  ·simp at h
theorem Xu {t:TypeId}{len:Nat}{parts:Array (Nat×Operand)}(h:cL g s ay a w)(eU:s.aW aV=none)(ap:I.op = .buildSlice t len parts)(aw:eR P s.E s.aW aV I cM=some bC):Fin P g s a w I bC:=by
 simp only [eR,ap] at aw
 split at aw
 ·rename_i e he
  split at aw
  ·rename_i z cv
   split at aw
   ·simp at aw
   ·rename_i bf
    simp only [not_or,Nat.not_lt,Decidable.not_not] at bf
    obtain ⟨mS,yg,yh⟩:=bf
    split at aw
    ·rename_i es hl
     simp only [Option.some.injEq] at aw;subst aw
     obtain ⟨it,eE,Bp,kX,eY,hcs⟩:=PN (w:=w) (s:=s) (g:=g) (ay:=ay) cv
     have jW:P.cellsOf e=it.size:=by simp [Program.cellsOf,Bp]
     have Q7 : ∀x∈List.replicate len z,x.length=z.length:=fun x U=>by rw [List.eq_of_mem_replicate U]
     obtain ⟨f1,f2,f3⟩:=Oh _ _ _ Q7 hl
     have qL:yK w (s.ok g ay w) s.a5 (s.bd ay) (List.replicate len z).flatten ((Array.range (len*it.size)).map (eE.cells[· % eE.cells.size]!)):=by
      have Eh:0<z.length:=by omega
      have lR : ∀j,j<len*it.size→((Array.range (len*it.size)).map (eE.cells[· % eE.cells.size]!))[j]? = eE.cells[j % z.length]? := by
       intro j aF
       rw [Array.getElem?_map,Array.getElem?_range]
       simp only [aF,if_true,Option.map_some]
       have hm:j % eE.cells.size<eE.cells.size:=Nat.mod_lt _ (by omega)
       rw [getElem!_pos eE.cells _ hm,← eY,Array.getElem?_eq_getElem hm]
      have dG : ∀(j:Nat) u,((Array.range (len*it.size)).map (eE.cells[· % eE.cells.size]!))[j]? = some u→j<len*it.size:=by
       intro j u hu
       have:=(Array.getElem?_eq_some_iff.1 hu).1
       simpa using this
      refine ⟨by simp [← jW,← yg],fun j u hu=> ?_,fun j x u U hu=> ?_⟩
      ·have aF:=dG j u hu
       rw [lR j aF] at hu
       exact hcs.2.1 _ _ hu
      ·have aF:=dG j u hu
       rw [lR j aF] at hu
       rw [oY Eh _ Q7,List.getElem?_replicate] at U
       split at U
       ·exact hcs.2.2 _ _ _ U hu
       ·simp at U
     obtain ⟨mR,g1,g2⟩:=Og (w:=w) (ok:=s.ok g ay w) (a5:=s.a5) (bd:=s.bd ay) (fun i=>some (i*it.size,it.size)) ((parts.toList.map fun p=>(p.1,fe s.E p.2)).map fun p=>(p.1*z.length,z.length,p.2)) (parts.map fun (i,x)=>(i,a.eval x)).toList _ _ es.flatten qL (by simp) (by
      intro j off size x i v aF bh
      simp only [Array.toList_map,List.getElem?_map,Option.map_eq_some_iff,List.map_map] at bh aF
      obtain ⟨⟨eF,cG⟩,ak,bh⟩:=bh
      obtain ⟨⟨pb,dY⟩,Bj,aF⟩:=aF
      rw [ak] at Bj
      simp only [Option.some.injEq,Prod.mk.injEq] at Bj bh
      obtain ⟨rfl,rfl⟩:=Bj
      obtain ⟨rfl,rfl⟩:=bh
      simp only [Function.comp,Prod.mk.injEq] at aF
      obtain ⟨rfl,rfl,rfl⟩:=aF
      exact ⟨by rw [← jW,← yg],h.eval cG⟩) f1
     have iN:(Instr.buildSlice t len (parts.map fun (i,x)=>(i,a.eval x))).run P w = .ok (.slice (some ⟨w.heap.size,0,none⟩) len len) (w.alloc (.cells mR e)):=by
      have h1 : ¬len*it.size>2 ^ 24:=by rw [← jW,← yg];omega
      by_cases h0:len*it.size=0
      ·have nj:len=0:=by
        rcases Nat.eq_zero_or_pos len with cD|cD
        ·exact cD
        ·have:0<len*it.size:=Nat.mul_pos cD (by omega)
         omega
       subst nj
       have e0:((Array.range (0*it.size)).map (eE.cells[· % eE.cells.size]!)) = #[]:=by simp
       rw [e0] at g1
       have ak:parts = #[]:=by
        obtain ⟨l⟩:=parts
        match l,hl with
        | [],_=>rfl
        | p::l,hl=>simp [xU] at hl
       subst ak
       have acd:mR = #[]:=by simpa [Instr.fill] using g1.symm
       subst acd
       simp [Instr.buildSlice,run_underlying (re he),sizeOf,typeInfo,Bp,newRow,Instr.fill]
       rw [Array.range_zero',Array.map_empty]
      ·simp only [Instr.buildSlice,run_underlying (re he),sizeOf,typeInfo,Bp,newRow,zeroValue,kX,Sem.run_bind,Result.andThen_ok,run_program,Sem.run_pure,Sem.run_ite,h1,h0,if_false]
       rw [g1];rfl
     refine DG (v:= .slice (some ⟨w.heap.size,0,none⟩) len len) (ao:=⟨z.length,es,.live⟩) (c:=mR) (eH:=e) h eU rfl ?_ rfl f2 ?_ ?_
     ·simp [execOp,ap,iN]
     ·intro j x U
      have aF:j<mR.size:=by
       rw [g2.1]
       rcases Nat.lt_or_ge j es.flatten.length with cD|cD
       ·exact cD
       ·rw [List.getElem?_eq_none cD] at U;simp at U
      have hu:mR[j]? = some mR[j]:=Array.getElem?_eq_getElem aF
      exact ⟨_,hu,g2.2.1 _ _ hu,g2.2.2 _ _ _ U hu⟩
     ·intro bN kN mO l6 hu ch
      refine Rel.bm hu ch (Nat.le_refl _) ?_ ⟨?_,.inr (by simp)⟩
      ·have:len≤len*z.length:=Nat.le_mul_of_pos_right _ (by omega)
       omega
      ·rw [g2.1]
       have bc : ∀(es:List (List aB)),(∀e∈es,e.length=z.length)→es.flatten.length=es.length*z.length:=by
        intro es
        induction es with
        | nil=>simp
        | cons e es ih =>
         intro h
         rw [List.flatten_cons,List.length_append,ih fun x U=>h x (by simp [U]),h e (by simp),List.length_cons,Nat.add_mul];omega
       rw [bc es f2,f3];simp
    ·simp at aw
  ·simp at aw
 ·simp at aw
theorem Dl (h:cL g s ay a w)(eU:s.aW aV=none)(aw:eR P s.E s.aW aV I cM=some bC)(cz:∀p∈bC.fu,p):Fin P g s a w I bC:=by
 cases ap:I.op with
 | move x=>exact PL h (.inl ap) aw
 | assign x=>exact PL h (.inr ap) aw
 | pick c x y=>exact aaI h ap aw cz
 | alloc t=>exact ZO h eU ap aw
 | box t x=>exact abe h eU ap aw
 | load t x=>exact aaJ h ap aw cz
 | store t x y=>exact ZP h ap aw cz
 | nilCheck x=>exact X5 h ap aw cz
 | binOp op t x y db=>exact ZQ h ap aw cz
 | unOp op t x=>exact aaK h ap aw
 | convert t db x=>exact Yu h ap aw
 | makeFunc f B5 cm=>exact X6 h ap aw
 | makeSlice t x y=>exact XN h eU ap aw cz
 | fieldAddr t x f=>exact XO h ap aw cz
 | field t x f=>exact ZU h ap aw
 | indexAddr t x y=>exact XP h ap aw cz
 | index t x y=>exact ZS h ap aw cz
 | extract x i=>exact Yv h ap aw
 | slice t x bV aq L8 =>
  cases L8 with
  | none=>exact ZT h ap aw cz
  | some m=>simp [eR,ap] at aw
 | build t jJ=>exact ZW h ap aw
 | buildSlice t n jJ=>exact Xu h eU ap aw
 | call c =>
  obtain ⟨Ei,args,mQ⟩:=c
  cases Ei with
  | builtin b=>cases b<;>first|exact abf h ap rfl aw cz|simp [eR,ap] at aw
  | value f=>simp [eR,ap] at aw
  | invoke r m=>simp [eR,ap] at aw
 | _=>simp [eR,ap] at aw
end
end Go.VL
namespace Go.VL
set_option linter.unusedVariables false
set_option linter.unusedSimpArgs false
open Go
def abg:Option ae→fx
 | some I=> .gh I []
 | none=> .none
def qy (sz:Nat)(aW:Nat→Option (List ae))(a:fx):aB→Option (List (List aB)×List Prop)
 | .isl Ej es=>if Ej=sz then some (es,[]) else none
 | .bm r k bV len=>match oI (aW r) k a with
  | some (ao,af)=>if ao.sz=sz then some ((ao.es.drop bV).take len,af++[bV+len≤ao.es.length]) else none
  | none=>none
 | .eo=>some ([],[])
 | .ib=>some ([],[])
 | _=>none
def uI (P:Program)(sz:Nat)(z:List aB)(aW:Nat→Option (List ae))(a:fx)(t db:TypeId)(y:aB):Option (List (List aB)×List Prop) :=
 if t=db then qy sz aW a y else
 match P.underlying db,y with
 | some (.int _),.n .i64 n=>some (List.replicate n.toNat z,[0≤n,n<9223372036854775808])
 | _,_=>none
def nD (P:Program)(E:Nat→aB)(aW:Nat→Option (List ae))(aV:Nat)(b:Builtin)(args:List aB)(mQ:List TypeId)(cM:fx):Option h2 :=
 match b,args,mQ,cM with
 | .append,[x,y],[t,db],.aJ m I =>
  match po P t with
  | none=>none
  | some e=>match P.info? e,ql P e with
   | some i,some z =>
    if z.length≠i.size∨i.size=0∨i.bytes=0 then none else
    match uI P i.size z aW (abg I) t db y with
    | none=>none
    | some (bA,af)=>match x with
     | .eo=>some {val:= .bm aV 0 0 m,fJ:=[(aV,[⟨i.size,bA,.live⟩])],fu:=af++[m=bA.length,m*i.bytes≤140737488355328]}
     | .bm r k 0 len=>match aW r with
      | none=>none
      | some row=>match dh (some row) k with
       | none=>none
       | some ao=>if ao.cp = .live∧ao.sz=i.size∧aV≠r then
        some {val:= .bm aV 0 0 m,fJ:=[(aV,[⟨i.size,ao.es.take len++bA,.live⟩]),(r,row.set k {ao with cp:= .gone})],fu:=af++[len≤ao.es.length,m=len+bA.length,m*i.bytes≤140737488355328]} else none
     | _=>none
   | _,_=>none
 | .append,[x,y],[t,db],.fP =>
  match po P t with
  | none=>none
  | some e=>match P.info? e,ql P e with
   | some i,some z =>
    if z.length≠i.size∨i.size=0∨i.bytes=0 then none else
    match uI P i.size z aW .none t db y with
    | none=>none
    | some (bA,af)=>match x with
     | .bm r k 0 len=>match aW r with
      | none=>none
      | some row=>match dh (some row) k with
       | none=>none
       | some ao=>if ao.cp = .live∧ao.sz=i.size then
        some {val:= .bm r k 0 (len+bA.length),fJ:=[(r,row.set k {ao with es:=ao.es.take len++bA})],fu:=af++[len+bA.length≤ao.es.length,bA.length*i.bytes≤140737488355328]} else none
     | _=>none
   | _,_=>none
 | .copy,[.bm r k 0 len,y],[t,_],_ =>
  match po P t with
  | none=>none
  | some e=>match P.info? e with
   | none=>none
   | some i=>match qy i.size aW .none y with
    | none=>none
    | some (bA,af)=>match aW r with
     | none=>none
     | some row=>match dh (some row) k with
      | none=>none
      | some ao=>if ao.cp = .live∧ao.sz=i.size∧i.size≠0 then
       some {val:= .n .i64 bA.length,fJ:=[(r,row.set k {ao with es:=bA++ao.es.drop bA.length})],fu:=af++[bA.length≤len,len≤ao.es.length]} else none
 | .clear,[.bm r k 0 len],[t],_ =>
  match po P t with
  | none=>none
  | some e=>match P.info? e,ql P e with
   | some i,some z=>match aW r with
    | none=>none
    | some row=>match dh (some row) k with
     | none=>none
     | some ao=>if ao.cp = .live∧ao.sz=i.size∧z.length=i.size∧i.size≠0 then
      some {val:= .dX [],fJ:=[(r,row.set k {ao with es:=List.replicate len z})],fu:=[ao.es.length=len]} else none
   | _,_=>none
 | .min,[.n k x,.n d8 y],_,_=>if k=d8 then some {val:= .n k (if y<x then y else x)} else none
 | _,_,_,_=>none
section
variable {g:G} {s:S} {ay:fm} {a:Act} {w bN:World}
theorem cL.gone (h:cL g s ay a w){r k:Nat}{l:List ae}{I:ae}(ar:s.aW r=some l)(ap:s.ao r k=some I):
 cL g (s.setRow r (l.set k {I with cp:= .gone})) ay a w ∧
  ∀x v,Rel w (s.ok g ay w) s.a5 (s.bd ay) x v→Rel w ((s.setRow r (l.set k {I with cp:= .gone})).ok g ay w) (s.setRow r (l.set k {I with cp:= .gone})).a5 ((s.setRow r (l.set k {I with cp:= .gone})).bd ay) x v:=by
 have bo : ∀q j p,(s.setRow r (l.set k {I with cp:= .gone})).ao q j=some p→s.ao q j=some p∧ ¬(q=r∧j=k):=by
  intro q j p ak
  rw [lr] at ak
  by_cases e:q=r
  ·subst e
   rw [if_pos rfl] at ak
   unfold dh at ak
   simp only [List.getElem?_set] at ak
   by_cases aD:k=j
   ·subst aD
    by_cases a8:k<l.length
    ·simp [a8] at ak
    ·simp [a8] at ak
   ·rw [if_neg aD] at ak
    refine ⟨?_,fun fL=>aD fL.2.symm⟩
    unfold S.ao;rw [ar];exact ak
  ·rw [if_neg e] at ak
   exact ⟨ak,fun fL=>e fL.1⟩
 have dy:Step g s ay w (s.setRow r (l.set k {I with cp:= .gone})) ay w:=by
  refine ⟨C5 s ar (by simp),fun q j bc=> ?_,fun b aT=> ?_,fun _ _ _=>rfl,Nat.le_refl _⟩
  ·cases ak:(s.setRow r (l.set k {I with cp:= .gone})).ao q j with
   | none=>right;simp [S.bd,ak]
   | some p=>left;simp [S.bd,ak,(bo q j p ak).1]
  ·obtain ⟨q,j,p,m,h1,o,ab⟩:=aT
   exact .inl ⟨q,j,p,m,(bo q j p h1).1,o,ab⟩
 refine ⟨{tohZ:=⟨?_,?_,?_,h.gQ,h.mlt,h.nd,dy.stay h.stay,h.low⟩,env:=fun t=>dy.rel (h.env t),defers:=h.defers,jF:=h.jF},fun x v=>dy.rel⟩
 ·intro q j p ak
  exact dy.obj (fun b m _=>rfl) (h.obj q j p (bo q j p ak).1)
 ·intro q j p hv hK kd b m cx h1 o ab av
  exact h.inj q j p hv hK kd b m cx (bo q j p h1).1 (bo hv hK kd o).1 ab av
 ·intro q j p b m h1 o
  exact h.own q j p b m (bo q j p h1).1 o
theorem cL.PO (h:cL g s ay a w){aV sz:Nat}(eU:s.aW aV=none):
 ∃bM,bM aV 0=none∧cL g (s.setRow aV [⟨sz,[],.live⟩]) bM a w:=by
 have bo : ∀q k,q≠aV→(s.setRow aV [⟨sz,[],.live⟩]).ao q k=s.ao q k:=fun q k bc=>by rw [lr,if_neg bc]
 let bM:fm:=fun q k=>if q=aV then none else ay q k
 have dr : ∀q k,s.a5 q k→q≠aV:=by
  rintro q k bc rfl;exact w6 eU k bc
 have KQ : ∀k I,(s.setRow aV [⟨sz,[],.live⟩]).ao aV k=some I→I=⟨sz,[],.live⟩:=by
  intro k I ap
  rw [lr,if_pos rfl,lY] at ap
  split at ap
  ·simp at ap;exact ap.symm
  ·simp at ap
 have dy:Step g s ay w (s.setRow aV [⟨sz,[],.live⟩]) bM w:=by
  refine ⟨fun q k bc=>(m5 _ _ _ _ _).2 (by rw [if_neg (dr q k bc)];exact bc),fun q k bc=> .inl ?_,fun b aT=> ?_,fun _ _ _=>rfl,Nat.le_refl _⟩
  ·simp [S.bd,bo q k (dr q k bc),bM,dr q k bc]
  ·obtain ⟨q,k,I,m,h1,o,ab⟩:=aT
   by_cases e:q=aV
   ·subst e;simp [bM] at ab
   ·rw [bo q k e] at h1
    simp only [bM,if_neg e] at ab
    exact .inl ⟨q,k,I,m,h1,o,ab⟩
 refine ⟨bM,by simp [bM],{tohZ:=⟨?_,?_,?_,h.gQ,h.mlt,h.nd,dy.stay h.stay,h.low⟩,env:=fun t=>dy.rel (h.env t),defers:=h.defers,jF:=h.jF}⟩
 ·intro q k I ap
  by_cases e:q=aV
  ·subst e
   rw [KQ k I ap]
   simp [bM,jb]
  ·rw [bo q k e] at ap
   have:=dy.obj (fun b m _=>rfl) (h.obj q k I ap)
   simpa [bM,e] using this
 ·intro q k I hv d8 b6 b m cx h1 o ab av
  have e:q≠aV:=by rintro rfl;simp [bM] at ab
  have eN:hv≠aV:=by rintro rfl;simp [bM] at av
  rw [bo q k e] at h1
  rw [bo hv d8 eN] at o
  simp only [bM,if_neg e] at ab
  simp only [bM,if_neg eN] at av
  exact h.inj q k I hv d8 b6 b m cx h1 o ab av
 ·intro q k I b m h1 o
  have e:q≠aV:=by rintro rfl;simp [bM] at o
  rw [bo q k e] at h1
  simp only [bM,if_neg e] at o
  exact h.own q k I b m h1 o
theorem cL.turn (h:cL g s ay a w){r k b m aV:Nat}{l:List ae}{I:ae}(ar:s.aW r=some l)(ap:s.ao r k=some I)(a8:I.cp = .live)(ak:ay r k=some (b,m))
 (eU:s.aW aV=none) (b6:ae) (oN:b6.cp = .live) (c:Array Value) (eH:TypeId)
 (hw:bN.heap[b]? = some (.cells c eH (0,0))) (eY:bN.heap.size=w.heap.size) (uH : ∀q,q≠b→bN.heap[q]? = w.heap[q]?)
 (p8:bN.os=w.os) (Lb:bN.tape=w.tape) (KN:bN.output=w.output) (hm:c.size=m) (hlen : ∀e∈b6.es,e.length=b6.sz)
 (bf : ∀(j:Nat) x,b6.es.flatten[j]? = some x→ ∃v,c[j]? = some v∧j7 v=true∧Rel w (s.ok g ay w) s.a5 (s.bd ay) x v) :
 ∃bM,bM aV 0=some (b,m)∧cL g ((s.setRow aV [b6]).setRow r (l.set k {I with cp:= .gone})) bM a bN:=by
 have dr:r≠aV:=by rintro rfl;rw [eU] at ar;simp at ar
 have Q8 : ∀k,¬s.a5 aV k:=w6 eU
 let bR:=(s.setRow aV [b6]).setRow r (l.set k {I with cp:= .gone})
 let bM:fm:=ay.set aV 0 (some (b,m))
 have bo : ∀q j p,bR.ao q j=some p→(q=aV∧j=0∧p=b6)∨(q≠aV∧s.ao q j=some p∧ ¬(q=r∧j=k)):=by
  intro q j p bc
  rw [lr] at bc
  by_cases e:q=r
  ·subst e
   rw [if_pos rfl] at bc
   unfold dh at bc
   simp only [List.getElem?_set] at bc
   by_cases aD:k=j
   ·subst aD
    by_cases a8:k<l.length<;>simp [a8] at bc
   ·rw [if_neg aD] at bc
    refine .inr ⟨dr,?_,fun fL=>aD fL.2.symm⟩
    unfold S.ao;rw [ar];exact bc
  ·rw [if_neg e,lr] at bc
   by_cases aD:q=aV
   ·subst aD
    rw [if_pos rfl,lY] at bc
    split at bc
    ·rename_i h0;simp at bc;exact .inl ⟨rfl,h0.1,bc.symm⟩
    ·simp at bc
   ·rw [if_neg aD] at bc
    exact .inr ⟨aD,bc,fun fL=>e fL.1⟩
 have lA : ∀q j,q≠aV→bM q j=ay q j:=fun q j bc=>by simp [bM,fm.set,bc]
 have yi:bM aV 0=some (b,m):=by simp [bM,fm.set]
 have pn:s.lI ay b:=⟨r,k,I,m,ap,a8,ak⟩
 have jg : ∀q j,s.a5 q j→bR.a5 q j:=fun q j bc=>by
  have e:q≠aV:=fun e=>Q8 j (e▸bc)
  rw [m5,m5,if_neg e]
  by_cases aD:q=r
  ·subst aD;rw [if_pos rfl];simpa [S.a5,ar] using bc
  ·rw [if_neg aD];exact bc
 have dy:Step g s ay w bR bM bN:=by
  refine ⟨jg,fun q j bc=> ?_,fun q aT=> ?_,fun q bc aT=>uH q fun e=>aT (e▸pn),Nat.le_of_eq eY.symm⟩
  ·have nh:q≠aV:=fun e=>Q8 j (e▸bc)
   cases km:bR.ao q j with
   | none=>right;simp [S.bd,km]
   | some p =>
    left
    rcases bo q j p km with ⟨e,-⟩|⟨-,aD,-⟩
    ·exact absurd e nh
    ·simp [S.bd,km,aD,lA q j nh]
  ·obtain ⟨hv,j,p,cx,h1,o,ab⟩:=aT
   rcases bo hv j p h1 with ⟨rfl,rfl,rfl⟩|⟨e1,aD,-⟩
   ·rw [yi] at ab;simp at ab;exact .inl (ab.1▸pn)
   ·rw [lA hv j e1] at ab;exact .inl ⟨hv,j,p,cx,aD,o,ab⟩
 refine ⟨bM,yi,{tohZ:=⟨?_,?_,?_,?_,h.mlt,h.nd,dy.stay h.stay,h.low⟩,env:=fun t=>dy.rel (h.env t),defers:=h.defers,jF:=h.jF}⟩
 ·intro q j p km
  rcases bo q j p km with ⟨rfl,rfl,rfl⟩|⟨e1,aD,bS⟩
  ·rw [yi]
   exact ⟨c,eH,hw,hm,hlen,fun i x U=>let ⟨v,f1,f2,f3⟩:=bf i x U;⟨v,f1,f2,dy.rel f3⟩⟩
  ·rw [lA q j e1]
   refine dy.obj (fun ke cx kW=>uH ke ?_) (h.obj q j p aD)
   rintro rfl
   exact bS (h.inj q j p r k I ke cx m aD ap kW ak)
 ·intro q j p hv hK kd ke ij hf h1 o ab av
  rcases bo q j p h1 with ⟨rfl,rfl,rfl⟩|⟨e1,aD,bS⟩<;>rcases bo hv hK kd o with ⟨rfl,rfl,rfl⟩|⟨mT,o7,Bq⟩
  ·exact ⟨rfl,rfl⟩
  ·rw [yi] at ab;simp at ab
   rw [lA hv hK mT] at av
   obtain ⟨rfl,rfl⟩:=ab
   exact absurd (h.inj hv hK kd r k I b hf m o7 ap av ak) Bq
  ·rw [yi] at av;simp at av
   rw [lA q j e1] at ab
   obtain ⟨rfl,rfl⟩:=av
   exact absurd (h.inj q j p r k I b ij m aD ap ab ak) bS
  ·rw [lA q j e1] at ab;rw [lA hv hK mT] at av
   exact h.inj q j p hv hK kd ke ij hf aD o7 ab av
 ·intro q j p ke cx h1 o
  rcases bo q j p h1 with ⟨rfl,rfl,rfl⟩|⟨e1,aD,-⟩
  ·rw [yi] at o;simp at o
   rw [← o.1]
   exact h.own r k I b m ap ak
  ·rw [lA q j e1] at o;exact h.own q j p ke cx aD o
 ·refine h.gQ.step p8 Lb KN (Nat.le_of_eq eY.symm) fun ke qJ kW=>uH ke ?_
  rintro rfl
  rcases h.own r k I ke m ap ak with h1|h1
  ·omega
  ·exact kW h1
theorem oe.nB {ok:Nat→Prop}{a5:i2}{bd:iR}{d3 I sz:Nat}{es:List (List aB)}(h:oe w ok a5 bd d3 I sz es):
 ∃vs:List Value,vs.length=es.length*sz∧(∀(j:Nat) u,vs[j]? = some u→w.cell? ((⟨d3,I,none⟩:Addr).add j)=some u)∧(∀u∈vs,u.oneCell'=true) ∧
  ∀(j:Nat) x u,es.flatten[j]? = some x→vs[j]? = some u→Rel w ok a5 bd x u:=by
 have jG:es.flatten.length=es.length*sz:=by
  have : ∀(es:List (List aB)),(∀e∈es,e.length=sz)→es.flatten.length=es.length*sz:=by
   intro es
   induction es with
   | nil=>intro _;simp
   | cons e es ih =>
    intro fL
    rw [List.flatten_cons,List.length_append,ih fun x U=>fL x (by simp [U]),fL e (by simp),List.length_cons,Nat.add_mul];omega
  exact this es h.1
 have U : ∀i,i<es.length*sz→ ∃v,∀x,es.flatten[i]? = some x→w.cell? ⟨d3,I+i,none⟩=some v∧j7 v=true∧Rel w ok a5 bd x v:=by
  intro i aq
  have aF:=List.getElem?_eq_getElem (l:=es.flatten) (i:=i) (by omega)
  obtain ⟨v,h1⟩:=h.2 i _ aF
  exact ⟨v,fun x U=>by rw [aF] at U;simp at U;subst U;exact h1⟩
 let vs:List Value:=(List.range (es.length*sz)).map fun i=>if aq:i<es.length*sz then (U i aq).choose else undef
 have pu:vs.length=es.length*sz:=by simp [vs]
 have lR : ∀(i:Nat) u x,vs[i]? = some u→es.flatten[i]? = some x→w.cell? ⟨d3,I+i,none⟩=some u∧j7 u=true∧Rel w ok a5 bd x u:=by
  intro i u x hu Br
  have aq:i<es.length*sz:=by
   rcases Nat.lt_or_ge i vs.length with cD|cD
   ·omega
   ·rw [List.getElem?_eq_none cD] at hu;simp at hu
  simp only [vs,List.getElem?_map,List.getElem?_range aq,Option.map_some,dif_pos aq,Option.some.injEq] at hu
  subst hu
  exact (U i aq).choose_spec x Br
 have hex : ∀(i:Nat) u,vs[i]? = some u→ ∃x,es.flatten[i]? = some x:=by
  intro i u hu
  have aq:i<es.flatten.length:=by
   rcases Nat.lt_or_ge i vs.length with cD|cD
   ·omega
   ·rw [List.getElem?_eq_none cD] at hu;simp at hu
  exact ⟨_,List.getElem?_eq_getElem aq⟩
 refine ⟨vs,pu,fun j u hu=> ?_,fun u hu=> ?_,fun j x u dC hu=>(lR j u x hu dC).2.2⟩
 ·obtain ⟨x,Br⟩:=hex j u hu
  rw [rc];exact (lR j u x hu Br).1
 ·obtain ⟨j,aF⟩:=List.getElem?_of_mem hu
  obtain ⟨x,Br⟩:=hex j u aF
  exact (lR j u x aF Br).2.1
theorem Xc {es bA:List (List aB)}{sz:Nat}{xs news:List Value}(U:xs.length=es.length*sz)(he:∀e∈es,e.length=sz){j:Nat}{x:aB}(h:(es++bA).flatten[j]? = some x)
 {ok:Nat→Prop} {a5:i2} {bd:iR} (h1 : ∀(j:Nat) x u,es.flatten[j]? = some x→xs[j]? = some u→Rel w ok a5 bd x u) (o : ∀(j:Nat) x u,bA.flatten[j]? = some x→news[j]? = some u→Rel w ok a5 bd x u)
 {u:Value} (hu:(xs++news)[j]? = some u):Rel w ok a5 bd x u:=by
 have jG:es.flatten.length=es.length*sz:=by
  have : ∀(es:List (List aB)),(∀e∈es,e.length=sz)→es.flatten.length=es.length*sz:=by
   intro es
   induction es with
   | nil=>intro _;simp
   | cons e es ih =>
    intro fL
    rw [List.flatten_cons,List.length_append,ih fun x U=>fL x (by simp [U]),fL e (by simp),List.length_cons,Nat.add_mul];omega
  exact this es he
 rw [List.flatten_append,List.getElem?_append] at h
 rw [List.getElem?_append] at hu
 by_cases aF:j<es.flatten.length
 ·rw [if_pos aF] at h
  rw [if_pos (by omega)] at hu
  exact h1 j x u h hu
 ·rw [if_neg aF] at h
  rw [if_neg (by omega)] at hu
  rw [jG] at h
  rw [U] at hu
  exact o _ x u h hu
variable {P:Program}
theorem Pd (h:cL g s ay a w){sz:Nat}{x:aB}{fq:fx}{bA:List (List aB)}{ao:List Prop}(he:qy sz s.aW fq x=some (bA,ao))(bo:∀p∈ao,p){v:Value}(bh:Rel w (s.ok g ay w) s.a5 (s.bd ay) x v):
 ∃A c,v = .slice A bA.length c∧(∀e∈bA,e.length=sz)∧(bA.length=0∨ ∃d3 off,A=some ⟨d3,off,none⟩∧oe w (s.ok g ay w) s.a5 (s.bd ay) d3 off sz bA):=by
 cases x with
 | isl Ej es =>
  simp only [qy] at he
  split at he
  ·rename_i b0
   subst b0
   simp only [Option.some.injEq,Prod.mk.injEq] at he
   obtain ⟨rfl,rfl⟩:=he
   rcases bh.rU with ⟨rfl,A,c,rfl,-⟩|⟨d3,off,c,-,rfl,-,ic⟩
   ·exact ⟨A,c,rfl,by simp,.inl rfl⟩
   ·exact ⟨_,c,rfl,ic.1,.inr ⟨d3,off,rfl,ic⟩⟩
  ·simp at he
 | bm r k bV len =>
  simp only [qy] at he
  split at he
  ·rename_i nk af j9
   split at he
   ·rename_i b0
    simp only [Option.some.injEq,Prod.mk.injEq] at he
    obtain ⟨rfl,rfl⟩:=he
    have h9:bV+len≤nk.es.length:=bo _ (by simp)
    have ap:s.ao r k=some nk:=sY j9 (fun p ak=>bo p (by simp [ak]))
    have fs:=h.obj r k nk ap
    have aT:((nk.es.drop bV).take len).length=len:=by simp;omega
    rcases bh.Ai (iu ap) with ⟨-,rfl,rfl,rfl⟩|⟨b,m,A,c,ak,rfl,qK,-,hm⟩
    ·exact ⟨none,0,by simp,by simp,.inl (by simp)⟩
    ·rw [ak] at fs
     have ic:=fs.rd
     subst b0
     have uV:=C6 ic bV len (by omega)
     refine ⟨A,c,by rw [aT],uV.1,?_⟩
     rcases hm with rfl|⟨rfl,-⟩
     ·left;rw [aT];omega
     ·right
      rw [Nat.zero_add] at uV
      exact ⟨b,_,rfl,uV⟩
   ·simp at he
  ·simp at he
 | eo =>
  simp only [qy,Option.some.injEq,Prod.mk.injEq] at he
  obtain ⟨rfl,rfl⟩:=he
  rw [bh.pg]
  exact ⟨none,0,rfl,by simp,.inl rfl⟩
 | ib =>
  simp only [qy,Option.some.injEq,Prod.mk.injEq] at he
  obtain ⟨rfl,rfl⟩:=he
  obtain ⟨A,c,rfl⟩:=bh.DF
  exact ⟨some A,c,rfl,by simp,.inl rfl⟩
 | _=>simp [qy] at he
structure KR (P:Program) (w:World) (t db eH e:TypeId) (i:TypeInfo) (eE np:Value) (n:Nat) (vs:List Value):Prop where
 zero:n=0→ ∀(B:Option Addr) (len cap:Nat),len≤cap→(Builtin.append_ #[t,db] eH #[.slice B len cap,np]).run P w = .ok (.slice B len cap) w
 nil:0<n→(n:Int)≤9223372036854775807→n*i.bytes≤140737488355328 →
  (Builtin.append_ #[t,db] eH #[.slice none 0 0,np]).run P w = .ok (.slice (some ⟨w.heap.size,0,none⟩) n (grownCap w n 0 e)) (w.drew.alloc (.cells (vs.toArray++Builtin.zeroCells eE.cells (grownCap w n 0 e-n)) e))
 room:0<n→ ∀(g iH lM:Nat) (ly:Array Value) (eN:TypeId),w.heap[g]? = some (.cells ly eN (0,0))→iH+n≤lM→iH*i.size+vs.length≤ly.size→n*i.bytes≤140737488355328 →
  (Builtin.append_ #[t,db] eH #[.slice (some ⟨g,0,none⟩) iH lM,np]).run P w = .ok (.slice (some ⟨g,0,none⟩) (iH+n) lM) (w.setRow g (ly.toList.take (iH*i.size)++vs++ly.toList.drop (iH*i.size+vs.length)).toArray)
 grow:0<n→ ∀(b:Addr) (iH lM:Nat) (uW:List Value),uW.length=iH*i.size→(∀(j:Nat) v,uW[j]? = some v→w.cell? (b.add j)=some v)→lM<iH+n→((iH+n:Nat):Int)≤9223372036854775807→Builtin.nextslicecap (iH+n) lM*i.bytes≤281474976710656→n*i.bytes≤140737488355328 →
  (Builtin.append_ #[t,db] eH #[.slice (some b) iH lM,np]).run P w = .ok (.slice (some ⟨w.heap.size,0,none⟩) (iH+n) (grownCap w (iH+n) lM e))
    (w.drew.alloc (.cells (uW.toArray++vs.toArray++Builtin.zeroCells eE.cells (grownCap w (iH+n) lM e-(iH+n))) e))
theorem Wk (t eH e:TypeId)(i:TypeInfo)(ch:P.underlying t=some (.slice e))(aq:P.info? e=some i)
 (g iH lM:Nat) (ly:Array Value) (eN:TypeId) (dH:w.heap[g]? = some (.cells ly eN (0,0)))
 (a:Addr) (m c:Nat) (news:List Value) (aT:news.length=m*i.size) (abL : ∀j u,news[j]? = some u→w.cell? (a.add j)=some u) (h1 : ∀u∈news,u.oneCell'=true)
 (r4:iH+m≤lM) (h9:iH*i.size+news.length≤ly.size) :
 (Builtin.append_ #[t,t] eH #[.slice (some ⟨g,0,none⟩) iH lM,.slice (some a) m c]).run P w =
   .ok (.slice (some ⟨g,0,none⟩) (iH+m) lM) (w.setRow g (ly.toList.take (iH*i.size)++news++ly.toList.drop (iH*i.size+news.length)).toArray):=by
 have cl:=run_firstCells_some (P:=P) w i.size m a m c news aT abL
 have l7:=run_storeCells_at P g (iH*i.size) eN news 0 ly w dH (by simpa using h9) h1
 simp only [Nat.add_zero] at l7
 simp [Builtin.append_,run_underlying ch,sizeOf,typeInfo,aq,Builtin.lenOf,r4,cl,Addr.add_lit,l7]
theorem Oi {t eH e:TypeId}{i:TypeInfo}{eE:Value}(ch:P.underlying t=some (.slice e))(aq:P.info? e=some i)(cv:i.zero=some eE){A:Option Addr}{n c:Nat}{vs:List Value}(aT:vs.length=n*i.size)
 (hA:n=0∨ ∃a,A=some a∧ ∀(j:Nat) u,vs[j]? = some u→w.cell? (a.add j)=some u) (h1 : ∀u∈vs,u.oneCell'=true):KR P w t t eH e i eE (.slice A n c) n vs where
 zero:=fun h0 B len cap AY=>by
  subst h0
  cases A<;>cases B<;>simp [Builtin.append_,run_underlying ch,sizeOf,typeInfo,aq,Builtin.lenOf,AY,Builtin.firstCells,loadCells,loadCellsFrom,storeCells]
 nil:=fun h0 u0 yj=>by
  obtain ⟨a,rfl,bF⟩:=hA.resolve_left (by omega)
  exact run_append_nil (P:=P) w t eH e i eE ch aq cv a n c vs aT bF h0 u0 (by omega)
 room:=fun a4 g iH lM ly eN dH r4 h9 _=>by
  obtain ⟨a,rfl,bF⟩:=hA.resolve_left (by omega)
  exact Wk t eH e i ch aq g iH lM ly eN dH a n c vs aT bF h1 r4 h9
 grow:=fun a4 b iH lM uW ap hold dH u0 h9 _=>by
  obtain ⟨a,rfl,bF⟩:=hA.resolve_left (by omega)
  exact run_append_grow (P:=P) w t eH e i eE ch aq cv b iH lM uW ap hold a n c vs aT bF dH u0 h9
theorem Yy {t db eH e:TypeId}{i:TypeInfo}{eE:Value}{k:IntKind}(ch:P.underlying t=some (.slice e))(nC:P.underlying db=some (.int k))(aq:P.info? e=some i)(cv:i.zero=some eE)(lz:eE.cells.size=i.size){m:Nat}(afu:(m:Int)<9223372036854775808)
 (h1 : ∀u∈(Builtin.zeroCells eE.cells m).toList,u.oneCell'=true):KR P w t db eH e i eE (.int .i64 m) m (Builtin.zeroCells eE.cells m).toList:=by
 have hw:IntKind.i64.wrap (m:Int)=m:=by simp [IntKind.wrap,IntKind.bits,IntKind.signed];omega
 have nb : ¬((m:Int)<0):=by omega
 have qL : ∀cx,cx*i.size=0→Builtin.zeroCells eE.cells cx = #[]:=fun cx hm=>by
  apply Array.eq_empty_of_size_eq_zero
  rw [size_zeroCells,lz,hm]
 have Ek : ∀bN:World,(if m*i.size=0 then (pure #[]:Sem (Array Value)) else do pure (Builtin.zeroCells (← zeroValue e).cells m)).run P bN = .ok (Builtin.zeroCells eE.cells m) bN:=fun bN=>by
  split
  ·rename_i hm;rw [qL _ hm];rfl
  ·simp [zeroValue,typeInfo,aq,cv]
 have KS : ∀b:Nat,m*b≤140737488355328→ ¬(281474976710656<(m:Int)*(b:Int)):=fun b aS=>by
  have:((m*b:Nat):Int)≤140737488355328:=by omega
  rw [Int.natCast_mul] at this
  omega
 refine ⟨fun a4 B len cap AY=> ?_,fun a4 u0 yj=> ?_,fun a4 g iH lM ly eN dH r4 h9 yj=> ?_,fun a4 b iH lM uW ap hold dH u0 h9 yj=> ?_⟩
 ·subst a4
  have Lf:IntKind.i64.wrap 0=0:=by simpa using hw
  cases B<;>simp [Builtin.append_,run_underlying ch,run_underlying nC,sizeOf,typeInfo,aq,AY,asInt,asIntOf,Lf,storeCells]
 ·have El : ¬m=0:=by omega
  have AZ : ¬(9223372036854775807<(m:Int)):=by omega
  have tc:=KS _ yj
  have A0 : ¬(281474976710656<Builtin.nextslicecap m 0*i.bytes):=by rw [nextslicecap_zero a4];omega
  have o:=Ek w.drew
  by_cases hm:m*i.size=0
  ·simp [Builtin.append_,run_underlying ch,run_underlying nC,sizeOf,typeInfo,zeroValue,aq,cv,asInt,asIntOf,hw,nb,tc,El,AZ,A0,Question.forced,run_firstCells_none,newRow,grownCap,hm,qL _ hm]
  ·simp [Builtin.append_,run_underlying ch,run_underlying nC,sizeOf,typeInfo,zeroValue,aq,cv,asInt,asIntOf,hw,nb,tc,El,AZ,A0,Question.forced,run_firstCells_none,newRow,grownCap,hm]
 ·have tc:=KS _ yj
  have l7:=run_storeCells_at P g (iH*i.size) eN (Builtin.zeroCells eE.cells m).toList 0 ly w dH (by simpa using h9) h1
  simp only [Nat.add_zero] at l7
  by_cases hm:m*i.size=0
  ·rw [qL _ hm] at l7
   have ace:(storeCells ⟨g,iH*i.size,none⟩ []).run P w = .ok () (w.setRow g ly):=by simpa using l7
   simp [Builtin.append_,run_underlying ch,run_underlying nC,sizeOf,typeInfo,zeroValue,aq,cv,asInt,asIntOf,hw,nb,tc,r4,hm,qL _ hm,Addr.add_lit,ace]
  ·simp [Builtin.append_,run_underlying ch,run_underlying nC,sizeOf,typeInfo,zeroValue,aq,cv,asInt,asIntOf,hw,nb,tc,r4,hm,Addr.add_lit,l7]
 ·have tc:=KS _ yj
  have Rx : ¬(iH+m≤lM):=by omega
  have AZ : ¬(9223372036854775807<((iH:Int)+(m:Int))):=by omega
  have A0 : ¬(281474976710656<Builtin.nextslicecap (iH+m) lM*i.bytes):=by omega
  have Ry:=run_firstCells_some (P:=P) w.drew i.size iH b iH lM uW ap (by simpa using hold)
  by_cases hm:m*i.size=0
  ·simp [Builtin.append_,run_underlying ch,run_underlying nC,sizeOf,typeInfo,zeroValue,aq,cv,asInt,asIntOf,hw,nb,tc,Rx,AZ,A0,Question.forced,Ry,newRow,grownCap,hm,qL _ hm]
  ·simp [Builtin.append_,run_underlying ch,run_underlying nC,sizeOf,typeInfo,zeroValue,aq,cv,asInt,asIntOf,hw,nb,tc,Rx,AZ,A0,Question.forced,Ry,newRow,grownCap,hm]
theorem IX {aV:Nat}{e:TypeId}{v:Value}{i:TypeInfo}{m:Nat}(h:cL g s ay a w)(eU:s.aW aV=none){es:List (List aB)}(hlen:∀x∈es,x.length=i.size)(hm:m=es.length)
 {nB:List Value} {sx:Array Value} {cap:Nat} (pu:nB.length=es.length*i.size) (lL : ∀u∈nB,u.oneCell'=true) (acR:sx.size=(cap-m)*i.size) (AY:m≤cap) (acf:cap<9223372036854775808)
 (fs : ∀(j:Nat) x u,es.flatten[j]? = some x→nB[j]? = some u→Rel w (s.ok g ay w) s.a5 (s.bd ay) x u)
 (bh:v = .slice (some ⟨w.heap.size,0,none⟩) m cap) :
 ∃bM,cL g (s.setRow aV [⟨i.size,es,.live⟩]) bM a (w.drew.alloc (.cells (nB.toArray++sx) e)) ∧
  Rel (w.drew.alloc (.cells (nB.toArray++sx) e)) ((s.setRow aV [⟨i.size,es,.live⟩]).ok g bM (w.drew.alloc (.cells (nB.toArray++sx) e))) (s.setRow aV [⟨i.size,es,.live⟩]).a5 ((s.setRow aV [⟨i.size,es,.live⟩]).bd bM) (.bm aV 0 0 m) v:=by
 have bJ:=h.drew
 have jG:es.flatten.length=es.length*i.size:=by
  have : ∀(es:List (List aB)),(∀e∈es,e.length=i.size)→es.flatten.length=es.length*i.size:=by
   intro es
   induction es with
   | nil=>intro _;simp
   | cons e es ih =>
    intro fL
    rw [List.flatten_cons,List.length_append,ih fun x U=>fL x (by simp [U]),fL e (by simp),List.length_cons,Nat.add_mul];omega
  exact this es hlen
 obtain ⟨bM,p1,hi,-⟩:=bJ.alloc eU ⟨i.size,es,.live⟩ rfl (nB.toArray++sx) e hlen (fun j x U=>by
  have aF:j<nB.length:=by
   rcases Nat.lt_or_ge j es.flatten.length with cD|cD
   ·omega
   ·rw [List.getElem?_eq_none cD] at U;simp at U
  refine ⟨nB[j],?_,lL _ (List.getElem_mem aF),?_⟩
  ·rw [Array.getElem?_append_left (by simpa using aF)]
   simp [aF]
  ·exact (fs j x _ U (List.getElem?_eq_getElem aF)).drew)
 refine ⟨bM,hi,?_⟩
 subst bh
 have ap:(s.setRow aV [⟨i.size,es,.live⟩]).ao aV 0=some ⟨i.size,es,.live⟩:=by rw [lr,if_pos rfl,lY];simp
 refine Rel.bm (sz:=i.size) (d3:=w.heap.size) (m:=(nB.toArray++sx).size) ((m5 _ _ _ _ _).2 (by simp)) ?_ AY acf ⟨?_,.inr (by simp)⟩
 ·rw [iu ap,p1];rfl
 ·simp only [Array.size_append,List.size_toArray,acR,pu,Nat.zero_add]
  rw [← hm,← Nat.add_mul]
  congr 1;omega
section
variable {I:Oper} {cM:fx} {aV:Nat} {bC:h2}
theorem ON (h:cL g s ay a w){t db eH e:TypeId}{i:TypeInfo}{z:List aB}(hu:P.underlying t=some (.slice e))(aq:P.info? e=some i)(cv:ql P e=some z)(ni:z.length=i.size)(jZ:i.size≠0)
 {y:aB} {fq:fx} {bA:List (List aB)} {ao:List Prop} (he:uI P i.size z s.aW fq t db y=some (bA,ao)) (bo : ∀p∈ao,p) {np:Value} (a3:Rel w (s.ok g ay w) s.a5 (s.bd ay) y np) :
 ∃eE vs,i.zero=some eE∧eE.cells.size=i.size∧KR P w t db eH e i eE np bA.length vs∧(∀x∈bA,x.length=i.size)∧vs.length=bA.length*i.size∧(∀u∈vs,u.oneCell'=true) ∧
  ∀(j:Nat) x u,bA.flatten[j]? = some x→vs[j]? = some u→Rel w (s.ok g ay w) s.a5 (s.bd ay) x u:=by
 obtain ⟨eF,eE,kB,kX,pE,tk⟩:=z0 cv
 rw [aq] at kB;simp at kB;subst kB
 have lz:eE.cells.size=i.size:=by rw [← ni,pE];simp
 unfold uI at he
 split at he
 ·rename_i acS
  subst acS
  obtain ⟨A,c,rfl,hlen,Lg⟩:=Pd h he bo a3
  rcases Lg with h0|⟨d3,off,rfl,ic⟩
  ·have:bA=[]:=List.length_eq_zero_iff.1 h0
   subst this
   exact ⟨eE,[],kX,lz,Oi hu aq kX (by simp) (.inl rfl) (by simp),hlen,by simp,by simp,by simp⟩
  ·obtain ⟨vs,v1,v2,v3,v4⟩:=ic.nB
   exact ⟨eE,vs,kX,lz,Oi hu aq kX v1 (.inr ⟨_,rfl,v2⟩) v3,hlen,v1,v3,v4⟩
 ·split at he
  ·rename_i k n a8
   simp only [Option.some.injEq,Prod.mk.injEq] at he
   obtain ⟨rfl,rfl⟩:=he
   have h0:0≤n:=bo _ (by simp)
   have u0:n<9223372036854775808:=bo _ (by simp)
   obtain ⟨m,rfl⟩:=Int.eq_ofNat_of_zero_le h0
   have acT:np = .int .i64 m:=by cases a3;rfl
   subst acT
   have lR : ∀(j:Nat) u,(Builtin.zeroCells eE.cells m).toList[j]? = some u→eE.cells[j % i.size]? = some u:=by
    intro j u nE
    have aF:=(List.getElem?_eq_some_iff.1 nE).1
    rw [Array.length_toList,size_zeroCells,lz] at aF
    have dG:j % i.size<eE.cells.size:=by rw [lz];exact Nat.mod_lt _ (by omega)
    rw [Array.getElem?_toList,Builtin.zeroCells,Array.getElem?_map,lz,Array.getElem?_range] at nE
    rw [if_pos aF] at nE
    simp only [Option.map_some,Option.some.injEq] at nE
    rw [← nE,Array.getElem?_eq_getElem dG,getElem!_pos eE.cells _ dG]
   refine ⟨eE,(Builtin.zeroCells eE.cells m).toList,kX,lz,?_,?_,?_,?_,?_⟩
   ·simp only [List.length_replicate,Int.toNat_natCast]
    refine Yy hu a8 aq kX lz (by omega) fun u qM=> ?_
    obtain ⟨j,aF⟩:=List.getElem?_of_mem qM
    have h1:=lR j u aF
    have dG:j % i.size<z.length:=by rw [ni];exact Nat.mod_lt _ (by omega)
    obtain ⟨v,v1,v2,-⟩:=tk _ _ (List.getElem?_eq_getElem dG)
    rw [h1] at v1
    obtain rfl:=Option.some.inj v1
    exact v2
   ·intro x U
    rw [List.mem_replicate] at U
    rw [U.2,ni]
   ·rw [Array.length_toList,size_zeroCells,lz];simp
   ·intro u qM
    obtain ⟨j,aF⟩:=List.getElem?_of_mem qM
    have h1:=lR j u aF
    have dG:j % i.size<z.length:=by rw [ni];exact Nat.mod_lt _ (by omega)
    obtain ⟨v,v1,v2,-⟩:=tk _ _ (List.getElem?_eq_getElem dG)
    rw [h1] at v1
    obtain rfl:=Option.some.inj v1
    exact v2
   ·intro j x u U nE
    rw [oY (sz:=i.size) (by omega) _ (fun eN lO=>by rw [List.mem_replicate] at lO;rw [lO.2,ni])] at U
    have h1:=lR j u nE
    cases bc:(List.replicate (Int.toNat (m:Int)) z)[j / i.size]? with
    | none=>rw [bc] at U;simp at U
    | some eN =>
     have:=List.mem_of_getElem? bc
     rw [List.mem_replicate] at this
     rw [bc,this.2] at U
     simp only [Option.bind_some] at U
     obtain ⟨v,v1,-,v3⟩:=tk _ _ U
     rw [h1] at v1
     obtain rfl:=Option.some.inj v1
     exact v3 _ _ _ _
  ·simp at he
theorem Yz (h:cL g s ay a w)(eU:s.aW aV=none){x y:aB}{qY np:Value}{t db:TypeId}{m:Nat}{L9:Option ae}{eH:TypeId}(aw:nD P s.E s.aW aV .append [x,y] [t,db] (.aJ m L9)=some bC)(cz:∀p∈bC.fu,p)
 (U:Rel w (s.ok g ay w) s.a5 (s.bd ay) x qY) (a3:Rel w (s.ok g ay w) s.a5 (s.bd ay) y np) :
 ∃v bN bM,(Builtin.append_ #[t,db] eH #[qY,np]).run P w = .ok v bN∧cL g (s.hQ bC.fJ) bM a bN∧Rel bN ((s.hQ bC.fJ).ok g bM bN) (s.hQ bC.fJ).a5 ((s.hQ bC.fJ).bd bM) bC.val v:=by
 simp only [nD] at aw
 split at aw
 ·simp at aw
 ·rename_i e he
  have hu:=re he
  split at aw
  ·rename_i i z aq cv
   split at aw
   ·simp at aw
   ·rename_i bf
    simp only [not_or,Decidable.not_not] at bf
    obtain ⟨ni,jZ,ye⟩:=bf
    split at aw
    ·simp at aw
    ·rename_i bA af qG
     have Em:=fun ak=>ON (eH:=eH) h hu aq cv ni jZ qG ak a3
     by_cases abh:True
     ·
      split at aw
      ·
       simp only [Option.some.injEq] at aw
       subst aw
       have hm:m=bA.length:=cz _ (by simp)
       have Bs:m*i.bytes≤140737488355328:=cz _ (by simp)
       obtain ⟨eE,vs,kX,lz,hA,hlen,v1,v3,v4⟩:=Em (fun p ak=>cz p (by simp [ak]))
       clear Em
       rw [U.pg]
       by_cases h0:bA.length=0
       ·have:bA=[]:=List.length_eq_zero_iff.1 h0
        subst this
        obtain ⟨bM,p1,hi⟩:=h.PO (sz:=i.size) eU
        refine ⟨_,w,bM,hA.zero h0 none 0 0 (Nat.le_refl _),hi,?_⟩
        subst hm
        have ap:(s.setRow aV [⟨i.size,[],.live⟩]).ao aV 0=some ⟨i.size,[],.live⟩:=by rw [lr,if_pos rfl,lY];simp
        exact .ns (sz:=i.size) ((m5 _ _ _ _ _).2 (by simp)) (by show (s.setRow aV [⟨i.size,[],.live⟩]).bd bM aV 0=_;rw [iu ap,p1])
       ··have tl:bA.length*1≤bA.length*i.bytes:=Nat.mul_le_mul_left _ (by omega)
         rw [hm] at Bs
         have iN:=hA.nil (by omega) (by omega) (by omega)
         have Rz:=grownCap_ge w bA.length 0 e
         have hle:=grownCap_le_maxLen w bA.length 0 e (by simp only [maxLen];omega)
         simp only [maxLen] at hle
         obtain ⟨bM,q1,a2⟩:=IX (e:=e) (i:=i) (m:=m) (nB:=vs) (sx:=Builtin.zeroCells eE.cells (grownCap w bA.length 0 e-bA.length)) (cap:=grownCap w bA.length 0 e) h eU hlen hm v1 v3
          (by rw [size_zeroCells,lz,hm]) (by omega) (by omega) v4 rfl
         refine ⟨.slice (some ⟨w.heap.size,0,none⟩) m (grownCap w bA.length 0 e),_,bM,?_,q1,a2⟩
         rw [hm];exact iN
      ·
       rename_i r k len
       split at aw
       ·simp at aw
       ·rename_i row dx
        split at aw
        ·simp at aw
        ·rename_i ao bo
         split at aw
         ·rename_i u1
          obtain ⟨nF,eY,dr⟩:=u1
          simp only [Option.some.injEq] at aw
          subst aw
          have ap:s.ao r k=some ao:=by unfold S.ao;rw [dx];exact bo
          have h9:len≤ao.es.length:=cz _ (by simp)
          have hm:m=len+bA.length:=cz _ (by simp)
          have Bs:m*i.bytes≤140737488355328:=cz _ (by simp)
          have tl:m*1≤m*i.bytes:=Nat.mul_le_mul_left _ (Nat.one_le_iff_ne_zero.2 ye)
          obtain ⟨eE,vs,kX,lz,hA,hlen,v1,v3,v4⟩:=Em (fun p ak=>cz p (by simp [ak]))
          clear Em
          have afD:bA.length*i.bytes≤m*i.bytes:=Nat.mul_le_mul_right _ (by omega)
          have fs:=h.obj r k ao ap
          have Lh:(ao.es.take len).length=len:=by simp;omega
          have rn:(s.setRow aV [⟨i.size,ao.es.take len++bA,.live⟩]).aW r=some row:=by simp [S.setRow,Ne.symm dr,dx]
          have pv : ∀bM:fm,((s.setRow aV [⟨i.size,ao.es.take len++bA,.live⟩]).setRow r (row.set k {ao with cp:= .gone})).ao aV 0=some ⟨i.size,ao.es.take len++bA,.live⟩:=by
           intro _
           rw [lr,if_neg dr,lr,if_pos rfl,lY];simp
          have A1:((s.setRow aV [⟨i.size,ao.es.take len++bA,.live⟩]).setRow r (row.set k {ao with cp:= .gone})).a5 aV 0:=by rw [m5,if_neg dr,m5,if_pos rfl];simp
          show ∃v bN bM,_∧cL g ((s.setRow aV [⟨i.size,ao.es.take len++bA,.live⟩]).setRow r (row.set k {ao with cp:= .gone})) bM a bN∧_
          rcases U.uz (iu ap) with ⟨ak,-,rfl,rfl⟩|⟨b,M,og,ks,ak,rfl,qK,sj,ed,l8⟩
          ·
           rw [ak] at fs
           simp only [jb] at fs
           have hl:ao.es.take 0++bA=bA:=by simp
           by_cases h0:bA.length=0
           ·have:bA=[]:=List.length_eq_zero_iff.1 h0
            subst this
            obtain ⟨bM,p1,hi⟩:=h.PO (sz:=i.size) eU
            have pw:(s.setRow aV [⟨i.size,[],.live⟩]).ao r k=some ao:=by rw [lr,if_neg (Ne.symm dr)];exact ap
            have abM:(s.setRow aV [⟨i.size,[],.live⟩]).aW r=some row:=by simp [S.setRow,Ne.symm dr,dx]
            obtain ⟨ry,-⟩:=hi.gone abM pw
            have A2:ao.es.take 0++([]:List (List aB))=[]:=by simp
            rw [A2]
            rw [A2] at A1 pv
            refine ⟨_,w,bM,hA.zero h0 none 0 0 (Nat.le_refl _),ry,?_⟩
            subst hm
            exact .ns (sz:=i.size) A1 ((iu (pv bM)).trans (by rw [p1]))
           ··have kW:m=bA.length:=by omega
             have iN:=hA.nil (by omega) (by omega) (by omega)
             have Rz:=grownCap_ge w bA.length 0 e
             have hle:=grownCap_le_maxLen w bA.length 0 e (by simp only [maxLen];omega)
             simp only [maxLen] at hle
             obtain ⟨bM,q1,a2⟩:=IX (e:=e) (i:=i) (m:=m) (nB:=vs) (sx:=Builtin.zeroCells eE.cells (grownCap w bA.length 0 e-bA.length)) (cap:=grownCap w bA.length 0 e) h eU hlen kW v1 v3
              (by rw [size_zeroCells,lz,kW]) (by omega) (by omega) v4 rfl
             rw [hl]
             rw [hl] at rn
             have pw:(s.setRow aV [⟨i.size,bA,.live⟩]).ao r k=some ao:=by rw [lr,if_neg (Ne.symm dr)];exact ap
             obtain ⟨ry,B6⟩:=q1.gone rn pw
             refine ⟨.slice (some ⟨w.heap.size,0,none⟩) m (grownCap w bA.length 0 e),_,bM,?_,ry,B6 _ _ a2⟩
             rw [kW];exact iN
          ·
           rw [ak] at fs
           have abN:=fs
           obtain ⟨cm,mn,g1,g2,g3,g4⟩:=fs
           have A3 : ∀e∈ao.es.take len++bA,e.length=i.size:=by
            intro eN lO
            rw [List.mem_append] at lO
            rcases lO with cD|cD
            ·rw [g3 eN (List.mem_of_mem_take cD),eY]
            ·exact hlen eN cD
           have jG : ∀(es:List (List aB)),(∀e∈es,e.length=i.size)→es.flatten.length=es.length*i.size:=by
            intro es
            induction es with
            | nil=>intro _;simp
            | cons e es ih =>
             intro fL
             rw [List.flatten_cons,List.length_append,ih fun x U=>fL x (by simp [U]),fL e (by simp),List.length_cons,Nat.add_mul];omega
           by_cases h0:bA.length=0
           ·
            have:bA=[]:=List.length_eq_zero_iff.1 h0
            subst this
            have A2:ao.es.take len++([]:List (List aB))=ao.es.take len:=by simp
            rw [A2]
            rw [A2] at A1 pv A3
            obtain ⟨bM,p1,hi⟩:=h.turn dx ap nF ak eU ⟨i.size,ao.es.take len,.live⟩ rfl cm mn g1 rfl (fun _ _=>rfl) rfl rfl rfl g2 A3 (fun j q bc=>by
             refine g4 j q ?_
             have aF:j<(ao.es.take len).flatten.length:=by
              rcases Nat.lt_or_ge j (ao.es.take len).flatten.length with cD|cD
              ·exact cD
              ·rw [List.getElem?_eq_none cD] at bc;simp at bc
             have RA:ao.es.flatten=(ao.es.take len).flatten++(ao.es.drop len).flatten:=by rw [← List.flatten_append,List.take_append_drop]
             rw [RA,List.getElem?_append_left aF];exact bc)
            refine ⟨_,w,bM,hA.zero h0 og len ks qK,hi,?_⟩
            have kW:m=len:=by simpa using hm
            subst kW
            refine .bm (sz:=i.size) (d3:=b) (m:=M) A1 ((iu (pv bM)).trans (by rw [p1])) qK sj ?_
            rw [← eY];exact ⟨ed,l8⟩
           ··
             have hold : ∃xs:List Value,xs.length=len*i.size∧(∀(j:Nat) u,xs[j]? = some u→w.cell? ((⟨b,0,none⟩:Addr).add j)=some u)∧(∀u∈xs,u.oneCell'=true) ∧
              ∀(j:Nat) x u,(ao.es.take len).flatten[j]? = some x→xs[j]? = some u→Rel w (s.ok g ay w) s.a5 (s.bd ay) x u:=by
              have Q9:=C6 abN.rd 0 len (by omega)
              simp only [List.drop_zero,Nat.zero_mul,Nat.add_zero] at Q9
              obtain ⟨xs,x1,dY,aI,gf⟩:=Q9.nB
              exact ⟨xs,by rw [x1,Lh,eY],dY,aI,gf⟩
             obtain ⟨xs,x1,dY,aI,gf⟩:=hold
             have acU:xs.length=(ao.es.take len).length*i.size:=by rw [Lh];exact x1
             have PP : ∀(j:Nat) x u,(ao.es.take len++bA).flatten[j]? = some x→(xs++vs)[j]? = some u→Rel w (s.ok g ay w) s.a5 (s.bd ay) x u :=
              fun j x u acV nE=>Xc acU (fun eN lO=>by rw [g3 eN (List.mem_of_mem_take lO),eY]) acV gf v4 nE
             have A4:(ao.es.take len++bA).length=m:=by rw [List.length_append,Lh];exact hm.symm
             by_cases r4:len+bA.length≤ks
             ·
              rcases l8 with rfl|rfl
              ·omega
              ·rw [Nat.zero_mul] at *
               rw [Nat.zero_add] at ed
               have abi:len*i.size+vs.length≤cm.size:=by
                rw [v1,g2,← ed,eY,← Nat.add_mul];exact Nat.mul_le_mul_right _ r4
               have iN:=hA.room (by omega) b len ks cm mn g1 r4 abi (by omega)
               have acg:(w.setRow b (cm.toList.take (len*i.size)++vs++cm.toList.drop (len*i.size+vs.length)).toArray).heap.size=w.heap.size:=size_setRow _ _ _
               have RB:xs=cm.toList.take (len*i.size):=by
                apply List.ext_getElem?
                intro j
                rw [List.getElem?_take]
                by_cases aF:j<len*i.size
                ·rw [if_pos aF]
                 have tm:j<xs.length:=by omega
                 have:=dY j _ (List.getElem?_eq_getElem tm)
                 rw [rc,cell_of_row w b (0+j) cm mn (0,0) g1,Nat.zero_add] at this
                 rw [List.getElem?_eq_getElem tm,← this,Array.getElem?_toList]
                ·rw [if_neg aF,List.getElem?_eq_none (by omega)]
               obtain ⟨bM,p1,hi⟩:=h.turn dx ap nF ak eU ⟨i.size,ao.es.take len++bA,.live⟩ rfl _ mn (setRow_heap w b cm _ mn _ g1) acg (fun q bc=>setRow_other w b q _ bc) rfl rfl rfl
                (by rw [← g2];simp;omega) A3 (fun j q bc=>by
                  have aF:j<(xs++vs).length:=by
                   have:j<(ao.es.take len++bA).flatten.length:=by
                    rcases Nat.lt_or_ge j (ao.es.take len++bA).flatten.length with cD|cD
                    ·exact cD
                    ·rw [List.getElem?_eq_none cD] at bc;simp at bc
                   rw [jG _ A3,A4] at this
                   rw [List.length_append,x1,v1,← Nat.add_mul,← hm];exact this
                  refine ⟨(xs++vs)[j],?_,?_,PP j q _ bc (List.getElem?_eq_getElem aF)⟩
                  ·rw [List.getElem?_toArray,List.getElem?_append_left (by rw [← RB];exact aF),← RB]
                   exact List.getElem?_eq_getElem aF
                  ·have:=List.getElem_mem aF
                   rw [List.mem_append] at this
                   rcases this with cD|cD
                   ·exact aI _ cD
                   ·exact v3 _ cD)
               refine ⟨_,_,bM,iN,hi,?_⟩
               rw [← hm]
               refine .bm (sz:=i.size) (d3:=b) (m:=M) A1 ((iu (pv bM)).trans (by rw [p1])) (by omega) sj ⟨?_,.inr (by simp)⟩
               rw [Nat.zero_add,← eY];exact ed
             ·
              have hA : ∃vm:Addr,(og=some vm∧ ∀(j:Nat) u,xs[j]? = some u→w.cell? (vm.add j)=some u)∨(og=none∧len=0∧ks=0):=by
               cases og with
               | none =>
                refine ⟨⟨0,0,none⟩,.inr ⟨rfl,?_⟩⟩
                rcases l8 with cD|cD
                ·omega
                ·simp at cD
               | some vm =>
                refine ⟨vm,.inl ⟨rfl,?_⟩⟩
                rcases l8 with cD|cD
                ·have:len=0:=by omega
                 have:xs=[]:=List.length_eq_zero_iff.1 (by rw [x1,this];simp)
                 intro j u aF
                 rw [this] at aF;simp at aF
                ·simp at cD;subst cD;exact dY
              have Rz:=grownCap_ge w (len+bA.length) ks e
              have hle:=grownCap_le_maxLen w (len+bA.length) ks e (by simp only [maxLen];omega)
              simp only [maxLen] at hle
              have iN:(Builtin.append_ #[t,db] eH #[.slice og len ks,np]).run P w = .ok (.slice (some ⟨w.heap.size,0,none⟩) (len+bA.length) (grownCap w (len+bA.length) ks e))
               (w.drew.alloc (.cells ((xs++vs).toArray++Builtin.zeroCells eE.cells (grownCap w (len+bA.length) ks e-(len+bA.length))) e)):=by
               have ach:(xs++vs).toArray=xs.toArray++vs.toArray:=by apply Array.ext';simp
               rw [ach]
               obtain ⟨vm,⟨rfl,acW⟩|⟨rfl,nj,mo⟩⟩:=hA
               ·exact hA.grow (by omega) vm len ks xs x1 acW (by omega) (by omega) (growslice_fits (by omega) (by rw [← hm];exact Bs)) (by omega)
               ·subst nj;subst mo
                have acX:xs=[]:=List.length_eq_zero_iff.1 (by rw [x1];simp)
                subst acX
                have:=hA.nil (by omega) (by omega) (by omega)
                simpa using this
              obtain ⟨bM,q1,a2⟩:=IX (e:=e) (i:=i) (m:=m) (nB:=xs++vs) (sx:=Builtin.zeroCells eE.cells (grownCap w (len+bA.length) ks e-(len+bA.length))) (cap:=grownCap w (len+bA.length) ks e) h eU A3 A4.symm
               (by rw [List.length_append,x1,v1,A4,hm,Nat.add_mul]) (fun u hu=>by
                 rw [List.mem_append] at hu
                 rcases hu with cD|cD
                 ·exact aI _ cD
                 ·exact v3 _ cD) (by rw [size_zeroCells,lz,hm]) (by omega) (by omega) PP rfl
              have pw:(s.setRow aV [⟨i.size,ao.es.take len++bA,.live⟩]).ao r k=some ao:=by rw [lr,if_neg (Ne.symm dr)];exact ap
              obtain ⟨ry,B6⟩:=q1.gone rn pw
              refine ⟨.slice (some ⟨w.heap.size,0,none⟩) m (grownCap w (len+bA.length) ks e),_,bM,?_,ry,B6 _ _ a2⟩
              rw [hm];exact iN
         ·simp at aw
      ·simp at aw
     ·exact absurd trivial abh
  ·simp at aw
end
end
section
variable {P:Program} {g:G} {s:S} {ay:fm} {a:Act} {w:World}
theorem Ad {sz:Nat}: ∀ {es:List (List aB)},(∀e∈es,e.length=sz)→es.flatten.length=es.length*sz
 | [],_=>by simp
 | e::es,h=>by
  rw [List.flatten_cons,List.length_append,Ad fun x U=>h x (by simp [U]),h e (by simp),List.length_cons,Nat.add_mul];omega
theorem cL.putAt (h:cL g s ay a w){r k p b M:Nat}{row:List ae}{ao:ae}(ar:s.aW r=some row)(ap:s.ao r k=some ao)(a8:ao.cp = .live)(lA:ay r k=some (b,M)){bA gj:List (List aB)}{vs:List Value}
 (hlen : ∀x∈bA,x.length=ao.sz) (v1:vs.length=bA.length*ao.sz) (v3 : ∀u∈vs,u.oneCell'=true) (v4 : ∀(j:Nat) x u,bA.flatten[j]? = some x→vs[j]? = some u→Rel w (s.ok g ay w) s.a5 (s.bd ay) x u)
 (ak:p+bA.length≤ao.es.length) (q:Nat) (hl:gj=(ao.es.take p++bA++ao.es.drop (p+bA.length)).take q) :
 ∃cm mn,w.heap[b]? = some (.cells cm mn (0,0))∧cm.size=M∧ao.es.length*ao.sz≤M∧p*ao.sz+vs.length≤cm.size ∧
  cL g (s.setRow r (row.set k {ao with es:=gj})) ay a (w.setRow b (cm.toList.take (p*ao.sz)++vs++cm.toList.drop (p*ao.sz+vs.length)).toArray) ∧
  ∀x v,Rel w (s.ok g ay w) s.a5 (s.bd ay) x v→Rel (w.setRow b (cm.toList.take (p*ao.sz)++vs++cm.toList.drop (p*ao.sz+vs.length)).toArray) ((s.setRow r (row.set k {ao with es:=gj})).ok g ay (w.setRow b (cm.toList.take (p*ao.sz)++vs++cm.toList.drop (p*ao.sz+vs.length)).toArray)) (s.setRow r (row.set k {ao with es:=gj})).a5 ((s.setRow r (row.set k {ao with es:=gj})).bd ay) x v:=by
 have fs:=h.obj r k ao ap
 rw [lA] at fs
 obtain ⟨cm,mn,g1,g2,g3,g4⟩:=fs
 have jG:=Ad g3
 have ed:ao.es.length*ao.sz≤M:=by
  rcases Nat.eq_zero_or_pos ao.es.flatten.length with h0|jZ
  ·omega
  ·obtain ⟨v,e1,-⟩:=g4 (ao.es.flatten.length-1) _ (List.getElem?_eq_getElem (by omega))
   have:=(Array.getElem?_eq_some_iff.1 e1).1
   omega
 have hmul:p*ao.sz+bA.length*ao.sz≤ao.es.length*ao.sz:=by rw [← Nat.add_mul];exact Nat.mul_le_mul_right _ ak
 have h9:p*ao.sz+vs.length≤cm.size:=by omega
 refine ⟨cm,mn,g1,g2,ed,h9,?_⟩
 have aci : ∀e∈ao.es.take p++bA++ao.es.drop (p+bA.length),e.length=ao.sz:=by
  intro e he
  simp only [List.mem_append] at he
  rcases he with (he|he)|he
  ·exact g3 e (List.mem_of_mem_take he)
  ·exact hlen e he
  ·exact g3 e (List.mem_of_mem_drop he)
 have hA:(ao.es.take p).flatten.length=p*ao.sz:=by rw [Ad fun e he=>g3 e (List.mem_of_mem_take he),List.length_take];congr 1;omega
 have g9:(ao.es.take (p+bA.length)).flatten.length=p*ao.sz+bA.length*ao.sz:=by rw [Ad fun e he=>g3 e (List.mem_of_mem_take he),List.length_take,← Nat.add_mul];congr 1;omega
 have ad8:bA.flatten.length=bA.length*ao.sz:=Ad hlen
 have h1 : ∀j,j<p*ao.sz→(ao.es.take p).flatten[j]? = ao.es.flatten[j]? := fun j aF=>by
  conv=>rhs;rw [← List.take_append_drop p ao.es,List.flatten_append,List.getElem?_append_left (by omega)]
 have o : ∀j,(ao.es.drop (p+bA.length)).flatten[j]? = ao.es.flatten[p*ao.sz+bA.length*ao.sz+j]? := fun j=>by
  conv=>rhs;rw [← List.take_append_drop (p+bA.length) ao.es,List.flatten_append,List.getElem?_append_right (by omega),g9]
  congr 1;omega
 refine h.write ar ap a8 lA gj _ mn (setRow_heap w b cm _ mn _ g1) (size_setRow _ _ _) (fun q bc=>setRow_other w b q _ bc) rfl rfl rfl (by rw [← g2];simp;omega) ?_ ?_
 ·intro e he
  rw [hl] at he
  exact aci e (List.mem_of_mem_take he)
 ·intro j x U
  have dC:(ao.es.take p++bA++ao.es.drop (p+bA.length)).flatten[j]? = some x:=by
   rw [hl] at U
   have aF:=(List.getElem?_eq_some_iff.1 U).1
   conv=>lhs;rw [← List.take_append_drop q (ao.es.take p++bA++ao.es.drop (p+bA.length)),List.flatten_append,List.getElem?_append_left aF]
   exact U
  rw [List.flatten_append,List.flatten_append] at dC
  simp only [List.getElem?_toArray]
  have iw:(cm.toList.take (p*ao.sz)).length=p*ao.sz:=by rw [List.length_take,Array.length_toList];omega
  by_cases bu:j<p*ao.sz
  ·rw [List.append_assoc,List.getElem?_append_left (by omega),h1 j bu] at dC
   obtain ⟨v,e1,aD,bS⟩:=g4 j x dC
   refine ⟨v,?_,aD,bS⟩
   rw [List.append_assoc,List.getElem?_append_left (by omega),List.getElem?_take,if_pos bu,Array.getElem?_toList];exact e1
  ·by_cases cg:j<p*ao.sz+vs.length
   ·rw [List.append_assoc,List.getElem?_append_right (by omega),hA,List.getElem?_append_left (by omega)] at dC
    have bh:j-p*ao.sz<vs.length:=by omega
    refine ⟨vs[j-p*ao.sz],?_,v3 _ (List.getElem_mem bh),v4 _ _ _ dC (List.getElem?_eq_getElem bh)⟩
    rw [List.append_assoc,List.getElem?_append_right (by omega),iw,List.getElem?_append_left (by omega)]
    exact List.getElem?_eq_getElem bh
   ·rw [List.getElem?_append_right (by rw [List.length_append];omega),List.length_append,hA,ad8,o] at dC
    rw [show p*ao.sz+bA.length*ao.sz+(j-(p*ao.sz+bA.length*ao.sz))=j by omega] at dC
    obtain ⟨v,e1,aD,bS⟩:=g4 j x dC
    refine ⟨v,?_,aD,bS⟩
    rw [List.getElem?_append_right (by rw [List.length_append];omega),List.length_append,iw,List.getElem?_drop,Array.getElem?_toList]
    rw [show p*ao.sz+vs.length+(j-(p*ao.sz+vs.length))=j by omega];exact e1
end
section
variable {P:Program} {g:G} {s:S} {ay:fm} {a:Act} {w:World} {aV:Nat} {bC:h2}
theorem aaL (h:cL g s ay a w){x y:aB}{qY np:Value}{t db eH:TypeId}(aw:nD P s.E s.aW aV .append [x,y] [t,db] .fP=some bC)(cz:∀p∈bC.fu,p)
 (U:Rel w (s.ok g ay w) s.a5 (s.bd ay) x qY) (a3:Rel w (s.ok g ay w) s.a5 (s.bd ay) y np) :
 ∃v bN,(Builtin.append_ #[t,db] eH #[qY,np]).run P w = .ok v bN∧cL g (s.hQ bC.fJ) ay a bN∧Rel bN ((s.hQ bC.fJ).ok g ay bN) (s.hQ bC.fJ).a5 ((s.hQ bC.fJ).bd ay) bC.val v:=by
 simp only [nD] at aw
 split at aw
 ·simp at aw
 ·rename_i e he
  have hu:=re he
  split at aw
  ·rename_i i z aq cv
   split at aw
   ·simp at aw
   ·rename_i bf
    simp only [not_or,Decidable.not_not] at bf
    obtain ⟨ni,jZ,ye⟩:=bf
    split at aw
    ·simp at aw
    ·rename_i bA af qG
     split at aw
     ·rename_i r k len
      split at aw
      ·simp at aw
      ·rename_i row dx
       split at aw
       ·simp at aw
       ·rename_i ao bo
        split at aw
        ·rename_i u1
         obtain ⟨nF,eY⟩:=u1
         simp only [Option.some.injEq] at aw
         subst aw
         have ap:s.ao r k=some ao:=by unfold S.ao;rw [dx];exact bo
         have h9:len+bA.length≤ao.es.length:=cz _ (by simp)
         have Bs:bA.length*i.bytes≤140737488355328:=cz _ (by simp)
         obtain ⟨eE,vs,kX,lz,hA,hlen,v1,v3,v4⟩:=ON (eH:=eH) h hu aq cv ni jZ qG (fun p ak=>cz p (by simp [ak])) a3
         rw [← eY] at v1
         have QM : ∀x∈bA,x.length=ao.sz:=fun x U=>by rw [hlen x U,eY]
         have hl:ao.es.take len++bA=(ao.es.take len++bA++ao.es.drop (len+bA.length)).take (len+bA.length) :=
          (List.take_left' (by rw [List.length_append,List.length_take];omega)).symm
         rcases U.uz (iu ap) with ⟨ak,-,rfl,rfl⟩|⟨b,M,og,ks,ak,rfl,qK,sj,ed,l8⟩
         ·have fs:=h.obj r k ao ap
          rw [ak] at fs
          simp only [jb] at fs
          rw [fs] at h9
          have h0:bA.length=0:=by simp at h9;exact List.length_eq_zero_iff.2 h9
          have u2:bA=[]:=List.length_eq_zero_iff.1 h0
          subst u2
          have k8:row.set k {ao with es:=ao.es.take 0++[]}=row:=by
           have h1:({ao with es:=ao.es.take 0++[]}:ae)=ao:=by cases ao;simp only [] at fs;subst fs;rfl
           rw [h1]
           have o:row[k]? = some ao:=by
            unfold dh at bo
            simp only at bo
            split at bo
            ·rename_i b6 dO
             split at bo
             ·simp at bo
             ·simp at bo;rw [← bo];exact dO
            ·simp at bo
           exact List.ext_getElem? fun j=>by
            rw [List.getElem?_set]
            split
            ·rename_i e;subst e
             have:=(List.getElem?_eq_some_iff.1 o).1
             rw [if_pos this,o]
            ·rfl
          refine ⟨_,w,hA.zero h0 none 0 0 (Nat.le_refl _),?_⟩
          have en:s.setRow r row=s:=by
           have:(fun q=>if q=r then some row else s.aW q)=s.aW:=by
            funext q;split
            ·rename_i e;rw [e,dx]
            ·rfl
           show ({s with aW:=_}:S)=s
           rw [this]
          show cL g (s.setRow r (row.set k {ao with es:=ao.es.take 0++[]})) ay a w∧Rel w ((s.setRow r (row.set k {ao with es:=ao.es.take 0++[]})).ok g ay w) (s.setRow r (row.set k {ao with es:=ao.es.take 0++[]})).a5 ((s.setRow r (row.set k {ao with es:=ao.es.take 0++[]})).bd ay) (.bm r k 0 0) (.slice none 0 0)
          rw [k8,en]
          exact ⟨h,U⟩
         ·obtain ⟨cm,mn,bu,cg,jk,pF,oh,sy⟩:=h.putAt dx ap nF ak QM v1 v3 v4 h9 (len+bA.length) hl
          have hle:ao.es.length≤ks:=by
           rw [Nat.zero_add] at ed
           rw [← ed] at jk
           exact Nat.le_of_mul_le_mul_right jk (by omega)
          by_cases mo:ks=0
          ·have h0:bA.length=0:=by omega
           have nj:len=0:=by omega
           subst nj
           have u2:bA=[]:=List.length_eq_zero_iff.1 h0
           subst u2
           have Li:vs=[]:=List.length_eq_zero_iff.1 (by simpa using v1)
           subst Li
           have hw:w.setRow b (cm.toList.take (0*ao.sz)++[]++cm.toList.drop (0*ao.sz+0)).toArray=w:=by
            simp only [Nat.zero_mul,List.take_zero,List.nil_append,Nat.zero_add,List.drop_zero,Array.toArray_toList]
            exact setRow_self w b cm mn (0,0) bu
           simp only [List.length_nil] at oh sy
           rw [hw] at oh sy
           exact ⟨_,w,hA.zero h0 og 0 ks (Nat.zero_le _),oh,sy _ _ U⟩
          ·have Bt:og=some ⟨b,0,none⟩:=by
            rcases l8 with cD|cD
            ·exact absurd cD mo
            ·simpa using cD
           subst Bt
           by_cases h0:bA.length=0
           ·have u2:bA=[]:=List.length_eq_zero_iff.1 h0
            subst u2
            have Li:vs=[]:=List.length_eq_zero_iff.1 (by simpa using v1)
            subst Li
            have hw:w.setRow b (cm.toList.take (len*ao.sz)++[]++cm.toList.drop (len*ao.sz+0)).toArray=w:=by
             simp only [List.append_nil,Nat.add_zero,List.take_append_drop,Array.toArray_toList]
             exact setRow_self w b cm mn (0,0) bu
            simp only [List.length_nil] at oh sy
            rw [hw] at oh sy
            exact ⟨_,w,hA.zero h0 _ len ks qK,oh,sy _ _ U⟩
           ·have iN:=hA.room (by omega) b len ks cm mn bu (by omega) (by rw [← eY];exact pF) Bs
            rw [← eY] at iN
            refine ⟨_,_,iN,oh,?_⟩
            have AW:(s.setRow r (row.set k {ao with es:=ao.es.take len++bA})).ao r k=some {ao with es:=ao.es.take len++bA}:=by
             rw [lr,if_pos rfl,Pb row k ao _ bo (by simp [nF]),if_pos rfl]
            show Rel _ ((s.setRow r (row.set k {ao with es:=ao.es.take len++bA})).ok g ay _) (s.setRow r (row.set k {ao with es:=ao.es.take len++bA})).a5 ((s.setRow r (row.set k {ao with es:=ao.es.take len++bA})).bd ay) (.bm r k 0 (len+bA.length)) _
            refine .bm (sz:=ao.sz) (d3:=b) (m:=M) (Dt AW) ((iu AW).trans (by rw [ak])) (by omega) sj ⟨ed,.inr (by simp)⟩
        ·simp at aw
     ·simp at aw
  ·simp at aw
end
section
variable {P:Program} {g:G} {s:S} {ay:fm} {a:Act} {w:World} {aV:Nat} {bC:h2}
theorem N1 {s:S}{r k:Nat}{row:List ae}{ao:ae}(ar:s.aW r=some row)(ap:dh (some row) k=some ao):s.setRow r (row.set k ao)=s:=by
 have o:row[k]? = some ao:=by
  unfold dh at ap
  simp only at ap
  split at ap
  ·rename_i b6 dO
   split at ap
   ·simp at ap
   ·simp at ap;rw [← ap];exact dO
  ·simp at ap
 have ab:row.set k ao=row:=List.ext_getElem? fun j=>by
  rw [List.getElem?_set]
  split
  ·rename_i e;subst e
   have:=(List.getElem?_eq_some_iff.1 o).1
   rw [if_pos this,o]
  ·rfl
 rw [ab]
 have:(fun q=>if q=r then some row else s.aW q)=s.aW:=by
  funext q;split
  ·rename_i e;rw [e,ar]
  ·rfl
 show ({s with aW:=_}:S)=s
 rw [this]
theorem YA {e:TypeId}{i:TypeInfo}{z:List aB}{eE:Value}(lz:eE.cells.size=i.size)(ni:z.length=i.size)(jZ:i.size≠0)
 (tk : ∀(j:Nat) x,z[j]? = some x→ ∃v,eE.cells[j]? = some v∧j7 v=true∧ ∀(w:World) (ok:Nat→Prop) (a5:i2) (bd:iR),Rel w ok a5 bd x v) (m:Nat) :
 (Builtin.zeroCells eE.cells m).toList.length=m*i.size∧(∀u∈(Builtin.zeroCells eE.cells m).toList,u.oneCell'=true) ∧
   ∀(j:Nat) x u,(List.replicate m z).flatten[j]? = some x→(Builtin.zeroCells eE.cells m).toList[j]? = some u→ ∀(w:World) (ok:Nat→Prop) (a5:i2) (bd:iR),Rel w ok a5 bd x u:=by
 have lR : ∀(j:Nat) u,(Builtin.zeroCells eE.cells m).toList[j]? = some u→eE.cells[j % i.size]? = some u:=by
  intro j u nE
  have aF:=(List.getElem?_eq_some_iff.1 nE).1
  rw [Array.length_toList,size_zeroCells,lz] at aF
  have dG:j % i.size<eE.cells.size:=by rw [lz];exact Nat.mod_lt _ (by omega)
  rw [Array.getElem?_toList,Builtin.zeroCells,Array.getElem?_map,lz,Array.getElem?_range] at nE
  rw [if_pos aF] at nE
  simp only [Option.map_some,Option.some.injEq] at nE
  rw [← nE,Array.getElem?_eq_getElem dG,getElem!_pos eE.cells _ dG]
 refine ⟨?_,?_,?_⟩
 ·rw [Array.length_toList,size_zeroCells,lz]
 ·intro u qM
  obtain ⟨j,aF⟩:=List.getElem?_of_mem qM
  have h1:=lR j u aF
  have dG:j % i.size<z.length:=by rw [ni];exact Nat.mod_lt _ (by omega)
  obtain ⟨v,v1,v2,-⟩:=tk _ _ (List.getElem?_eq_getElem dG)
  rw [h1] at v1
  obtain rfl:=Option.some.inj v1
  exact v2
 ·intro j x u U nE
  rw [oY (sz:=i.size) (by omega) _ (fun eN lO=>by rw [List.mem_replicate] at lO;rw [lO.2,ni])] at U
  have h1:=lR j u nE
  cases bc:(List.replicate m z)[j / i.size]? with
  | none=>rw [bc] at U;simp at U
  | some eN =>
   have:=List.mem_of_getElem? bc
   rw [List.mem_replicate] at this
   rw [bc,this.2] at U
   simp only [Option.bind_some] at U
   obtain ⟨v,v1,-,v3⟩:=tk _ _ U
   rw [h1] at v1
   obtain rfl:=Option.some.inj v1
   exact v3
theorem ZX (h:cL g s ay a w){r k len:Nat}{y:aB}{qY np:Value}{t db eH:TypeId}{cM:fx}(aw:nD P s.E s.aW aV .copy [.bm r k 0 len,y] [t,db] cM=some bC)(cz:∀p∈bC.fu,p)
 (U:Rel w (s.ok g ay w) s.a5 (s.bd ay) (.bm r k 0 len) qY) (a3:Rel w (s.ok g ay w) s.a5 (s.bd ay) y np) :
 ∃n bN,(Builtin.copy_ #[t,db] eH #[qY,np]).run P w = .ok (goInt n) bN∧cL g (s.hQ bC.fJ) ay a bN∧bC.val = .n .i64 n:=by
 simp only [nD] at aw
 split at aw
 ·simp at aw
 ·rename_i e he
  have hu:=re he
  split at aw
  ·simp at aw
  ·rename_i i aq
   split at aw
   ·simp at aw
   ·rename_i bA af qG
    split at aw
    ·simp at aw
    ·rename_i row dx
     split at aw
     ·simp at aw
     ·rename_i ao bo
      split at aw
      ·rename_i u1
       obtain ⟨nF,eY,jZ⟩:=u1
       simp only [Option.some.injEq] at aw
       subst aw
       have ap:s.ao r k=some ao:=by unfold S.ao;rw [dx];exact bo
       have h9:bA.length≤len:=cz _ (by simp)
       have hle:len≤ao.es.length:=cz _ (by simp)
       obtain ⟨A,c,rfl,hlen,Lg⟩:=Pd h qG (fun p ak=>cz p (by simp [ak])) a3
       show ∃n bN,_∧cL g (s.setRow r (row.set k {ao with es:=bA++ao.es.drop bA.length})) ay a bN∧_
       by_cases h0:bA.length=0
       ·have u2:bA=[]:=List.length_eq_zero_iff.1 h0
        subst u2
        refine ⟨0,w,?_,?_,rfl⟩
        ·rcases U.uz (iu ap) with ⟨-,-,rfl,rfl⟩|⟨b,M,og,ks,-,rfl,-,-,-,-⟩
         ·cases A<;>simp [Builtin.copy_,run_underlying hu,sizeOf,typeInfo,aq,Builtin.lenOf,Builtin.firstCells,loadCells,loadCellsFrom]
         ·cases A<;>cases og<;>simp [Builtin.copy_,run_underlying hu,sizeOf,typeInfo,aq,Builtin.lenOf,Builtin.firstCells,loadCells,loadCellsFrom,storeCells]
        ·rw [show ({ao with es:=[]++ao.es.drop ([]:List (List aB)).length}:ae)=ao from rfl,N1 dx bo];exact h
       ·obtain ⟨d3,off,rfl,ic⟩:=Lg.resolve_left h0
        obtain ⟨vs,v1,v2,v3,v4⟩:=ic.nB
        rw [← eY] at v1
        rcases U.uz (iu ap) with ⟨-,-,rfl,-⟩|⟨b,M,og,ks,ak,rfl,qK,sj,ed,l8⟩
        ·exact absurd (Nat.le_zero.1 h9) h0
        ·have Bt:og=some ⟨b,0,none⟩:=by
          rcases l8 with cD|cD
          ·exact absurd (show bA.length=0 by omega) h0
          ·simpa using cD
         subst Bt
         obtain ⟨cm,mn,bu,cg,jk,pF,oh,-⟩:=h.putAt (p:=0) dx ap nF ak (fun x U=>by rw [hlen x U,eY]) v1 v3 v4 (by omega) ao.es.length (gj:=bA++ao.es.drop bA.length)
          (by rw [List.take_zero,List.nil_append,Nat.zero_add];exact (List.take_of_length_le (by simp;omega)).symm)
         simp only [Nat.zero_mul,Nat.zero_add,List.take_zero,List.nil_append] at pF oh
         have aT:=run_firstCells_some (P:=P) w i.size bA.length ⟨d3,off,none⟩ bA.length c vs (by rw [v1,eY]) v2
         have l7:=run_storeCells_at P b 0 mn vs 0 cm w bu (by simpa using pF) v3
         simp only [Nat.add_zero,List.take_zero,List.nil_append,Nat.zero_add] at l7
         refine ⟨bA.length,_,?_,oh,rfl⟩
         simp [Builtin.copy_,run_underlying hu,sizeOf,typeInfo,aq,Builtin.lenOf,Nat.min_eq_left h9,aT,l7]
      ·simp at aw
theorem Y9 (h:cL g s ay a w){r k len:Nat}{qY:Value}{t eH:TypeId}{cM:fx}(aw:nD P s.E s.aW aV .clear [.bm r k 0 len] [t] cM=some bC)(cz:∀p∈bC.fu,p)
 (U:Rel w (s.ok g ay w) s.a5 (s.bd ay) (.bm r k 0 len) qY) :
 ∃bN,(Builtin.clear_ #[t] eH #[qY]).run P w = .ok (.tuple #[]) bN∧cL g (s.hQ bC.fJ) ay a bN∧bC.val = .dX []:=by
 simp only [nD] at aw
 split at aw
 ·simp at aw
 ·rename_i e he
  have hu:=re he
  split at aw
  ·rename_i i z aq cv
   split at aw
   ·simp at aw
   ·rename_i row dx
    split at aw
    ·simp at aw
    ·rename_i ao bo
     split at aw
     ·rename_i u1
      obtain ⟨nF,eY,ni,jZ⟩:=u1
      simp only [Option.some.injEq] at aw
      subst aw
      have ap:s.ao r k=some ao:=by unfold S.ao;rw [dx];exact bo
      have hle:ao.es.length=len:=cz _ (by simp)
      show ∃bN,_∧cL g (s.setRow r (row.set k {ao with es:=List.replicate len z})) ay a bN∧_
      by_cases h0:len=0
      ·subst h0
       refine ⟨w,?_,?_,rfl⟩
       ·rcases U.uz (iu ap) with ⟨-,-,-,rfl⟩|⟨b,M,og,ks,-,rfl,-,-,-,-⟩
        ·simp [Builtin.clear_,run_underlying hu]
        ·cases og<;>simp [Builtin.clear_,run_underlying hu]
       ·rw [show ({ao with es:=List.replicate 0 z}:ae)=ao by rw [List.replicate_zero,← List.length_eq_zero_iff.1 hle],N1 dx bo];exact h
      ·obtain ⟨eF,eE,kB,kX,pE,tk⟩:=z0 cv
       rw [aq] at kB;simp at kB;subst kB
       have lz:eE.cells.size=i.size:=by rw [← ni,pE];simp
       rcases U.uz (iu ap) with ⟨-,-,rfl,-⟩|⟨b,M,og,ks,ak,rfl,qK,sj,ed,l8⟩
       ·exact absurd rfl h0
       ·have Bt:og=some ⟨b,0,none⟩:=by
         rcases l8 with cD|cD
         ·exact absurd (show len=0 by omega) h0
         ·simpa using cD
        subst Bt
        obtain ⟨v1,v3,v4⟩:=YA (e:=e) lz ni jZ tk len
        rw [← eY] at v1
        obtain ⟨cm,mn,bu,cg,jk,pF,oh,-⟩:=h.putAt (p:=0) (bA:=List.replicate len z) dx ap nF ak (fun x U=>by rw [List.mem_replicate] at U;rw [U.2,ni,eY]) (by simpa using v1) v3 (fun j x u h1 o=>v4 j x u h1 o _ _ _ _)
         (by simp;omega) len (gj:=List.replicate len z)
         (by simp [hle])
        simp only [Nat.zero_mul,Nat.zero_add,List.take_zero,List.nil_append] at pF oh
        have l7:=run_storeCells_at P b 0 mn (Builtin.zeroCells eE.cells len).toList 0 cm w bu (by simpa using pF) v3
        simp only [Nat.add_zero,List.take_zero,List.nil_append,Nat.zero_add] at l7
        refine ⟨_,?_,oh,rfl⟩
        cases len with
        | zero=>exact absurd rfl h0
        | succ n=>simp [Builtin.clear_,run_underlying hu,zeroValue,typeInfo,aq,kX,l7]
     ·simp at aw
  ·simp at aw
end
section
variable {g:G} {s:S} {ay:fm} {a:Act} {w:World}
def lJ (row:List ae):List ae:=row.map fun I=>if I.cp = .live then {I with cp:= .iO} else I
theorem Pe (row:List ae)(k:Nat):dh (some (lJ row)) k=(dh (some row) k).map fun I=>if I.cp = .live then {I with cp:= .iO} else I:=by
 simp only [dh,lJ,List.getElem?_map]
 cases row[k]? with
 | none=>rfl
 | some I =>
  obtain ⟨sz,es,cp⟩:=I
  cases cp<;>simp
theorem cL.freeze (h:cL g s ay a w){r:Nat}{row:List ae}(ar:s.aW r=some row):cL g (s.setRow r (lJ row)) ay a w:=by
 have bo : ∀q k I,(s.setRow r (lJ row)).ao q k=some I→ ∃p,s.ao q k=some p∧I.sz=p.sz∧I.es=p.es∧(I.cp = .live→p.cp = .live∧q≠r):=by
  intro q k I ap
  by_cases e:q=r
  ·subst e
   have:(s.setRow q (lJ row)).aW q=some (lJ row):=by simp [S.setRow]
   unfold S.ao at ap
   rw [this,Pe] at ap
   rw [Option.map_eq_some_iff] at ap
   obtain ⟨p,ak,rfl⟩:=ap
   refine ⟨p,by unfold S.ao;rw [ar];exact ak,?_⟩
   split<;>simp_all
  ·have:(s.setRow r (lJ row)).aW q=s.aW q:=by simp [S.setRow,e]
   unfold S.ao at ap
   rw [this] at ap
   exact ⟨I,ap,rfl,rfl,fun aT=>⟨aT,e⟩⟩
 have jg : ∀q k,s.a5 q k→(s.setRow r (lJ row)).a5 q k:=C5 s ar (by simp [lJ])
 have lb : ∀q k,(s.setRow r (lJ row)).bd ay q k=s.bd ay q k:=by
  intro q k
  by_cases e:q=r
  ·subst e
   simp only [S.bd,S.ao]
   have:(s.setRow q (lJ row)).aW q=some (lJ row):=by simp [S.setRow]
   rw [this,Pe,ar]
   cases dh (some row) k with
   | none=>rfl
   | some I=>simp only [Option.map_some,Option.some.injEq,Prod.mk.injEq,and_true];split<;>rfl
  ·have:(s.setRow r (lJ row)).aW q=s.aW q:=by simp [S.setRow,e]
   simp [S.bd,S.ao,this]
 have dy:Step g s ay w (s.setRow r (lJ row)) ay w:=⟨jg,fun q k _=> .inl (lb q k),fun b aT=>by
  obtain ⟨q,k,I,m,h1,o,ab⟩:=aT
  obtain ⟨p,p1,hi,ry,B6⟩:=bo q k I h1
  exact .inl ⟨q,k,p,m,p1,(B6 o).1,ab⟩,fun _ _ _=>rfl,Nat.le_refl _⟩
 refine {tohZ:=⟨?_,?_,?_,h.gQ,h.mlt,h.nd,?_,h.low⟩,env:=fun t=>dy.rel (h.env t),defers:=h.defers,jF:=h.jF}
 ·intro q k I ap
  obtain ⟨p,p1,hi,ry,-⟩:=bo q k I ap
  have ak:=dy.obj (fun b m _=>rfl) (h.obj q k p p1)
  cases lA:ay q k with
  | none=>rw [lA] at ak;simp only [jb] at ak ⊢;rw [ry];exact ak
  | some x =>
   obtain ⟨b,m⟩:=x
   rw [lA] at ak
   obtain ⟨c,eH,e1,aD,bS,da⟩:=ak
   exact ⟨c,eH,e1,aD,by rw [hi,ry];exact bS,by rw [ry];exact da⟩
 ·intro q k I hv d8 b6 b m cx h1 o ab av
  obtain ⟨p,p1,-⟩:=bo q k I h1
  obtain ⟨kd,acY,-⟩:=bo hv d8 b6 o
  exact h.inj q k p hv d8 kd b m cx p1 acY ab av
 ·intro q k I b m h1 o
  obtain ⟨p,p1,-⟩:=bo q k I h1
  exact h.own q k p b m p1 o
 ·intro j k aF
  obtain ⟨e1,aD⟩:=h.stay j k aF
  exact ⟨jg j k e1,by rw [lb];exact aD⟩
end
def xN (P:Program)(t:TypeId):Bool :=
 match P.underlying t with
 | some (.pointer _)=>true
 | _=>false
def yk (P:Program)(E:Nat→aB)(aW:Nat→Option (List ae))(aV:Nat)(I:Oper)(cM:fx):Option h2 :=
 match I.op with
 | .call {callee:= .builtin b,args,argTypes}=>match b with
  | .len=>eR P E aW aV I cM
  | b=>nD P E aW aV b (args.toList.map (fe E)) argTypes.toList cM
 | .binOp op t x y _=>match cM,op,fe E x,fe E y with
  | .fP,.eql,.isl _ es,.eo=>if (po P t).isSome then some {val:= .b false,fu:=[es≠[]]} else none
  | .fP,.neq,.isl _ es,.eo=>if (po P t).isSome then some {val:= .b true,fu:=[es≠[]]} else none
  | .fP,.eql,.j0 _ none,.hY=>if xN P t then some {val:= .b true} else none
  | .fP,.neq,.j0 _ none,.hY=>if xN P t then some {val:= .b false} else none
  | .fP,.eql,.j0 _ (some _),.hY=>if xN P t then some {val:= .b false} else none
  | .fP,.neq,.j0 _ (some _),.hY=>if xN P t then some {val:= .b true} else none
  | .fP,_,_,_=>none
  | _,_,_,_=>eR P E aW aV I cM
 | .nilCheck x=>match cM,fe E x with
  | .fP,.j0 sz (some c)=>some {val:= .eb sz [c] 0 0}
  | .fP,_=>none
  | _,_=>eR P E aW aV I cM
 | _=>eR P E aW aV I cM
section
variable {P:Program} {g:G} {s:S} {ay:fm} {a:Act} {w:World} {I:Oper} {cM:fx} {aV:Nat} {bC:h2}
theorem DH {args:Array Operand}{E:Nat→aB}{x y:aB}(h:args.toList.map (fe E)=[x,y]): ∃p q,args = #[p,q]∧fe E p=x∧fe E q=y:=by
 obtain ⟨l⟩:=args
 match l,h with
 | [p,q],h=>simp at h;exact ⟨p,q,rfl,h.1,h.2⟩
theorem aaM {args:Array Operand}{E:Nat→aB}{x:aB}(h:args.toList.map (fe E)=[x]): ∃p,args = #[p]∧fe E p=x:=by
 obtain ⟨l⟩:=args
 match l,h with
 | [p],h=>simp at h;exact ⟨p,rfl,h⟩
theorem Dm {t:TypeId}(h:xN P t=true): ∃e,P.underlying t=some (.pointer e):=by
 unfold xN at h
 split at h
 ·rename_i e he;exact ⟨e,he⟩
 ·simp at h
theorem Za (h:cL g s ay a w)(eU:s.aW aV=none)(aw:yk P s.E s.aW aV I cM=some bC)(cz:∀p∈bC.fu,p):Fin P g s a w I bC:=by
 unfold yk at aw
 split at aw
 ·rename_i b args mQ ap
  split at aw
  ·exact Dl h eU aw cz
  ·rename_i b aS
   unfold nD at aw
   split at aw
   ·rename_i x y t db m L9 hargs n6
    have uO:nD P s.E s.aW aV .append [x,y] [t,db] (.aJ m L9)=some bC:=aw
    obtain ⟨p,q,rfl,rfl,rfl⟩:=DH hargs
    obtain ⟨l⟩:=mQ
    simp only at n6
    subst n6
    obtain ⟨v,bN,bM,h1,o,ab⟩:=Yz (eH:=I.type) h eU uO cz (h.eval p) (h.eval q)
    exact ⟨v,bN,bM,.inl (by simp [execOp,ap,resolve,invoke,builtin,h1]),o,ab⟩
   ·rename_i x y t db hargs n6
    have uO:nD P s.E s.aW aV .append [x,y] [t,db] .fP=some bC:=aw
    obtain ⟨p,q,rfl,rfl,rfl⟩:=DH hargs
    obtain ⟨l⟩:=mQ
    simp only at n6
    subst n6
    obtain ⟨v,bN,h1,o,ab⟩:=aaL (eH:=I.type) h uO cz (h.eval p) (h.eval q)
    exact ⟨v,bN,ay,.inl (by simp [execOp,ap,resolve,invoke,builtin,h1]),o,ab⟩
   ·rename_i cM r k len y t db hargs n6
    have uO:nD P s.E s.aW aV .copy [.bm r k 0 len,y] [t,db] cM=some bC:=aw
    obtain ⟨p,q,rfl,ak,rfl⟩:=DH hargs
    obtain ⟨l⟩:=mQ
    simp only at n6
    subst n6
    have U:=h.eval p
    rw [ak] at U
    obtain ⟨n,bN,h1,o,ab⟩:=ZX (eH:=I.type) h uO cz U (h.eval q)
    refine ⟨goInt n,bN,ay,.inl (by simp [execOp,ap,resolve,invoke,builtin,h1]),o,?_⟩
    rw [ab];exact .n _ _
   ·rename_i cM r k len t hargs n6
    have uO:nD P s.E s.aW aV .clear [.bm r k 0 len] [t] cM=some bC:=aw
    obtain ⟨p,rfl,ak⟩:=aaM hargs
    obtain ⟨l⟩:=mQ
    simp only at n6
    subst n6
    have U:=h.eval p
    rw [ak] at U
    obtain ⟨bN,h1,o,ab⟩:=Y9 (eH:=I.type) h uO cz U
    refine ⟨.tuple #[],bN,ay,.inl (by simp [execOp,ap,resolve,invoke,builtin,h1]),o,?_⟩
    rw [ab];exact .dX [] rfl (fun j x u aF=>by simp at aF)
   ·rename_i k x d8 y hargs
    split at aw
    ·rename_i a8
     simp only [Option.some.injEq] at aw
     subst aw;subst a8
     obtain ⟨p,q,rfl,ak,bc⟩:=DH hargs
     have U:=h.eval p
     have a3:=h.eval q
     rw [ak] at U;rw [bc] at a3
     refine ir (v:= .int k (if y<x then y else x)) h ?_ rfl (.n _ _)
     simp [execOp,ap,resolve,invoke,builtin,Builtin.min_,U.o3,a3.o3,Builtin.min2]
    ·simp at aw
   ·simp at aw
 ·rename_i op t x y db ap
  split at aw
  ·rename_i sz es U a3
   split at aw
   ·rename_i he
    obtain ⟨e,he⟩:=Option.isSome_iff_exists.1 he
    simp only [Option.some.injEq] at aw
    subst aw
    have h1:=h.eval x
    have o:=h.eval y
    rw [U] at h1;rw [a3] at o
    have dr:es≠[]:=cz _ (by simp)
    refine ir (v:= .bool false) h ?_ rfl (.b _)
    simp only [execOp,ap]
    rw [Sem.run_bind,(Qh (w:=w) (re he) dr h1 o x y).1];rfl
   ·simp at aw
  ·rename_i sz es U a3
   split at aw
   ·rename_i he
    obtain ⟨e,he⟩:=Option.isSome_iff_exists.1 he
    simp only [Option.some.injEq] at aw
    subst aw
    have h1:=h.eval x
    have o:=h.eval y
    rw [U] at h1;rw [a3] at o
    have dr:es≠[]:=cz _ (by simp)
    refine ir (v:= .bool true) h ?_ rfl (.b _)
    simp only [execOp,ap]
    rw [Sem.run_bind,(Qh (w:=w) (re he) dr h1 o x y).2];rfl
   ·simp at aw
  ·rename_i sz U a3
   split at aw
   ·rename_i ch
    obtain ⟨e,he⟩:=Dm ch
    simp only [Option.some.injEq] at aw
    subst aw
    have h1:=h.eval x
    have o:=h.eval y
    rw [U] at h1;rw [a3] at o
    have p9:Rel w (s.ok g ay w) s.a5 (s.bd ay) .hY (a.eval x):=by rw [h1.Pc];exact .hY
    refine ir (v:= .bool true) h ?_ rfl (.b _)
    simp only [execOp,ap]
    rw [Sem.run_bind,(xy (w:=w) (r:=true) (by simp [rq,he]) p9 o x y).1];rfl
   ·simp at aw
  ·rename_i sz U a3
   split at aw
   ·rename_i ch
    obtain ⟨e,he⟩:=Dm ch
    simp only [Option.some.injEq] at aw
    subst aw
    have h1:=h.eval x
    have o:=h.eval y
    rw [U] at h1;rw [a3] at o
    have p9:Rel w (s.ok g ay w) s.a5 (s.bd ay) .hY (a.eval x):=by rw [h1.Pc];exact .hY
    refine ir (v:= .bool false) h ?_ rfl (.b _)
    simp only [execOp,ap]
    rw [Sem.run_bind,(xy (w:=w) (r:=true) (by simp [rq,he]) p9 o x y).2];rfl
   ·simp at aw
  ·rename_i sz c U a3
   split at aw
   ·rename_i ch
    obtain ⟨e,he⟩:=Dm ch
    simp only [Option.some.injEq] at aw
    subst aw
    have h1:=h.eval x
    have o:=h.eval y
    rw [U] at h1;rw [a3] at o
    refine ir (v:= .bool false) h ?_ rfl (.b _)
    simp only [execOp,ap]
    rw [Sem.run_bind,(xy (w:=w) (r:=false) (by simp [rq,he]) h1.JU o x y).1];rfl
   ·simp at aw
  ·rename_i sz c U a3
   split at aw
   ·rename_i ch
    obtain ⟨e,he⟩:=Dm ch
    simp only [Option.some.injEq] at aw
    subst aw
    have h1:=h.eval x
    have o:=h.eval y
    rw [U] at h1;rw [a3] at o
    refine ir (v:= .bool true) h ?_ rfl (.b _)
    simp only [execOp,ap]
    rw [Sem.run_bind,(xy (w:=w) (r:=false) (by simp [rq,he]) h1.JU o x y).2];rfl
   ·simp at aw
  ·simp at aw
  ·exact Dl h eU aw cz
 ·rename_i x ap
  split at aw
  ·rename_i sz c U
   simp only [Option.some.injEq] at aw
   subst aw
   have h1:=h.eval x
   rw [U] at h1
   have o:=h1.JU
   obtain ⟨d3,off,aS,hval,ic⟩:=o.xF
   refine ir (v:=a.eval x) h ?_ rfl o
   rw [hval]
   simp only [execOp,ap,hval]
   rfl
  ·simp at aw
  ·exact Dl h eU aw cz
 ·exact Dl h eU aw cz
end
end Go.VL
namespace Go.VL
set_option linter.unusedVariables false
set_option linter.unusedSimpArgs false
open Go
theorem rK {es:List (List aB)}{j:Nat}{x:aB}(h:es.flatten[j]? = some x): ∃e∈es,x∈e:=by
 have:=List.mem_of_getElem? h
 rw [List.mem_flatten] at this
 obtain ⟨e,he,U⟩:=this
 exact ⟨e,he,U⟩
theorem Rel.pure {w:World}{ok kN:Nat→Prop}{a5 mO:i2}{bd l6:iR}{x:aB}{v:Value}(h:Rel w ok a5 bd x v)(ak:Pure x)(mP:∀b,ok b→kN b):Rel w kN mO l6 x v:=by
 induction h with
 | dead v=>exact .dead v
 | b x=>exact .b x
 | n k x=>exact .n k x
 | s x=>exact .s x
 | hY=>exact .hY
 | eo=>exact .eo
 | ib a c=>exact .ib a c
 | pj=>cases ak
 | ref=>cases ak
 | m6=>cases ak
 | ns=>cases ak
 | bm=>cases ak
 | mJ=>cases ak
 | nz=>cases ak
 | jY sz a c h=>exact .jY sz a c h
 | isl cs aS nG aT bf hw iw ar ih =>
  cases ak with
  | isl h=>exact .isl cs (mP _ aS) nG aT bf hw iw fun j x U=>ih j x U (by obtain ⟨e,he,qa⟩:=rK U;exact h e he x qa)
 | eb cs aS nG aT hw iw ar ih =>
  cases ak with
  | eb h=>exact .eb cs (mP _ aS) nG aT hw iw fun j x U=>ih j x U (by obtain ⟨e,he,qa⟩:=rK U;exact h e he x qa)
 | o5 sz=>exact .o5 sz
 | oH h ih =>
  cases ak with
  | oH ak=>exact .oH (ih (.eb fun e he x U=>by rw [List.mem_singleton] at he;subst he;exact ak x U))
 | agg vs aT iw ar ih =>
  cases ak with
  | agg h=>exact .agg vs aT iw fun j x v U bh=>ih j x v U bh (h x (List.mem_of_getElem? U))
 | dX vs aT ar ih =>
  cases ak with
  | dX h=>exact .dX vs aT fun j x v U bh=>ih j x v U bh (h x (List.mem_of_getElem? U))
 | fn vs aT ar ih =>
  cases ak with
  | fn h=>exact .fn vs aT fun j x v U bh=>ih j x v U bh (h x (List.mem_of_getElem? U))
abbrev gC:=Nat→Nat→Option (Nat×Nat)
structure Down (q:aB→Prop):Prop where
 agg : ∀c x,q (.agg c)→x∈c→q x
 dX : ∀c x,q (.dX c)→x∈c→q x
 fn : ∀f c x,q (.fn f c)→x∈c→q x
inductive hy (s:S) (a1:gC) (b8:f5→Bool) (q:aB→Prop):aB→aB→Prop
 | dead (x:aB):hy s a1 b8 q x .dead
 | pure {x:aB} (h:Pure x) (bc:q x):hy s a1 b8 q x x
 | eo (sz:Nat):hy s a1 b8 q .eo (.isl sz [])
 | ib (sz:Nat):hy s a1 b8 q .ib (.isl sz [])
 | DX (sz:Nat):hy s a1 b8 q .hY (.j0 sz none)
 | j0 {sz:Nat} {x:aB} {c:List aB} (h:hy s a1 b8 q x (.eb sz [c] 0 0)):hy s a1 b8 q x (.j0 sz (some c))
 | ref {r k j eF:Nat} (i off:Nat) (h:a1 j eF=some (r,k)) (hu:s.a5 r k):hy s a1 b8 q (.ref r k i off) (.ref j eF i off)
 | bm {r k j eF:Nat} (bV len:Nat) (h:a1 j eF=some (r,k)) (hu:s.a5 r k):hy s a1 b8 q (.bm r k bV len) (.bm j eF bV len)
 | mJ (r c sz:Nat):hy s a1 b8 q (.iI r c sz none) (.isl sz [])
 | nz {r c sz k n:Nat} {cG:aB} (h:hy s a1 b8 q (.bm r (k+c) 0 n) cG):hy s a1 b8 q (.iI r c sz (some (k,n))) cG
 | iI {r eJ c dL sz:Nat} (h:Option (Nat×Nat)) (hm : ∀k,a1 eJ (k+dL)=some (r,k+c)):hy s a1 b8 q (.iI r c sz h) (.iI eJ dL sz h)
 | eb {r k:Nat} {I:ae} {gj:List (List aB)} (i off:Nat) (ap:s.ao r k=some I) (bF:b8 I.cp=true) (ar:(∀j i,a1 j i≠some (r,k))) (dr:I.es≠[]) (ak:jo gj) (hle : ∀e∈gj,e.length=I.sz) (aT:gj.length=I.es.length)
  (h : ∀(j:Nat) x cG,I.es.flatten[j]? = some x→gj.flatten[j]? = some cG→hy s a1 b8 q x cG):hy s a1 b8 q (.ref r k i off) (.eb I.sz gj i off)
 | isl {r k bV len:Nat} {I:ae} {gj:List (List aB)} (ap:s.ao r k=some I) (bF:b8 I.cp=true) (ar:(∀j i,a1 j i≠some (r,k))) (h9:bV+len≤I.es.length) (ak:jo gj) (hle : ∀e∈gj,e.length=I.sz) (aT:gj.length=len)
  (h : ∀(j:Nat) x cG,((I.es.drop bV).take len).flatten[j]? = some x→gj.flatten[j]? = some cG→hy s a1 b8 q x cG):hy s a1 b8 q (.bm r k bV len) (.isl I.sz gj)
 | agg {c dL:List aB} (aT:dL.length=c.length) (h : ∀(j:Nat) x cG,c[j]? = some x→dL[j]? = some cG→hy s a1 b8 q x cG):hy s a1 b8 q (.agg c) (.agg dL)
 | dX {c dL:List aB} (aT:dL.length=c.length) (h : ∀(j:Nat) x cG,c[j]? = some x→dL[j]? = some cG→hy s a1 b8 q x cG):hy s a1 b8 q (.dX c) (.dX dL)
 | fn {f:Nat} {c dL:List aB} (aT:dL.length=c.length) (h : ∀(j:Nat) x cG,c[j]? = some x→dL[j]? = some cG→hy s a1 b8 q x cG):hy s a1 b8 q (.fn f c) (.fn f dL)
theorem q7 {sz:Nat}: ∀(es:List (List aB)),(∀e∈es,e.length=sz)→es.flatten.length=es.length*sz
 | [],_=>by simp
 | e::es,h=>by
  rw [List.flatten_cons,List.length_append,q7 es fun x U=>h x (by simp [U]),h e (by simp),List.length_cons,Nat.add_mul];omega
theorem fT {α:Type}{l:List α}{j:Nat}{x:α}(h:l[j]? = some x):j<l.length:=by
 rcases Nat.lt_or_ge j l.length with cD|cD
 ·exact cD
 ·rw [List.getElem?_eq_none cD] at h;simp at h
theorem hy.rel {g:G}{s:S}{ay:fm}{w:World}{a1:gC}{b8:f5→Bool}{q:aB→Prop}(ed:hZ g s ay w){kN:Nat→Prop}{mO:i2}{l6:iR}
 (H1 : ∀x v,q x→Pure x→Rel w (s.ok g ay w) s.a5 (s.bd ay) x v→Rel w kN mO l6 x v)
 (EU : ∀r k I b m,s.ao r k=some I→b8 I.cp=true→(∀j i,a1 j i≠some (r,k))→ay r k=some (b,m)→kN b)
 (B7 : ∀j i r k,a1 j i=some (r,k)→s.a5 r k→mO j i∧(l6 j i=s.bd ay r k∨l6 j i=none)) {x cG:aB} (b0:hy s a1 b8 q x cG) :
 ∀ {v:Value},Rel w (s.ok g ay w) s.a5 (s.bd ay) x v→Rel w kN mO l6 cG v:=by
 induction b0 with
 | dead x=>intro v _;exact .dead v
 | pure ak bc=>intro v ar;exact H1 _ v bc ak ar
 | eo sz=>intro v ar;rw [ar.pg];exact .jY sz none 0 (fun _=>rfl)
 | ib sz=>intro v ar;obtain ⟨a,c,rfl⟩:=ar.DF;exact .jY sz (some a) c (fun h=>by simp at h)
 | DX sz=>intro v ar;rw [ar.uy];exact .o5 sz
 | j0 h ih=>intro v ar;exact .oH (ih ar)
 | @ref r k j eF i off aF hu =>
  intro v ar
  obtain ⟨h1,o⟩:=B7 j eF r k aF hu
  cases ar with
  | pj a n9 a4 =>
   refine .pj a h1 fun sz p=> ?_
   rcases o with e|e<;>rw [e]
   ·exact a4 sz p
   ·simp
  | ref n9 ch =>
   rcases o with e|e
   ·exact .ref h1 (e.trans ch)
   ·exact .pj _ h1 fun sz p=>by rw [e];simp
 | @bm r k j eF bV len aF hu =>
  intro v ar
  obtain ⟨h1,o⟩:=B7 j eF r k aF hu
  cases ar with
  | m6 a l c n9 a4 =>
   refine .m6 a l c h1 ?_
   rcases o with e|e<;>rw [e]
   exact a4
  | ns n9 ch =>
   rcases o with e|e
   ·exact .ns h1 (e.trans ch)
   ·exact .m6 _ _ _ h1 e
  | bm n9 ch aT bf hm =>
   rcases o with e|e
   ·exact .bm h1 (e.trans ch) aT bf hm
   ·exact .m6 _ _ _ h1 e
 | mJ r c sz =>
  intro v ar
  cases ar with
  | mJ h0 =>
   rcases h0.rU with ⟨-,a,c,rfl,bF⟩|⟨d3,off,c,-,rfl,-⟩
   ·exact .jY sz a c bF
   ·exact .jY sz _ c (fun h=>by simp at h)
 | nz h ih =>
  intro v ar
  cases ar with
  | nz h0=>exact ih h0
 | @iI r eJ c dL sz h hm =>
  intro v ar
  cases ar with
  | mJ h0 =>
   rcases h0.rU with ⟨-,a,c,rfl,bF⟩|⟨d3,off,c,-,rfl,-⟩
   ·exact .mJ (.jY sz a c bF)
   ·exact .mJ (.jY sz _ c (fun h=>by simp at h))
  | @nz _ _ _ k n _ h0 =>
   refine .nz ?_
   cases h0 with
   | m6 a l bu n9 a4 =>
    obtain ⟨h1,o⟩:=B7 _ _ _ _ (hm k) n9
    refine .m6 a l bu h1 ?_
    rcases o with e|e<;>rw [e]
    exact a4
   | ns n9 ch =>
    obtain ⟨h1,o⟩:=B7 _ _ _ _ (hm k) n9
    rcases o with e|e
    ·exact .ns h1 (e.trans ch)
    ·exact .m6 _ _ _ h1 e
   | bm n9 ch aT bf l8 =>
    obtain ⟨h1,o⟩:=B7 _ _ _ _ (hm k) n9
    rcases o with e|e
    ·exact .bm h1 (e.trans ch) aT bf l8
    ·exact .m6 _ _ _ h1 e
 | @eb r k I gj i off ap bF ar dr Lj hle aT h ih =>
  intro v bh
  have fs:=ed.obj r k I ap
  rcases bh.xE (iu ap) with h0|⟨b,m,ak,hval⟩
  ·rw [h0] at fs;exact absurd fs dr
  ·rw [ak] at fs
   have ic:=fs.rd
   rw [hval]
   have jG:gj.flatten.length=I.es.flatten.length:=by rw [q7 gj hle,q7 I.es ic.1,aT]
   have uV:oe w kN mO l6 b 0 I.sz gj:=by
    refine ⟨hle,fun j cG dC=> ?_⟩
    have dG:j<I.es.flatten.length:=by rw [← jG];exact fT dC
    have U:I.es.flatten[j]? = some I.es.flatten[j]:=List.getElem?_eq_getElem dG
    obtain ⟨u,e1,aD,bS⟩:=ic.2 j _ U
    exact ⟨u,e1,aD,ih j _ cG U dC bS⟩
   have:=uV.eb (i:=i) (off:=off) ⟨EU r k I b m ap bF ar ak,Lj⟩
   rw [Nat.zero_add] at this
   exact this
 | @isl r k bV len I gj ap bF ar h9 Lj hle aT h ih =>
  intro v bh
  have fs:=ed.obj r k I ap
  rcases bh.Ai (iu ap) with ⟨ak,rfl,rfl,hval⟩|⟨b,m,A,c,ak,hval,qK,sj,hm⟩
  ·have:gj=[]:=List.length_eq_zero_iff.1 aT
   subst this
   rw [hval];exact .jY _ none 0 (fun _=>rfl)
  ·rw [ak] at fs
   rw [hval]
   rcases Nat.eq_zero_or_pos len with h0|jZ
   ·subst h0
    have:gj=[]:=List.length_eq_zero_iff.1 aT
    subst this
    exact .jY _ A c (fun a4=>by rcases hm with h1|⟨h1,-⟩<;>simp_all)
   ·rcases hm with hm|⟨hA,hm⟩
    ·omega
    ·subst hA
     have ic:=C6 fs.rd bV len (by omega)
     rw [Nat.zero_add] at ic
     have jG:gj.flatten.length=((I.es.drop bV).take len).flatten.length:=by
      rw [q7 gj hle,q7 _ ic.1,aT,List.length_take,List.length_drop,Nat.min_eq_left (by omega)]
     have uV:oe w kN mO l6 b (bV*I.sz) I.sz gj:=by
      refine ⟨hle,fun j cG dC=> ?_⟩
      have dG:j<((I.es.drop bV).take len).flatten.length:=by rw [← jG];exact fT dC
      have U:=List.getElem?_eq_getElem dG
      obtain ⟨u,e1,aD,bS⟩:=ic.2 j _ U
      exact ⟨u,e1,aD,ih j _ cG U dC bS⟩
     have:=uV.isl (c:=c) ⟨EU r k I b m ap bF ar ak,Lj⟩ (by omega)
     rw [aT] at this
     exact this
 | @agg c dL aT h ih =>
  intro v bh
  obtain ⟨vs,rfl,h1,o,ab⟩:=bh.Ah
  refine .agg vs (by omega) o fun j cG u dC hu=> ?_
  have dG:j<c.length:=by have:=fT dC;omega
  exact ih j _ cG (List.getElem?_eq_getElem dG) dC (ab j _ u (List.getElem?_eq_getElem dG) hu)
 | @dX c dL aT h ih =>
  intro v bh
  obtain ⟨vs,rfl,h1,ab⟩:=bh.xD
  refine .dX vs (by omega) fun j cG u dC hu=> ?_
  have dG:j<c.length:=by have:=fT dC;omega
  exact ih j _ cG (List.getElem?_eq_getElem dG) dC (ab j _ u (List.getElem?_eq_getElem dG) hu)
 | @fn f c dL aT h ih =>
  intro v bh
  obtain ⟨vs,rfl,h1,ab⟩:=bh.DO
  refine .fn vs (by omega) fun j cG u dC hu=> ?_
  have dG:j<c.length:=by have:=fT dC;omega
  exact ih j _ cG (List.getElem?_eq_getElem dG) dC (ab j _ u (List.getElem?_eq_getElem dG) hu)
structure oa (s:S) (a1:gC) (b8:f5→Bool) (q:aB→Prop) (I b6:ae):Prop where
 sz:b6.sz=I.sz
 cp:b6.cp=I.cp∨(b6.cp = .iO∧I.cp = .live)∨b6.cp = .gone
 len:b6.es.length=I.es.length
 each : ∀e∈b6.es,e.length=I.sz
 at_ : ∀(j:Nat) x cG,I.es.flatten[j]? = some x→b6.es.flatten[j]? = some cG→hy s a1 b8 q x cG
structure px (s:S) (a1:gC) (b8:f5→Bool) (q:aB→Prop) (hC:Nat→Option (List ae)):Prop where
 inj : ∀j i hK eF p,a1 j i=some p→a1 hK eF=some p→j=hK∧i=eF
 at_ : ∀j i b6,dh (hC j) i=some b6→ ∃r k I,a1 j i=some (r,k)∧s.ao r k=some I∧oa s a1 b8 q I b6
 a5 : ∀j i r k,a1 j i=some (r,k)→s.a5 r k→i<((hC j).getD []).length
def jH (ay:fm)(a1:gC):fm:=fun j i=>match a1 j i with
 | some (r,k)=>ay r k
 | none=>none
theorem xO {ay:fm}{a1:gC}{j i r k:Nat}(h:a1 j i=some (r,k)):jH ay a1 j i=ay r k:=by simp [jH,h]
def lS (_:aB):Prop:=True
theorem abO:Down lS:=⟨fun _ _ _ _=>trivial,fun _ _ _ _=>trivial,fun _ _ _ _ _=>trivial⟩
section
variable {g:G} {s:S} {ay:fm} {w:World} {a1:gC} {b8:f5→Bool} {q:aB→Prop} {bR:S}
theorem px.ao (h:px s a1 b8 q bR.aW){j i:Nat}{b6:ae}(ap:bR.ao j i=some b6): ∃r k I,a1 j i=some (r,k)∧s.ao r k=some I∧oa s a1 b8 q I b6:=h.at_ j i b6 ap
theorem PQ {I b6:ae}(h:oa s a1 b8 q I b6)(aT:b6.cp = .live):I.cp = .live:=by
 rcases h.cp with e|⟨e,-⟩|e
 ·exact e.symm.trans aT
 ·rw [e] at aT;simp at aT
 ·rw [e] at aT;simp at aT
theorem px.live (h:px s a1 b8 q bR.aW)(b:Nat)(aT:bR.lI (jH ay a1) b): ∃r k I m,s.ao r k=some I∧I.cp = .live∧ay r k=some (b,m)∧ ∃j i,a1 j i=some (r,k):=by
 obtain ⟨j,i,b6,m,h1,o,ab⟩:=aT
 obtain ⟨r,k,I,e1,aD,bS⟩:=h.ao h1
 rw [xO e1] at ab
 exact ⟨r,k,I,m,aD,PQ bS o,ab,j,i,e1⟩
theorem px.En (h:px s a1 b8 q bR.aW){j i r k:Nat}(aF:a1 j i=some (r,k)):bR.bd (jH ay a1) j i=s.bd ay r k∨bR.bd (jH ay a1) j i=none:=by
 cases ap:bR.ao j i with
 | none=>right;simp [S.bd,ap]
 | some b6 =>
  obtain ⟨eJ,d8,I,e1,aD,bS⟩:=h.ao ap
  rw [aF] at e1;simp only [Option.some.injEq,Prod.mk.injEq] at e1
  obtain ⟨rfl,rfl⟩:=e1
  left
  rw [iu ap,iu aD,bS.sz,xO aF]
theorem hZ.Ma (ed:hZ g s ay w)(h:px s a1 b8 q bR.aW){fW:G}(a8:AV fW w)(AF:∀j k,fW.oM j k→bR.a5 j k∧(bR.bd (jH ay a1) j k=fW.qI j k∨bR.bd (jH ay a1) j k=none))(A5:∀j k,fW.oM j k→j<fW.m)
 (acj : ∀b,fW.pa b→b<fW.mx.heap.size) (halt : ∀b,fW.A b→b<fW.mx.heap.size)
 (KT : ∀r k I b m,(∃j i,a1 j i=some (r,k))→s.ao r k=some I→ay r k=some (b,m)→fW.mx.heap.size≤b∨fW.pa b)
 (H1 : ∀b,s.ok g ay w b→bR.ok fW (jH ay a1) w b)
 (EU : ∀r k I b m,s.ao r k=some I→b8 I.cp=true→(∀j i,a1 j i≠some (r,k))→ay r k=some (b,m)→bR.ok fW (jH ay a1) w b) :
 hZ fW bR (jH ay a1) w∧ ∀ {x cG:aB} {v:Value},hy s a1 b8 q x cG→Rel w (s.ok g ay w) s.a5 (s.bd ay) x v→Rel w (bR.ok fW (jH ay a1) w) bR.a5 (bR.bd (jH ay a1)) cG v:=by
 have fs : ∀ {x cG:aB} {v:Value},hy s a1 b8 q x cG→Rel w (s.ok g ay w) s.a5 (s.bd ay) x v→Rel w (bR.ok fW (jH ay a1) w) bR.a5 (bR.bd (jH ay a1)) cG v :=
  fun b0 ar=>b0.rel ed (fun x v _ ak ar=>ar.pure ak H1) EU (fun j i r k aF hu=>⟨h.a5 j i r k aF hu,h.En aF⟩) ar
 refine ⟨⟨?_,?_,?_,a8,acj,halt,AF,A5⟩,fs⟩
 ·intro j k b6 dO
  obtain ⟨r,d8,I,e1,aD,bS⟩:=h.ao dO
  have bo:=ed.obj r d8 I aD
  rw [xO e1]
  cases ak:ay r d8 with
  | none =>
   rw [ak] at bo
   simp only [jb] at bo ⊢
   apply List.length_eq_zero_iff.1
   rw [bS.len,bo];rfl
  | some q =>
   obtain ⟨b,m⟩:=q
   rw [ak] at bo
   obtain ⟨c,eH,h1,o,ab,av⟩:=bo
   have jG:b6.es.flatten.length=I.es.flatten.length:=by rw [q7 _ bS.each,q7 _ ab,bS.len]
   refine ⟨c,eH,h1,o,by rw [bS.sz];exact bS.each,fun i cG dC=> ?_⟩
   have dG:i<I.es.flatten.length:=by rw [← jG];exact fT dC
   have U:=List.getElem?_eq_getElem dG
   obtain ⟨u,f1,f2,f3⟩:=av i _ U
   exact ⟨u,f1,f2,fs (bS.at_ i _ cG U dC) f3⟩
 ·intro j k I hK d8 b6 b m cx h1 o ab av
  obtain ⟨r,mX,p,e1,aD,-⟩:=h.ao h1
  obtain ⟨eJ,acZ,kd,mT,o7,-⟩:=h.ao o
  rw [xO e1] at ab
  rw [xO mT] at av
  obtain ⟨rfl,rfl⟩:=ed.inj r mX p eJ acZ kd b m cx aD o7 ab av
  exact h.inj _ _ _ _ _ e1 mT
 ·intro j k I b m h1 o
  obtain ⟨r,mX,p,e1,aD,-⟩:=h.ao h1
  rw [xO e1] at o
  exact KT r mX p b m ⟨j,k,e1⟩ aD o
theorem cL.PR {a:Act}(h:cL g s ay a w)(cW:px s a1 (fun _=>true) q bR.aW)(en:∀t,hy s a1 (fun _=>true) q (s.E t) (bR.E t))(A6:∀j k,g.oM j k→a1 j k=some (j,k)):cL g bR (jH ay a1) a w:=by
 have jv : ∀b,bR.lI (jH ay a1) b→s.lI ay b:=fun b aT=>by
  obtain ⟨r,k,I,m,h1,o,ab,-⟩:=cW.live b aT
  exact ⟨r,k,I,m,h1,o,ab⟩
 have AF : ∀j k,g.oM j k→bR.a5 j k∧(bR.bd (jH ay a1) j k=g.qI j k∨bR.bd (jH ay a1) j k=none):=by
  intro j k aF
  obtain ⟨e1,aD⟩:=h.stay j k aF
  refine ⟨cW.a5 j k j k (A6 j k aF) e1,?_⟩
  rcases cW.En (ay:=ay) (A6 j k aF) with e|e
  ·rw [e];exact aD
  ·exact .inr e
 obtain ⟨h1,o⟩:=h.tohZ.Ma cW h.gQ AF h.low h.mlt h.nd (fun r k I b m _ ap ak=>h.own r k I b m ap ak)
  (fun b aS=>⟨aS.1,aS.2.1,fun aT=>aS.2.2 (jv b aT)⟩)
  (fun r k I b m ap _ ar ak=>by
    have bo:=h.obj r k I ap
    rw [ak] at bo
    obtain ⟨c,eH,e1,-⟩:=bo
    refine ⟨(Array.getElem?_eq_some_iff.1 e1).1,?_,fun aT=> ?_⟩
    ·rcases h.own r k I b m ap ak with e|e
     ·exact .inr (.inl e)
     ·exact .inr (.inr e)
    ·obtain ⟨eJ,d8,b6,cx,f1,f2,f3,⟨Mb,B8,f4⟩⟩:=cW.live b aT
     obtain ⟨rfl,rfl⟩:=h.inj r k I eJ d8 b6 b m cx ap f1 ak f3
     exact ar Mb B8 f4)
 exact {tohZ:=h1,env:=fun t=>o (en t) (h.env t),defers:=h.defers,jF:=h.jF}
end
end Go.VL
namespace Go.VL
set_option linter.unusedVariables false
set_option linter.unusedSimpArgs false
open Go
def e2 (T:List (List ae)):S:={E:=fun _=> .dead,aW:=fun r=>T[r]?}
def abP (P:Program)(f:FuncId)(args:List aB)(T:List (List ae))(r:aB)(im:List (List ae)):Prop :=
 ∀(g:G) (ay:fm) (w:World) (vs:Array Value),g.mx=w→g.m=T.length→g.oM=(e2 T).a5→g.qI=(e2 T).bd ay→hZ g (e2 T) ay w→vs.size=args.length →
  (∀(j:Nat) x v,args[j]? = some x→vs[j]? = some v→Rel w ((e2 T).ok g ay w) (e2 T).a5 ((e2 T).bd ay) x v) →
  Calls P f vs w fun e bN=> ∃v bM,e = .returned v∧hZ g (e2 im) bM bN∧Rel bN ((e2 im).ok g bM bN) (e2 im).a5 ((e2 im).bd bM) r v
inductive b7:aB→Prop
 | dead:b7 .dead
 | b (x:Bool):b7 (.b x)
 | n (k:IntKind) (x:Int):b7 (.n k x)
 | s (x:ByteArray):b7 (.s x)
 | hY:b7 .hY
 | eo:b7 .eo
 | ib:b7 .ib
 | jY (sz:Nat):b7 (.isl sz [])
 | ref (r k i off:Nat):b7 (.ref r k i off)
 | bm (r k bV len:Nat):b7 (.bm r k bV len)
 | iI (r c sz:Nat) (h:Option (Nat×Nat)):b7 (.iI r c sz h)
 | agg {c:List aB} (h : ∀x∈c,b7 x):b7 (.agg c)
 | dX {c:List aB} (h : ∀x∈c,b7 x):b7 (.dX c)
theorem abQ:Down b7:=⟨fun _ _ h U=>by cases h with|agg h=>exact h _ U,fun _ _ h U=>by cases h with|dX h=>exact h _ U,fun _ _ _ h=>by cases h⟩
theorem Rel.fB {w bN:World}{ok kN:Nat→Prop}{a5 mO:i2}{bd l6:iR}{x:aB}(b0:b7 x): ∀ {v:Value},Pure x→Rel w ok a5 bd x v→Rel bN kN mO l6 x v:=by
 induction b0 with
 | dead=>intro v _ h;exact .dead v
 | b x=>intro v _ h;rw [h.s7];exact .b x
 | n k x=>intro v _ h;rw [h.o3];exact .n k x
 | s x=>intro v _ h;rw [h.xV];exact .s x
 | hY=>intro v _ h;rw [h.uy];exact .hY
 | eo=>intro v _ h;rw [h.pg];exact .eo
 | ib=>intro v _ h;obtain ⟨a,c,rfl⟩:=h.DF;exact .ib a c
 | jY sz =>
  intro v _ h
  rcases h.rU with ⟨-,a,c,rfl,bF⟩|⟨d3,off,c,-,rfl,-⟩
  ·exact .jY sz a c bF
  ·exact .jY sz _ c (fun h=>by simp at h)
 | ref=>intro v ak;cases ak
 | bm=>intro v ak;cases ak
 | iI=>intro v ak;cases ak
 | @agg c bf ih =>
  intro v ak h
  obtain ⟨vs,rfl,h1,o,ab⟩:=h.Ah
  cases ak with
  | agg ak=>exact .agg vs h1 o fun j x u U hu=>ih x (List.mem_of_getElem? U) (ak x (List.mem_of_getElem? U)) (ab j x u U hu)
 | @dX c bf ih =>
  intro v ak h
  obtain ⟨vs,rfl,h1,ab⟩:=h.xD
  cases ak with
  | dX ak=>exact .dX vs h1 fun j x u U hu=>ih x (List.mem_of_getElem? U) (ak x (List.mem_of_getElem? U)) (ab j x u U hu)
section
variable {P:Program} {g:G} {s:S} {ay:fm} {a:Act} {w:World}
theorem At (h:hZ g s ay w){r k b m:Nat}{I:ae}(ap:s.ao r k=some I)(ak:ay r k=some (b,m)):b<w.heap.size:=by
 have:=h.obj r k I ap
 rw [ak] at this
 obtain ⟨c,eH,e,-⟩:=this
 exact (Array.getElem?_eq_some_iff.1 e).1
theorem abj (h:hZ g s ay w){r k b m:Nat}{I:ae}(ap:s.ao r k=some I)(a8:I.cp = .iO)(ak:ay r k=some (b,m)):s.ok g ay w b:=by
 refine ⟨At h ap ak,?_,?_⟩
 ·rcases h.own r k I b m ap ak with e|e
  ·exact .inr (.inl e)
  ·exact .inr (.inr e)
 ·rintro ⟨eJ,d8,b6,cx,h1,o,ab⟩
  obtain ⟨rfl,rfl⟩:=h.inj r k I eJ d8 b6 b m cx ap h1 ak ab
  rw [ap] at h1;simp at h1;subst h1;rw [a8] at o;simp at o
theorem enter (h:hZ g s ay w){a1:gC}{b8:f5→Bool}{q:aB→Prop}{T:List (List ae)}(A:Nat→Prop)
 (hA : ∀b,A b→b<w.heap.size) (Lk : ∀b,s.ok g ay w b→A b)
 (Ll : ∀r k I b m,s.ao r k=some I→b8 I.cp=true→ay r k=some (b,m)→A b)
 (cW:px s a1 b8 q (e2 T).aW) (pn : ∀r k I,(∃j i,a1 j i=some (r,k))→s.ao r k=some I→I.cp = .live) :
 ∃fW:G,fW.mx=w∧fW.A=A∧fW.m=T.length∧fW.oM=(e2 T).a5∧fW.qI=(e2 T).bd (jH ay a1) ∧
  (fW.pa=fun b=> ∃r k I m,(∃j i,a1 j i=some (r,k))∧s.ao r k=some I∧ay r k=some (b,m))∧hZ fW (e2 T) (jH ay a1) w ∧
  ∀ {x cG:aB} {v:Value},hy s a1 b8 q x cG→Rel w (s.ok g ay w) s.a5 (s.bd ay) x v→Rel w ((e2 T).ok fW (jH ay a1) w) (e2 T).a5 ((e2 T).bd (jH ay a1)) cG v:=by
 let fW:G:={mx:=w,A:=A,pa:=fun b=> ∃r k I m,(∃j i,a1 j i=some (r,k))∧s.ao r k=some I∧ay r k=some (b,m),N:=0,m:=T.length,oM:=(e2 T).a5,qI:=(e2 T).bd (jH ay a1)}
 refine ⟨fW,rfl,rfl,rfl,rfl,rfl,rfl,?_⟩
 have jv : ∀b,(e2 T).lI (jH ay a1) b→ ∃r k I m,s.ao r k=some I∧I.cp = .live∧ay r k=some (b,m)∧ ∃j i,a1 j i=some (r,k):=fun b aT=>cW.live b aT
 refine hZ.Ma (bR:=e2 T) (fW:=fW) h cW ⟨rfl,rfl,rfl,Nat.le_refl _,fun _ _ _=>rfl⟩ (fun j k aF=>⟨aF,.inl rfl⟩) ?_ ?_ hA ?_ ?_ ?_
 ·intro j k aF
  have aF:k<((T[j]?).getD []).length:=aF
  rcases Nat.lt_or_ge j T.length with h1|h1
  ·exact h1
  ·rw [List.getElem?_eq_none h1] at aF;simp at aF
 ·rintro b ⟨r,k,I,m,-,ap,ak⟩
  exact At h ap ak
 ·intro r k I b m hm ap ak
  exact .inr ⟨r,k,I,m,hm,ap,ak⟩
 ·intro b aS
  refine ⟨aS.1,.inl (Lk b aS),fun aT=> ?_⟩
  obtain ⟨r,k,I,m,h1,o,ab,-⟩:=jv b aT
  exact aS.2.2 ⟨r,k,I,m,h1,o,ab⟩
 ·intro r k I b m ap bF ar ak
  refine ⟨At h ap ak,.inl (Ll r k I b m ap bF ak),fun aT=> ?_⟩
  obtain ⟨eJ,d8,b6,cx,h1,o,ab,⟨j,i,aF⟩⟩:=jv b aT
  obtain ⟨rfl,rfl⟩:=h.inj r k I eJ d8 b6 b m cx ap h1 ak ab
  exact ar j i aF
theorem leave (h:cL g s ay a w){bN:World}{a1 kG:gC}{b8:f5→Bool}{q0 q:aB→Prop}{fW:G}{T fy:List (List ae)}{kO:fm}
 (dH:fW.mx=w) (hA:(∀b,fW.A b→s.ok g ay w b)∨(∀x,q x→b7 x)) (u3:fW.oM=(e2 T).a5) (lb:fW.qI=(e2 T).bd (jH ay a1))
 (ed:fW.pa=fun b=> ∃r k I m,(∃j i,a1 j i=some (r,k))∧s.ao r k=some I∧ay r k=some (b,m))
 (pn : ∀r k I,(∃j i,a1 j i=some (r,k))→s.ao r k=some I→I.cp = .live)
 (cW:px s a1 b8 q0 (e2 T).aW) (h1:hZ fW (e2 fy) kO bN)
 (AG : ∀j i r k,a1 j i=some (r,k)→kG r k=some (j,i)) (D6 : ∀r k j i,kG r k=some (j,i)→a1 j i=some (r,k)∨ ¬s.a5 r k)
 (ack : ∀r k eJ d8 p,kG r k=some p→kG eJ d8=some p→r=eJ∧k=d8)
 {s2:S} (en:s2.E=s.E)
 (bo : ∀r k I,s2.ao r k=some I→(∃j i p,kG r k=some (j,i)∧(e2 fy).ao j i=some p∧oa (e2 fy) kG (fun _=>false) q p I)∨(kG r k=none∧s.ao r k=some I))
 (jg : ∀r k,s.a5 r k→s2.a5 r k) (acm : ∀r k j i,kG r k=some (j,i)→(e2 fy).a5 j i→s2.a5 r k)
 {x cG:aB} {v:Value} (U:hy (e2 fy) kG (fun _=>false) q x cG) (bh:Rel bN ((e2 fy).ok fW kO bN) (e2 fy).a5 ((e2 fy).bd kO) x v) :
 ∃lm,cL g s2 lm a bN∧Rel bN (s2.ok g lm bN) s2.a5 (s2.bd lm) cG v:=by
 let lm:fm:=fun r k=>match kG r k with|some (j,i)=>kO j i|none=>ay r k
 have p1 : ∀r k j i,kG r k=some (j,i)→lm r k=kO j i:=fun r k j i e=>by simp [lm,e]
 have hi : ∀r k,kG r k=none→lm r k=ay r k:=fun r k e=>by simp [lm,e]
 have a8:=h1.gQ
 have eY:w.heap.size≤bN.heap.size:=by have:=a8.size;rw [dH] at this;exact this
 have sc : ∀b,b<w.heap.size→ ¬fW.pa b→bN.heap[b]? = w.heap[b]? := fun b aS kW=>by
  have:=a8.block b (by rw [dH];exact aS) kW
  rw [dH] at this;exact this
 have Eo : ∀j k p b m,(e2 fy).ao j k=some p→kO j k=some (b,m)→w.heap.size≤b∨ ∃r d8 I cx,(∃j i,a1 j i=some (r,d8))∧s.ao r d8=some I∧ay r d8=some (b,cx):=by
  intro j k p b m ak aS
  rcases h1.own j k p b m ak aS with e|e
  ·rw [dH] at e;exact .inl e
  ·rw [ed] at e;exact .inr e
 have hold : ∀q k I b m,kG q k=none→s.ao q k=some I→ay q k=some (b,m)→b<w.heap.size∧ ¬fW.pa b:=by
  intro q k I b m bc ap ak
  refine ⟨At h.tohZ ap ak,fun kW=> ?_⟩
  rw [ed] at kW
  obtain ⟨r,d8,b6,cx,⟨j,i,ar⟩,dO,nG⟩:=kW
  obtain ⟨rfl,rfl⟩:=h.inj q k I r d8 b6 b m cx ap dO ak nG
  rw [AG _ _ _ _ ar] at bc;simp at bc
 have Qj : ∀b,s2.lI lm b→(e2 fy).lI kO b∨(∃q k I m,kG q k=none∧s.ao q k=some I∧I.cp = .live∧ay q k=some (b,m)):=by
  rintro b ⟨q,k,I,m,ap,nF,ak⟩
  rcases bo q k I ap with ⟨j,i,p,e1,aD,bS⟩|⟨e1,aD⟩
  ·rw [p1 _ _ _ _ e1] at ak
   exact .inl ⟨j,i,p,m,aD,PQ bS nF,ak⟩
  ·rw [hi _ _ e1] at ak
   exact .inr ⟨q,k,I,m,e1,aD,nF,ak⟩
 have mP : ∀b,s.ok g ay w b→s2.ok g lm bN b:=by
  intro b aS
  refine ⟨Nat.lt_of_lt_of_le aS.1 eY,aS.2.1,fun aT=> ?_⟩
  rcases Qj b aT with ⟨j,k,p,m,e1,aD,bS⟩|⟨q,k,I,m,e1,aD,bS,da⟩
  ·rcases Eo j k p b m e1 bS with e|⟨r,d8,I,cx,ar,ap,ak⟩
   ·have:=aS.1;omega
   ·exact aS.2.2 ⟨r,d8,I,cx,ap,pn r d8 I ar ap,ak⟩
  ·exact aS.2.2 ⟨q,k,I,m,aD,bS,da⟩
 have Ra : ∀r k,s.a5 r k→s2.bd lm r k=s.bd ay r k∨s2.bd lm r k=none:=by
  intro r k ar
  cases ap:s2.ao r k with
  | none=>right;simp [S.bd,ap]
  | some I =>
   left
   rcases bo r k I ap with ⟨j,i,p,e1,aD,bS⟩|⟨e1,aD⟩
   ·rcases D6 r k j i e1 with aF|aF
    ·have l7:=(h1.stay j i (by rw [u3];exact cW.a5 _ _ _ _ aF ar)).2
     rw [lb,iu aD] at l7
     have l7:some (p.sz,kO j i)=(e2 T).bd (jH ay a1) j i:=by
      rcases l7 with e|e
      ·exact e
      ·simp at e
     have:=cW.En (bR:=e2 T) (ay:=ay) aF
     rw [← l7] at this
     rw [iu ap,bS.sz,p1 _ _ _ _ e1]
     rcases this with e|e
     ·exact e
     ·simp at e
    ·exact absurd ar aF
   ·rw [iu ap,iu aD,hi _ _ e1]
 have abR : ∀b,s.ok g ay w b→bN.heap[b]? = w.heap[b]? := by
  intro b aS
  refine sc b aS.1 fun kW=> ?_
  rw [ed] at kW
  obtain ⟨r,d8,I,cx,ar,ap,ak⟩:=kW
  exact aS.2.2 ⟨r,d8,I,cx,ap,pn r d8 I ar ap,ak⟩
 have fs : ∀ {y:aB} {u:Value},Rel w (s.ok g ay w) s.a5 (s.bd ay) y u→Rel bN (s2.ok g lm bN) s2.a5 (s2.bd lm) y u :=
  fun ar=>ar.mono mP abR jg Ra
 have acn:(∀b,fW.A b→s.ok g ay w b)→ ∀b,(e2 fy).ok fW kO bN b→s2.ok g lm bN b:=by
  intro hA b aS
  have KT:g.A b∨g.mx.heap.size≤b∨g.pa b:=by
   rcases aS.2.1 with e|e|e
   ·exact (hA b e).2.1
   ·rw [dH] at e;exact .inr (.inl (Nat.le_trans h.gQ.size e))
   ·rw [ed] at e
    obtain ⟨r,k,I,m,-,ap,ak⟩:=e
    rcases h.own r k I b m ap ak with e|e
    ·exact .inr (.inl e)
    ·exact .inr (.inr e)
  refine ⟨aS.1,KT,fun aT=> ?_⟩
  rcases Qj b aT with e|⟨q,k,I,m,e1,aD,bS,da⟩
  ·exact aS.2.2 e
  ·have bc:=hold q k I b m e1 aD da
   rcases aS.2.1 with e|e|e
   ·exact (hA b e).2.2 ⟨q,k,I,m,aD,bS,da⟩
   ·rw [dH] at e;omega
   ·exact bc.2 e
 have QN : ∀ {y lV:aB} {u:Value},hy (e2 fy) kG (fun _=>false) q y lV→Rel bN ((e2 fy).ok fW kO bN) (e2 fy).a5 ((e2 fy).bd kO) y u→Rel bN (s2.ok g lm bN) s2.a5 (s2.bd lm) lV u:=by
  intro y lV u b0 ar
  refine b0.rel h1 (fun x v bc ak ar=> ?_) (fun _ _ _ _ _ _ bF _ _=>by simp at bF) ?_ ar
  ·rcases hA with hA|hA
   ·exact ar.pure ak (acn hA)
   ·exact ar.fB (hA x bc) ak
  ·intro r k j i bc aF
   refine ⟨acm r k j i bc aF,?_⟩
   cases ap:s2.ao r k with
   | none=>right;simp [S.bd,ap]
   | some I =>
    left
    rcases bo r k I ap with ⟨hK,eF,p,e1,aD,bS⟩|⟨e1,-⟩
    ·rw [bc] at e1;simp only [Option.some.injEq,Prod.mk.injEq] at e1
     obtain ⟨rfl,rfl⟩:=e1
     rw [iu ap,iu aD,bS.sz,p1 _ _ _ _ bc]
    ·rw [bc] at e1;simp at e1
 refine ⟨lm,{tohZ:=⟨?_,?_,?_,?_,h.mlt,h.nd,?_,h.low⟩,env:=fun t=>by rw [en];exact fs (h.env t),defers:=h.defers,jF:=h.jF},QN U bh⟩
 ·intro q k I ap
  rcases bo q k I ap with ⟨j,i,p,e1,aD,bS⟩|⟨e1,aD⟩
  ·have ak:=h1.obj j i p aD
   rw [p1 _ _ _ _ e1]
   cases km:kO j i with
   | none =>
    rw [km] at ak
    simp only [jb] at ak ⊢
    apply List.length_eq_zero_iff.1
    rw [bS.len,ak];rfl
   | some sA =>
    obtain ⟨b,m⟩:=sA
    rw [km] at ak
    obtain ⟨c,eH,f1,f2,f3,f4⟩:=ak
    have jG:I.es.flatten.length=p.es.flatten.length:=by rw [q7 _ bS.each,q7 _ f3,bS.len]
    refine ⟨c,eH,f1,f2,by rw [bS.sz];exact bS.each,fun i cG dC=> ?_⟩
    have dG:i<p.es.flatten.length:=by rw [← jG];exact fT dC
    have ko:=List.getElem?_eq_getElem dG
    obtain ⟨u,ln,nM,gN⟩:=f4 i _ ko
    exact ⟨u,ln,nM,QN (bS.at_ i _ cG ko dC) gN⟩
  ·have ak:=h.obj q k I aD
   rw [hi _ _ e1]
   cases km:ay q k with
   | none=>rw [km] at ak;exact ak
   | some sA =>
    obtain ⟨b,m⟩:=sA
    rw [km] at ak
    obtain ⟨c,eH,f1,f2,f3,f4⟩:=ak
    obtain ⟨tl,Lm⟩:=hold q k I b m e1 aD km
    refine ⟨c,eH,(sc b tl Lm).trans f1,f2,f3,fun i cG dC=> ?_⟩
    obtain ⟨u,ln,nM,gN⟩:=f4 i cG dC
    exact ⟨u,ln,nM,fs gN⟩
 ·intro q k I hv d8 b6 b m cx o ab av az
  rcases bo q k I o with ⟨j,i,p,e1,aD,bS⟩|⟨e1,aD⟩<;>rcases bo hv d8 b6 ab with ⟨hK,eF,kd,mT,o7,Bq⟩|⟨mT,o7⟩
  ·rw [p1 _ _ _ _ e1] at av;rw [p1 _ _ _ _ mT] at az
   obtain ⟨rfl,rfl⟩:=h1.inj j i p hK eF kd b m cx aD o7 av az
   exact ack _ _ _ _ _ e1 mT
  ·rw [p1 _ _ _ _ e1] at av;rw [hi _ _ mT] at az
   obtain ⟨f1,f2⟩:=hold hv d8 b6 b cx mT o7 az
   rcases Eo j i p b m aD av with e|e
   ·omega
   ·exact absurd (by rw [ed];exact e) f2
  ·rw [hi _ _ e1] at av;rw [p1 _ _ _ _ mT] at az
   obtain ⟨f1,f2⟩:=hold q k I b m e1 aD av
   rcases Eo hK eF kd b cx o7 az with e|e
   ·omega
   ·exact absurd (by rw [ed];exact e) f2
  ·rw [hi _ _ e1] at av;rw [hi _ _ mT] at az
   exact h.inj q k I hv d8 b6 b m cx aD o7 av az
 ·intro q k I b m o av
  rcases bo q k I o with ⟨j,i,p,e1,aD,bS⟩|⟨e1,aD⟩
  ·rw [p1 _ _ _ _ e1] at av
   rcases Eo j i p b m aD av with e|⟨r,d8,b6,cx,ar,ap,ak⟩
   ·exact .inl (Nat.le_trans h.gQ.size e)
   ·exact h.own r d8 b6 b cx ap ak
  ·rw [hi _ _ e1] at av;exact h.own q k I b m aD av
 ·have e1:=a8.os;have aD:=a8.tape;have bS:=a8.output
  rw [dH] at e1 aD bS
  refine h.gQ.step e1 aD bS eY fun b aS nH=>sc b (Nat.lt_of_lt_of_le aS h.gQ.size) fun kW=> ?_
  rw [ed] at kW
  obtain ⟨r,k,I,m,-,ap,ak⟩:=kW
  rcases h.own r k I b m ap ak with e|e
  ·omega
  ·exact nH e
 ·intro j k aF
  obtain ⟨e1,aD⟩:=h.stay j k aF
  refine ⟨jg j k e1,?_⟩
  rcases Ra j k e1 with e|e
  ·rw [e];exact aD
  ·exact .inr e
def kC (a b n:Nat):aB→aB
 | .ref r k i off=>if r=a then .ref b (n+k) i off else .ref r k i off
 | .bm r k bV len=>if r=a then .bm b (n+k) bV len else .bm r k bV len
 | .iI r c sz h=>if r=a then .iI b (n+c) sz h else .iI r c sz h
 | .agg c=> .agg (yl c)
 | .dX c=> .dX (yl c)
 | x=>x
where yl:List aB→List aB
 | []=>[]
 | x::l=>kC a b n x::yl l
def l9 (a b n:Nat)(I:ae):ae:={I with es:=I.es.map fun e=>e.map (kC a b n)}
def qz (I:ae):ae:=⟨0,[],.gone⟩
theorem DP (a b n:Nat): ∀l:List aB,kC.yl a b n l=l.map (kC a b n)
 | []=>rfl
 | x::l=>by rw [kC.yl,DP a b n l];rfl
theorem kj (l:List ae)(k:Nat):dh (some l) k=(l[k]?).bind fun I=>if I.cp = .gone then none else some I:=by
 unfold dh
 cases h:l[k]? <;> simp [h]
theorem map_flatten {es:List (List aB)}(f:aB→aB):(es.map fun e=>e.map f).flatten=es.flatten.map f:=by
 induction es with
 | nil=>rfl
 | cons e es ih=>rw [List.map_cons,List.flatten_cons,List.flatten_cons,List.map_append,ih]
theorem cL.merge (h:cL g s ay a w){r eJ:Nat}{l gk:List ae}(ar:s.aW r=some l)(hn:s.aW eJ=some gk)(dr:eJ≠r):
 ∃bM,cL g ((s.setRow eJ (gk.map qz)).setRow r (l++gk.map (l9 eJ r l.length))) bM a w ∧
  ∀x v,Rel w (s.ok g ay w) s.a5 (s.bd ay) x v→Rel w (((s.setRow eJ (gk.map qz)).setRow r (l++gk.map (l9 eJ r l.length))).ok g bM w)
   ((s.setRow eJ (gk.map qz)).setRow r (l++gk.map (l9 eJ r l.length))).a5 (((s.setRow eJ (gk.map qz)).setRow r (l++gk.map (l9 eJ r l.length))).bd bM) (kC eJ r l.length x) v:=by
 generalize sk:(s.setRow eJ (gk.map qz)).setRow r (l++gk.map (l9 eJ r l.length))=s2
 let bM:fm:=fun q k=>if q=r∧l.length≤k then ay eJ (k-l.length) else ay q k
 have bo : ∀q k I,s2.ao q k=some I→(q=r∧l.length≤k∧ ∃p,s.ao eJ (k-l.length)=some p∧I=l9 eJ r l.length p∧bM q k=ay eJ (k-l.length)) ∨
  (q≠eJ∧s.ao q k=some I∧bM q k=ay q k∧ ¬(q=r∧l.length≤k)):=by
  intro q k I ap
  subst sk
  rw [lr] at ap
  by_cases e:q=r
  ·subst e
   rw [if_pos rfl] at ap
   by_cases a8:l.length≤k
   ·left
    refine ⟨rfl,a8,?_⟩
    rw [kj,List.getElem?_append_right a8,List.getElem?_map] at ap
    cases ak:gk[k-l.length]? with
    | none=>rw [ak] at ap;simp at ap
    | some p =>
     rw [ak] at ap
     simp only [Option.map_some,Option.bind_some] at ap
     split at ap
     ·simp at ap
     ·rename_i dH
      simp only [Option.some.injEq] at ap
      refine ⟨p,?_,ap.symm,by simp [bM,a8]⟩
      unfold S.ao
      rw [hn,kj,ak,Option.bind_some,if_neg (by simpa [l9] using dH)]
   ·right
    refine ⟨Ne.symm dr,?_,by simp [bM,a8],fun fL=>a8 fL.2⟩
    unfold S.ao
    rw [ar,kj]
    rw [kj,List.getElem?_append_left (by omega)] at ap
    exact ap
  ·rw [if_neg e,lr] at ap
   by_cases aD:q=eJ
   ·subst aD
    rw [if_pos rfl,kj,List.getElem?_map] at ap
    cases ak:gk[k]? with
    | none=>rw [ak] at ap;simp at ap
    | some p=>rw [ak] at ap;simp [qz] at ap
   ·rw [if_neg aD] at ap
    exact .inr ⟨aD,ap,by simp [bM,e],fun fL=>e fL.1⟩
 have jg : ∀q k,s.a5 q k→s2.a5 q k:=by
  intro q k bc
  subst sk
  rw [m5]
  by_cases e:q=r
  ·subst e;rw [if_pos rfl];simp [S.a5,ar] at bc;simp;omega
  ·rw [if_neg e,m5]
   by_cases aD:q=eJ
   ·subst aD;rw [if_pos rfl];simpa [S.a5,hn] using bc
   ·rw [if_neg aD];exact bc
 have A7 : ∀k,s.a5 eJ k→s2.a5 r (l.length+k):=by
  intro k bc
  subst sk
  rw [m5,if_pos rfl]
  simp [S.a5,hn] at bc
  simp;omega
 have A8 : ∀k,s2.bd bM r (l.length+k)=s.bd ay eJ k:=by
  intro k
  subst sk
  simp only [S.bd]
  rw [lr,if_pos rfl]
  unfold S.ao
  rw [hn,kj,kj,List.getElem?_append_right (by omega),List.getElem?_map,show l.length+k-l.length=k by omega]
  cases ak:gk[k]? with
  | none=>simp
  | some p =>
   simp only [Option.map_some,Option.bind_some]
   by_cases dH:p.cp = .gone
   ·rw [if_pos dH,if_pos (by simpa [l9] using dH)];rfl
   ·rw [if_neg dH,if_neg (by simpa [l9] using dH)]
    simp [bM,l9]
 have lb : ∀q k,s.a5 q k→s2.bd bM q k=s.bd ay q k∨s2.bd bM q k=none:=by
  intro q k bc
  cases ap:s2.ao q k with
  | none=>right;simp [S.bd,ap]
  | some I =>
   left
   rcases bo q k I ap with ⟨rfl,aD,-⟩|⟨-,aD,bS,-⟩
   ·simp [S.a5,ar] at bc;omega
   ·rw [iu ap,iu aD,bS]
 have pn : ∀b,s2.lI bM b→s.lI ay b:=by
  rintro b ⟨q,k,I,m,h1,o,ab⟩
  rcases bo q k I h1 with ⟨-,-,p,e1,aD,bS⟩|⟨-,e1,aD,-⟩
  ·rw [bS] at ab;subst aD;exact ⟨eJ,_,p,m,e1,o,ab⟩
  ·rw [aD] at ab;exact ⟨q,k,I,m,e1,o,ab⟩
 have dy:Step g s ay w s2 bM w:=⟨jg,lb,fun b aT=> .inl (pn b aT),fun _ _ _=>rfl,Nat.le_refl _⟩
 have Bu : ∀x v,Rel w (s.ok g ay w) s.a5 (s.bd ay) x v→Rel w (s2.ok g bM w) s2.a5 (s2.bd bM) (kC eJ r l.length x) v:=by
  intro x v lc
  induction lc with
  | dead v=>exact .dead v
  | b x=>exact .b x
  | n k x=>exact .n k x
  | s x=>exact .s x
  | hY=>exact .hY
  | eo=>exact .eo
  | ib a c=>exact .ib a c
  | @pj r1 k i off a hu fL =>
   unfold kC
   split
   ·rename_i e;subst e
    exact .pj a (A7 k hu) (by rw [A8];exact fL)
   ·exact dy.rel (.pj a hu fL)
  | @ref r1 k i off sz d3 m hu fL =>
   unfold kC
   split
   ·rename_i e;subst e
    exact .ref (A7 k hu) (by rw [A8];exact fL)
   ·exact dy.rel (.ref hu fL)
  | @m6 r1 k bV len a bu cg hu fL =>
   unfold kC
   split
   ·rename_i e;subst e
    exact .m6 a bu cg (A7 k hu) (by rw [A8];exact fL)
   ·exact dy.rel (.m6 a bu cg hu fL)
  | @ns r1 k sz hu fL =>
   unfold kC
   split
   ·rename_i e;subst e
    exact .ns (A7 k hu) (by rw [A8];exact fL)
   ·exact dy.rel (.ns hu fL)
  | @bm r1 k bV len sz d3 m c a hu fL aT bf l8 =>
   unfold kC
   split
   ·rename_i e;subst e
    exact .bm (A7 k hu) (by rw [A8];exact fL) aT bf l8
   ·exact dy.rel (.bm hu fL aT bf l8)
  | @mJ r1 c sz v h0 ih =>
   unfold kC
   split
   ·exact .mJ (dy.rel h0)
   ·exact dy.rel (.mJ h0)
  | @nz r1 c sz k n v h0 ih =>
   unfold kC
   split
   ·rename_i e;subst e
    unfold kC at ih
    rw [if_pos rfl] at ih
    exact .nz (by rw [show k+(l.length+c)=l.length+(k+c) by omega];exact ih)
   ·exact dy.rel (.nz h0)
  | jY sz a c h=>exact .jY sz a c h
  | isl cs aS ak aT bf hw iw lc ih=>exact dy.rel (.isl cs aS ak aT bf hw iw lc)
  | eb cs aS ak aT hw iw lc ih=>exact dy.rel (.eb cs aS ak aT hw iw lc)
  | o5 sz=>exact .o5 sz
  | oH h0 ih=>exact dy.rel (.oH h0)
  | agg vs aT iw lc ih =>
   unfold kC
   rw [DP]
   refine .agg vs (by simpa using aT) iw fun j x v U bh=> ?_
   rw [List.getElem?_map,Option.map_eq_some_iff] at U
   obtain ⟨y,a3,rfl⟩:=U
   exact ih j y v a3 bh
  | dX vs aT lc ih =>
   unfold kC
   rw [DP]
   refine .dX vs (by simpa using aT) fun j x v U bh=> ?_
   rw [List.getElem?_map,Option.map_eq_some_iff] at U
   obtain ⟨y,a3,rfl⟩:=U
   exact ih j y v a3 bh
  | fn vs aT lc ih=>exact dy.rel (.fn vs aT lc)
 refine ⟨bM,{tohZ:=⟨?_,?_,?_,h.gQ,h.mlt,h.nd,?_,h.low⟩,env:=fun t=>by rw [show s2.E=s.E by rw [← sk];rfl];exact dy.rel (h.env t),defers:=h.defers,jF:=h.jF},Bu⟩
 ·intro q k I ap
  rcases bo q k I ap with ⟨-,-,p,e1,aD,bS⟩|⟨-,e1,aD,-⟩
  ·rw [bS]
   subst aD
   have ak:=h.obj eJ _ p e1
   cases km:ay eJ (k-l.length) with
   | none=>rw [km] at ak;simp only [jb] at ak ⊢;simp [l9,ak]
   | some sA =>
    obtain ⟨b,m⟩:=sA
    rw [km] at ak
    obtain ⟨c,eH,f1,f2,f3,f4⟩:=ak
    refine ⟨c,eH,f1,f2,?_,fun j x U=> ?_⟩
    ·intro e he
     simp only [l9,List.mem_map] at he
     obtain ⟨eN,lO,rfl⟩:=he
     simpa [l9] using f3 eN lO
    ·simp only [l9] at U
     rw [map_flatten,List.getElem?_map,Option.map_eq_some_iff] at U
     obtain ⟨y,a3,rfl⟩:=U
     obtain ⟨u,ln,nM,gN⟩:=f4 j y a3
     exact ⟨u,ln,nM,Bu y u gN⟩
  ·rw [aD]
   exact dy.obj (fun b m _=>rfl) (h.obj q k I e1)
 ·intro q k I q1 mX af b m cx h1 o ab av
  rcases bo q k I h1 with ⟨rfl,f1,p,e1,aD,bS⟩|⟨f1,e1,aD,f2⟩<;>rcases bo q1 mX af o with ⟨rfl,ym,kd,mT,o7,Bq⟩|⟨ym,mT,o7,afE⟩
  ·rw [bS] at ab;rw [Bq] at av
   obtain ⟨-,e⟩:=h.inj _ _ _ _ _ _ b m cx e1 mT ab av
   exact ⟨rfl,by omega⟩
  ·rw [bS] at ab;rw [o7] at av
   obtain ⟨e,-⟩:=h.inj _ _ _ _ _ _ b m cx e1 mT ab av
   exact absurd e.symm ym
  ·rw [aD] at ab;rw [Bq] at av
   obtain ⟨e,-⟩:=h.inj _ _ _ _ _ _ b m cx e1 mT ab av
   exact absurd e f1
  ·rw [aD] at ab;rw [o7] at av
   exact h.inj _ _ _ _ _ _ b m cx e1 mT ab av
 ·intro q k I b m h1 o
  rcases bo q k I h1 with ⟨-,-,p,e1,aD,bS⟩|⟨-,e1,aD,-⟩
  ·rw [bS] at o;exact h.own eJ _ p b m e1 o
  ·rw [aD] at o;exact h.own q k I b m e1 o
 ·exact dy.stay h.stay
end
end Go.VL
namespace Go.VL
set_option linter.unusedVariables false
set_option linter.unusedSimpArgs false
open Go
def aB.iE:aB→Bool
 | .dead | .b _ | .n .. | .s _ | .hY | .eo | .ib | .isl .. | .eb .. | .j0 .. => true
 | _=>false
def aB.Au:aB→Bool
 | .agg c=>c.all aB.iE
 | .fn _ c=>c.all aB.iE
 | x=>x.iE
def aB.QO:aB→Bool
 | .dX c=>c.all aB.Au
 | x=>x.Au
section
variable {w:World} {ok:Nat→Prop} {a5:i2} {bd:iR}
theorem Rel.xW {x:aB}{v:Value}(h:Rel w ok a5 bd x v)(a4:x.iE=true):Pure x:=by
 cases h with
 | dead=>exact .dead
 | b=>exact .b _
 | n=>exact .n _ _
 | s=>exact .s _
 | hY=>exact .hY
 | eo=>exact .eo
 | ib=>exact .ib
 | jY=>exact .isl (by simp)
 | isl cs aS ak=>exact .isl ak
 | eb cs aS ak=>exact .eb ak
 | o5 sz=>exact .o5 sz
 | oH h=>cases h with|eb cs aS ak=>exact .oH fun x U=>ak _ (List.mem_singleton.2 rfl) x U
 | _=>simp [aB.iE] at a4
theorem Oj {c:List aB}{vs:List Value}(aT:vs.length=c.length)(ar:∀(j:Nat) x u,c[j]? = some x→vs[j]? = some u→Rel w ok a5 bd x u)
 (a4:c.all aB.iE=true) : ∀x∈c,Pure x:=by
 intro x U
 obtain ⟨j,aF⟩:=List.getElem?_of_mem U
 have dG:j<vs.length:=by have:=fT aF;omega
 exact (ar j x _ aF (List.getElem?_eq_getElem dG)).xW (List.all_eq_true.1 a4 x U)
theorem Rel.DY {x:aB}{v:Value}(h:Rel w ok a5 bd x v)(a4:x.Au=true):Pure x:=by
 cases h with
 | agg vs aT bf ar=>exact .agg (Oj aT ar a4)
 | fn vs aT ar=>exact .fn (Oj aT ar a4)
 | dead=>exact .dead
 | b=>exact .b _
 | n=>exact .n _ _
 | s=>exact .s _
 | hY=>exact .hY
 | eo=>exact .eo
 | ib=>exact .ib
 | jY=>exact .isl (by simp)
 | isl cs aS ak=>exact .isl ak
 | eb cs aS ak=>exact .eb ak
 | o5 sz=>exact .o5 sz
 | oH h=>cases h with|eb cs aS ak=>exact .oH fun x U=>ak _ (List.mem_singleton.2 rfl) x U
 | _=>simp [aB.Au,aB.iE] at a4
theorem Rel.abS {x:aB}{v:Value}(h:Rel w ok a5 bd x v)(a4:x.QO=true):Pure x:=by
 by_cases ch : ∃c,x = .dX c
 ·obtain ⟨c,rfl⟩:=ch
  obtain ⟨vs,rfl,aT,ar⟩:=h.xD
  refine .dX fun x U=> ?_
  obtain ⟨j,aF⟩:=List.getElem?_of_mem U
  have dG:j<vs.length:=by have:=fT aF;omega
  exact (ar j x _ aF (List.getElem?_eq_getElem dG)).DY (List.all_eq_true.1 a4 x U)
 ·refine h.DY ?_
  cases x<;>first|exact a4|exact absurd ⟨_,rfl⟩ ch
end
def cH:List Nat→Nat→Option Nat
 | [],_=>none
 | x::l,r=>if x=r then some 0 else (cH l r).map (· + 1)
theorem Ok : ∀ {l:List Nat} {r j:Nat},cH l r=some j→l[j]? = some r
 | x::l,r,j,h=>by
  unfold cH at h
  split at h
  ·simp at h;subst h;simp [*]
  ·rw [Option.map_eq_some_iff] at h
   obtain ⟨i,aq,rfl⟩:=h
   simpa using Ok aq
theorem Ol : ∀ {l:List Nat} {r j:Nat},l.Nodup→l[j]? = some r→cH l r=some j
 | x::l,r,j,a4,h=>by
  rw [List.nodup_cons] at a4
  unfold cH
  cases j with
  | zero=>simp at h;simp [h]
  | succ j =>
   simp at h
   have:x≠r:=by rintro rfl;exact a4.1 (List.mem_of_getElem? h)
   rw [if_neg this,Ol a4.2 h];rfl
def Bv (dP:Nat)(jf:List ae)(b8:f5→Bool)(x cG:aB):Prop :=
 (cG=x∧x.iE=true)∨(∃c sz,x = .iI dP c sz none∧cG = .isl sz [])∨ ∃k bV len I,(x = .bm dP k bV len∨ ∃c sz i4,k=i4+c∧bV=0∧x = .iI dP c sz (some (i4,len)))∧dh (some jf) k=some I∧b8 I.cp=true∧bV+len≤I.es.length ∧
   jo ((I.es.drop bV).take len)∧cG = .isl I.sz ((I.es.drop bV).take len)
def B9 (dP:Nat)(jf:List ae)(b8:f5→Bool)(sz:Nat)(es gj:List (List aB)):Prop :=
 gj.length=es.length∧(∀e∈gj,e.length=sz)∧ ∀(j:Nat) x cG,es.flatten[j]? = some x→gj.flatten[j]? = some cG→Bv dP jf b8 x cG
def lu (aW:Nat→Option (List ae))(cd:Nat→Option Nat)(a1:gC)(b8:f5→Bool):sv→aB→Option (aB×List Prop)
 | .id,x=>if x.iE then some (x,[]) else
  match x with
  | .ref r k i off=>match cd r with
   | some j=>some (.ref j k i off,[])
   | none=>none
  | .bm r k bV len=>match cd r with
   | some j=>some (.bm j k bV len,[])
   | none=>none
  | .iI r c sz h=>match cd r with
   | some j=>some (.iI j c sz h,[])
   | none=>none
  | _=>none
 | .jj sz,.eo=>some (.isl sz [],[])
 | .jj sz,.ib=>some (.isl sz [],[])
 | .ek gj,.bm r k bV len=>match dh (aW r) k with
  | some I=>if b8 I.cp && (cd r).isNone then some (.isl I.sz gj,[gj=(I.es.drop bV).take len,bV+len≤I.es.length,jo gj]) else none
  | none=>none
 | .jJ,_=>some (.dead,[])
 | .cA y,x=>if x.iE then some (y,[x=y]) else none
 | .len n,.bm r k bV len=>match cd r with
  | some j=>some (.bm j k bV n,[len=n])
  | none=>none
 | .L7 sz,x=>match x with
  | .hY=>some (.j0 sz none,[])
  | .eb Ej [c] 0 0=>if Ej=sz then some (.j0 sz (some c),[]) else none
  | _=>none
 | .at_ j i n,.bm r k bV len=>some (.bm j i bV n,[a1 j i=some (r,k),len=n])
 | .at_ j i _,.ref r k x y=>some (.ref j i x y,[a1 j i=some (r,k)])
 | .view dP I gj,.bm r k bV len=>match aW r,aW dP with
  | some row,some jf=>if (cd r).isNone && (cd dP).isNone then
   some (.isl I.sz gj,[dh (some row) k=some I,b8 I.cp=true,bV+len≤I.es.length,jo gj,B9 dP jf b8 I.sz ((I.es.drop bV).take len) gj]) else none
  | _,_=>none
 | _,_=>none
def lv {α β:Type}(f:α→β→Option (β×List Prop)):List α→List β→Option (List β×List Prop)
 | [],[]=>some ([],[])
 | a::l,b::m=>match f a b,lv f l m with
  | some (ke,af),some (cx,aU)=>some (ke::cx,af++aU)
  | _,_=>none
 | _,_=>none
def n0 (aW:Nat→Option (List ae))(cd:Nat→Option Nat)(a1:gC)(b8:f5→Bool):yJ→aB→Option (aB×List Prop)
 | .di c,x=>if x.Au then (match c with | .id=>some (x,[]) | .jJ=>some (.dead,[]) | .cA y=>some (y,[x=y])|c=>lu aW cd a1 b8 c x) else lu aW cd a1 b8 c x
 | .agg l,.agg c=>match lv (lu aW cd a1 b8) l c with
  | some (dL,ao)=>some (.agg dL,ao)
  | none=>none
 | .ptr l,.ref r k i off=>match dh (aW r) k with
  | some I=>match I.es with
   | [c]=>if b8 I.cp && (cd r).isNone then
    match lv (lu aW cd a1 b8) l c with
    | some (dL,ao)=>some (.eb I.sz [dL] i off,ao++[jo [dL]])
    | none=>none
    else none
   | _=>none
  | none=>none
 | .KO l,x=>match x with
  | .ref r k 0 0=>match dh (aW r) k with
   | some I=>match I.es with
    | [c]=>if b8 I.cp && (cd r).isNone then
     match lv (lu aW cd a1 b8) l c with
     | some (dL,ao)=>some (.j0 I.sz (some dL),ao++[jo [dL]])
     | none=>none
     else none
    | _=>none
   | none=>none
  | _=>none
 | _,_=>none
def nv (aW:Nat→Option (List ae))(cd:Nat→Option Nat)(a1:gC)(b8:f5→Bool):lj→aB→Option (aB×List Prop)
 | .bu c,x=>if x.QO then (match c with | .di .id=>some (x,[])|c=>n0 aW cd a1 b8 c x) else n0 aW cd a1 b8 c x
 | .comp l,.dX c=>match lv (n0 aW cd a1 b8) l c with
  | some (dL,ao)=>some (.dX dL,ao)
  | none=>none
 | .comp l,.fn f c=>match lv (n0 aW cd a1 b8) l c with
  | some (dL,ao)=>some (.fn f dL,ao)
  | none=>none
 | _,_=>none
def sX (row:List ae):Prop:= ∀I∈row,jo I.es∧I.cp = .live
def mi (row:List ae):Prop:= ∀I∈row,I.cp = .live∨I.cp = .gone
def nI (cd:Nat→Option Nat):aB→aB
 | .ref r k i off=>match cd r with|some j=> .ref j k i off|none=> .dead
 | .bm r k bV len=>match cd r with|some j=> .bm j k bV len|none=> .dead
 | .iI r c sz h=>match cd r with|some j=> .iI j c sz h|none=> .dead
 | x=>if x.iE then x else .dead
def gH (cd:Nat→Option Nat)(I:ae):ae:={I with es:=I.es.map fun e=>e.map (nI cd)}
def iW (aW:Nat→Option (List ae))(cd:Nat→Option Nat)(a1:gC)(b8:f5→Bool):iz→List ae→Option (List ae×List Prop)
 | .pure,row=>some (row,[sX row])
 | .cA dW,row=>some (dW,[row=dW,sX dW])
 | .bG dW,row=>some (dW,[dW=row.map (gH cd),mi row])
 | .box l,[I]=>match I.es with
  | [c]=>if I.cp = .live then match lv (lu aW cd a1 b8) l c with
   | some (dL,ao)=>some ([{I with es:=[dL]}],ao)
   | none=>none
   else none
  | _=>none
 | _,_=>none
structure sB (q:aB→Prop) (b8:f5→Bool):Prop extends Down q where
 all : ∀k,b8 k=true→ ∀x,q x
theorem tn (b8:f5→Bool):sB lS b8:={toDown:=abO,all:=fun _ _ _=>trivial}
theorem ac0:sB b7 (fun _=>false):={toDown:=abQ,all:=fun _ h=>by simp at h}
structure mz (s:S) (a1:gC) (cd:Nat→Option Nat) (b8:f5→Bool):Prop where
 aq : ∀r j,cd r=some j→ ∀k,a1 j k=some (r,k)
 a4 : ∀r,cd r=none→ ∀k I,s.ao r k=some I→b8 I.cp=true→ ∀j i,a1 j i≠some (r,k)
section
variable {g:G} {s:S} {ay:fm} {w:World} {a1:gC} {cd:Nat→Option Nat} {b8:f5→Bool} {q:aB→Prop}
theorem Du {α β:Type}(f:α→β→Option (β×List Prop)): ∀(l:List α) (m cx:List β) (ao:List Prop),lv f l m=some (cx,ao) →
 cx.length=m.length∧l.length=m.length∧ ∀(j:Nat) b ke,m[j]? = some b→cx[j]? = some ke→ ∃x b6,l[j]? = some x∧f x b=some (ke,b6)∧ ∀p∈b6,p∈ao
 | [],[],cx,ao,h=>by
  simp [lv] at h;obtain ⟨rfl,rfl⟩:=h
  exact ⟨rfl,rfl,fun j b ke aS=>by simp at aS⟩
 | [],_::_,_,_,h=>by simp [lv] at h
 | _::_,[],_,_,h=>by simp [lv] at h
 | x::l,b::m,cx,ao,h=>by
  simp only [lv] at h
  split at h
  ·rename_i ke af hf aU h1 o
   simp only [Option.some.injEq,Prod.mk.injEq] at h
   obtain ⟨rfl,rfl⟩:=h
   obtain ⟨e1,aD,bS⟩:=Du f l m hf aU o
   refine ⟨by simp [e1],by simp [aD],fun j c dL bf si=> ?_⟩
   cases j with
   | zero =>
    simp at bf si;subst bf;subst si
    exact ⟨x,af,rfl,h1,fun p ak=>by simp [ak]⟩
   | succ j =>
    simp at bf si
    obtain ⟨y,b6,f1,f2,f3⟩:=bS j c dL bf si
    exact ⟨y,b6,by simpa using f1,f2,fun p ak=>by simp [f3 p ak]⟩
  ·simp at h
theorem JV (ed:hZ g s ay w)(H:mz s a1 cd b8)(bJ:sB q b8){c:sv}{x cG:aB}{ao:List Prop}(h:lu s.aW cd a1 b8 c x=some (cG,ao))(bo:∀p∈ao,p)
 (bc:q x) {v:Value} (ar:Rel w (s.ok g ay w) s.a5 (s.bd ay) x v):hy s a1 b8 q x cG:=by
 have jg : ∀ {r k bV len:Nat},x = .bm r k bV len→s.a5 r k:=by
  intro r k bV len e;subst e;cases ar<;>assumption
 cases c with
 | id =>
  simp only [lu] at h
  split at h
  ·rename_i a4
   simp only [Option.some.injEq,Prod.mk.injEq] at h
   obtain ⟨rfl,rfl⟩:=h
   exact .pure (ar.xW a4) bc
  ·split at h
   ·rename_i r k i off _
    split at h
    ·rename_i j aF
     simp only [Option.some.injEq,Prod.mk.injEq] at h
     obtain ⟨rfl,rfl⟩:=h
     exact .ref i off (H.aq r j aF k) (by cases ar<;>assumption)
    ·simp at h
   ·rename_i r k bV len _
    split at h
    ·rename_i j aF
     simp only [Option.some.injEq,Prod.mk.injEq] at h
     obtain ⟨rfl,rfl⟩:=h
     exact .bm bV len (H.aq r j aF k) (jg rfl)
    ·simp at h
   ·rename_i r c sz fL _
    split at h
    ·rename_i j aF
     simp only [Option.some.injEq,Prod.mk.injEq] at h
     obtain ⟨rfl,rfl⟩:=h
     exact .iI fL (fun k=>H.aq r j aF _)
    ·simp at h
   ·simp at h
 | jj sz =>
  cases x<;>simp [lu] at h
  ·obtain ⟨rfl,rfl⟩:=h
   exact .eo sz
  ·obtain ⟨rfl,rfl⟩:=h
   exact .ib sz
 | ek gj =>
  cases x<;>simp only [lu,reduceCtorEq] at h
  rename_i r k bV len
  split at h
  ·rename_i I ap
   split at h
   ·rename_i bf
    simp only [Bool.and_eq_true,Option.isNone_iff_eq_none] at bf
    simp only [Option.some.injEq,Prod.mk.injEq] at h
    obtain ⟨rfl,rfl⟩:=h
    have h1:gj=(I.es.drop bV).take len:=bo _ (by simp)
    have o:bV+len≤I.es.length:=bo _ (by simp)
    have ab:jo gj:=bo _ (by simp)
    have dO:s.ao r k=some I:=ap
    have hlen : ∀e∈I.es,e.length=I.sz:=by
     have fw:=ed.obj r k I dO
     cases ak:ay r k with
     | none=>rw [ak] at fw;simp only [jb] at fw;rw [fw];simp
     | some q=>rw [ak] at fw;obtain ⟨_,_,_,_,e,_⟩:=fw;exact e
    refine .isl dO bf.1 (H.a4 r bf.2 k I dO bf.1) o ab ?_ ?_ ?_
    ·rw [h1];exact fun e he=>hlen e (List.mem_of_mem_drop (List.mem_of_mem_take he))
    ·rw [h1];simp;omega
    ·intro j y lV a3 nJ
     rw [h1] at nJ
     rw [a3] at nJ;simp at nJ;subst nJ
     rw [h1] at ab
     obtain ⟨e,he,Bw⟩:=rK a3
     exact .pure (ab e he y Bw) (bJ.all _ bf.1 y)
   ·simp at h
  ·simp at h
 | jJ =>
  simp only [lu,Option.some.injEq,Prod.mk.injEq] at h
  obtain ⟨rfl,rfl⟩:=h
  exact .dead x
 | cA y =>
  simp only [lu] at h
  split at h
  ·rename_i a4
   simp only [Option.some.injEq,Prod.mk.injEq] at h
   obtain ⟨rfl,rfl⟩:=h
   have e:x=y:=bo _ (by simp)
   subst e
   exact .pure (ar.xW a4) bc
  ·simp at h
 | len n =>
  cases x<;>simp only [lu,reduceCtorEq] at h
  rename_i r k bV len
  split at h
  ·rename_i j aF
   simp only [Option.some.injEq,Prod.mk.injEq] at h
   obtain ⟨rfl,rfl⟩:=h
   have e:len=n:=bo _ (by simp)
   subst e
   exact .bm bV len (H.aq r j aF k) (jg rfl)
  ·simp at h
 | at_ j i n =>
  cases x<;>simp only [lu,reduceCtorEq] at h
  ·rename_i r k x y
   simp only [Option.some.injEq,Prod.mk.injEq] at h
   obtain ⟨rfl,rfl⟩:=h
   exact .ref x y (bo _ (List.mem_cons_self)) (by cases ar<;>assumption)
  ·rename_i r k bV len
   simp only [Option.some.injEq,Prod.mk.injEq] at h
   obtain ⟨rfl,rfl⟩:=h
   have e:len=n:=bo _ (by simp)
   subst e
   exact .bm bV len (bo _ (List.mem_cons_self)) (jg rfl)
 | view dP I gj =>
  cases x<;>simp only [lu,reduceCtorEq] at h
  rename_i r k bV len
  split at h
  ·rename_i row jf dx abT
   split at h
   ·rename_i bf
    simp only [Bool.and_eq_true,Option.isNone_iff_eq_none] at bf
    simp only [Option.some.injEq,Prod.mk.injEq] at h
    obtain ⟨rfl,rfl⟩:=h
    have h1:dh (some row) k=some I:=bo _ (by simp)
    have o:b8 I.cp=true:=bo _ (by simp)
    have ab:bV+len≤I.es.length:=bo _ (by simp)
    have av:jo gj:=bo _ (by simp)
    have az:B9 dP jf b8 I.sz ((I.es.drop bV).take len) gj:=bo _ (by simp)
    have dO:s.ao r k=some I:=by unfold S.ao;rw [dx];exact h1
    obtain ⟨d1,d2,Ca⟩:=az
    refine .isl dO o (H.a4 r bf.1 k I dO o) ab av d2 (by rw [d1];simp;omega) fun j y lV a3 nJ=> ?_
    rcases Ca j y lV a3 nJ with ⟨rfl,a4⟩|⟨cg,RC,rfl,rfl⟩|⟨ll,Ep,D7,p,Bx,e1,aD,bS,da,rfl⟩
    ·obtain ⟨e,he,Bw⟩:=rK nJ
     exact .pure (av e he lV Bw) (bJ.all _ o _)
    ·exact .mJ _ _ _
    ·have nG:s.ao dP ll=some p:=by unfold S.ao;rw [abT];exact e1
     have hlen : ∀e∈p.es,e.length=p.sz:=by
      have fw:=ed.obj dP ll p nG
      cases ak:ay dP ll with
      | none=>rw [ak] at fw;simp only [jb] at fw;rw [fw];simp
      | some q=>rw [ak] at fw;obtain ⟨_,_,_,_,e,_⟩:=fw;exact e
     have QP:hy s a1 b8 q (.bm dP ll Ep D7) (.isl p.sz ((p.es.drop Ep).take D7)):=by
      refine .isl nG aD (H.a4 dP bf.2 ll p nG aD) bS da (fun e he=>hlen e (List.mem_of_mem_drop (List.mem_of_mem_take he))) (by simp;omega) fun j z agm cv u4=> ?_
      rw [cv] at u4;simp at u4;subst u4
      obtain ⟨e,he,ac1⟩:=rK cv
      exact .pure (da e he z ac1) (bJ.all _ aD _)
     rcases Bx with rfl|⟨di,afF,i4,rfl,rfl,rfl⟩
     ·exact QP
     ·exact .nz QP
   ·simp at h
  ·simp at h
 | L7 sz =>
  simp only [lu] at h
  split at h
  ·simp only [Option.some.injEq,Prod.mk.injEq] at h
   obtain ⟨rfl,rfl⟩:=h
   exact .DX _
  ·split at h
   ·rename_i e;subst e
    simp only [Option.some.injEq,Prod.mk.injEq] at h
    obtain ⟨rfl,rfl⟩:=h
    exact .j0 (.pure (ar.xW rfl) bc)
   ·simp at h
  ·simp at h
theorem z9 (ed:hZ g s ay w)(H:mz s a1 cd b8)(bJ:sB q b8){l:List sv}{c dL:List aB}{ao:List Prop}(h:lv (lu s.aW cd a1 b8) l c=some (dL,ao))(bo:∀p∈ao,p)
 (bc : ∀x∈c,q x) {vs:List Value} (aT:vs.length=c.length) (ar : ∀(j:Nat) x u,c[j]? = some x→vs[j]? = some u→Rel w (s.ok g ay w) s.a5 (s.bd ay) x u) :
 dL.length=c.length∧ ∀(j:Nat) x cG,c[j]? = some x→dL[j]? = some cG→hy s a1 b8 q x cG:=by
 obtain ⟨e1,aD,bS⟩:=Du _ l c dL ao h
 refine ⟨e1,fun j x cG U dC=> ?_⟩
 obtain ⟨y,b6,f1,f2,f3⟩:=bS j x cG U dC
 have dG:j<vs.length:=by have:=fT U;omega
 exact JV ed H bJ f2 (fun p ak=>bo p (f3 p ak)) (bc x (List.mem_of_getElem? U)) (ar j x _ U (List.getElem?_eq_getElem dG))
theorem JW (ed:hZ g s ay w)(H:mz s a1 cd b8)(bJ:sB q b8){c:yJ}{x cG:aB}{ao:List Prop}(h:n0 s.aW cd a1 b8 c x=some (cG,ao))(bo:∀p∈ao,p)
 (bc:q x) {v:Value} (ar:Rel w (s.ok g ay w) s.a5 (s.bd ay) x v):hy s a1 b8 q x cG:=by
 cases c with
 | di c =>
  simp only [n0] at h
  split at h
  ·rename_i a4
   split at h
   ·simp only [Option.some.injEq,Prod.mk.injEq] at h
    obtain ⟨rfl,rfl⟩:=h
    exact .pure (ar.DY a4) bc
   ·simp only [Option.some.injEq,Prod.mk.injEq] at h
    obtain ⟨rfl,rfl⟩:=h
    exact .dead _
   ·simp only [Option.some.injEq,Prod.mk.injEq] at h
    obtain ⟨rfl,rfl⟩:=h
    have e:=bo _ (List.mem_singleton.2 rfl)
    subst e
    exact .pure (ar.DY a4) bc
   ·exact JV ed H bJ h bo bc ar
  ·exact JV ed H bJ h bo bc ar
 | agg l =>
  cases x<;>simp only [n0,reduceCtorEq] at h
  rename_i c
  split at h
  ·rename_i dL nk bf
   simp only [Option.some.injEq,Prod.mk.injEq] at h
   obtain ⟨rfl,rfl⟩:=h
   obtain ⟨vs,rfl,aT,-,Bz⟩:=ar.Ah
   obtain ⟨e1,aD⟩:=z9 ed H bJ bf bo (fun y a3=>bJ.agg _ _ bc a3) aT Bz
   exact .agg e1 aD
  ·simp at h
 | ptr l =>
  cases x<;>simp only [n0,reduceCtorEq] at h
  rename_i r k i off
  split at h
  ·rename_i I ap
   split at h
   ·rename_i c hl
    split at h
    ·rename_i bf
     simp only [Bool.and_eq_true,Option.isNone_iff_eq_none] at bf
     split at h
     ·rename_i dL nk iw
      simp only [Option.some.injEq,Prod.mk.injEq] at h
      obtain ⟨rfl,rfl⟩:=h
      have dO:s.ao r k=some I:=ap
      have fw:=ed.obj r k I dO
      cases ak:ay r k with
      | none=>rw [ak] at fw;simp only [jb] at fw;rw [hl] at fw;simp at fw
      | some q =>
       obtain ⟨b,m⟩:=q
       rw [ak] at fw
       obtain ⟨cm,eH,g1,g2,g3,g4⟩:=fw
       have KU:c.length=I.sz:=g3 c (by rw [hl];simp)
       have jG:I.es.flatten=c:=by rw [hl];simp
       have hcs : ∀j:Nat,j<c.length→ ∃u,cm[j]? = some u∧Rel w (s.ok g ay w) s.a5 (s.bd ay) c[j]! u:=by
        intro j aF
        obtain ⟨u,ln,-,gN⟩:=g4 j c[j] (by rw [jG];exact List.getElem?_eq_getElem aF)
        exact ⟨u,ln,by rw [getElem!_pos c j aF];exact gN⟩
       obtain ⟨e1,aD⟩:=z9 (vs:=(List.range c.length).map fun j=>(cm[j]?).getD undef) ed H bJ iw (fun p ak=>bo p (by simp [ak])) (fun y _=>bJ.all _ bf.1 y) (by simp) (by
        intro j y u a3 hu
        have aF:=fT a3
        rw [List.getElem?_map,List.getElem?_range aF] at hu
        simp only [Option.map_some,Option.some.injEq] at hu
        obtain ⟨pG,ln,gN⟩:=hcs j aF
        rw [ln] at hu;simp at hu;subst hu
        rw [List.getElem?_eq_getElem aF] at a3;simp at a3;subst a3
        rw [getElem!_pos c j aF] at gN;exact gN)
       have r5:jo [dL]:=bo _ (by simp)
       refine .eb i off dO bf.1 (H.a4 r bf.2 k I dO bf.1) (by rw [hl];simp) r5 (by simp;omega) (by rw [hl];rfl) ?_
       ·intro j y lV a3 nJ
        rw [jG] at a3
        simp only [List.flatten_cons,List.flatten_nil,List.append_nil] at nJ
        exact aD j y lV a3 nJ
     ·simp at h
    ·simp at h
   ·simp at h
  ·simp at h
 | KO l =>
  simp only [n0] at h
  split at h
  ·rename_i r k
   split at h
   ·rename_i I ap
    split at h
    ·rename_i c hl
     split at h
     ·rename_i bf
      simp only [Bool.and_eq_true,Option.isNone_iff_eq_none] at bf
      split at h
      ·rename_i dL nk iw
       simp only [Option.some.injEq,Prod.mk.injEq] at h
       obtain ⟨rfl,rfl⟩:=h
       have dO:s.ao r k=some I:=ap
       have fw:=ed.obj r k I dO
       cases ak:ay r k with
       | none=>rw [ak] at fw;simp only [jb] at fw;rw [hl] at fw;simp at fw
       | some q =>
        obtain ⟨b,m⟩:=q
        rw [ak] at fw
        obtain ⟨cm,eH,g1,g2,g3,g4⟩:=fw
        have KU:c.length=I.sz:=g3 c (by rw [hl];simp)
        have jG:I.es.flatten=c:=by rw [hl];simp
        have hcs : ∀j:Nat,j<c.length→ ∃u,cm[j]? = some u∧Rel w (s.ok g ay w) s.a5 (s.bd ay) c[j]! u:=by
         intro j aF
         obtain ⟨u,ln,-,gN⟩:=g4 j c[j] (by rw [jG];exact List.getElem?_eq_getElem aF)
         exact ⟨u,ln,by rw [getElem!_pos c j aF];exact gN⟩
        obtain ⟨e1,aD⟩:=z9 (vs:=(List.range c.length).map fun j=>(cm[j]?).getD undef) ed H bJ iw (fun p ak=>bo p (by simp [ak])) (fun y _=>bJ.all _ bf.1 y) (by simp) (by
         intro j y u a3 hu
         have aF:=fT a3
         rw [List.getElem?_map,List.getElem?_range aF] at hu
         simp only [Option.map_some,Option.some.injEq] at hu
         obtain ⟨pG,ln,gN⟩:=hcs j aF
         rw [ln] at hu;simp at hu;subst hu
         rw [List.getElem?_eq_getElem aF] at a3;simp at a3;subst a3
         rw [getElem!_pos c j aF] at gN;exact gN)
        have r5:jo [dL]:=bo _ (by simp)
        refine .j0 (.eb 0 0 dO bf.1 (H.a4 r bf.2 k I dO bf.1) (by rw [hl];simp) r5 (by simp;omega) (by rw [hl];rfl) ?_)
        ·intro j y lV a3 nJ
         rw [jG] at a3
         simp only [List.flatten_cons,List.flatten_nil,List.append_nil] at nJ
         exact aD j y lV a3 nJ
      ·simp at h
     ·simp at h
    ·simp at h
   ·simp at h
  ·simp at h
theorem Ae (ed:hZ g s ay w)(H:mz s a1 cd b8)(bJ:sB q b8){c:lj}{x cG:aB}{ao:List Prop}(h:nv s.aW cd a1 b8 c x=some (cG,ao))(bo:∀p∈ao,p)
 (bc:q x) {v:Value} (ar:Rel w (s.ok g ay w) s.a5 (s.bd ay) x v):hy s a1 b8 q x cG:=by
 have key : ∀(l:List yJ) (c dL:List aB) (nk:List Prop) (vs:List Value),lv (n0 s.aW cd a1 b8) l c=some (dL,nk)→(∀p∈nk,p)→(∀x∈c,q x)→vs.length=c.length →
  (∀(j:Nat) x u,c[j]? = some x→vs[j]? = some u→Rel w (s.ok g ay w) s.a5 (s.bd ay) x u)→dL.length=c.length∧ ∀(j:Nat) x cG,c[j]? = some x→dL[j]? = some cG→hy s a1 b8 q x cG:=by
  intro l c dL nk vs h bo bc aT ar
  obtain ⟨e1,aD,bS⟩:=Du _ l c dL nk h
  refine ⟨e1,fun j x cG U dC=> ?_⟩
  obtain ⟨y,b6,f1,f2,f3⟩:=bS j x cG U dC
  have dG:j<vs.length:=by have:=fT U;omega
  exact JW ed H bJ f2 (fun p ak=>bo p (f3 p ak)) (bc x (List.mem_of_getElem? U)) (ar j x _ U (List.getElem?_eq_getElem dG))
 cases c with
 | bu c =>
  simp only [nv] at h
  split at h
  ·rename_i a4
   split at h
   ·simp only [Option.some.injEq,Prod.mk.injEq] at h
    obtain ⟨rfl,rfl⟩:=h
    exact .pure (ar.abS a4) bc
   ·exact JW ed H bJ h bo bc ar
  ·exact JW ed H bJ h bo bc ar
 | comp l =>
  cases x<;>simp only [nv,reduceCtorEq] at h
  ·rename_i c
   split at h
   ·rename_i dL nk bf
    simp only [Option.some.injEq,Prod.mk.injEq] at h
    obtain ⟨rfl,rfl⟩:=h
    obtain ⟨vs,rfl,aT,Bz⟩:=ar.xD
    obtain ⟨e1,aD⟩:=key l c dL nk vs bf bo (fun y a3=>bJ.dX _ _ bc a3) aT Bz
    exact .dX e1 aD
   ·simp at h
  ·rename_i f c
   split at h
   ·rename_i dL nk bf
    simp only [Option.some.injEq,Prod.mk.injEq] at h
    obtain ⟨rfl,rfl⟩:=h
    obtain ⟨vs,rfl,aT,Bz⟩:=ar.DO
    obtain ⟨e1,aD⟩:=key l c dL nk vs bf bo (fun y a3=>bJ.fn _ _ _ bc a3) aT Bz
    exact .fn e1 aD
   ·simp at h
theorem QQ (ed:hZ g s ay w)(H:mz s a1 cd b8){r:Nat}{j4:Nat→Nat}{row:List ae}(dx:∀k I,dh (some row) k=some I→s.ao r (j4 k)=some I)
 (bc : ∀k I,dh (some row) k=some I→ ∀e∈I.es,∀x∈e,q x) :
 ∀(k:Nat) b6,dh (some (row.map (gH cd))) k=some b6→ ∃I,dh (some row) k=some I∧oa s a1 b8 q I b6:=by
 intro k b6 dO
 rw [kj,List.getElem?_map] at dO
 cases a8:row[k]? with
 | none=>rw [a8] at dO;simp at dO
 | some I =>
  rw [a8] at dO
  simp only [Option.map_some,Option.bind_some] at dO
  split at dO
  ·simp at dO
  ·rename_i dH
   simp only [Option.some.injEq] at dO
   subst dO
   have ap:dh (some row) k=some I:=by rw [kj,a8,Option.bind_some,if_neg (by simpa [gH] using dH)]
   have b0:s.ao r (j4 k)=some I:=dx k I ap
   refine ⟨I,ap,?_⟩
   have fw:=ed.obj r (j4 k) I b0
   have hlen : ∀e∈I.es,e.length=I.sz:=by
    cases ak:ay r (j4 k) with
    | none=>rw [ak] at fw;simp only [jb] at fw;rw [fw];simp
    | some q=>rw [ak] at fw;obtain ⟨_,_,_,_,e,_⟩:=fw;exact e
   refine ⟨rfl,.inl rfl,by simp [gH],?_,fun j x cG U dC=> ?_⟩
   ·intro e he
    simp only [gH,List.mem_map] at he
    obtain ⟨eN,lO,rfl⟩:=he
    simpa using hlen eN lO
   ·simp only [gH] at dC
    rw [map_flatten,List.getElem?_map,U] at dC
    simp only [Option.map_some,Option.some.injEq] at dC
    subst dC
    obtain ⟨e,he,qa⟩:=rK U
    have ac2:=bc k I ap e he x qa
    cases ak:ay r (j4 k) with
    | none=>rw [ak] at fw;simp only [jb] at fw;rw [fw] at U;simp at U
    | some sA =>
     obtain ⟨b,m⟩:=sA
     rw [ak] at fw
     obtain ⟨c,eH,f1,f2,f3,f4⟩:=fw
     obtain ⟨u,ln,nM,gN⟩:=f4 j x U
     cases x with
     | ref b1 ll pb aco =>
      cases ch:cd b1 with
      | none=>simp only [nI,ch];exact .dead _
      | some vn=>simp only [nI,ch];exact .ref pb aco (H.aq _ _ ch _) (by cases gN<;>assumption)
     | bm b1 ll Ep D7 =>
      cases ch:cd b1 with
      | none=>simp only [nI,ch];exact .dead _
      | some vn=>simp only [nI,ch];exact .bm Ep D7 (H.aq _ _ ch _) (by cases gN<;>assumption)
     | iI b1 cg RC o =>
      cases ch:cd b1 with
      | none=>simp only [nI,ch];exact .dead _
      | some vn=>simp only [nI,ch];exact .iI o (fun k=>H.aq _ _ ch _)
     | _ =>
      simp only [nI]
      split
      ·rename_i a4;exact .pure (gN.xW a4) ac2
      ·exact .dead _
theorem Dv (ed:hZ g s ay w)(H:mz s a1 cd b8)(bJ:sB q b8){c:iz}{r:Nat}{j4:Nat→Nat}{row dW:List ae}{ao:List Prop}(dx:∀k I,dh (some row) k=some I→s.ao r (j4 k)=some I)
 (h:iW s.aW cd a1 b8 c row=some (dW,ao)) (bo : ∀p∈ao,p) (bc : ∀k I,dh (some row) k=some I→ ∀e∈I.es,∀x∈e,q x) :
 dW.length=row.length∧(∀k I,dh (some row) k=some I→I.cp = .live) ∧
 ∀(k:Nat) b6,dh (some dW) k=some b6→ ∃I,dh (some row) k=some I∧oa s a1 b8 q I b6:=by
 have hlen : ∀k I,dh (some row) k=some I→ ∀e∈I.es,e.length=I.sz:=by
  intro k I ap
  have dO:s.ao r (j4 k)=some I:=dx k I ap
  have fw:=ed.obj r (j4 k) I dO
  cases ak:ay r (j4 k) with
  | none=>rw [ak] at fw;simp only [jb] at fw;rw [fw];simp
  | some q=>rw [ak] at fw;obtain ⟨_,_,_,_,e,_⟩:=fw;exact e
 have r5:sX row→(∀k I,dh (some row) k=some I→I.cp = .live) ∧
  ∀(k:Nat) b6,dh (some row) k=some b6→ ∃I,dh (some row) k=some I∧oa s a1 b8 q I b6:=by
  intro ak
  have p6 : ∀k I,dh (some row) k=some I→I∈row:=by
   intro k I ap
   unfold dh at ap
   simp only at ap
   split at ap
   ·rename_i b6 dO
    split at ap
    ·simp at ap
    ·simp at ap;subst ap;exact List.mem_of_getElem? dO
   ·simp at ap
  refine ⟨fun k I ap=>(ak I (p6 k I ap)).2,fun k I ap=>⟨I,ap,rfl,.inl rfl,rfl,hlen k I ap,fun j x cG U dC=> ?_⟩⟩
  rw [U] at dC;simp at dC;subst dC
  obtain ⟨e,he,qa⟩:=rK U
  exact .pure ((ak I (p6 k I ap)).1 e he x qa) (bc k I ap e he x qa)
 cases c with
 | pure =>
  simp only [iW,Option.some.injEq,Prod.mk.injEq] at h
  obtain ⟨rfl,rfl⟩:=h
  exact ⟨rfl,r5 (bo _ (by simp))⟩
 | cA aA =>
  simp only [iW,Option.some.injEq,Prod.mk.injEq] at h
  obtain ⟨rfl,rfl⟩:=h
  have e:row=aA:=bo _ (by simp)
  subst e
  exact ⟨rfl,r5 (bo _ (by simp))⟩
 | bG aA =>
  simp only [iW,Option.some.injEq,Prod.mk.injEq] at h
  obtain ⟨rfl,rfl⟩:=h
  have e:aA=row.map (gH cd):=bo _ (by simp)
  have Ln:mi row:=bo _ (by simp)
  subst e
  refine ⟨by simp,fun k I ap=>by
   unfold dh at ap
   simp only at ap
   split at ap
   ·rename_i b6 dO
    split at ap
    ·simp at ap
    ·rename_i dH
     simp at ap;subst ap
     exact (Ln _ (List.mem_of_getElem? dO)).resolve_right dH
   ·simp at ap,QQ ed H dx bc⟩
 | rx aA=>cases row with
  | nil=>simp [iW] at h
  | cons I l=>cases l<;>simp [iW] at h
 | drop=>cases row with
  | nil=>simp [iW] at h
  | cons I l=>cases l<;>simp [iW] at h
 | box l =>
  match row,h with
  | [I],h =>
   simp only [iW] at h
   split at h
   ·rename_i c hl
    split at h
    ·rename_i nF
     split at h
     ·rename_i dL nk bf
      simp only [Option.some.injEq,Prod.mk.injEq] at h
      obtain ⟨rfl,rfl⟩:=h
      have h0:dh (some [I]) 0=some I:=by rw [lY];simp [nF]
      refine ⟨rfl,fun k p ak=> ?_,fun k p ak=> ?_⟩
      ·rw [lY] at ak
       split at ak
       ·simp at ak;subst ak;exact nF
       ·simp at ak
      ·rw [lY] at ak
       split at ak
       ·rename_i sl
        obtain ⟨rfl,-⟩:=sl
        simp only [Option.some.injEq] at ak;subst ak
        refine ⟨I,h0,?_⟩
        have dO:s.ao r (j4 0)=some I:=dx 0 I h0
        have fw:=ed.obj r (j4 0) I dO
        cases km:ay r (j4 0) with
        | none=>rw [km] at fw;simp only [jb] at fw;rw [hl] at fw;simp at fw
        | some q =>
         obtain ⟨b,m⟩:=q
         rw [km] at fw
         obtain ⟨cm,eH,g1,g2,g3,g4⟩:=fw
         have KU:c.length=I.sz:=g3 c (by rw [hl];simp)
         have jG:I.es.flatten=c:=by rw [hl];simp
         obtain ⟨e1,aD⟩:=z9 (vs:=(List.range c.length).map fun j=>(cm[j]?).getD undef) ed H bJ bf bo (fun y a3=>bc 0 I h0 c (by rw [hl];simp) y a3) (by simp) (by
          intro j y u a3 hu
          have aF:=fT a3
          rw [List.getElem?_map,List.getElem?_range aF] at hu
          simp only [Option.map_some,Option.some.injEq] at hu
          obtain ⟨pG,ln,-,gN⟩:=g4 j y (by rw [jG];exact a3)
          rw [ln] at hu;simp at hu;subst hu
          exact gN)
         refine ⟨rfl,.inl rfl,by simp [hl],by simp;omega,fun j x cG U dC=> ?_⟩
         rw [jG] at U
         simp only [List.flatten_cons,List.flatten_nil,List.append_nil] at dC
         exact aD j x cG U dC
       ·simp at ak
     ·simp at h
    ·simp at h
   ·simp at h
  | [],h=>simp [iW] at h
  | _::_::_,h=>simp [iW] at h
end
end Go.VL
namespace Go.VL
set_option linter.unusedVariables false
set_option linter.unusedSimpArgs false
open Go
def Dw (P:Program)(f:FuncId):Prop:= ∃fn,P.funcs[f]? = some fn∧(fn.name == "runtime.NumGoroutine")=false∧fn.body.isSome=true
def Con (P:Program)(f:FuncId)(args:List aB)(T:List (List ae))(r:aB)(im:List (List ae)):Prop:=Dw P f∧abP P f args T r im
def r6 (k:f5):Bool:=k = .iO
def ky (_:f5):Bool:=true
def kL (_:f5):Bool:=false
def Src.r:Src→Nat
 | .row r=>r
 | .ao r _ _=>r
def Src.has:Src→Nat→Nat→Prop
 | .row r,q,_=>q=r
 | .ao r k _,q,d8=>q=r∧d8=k
def Src.my:Src→Nat→Nat
 | .row _,k=>k
 | .ao ..,_=>0
def ld (l:List Src):gC:=fun j i=>match l[j]? with
 | some (.row r)=>some (r,i)
 | some (.ao r k _)=>if i=0 then some (r,k) else none
 | none=>none
def oJ (n:Nat):List Src→Nat→Option Nat
 | [],_=>none
 | .row r::l,q=>if r=q then some n else oJ (n+1) l q
 | .ao .. :: l,q=>oJ (n+1) l q
def jh (n:Nat):List Src→gC
 | [],_,_=>none
 | .row r::l,q,k=>if q=r then some (n,k) else jh (n+1) l q k
 | .ao r d8 _::l,q,k=>if q=r∧k=d8 then some (n,0) else jh (n+1) l q k
def r7 (l:List Src):Nat→Option Nat:=fun j=>match l[j]? with
 | some (.row r)=>some r
 | _=>none
def apart:Src→Src→Option (List Prop)
 | .ao r k _,.ao eJ d8 _=>if r=eJ then some [k≠d8] else some []
 | a,b=>if a.r=b.r then none else some []
def DQ (a:Src):List Src→Option (List Prop)
 | []=>some []
 | b::l=>match apart a b,DQ a l with
  | some x,some y=>some (x++y)
  | _,_=>none
def DZ:List Src→Option (List Prop)
 | []=>some []
 | a::l=>match DQ a l,DZ l with
  | some x,some y=>some (x++y)
  | _,_=>none
def A9 (l:List Src):Prop:=l.Pairwise fun a b=> ∀r k,¬(a.has r k∧b.has r k)
theorem ZY {a b:Src}{ao:List Prop}(h:apart a b=some ao)(bo:∀p∈ao,p): ∀r k,¬(a.has r k∧b.has r k):=by
 rintro r k ⟨h1,o⟩
 have ar : ∀c:Src,c.has r k→c.r=r:=fun c bf=>by
  cases c with
  | row r0=>exact Eq.symm bf
  | ao r0 i4 lo=>exact Eq.symm bf.1
 have e:=(ar a h1).trans (ar b o).symm
 cases a with
 | row r0=>simp only [apart] at h;rw [if_pos e] at h;simp at h
 | ao r0 i4 lo =>
  cases b with
  | row r1=>simp only [apart] at h;rw [if_pos e] at h;simp at h
  | ao r1 mX af =>
   simp only [apart] at h
   rw [if_pos (show r0=r1 from e)] at h
   simp only [Option.some.injEq] at h
   subst h
   exact bo _ (List.mem_singleton.2 rfl) (h1.2.symm.trans o.2)
theorem OO {a:Src}: ∀ {l:List Src} {ao:List Prop},DQ a l=some ao→(∀p∈ao,p)→ ∀b∈l,∀r k,¬(a.has r k∧b.has r k)
 | [],_,_,_,_,aS=>by simp at aS
 | b::l,ao,h,bo,c,bf=>by
  simp only [DQ] at h
  split at h
  ·rename_i x y h1 o
   simp only [Option.some.injEq] at h;subst h
   rcases List.mem_cons.1 bf with rfl|bf
   ·exact ZY h1 fun p ak=>bo p (by simp [ak])
   ·exact OO o (fun p ak=>bo p (by simp [ak])) c bf
  ·simp at h
theorem Pf : ∀ {l:List Src} {ao:List Prop},DZ l=some ao→(∀p∈ao,p)→A9 l
 | [],_,_,_=>List.Pairwise.nil
 | a::l,ao,h,bo=>by
  simp only [DZ] at h
  split at h
  ·rename_i x y h1 o
   simp only [Option.some.injEq] at h;subst h
   exact List.pairwise_cons.2 ⟨OO h1 fun p ak=>bo p (by simp [ak]),Pf o fun p ak=>bo p (by simp [ak])⟩
  ·simp at h
theorem sZ {l:List Src}{j i r k:Nat}:ld l j i=some (r,k)↔ ∃a,l[j]? = some a∧a.has r k∧i=a.my k:=by
 unfold ld
 cases h:l[j]? with
 | none=>simp
 | some a =>
  cases a with
  | row r0 =>
   simp only [Option.some.injEq,Prod.mk.injEq,exists_eq_left',Src.has,Src.my]
   constructor<;>rintro ⟨a,b⟩<;>exact ⟨a.symm,b⟩
  | ao r0 i4 I =>
   simp only [Option.some.injEq,exists_eq_left',Src.has,Src.my]
   by_cases e:i=0
   ·rw [if_pos e];simp only [Option.some.injEq,Prod.mk.injEq,e,and_true];constructor<;>rintro ⟨a,b⟩<;>exact ⟨a.symm,b.symm⟩
   ·rw [if_neg e];simp [e]
theorem uA : ∀ {l:List Src} {n r k j i:Nat},jh n l r k=some (j,i)→ ∃a,n≤j∧l[j-n]? = some a∧a.has r k∧i=a.my k
 | [],_,_,_,_,_,h=>by simp [jh] at h
 | .row r0::l,n,r,k,j,i,h=>by
  simp only [jh] at h
  split at h
  ·rename_i e
   simp only [Option.some.injEq,Prod.mk.injEq] at h
   obtain ⟨rfl,rfl⟩:=h
   exact ⟨.row r0,Nat.le_refl _,by simp,e,rfl⟩
  ·obtain ⟨a,h1,o,ab,av⟩:=uA h
   exact ⟨a,by omega,by rw [show j-n=(j-(n+1))+1 by omega,List.getElem?_cons_succ];exact o,ab,av⟩
 | .ao r0 i4 I::l,n,r,k,j,i,h=>by
  simp only [jh] at h
  split at h
  ·rename_i e
   simp only [Option.some.injEq,Prod.mk.injEq] at h
   obtain ⟨rfl,rfl⟩:=h
   exact ⟨.ao r0 i4 I,Nat.le_refl _,by simp,e,rfl⟩
  ·obtain ⟨a,h1,o,ab,av⟩:=uA h
   exact ⟨a,by omega,by rw [show j-n=(j-(n+1))+1 by omega,List.getElem?_cons_succ];exact o,ab,av⟩
theorem rf (n:Nat)(a:Src)(l:List Src)(r k:Nat)(h:¬a.has r k):jh n (a::l) r k=jh (n+1) l r k:=by
 cases a<;>simp only [jh,Src.has] at h ⊢ <;> rw [if_neg h]
theorem ZZ (n:Nat)(a:Src)(l:List Src)(r k:Nat)(h:a.has r k):jh n (a::l) r k=some (n,a.my k):=by
 cases a<;>simp only [jh,Src.has,Src.my] at h ⊢ <;> rw [if_pos h]
theorem Av : ∀ {l:List Src} {n r k j:Nat} {a:Src},A9 l→l[j]? = some a→a.has r k→jh n l r k=some (n+j,a.my k)
 | b::l,n,r,k,0,a,_,h,bF=>by
  simp at h;subst h
  exact ZZ n b l r k bF
 | b::l,n,r,k,j+1,a,bJ,h,bF=>by
  simp at h
  have bJ:=List.pairwise_cons.1 bJ
  rw [rf n b l r k fun aS=>bJ.1 a (List.mem_of_getElem? h) r k ⟨aS,bF⟩,Av (j:=j) bJ.2 h bF]
  congr 2;omega
theorem abl {a:Src}{r k eJ d8:Nat}(h:a.has r k)(cD:a.has eJ d8)(e:a.my k=a.my d8):r=eJ∧k=d8:=by
 cases a<;>simp only [Src.has,Src.my] at h cD e<;>omega
theorem aaN {l:List Src}{n r k eJ d8:Nat}{p:Nat×Nat}(h:jh n l r k=some p)(cD:jh n l eJ d8=some p):r=eJ∧k=d8:=by
 obtain ⟨j,i⟩:=p
 obtain ⟨a,h1,o,ab,av⟩:=uA h
 obtain ⟨dB,p9,Lo,ac3,afG⟩:=uA cD
 rw [o] at Lo;simp at Lo;subst Lo
 exact abl ab ac3 (by omega)
theorem JJ : ∀ {l:List Src} {n r j:Nat},oJ n l r=some j→n≤j∧l[j-n]? = some (.row r)
 | [],_,_,_,h=>by simp [oJ] at h
 | .row r0::l,n,r,j,h=>by
  simp only [oJ] at h
  split at h
  ·rename_i e;simp at h;subst h;subst e;exact ⟨Nat.le_refl _,by simp⟩
  ·obtain ⟨h1,o⟩:=JJ h
   exact ⟨by omega,by rw [show j-n=(j-(n+1))+1 by omega,List.getElem?_cons_succ];exact o⟩
 | .ao r0 i4 I::l,n,r,j,h=>by
  simp only [oJ] at h
  obtain ⟨h1,o⟩:=JJ h
  exact ⟨by omega,by rw [show j-n=(j-(n+1))+1 by omega,List.getElem?_cons_succ];exact o⟩
theorem OP : ∀ {l:List Src} {n r:Nat},oJ n l r=none→Src.row r ∉ l
 | [],_,_,_=>by simp
 | .row r0::l,n,r,h=>by
  simp only [oJ] at h
  split at h
  ·simp at h
  ·rename_i e
   simp only [List.mem_cons,Src.row.injEq,not_or]
   exact ⟨fun h=>e h.symm,OP h⟩
 | .ao r0 i4 I::l,n,r,h=>by
  simp only [oJ] at h
  simp only [List.mem_cons,reduceCtorEq,false_or]
  exact OP h
def l1 (aW:Nat→Option (List ae))(cd:Nat→Option Nat)(a1:gC):List Src→List iz→Option (List (List ae)×List Prop)
 | [],[]=>some ([],[])
 | .row r::l,c::dt=>match aW r with
  | some row=>match iW aW cd a1 r6 c row,l1 aW cd a1 l dt with
   | some (dW,af),some (T,aU)=>some (dW::T,af++aU)
   | _,_=>none
  | none=>none
 | .ao r k I::l,c::dt=>match aW r with
  | some row=>match iW aW cd a1 r6 c [I],l1 aW cd a1 l dt with
   | some (dW,af),some (T,aU)=>some (dW::T,(dh (some row) k=some I)::(af++aU))
   | _,_=>none
  | none=>none
 | _,_=>none
def kS (vo:Nat→Option (List ae))(cd:Nat→Option Nat)(kG:gC):(Nat→Option (List ae))→List Src→List iz→List (List ae)→Option (List (Nat×List ae)×List Prop)
 | _,[],[],[]=>some ([],[])
 | aW,.row q::l,c::dt,row::T=>match iW vo cd kG kL c row with
  | some (dW,af)=>match kS vo cd kG (fun x=>if x=q then some dW else aW x) l dt T with
   | some (u,aU)=>some ((q,dW)::u,af++aU)
   | none=>none
  | none=>none
 | aW,.ao q k _::l,c::dt,row::T=>match aW q with
  | some ly=>match iW vo cd kG kL c row with
   | some ([b6],af)=>match kS vo cd kG (fun x=>if x=q then some (ly.set k b6) else aW x) l dt T with
    | some (u,aU)=>some ((q,ly.set k b6)::u,af++aU)
    | none=>none
   | _=>none
  | none=>none
 | _,_,_,_=>none
def oO (T:List (List ae)):Prop:= ∀row∈T,∀I∈row,∀e∈I.es,∀x∈e,b7 x
def xX (P:Program)(aW:Nat→Option (List ae))(aV:Nat)(f:FuncId)(args:List aB)(cm:B4):Option h2 :=
 let l:=if cm.fy.length=cm.a1.length then cm.a1 else cm.a1++[.row aV]
 match DZ cm.a1 with
 | none=>none
 | some lo =>
  if cm.a1.any (fun a=>decide (a.r=aV)) then none else
  if cm.fB then
   match cm.a1 with
   | [] =>
    match lv (nv aW (fun _=>none) (ld []) ky) cm.ac args,nv (fun j=>cm.fy[j]?) (r7 l) (jh 0 l) kL cm.ik cm.r,
     kS (fun j=>cm.fy[j]?) (r7 l) (jh 0 l) aW l cm.kn cm.fy with
    | some (pZ,af),some (eJ,fE),some (u,eS)=>some {val:=eJ,fJ:=u,fu:=af++fE++eS++[Con P f pZ [] cm.r cm.fy,b7 cm.r]++(if cm.fy.isEmpty then [] else [oO cm.fy])}
    | _,_,_=>none
   | _=>none
  else
   match lv (nv aW (oJ 0 cm.a1) (ld cm.a1) r6) cm.ac args,l1 aW (oJ 0 cm.a1) (ld cm.a1) cm.a1 cm.dt,
    nv (fun j=>cm.fy[j]?) (r7 l) (jh 0 l) kL cm.ik cm.r,kS (fun j=>cm.fy[j]?) (r7 l) (jh 0 l) aW l cm.kn cm.fy with
   | some (pZ,af),some (T,aU),some (eJ,fE),some (u,eS) =>
    some {val:=eJ,fJ:=u,fu:=lo++af++aU++fE++eS++[Con P f pZ T cm.r cm.fy]}
   | _,_,_,_=>none
theorem Om {aW:Nat→Option (List ae)}{cd:Nat→Option Nat}{a1:gC}{b8:f5→Bool}{c:iz}{row dW:List ae}{ao:List Prop}(h:iW aW cd a1 b8 c row=some (dW,ao))(bo:∀p∈ao,p):
 ∀k I,dh (some row) k=some I→I.cp = .live:=by
 have p6 : ∀k I,dh (some row) k=some I→I∈row∧I.cp≠ .gone:=by
  intro k I ap
  rw [kj] at ap
  cases a8:row[k]? with
  | none=>rw [a8] at ap;simp at ap
  | some p =>
   rw [a8,Option.bind_some] at ap
   split at ap
   ·simp at ap
   ·rename_i e;simp at ap;subst ap;exact ⟨List.mem_of_getElem? a8,e⟩
 intro k I ap
 obtain ⟨h1,o⟩:=p6 k I ap
 cases c with
 | pure =>
  simp only [iW,Option.some.injEq,Prod.mk.injEq] at h
  obtain ⟨rfl,rfl⟩:=h
  exact ((bo _ (List.mem_singleton.2 rfl):sX row) I h1).2
 | cA aA =>
  simp only [iW,Option.some.injEq,Prod.mk.injEq] at h
  obtain ⟨rfl,rfl⟩:=h
  have e:row=aA:=bo _ (by simp)
  have ak:sX aA:=bo _ (by simp)
  exact (ak I (e▸h1)).2
 | bG aA =>
  simp only [iW,Option.some.injEq,Prod.mk.injEq] at h
  obtain ⟨rfl,rfl⟩:=h
  have ak:mi row:=bo _ (by simp)
  exact (ak I h1).resolve_right o
 | rx aA=>cases row with
  | nil=>simp [iW] at h
  | cons I l=>cases l<;>simp [iW] at h
 | drop=>cases row with
  | nil=>simp [iW] at h
  | cons I l=>cases l<;>simp [iW] at h
 | box l =>
  match row,h,h1 with
  | [p],h,h1 =>
   simp only [iW] at h
   rw [List.mem_singleton] at h1;subst h1
   split at h
   ·split at h
    ·rename_i e;exact e
    ·simp at h
   ·simp at h
  | [],h,_=>simp [iW] at h
  | _::_::_,h,_=>simp [iW] at h
section
variable {P:Program} {g:G} {s:S} {ay:fm} {a:Act} {w:World}
theorem JK (ed:hZ g s ay w){a1:gC}{cd:Nat→Option Nat}(H:mz s a1 cd r6): ∀(l:List Src) (dt:List iz) (T:List (List ae)) (ao:List Prop),
 l1 s.aW cd a1 l dt=some (T,ao)→(∀p∈ao,p)→T.length=l.length∧ ∀(j:Nat) dW b,T[j]? = some dW→l[j]? = some b →
  (∀r k I,b.has r k→s.ao r k=some I→I.cp = .live)∧(∀r k,b.has r k→s.a5 r k→b.my k<dW.length) ∧
  (∀r k I,b = .ao r k I→s.ao r k=some I) ∧
  ∀(i:Nat) b6,dh (some dW) i=some b6→ ∃r k I,b.has r k∧i=b.my k∧s.ao r k=some I∧oa s a1 r6 lS I b6
 | [],[],T,ao,h,_=>by
  simp [l1] at h;obtain ⟨rfl,rfl⟩:=h
  exact ⟨rfl,fun j dW r aF=>by simp at aF⟩
 | .row r::l,c::dt,T,ao,h,bo=>by
  simp only [l1] at h
  split at h
  ·rename_i row dx
   split at h
   ·rename_i al af mY aU h1 o
    simp only [Option.some.injEq,Prod.mk.injEq] at h
    obtain ⟨rfl,rfl⟩:=h
    obtain ⟨e1,aD⟩:=JK ed H l dt mY aU o (fun p ak=>bo p (by simp [ak]))
    have j9 : ∀k,s.ao r k=dh (some row) k:=fun k=>by unfold S.ao;rw [dx]
    obtain ⟨f0,f1,f2⟩:=Dv (q:=lS) (j4:=id) ed H (tn _) (fun k I ap=>(j9 k).trans ap) h1 (fun p ak=>bo p (by simp [ak])) (fun _ _ _ _ _ _ _=>trivial)
    refine ⟨by simp [e1],fun j dW b aF aS=> ?_⟩
    cases j with
    | zero =>
     simp at aF aS;subst aF;subst aS
     refine ⟨fun q k I bc ap=> ?_,fun q k bc hu=> ?_,fun _ _ _ e=>by simp at e,fun i b6 dO=> ?_⟩
     ·have bc:q=r:=bc
      subst bc;rw [j9] at ap;exact f1 k I ap
     ·have bc:q=r:=bc
      subst bc;rw [f0];simpa [S.a5,dx,Src.my] using hu
     ·obtain ⟨I,g1,g2⟩:=f2 i b6 dO
      exact ⟨r,i,I,rfl,rfl,(j9 i).trans g1,g2⟩
    | succ j=>simp at aF aS;exact aD j dW b aF aS
   ·simp at h
  ·simp at h
 | .ao r i4 lo::l,c::dt,T,ao,h,bo=>by
  simp only [l1] at h
  split at h
  ·rename_i row dx
   split at h
   ·rename_i al af mY aU h1 o
    simp only [Option.some.injEq,Prod.mk.injEq] at h
    obtain ⟨rfl,rfl⟩:=h
    obtain ⟨e1,aD⟩:=JK ed H l dt mY aU o (fun p ak=>bo p (by simp [ak]))
    have ap:s.ao r i4=some lo:=by unfold S.ao;rw [dx];exact bo _ (by simp)
    have lL : ∀k I,dh (some [lo]) k=some I→k=0∧I=lo:=fun k I a8=>by
     rw [lY] at a8;split at a8
     ·rename_i e;simp at a8;exact ⟨e.1,a8.symm⟩
     ·simp at a8
    have Lp:lo.cp≠ .gone:=by
     unfold S.ao at ap;rw [dx,kj] at ap
     cases a8:row[i4]? with
     | none=>rw [a8] at ap;simp at ap
     | some p =>
      rw [a8,Option.bind_some] at ap;split at ap
      ·simp at ap
      ·rename_i e;simp at ap;subst ap;exact e
    obtain ⟨f0,f1,f2⟩:=Dv (q:=lS) (j4:=fun _=>i4) (r:=r) ed H (tn _) (fun k I a8=>by rw [(lL k I a8).2];exact ap) h1 (fun p ak=>bo p (by simp [ak])) (fun _ _ _ _ _ _ _=>trivial)
    refine ⟨by simp [e1],fun j dW b aF aS=> ?_⟩
    cases j with
    | zero =>
     simp at aF aS;subst aF;subst aS
     refine ⟨fun q k I bc pw=> ?_,fun q k bc hu=> ?_,fun eJ d8 b6 e=> ?_,fun i b6 dO=> ?_⟩
     ·obtain ⟨rfl,rfl⟩:q=r∧k=i4:=bc
      rw [ap] at pw;simp at pw;subst pw
      exact f1 0 lo (by rw [lY];simp [Lp])
     ·rw [f0];simp [Src.my]
     ·cases e;exact ap
     ·obtain ⟨I,g1,g2⟩:=f2 i b6 dO
      obtain ⟨rfl,rfl⟩:=lL i I g1
      exact ⟨r,i4,I,⟨rfl,rfl⟩,rfl,ap,g2⟩
    | succ j=>simp at aF aS;exact aD j dW b aF aS
   ·simp at h
  ·simp at h
 | [],_::_,_,_,h,_=>by simp [l1] at h
 | .row _::_,[],_,_,h,_=>by simp [l1] at h
 | .ao .. :: _,[],_,_,h,_=>by simp [l1] at h
theorem JC {fW:G}{s1:S}{kO:fm}{bN:World}(ed:hZ fW s1 kO bN){kG:gC}{q:aB→Prop}{cd:Nat→Option Nat}(H:mz s1 kG cd kL)(bJ:sB q kL)
 (bc : ∀j i I,s1.ao j i=some I→ ∀e∈I.es,∀x∈e,q x) :
 ∀(l:List Src) (dt:List iz) (T:List (List ae)) (u:List (Nat×List ae)) (ao:List Prop) (n:Nat) (s:S),A9 l→(∀j row,T[j]? = some row→s1.aW (n+j)=some row) →
 (∀r k j i,jh n l r k=some (j,i)→s.a5 r k→s1.a5 j i)→(∀r k I,Src.ao r k I∈l→s.a5 r k) →
 kS s1.aW cd kG s.aW l dt T=some (u,ao)→(∀p∈ao,p)→T.length=l.length∧(s.hQ u).E=s.E ∧
  (∀r k I,(s.hQ u).ao r k=some I→(∃j i p,jh n l r k=some (j,i)∧s1.ao j i=some p∧oa s1 kG kL q p I)∨(jh n l r k=none∧s.ao r k=some I)) ∧
  (∀r k,s.a5 r k→(s.hQ u).a5 r k)∧(∀r k j i,jh n l r k=some (j,i)→s1.a5 j i→(s.hQ u).a5 r k)
 | [],[],[],u,ao,n,s,_,_,_,_,h,_=>by
  simp [kS] at h;obtain ⟨rfl,rfl⟩:=h
  exact ⟨rfl,rfl,fun r k I ap=> .inr ⟨rfl,ap⟩,fun r k h=>h,fun r k j i h=>by simp [jh] at h⟩
 | .row q0::l,c::dt,row::T,u,ao,n,s,rz,iK,hu,qM,h,bo=>by
  simp only [kS] at h
  split at h
  ·rename_i dW af h1
   split at h
   ·rename_i nM aU o
    simp only [Option.some.injEq,Prod.mk.injEq] at h
    obtain ⟨rfl,rfl⟩:=h
    have BA:=List.pairwise_cons.1 rz
    have hR:s1.aW n=some row:=iK 0 row rfl
    have uX : ∀k,s1.ao n k=dh (some row) k:=fun k=>by unfold S.ao;rw [hR]
    obtain ⟨f0,f1,f2⟩:=Dv (q:=q) (j4:=id) (r:=n) ed H bJ (fun k I ap=>(uX k).trans ap) h1 (fun p ak=>bo p (by simp [ak])) (fun k I ap=>bc n k I ((uX k).trans ap))
    have jv : ∀k j i,jh (n+1) l q0 k≠some (j,i):=fun k j i hm=>by
     obtain ⟨b,ij,hf,qh,Mc⟩:=uA hm
     exact BA.1 b (List.mem_of_getElem? hf) q0 k ⟨rfl,qh⟩
    have x8 : ∀r k,s.a5 r k→(s.setRow q0 dW).a5 r k:=fun r k a8=>by
     rw [m5]
     by_cases e:r=q0
     ·subst e;rw [if_pos rfl,f0]
      have:=hu r k n k (by simp [jh]) a8
      simpa [S.a5,hR] using this
     ·rw [if_neg e];exact a8
    obtain ⟨e1,aD,bS,da,dl⟩:=JC ed H bJ bc l dt T nM aU (n+1) (s.setRow q0 dW) BA.2 (fun j row aF=>by rw [Nat.add_assoc,Nat.add_comm 1 j];exact iK (j+1) row (by simpa using aF))
     (fun r k j i hm a8=>by
       have dr:r≠q0:=by rintro rfl;exact jv _ _ _ hm
       refine hu r k j i ?_ (by rw [m5,if_neg dr] at a8;exact a8)
       rw [rf n (.row q0) l r k dr];exact hm)
     (fun r k I hm=>x8 r k (qM r k I (by simp [hm]))) o (fun p ak=>bo p (by simp [ak]))
    refine ⟨by simp [e1],aD,fun r k I ap=> ?_,fun r k a8=>da r k (x8 r k a8),fun r k j i hm a8=> ?_⟩
    ·rcases bS r k I ap with ⟨j,i,p,ij,hf,qh⟩|⟨ij,hf⟩
     ·have dr:r≠q0:=by rintro rfl;exact jv _ _ _ ij
      exact .inl ⟨j,i,p,by rw [rf n (.row q0) l r k dr];exact ij,hf,qh⟩
     ·rw [lr] at hf
      by_cases e:r=q0
      ·subst e
       rw [if_pos rfl] at hf
       obtain ⟨p,g1,g2⟩:=f2 k I hf
       exact .inl ⟨n,k,p,by simp [jh],(uX k).trans g1,g2⟩
      ·rw [if_neg e] at hf
       exact .inr ⟨by rw [rf n (.row q0) l r k e];exact ij,hf⟩
    ·by_cases e:r=q0
     ·subst e
      simp only [jh,if_true] at hm
      simp only [Option.some.injEq,Prod.mk.injEq] at hm
      obtain ⟨rfl,rfl⟩:=hm
      refine da r k ?_
      rw [m5,if_pos rfl,f0]
      simpa [S.a5,hR] using a8
     ·rw [rf n (.row q0) l r k e] at hm
      exact dl r k j i hm a8
   ·simp at h
  ·simp at h
 | .ao q0 i4 lo::l,c::dt,row::T,u,ao,n,s,rz,iK,hu,qM,h,bo=>by
  simp only [kS] at h
  split at h
  ·rename_i ly D8
   split at h
   ·rename_i b6 af h1
    split at h
    ·rename_i nM aU o
     simp only [Option.some.injEq,Prod.mk.injEq] at h
     obtain ⟨rfl,rfl⟩:=h
     have BA:=List.pairwise_cons.1 rz
     have hR:s1.aW n=some row:=iK 0 row rfl
     have uX : ∀k,s1.ao n k=dh (some row) k:=fun k=>by unfold S.ao;rw [hR]
     obtain ⟨f0,f1,f2⟩:=Dv (q:=q) (j4:=id) (r:=n) ed H bJ (fun k I ap=>(uX k).trans ap) h1 (fun p ak=>bo p (by simp [ak])) (fun k I ap=>bc n k I ((uX k).trans ap))
     have jv : ∀j i,jh (n+1) l q0 i4≠some (j,i):=fun j i hm=>by
      obtain ⟨b,ij,hf,qh,Mc⟩:=uA hm
      exact BA.1 b (List.mem_of_getElem? hf) q0 i4 ⟨⟨rfl,rfl⟩,qh⟩
     have x8 : ∀r k,s.a5 r k→(s.setRow q0 (ly.set i4 b6)).a5 r k:=C5 s D8 (by simp)
     have sl:i4<ly.length:=by have:=qM q0 i4 lo (by simp);simpa [S.a5,D8] using this
     obtain ⟨e1,aD,bS,da,dl⟩:=JC ed H bJ bc l dt T nM aU (n+1) (s.setRow q0 (ly.set i4 b6)) BA.2 (fun j row aF=>by rw [Nat.add_assoc,Nat.add_comm 1 j];exact iK (j+1) row (by simpa using aF))
      (fun r k j i hm a8=>by
        have dr : ¬(Src.ao q0 i4 lo).has r k:=by rintro ⟨rfl,rfl⟩;exact jv _ _ hm
        refine hu r k j i (by rw [rf n _ l r k dr];exact hm) ?_
        rw [m5] at a8
        split at a8
        ·rename_i e;subst e;simpa [S.a5,D8] using a8
        ·exact a8)
      (fun r k I hm=>x8 r k (qM r k I (by simp [hm]))) o (fun p ak=>bo p (by simp [ak]))
     refine ⟨by simp [e1],aD,fun r k I ap=> ?_,fun r k a8=>da r k (x8 r k a8),fun r k j i hm a8=> ?_⟩
     ·rcases bS r k I ap with ⟨j,i,p,ij,hf,qh⟩|⟨ij,hf⟩
      ·have dr : ¬(Src.ao q0 i4 lo).has r k:=by rintro ⟨rfl,rfl⟩;exact jv _ _ ij
       exact .inl ⟨j,i,p,by rw [rf n _ l r k dr];exact ij,hf,qh⟩
      ·rw [lr] at hf
       by_cases e:r=q0
       ·subst e
        rw [if_pos rfl,kj,List.getElem?_set] at hf
        by_cases aD:i4=k
        ·subst aD
         rw [if_pos rfl,if_pos sl,Option.bind_some] at hf
         have qh:dh (some [b6]) 0=some I:=by rw [kj];exact hf
         obtain ⟨p,g1,g2⟩:=f2 0 I qh
         exact .inl ⟨n,0,p,by simp [jh],(uX 0).trans g1,g2⟩
        ·rw [if_neg aD] at hf
         have dr : ¬(Src.ao r i4 lo).has r k:=by rintro ⟨-,rfl⟩;exact aD rfl
         exact .inr ⟨by rw [rf n _ l r k dr];exact ij,by unfold S.ao;rw [D8,kj];exact hf⟩
       ·rw [if_neg e] at hf
        have dr : ¬(Src.ao q0 i4 lo).has r k:=by rintro ⟨rfl,-⟩;exact e rfl
        exact .inr ⟨by rw [rf n _ l r k dr];exact ij,hf⟩
     ·by_cases e:(Src.ao q0 i4 lo).has r k
      ·obtain ⟨rfl,rfl⟩:=e
       exact da r k (x8 r k (qM r k lo (by simp)))
      ·rw [rf n _ l r k e] at hm
       exact dl r k j i hm a8
    ·simp at h
   ·simp at h
  ·simp at h
 | [],[],_::_,_,_,_,_,_,_,_,_,h,_=>by simp [kS] at h
 | [],_::_,_,_,_,_,_,_,_,_,_,h,_=>by simp [kS] at h
 | .row _::_,[],_,_,_,_,_,_,_,_,_,h,_=>by simp [kS] at h
 | .ao .. :: _,[],_,_,_,_,_,_,_,_,_,h,_=>by simp [kS] at h
 | .row _::_,_::_,[],_,_,_,_,_,_,_,_,h,_=>by simp [kS] at h
 | .ao .. :: _,_::_,[],_,_,_,_,_,_,_,_,h,_=>by simp [kS] at h
theorem Pg (h:cL g s ay a w){aV:Nat}(eU:s.aW aV=none){f:FuncId}{args:List aB}{cm:B4}{l:List Src}(nj:l=if cm.fy.length=cm.a1.length then cm.a1 else cm.a1++[.row aV])
 (rz:A9 cm.a1) (u5 : ∀a∈cm.a1,a.r≠aV) {b8:f5→Bool} {A:Nat→Prop} {q:aB→Prop} {T:List (List ae)} {cd:Nat→Option Nat}
 (hA : ∀b,A b→b<w.heap.size) (Lk : ∀b,s.ok g ay w b→A b) (Ll : ∀r k I b m,s.ao r k=some I→b8 I.cp=true→ay r k=some (b,m)→A b)
 (ac4:(∀b,A b→s.ok g ay w b)∨(∀x,q x→b7 x)) (bJ:sB q kL) (EV:mz s (ld cm.a1) cd b8)
 (cW:px s (ld cm.a1) b8 lS (e2 T).aW) (pn : ∀r k I,(∃j i,ld cm.a1 j i=some (r,k))→s.ao r k=some I→I.cp = .live) (hex : ∀r k I,Src.ao r k I∈cm.a1→s.a5 r k)
 {pZ:List aB} {af:List Prop} (mS:lv (nv s.aW cd (ld cm.a1) b8) cm.ac args=some (pZ,af)) (qN : ∀p∈af,p)
 {eJ:aB} {fE:List Prop} (yh:nv (fun j=>cm.fy[j]?) (r7 l) (jh 0 l) kL cm.ik cm.r=some (eJ,fE)) (Lq : ∀p∈fE,p)
 {u:List (Nat×List ae)} {eS:List Prop} (BB:kS (fun j=>cm.fy[j]?) (r7 l) (jh 0 l) s.aW l cm.kn cm.fy=some (u,eS)) (ac5 : ∀p∈eS,p)
 (x9:Con P f pZ T cm.r cm.fy) (ac6:q cm.r) (ac7 : ∀j i I,(e2 cm.fy).ao j i=some I→ ∀e∈I.es,∀x∈e,q x)
 {vs:List Value} (aT:vs.length=args.length) (hargs : ∀(j:Nat) x v,args[j]? = some x→vs[j]? = some v→Rel w (s.ok g ay w) s.a5 (s.bd ay) x v) :
 Dw P f∧Calls P f vs.toArray w fun e bN=> ∃v bM,e = .returned v∧cL g (s.hQ u) bM a bN∧Rel bN ((s.hQ u).ok g bM bN) (s.hQ u).a5 ((s.hQ u).bd bM) eJ v:=by
 have Lr:A9 l:=by
  subst nj
  split
  ·exact rz
  ·refine List.pairwise_append.2 ⟨rz,List.pairwise_singleton _ _,fun b aS c bf r k fL=> ?_⟩
   rw [List.mem_singleton] at bf;subst bf
   have h1:r=aV:=fL.2
   subst h1
   cases b with
   | row r0=>exact u5 _ aS (Eq.symm fL.1)
   | ao r0 i4 lo=>exact u5 _ aS (Eq.symm fL.1.1)
 have RD : ∀(j:Nat) b,cm.a1[j]? = some b→l[j]? = some b:=by
  intro j b aF
  subst nj
  split
  ·exact aF
  ·rw [List.getElem?_append_left (fT aF)];exact aF
 have RE : ∀(j:Nat) b,l[j]? = some b→cm.a1[j]? = some b∨b = .row aV:=by
  intro j b aF
  subst nj
  split at aF
  ·exact .inl aF
  ·rw [List.getElem?_append] at aF
   split at aF
   ·exact .inl aF
   ·right
    have:=fT aF
    simp at this
    rw [show j-cm.a1.length=0 by omega] at aF
    simpa using aF.symm
 refine ⟨x9.1,?_⟩
 obtain ⟨fW,q1,a2,bO,Md,b4,cJ,d9,fM⟩:=enter h.tohZ A hA Lk Ll cW pn
 obtain ⟨e1,aD,bS⟩:=Du _ _ _ _ _ mS
 have:=x9.2 fW (jH ay (ld cm.a1)) w vs.toArray q1 bO Md b4 d9 (by simp [aT,e1]) (by
  intro j cG v dC bh
  have aF:j<args.length:=by have:=fT dC;omega
  have U:=List.getElem?_eq_getElem aF
  obtain ⟨c,b6,f1,f2,f3⟩:=bS j _ cG U dC
  have Bk:vs[j]? = some v:=by simpa using bh
  exact fM (Ae h.tohZ EV (tn _) f2 (fun p ak=>qN p (f3 p ak)) trivial (hargs j _ v U Bk)) (hargs j _ v U Bk))
 refine this.mono fun e bN Bi=> ?_
 obtain ⟨v,kO,rfl,Er,bh⟩:=Bi
 have Sz:mz (e2 cm.fy) (jh 0 l) (r7 l) kL:=by
  refine ⟨fun j r aF k=> ?_,fun _ _ _ _ _ bF=>by simp [kL] at bF⟩
  unfold r7 at aF
  split at aF
  ·rename_i r0 lc
   simp at aF;subst aF
   have:=Av (n:=0) (r:=r0) (k:=k) Lr lc rfl
   simpa [Src.my] using this
  ·simp at aF
 have AG : ∀j i r k,ld cm.a1 j i=some (r,k)→jh 0 l r k=some (j,i):=fun j i r k hm=>by
  obtain ⟨b,ij,hf,rfl⟩:=sZ.1 hm
  have:=Av (n:=0) Lr (RD j b ij) hf
  simpa using this
 have D6 : ∀r k j i,jh 0 l r k=some (j,i)→ld cm.a1 j i=some (r,k)∨ ¬s.a5 r k:=fun r k j i hm=>by
  obtain ⟨b,-,hf,qh,Mc⟩:=uA hm
  rcases RE j b (by simpa using hf) with e|e
  ·exact .inl (sZ.2 ⟨b,e,qh,Mc⟩)
  ·subst e
   have:r=aV:=qh
   subst this
   exact .inr (w6 eU k)
 obtain ⟨ln,nM,gN,ad9,aea⟩:=JC (s1:=e2 cm.fy) Er Sz bJ ac7 l cm.kn cm.fy u eS 0 s Lr (fun j row aF=>by simpa [e2] using aF)
  (fun r k j i hm a8=>by
    rcases D6 r k j i hm with e|e
    ·exact (Er.stay j i (by rw [Md];exact cW.a5 _ _ _ _ e a8)).1
    ·exact absurd a8 e)
  (fun r k I hm=>by
    obtain ⟨j,aF⟩:=List.getElem?_of_mem hm
    rcases RE j _ aF with e|e
    ·exact hex r k I (List.mem_of_getElem? e)
    ·cases e) BB ac5
 obtain ⟨lm,f1,f2⟩:=leave (q0:=lS) (q:=q) h q1 (by rw [a2];exact ac4) Md b4 cJ pn cW Er AG D6 (fun r k eJ d8 p=>aaN) (s2:=s.hQ u) nM gN ad9 aea
  (Ae Er Sz bJ yh Lq ac6 bh) bh
 exact ⟨v,lm,rfl,f1,f2⟩
theorem X7 (h:cL g s ay a w){aV:Nat}(eU:s.aW aV=none){f:FuncId}{args:List aB}{cm:B4}{bC:h2}(aw:xX P s.aW aV f args cm=some bC)(cz:∀p∈bC.fu,p)
 {vs:List Value} (aT:vs.length=args.length) (hargs : ∀(j:Nat) x v,args[j]? = some x→vs[j]? = some v→Rel w (s.ok g ay w) s.a5 (s.bd ay) x v) :
 Dw P f∧Calls P f vs.toArray w fun e bN=> ∃v bM,e = .returned v∧cL g (s.hQ bC.fJ) bM a bN∧Rel bN ((s.hQ bC.fJ).ok g bM bN) (s.hQ bC.fJ).a5 ((s.hQ bC.fJ).bd bM) bC.val v:=by
 unfold xX at aw
 simp only at aw
 generalize nj:(if cm.fy.length=cm.a1.length then cm.a1 else cm.a1++[.row aV])=l at aw
 split at aw
 ·simp at aw
 ·rename_i lo sm
  split at aw
  ·simp at aw
  ·rename_i acp
   have u5 : ∀a∈cm.a1,a.r≠aV:=fun b aS e=>acp (List.any_eq_true.2 ⟨b,aS,by simpa using e⟩)
   split at aw
   ·
    split at aw
    ·rename_i tp
     split at aw
     ·rename_i pZ af eJ fE u eS mS yh BB
      simp only [Option.some.injEq] at aw
      subst aw
      have x9:Con P f pZ [] cm.r cm.fy:=cz _ (by simp)
      have BC:b7 cm.r:=cz _ (by simp)
      have acq:oO cm.fy:=by
       by_cases e:cm.fy=[]
       ·rw [e];intro row dx;simp at dx
       ·exact cz _ (by
         have:cm.fy.isEmpty=false:=by simpa [List.isEmpty_iff] using e
         simp [this])
      refine Pg (b8:=ky) (A:=fun b=>b<w.heap.size) (q:=b7) (T:=[]) (cd:=fun _=>none) h eU nj.symm (by rw [tp];exact List.Pairwise.nil) u5 (fun _ aS=>aS) (fun b aS=>aS.1)
       (fun r k I b m ap _ ak=>At h.tohZ ap ak) (.inr fun _ U=>U) ac0 ?_ ?_ ?_ ?_ (by rw [tp];exact mS) (fun p ak=>cz p (by simp [ak])) yh (fun p ak=>cz p (by simp [ak])) BB (fun p ak=>cz p (by simp [ak])) x9 BC ?_ aT hargs
      ·refine ⟨fun _ _ e=>by simp at e,fun r _ k I _ _ j i e=> ?_⟩
       rw [tp] at e;simp [ld] at e
      ·refine ⟨fun j i hK eF p e=> ?_,fun j i b6 e=> ?_,fun j i r k e=> ?_⟩
       ·rw [tp] at e;simp [ld] at e
       ·simp [e2,dh] at e
       ·rw [tp] at e;simp [ld] at e
      ·rintro r k I ⟨j,i,e⟩
       rw [tp] at e;simp [ld] at e
      ·rintro r k I e
       rw [tp] at e;simp at e
      ·intro j i I ap e he x U
       have ap:dh (cm.fy[j]?) i=some I:=ap
       cases ar:cm.fy[j]? with
       | none=>rw [ar] at ap;simp [dh] at ap
       | some row =>
        rw [ar,kj] at ap
        cases a8:row[i]? with
        | none=>rw [a8] at ap;simp at ap
        | some p =>
         rw [a8,Option.bind_some] at ap
         split at ap
         ·simp at ap
         ·simp at ap;subst ap
          exact acq row (List.mem_of_getElem? ar) p (List.mem_of_getElem? a8) e he x U
     ·simp at aw
    ·simp at aw
   ·split at aw
    ·rename_i pZ af T aU eJ fE u eS mS yg yh BB
     simp only [Option.some.injEq] at aw
     subst aw
     have rz:=Pf sm fun p ak=>cz p (by simp [ak])
     have x9:Con P f pZ T cm.r cm.fy:=cz _ (by simp)
     have aq : ∀r j,oJ 0 cm.a1 r=some j→ ∀k,ld cm.a1 j k=some (r,k):=fun r j aF k=>by
      obtain ⟨-,o⟩:=JJ aF
      simp only [ld,show cm.a1[j]? = some (.row r) by simpa using o]
     have Ln : ∀(l:List Src) (dt:List iz) (T:List (List ae)) (ao:List Prop),l1 s.aW (oJ 0 cm.a1) (ld cm.a1) l dt=some (T,ao)→(∀p∈ao,p) →
      ∀b∈l,∀r k I,b.has r k→s.ao r k=some I→I.cp≠ .iO:=by
      intro l
      induction l with
      | nil=>intro _ _ _ _ _ b aS;simp at aS
      | cons b l ih =>
       intro dt T ao h0 bo c bf r k I fL ap
       cases dt with
       | nil=>cases b<;>simp [l1] at h0
       | cons di dt =>
        cases b with
        | row r0 =>
         simp only [l1] at h0
         split at h0
         ·rename_i row dx
          split at h0
          ·rename_i al p1 mY hi h1 o
           simp only [Option.some.injEq,Prod.mk.injEq] at h0
           obtain ⟨rfl,rfl⟩:=h0
           rcases List.mem_cons.1 bf with rfl|bf
           ·have e:r=r0:=fL
            subst e
            have dO:dh (some row) k=some I:=by unfold S.ao at ap;rw [dx] at ap;exact ap
            have:=Om h1 (fun p ak=>bo p (by simp [ak])) k I dO
            rw [this];simp
           ·exact ih dt mY hi o (fun p ak=>bo p (by simp [ak])) c bf r k I fL ap
          ·simp at h0
         ·simp at h0
        | ao r0 i4 lo =>
         simp only [l1] at h0
         split at h0
         ·rename_i row dx
          split at h0
          ·rename_i al p1 mY hi h1 o
           simp only [Option.some.injEq,Prod.mk.injEq] at h0
           obtain ⟨rfl,rfl⟩:=h0
           rcases List.mem_cons.1 bf with rfl|bf
           ·obtain ⟨rfl,rfl⟩:=fL
            have qN:dh (some row) k=some lo:=bo _ (by simp)
            have dO:dh (some row) k=some I:=by unfold S.ao at ap;rw [dx] at ap;exact ap
            rw [qN] at dO;simp at dO;subst dO
            have Lp:lo.cp≠ .gone:=by
             rw [kj] at qN
             cases a8:row[k]? with
             | none=>rw [a8] at qN;simp at qN
             | some p =>
              rw [a8,Option.bind_some] at qN;split at qN
              ·simp at qN
              ·rename_i e;simp at qN;subst qN;exact e
            have:=Om h1 (fun p ak=>bo p (by simp [ak])) 0 lo (by rw [lY];simp [Lp])
            rw [this];simp
           ·exact ih dt mY hi o (fun p ak=>bo p (by simp [ak])) c bf r k I fL ap
          ·simp at h0
         ·simp at h0
     have EV:mz s (ld cm.a1) (oJ 0 cm.a1) r6:=by
      refine ⟨aq,fun r ar k I ap bF j i hm=> ?_⟩
      obtain ⟨b,ij,hf,-⟩:=sZ.1 hm
      exact Ln cm.a1 cm.dt T aU yg (fun p ak=>cz p (by simp [ak])) b (List.mem_of_getElem? ij) r k I hf ap (by simpa [r6] using bF)
     obtain ⟨t1,t2⟩:=JK h.tohZ EV cm.a1 cm.dt T aU yg (fun p ak=>cz p (by simp [ak]))
     have lR : ∀j b,cm.a1[j]? = some b→ ∃dW,T[j]? = some dW:=fun j b aF=>by
      have:j<T.length:=by have:=fT aF;omega
      exact ⟨_,List.getElem?_eq_getElem this⟩
     refine Pg (b8:=r6) (A:=s.ok g ay w) (q:=lS) (T:=T) h eU nj.symm rz u5 (fun b aS=>aS.1) (fun b aS=>aS)
      (fun r k I b m ap a8 ak=>abj h.tohZ ap (by simpa [r6] using a8) ak) (.inl fun _ aS=>aS) (tn _) EV ?_ ?_ ?_ mS (fun p ak=>cz p (by simp [ak])) yh (fun p ak=>cz p (by simp [ak])) BB
      (fun p ak=>cz p (by simp [ak])) x9 trivial (fun _ _ _ _ _ _ _ _=>trivial) aT hargs
     ·refine ⟨fun j i hK eF p e eN=> ?_,fun j i b6 dO=> ?_,fun j i r k e hu=> ?_⟩
      ·obtain ⟨r,k⟩:=p
       obtain ⟨b,ij,hf,rfl⟩:=sZ.1 e
       obtain ⟨ke,ac8,ac9,rfl⟩:=sZ.1 eN
       have e1:=Av (n:=0) rz ij hf
       have aD:=Av (n:=0) rz ac8 ac9
       rw [e1] at aD
       simpa using aD
      ·have aF:j<T.length:=by
        rcases Nat.lt_or_ge j T.length with e|e
        ·exact e
        ·have:(e2 T).aW j=none:=List.getElem?_eq_none e
         rw [this] at dO;simp [dh] at dO
       have RF:T[j]? = some T[j]:=List.getElem?_eq_getElem aF
       have RG:cm.a1[j]? = some (cm.a1[j]'(by omega)):=List.getElem?_eq_getElem (by omega)
       have pw:dh (some T[j]) i=some b6:=by have:(e2 T).aW j=some T[j]:=RF;rw [this] at dO;exact dO
       obtain ⟨r,k,I,n1,kP,aeb,aec⟩:=(t2 j _ _ RF RG).2.2.2 i b6 pw
       exact ⟨r,k,I,sZ.2 ⟨_,RG,n1,kP⟩,aeb,aec⟩
      ·obtain ⟨b,ij,hf,rfl⟩:=sZ.1 e
       obtain ⟨dW,rn⟩:=lR j b ij
       have:=(t2 j dW b rn ij).2.1 r k hf hu
       show b.my k<((T[j]?).getD []).length
       rw [rn];exact this
     ·rintro r k I ⟨j,i,e⟩ ap
      obtain ⟨b,ij,hf,-⟩:=sZ.1 e
      obtain ⟨dW,rn⟩:=lR j b ij
      exact (t2 j dW b rn ij).1 r k I hf ap
     ·intro r k I hm
      obtain ⟨j,aF⟩:=List.getElem?_of_mem hm
      obtain ⟨dW,rn⟩:=lR j _ aF
      exact Dt ((t2 j dW _ rn aF).2.2.1 r k I rfl)
    ·simp at aw
end
end Go.VL
