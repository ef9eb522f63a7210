/- Lemmas, plain functions of the program, and what they answer. No condition. -/
import Derived.Below
import Derived.Eval
import Derived.KernelRfl
import Derived.Laws.Append
import Derived.Laws.AppendOwn
import Derived.Laws.BytesString
import Derived.Laws.Cells
import Derived.Laws.CopyRow
import Derived.Laws.Entries
import Derived.Laws.MakeOwn
import Derived.Laws.OwnMore
import Derived.Laws.Rows
import Derived.Laws.Slices
import Derived.Laws.Tables
import Derived.Orders
namespace Go.VL
set_option linter.unusedVariables false
set_option linter.unusedSimpArgs false
open Go
inductive aB where
 | dead
 | b (x:Bool)
 | n (k:IntKind) (x:Int)
 | s (x:ByteArray)
 | h2
 | eT
 | iL
 | ref (r k i off:Nat)
 | bm (r k bT len:Nat)
 | iM (r c sz:Nat) (h:Option (Nat×Nat))
 | isl (sz:Nat) (es:List (List aB))
 | dY (sz:Nat) (es:List (List aB)) (i off:Nat)
 | j1 (sz:Nat) (c:Option (List aB))
 | agg (c:List aB)
 | dZ (vs:List aB)
 | fn (f:Nat) (cap:List aB)
 deriving Inhabited
inductive f9 where
 | live|iT|gone
 deriving DecidableEq,Inhabited
structure ab where
 sz:Nat
 es:List (List aB)
 cm:f9
 deriving Inhabited
structure S where
 E:Nat→aB
 aW:Nat→Option (List ab)
abbrev j9 (v:Value):Bool:=v.oneCell'
abbrev fm:=Nat→Nat→Option (Nat×Nat)
abbrev iW:=Nat→Nat→Option (Nat×Option (Nat×Nat))
abbrev i7:=Nat→Nat→Prop
inductive Pure:aB→Prop
 | dead:Pure .dead
 | b (x:Bool):Pure (.b x)
 | n (k:IntKind) (x:Int):Pure (.n k x)
 | s (x:ByteArray):Pure (.s x)
 | h2:Pure .h2
 | eT:Pure .eT
 | iL:Pure .iL
 | isl {sz:Nat} {es:List (List aB)} (h : ∀e∈es,∀x∈e,Pure x):Pure (.isl sz es)
 | dY {sz i off:Nat} {es:List (List aB)} (h : ∀e∈es,∀x∈e,Pure x):Pure (.dY sz es i off)
 | o3 (sz:Nat):Pure (.j1 sz none)
 | oE {sz:Nat} {c:List aB} (h : ∀x∈c,Pure x):Pure (.j1 sz (some c))
 | agg {c:List aB} (h : ∀x∈c,Pure x):Pure (.agg c)
 | dZ {c:List aB} (h : ∀x∈c,Pure x):Pure (.dZ c)
 | fn {f:Nat} {c:List aB} (h : ∀x∈c,Pure x):Pure (.fn f c)
def jF (es:List (List aB)):Prop:= ∀e∈es,∀x∈e,Pure x
inductive Rel (w:World) (ok:Nat→Prop) (a4:i7) (bg:iW):aB→Value→Prop
 | dead (v:Value):Rel w ok a4 bg .dead v
 | b (x:Bool):Rel w ok a4 bg (.b x) (.bool x)
 | n (k:IntKind) (x:Int):Rel w ok a4 bg (.n k x) (.int k x)
 | s (x:ByteArray):Rel w ok a4 bg (.s x) (.string x)
 | h2:Rel w ok a4 bg .h2 (.pointer none)
 | eT:Rel w ok a4 bg .eT (.slice none 0 0)
 | iL (a:Addr) (c:Nat):Rel w ok a4 bg .iL (.slice (some a) 0 c)
 | pg {r k i off:Nat} (a:Option Addr) (hu:a4 r k) (h : ∀sz p,bg r k≠some (sz,some p)):Rel w ok a4 bg (.ref r k i off) (.pointer a)
 | ref {r k i off sz d7 m:Nat} (hu:a4 r k) (h:bg r k=some (sz,some (d7,m))):Rel w ok a4 bg (.ref r k i off) (.pointer (some ⟨d7,i*sz+off,none⟩))
 | m5 {r k bT len:Nat} (a:Option Addr) (l c:Nat) (hu:a4 r k) (h:bg r k=none):Rel w ok a4 bg (.bm r k bT len) (.slice a l c)
 | nn {r k sz:Nat} (hu:a4 r k) (h:bg r k=some (sz,none)):Rel w ok a4 bg (.bm r k 0 0) (.slice none 0 0)
 | bm {r k bT len sz d7 m c:Nat} {a:Option Addr} (hu:a4 r k) (h:bg r k=some (sz,some (d7,m))) (aV:len≤c) (bf:c<9223372036854775808)
  (hm:(bT+c)*sz=m∧(c=0∨a=some ⟨d7,bT*sz,none⟩)):Rel w ok a4 bg (.bm r k bT len) (.slice a len c)
 | mI {r c sz:Nat} {v:Value} (h:Rel w ok a4 bg (.isl sz []) v):Rel w ok a4 bg (.iM r c sz none) v
 | nu {r c sz k n:Nat} {v:Value} (h:Rel w ok a4 bg (.bm r (k+c) 0 n) v):Rel w ok a4 bg (.iM r c sz (some (k,n))) v
 | kb (sz:Nat) (a:Option Addr) (c:Nat) (h:a=none→c=0):Rel w ok a4 bg (.isl sz []) (.slice a 0 c)
 | isl {sz:Nat} {es:List (List aB)} {d7 off c:Nat} (cs:Nat→Value) (aS:ok d7) (ai:jF es) (aV : ∀e∈es,e.length=sz) (bf:es.length≤c)
  (hw : ∀(j:Nat) x,es.flatten[j]? = some x→w.cell? ⟨d7,off+j,none⟩=some (cs j)) (jY : ∀(j:Nat) x,es.flatten[j]? = some x→j9 (cs j)=true)
  (ar : ∀(j:Nat) x,es.flatten[j]? = some x→Rel w ok a4 bg x (cs j)):Rel w ok a4 bg (.isl sz es) (.slice (some ⟨d7,off,none⟩) es.length c)
 | dY {sz:Nat} {es:List (List aB)} {d7 I i off:Nat} (cs:Nat→Value) (aS:ok d7) (ai:jF es) (aV : ∀e∈es,e.length=sz)
  (hw : ∀(j:Nat) x,es.flatten[j]? = some x→w.cell? ⟨d7,I+j,none⟩=some (cs j)) (jY : ∀(j:Nat) x,es.flatten[j]? = some x→j9 (cs j)=true)
  (ar : ∀(j:Nat) x,es.flatten[j]? = some x→Rel w ok a4 bg x (cs j)):Rel w ok a4 bg (.dY sz es i off) (.pointer (some ⟨d7,I+(i*sz+off),none⟩))
 | o3 (sz:Nat):Rel w ok a4 bg (.j1 sz none) (.pointer none)
 | oE {sz:Nat} {c:List aB} {v:Value} (h:Rel w ok a4 bg (.dY sz [c] 0 0) v):Rel w ok a4 bg (.j1 sz (some c)) v
 | agg {c:List aB} (vs:List Value) (aV:vs.length=c.length) (jY : ∀(j:Nat) v,vs[j]? = some v→j9 v=true)
  (ar : ∀(j:Nat) x v,c[j]? = some x→vs[j]? = some v→Rel w ok a4 bg x v):Rel w ok a4 bg (.agg c) (.agg vs.toArray)
 | dZ {c:List aB} (vs:List Value) (aV:vs.length=c.length)
  (ar : ∀(j:Nat) x v,c[j]? = some x→vs[j]? = some v→Rel w ok a4 bg x v):Rel w ok a4 bg (.dZ c) (.tuple vs.toArray)
 | fn {f:Nat} {c:List aB} (vs:List Value) (aV:vs.length=c.length)
  (ar : ∀(j:Nat) x v,c[j]? = some x→vs[j]? = some v→Rel w ok a4 bg x v):Rel w ok a4 bg (.fn f c) (.func (.func f) #[] vs.toArray)
theorem Rel.mono {w bL:World}{ok kM:Nat→Prop}{a4 mN:i7}{bg l9:iW}{a:aB}{v:Value}(h:Rel w ok a4 bg a v)
 (mO : ∀b,ok b→kM b) (hw : ∀b,ok b→bL.heap[b]? = w.heap[b]?)
 (jl : ∀r k,a4 r k→mN r k) (lb : ∀r k,a4 r k→l9 r k=bg r k∨l9 r k=none):Rel bL kM mN l9 a v:=by
 have jY : ∀b I,ok b→bL.cell? ⟨b,I,none⟩=w.cell? ⟨b,I,none⟩:=fun b I aS=>World.cell?_of_block (hw b aS)
 induction h with
 | dead v=>exact .dead v
 | b x=>exact .b x
 | n k x=>exact .n k x
 | s x=>exact .s x
 | h2=>exact .h2
 | eT=>exact .eT
 | iL a c=>exact .iL a c
 | @pg r k i off a hu h =>
  refine .pg a (jl r k hu) fun sz p=> ?_
  rcases lb r k hu with e|e<;>rw [e]
  ·exact h sz p
  ·simp
 | @ref r k i off sz d7 m hu h =>
  rcases lb r k hu with e|e
  ·exact .ref (jl r k hu) (e.trans h)
  ·exact .pg _ (jl r k hu) fun sz p=>by rw [e];simp
 | @m5 r k bT len a l c hu h=>exact .m5 a l c (jl r k hu) (by rcases lb r k hu with e|e<;>rw [e];exact h)
 | @nn r k sz hu h =>
  rcases lb r k hu with e|e
  ·exact .nn (jl r k hu) (e.trans h)
  ·exact .m5 _ _ _ (jl r k hu) e
 | @bm r k bT len sz d7 m c a hu h aV bf hm =>
  rcases lb r k hu with e|e
  ·exact .bm (jl r k hu) (e.trans h) aV bf hm
  ·exact .m5 _ _ _ (jl r k hu) e
 | mI h ih=>exact .mI ih
 | nu h ih=>exact .nu ih
 | kb sz a c h=>exact .kb sz a c h
 | isl cs aS ai aV bf Bk iy ar ih=>exact .isl cs (mO _ aS) ai aV bf (fun j x R=>(jY _ _ aS).trans (Bk j x R)) iy ih
 | dY cs aS ai aV Bk iy ar ih=>exact .dY cs (mO _ aS) ai aV (fun j x R=>(jY _ _ aS).trans (Bk j x R)) iy ih
 | o3 sz=>exact .o3 sz
 | oE h ih=>exact .oE ih
 | agg vs aV iy ar ih=>exact .agg vs aV iy ih
 | dZ vs aV ar ih=>exact .dZ vs aV ih
 | fn vs aV ar ih=>exact .fn vs aV ih
structure G where
 mv:World
 A:Nat→Prop
 o8:Nat→Prop
 N:Nat
 m:Nat
 oK:i7
 qK:iW
def S.a4 (s:S)(r k:Nat):Prop:=k<((s.aW r).getD []).length
def db (row:Option (List ab))(k:Nat):Option ab :=
 match row with
 | some l=>match l[k]? with
  | some I=>if I.cm = .gone then none else some I
  | none=>none
 | none=>none
def S.ak (s:S)(r k:Nat):Option ab:=db (s.aW r) k
def S.bg (s:S)(ay:fm):iW:=fun r k=>(s.ak r k).map fun I=>(I.sz,ay r k)
def S.lJ (s:S)(ay:fm)(b:Nat):Prop:= ∃r k I m,s.ak r k=some I∧I.cm = .live∧ay r k=some (b,m)
def S.ok (s:S)(g:G)(ay:fm)(w:World)(b:Nat):Prop :=
 b<w.heap.size∧(g.A b∨g.mv.heap.size≤b∨g.o8 b)∧ ¬s.lJ ay b
def jg (w:World)(ok:Nat→Prop)(a4:i7)(bg:iW)(I:ab):Option (Nat×Nat)→Prop
 | none=>I.es=[]
 | some (d7,m)=> ∃c eC,w.heap[d7]? = some (.cells c eC (0,0))∧c.size=m∧(∀e∈I.es,e.length=I.sz) ∧
  ∀(j:Nat) x,I.es.flatten[j]? = some x→ ∃v,c[j]? = some v∧j9 v=true∧Rel w ok a4 bg x v
structure AY (g:G) (w:World):Prop where
 os:w.os=g.mv.os
 tape:w.tape=g.mv.tape
 output:w.output=g.mv.output
 size:g.mv.heap.size≤w.heap.size
 block : ∀b,b<g.mv.heap.size→ ¬g.o8 b→w.heap[b]? = g.mv.heap[b]?
structure h3 (g:G) (s:S) (ay:fm) (w:World):Prop where
 obj : ∀r k I,s.ak r k=some I→jg w (s.ok g ay w) s.a4 (s.bg ay) I (ay r k)
 inj : ∀r k I eD ea b6 b m cy,s.ak r k=some I→s.ak eD ea=some b6→ay r k=some (b,m)→ay eD ea=some (b,cy)→r=eD∧k=ea
 own : ∀r k I b m,s.ak r k=some I→ay r k=some (b,m)→g.mv.heap.size≤b∨g.o8 b
 gQ:AY g w
 mlt : ∀b,g.o8 b→b<g.mv.heap.size
 na : ∀b,g.A b→b<g.mv.heap.size
 stay : ∀j k,g.oK j k→s.a4 j k∧(s.bg ay j k=g.qK j k∨s.bg ay j k=none)
 low : ∀j k,g.oK j k→j<g.m
structure cJ (g:G) (s:S) (ay:fm) (a:Act) (w:World):Prop extends h3 g s ay w where
 env : ∀t,Rel w (s.ok g ay w) s.a4 (s.bg ay) (s.E t) (a.tmps.getD t undef)
 defers:a.defers=[]
 jI:g.N≤a.tmps.size
def ofValue:Value→aB
 | .bool x=> .b x
 | .int k x=> .n k x
 | .string x=> .s x
 | .pointer none=> .h2
 | .slice none 0 0=> .eT
 | _=> .dead
theorem N6 {w:World}{ok:Nat→Prop}{a4:i7}{bg:iW}(v:Value):Rel w ok a4 bg (ofValue v) v:=by
 unfold ofValue
 split<;>constructor
def fc (E:Nat→aB):Operand→aB
 | .tmp t=>E t
 | .const v=>ofValue v
 | .global _=> .dead
 | .func f=> .fn f []
theorem cJ.eval {g:G}{s:S}{ay:fm}{a:Act}{w:World}(h:cJ g s ay a w)(x:Operand):
 Rel w (s.ok g ay w) s.a4 (s.bg ay) (fc s.E x) (a.eval x):=by
 cases x with
 | tmp t=>exact h.env t
 | const v=>exact N6 v
 | global g=>exact .dead _
 | func f=>exact .fn [] rfl (fun j x v R=>by simp at R)
def aB.cells:aB→List aB
 | .agg c=>c
 | x=>[x]
def aB.one:aB→Bool
 | .dead | .agg _ | .dZ _=>false
 | _=>true
def aB.xr:aB→Bool
 | .dead | .dZ _=>false
 | _=>true
theorem aB.N7 {v:aB}(h:v.xr=true):v.one=true∨ ∃c,v = .agg c:=by
 cases v<;>first|exact .inl rfl|exact .inr ⟨_,rfl⟩|simp [aB.xr] at h
theorem Rel.j9 {w:World}{ok:Nat→Prop}{a4:i7}{bg:iW}{a:aB}{v:Value}(h:Rel w ok a4 bg a v)(bE:a.one=true):j9 v=true:=by
 cases h with
 | oE h=>cases h;rfl
 | mI h=>cases h<;>rfl
 | nu h=>cases h<;>rfl
 | _=>first|rfl|simp [aB.one] at bE
theorem Rel.cellsOf {w:World}{ok:Nat→Prop}{a4:i7}{bg:iW}{a:aB}{v:Value}(h:Rel w ok a4 bg a v)(bE:a.one=true∨ ∃c,a = .agg c):
 ∃vs:List Value,v.cells=vs.toArray∧vs.length=a.cells.length∧(∀(j:Nat) x,vs[j]? = some x→VL.j9 x=true) ∧
  ∀(j:Nat) x u,a.cells[j]? = some x→vs[j]? = some u→Rel w ok a4 bg x u:=by
 rcases bE with bE|⟨c,rfl⟩
 ·have bf:=h.j9 bE
  refine ⟨[v],?_,?_,?_,?_⟩
  ·cases v<;>first|rfl|simp [VL.j9,Value.oneCell'] at bf
  ·cases a<;>first|rfl|simp [aB.one] at bE
  ·intro j x R
   cases j with
   | zero=>simp at R;subst R;exact bf
   | succ j=>simp at R
  ·intro j x u R hu
   have e:a.cells=[a]:=by cases a<;>first|rfl|simp [aB.one] at bE
   rw [e] at R
   cases j with
   | zero=>simp at R hu;subst R;subst hu;exact h
   | succ j=>simp at R
 ·cases h with
  | agg vs aV jY ar=>exact ⟨vs,rfl,aV,jY,ar⟩
end Go.VL
namespace Go.VL
set_option linter.unusedVariables false
set_option linter.unusedSimpArgs false
open Go
def S.put (s:S)(dst:Option Tmp)(v:aB):S :=
 match dst with
 | some t=>{s with E:=fun u=>if u=t then v else s.E u}
 | none=>s
def S.setRow (s:S)(r:Nat)(row:List ab):S:={s with aW:=fun q=>if q=r then some row else s.aW q}
@[simp] theorem S.sY (s:S) (dst:Option Tmp) (v:aB):(s.put dst v).aW=s.aW:=by cases dst<;>rfl
@[simp] theorem S.aeS (s:S) (r:Nat) (row:List ab):(s.setRow r row).E=s.E:=rfl
theorem Ac {s bO:S}(h:bO.aW=s.aW):bO.ak=s.ak:=by funext r k;simp [S.ak,h]
theorem xt {s bO:S}(h:bO.aW=s.aW):bO.a4=s.a4:=by funext r k;simp [S.a4,h]
theorem xu {s bO:S}(h:bO.aW=s.aW)(ay:fm):bO.bg ay=s.bg ay:=by unfold S.bg;rw [Ac h]
theorem XF {s bO:S}(h:bO.aW=s.aW)(ay:fm):bO.lJ ay=s.lJ ay:=by unfold S.lJ;rw [Ac h]
theorem Ad {s bO:S}(h:bO.aW=s.aW)(g:G)(ay:fm)(w:World):bO.ok g ay w=s.ok g ay w:=by
 funext b;unfold S.ok;rw [XF h]
theorem h3.congr {g:G}{s bO:S}{ay:fm}{w:World}(h:h3 g s ay w)(e:bO.aW=s.aW):h3 g bO ay w where
 obj:=by rw [Ac e,xt e,xu e,Ad e];exact h.obj
 inj:=by rw [Ac e];exact h.inj
 own:=by rw [Ac e];exact h.own
 gQ:=h.gQ
 mlt:=h.mlt
 na:=h.na
 stay:=by rw [xt e,xu e];exact h.stay
 low:=h.low
theorem ZI (a:Act)(dst:Option Tmp)(v:Value)(t:Nat)(eP:∀d,dst=some d→d<a.tmps.size):
 (a.put dst v).tmps.getD t undef=if dst=some t then v else a.tmps.getD t undef:=by
 cases dst with
 | none=>simp [Act.put]
 | some d =>
  have:=eP d rfl
  simp only [Act.put,Array.getD_eq_getD_getElem?,Array.getElem?_setIfInBounds,Option.some.injEq]
  by_cases e:d=t
  ·subst e;simp [this]
  ·simp [e]
theorem cJ.put {g:G}{s:S}{ay:fm}{a:Act}{w:World}(h:cJ g s ay a w)(dst:Option Tmp){x:aB}{v:Value}
 (bG : ∀d,dst=some d→d<g.N) (ar:Rel w (s.ok g ay w) s.a4 (s.bg ay) x v):cJ g (s.put dst x) ay (a.put dst v) w where
 toh3:=h.toh3.congr (S.sY s dst x)
 env:=by
  have e:=S.sY s dst x
  rw [Ad e,xt e,xu e]
  intro t
  rw [ZI a dst v t fun d p5=>Nat.lt_of_lt_of_le (bG d p5) h.jI]
  cases dst with
  | none=>simpa [S.put] using h.env t
  | some d =>
   simp only [S.put,Option.some.injEq]
   by_cases e:t=d
   ·subst e;simpa using ar
   ·rw [if_neg e,if_neg (Ne.symm e)];exact h.env t
 defers:=by cases dst<;>exact h.defers
 jI:=by cases dst<;>simpa [Act.put] using h.jI
structure Step (g:G) (s:S) (ay:fm) (w:World) (bO:S) (bK:fm) (bL:World):Prop where
 a4 : ∀r k,s.a4 r k→bO.a4 r k
 bg : ∀r k,s.a4 r k→bO.bg bK r k=s.bg ay r k∨bO.bg bK r k=none
 live : ∀b,bO.lJ bK b→s.lJ ay b∨w.heap.size≤b
 heap : ∀b,b<w.heap.size→ ¬s.lJ ay b→bL.heap[b]? = w.heap[b]?
 size:w.heap.size≤bL.heap.size
theorem Step.ok {g:G}{s bO:S}{ay bK:fm}{w bL:World}(h:Step g s ay w bO bK bL)(b:Nat)(aS:s.ok g ay w b):bO.ok g bK bL b :=
 ⟨Nat.lt_of_lt_of_le aS.1 h.size,aS.2.1,fun aV=>by
  rcases h.live b aV with h1|h1
  ·exact aS.2.2 h1
  ·exact absurd aS.1 (by omega)⟩
theorem Step.rel {g:G}{s bO:S}{ay bK:fm}{w bL:World}(h:Step g s ay w bO bK bL){x:aB}{v:Value}
 (ar:Rel w (s.ok g ay w) s.a4 (s.bg ay) x v):Rel bL (bO.ok g bK bL) bO.a4 (bO.bg bK) x v :=
 ar.mono h.ok (fun b aS=>h.heap b aS.1 aS.2.2) h.a4 h.bg
theorem Step.obj {g:G}{s bO:S}{ay bK:fm}{w bL:World}(h:Step g s ay w bO bK bL){I:ab}{p:Option (Nat×Nat)}
 (ai : ∀b m,p=some (b,m)→bL.heap[b]? = w.heap[b]?) (ao:jg w (s.ok g ay w) s.a4 (s.bg ay) I p) :
 jg bL (bO.ok g bK bL) bO.a4 (bO.bg bK) I p:=by
 cases p with
 | none=>exact ao
 | some q =>
  obtain ⟨b,m⟩:=q
  obtain ⟨c,eC,h1,o,ae,av⟩:=ao
  refine ⟨c,eC,(ai b m rfl).trans h1,o,ae,fun j x R=> ?_⟩
  obtain ⟨v,e1,aC,bR⟩:=av j x R
  exact ⟨v,e1,aC,h.rel bR⟩
theorem Step.stay {g:G}{s bO:S}{ay bK:fm}{w bL:World}(h:Step g s ay w bO bK bL)
 (bV : ∀j k,g.oK j k→s.a4 j k∧(s.bg ay j k=g.qK j k∨s.bg ay j k=none)) : ∀j k,g.oK j k→bO.a4 j k∧(bO.bg bK j k=g.qK j k∨bO.bg bK j k=none):=by
 intro j k aI
 obtain ⟨h1,o⟩:=bV j k aI
 refine ⟨h.a4 j k h1,?_⟩
 rcases h.bg j k h1 with e|e
 ·rw [e];exact o
 ·exact .inr e
theorem AY.step {g:G}{w bL:World}(h:AY g w)(h1:bL.os=w.os)(o:bL.tape=w.tape)(ae:bL.output=w.output)(av:w.heap.size≤bL.heap.size)
 (aA : ∀b,b<g.mv.heap.size→ ¬g.o8 b→bL.heap[b]? = w.heap[b]?):AY g bL :=
 ⟨h1.trans h.os,o.trans h.tape,ae.trans h.output,Nat.le_trans h.size av,fun b aS hm=>(aA b aS hm).trans (h.block b aS hm)⟩
theorem lr (s:S)(r:Nat)(row:List ab)(q k:Nat):(s.setRow r row).ak q k=if q=r then db (some row) k else s.ak q k:=by
 unfold S.ak S.setRow
 by_cases e:q=r<;>simp [e]
theorem m4 (s:S)(r:Nat)(row:List ab)(q k:Nat):(s.setRow r row).a4 q k↔(if q=r then k<row.length else s.a4 q k):=by
 unfold S.a4 S.setRow
 by_cases e:q=r<;>simp [e]
theorem Dr {s:S}{r k:Nat}{I:ab}(h:s.ak r k=some I):s.a4 r k:=by
 unfold S.ak db at h
 unfold S.a4
 cases ar:s.aW r with
 | none=>rw [ar] at h;simp at h
 | some l =>
  rw [ar] at h
  simp only at h
  rcases Nat.lt_or_ge k l.length with h1|h1
  ·simpa using h1
  ·rw [List.getElem?_eq_none h1] at h;simp at h
theorem w1 {s:S}{r:Nat}(h:s.aW r=none)(k:Nat): ¬s.a4 r k:=by simp [S.a4,h]
theorem C4 (s:S){r:Nat}{l row:List ab}(ar:s.aW r=some l)(aV:l.length≤row.length)(q k:Nat)(h:s.a4 q k):(s.setRow r row).a4 q k:=by
 rw [m4]
 by_cases e:q=r
 ·subst e;rw [if_pos rfl];simp [S.a4,ar] at h;omega
 ·rw [if_neg e];exact h
theorem aeB {s:S}{r:Nat}(h:s.aW r=none)(k:Nat):s.ak r k=none:=by simp [S.ak,h,db]
def fm.set (ay:fm)(r k:Nat)(p:Option (Nat×Nat)):fm:=fun q j=>if q=r∧j=k then p else ay q j
theorem l0 (I:ab)(k:Nat):db (some [I]) k=if k=0∧I.cm≠ .gone then some I else none:=by
 unfold db
 cases k with
 | zero=>by_cases h:I.cm = .gone<;>simp [h]
 | succ k=>simp
theorem Rel.drew {w:World}{ok:Nat→Prop}{a4:i7}{bg:iW}{x:aB}{v:Value}(h:Rel w ok a4 bg x v):Rel w.drew ok a4 bg x v :=
 h.mono (fun _ h=>h) (fun _ _=>rfl) (fun _ _ h=>h) (fun _ _ _=> .inl rfl)
theorem jg.drew {w:World}{ok:Nat→Prop}{a4:i7}{bg:iW}{I:ab}{p:Option (Nat×Nat)}(h:jg w ok a4 bg I p):jg w.drew ok a4 bg I p:=by
 cases p with
 | none=>exact h
 | some q =>
  obtain ⟨c,eC,h1,o,ae,av⟩:=h
  exact ⟨c,eC,h1,o,ae,fun j x R=>let ⟨v,a,b,c⟩:=av j x R;⟨v,a,b,c.drew⟩⟩
theorem h3.drew {g:G}{s:S}{ay:fm}{w:World}(h:h3 g s ay w):h3 g s ay w.drew :=
 {obj:=fun r k I ao=>(h.obj r k I ao).drew,inj:=h.inj,own:=h.own,gQ:=⟨h.gQ.os,h.gQ.tape,h.gQ.output,h.gQ.size,h.gQ.block⟩,mlt:=h.mlt,na:=h.na,stay:=h.stay,low:=h.low}
theorem cJ.drew {g:G}{s:S}{ay:fm}{a:Act}{w:World}(h:cJ g s ay a w):cJ g s ay a w.drew where
 toh3:=h.toh3.drew
 env:=fun t=>(h.env t).drew
 defers:=h.defers
 jI:=h.jI
theorem cJ.alloc {g:G}{s:S}{ay:fm}{a:Act}{w:World}(h:cJ g s ay a w){r:Nat}(ar:s.aW r=none)(I:ab)(ba:I.cm = .live)
 (c:Array Value) (eC:TypeId) (hlen : ∀e∈I.es,e.length=I.sz)
 (bf : ∀(j:Nat) x,I.es.flatten[j]? = some x→ ∃v,c[j]? = some v∧j9 v=true∧Rel w (s.ok g ay w) s.a4 (s.bg ay) x v) :
 ∃bK,bK r 0=some (w.heap.size,c.size)∧cJ g (s.setRow r [I]) bK a (w.alloc (.cells c eC)) ∧
  ∀x v,Rel w (s.ok g ay w) s.a4 (s.bg ay) x v→Rel (w.alloc (.cells c eC)) ((s.setRow r [I]).ok g bK (w.alloc (.cells c eC))) (s.setRow r [I]).a4 ((s.setRow r [I]).bg bK) x v:=by
 have lD : ∀q k,q≠r→(ay.set r 0 (some (w.heap.size,c.size))) q k=ay q k:=fun q k bc=>by simp [fm.set,bc]
 have bo : ∀q k,q≠r→(s.setRow r [I]).ak q k=s.ak q k:=fun q k bc=>by rw [lr,if_neg bc]
 have xZ : ∀k,(s.setRow r [I]).ak r k=if k=0 then some I else none:=fun k=>by
  rw [lr,if_pos rfl,l0];simp [ba]
 have sc : ∀q k p b m,s.ak q k=some p→ay q k=some (b,m)→b<w.heap.size:=fun q k p b m ai bc=>by
  have:=h.obj q k p ai
  rw [bc] at this
  obtain ⟨dF,mm,ft,_⟩:=this
  exact (Array.getElem?_eq_some_iff.1 ft).1
 have dx:Step g s ay w (s.setRow r [I]) (ay.set r 0 (some (w.heap.size,c.size))) (w.alloc (.cells c eC)):=by
  refine ⟨fun q k bc=>(m4 _ _ _ _ _).2 (by rw [if_neg (by rintro rfl;exact w1 ar k bc)];exact bc),fun q k bc=> ?_,fun b aS=> ?_,fun b aS _=>heap_alloc_old w _ b aS,by simp⟩
  ·have dr:q≠r:=by rintro rfl;exact w1 ar k bc
   left
   simp only [S.bg,bo q k dr,lD q k dr]
  ·obtain ⟨q,k,p,m,h1,o,ae⟩:=aS
   by_cases e:q=r
   ·subst e
    rw [xZ] at h1
    by_cases e0:k=0
    ·subst e0;simp [fm.set] at ae;right;omega
    ·simp [e0] at h1
   ·rw [bo q k e] at h1;rw [lD q k e] at ae
    exact .inl ⟨q,k,p,m,h1,o,ae⟩
 refine ⟨ay.set r 0 (some (w.heap.size,c.size)),by simp [fm.set],?_,fun x v=>dx.rel⟩
 refine {toh3:=⟨?_,?_,?_,?_,h.mlt,h.na,dx.stay h.stay,h.low⟩,env:=fun t=>dx.rel (h.env t),defers:=h.defers,jI:=h.jI}
 ·intro q k p ai
  by_cases e:q=r
  ·subst e
   rw [xZ] at ai
   by_cases e0:k=0
   ·subst e0
    simp at ai
    subst ai
    simp only [fm.set,and_self,if_true]
    exact ⟨c,eC,heap_alloc_new w _,rfl,hlen,fun j x R=>let ⟨v,e1,aC,bR⟩:=bf j x R;⟨v,e1,aC,dx.rel bR⟩⟩
   ·simp [e0] at ai
  ·rw [bo q k e] at ai
   rw [lD q k e]
   exact dx.obj (fun b m hm=>heap_alloc_old w _ b (sc q k p b m ai hm)) (h.obj q k p ai)
 ·intro q k p hC ea ki b m cy h1 o ae av
  by_cases e:q=r<;>by_cases eH:hC=r
  ·subst e;subst eH
   rw [xZ] at h1 o
   by_cases e0:k=0<;>by_cases e1:ea=0<;>simp [e0,e1] at h1 o
   exact ⟨rfl,by omega⟩
  ·subst e
   rw [xZ] at h1;rw [bo _ _ eH] at o;rw [lD _ _ eH] at av
   by_cases e0:k=0<;>simp [e0] at h1
   subst e0
   simp [fm.set] at ae
   have:=sc hC ea ki b cy o av
   omega
  ·subst eH
   rw [bo _ _ e] at h1;rw [xZ] at o;rw [lD _ _ e] at ae
   by_cases e0:ea=0<;>simp [e0] at o
   subst e0
   simp [fm.set] at av
   have:=sc q k p b m h1 ae
   omega
  ·rw [bo _ _ e] at h1;rw [bo _ _ eH] at o;rw [lD _ _ e] at ae;rw [lD _ _ eH] at av
   exact h.inj q k p hC ea ki b m cy h1 o ae av
 ·intro q k p b m h1 o
  by_cases e:q=r
  ·subst e
   rw [xZ] at h1
   by_cases e0:k=0<;>simp [e0] at h1
   subst e0
   simp [fm.set] at o
   left
   have:=h.gQ.size
   omega
  ·rw [bo _ _ e] at h1;rw [lD _ _ e] at o
   exact h.own q k p b m h1 o
 ·exact h.gQ.step rfl rfl rfl (by simp) fun b aS _=>heap_alloc_old w _ b (Nat.lt_of_lt_of_le aS h.gQ.size)
theorem Pj (l:List ab)(k:Nat)(I b6:ab)(h:db (some l) k=some I)(ba:b6.cm≠ .gone)(j:Nat):
 db (some (l.set k b6)) j=if j=k then some b6 else db (some l) j:=by
 unfold db at *
 have dz:k<l.length:=by
  rcases Nat.lt_or_ge k l.length with h1|h1
  ·exact h1
  ·simp [List.getElem?_eq_none h1] at h
 by_cases e:j=k
 ·subst e;simp [dz,ba]
 ·simp only [List.getElem?_set,if_neg (Ne.symm e),if_neg e]
theorem cJ.write {g:G}{s:S}{ay:fm}{a:Act}{w bL:World}(h:cJ g s ay a w){r k b m:Nat}{l:List ab}{I:ab}(ar:s.aW r=some l)(ao:s.ak r k=some I)
 (ba:I.cm = .live) (ai:ay r k=some (b,m)) (es:List (List aB)) (c:Array Value) (eC:TypeId)
 (hw:bL.heap[b]? = some (.cells c eC (0,0))) (eP:bL.heap.size=w.heap.size) (uA : ∀q,q≠b→bL.heap[q]? = w.heap[q]?)
 (p6:bL.os=w.os) (La:bL.tape=w.tape) (KM:bL.output=w.output) (hm:c.size=m)
 (hlen : ∀e∈es,e.length=I.sz)
 (bf : ∀(j:Nat) x,es.flatten[j]? = some x→ ∃v,c[j]? = some v∧j9 v=true∧Rel w (s.ok g ay w) s.a4 (s.bg ay) x v) :
 cJ g (s.setRow r (l.set k {I with es})) ay a bL ∧
  ∀x v,Rel w (s.ok g ay w) s.a4 (s.bg ay) x v→Rel bL ((s.setRow r (l.set k {I with es})).ok g ay bL) (s.setRow r (l.set k {I with es})).a4 ((s.setRow r (l.set k {I with es})).bg ay) x v:=by
 have jz:({I with es}:ab).cm≠ .gone:=by rw [ba];simp
 have bo : ∀q j,(s.setRow r (l.set k {I with es})).ak q j=if q=r∧j=k then some {I with es} else s.ak q j:=by
  intro q j
  rw [lr]
  by_cases e:q=r
  ·subst e
   have dR:db (some l) k=some I:=by rw [← ar];exact ao
   rw [if_pos rfl,Pj l k I _ dR jz]
   by_cases aC:j=k<;>simp [aC,S.ak,ar]
  ·simp [e]
 have pi:s.lJ ay b:=⟨r,k,I,m,ao,ba,ai⟩
 have dx:Step g s ay w (s.setRow r (l.set k {I with es})) ay bL:=by
  refine ⟨C4 s ar (by simp),fun q j bc=> .inl ?_,fun q bc=> ?_,fun q bc aV=>uA q fun e=>aV (e▸pi),Nat.le_of_eq eP.symm⟩
  ·simp only [S.bg,bo]
   by_cases e:q=r∧j=k
   ·obtain ⟨rfl,rfl⟩:=e;simp [ao]
   ·rw [if_neg e]
  ·obtain ⟨hC,j,p,cy,h1,o,ae⟩:=bc
   rw [bo] at h1
   by_cases e:hC=r∧j=k
   ·obtain ⟨rfl,rfl⟩:=e
    exact .inl ⟨hC,j,I,cy,ao,ba,ae⟩
   ·rw [if_neg e] at h1
    exact .inl ⟨hC,j,p,cy,h1,o,ae⟩
 refine ⟨{toh3:=⟨?_,?_,?_,?_,h.mlt,h.na,dx.stay h.stay,h.low⟩,env:=fun t=>dx.rel (h.env t),defers:=h.defers,jI:=h.jI},fun x v=>dx.rel⟩
 ·intro q j p kp
  rw [bo] at kp
  by_cases e:q=r∧j=k
  ·obtain ⟨rfl,rfl⟩:=e
   simp at kp
   subst kp
   rw [ai]
   exact ⟨c,eC,hw,hm,hlen,fun j x R=>let ⟨v,e1,aC,bR⟩:=bf j x R;⟨v,e1,aC,dx.rel bR⟩⟩
  ·rw [if_neg e] at kp
   refine dx.obj (fun kj cy kW=>uA kj ?_) (h.obj q j p kp)
   rintro rfl
   exact e (h.inj q j p r k I kj cy m kp ao kW ai)
 ·intro q j p hC hN ki kj ik hf h1 o ae av
  have key : ∀q j p,(s.setRow r (l.set k {I with es})).ak q j=some p→ ∃ki,s.ak q j=some ki:=by
   intro q j p bc
   rw [bo] at bc
   by_cases e:q=r∧j=k
   ·obtain ⟨rfl,rfl⟩:=e;exact ⟨I,ao⟩
   ·rw [if_neg e] at bc;exact ⟨p,bc⟩
  obtain ⟨p1,Rs⟩:=key q j p h1
  obtain ⟨hg,Bl⟩:=key hC hN ki o
  exact h.inj q j p1 hC hN hg kj ik hf Rs Bl ae av
 ·intro q j p kj cy h1 o
  rw [bo] at h1
  by_cases e:q=r∧j=k
  ·obtain ⟨rfl,rfl⟩:=e;exact h.own q j I kj cy ao o
  ·rw [if_neg e] at h1;exact h.own q j p kj cy h1 o
 ·refine h.gQ.step p6 La KM (Nat.le_of_eq eP.symm) fun kj qL kW=>uA kj ?_
  rintro rfl
  rcases h.own r k I kj m ao ai with h1|h1
  ·omega
  ·exact kW h1
end Go.VL
namespace Go.VL
set_option linter.unusedVariables false
set_option linter.unusedSimpArgs false
open Go
inductive ss where
 | id
 | e5 (es:List (List aB))
 | jW (sz:Nat)
 | jM
 | cL (x:aB)
 | len (n:Nat)
 | L4 (sz:Nat)
 | at_ (j i n:Nat)
 | view (dy:Nat) (I:ab) (es:List (List aB))
 deriving Inhabited
inductive yH where
 | dK (c:ss)
 | ptr (l:List ss)
 | KN (l:List ss)
 | agg (l:List ss)
 deriving Inhabited
inductive lj where
 | bw (c:yH)
 | comp (l:List yH)
 deriving Inhabited
inductive iA where
 | pure
 | box (l:List ss)
 | cL (row:List ab)
 | bD (row:List ab)
 | rx (row:List ab)
 | drop
 deriving Inhabited
structure nb where
 bG:List (Nat×Nat):=[]
 iB:Option (Nat×Nat):=none
 deriving DecidableEq
inductive Src where
 | row (r:Nat)
 | ak (r k:Nat) (I:ab)
 deriving Inhabited
structure B5 where
 a0:List Src:=[]
 dp:List iA:=[]
 ac:List lj
 r:aB
 fw:List (List ab):=[]
 h6:lj:= .bw (.dK .id)
 ke:List iA:=[]
 fN:List Nat:=[]
 fE:Bool:=true
inductive fz where
 | none
 | aa (t:Bool)
 | b4 (c:List aB)
 | gi (I:ab) (c:List aB)
 | fQ
 | call (c:B5)
 | aJ (m:Nat) (I:Option ab:=Option.none)
 | j2 (t:Nat) (v:aB) (a:fz)
 | vf (r:Nat) (a:fz)
 | tv (r n:Nat) (a:fz)
structure h4 where
 val:aB
 fL:List (Nat×List ab):=[]
 fv:List Prop:=[]
def As (P:Program)(t:TypeId):Bool :=
 match P.underlying t with
 | some (.struct _)|some (.array _ _)=>true
 | _=>false
def x2 (ni:List Int):ByteArray:=ni.foldl (fun r n=>r.push (UInt8.ofNat n.toNat)) ByteArray.empty
def bytesOf:List (List aB)→Option (List Int)
 | []=>some []
 | [.n .u8 n]::es=>(bytesOf es).map (n :: ·)
 | _=>none
def elemAt (es:List (List aB))(i:Nat):fz→Option (List aB×List Prop)
 | .b4 c=>some (c,[es[i]? = some c])
 | .gi _ c=>some (c,[es[i]? = some c])
 | _=>match es[i]? with
  | some c=>some (c,[])
  | none=>none
def oF (row:Option (List ab))(k:Nat):fz→Option (ab×List Prop)
 | .gi I _=>match row with
  | some row=>some (I,[db (some row) k=some I])
  | none=>none
 | _=>match db row k with
  | some I=>some (I,[])
  | none=>none
def r2 (P:Program)(t:TypeId)(c:List aB)(off:Nat):Option aB :=
 if !((P.underlying t).isSome && (P.info? t).isSome) then none else
 if As P t then (if off+P.cellsOf t≤c.length then some (.agg ((c.drop off).take (P.cellsOf t))) else none)
 else match c[off]? with
  | some x=>if x.one then some x else none
  | none=>none
def KO (op:BinOp)(x y:aB):Option (aB×List Prop) :=
 match x,y with
 | .n k a,.n ea b =>
  match op with
  | .shl=>some (.n k (k.wrap (a*2 ^ (min b.toNat k.bits))),[0≤b])
  | .shr=>some (.n k (a.fdiv (2 ^ (min b.toNat k.bits))),[0≤b])
  | _=>if k≠ea then none else
   match op with
   | .add=>some (.n k (k.wrap (a+b)),[])
   | .sub=>some (.n k (k.wrap (a-b)),[])
   | .mul=>some (.n k (k.wrap (a*b)),[])
   | .quo=>some (.n k (k.wrap (a.tdiv b)),[b≠0])
   | .rem=>some (.n k (a.tmod b),[b≠0])
   | .and=>some (.n k (k.wrap ((BitVec.ofInt k.bits a &&& BitVec.ofInt k.bits b).toNat)),[])
   | .or=>some (.n k (k.wrap ((BitVec.ofInt k.bits a ||| BitVec.ofInt k.bits b).toNat)),[])
   | .xor=>some (.n k (k.wrap ((BitVec.ofInt k.bits a ^^^ BitVec.ofInt k.bits b).toNat)),[])
   | .eql=>some (.b (a == b),[])
   | .neq=>some (.b (a != b),[])
   | .lss=>some (.b (decide (a<b)),[])
   | .leq=>some (.b (decide (a≤b)),[])
   | .gtr=>some (.b (decide (b<a)),[])
   | .geq=>some (.b (decide (b≤a)),[])
   | _=>none
 | .s a,.s b =>
  match op with
  | .add=>some (.s (a++b),[a.size+b.size<9223372036854775808])
  | .eql=>some (.b (a.toList == b.toList),[])
  | .neq=>some (.b (!(a.toList == b.toList)),[])
  | _=>none
 | _,_=>none
def ru (P:Program)(t:TypeId)(x y:aB):Option Bool :=
 match P.underlying t,x,y with
 | some .bool,.b a,.b c=>some (a == c)
 | some (.pointer _),.h2,.h2=>some true
 | some (.pointer _),.dY ..,.h2=>some false
 | some (.pointer _),.h2,.dY .. => some false
 | some (.slice _),.eT,.eT=>some true
 | some (.slice _),.iL,.eT=>some false
 | _,_,_=>none
def Lb (op:UnOp)(x:aB):Option aB :=
 match op,x with
 | .neg,.n k a=>some (.n k (k.wrap (0-a)))
 | .not,.b a=>some (.b (!a))
 | _,_=>none
def fieldsOf (P:Program)(t:TypeId):Option (Array Field) :=
 match P.underlying t with
 | some (.struct kC)=>some kC
 | _=>none
def pj (P:Program)(t:TypeId):Option TypeId :=
 match P.underlying t with
 | some (.slice e)=>some e
 | _=>none
def qm (P:Program)(t:TypeId):Option (List aB) :=
 match P.info? t with
 | some i=>match i.zero with
  | some v=>if v.cells.toList.all (·.oneCell') then some (v.cells.toList.map ofValue) else none
  | none=>none
 | none=>none
def At:aB→aB→aB
 | .eT,.isl sz []=> .isl sz []
 | .h2,.j1 sz none=> .j1 sz none
 | .eT,.iM r c sz none=> .iM r c sz none
 | x,_=>x
def qy:List aB→List aB→List aB
 | x::z,y::c=>At x y::qy z c
 | z,_=>z
def r3 (z:List aB):fz→List aB
 | .b4 c=>qy z c
 | _=>z
def setCells (c:List aB)(off:Nat)(vs:List aB):List aB:=c.take off++vs++c.drop (off+vs.length)
def sZ:List aB→List (Nat×Nat×aB)→Option (List aB)
 | c,[]=>some c
 | c,(off,size,x)::rest =>
  if x.xr && x.cells.length=size && decide (off+size≤c.length) then sZ (setCells c off x.cells) rest else none
def xQ (sz:Nat):List (List aB)→List (Nat×aB)→Option (List (List aB))
 | es,[]=>some es
 | es,(i,x)::rest=>if x.xr && x.cells.length=sz && decide (i<es.length) then xQ sz (es.set i x.cells) rest else none
def au:Option aB→Nat→Option (Nat×List Prop)
 | none,d=>some (d,[])
 | some (.n _ x),_=>some (x.toNat,[0≤x])
 | _,_=>none
def eQ (P:Program)(E:Nat→aB)(aW:Nat→Option (List ab))(aU:Nat)(I:Oper)(cM:fz):Option h4 :=
 let il:=fc E
 match I.op with
 | .move x | .assign x=>some {val:=il x}
 | .pick c a b =>
  match il c,cM with
  | .b x,.aa t=>some {val:=if t then il a else il b,fv:=[x=t]}
  | .b true,_=>some {val:=il a}
  | .b false,_=>some {val:=il b}
  | _,_=>none
 | .alloc t =>
  match qm P t with
  | some c=>some {val:= .ref aU 0 0 0,fL:=[(aU,[⟨c.length,[c],.live⟩])]}
  | none=>none
 | .box _ x =>
  match il x with
  | .agg c=>some {val:= .ref aU 0 0 0,fL:=[(aU,[⟨c.length,[c],.live⟩])]}
  | v=>if v.one then some {val:= .ref aU 0 0 0,fL:=[(aU,[⟨1,[[v]],.live⟩])]} else none
 | .load t x =>
  match il x with
  | .ref r k i off =>
   match oF (aW r) k cM with
   | some (ak,ah)=>match elemAt ak.es i cM with
    | some (c,aQ)=>match r2 P t c off with
     | some v=>some {val:=v,fv:=ah++aQ}
     | none=>none
    | none=>none
   | none=>none
  | .dY _ es i off =>
   match elemAt es i cM with
   | some (c,aQ)=>match r2 P t c off with
    | some v=>some {val:=v,fv:=aQ}
    | none=>none
   | none=>none
  | _=>none
 | .store t x y =>
  match il x with
  | .ref r k i off =>
   match aW r with
   | none=>none
   | some row =>
   match oF (some row) k cM with
   | some (ak,ah) =>
    if ak.cm≠ .live then none else
    let v:=il y
    if v.xr=false then none else
    if v.cells.length≠P.cellsOf t∨(P.info? t).isSome=false then none else
    match cM with
    | .fQ=>if off=0 then some {val:= .dead,fL:=[(r,row.set k {ak with es:=ak.es.set i v.cells})],fv:=ah++[i<ak.es.length,v.cells.length=ak.sz]} else none
    | _=>match elemAt ak.es i cM with
     | some (c,aQ)=>if off+v.cells.length≤c.length then some {val:= .dead,fL:=[(r,row.set k {ak with es:=ak.es.set i (setCells c off v.cells)})],fv:=ah++aQ} else none
     | none=>none
   | none=>none
  | _=>none
 | .nilCheck x =>
  match il x with
  | .ref r k i off=>match oF (aW r) k cM with
   | some (ak,ah)=>match elemAt ak.es i cM with
    | some (_,aQ)=>some {val:= .ref r k i off,fv:=ah++aQ}
    | none=>none
   | none=>none
  | .dY sz es i off=>some {val:= .dY sz es i off}
  | .fn f c=>some {val:= .fn f c}
  | _=>none
 | .binOp op t x y _ =>
  match KO op (il x) (il y) with
  | some (v,ak)=>some {val:=v,fv:=ak}
  | none=>match op with
   | .eql=>(ru P t (il x) (il y)).map fun r=>{val:= .b r}
   | .neq=>(ru P t (il x) (il y)).map fun r=>{val:= .b (!r)}
   | _=>none
 | .unOp op _ x=>(Lb op (il x)).map fun v=>{val:=v}
 | .convert src dst x =>
  match P.underlying dst,il x with
  | some (.int k),.n _ a=>if (P.underlying src).isSome then some {val:= .n k (k.wrap a)} else none
  | some .string,.bm r k bT len =>
   match (pj P src).bind P.underlying,db (aW r) k with
   | some (.int .u8),some ak=>match bytesOf ((ak.es.drop bT).take len) with
    | some ni=>if bT+len≤ak.es.length∧ak.sz=1 then some {val:= .s (x2 ni)} else none
    | none=>none
   | _,_=>none
  | _,_=>none
 | .makeFunc (.func f) first captured =>
  if first.size=0 then some {val:= .fn f (captured.toList.map il)} else none
 | .makeSlice t l c =>
  match pj P t,il l,il c with
  | some e,.n _ l,.n _ c =>
   match P.info? e,qm P e with
   | some i,some z=>if z.length=i.size then some {val:= .bm aU 0 0 l.toNat,fL:=[(aU,[⟨z.length,List.replicate l.toNat (r3 z cM),.live⟩])],fv:=[0≤l,l≤c,(i.bytes:Int)*c≤281474976710656,c<9223372036854775808]} else none
   | _,_=>none
  | _,_,_=>none
 | .fieldAddr t x f =>
  match fieldsOf P t with
  | some kC=>match kC[f]? with
   | some fd=>if P.cellsOf fd.type=0 then none else
    match il x with
    | .ref r k i off=>match oF (aW r) k cM with
     | some (ak,ah)=>match elemAt ak.es i cM with
      | some (_,aQ)=>some {val:= .ref r k i (off+fd.offset),fv:=ah++aQ}
      | none=>none
     | none=>none
    | .dY sz es i off=>some {val:= .dY sz es i (off+fd.offset)}
    | _=>none
   | none=>none
  | none=>none
 | .field t x f =>
  match fieldsOf P t with
  | some kC=>match kC[f]?,il x with
   | some fd,.agg c=>(r2 P fd.type c fd.offset).map fun v=>{val:=v}
   | _,_=>none
  | none=>none
 | .indexAddr t x mw =>
  match pj P t,il mw with
  | some e,.n _ j =>
   match il x with
   | .isl sz es=>if sz=P.cellsOf e∧sz≠0 then some {val:= .dY sz es j.toNat 0,fv:=[0≤j,j<es.length]} else none
   | .bm r k bT len=>match aW r with
    | some row=>match oF (some row) k cM with
     | some (ak,ah)=>if ak.sz=P.cellsOf e∧ak.sz≠0 then some {val:= .ref r k (bT+j.toNat) 0,fv:=ah++[0≤j,j<len]} else none
     | none=>none
    | none=>none
   | _=>none
  | _,_=>none
 | .index t x mw =>
  match P.underlying t,il x,il mw with
  | some .string,.s s,.n _ j=>some {val:= .n .u8 (s.data.toList.getD j.toNat 0).toNat,fv:=[0≤j,j<s.size]}
  | _,_,_=>none
 | .extract x i =>
  match il x with
  | .dZ vs=>(vs[i]?).map fun v=>{val:=v}
  | _=>none
 | .slice t x bT aq none =>
  match P.underlying t,il x with
  | some (.slice e),.isl sz es =>
   match au (bT.map il) 0,au (aq.map il) es.length with
   | some (l,ah),some (h,aQ)=>if sz=P.cellsOf e∧sz≠0 then some {val:= .isl sz ((es.drop l).take (h-l)),fv:=ah++aQ++[l≤h,h≤es.length]} else none
   | _,_=>none
  | some (.slice e),.bm r k Sy len =>
   match aW r with
   | none=>none
   | some row=>match oF (some row) k cM with
    | none=>none
    | some (ak,Sz) =>
     match au (bT.map il) 0,au (aq.map il) len with
     | some (l,ah),some (h,aQ)=>if ak.sz=P.cellsOf e∧ak.sz≠0 then some {val:= .bm r k (Sy+l) (h-l),fv:=Sz++ah++aQ++[l≤h,h≤len]} else none
     | _,_=>none
  | some .string,.s s =>
   match au (bT.map il) 0,au (aq.map il) s.size with
   | some (l,ah),some (h,aQ)=>some {val:= .s (s.extract l h),fv:=ah++aQ++[l≤h,h≤s.size]}
   | _,_=>none
  | _,_=>none
 | .build t parts =>
  match fieldsOf P t,qm P t with
  | some kC,some z =>
   if kC.toList.all (fun f=>(P.info? f.type).isSome)=false then none else
   match parts.toList.mapM fun (p:Nat×Operand)=>(kC[p.1]?).map fun fd=>(fd.offset,P.cellsOf fd.type,il p.2) with
   | some l=>(sZ z l).map fun c=>{val:= .agg c}
   | none=>none
  | _,_=>none
 | .buildSlice t len parts =>
  match pj P t with
  | some e=>match qm P e with
   | some z =>
    if len*z.length>16777216∨z.length≠P.cellsOf e∨z.length=0 then none else
    match xQ z.length (List.replicate len z) (parts.toList.map fun p=>(p.1,il p.2)) with
    | some es=>some {val:= .bm aU 0 0 len,fL:=[(aU,[⟨z.length,es,.live⟩])]}
    | none=>none
   | none=>none
  | none=>none
 | .call {callee:= .builtin .len,args,argTypes} =>
  match args.toList.map il,P.underlying (argTypes.getD 0 0),decide (argTypes.size=1) with
  | [.isl _ es],some (.slice _),true=>some {val:= .n .i64 es.length}
  | [.bm r k _ len],some (.slice _),true=>match aW r with
   | some row=>match oF (some row) k cM with
    | some (_,ah)=>some {val:= .n .i64 len,fv:=ah}
    | none=>none
   | none=>none
  | [.eT],some (.slice _),true=>some {val:= .n .i64 0}
  | [.s x],some .string,true=>some {val:= .n .i64 x.size}
  | _,_,_=>none
 | _=>none
end Go.VL
namespace Go.VL
set_option linter.unusedVariables false
set_option linter.unusedSimpArgs false
open Go
theorem oW {α:Type}{sz:Nat}(bV:0<sz): ∀(es:List (List α)) (_ : ∀e∈es,e.length=sz) (j:Nat),
 es.flatten[j]? = (es[j / sz]?).bind (·[j % sz]?)
 | [],_,j=>by simp
 | e::es,h,j=>by
  have he:e.length=sz:=h e (by simp)
  rw [List.flatten_cons,List.getElem?_append]
  by_cases aI:j<sz
  ·rw [if_pos (by omega),Nat.div_eq_of_lt aI,Nat.mod_eq_of_lt aI];simp
  ·rw [if_neg (by omega),he,oW bV es (fun eH lQ=>h eH (by simp [lQ])) (j-sz)]
   have h1:j / sz=(j-sz) / sz+1:=Nat.div_eq_sub_div bV (by omega)
   have o:j % sz=(j-sz) % sz:=Nat.mod_eq_sub_mod (by omega)
   rw [h1,o];simp
theorem z0 {α:Type}{sz:Nat}{es:List (List α)}(aV:∀e∈es,e.length=sz){i:Nat}{c:List α}(he:es[i]? = some c){j:Nat}(aI:j<sz):
 es.flatten[i*sz+j]? = c[j]? := by
 have bV:0<sz:=by omega
 rw [oW bV es aV]
 have h1:(i*sz+j) / sz=i:=by
  rw [Nat.mul_comm,Nat.mul_add_div bV,Nat.div_eq_of_lt aI];omega
 have o:(i*sz+j) % sz=j:=by
  rw [Nat.mul_comm,Nat.mul_add_mod,Nat.mod_eq_of_lt aI]
 rw [h1,o,he];rfl
theorem N8 {α:Type}{sz:Nat}{es:List (List α)}(aV:∀e∈es,e.length=sz){i:Nat}{c dF:List α}(he:es[i]? = some c)(bf:dF.length=sz)(j:Nat):
 (es.set i dF).flatten[j]? = if i*sz≤j∧j<i*sz+sz then dF[j-i*sz]? else es.flatten[j]? := by
 rcases Nat.eq_zero_or_pos sz with h0|bV
 ·subst h0
  have e1 : ∀(l:List (List α)),(∀e∈l,e.length=0)→l.flatten=[]:=by
   intro l aV;induction l with
   | nil=>rfl
   | cons a l ih=>rw [List.flatten_cons,ih fun e he=>aV e (by simp [he])];have:=aV a (by simp);simp_all
  rw [e1 _ aV,e1 (es.set i dF) (by
   intro e hm
   rcases List.mem_or_eq_of_mem_set hm with h|h
   ·exact aV e h
   ·exact h▸bf)]
  simp
 ·have Lc : ∀e∈es.set i dF,e.length=sz:=by
   intro e hm
   rcases List.mem_or_eq_of_mem_set hm with h|h
   ·exact aV e h
   ·exact h▸bf
  have aq:i<es.length:=by
   rcases Nat.lt_or_ge i es.length with h|h
   ·exact h
   ·rw [List.getElem?_eq_none h] at he;simp at he
  rw [oW bV _ Lc,oW bV _ aV]
  by_cases bc:j / sz=i
  ·have h1:i*sz≤j∧j<i*sz+sz:=by
    subst bc
    constructor
    ·exact Nat.div_mul_le_self j sz
    ·have:=Nat.lt_div_mul_add (a:=j) bV;omega
   rw [if_pos h1,bc,List.getElem?_set_self aq]
   have:j % sz=j-i*sz:=by
    subst bc;have:=Nat.div_add_mod j sz;rw [Nat.mul_comm] at this;omega
   simp [this]
  ·have h1 : ¬(i*sz≤j∧j<i*sz+sz):=by
    rintro ⟨a,b⟩
    apply bc
    obtain ⟨d,rfl⟩ : ∃d,j=i*sz+d:=⟨j-i*sz,by omega⟩
    rw [Nat.mul_comm i sz,Nat.mul_add_div bV,Nat.div_eq_of_lt (by omega)]
    omega
   rw [if_neg h1,List.getElem?_set_ne (Ne.symm bc)]
def n8 (w:World)(ok:Nat→Prop)(a4:i7)(bg:iW)(d7 I sz:Nat)(es:List (List aB)):Prop :=
 (∀e∈es,e.length=sz)∧ ∀(j:Nat) x,es.flatten[j]? = some x→ ∃v,w.cell? ⟨d7,I+j,none⟩=some v∧j9 v=true∧Rel w ok a4 bg x v
theorem jg.rd {w:World}{ok:Nat→Prop}{a4:i7}{bg:iW}{I:ab}{d7 m:Nat}(h:jg w ok a4 bg I (some (d7,m))):n8 w ok a4 bg d7 0 I.sz I.es:=by
 obtain ⟨c,eC,h1,o,ae,av⟩:=h
 refine ⟨ae,fun j x R=> ?_⟩
 obtain ⟨v,e1,aC,bR⟩:=av j x R
 exact ⟨v,by rw [cell_of_row w d7 (0+j) c eC (0,0) h1,Nat.zero_add];exact e1,aC,bR⟩
theorem aeK {w:World}{ok:Nat→Prop}{a4:i7}{bg:iW}{x:aB}{v:Value}(h:Rel w ok a4 bg x v)(ao:x.one=true):v.oneCell'=true:=h.j9 ao
theorem OR {P:Program}{t:TypeId}(h:(P.underlying t).isSome=true)(w:World):(isAgg t).run P w = .ok (As P t) w:=by
 cases bG:P.underlying t with
 | none=>simp [bG] at h
 | some d=>cases d<;>simp [isAgg,As,run_underlying bG,bG]
theorem ue {P:Program}{t:TypeId}(h:(P.info? t).isSome=true)(w:World):(sizeOf t).run P w = .ok (P.cellsOf t) w:=by
 cases aq:P.info? t with
 | none=>simp [aq] at h
 | some i=>simp [sizeOf,typeInfo,aq,Program.cellsOf]
theorem rf (b I n:Nat):(⟨b,I,none⟩:Addr).add n=⟨b,I+n,none⟩:=by unfold Addr.add;split<;>simp_all
theorem Jy {P:Program}{w:World}{ok:Nat→Prop}{a4:i7}{bg:iW}{d7 I sz i off:Nat}{es:List (List aB)}{c:List aB}{t:TypeId}{x:aB}
 (ie:n8 w ok a4 bg d7 I sz es) (he:es[i]? = some c) (cb:r2 P t c off=some x) :
 ∃v,(Instr.loadAt t (.pointer (some ⟨d7,I+(i*sz+off),none⟩))).run P w = .ok v w∧Rel w ok a4 bg x v:=by
 have hlen:c.length=sz:=ie.1 c (List.mem_of_getElem? he)
 unfold r2 at cb
 split at cb
 ·simp at cb
 ·rename_i aq
  simp only [Bool.not_eq_true',Bool.not_eq_false,Bool.and_eq_true] at aq
  have jY : ∀j,j<sz→ ∃y v,c[j]? = some y∧w.cell? ⟨d7,I+(i*sz+j),none⟩=some v∧j9 v=true∧Rel w ok a4 bg y v:=by
   intro j aI
   have a1:c[j]? = some c[j]:=List.getElem?_eq_getElem (by omega)
   obtain ⟨v,e1,aC,bR⟩:=ie.2 (i*sz+j) c[j] (by rw [z0 ie.1 he aI,a1])
   exact ⟨_,v,a1,e1,aC,bR⟩
  simp only [Instr.loadAt,Instr.sureAddr,loadVar,Sem.run_bind,Sem.run_pure,Result.andThen,OR aq.1,ue aq.2]
  split at cb
  ·rename_i qG
   rw [qG]
   split at cb
   ·rename_i hle
    simp at cb;subst cb
    have aV:=run_loadCells (P:=P) w ⟨d7,I+(i*sz+off),none⟩ (P.cellsOf t) (fun j=>(w.cell? ⟨d7,I+(i*sz+(off+j)),none⟩).getD undef) (by
     intro j aI
     obtain ⟨y,v,-,e1,-,-⟩:=jY (off+j) (by omega)
     rw [rf,show I+(i*sz+off)+j=I+(i*sz+(off+j)) by omega,e1];rfl)
    refine ⟨.agg (List.map (fun j=>(w.cell? ⟨d7,I+(i*sz+(off+j)),none⟩).getD undef) (List.range (P.cellsOf t))).toArray,by simp [aV,Result.andThen,ue aq.2],?_⟩
    refine .agg _ (by simp;omega) ?_ ?_
    ·intro j v bj
     rw [List.getElem?_map,Option.map_eq_some_iff] at bj
     obtain ⟨q,lR,rfl⟩:=bj
     obtain ⟨n0,ya⟩:=List.getElem?_eq_some_iff.1 lR
     have bc:j<P.cellsOf t:=by simpa using n0
     obtain rfl:j=q:=by simpa using ya
     obtain ⟨y,v,-,e1,aC,-⟩:=jY (off+j) (by omega)
     rw [e1];exact aC
    ·intro j y v a1 bj
     rw [List.getElem?_map,Option.map_eq_some_iff] at bj
     obtain ⟨q,lR,rfl⟩:=bj
     obtain ⟨n0,ya⟩:=List.getElem?_eq_some_iff.1 lR
     have bc:j<P.cellsOf t:=by simpa using n0
     obtain rfl:j=q:=by simpa using ya
     rw [List.getElem?_take,if_pos bc,List.getElem?_drop] at a1
     obtain ⟨lW,v,h0,e1,aC,bR⟩:=jY (off+j) (by omega)
     rw [h0] at a1;simp at a1;subst a1
     rw [e1];exact bR
   ·simp at cb
  ·rename_i qG
   have qG:As P t=false:=by simpa using qG
   rw [qG]
   split at cb
   ·rename_i y a1
    split at cb
    ·simp at cb;subst cb
     have x3:off<sz:=by
      rcases Nat.lt_or_ge off c.length with h|h
      ·omega
      ·rw [List.getElem?_eq_none h] at a1;simp at a1
     obtain ⟨lW,v,h0,e1,aC,bR⟩:=jY off x3
     rw [h0] at a1;simp at a1;subst a1
     exact ⟨v,by simp [e1],bR⟩
    ·simp at cb
   ·simp at cb
theorem Nv {c:List aB}{off:Nat}{vs:List aB}(h:off+vs.length≤c.length):(setCells c off vs).length=c.length:=by
 simp [setCells];omega
theorem Jq {c:List aB}{off:Nat}{vs:List aB}(h:off+vs.length≤c.length)(j:Nat):
 (setCells c off vs)[j]? = if off≤j∧j<off+vs.length then vs[j-off]? else c[j]? := by
 unfold setCells
 rw [List.append_assoc,List.getElem?_append]
 have h1:(c.take off).length=off:=by simp;omega
 rw [h1]
 by_cases a:j<off
 ·rw [if_pos a,if_neg (by omega),List.getElem?_take,if_pos a]
 ·rw [if_neg a,List.getElem?_append]
  by_cases b:j<off+vs.length
  ·rw [if_pos (by omega),if_pos ⟨by omega,b⟩]
  ·rw [if_neg (by omega),if_neg (by omega),List.getElem?_drop]
   congr 1;omega
theorem aa6 {c:Array Value}{p:Nat}{vs:List Value}(h:p+vs.length≤c.size)(j:Nat):
 (c.toList.take p++vs++c.toList.drop (p+vs.length)).toArray[j]? = if p≤j∧j<p+vs.length then vs[j-p]? else c[j]? := by
 rw [List.getElem?_toArray,List.append_assoc,List.getElem?_append]
 have h1:(c.toList.take p).length=p:=by simp;omega
 rw [h1]
 by_cases a:j<p
 ·rw [if_pos a,if_neg (by omega),List.getElem?_take,if_pos a,Array.getElem?_toList]
 ·rw [if_neg a,List.getElem?_append]
  by_cases b:j<p+vs.length
  ·rw [if_pos (by omega),if_pos ⟨by omega,b⟩]
  ·rw [if_neg (by omega),if_neg (by omega),List.getElem?_drop,Array.getElem?_toList]
   congr 1;omega
theorem X2 {P:Program}{g:G}{s:S}{ay:fm}{a:Act}{w:World}(h:cJ g s ay a w){r k b m i off:Nat}{l:List ab}{I:ab}{c:List aB}
 (ar:s.aW r=some l) (ao:s.ak r k=some I) (ba:I.cm = .live) (ai:ay r k=some (b,m)) (he:I.es[i]? = some c)
 {t:TypeId} (Ld:(P.info? t).isSome=true) {x:aB} {v:Value} (R:Rel w (s.ok g ay w) s.a4 (s.bg ay) x v) (lN:x.one=true∨ ∃c,x = .agg c)
 (eP:x.cells.length=P.cellsOf t) (ib:off+x.cells.length≤c.length) :
 ∃bL,(Instr.storeAt t (.pointer (some ⟨b,i*I.sz+off,none⟩)) v).run P w = .ok () bL ∧
  cJ g (s.setRow r (l.set k {I with es:=I.es.set i (setCells c off x.cells)})) ay a bL:=by
 obtain ⟨vs,bj,pr,jY,fs⟩:=R.cellsOf lN
 have bo:=h.obj r k I ao
 rw [ai] at bo
 obtain ⟨cj,eC,h1,o,ae,av⟩:=bo
 have hlen:c.length=I.sz:=ae c (List.mem_of_getElem? he)
 have x4:i*I.sz+off+vs.length≤cj.size:=by
  rcases Nat.eq_zero_or_pos I.sz with cw|cw
  ·have:off=0:=by omega
   have:vs.length=0:=by omega
   rw [cw];omega
  ·have aV:I.es.flatten[i*I.sz+(I.sz-1)]? = some (c[I.sz-1]'(by omega)):=by
    rw [z0 ae he (by omega)];exact List.getElem?_eq_getElem (by omega)
   obtain ⟨SA,e1,-,-⟩:=av _ _ aV
   have:=(Array.getElem?_eq_some_iff.1 e1).1
   omega
 have ma:=run_storeCells_at P b (i*I.sz+off) eC vs 0 cj w h1 (by simpa using x4) (fun SA Bm=>by
  obtain ⟨q,bc⟩:=List.getElem?_of_mem Bm
  exact jY q SA bc)
 simp only [Nat.add_zero] at ma
 have iS:(Instr.storeAt t (.pointer (some ⟨b,i*I.sz+off,none⟩)) v).run P w =
  .ok () (w.setRow b (cj.toList.take (i*I.sz+off)++vs++cj.toList.drop (i*I.sz+off+vs.length)).toArray):=by
  have bV:v.cells.size=P.cellsOf t:=by rw [bj];simpa using pr.trans eP
  simp only [Instr.storeAt,Instr.sureAddr,storeVar,Sem.run_bind,Sem.run_pure,Result.andThen,ue Ld,bV,ne_eq,not_true_eq_false,if_false]
  rw [bj]
  simpa using ma
 refine ⟨_,iS,?_⟩
 have ab1:(w.setRow b (cj.toList.take (i*I.sz+off)++vs++cj.toList.drop (i*I.sz+off+vs.length)).toArray).heap.size=w.heap.size:=size_setRow _ _ _
 have sg:(setCells c off x.cells).length=I.sz:=by rw [Nv ib];exact hlen
 refine (h.write ar ao ba ai _ _ eC (setRow_heap w b cj _ eC _ h1) ab1 (fun q bc=>setRow_other w b q _ bc) rfl rfl rfl ?_ ?_ ?_).1
 ·simp;omega
 ·intro e hm
  rcases List.mem_or_eq_of_mem_set hm with cD|cD
  ·exact ae e cD
  ·exact cD▸sg
 ·intro j y a1
  rw [aa6 x4]
  rw [N8 ae he sg] at a1
  by_cases lS:i*I.sz≤j∧j<i*I.sz+I.sz
  ·rw [if_pos lS,Jq ib] at a1
   by_cases Q6:off≤j-i*I.sz∧j-i*I.sz<off+x.cells.length
   ·rw [if_pos Q6] at a1
    rw [if_pos ⟨by omega,by omega⟩]
    have bc:j-(i*I.sz+off)<vs.length:=by omega
    refine ⟨vs[j-(i*I.sz+off)],List.getElem?_eq_getElem bc,jY _ _ (List.getElem?_eq_getElem bc),fs (j-i*I.sz-off) y _ a1 ?_⟩
    rw [show j-i*I.sz-off=j-(i*I.sz+off) by omega]
    exact List.getElem?_eq_getElem bc
   ·rw [if_neg Q6] at a1
    rw [if_neg (by omega)]
    refine av j y ?_
    rw [show j=i*I.sz+(j-i*I.sz) by omega,z0 ae he (by omega)]
    exact a1
  ·rw [if_neg lS] at a1
   rw [if_neg (by rw [pr];omega)]
   exact av j y a1
end Go.VL
namespace Go.VL
set_option linter.unusedVariables false
set_option linter.unusedSimpArgs false
open Go
def S.hU (s:S)(u:List (Nat×List ab)):S:=u.foldl (fun s p=>s.setRow p.1 p.2) s
@[simp] theorem S.aeT (s:S):s.hU []=s:=rfl
@[simp] theorem S.aeU (s:S) (p:Nat×List ab):s.hU [p]=s.setRow p.1 p.2:=rfl
section
variable {w:World} {ok:Nat→Prop} {a4:i7} {bg:iW} {v:Value}
theorem Rel.s0 {x:Bool}(h:Rel w ok a4 bg (.b x) v):v = .bool x:=by cases h;rfl
theorem Rel.o1 {k:IntKind}{x:Int}(h:Rel w ok a4 bg (.n k x) v):v = .int k x:=by cases h;rfl
theorem Rel.xR {x:ByteArray}(h:Rel w ok a4 bg (.s x) v):v = .string x:=by cases h;rfl
theorem Rel.uq (h:Rel w ok a4 bg .h2 v):v = .pointer none:=by cases h;rfl
theorem Rel.pe (h:Rel w ok a4 bg .eT v):v = .slice none 0 0:=by cases h;rfl
theorem Rel.DC (h:Rel w ok a4 bg .iL v): ∃a c,v = .slice (some a) 0 c:=by cases h;exact ⟨_,_,rfl⟩
theorem Rel.Pk {sz:Nat}(h:Rel w ok a4 bg (.j1 sz none) v):v = .pointer none:=by cases h;rfl
theorem Rel.JR {sz:Nat}{c:List aB}(h:Rel w ok a4 bg (.j1 sz (some c)) v):Rel w ok a4 bg (.dY sz [c] 0 0) v:=by cases h;assumption
theorem Rel.DN {f:Nat}{c:List aB}(h:Rel w ok a4 bg (.fn f c) v): ∃vs:List Value,v = .func (.func f) #[] vs.toArray∧vs.length=c.length ∧
 ∀(j:Nat) x u,c[j]? = some x→vs[j]? = some u→Rel w ok a4 bg x u:=by
 cases h with|fn vs aV ar=>exact ⟨vs,rfl,aV,ar⟩
theorem Rel.Ak {c:List aB}(h:Rel w ok a4 bg (.agg c) v): ∃vs:List Value,v = .agg vs.toArray∧vs.length=c.length∧(∀(j:Nat) u,vs[j]? = some u→VL.j9 u=true) ∧
 ∀(j:Nat) x u,c[j]? = some x→vs[j]? = some u→Rel w ok a4 bg x u:=by
 cases h with|agg vs aV bf ar=>exact ⟨vs,rfl,aV,bf,ar⟩
theorem Rel.xA {c:List aB}(h:Rel w ok a4 bg (.dZ c) v): ∃vs:List Value,v = .tuple vs.toArray∧vs.length=c.length ∧
 ∀(j:Nat) x u,c[j]? = some x→vs[j]? = some u→Rel w ok a4 bg x u:=by
 cases h with|dZ vs aV ar=>exact ⟨vs,rfl,aV,ar⟩
theorem Rel.xB {r k i off sz:Nat}{p:Option (Nat×Nat)}(h:Rel w ok a4 bg (.ref r k i off) v)(cb:bg r k=some (sz,p)):
 p=none∨ ∃b m,p=some (b,m)∧v = .pointer (some ⟨b,i*sz+off,none⟩):=by
 cases h with
 | pg a hu a5 =>
  cases p with
  | none=>exact .inl rfl
  | some q=>exact absurd cb (a5 _ _)
 | ref hu h =>
  rw [cb] at h
  simp only [Option.some.injEq,Prod.mk.injEq] at h
  obtain ⟨rfl,rfl⟩:=h
  exact .inr ⟨_,_,rfl,rfl⟩
theorem Rel.aeZ {r k i off:Nat}(h:Rel w ok a4 bg (.ref r k i off) v): ∃a,v = .pointer a:=by
 cases h with
 | pg a=>exact ⟨a,rfl⟩
 | ref=>exact ⟨_,rfl⟩
theorem Rel.Y0 {r k i off sz b m:Nat}(h:Rel w ok a4 bg (.ref r k i off) v)(cb:bg r k=some (sz,some (b,m)))(Q7:Nat):
 Rel w ok a4 bg (.ref r k i Q7) (.pointer (some ⟨b,i*sz+Q7,none⟩)):=by
 cases h with
 | pg a hu a5=>exact absurd cb (a5 _ _)
 | ref hu h=>exact .ref hu cb
theorem Rel.xC {sz i off:Nat}{es:List (List aB)}(h:Rel w ok a4 bg (.dY sz es i off) v): ∃d7 I,(ok d7∧jF es)∧v = .pointer (some ⟨d7,I+(i*sz+off),none⟩)∧n8 w ok a4 bg d7 I sz es:=by
 cases h with
 | dY cs aS ai aV hw bf ar=>exact ⟨_,_,⟨aS,ai⟩,rfl,aV,fun j x R=>⟨cs j,hw j x R,bf j x R,ar j x R⟩⟩
theorem Rel.Al {r k bT len sz:Nat}{p:Option (Nat×Nat)}(h:Rel w ok a4 bg (.bm r k bT len) v)(cb:bg r k=some (sz,p)):
 (p=none∧bT=0∧len=0∧v = .slice none 0 0)∨ ∃b m a c,p=some (b,m)∧v = .slice a len c∧len≤c∧c<9223372036854775808∧(c=0∨(a=some ⟨b,bT*sz,none⟩∧(bT+c)*sz=m)):=by
 cases h with
 | m5 a l c hu a5=>rw [cb] at a5;simp at a5
 | nn hu h =>
  rw [cb] at h
  simp only [Option.some.injEq,Prod.mk.injEq] at h
  exact .inl ⟨h.2,rfl,rfl,rfl⟩
 | bm hu h aV bf hm =>
  rw [cb] at h
  simp only [Option.some.injEq,Prod.mk.injEq] at h
  obtain ⟨rfl,rfl⟩:=h
  exact .inr ⟨_,_,_,_,rfl,rfl,aV,bf,hm.2.imp id fun e=>⟨e,hm.1⟩⟩
theorem Rel.ur {r k bT len sz:Nat}{p:Option (Nat×Nat)}(h:Rel w ok a4 bg (.bm r k bT len) v)(cb:bg r k=some (sz,p)):
 (p=none∧bT=0∧len=0∧v = .slice none 0 0)∨ ∃b m a c,p=some (b,m)∧v = .slice a len c∧len≤c∧c<9223372036854775808∧(bT+c)*sz=m∧(c=0∨a=some ⟨b,bT*sz,none⟩):=by
 cases h with
 | m5 a l c hu a5=>rw [cb] at a5;simp at a5
 | nn hu h =>
  rw [cb] at h
  simp only [Option.some.injEq,Prod.mk.injEq] at h
  exact .inl ⟨h.2,rfl,rfl,rfl⟩
 | bm hu h aV bf hm =>
  rw [cb] at h
  simp only [Option.some.injEq,Prod.mk.injEq] at h
  obtain ⟨rfl,rfl⟩:=h
  exact .inr ⟨_,_,_,_,rfl,rfl,aV,bf,hm⟩
theorem Rel.aeL {r k bT len:Nat}(h:Rel w ok a4 bg (.bm r k bT len) v): ∃a l c,v = .slice a l c:=by
 cases h<;>exact ⟨_,_,_,rfl⟩
theorem Rel.rU {sz:Nat}{es:List (List aB)}(h:Rel w ok a4 bg (.isl sz es) v):
 (es=[]∧ ∃a c,v = .slice a 0 c∧(a=none→c=0))∨ ∃d7 off c,(ok d7∧jF es)∧v = .slice (some ⟨d7,off,none⟩) es.length c∧es.length≤c∧n8 w ok a4 bg d7 off sz es:=by
 cases h with
 | kb sz a c h=>exact .inl ⟨rfl,a,c,rfl,h⟩
 | isl cs aS ai aV bf hw iy ar=>exact .inr ⟨_,_,_,⟨aS,ai⟩,rfl,bf,aV,fun j x R=>⟨cs j,hw j x R,iy j x R,ar j x R⟩⟩
theorem n8.isl {d7 off c sz:Nat}{es:List (List aB)}(h:n8 w ok a4 bg d7 off sz es)(aS:ok d7∧jF es)(bf:es.length≤c):Rel w ok a4 bg (.isl sz es) (.slice (some ⟨d7,off,none⟩) es.length c):=by
 have R : ∀j:Nat,∃v,∀x,es.flatten[j]? = some x→w.cell? ⟨d7,off+j,none⟩=some v∧VL.j9 v=true∧Rel w ok a4 bg x v:=by
  intro j
  cases aI:es.flatten[j]? with
  | none=>exact ⟨undef,fun x R=>by simp at R⟩
  | some y =>
   obtain ⟨v,h1⟩:=h.2 j y aI
   exact ⟨v,fun x R=>by simp at R;subst R;exact h1⟩
 exact .isl (fun j=>(R j).choose) aS.1 aS.2 h.1 bf (fun j x aI=>((R j).choose_spec x aI).1) (fun j x aI=>((R j).choose_spec x aI).2.1) (fun j x aI=>((R j).choose_spec x aI).2.2)
theorem n8.dY {d7 I i off sz:Nat}{es:List (List aB)}(h:n8 w ok a4 bg d7 I sz es)(aS:ok d7∧jF es):Rel w ok a4 bg (.dY sz es i off) (.pointer (some ⟨d7,I+(i*sz+off),none⟩)):=by
 have R : ∀j:Nat,∃v,∀x,es.flatten[j]? = some x→w.cell? ⟨d7,I+j,none⟩=some v∧VL.j9 v=true∧Rel w ok a4 bg x v:=by
  intro j
  cases aI:es.flatten[j]? with
  | none=>exact ⟨undef,fun x R=>by simp at R⟩
  | some y =>
   obtain ⟨v,h1⟩:=h.2 j y aI
   exact ⟨v,fun x R=>by simp at R;subst R;exact h1⟩
 exact .dY (fun j=>(R j).choose) aS.1 aS.2 h.1 (fun j x aI=>((R j).choose_spec x aI).1) (fun j x aI=>((R j).choose_spec x aI).2.1) (fun j x aI=>((R j).choose_spec x aI).2.2)
end
def Fin (P:Program)(g:G)(s:S)(a:Act)(w:World)(I:Oper)(bC:h4):Prop :=
 ∃v bL bK,((execOp a.eval I).run P w = .ok (.value v) bL∨((execOp a.eval I).run P w = .ok .skip bL∧v=undef)) ∧
  cJ g (s.hU bC.fL) bK a bL∧Rel bL ((s.hU bC.fL).ok g bK bL) (s.hU bC.fL).a4 ((s.hU bC.fL).bg bK) bC.val v
section
variable {P:Program} {g:G} {s:S} {ay:fm} {a:Act} {w:World} {I:Oper} {cM:fz} {aU:Nat} {bC:h4}
theorem iu (h:cJ g s ay a w){v:Value}(iS:(execOp a.eval I).run P w = .ok (.value v) w)(hu:bC.fL=[])
 (ar:Rel w (s.ok g ay w) s.a4 (s.bg ay) bC.val v):Fin P g s a w I bC :=
 ⟨v,w,ay,.inl iS,by rw [hu];exact h,by rw [hu];exact ar⟩
theorem PP {x:Operand}(h:cJ g s ay a w)(ao:I.op = .move x∨I.op = .assign x)(aw:eQ P s.E s.aW aU I cM=some bC):Fin P g s a w I bC:=by
 have:bC={val:=fc s.E x}:=by rcases ao with ao|ao<;>simp [eQ,ao] at aw<;>exact aw.symm
 subst this
 refine iu (v:=a.eval x) h ?_ rfl (h.eval x)
 rcases ao with ao|ao<;>simp [execOp,ao]
theorem aaB {c x y:Operand}(h:cJ g s ay a w)(ao:I.op = .pick c x y)(aw:eQ P s.E s.aW aU I cM=some bC)(cz:∀p∈bC.fv,p):Fin P g s a w I bC:=by
 have bf:=h.eval c
 simp only [eQ,ao] at aw
 have key : ∀t:Bool,fc s.E c = .b t→bC.fL=[]→bC.val=(if t then fc s.E x else fc s.E y)→Fin P g s a w I bC:=by
  intro t cb hu bj
  rw [cb] at bf
  have e:a.eval c = .bool t:=bf.s0
  refine iu (v:=if t then a.eval x else a.eval y) h (by simp [execOp,ao,e,asBool]) hu ?_
  rw [bj];cases t
  ·exact h.eval y
  ·exact h.eval x
 split at aw
 ·rename_i z t cw
  simp at aw;subst aw
  have e:z=t:=cz _ (by simp)
  subst e
  exact key z cw rfl rfl
 ·rename_i cw _;simp at aw;subst aw;exact key true cw rfl rfl
 ·rename_i cw _;simp at aw;subst aw;exact key false cw rfl rfl
 ·simp at aw
theorem DD (h:cJ g s ay a w)(eU:s.aW aU=none){v:Value}{ak:ab}{c:Array Value}{eC:TypeId}(ba:ak.cm = .live)
 (iS:(execOp a.eval I).run P w = .ok (.value v) (w.alloc (.cells c eC))) (hu:bC.fL=[(aU,[ak])]) (hlen : ∀e∈ak.es,e.length=ak.sz)
 (bf : ∀(j:Nat) x,ak.es.flatten[j]? = some x→ ∃v,c[j]? = some v∧j9 v=true∧Rel w (s.ok g ay w) s.a4 (s.bg ay) x v)
 (hval : ∀(bL:World) (kM:Nat→Prop) (mN:i7) (l9:iW),mN aU 0→l9 aU 0=some (ak.sz,some (w.heap.size,c.size))→Rel bL kM mN l9 bC.val v):Fin P g s a w I bC:=by
 obtain ⟨bK,ai,bV,-⟩:=h.alloc eU ak ba c eC hlen bf
 have h1:(s.setRow aU [ak]).a4 aU 0:=by rw [m4];simp
 have o:(s.setRow aU [ak]).bg bK aU 0=some (ak.sz,some (w.heap.size,c.size)):=by simp [S.bg,lr,l0,ba,ai]
 exact ⟨v,_,bK,.inl iS,by rw [hu];exact bV,by rw [hu];exact hval _ _ _ _ h1 o⟩
theorem z1 {t:TypeId}{z:List aB}(cw:qm P t=some z): ∃i ez,P.info? t=some i∧i.zero=some ez∧z=ez.cells.toList.map ofValue ∧
 ∀(j:Nat) x,z[j]? = some x→ ∃v,ez.cells[j]? = some v∧j9 v=true∧ ∀(w:World) (ok:Nat→Prop) (a4:i7) (bg:iW),Rel w ok a4 bg x v:=by
 unfold qm at cw
 cases aq:P.info? t with
 | none=>simp [aq] at cw
 | some i =>
  cases kX:i.zero with
  | none=>simp [aq,kX] at cw
  | some ez =>
   simp only [aq,kX] at cw
   split at cw
   ·rename_i nv
    simp only [Option.some.injEq] at cw
    refine ⟨i,ez,rfl,kX,cw.symm,fun j x R=> ?_⟩
    subst cw
    rw [List.getElem?_map,Option.map_eq_some_iff] at R
    obtain ⟨v,bj,rfl⟩:=R
    refine ⟨v,by rw [← Array.getElem?_toList];exact bj,?_,fun w ok a4 bg=>N6 v⟩
    exact List.all_eq_true.1 nv v (List.mem_of_getElem? bj)
   ·simp at cw
theorem ZJ {t:TypeId}(h:cJ g s ay a w)(eU:s.aW aU=none)(ao:I.op = .alloc t)(aw:eQ P s.E s.aW aU I cM=some bC):Fin P g s a w I bC:=by
 simp only [eQ,ao] at aw
 split at aw
 ·rename_i z cw
  obtain ⟨i,ez,aq,kX,e,jY⟩:=z1 cw
  simp only [Option.some.injEq] at aw
  subst aw
  refine DD (v:= .pointer (some ⟨w.heap.size,0,none⟩)) (c:=ez.cells) (eC:=t) (ak:=⟨z.length,[z],.live⟩) h eU rfl ?_ rfl (by simp) ?_ ?_
  ·simp [execOp,ao,Instr.alloc,zeroValue,typeInfo,aq,kX,newVar,newRow]
  ·intro j x R
   simp only [List.flatten_cons,List.flatten_nil,List.append_nil] at R
   obtain ⟨v,h1,o,ae⟩:=jY j x R
   exact ⟨v,h1,o,ae _ _ _ _⟩
  ·intro bL kM mN l9 hu cb
   have:=Rel.ref (w:=bL) (ok:=kM) (i:=0) (off:=0) hu cb
   simpa using this
 ·simp at aw
theorem aa7 {t:TypeId}{x:Operand}(h:cJ g s ay a w)(eU:s.aW aU=none)(ao:I.op = .box t x)(aw:eQ P s.E s.aW aU I cM=some bC):Fin P g s a w I bC:=by
 simp only [eQ,ao] at aw
 have R:=h.eval x
 have key : ∀ak:ab,ak.cm = .live→ak.es=[(fc s.E x).cells]→ak.sz=(fc s.E x).cells.length→((fc s.E x).one=true∨ ∃c,fc s.E x = .agg c) →
  bC.fL=[(aU,[ak])]→bC.val = .ref aU 0 0 0→Fin P g s a w I bC:=by
  intro ak ba hp eP lN hu bj
  obtain ⟨vs,e1,aC,bR,c9⟩:=R.cellsOf lN
  refine DD (v:= .pointer (some ⟨w.heap.size,0,none⟩)) (c:=(a.eval x).cells) (eC:=t) h eU ba ?_ hu ?_ ?_ ?_
  ·simp [execOp,ao,Instr.box,newVar,newRow]
  ·intro e he;rw [hp] at he;simp at he;rw [he,eP]
  ·intro j y a1
   rw [hp] at a1
   simp only [List.flatten_cons,List.flatten_nil,List.append_nil] at a1
   have aI:j<vs.length:=by
    rcases Nat.lt_or_ge j (fc s.E x).cells.length with cD|cD
    ·omega
    ·rw [List.getElem?_eq_none cD] at a1;simp at a1
   refine ⟨vs[j],by rw [e1];simp [aI],bR j _ (List.getElem?_eq_getElem aI),c9 j y _ a1 (List.getElem?_eq_getElem aI)⟩
  ·intro bL kM mN l9 n2 cb
   have:=Rel.ref (w:=bL) (ok:=kM) (i:=0) (off:=0) n2 cb
   rw [bj];simpa using this
 split at aw
 ·rename_i c bf
  simp only [Option.some.injEq] at aw
  subst aw
  exact key _ rfl (by rw [bf];rfl) (by rw [bf];rfl) (.inr ⟨c,bf⟩) rfl rfl
 ·split at aw
  ·rename_i lN
   simp only [Option.some.injEq] at aw
   subst aw
   have e:(fc s.E x).cells=[fc s.E x]:=by
    generalize fc s.E x=y at lN
    cases y<;>first|rfl|simp [aB.one] at lN
   exact key _ rfl (by rw [e]) (by rw [e];rfl) (.inl lN) rfl rfl
  ·simp at aw
theorem iv {s:S}{ay:fm}{r k:Nat}{ak:ab}(h:s.ak r k=some ak):s.bg ay r k=some (ak.sz,ay r k):=by simp [S.bg,h]
theorem sS {row:Option (List ab)}{k:Nat}{ak:ab}{ah:List Prop}(h:oF row k cM=some (ak,ah))(cz:∀p∈ah,p):db row k=some ak:=by
 unfold oF at h
 split at h
 ·split at h
  ·simp at h;obtain ⟨rfl,rfl⟩:=h;exact cz _ (by simp)
  ·simp at h
 ·split at h
  ·rename_i cD;simp at h;obtain ⟨rfl,rfl⟩:=h;exact cD
  ·simp at h
theorem z9 {es:List (List aB)}{i:Nat}{c:List aB}{ah:List Prop}(h:elemAt es i cM=some (c,ah))(cz:∀p∈ah,p):es[i]? = some c:=by
 unfold elemAt at h
 split at h
 ·simp at h;obtain ⟨rfl,rfl⟩:=h;exact cz _ (by simp)
 ·simp at h;obtain ⟨rfl,rfl⟩:=h;exact cz _ (by simp)
 ·split at h
  ·rename_i cD;simp at h;obtain ⟨rfl,rfl⟩:=h;exact cD
  ·simp at h
theorem aaC {t:TypeId}{x:Operand}(h:cJ g s ay a w)(ao:I.op = .load t x)(aw:eQ P s.E s.aW aU I cM=some bC)(cz:∀p∈bC.fv,p):Fin P g s a w I bC:=by
 simp only [eQ,ao] at aw
 have R:=h.eval x
 split at aw
 ·rename_i r k i off gK
  rw [gK] at R
  split at aw
  ·rename_i ak ah bo
   split at aw
   ·rename_i c aQ nc
    split at aw
    ·rename_i v bj
     simp only [Option.some.injEq] at aw
     subst aw
     have kc:s.ak r k=some ak:=sS bo fun p ai=>cz p (by simp [ai])
     have qH:=z9 nc fun p ai=>cz p (by simp [ai])
     have fs:=h.obj r k ak kc
     rcases R.xB (iv kc) with h0|⟨b,m,ai,hval⟩
     ·rw [h0] at fs
      simp only [jg] at fs
      rw [fs] at qH;simp at qH
     ·rw [ai] at fs
      obtain ⟨u,h1,o⟩:=Jy (P:=P) fs.rd qH bj
      refine iu (v:=u) h ?_ rfl o
      rw [Nat.zero_add] at h1
      simp [execOp,ao,hval,h1]
    ·simp at aw
   ·simp at aw
  ·simp at aw
 ·rename_i sz es i off gK
  rw [gK] at R
  split at aw
  ·rename_i c aQ nc
   split at aw
   ·rename_i v bj
    simp only [Option.some.injEq] at aw
    subst aw
    have qH:=z9 nc fun p ai=>cz p (by simp [ai])
    obtain ⟨d7,b6,aS,hval,ie⟩:=R.xC
    obtain ⟨u,h1,o⟩:=Jy (P:=P) ie qH bj
    refine iu (v:=u) h ?_ rfl o
    simp [execOp,ao,hval,h1]
   ·simp at aw
  ·simp at aw
 ·simp at aw
end
end Go.VL
namespace Go.VL
set_option linter.unusedVariables false
set_option linter.unusedSimpArgs false
open Go
section
variable {P:Program} {g:G} {s:S} {ay:fm} {a:Act} {w:World} {I:Oper} {cM:fz} {aU:Nat} {bC:h4}
theorem OS (h:cJ g s ay a w){r k i off:Nat}{row:List ab}{ak:ab}{c:List aB}{t:TypeId}{x y:Operand}(ao:I.op = .store t x y)
 (gK:fc s.E x = .ref r k i off) (dw:s.aW r=some row) (bo:s.ak r k=some ak) (ba:ak.cm = .live) (nc:ak.es[i]? = some c)
 (lN:(fc s.E y).one=true∨ ∃c,fc s.E y = .agg c) (eP:(fc s.E y).cells.length=P.cellsOf t) (Ld:(P.info? t).isSome=true)
 (ib:off+(fc s.E y).cells.length≤c.length) (aw:bC.val = .dead) (hu:bC.fL=[(r,row.set k {ak with es:=ak.es.set i (setCells c off (fc s.E y).cells)})]):Fin P g s a w I bC:=by
 have R:=h.eval x
 rw [gK] at R
 have fs:=h.obj r k ak bo
 rcases R.xB (iv bo) with h0|⟨b,m,ai,hval⟩
 ·rw [h0] at fs;simp only [jg] at fs;rw [fs] at nc;simp at nc
 ·obtain ⟨bL,h1,o⟩:=X2 (P:=P) h dw bo ba ai nc Ld (h.eval y) lN eP ib
  refine ⟨undef,bL,ay,.inr ⟨?_,rfl⟩,by rw [hu];exact o,by rw [aw];exact .dead _⟩
  simp [execOp,ao,hval,h1]
theorem ZK {t:TypeId}{x y:Operand}(h:cJ g s ay a w)(ao:I.op = .store t x y)(aw:eQ P s.E s.aW aU I cM=some bC)(cz:∀p∈bC.fv,p):Fin P g s a w I bC:=by
 simp only [eQ,ao] at aw
 split at aw
 ·rename_i r k i off gK
  split at aw
  ·simp at aw
  ·rename_i row dw
   split at aw
   ·rename_i ak ah ab2
    split at aw
    ·simp at aw
    ·rename_i ba
     have ba:ak.cm = .live:=by simpa using ba
     split at aw
     ·simp at aw
     ·rename_i lN
      have lN:=aB.N7 (by simpa using lN)
      split at aw
      ·simp at aw
      ·rename_i eP
       simp only [not_or,Decidable.not_not,Bool.not_eq_false] at eP
       have kc:(∀p∈ah,p)→s.ak r k=some ak:=fun bE=>by
        have:=sS ab2 bE
        unfold S.ak;rw [dw];exact this
       split at aw
       ·split at aw
        ·rename_i x3
         simp only [Option.some.injEq] at aw
         subst aw;subst x3
         have dz:i<ak.es.length:=cz _ (by simp)
         have iy:(fc s.E y).cells.length=ak.sz:=cz _ (by simp)
         have AZ:=kc fun p ai=>cz p (by simp [ai])
         have hlen:(ak.es[i]).length=ak.sz:=by
          have fs:=h.obj r k ak AZ
          cases ai:ay r k with
          | none=>rw [ai] at fs;simp only [jg] at fs;rw [fs] at dz;simp at dz
          | some q =>
           rw [ai] at fs
           obtain ⟨_,_,_,_,ae,_⟩:=fs
           exact ae _ (List.getElem_mem dz)
         refine OS h ao gK dw AZ ba (c:=ak.es[i]) (List.getElem?_eq_getElem dz) lN eP.1 eP.2 (by omega) rfl ?_
         have e:setCells ak.es[i] 0 (fc s.E y).cells=(fc s.E y).cells:=by
          simp [setCells,hlen,iy]
         rw [e]
        ·simp at aw
       ·split at aw
        ·rename_i c aQ nc
         split at aw
         ·rename_i ib
          simp only [Option.some.injEq] at aw
          subst aw
          exact OS h ao gK dw (kc fun p ai=>cz p (by simp [ai])) ba (z9 nc fun p ai=>cz p (by simp [ai])) lN eP.1 eP.2 ib rfl rfl
         ·simp at aw
        ·simp at aw
   ·simp at aw
 ·simp at aw
theorem X3 {x:Operand}(h:cJ g s ay a w)(ao:I.op = .nilCheck x)(aw:eQ P s.E s.aW aU I cM=some bC)(cz:∀p∈bC.fv,p):Fin P g s a w I bC:=by
 simp only [eQ,ao] at aw
 have R:=h.eval x
 split at aw
 ·rename_i r k i off gK
  rw [gK] at R
  split at aw
  ·rename_i ak ah bo
   split at aw
   ·rename_i c aQ nc
    simp only [Option.some.injEq] at aw
    subst aw
    have kc:s.ak r k=some ak:=sS bo fun p ai=>cz p (by simp [ai])
    have qH:=z9 nc fun p ai=>cz p (by simp [ai])
    have fs:=h.obj r k ak kc
    rcases R.xB (iv kc) with h0|⟨b,m,ai,hval⟩
    ·rw [h0] at fs;simp only [jg] at fs;rw [fs] at qH;simp at qH
    ·refine iu (v:=a.eval x) h ?_ rfl R
     simp [execOp,ao,hval]
   ·simp at aw
  ·simp at aw
 ·rename_i sz es i off gK
  rw [gK] at R
  simp only [Option.some.injEq] at aw
  subst aw
  obtain ⟨d7,b6,aS,hval,ie⟩:=R.xC
  refine iu (v:=a.eval x) h ?_ rfl R
  simp [execOp,ao,hval]
 ·rename_i f c gK
  rw [gK] at R
  simp only [Option.some.injEq] at aw
  subst aw
  obtain ⟨vs,hval,-⟩:=R.DN
  refine iu (v:=a.eval x) h ?_ rfl R
  simp [execOp,ao,hval]
 ·simp at aw
theorem Y1 {op:BinOp}{t:TypeId}{x y z:aB}{ak:List Prop}(aw:KO op x y=some (z,ak))(cz:∀p∈ak,p)
 {ok:Nat→Prop} {a4:i7} {bg:iW} {kY kZ:Value} (R:Rel w ok a4 bg x kY) (a1:Rel w ok a4 bg y kZ) (p q:Operand) :
 ∃v,((do eqGuard op t p q kY kZ;binOp op t kY kZ):Sem Value).run P w = .ok v w∧Rel w ok a4 bg z v:=by
 unfold KO at aw
 split at aw
 ·rename_i k n ea nj
  have hO:=R.o1;have iX:=a1.o1
  subst hO;subst iX
  have dI : ∀op,eqGuard op t p q (.int k n) (.int ea nj)=pure ():=fun op=>eqGuard_at_int ..
  simp only [Sem.run_bind,dI,Sem.run_pure,Result.andThen_ok]
  split at aw
  ·simp only [Option.some.injEq,Prod.mk.injEq] at aw
   obtain ⟨rfl,rfl⟩:=aw
   have h0:0≤nj:=cz _ (by simp)
   exact ⟨_,by simp [binOp,Op.shift,show ¬nj<0 by omega],.n _ _⟩
  ·simp only [Option.some.injEq,Prod.mk.injEq] at aw
   obtain ⟨rfl,rfl⟩:=aw
   have h0:0≤nj:=cz _ (by simp)
   exact ⟨_,by simp [binOp,Op.shift,show ¬nj<0 by omega],.n _ _⟩
  ·split at aw
   ·simp at aw
   ·rename_i ba
    have ba:k=ea:=by simpa using ba
    subst ba
    split at aw<;>simp only [Option.some.injEq,Prod.mk.injEq,reduceCtorEq] at aw
    all_goals (obtain ⟨rfl,rfl⟩:=aw)
    case h_4|h_5 =>
     have h0:nj≠0:=cz _ (by simp)
     exact ⟨_,by simp [binOp,Op.intDiv,h0],.n _ _⟩
    all_goals first
     | (refine ⟨_,?_,.n _ _⟩;rw [binOp_add];rfl)
     | (refine ⟨_,?_,.n _ _⟩;rw [binOp_sub];rfl)
     | (refine ⟨_,?_,.n _ _⟩;rw [binOp_mul];rfl)
     | (refine ⟨_,?_,.n _ _⟩;rw [binOp_and];rfl)
     | (refine ⟨_,?_,.n _ _⟩;rw [binOp_or];rfl)
     | (refine ⟨_,?_,.n _ _⟩;rw [binOp_xor];rfl)
     | (refine ⟨_,?_,.b _⟩;simp [binOp,Op.intCmp];done)
 ·rename_i cH lW
  have hO:=R.xR;have iX:=a1.xR
  subst hO;subst iX
  have dI : ∀op,eqGuard op t p q (.string cH) (.string lW)=pure ():=fun op=>eqGuard_at_string ..
  simp only [Sem.run_bind,dI,Sem.run_pure,Result.andThen_ok]
  split at aw<;>simp only [Option.some.injEq,Prod.mk.injEq,reduceCtorEq] at aw
  all_goals (obtain ⟨rfl,rfl⟩:=aw)
  ·have h0:cH.size+lW.size<9223372036854775808:=cz _ (by simp)
   refine ⟨_,?_,.s _⟩
   have h1 : ¬((cH.size+lW.size:Nat):Int)>IntKind.i64.max:=by rw [IntKind.max_i64];omega
   rw [IntKind.max_i64] at h1
   simp [binOp,Op.stringOp]
   omega
  ·exact ⟨_,by simp [binOp,Op.stringOp],.b _⟩
  ·exact ⟨_,by simp [binOp,Op.stringOp],.b _⟩
 ·simp at aw
theorem uk (t:TypeId)(x y:Value):Op.equal t x y=Op.equalIn (9999+1) t x y:=rfl
theorem zH {t:TypeId}{a b:Bool}(d:Nat)(bG:P.underlying t=some .bool):(Op.equalIn (d+1) t (.bool a) (.bool b)).run P w = .ok (a == b) w:=by
 unfold Op.equalIn;simp [run_underlying bG]
theorem z2 {t e:TypeId}(d:Nat)(bG:P.underlying t=some (.pointer e)):(Op.equalIn (d+1) t (.pointer none) (.pointer none)).run P w = .ok true w:=by
 unfold Op.equalIn;simp [run_underlying bG]
theorem z3 {t e:TypeId}{a:Addr}(d:Nat)(bG:P.underlying t=some (.pointer e)):(Op.equalIn (d+1) t (.pointer (some a)) (.pointer none)).run P w = .ok false w:=by
 unfold Op.equalIn;simp [run_underlying bG]
theorem z4 {t e:TypeId}{a:Addr}(d:Nat)(bG:P.underlying t=some (.pointer e)):(Op.equalIn (d+1) t (.pointer none) (.pointer (some a))).run P w = .ok false w:=by
 unfold Op.equalIn;simp [run_underlying bG]
theorem z5 {t e:TypeId}(d:Nat)(bG:P.underlying t=some (.slice e)):(Op.equalIn (d+1) t (.slice none 0 0) (.slice none 0 0)).run P w = .ok true w:=by
 unfold Op.equalIn;simp [run_underlying bG]
theorem Om {t e:TypeId}{a:Addr}{c:Nat}(d:Nat)(bG:P.underlying t=some (.slice e))(n:Nat):(Op.equalIn (d+1) t (.slice (some a) n c) (.slice none 0 0)).run P w = .ok false w:=by
 unfold Op.equalIn;simp [run_underlying bG]
theorem xv {t:TypeId}{x y:aB}{r:Bool}(aw:ru P t x y=some r)
 {ok:Nat→Prop} {a4:i7} {bg:iW} {kY kZ:Value} (R:Rel w ok a4 bg x kY) (a1:Rel w ok a4 bg y kZ) (p q:Operand) :
 ((do eqGuard .eql t p q kY kZ;binOp .eql t kY kZ):Sem Value).run P w = .ok (.bool r) w ∧
 ((do eqGuard .neq t p q kY kZ;binOp .neq t kY kZ):Sem Value).run P w = .ok (.bool !r) w:=by
 have key : ∀b:Bool,(∀op,eqGuard op t p q kY kZ=pure ())→binOp .eql t kY kZ=(do pure (.bool (← Op.equal t kY kZ)))→binOp .neq t kY kZ=(do pure (.bool (!(← Op.equal t kY kZ)))) →
  (Op.equal t kY kZ).run P w = .ok b w→((do eqGuard .eql t p q kY kZ;binOp .eql t kY kZ):Sem Value).run P w = .ok (.bool b) w ∧
  ((do eqGuard .neq t p q kY kZ;binOp .neq t kY kZ):Sem Value).run P w = .ok (.bool !b) w:=by
  intro b dI h1 o ae
  constructor
  ·rw [dI,h1];simp [ae]
  ·rw [dI,o];simp [ae]
 unfold ru at aw
 split at aw
 ·rename_i cH lW bG
  simp only [Option.some.injEq] at aw;subst aw
  have hO:=R.s0;have iX:=a1.s0
  subst hO;subst iX
  exact key _ (fun op=>eqGuard_at_bool ..) rfl rfl (by rw [uk];first|exact zH _ bG|exact z2 _ bG|exact z3 _ bG|exact z4 _ bG|exact z5 _ bG)
 ·rename_i e bG
  simp only [Option.some.injEq] at aw;subst aw
  have hO:=R.uq;have iX:=a1.uq
  subst hO;subst iX
  exact key _ (fun op=>eqGuard_at_pointer ..) rfl rfl (by rw [uk];first|exact zH _ bG|exact z2 _ bG|exact z3 _ bG|exact z4 _ bG|exact z5 _ bG)
 ·rename_i e sz es i off bG
  simp only [Option.some.injEq] at aw;subst aw
  obtain ⟨d7,b6,-,hO,-⟩:=R.xC
  have iX:=a1.uq
  subst hO;subst iX
  exact key _ (fun op=>eqGuard_at_pointer ..) rfl rfl (by rw [uk];first|exact zH _ bG|exact z2 _ bG|exact z3 _ bG|exact z4 _ bG|exact z5 _ bG)
 ·rename_i e sz es i off bG
  simp only [Option.some.injEq] at aw;subst aw
  obtain ⟨d7,b6,-,iX,-⟩:=a1.xC
  have hO:=R.uq
  subst hO;subst iX
  exact key _ (fun op=>eqGuard_at_pointer ..) rfl rfl (by rw [uk];first|exact zH _ bG|exact z2 _ bG|exact z3 _ bG|exact z4 _ bG|exact z5 _ bG)
 ·rename_i e bG
  simp only [Option.some.injEq] at aw;subst aw
  have hO:=R.pe;have iX:=a1.pe
  subst hO;subst iX
  exact key _ (fun op=>eqGuard_at_slice ..) rfl rfl (by rw [uk];first|exact zH _ bG|exact z2 _ bG|exact z3 _ bG|exact z4 _ bG|exact z5 _ bG)
 ·rename_i e bG
  simp only [Option.some.injEq] at aw;subst aw
  obtain ⟨vg,c,hO⟩:=R.DC
  have iX:=a1.pe
  subst hO;subst iX
  exact key _ (fun op=>eqGuard_at_slice ..) rfl rfl (by rw [uk];exact Om _ bG 0)
 ·simp at aw
theorem Qk {t e:TypeId}(bG:P.underlying t=some (.slice e)){sz:Nat}{es:List (List aB)}(dr:es≠[])
 {ok:Nat→Prop} {a4:i7} {bg:iW} {kY kZ:Value} (R:Rel w ok a4 bg (.isl sz es) kY) (a1:Rel w ok a4 bg .eT kZ) (p q:Operand) :
 ((do eqGuard .eql t p q kY kZ;binOp .eql t kY kZ):Sem Value).run P w = .ok (.bool false) w ∧
 ((do eqGuard .neq t p q kY kZ;binOp .neq t kY kZ):Sem Value).run P w = .ok (.bool true) w:=by
 rcases R.rU with ⟨h0,-⟩|⟨d7,off,c,-,hO,-⟩
 ·exact absurd h0 dr
 ·have iX:=a1.pe
  subst hO;subst iX
  have ae:(Op.equal t (.slice (some ⟨d7,off,none⟩) es.length c) (.slice none 0 0)).run P w = .ok false w:=by rw [uk];exact Om _ bG _
  have dI : ∀op,eqGuard op t p q (.slice (some ⟨d7,off,none⟩) es.length c) (.slice none 0 0)=pure ():=fun op=>eqGuard_at_slice ..
  have h1:binOp .eql t (.slice (some ⟨d7,off,none⟩) es.length c) (.slice none 0 0)=(do pure (.bool (← Op.equal t (.slice (some ⟨d7,off,none⟩) es.length c) (.slice none 0 0)))):=rfl
  have o:binOp .neq t (.slice (some ⟨d7,off,none⟩) es.length c) (.slice none 0 0)=(do pure (.bool (!(← Op.equal t (.slice (some ⟨d7,off,none⟩) es.length c) (.slice none 0 0))))):=rfl
  constructor
  ·rw [dI,h1];simp [ae]
  ·rw [dI,o];simp [ae]
theorem ZL {op:BinOp}{t da:TypeId}{x y:Operand}(h:cJ g s ay a w)(ao:I.op = .binOp op t x y da)(aw:eQ P s.E s.aW aU I cM=some bC)(cz:∀p∈bC.fv,p):Fin P g s a w I bC:=by
 simp only [eQ,ao] at aw
 have R:=h.eval x
 have a1:=h.eval y
 split at aw
 ·rename_i v ak aS
  simp only [Option.some.injEq] at aw
  subst aw
  obtain ⟨u,h1,o⟩:=Y1 (P:=P) (t:=t) aS cz R a1 x y
  refine iu (v:=u) h ?_ rfl o
  simp only [execOp,ao]
  rw [Sem.run_bind,h1];rfl
 ·split at aw
  ·cases he:ru P t (fc s.E x) (fc s.E y) with
   | none=>simp [he] at aw
   | some r =>
    simp [he] at aw;subst aw
    refine iu (v:= .bool r) h ?_ rfl (.b r)
    simp only [execOp,ao]
    rw [Sem.run_bind,(xv (w:=w) he R a1 x y).1];rfl
  ·cases he:ru P t (fc s.E x) (fc s.E y) with
   | none=>simp [he] at aw
   | some r =>
    simp [he] at aw;subst aw
    refine iu (v:= .bool !r) h ?_ rfl (.b _)
    simp only [execOp,ao]
    rw [Sem.run_bind,(xv (w:=w) he R a1 x y).2];rfl
  ·simp at aw
theorem aaD {op:UnOp}{t:TypeId}{x:Operand}(h:cJ g s ay a w)(ao:I.op = .unOp op t x)(aw:eQ P s.E s.aW aU I cM=some bC):Fin P g s a w I bC:=by
 simp only [eQ,ao] at aw
 have R:=h.eval x
 cases he:Lb op (fc s.E x) with
 | none=>simp [he] at aw
 | some v =>
  simp [he] at aw;subst aw
  unfold Lb at he
  split at he
  ·rename_i k n gK
   rw [gK] at R
   simp only [Option.some.injEq] at he;subst he
   refine iu (v:= .int k (k.wrap (0-n))) h ?_ rfl (.n _ _)
   simp [execOp,ao,R.o1,Op.unary,Op.intArith]
  ·rename_i b gK
   rw [gK] at R
   simp only [Option.some.injEq] at he;subst he
   refine iu (v:= .bool !b) h ?_ rfl (.b _)
   simp [execOp,ao,R.s0,Op.unary]
  ·simp at he
theorem Yp {t da:TypeId}{x:Operand}(h:cJ g s ay a w)(ao:I.op = .convert t da x)(aw:eQ P s.E s.aW aU I cM=some bC):Fin P g s a w I bC:=by
 simp only [eQ,ao] at aw
 have R:=h.eval x
 split at aw
 ·rename_i k ea n bG gK
  rw [gK] at R
  split at aw
  case isFalse=>simp at aw
  rename_i bV
  simp only [Option.some.injEq] at aw
  subst aw
  refine iu (v:= .int k (k.wrap n)) h ?_ rfl (.n _ _)
  cases Rt:P.underlying t with
  | none=>simp [Rt] at bV
  | some d=>simp [execOp,ao,R.o1,convert,run_underlying bG,run_underlying Rt,Conv.intToInt]
 ·rename_i r k bT len bG gK
  rw [gK] at R
  split at aw
  ·rename_i ak D2 bo
   split at aw
   ·rename_i ni Bn
    split at aw
    ·rename_i bf
     simp only [Option.some.injEq] at aw
     subst aw
     obtain ⟨e,bV,he⟩ : ∃e,P.underlying t=some (.slice e)∧P.underlying e=some (.int .u8):=by
      unfold pj at D2
      split at D2
      ·rename_i e bV;exact ⟨e,bV,D2⟩
      ·simp at D2
     have dR:s.ak r k=some ak:=bo
     have fs:=h.obj r k ak dR
     have hzero : ∀(k0:Option Addr) (c:Nat),len=0→(convert t da (.slice k0 0 c)).run P w = .ok (.string (x2 ni)) w:=by
      intro k0 c h0
      subst h0
      have:ni=[]:=by simpa [bytesOf] using Bn
      subst this
      cases k0 with
      | none=>rw [run_convert_bytes_string w t da e none 0 c bV he bG];simp [Conv.bytesToString,x2]
      | some k0 =>
       rw [run_convert_bytes_string w t da e (some k0) 0 c bV he bG,run_bytesToString w k0 0 c [] (by
        have:=run_loadCells_list (P:=P) w k0 [] (fun j v aI=>by simp at aI)
        simpa using this)]
       rfl
     rcases R.Al (iv dR) with ⟨ai,rfl,rfl,hval⟩|⟨b,m,A,c,ai,hval,qM,si,hm⟩
     ·refine iu (v:= .string (x2 ni)) h ?_ rfl (.s _)
      simp [execOp,ao,hval,hzero none 0 rfl]
     ·refine iu (v:= .string (x2 ni)) h ?_ rfl (.s _)
      by_cases h0:len=0
      ·subst h0;simp [execOp,ao,hval,hzero A c rfl]
      ·rcases hm with hm|⟨hA,hm⟩
       ·omega
       ·subst hA
        rw [ai] at fs
        have ie:=fs.rd
        have yb : ∀(es:List (List aB)) (ni:List Int),bytesOf es=some ni→es.length=ni.length∧ ∀(i:Nat) n,ni[i]? = some n→es[i]? = some [.n .u8 n]:=by
         intro es
         induction es with
         | nil=>intro ni h;simp [bytesOf] at h;subst h;exact ⟨rfl,fun i n aq=>by simp at aq⟩
         | cons x es ih =>
          intro ni h
          unfold bytesOf at h
          split at h
          ·simp at *
          ·rename_i lk afA yc
           simp only [List.cons.injEq] at yc
           obtain ⟨rfl,rfl⟩:=yc
           rw [Option.map_eq_some_iff] at h
           obtain ⟨fO,Ed,rfl⟩:=h
           obtain ⟨e1,aC⟩:=ih fO Ed
           refine ⟨by simp [e1],fun i n aq=> ?_⟩
           cases i with
           | zero=>simp at aq;subst aq;rfl
           | succ i=>simpa using aC i n (by simpa using aq)
          ·simp at h
        obtain ⟨e1,aC⟩:=yb _ _ Bn
        have hlen:ni.length=len:=by rw [← e1];simp;omega
        have Ky:(loadCells ⟨b,bT*ak.sz,none⟩ len).run P w = .ok (ni.map (Value.int .u8)).toArray w:=by
         have:=run_loadCells_list (P:=P) w ⟨b,bT*ak.sz,none⟩ (ni.map (Value.int .u8)) (fun j v aI=>by
          rw [List.getElem?_map,Option.map_eq_some_iff] at aI
          obtain ⟨n,a5,rfl⟩:=aI
          have lS:=aC j n a5
          have uR:j<len:=by rw [← hlen];exact (List.getElem?_eq_some_iff.1 a5).1
          rw [List.getElem?_take_of_lt uR,List.getElem?_drop] at lS
          obtain ⟨v,v1,v2,v3⟩:=ie.2 ((bT+j)*ak.sz+0) (.n .u8 n) (by rw [z0 ie.1 lS (by omega)];rfl)
          have bj:=v3.o1
          subst bj
          rw [rf,← v1,bf.2]
          congr 2
          omega)
         rw [List.length_map,hlen] at this
         exact this
        have o:=run_bytesToString w ⟨b,bT*ak.sz,none⟩ len c ni Ky
        rw [← run_convert_bytes_string w t da e _ len c bV he bG] at o
        simp [execOp,ao,hval,o,x2]
    ·simp at aw
   ·simp at aw
  ·simp at aw
 ·simp at aw
theorem X4 {f:Fn}{B6 cj:Array Operand}(h:cJ g s ay a w)(ao:I.op = .makeFunc f B6 cj)(aw:eQ P s.E s.aW aU I cM=some bC):Fin P g s a w I bC:=by
 cases f with
 | func n =>
  simp only [eQ,ao] at aw
  split at aw
  ·rename_i acL
   simp only [Option.some.injEq] at aw;subst aw
   refine iu (v:= .func (.func n) #[] (cj.map a.eval)) h ?_ rfl ?_
   ·have:B6 = #[]:=by simpa using acL
    subst this
    simp [execOp,ao,Instr.makeFunc]
   ·have:=Rel.fn (f:=n) (c:=cj.toList.map (fc s.E)) (w:=w) (ok:=s.ok g ay w) (a4:=s.a4) (bg:=s.bg ay) (cj.toList.map a.eval) (by simp) (by
     intro j x v R bj
     rw [List.getElem?_map,Option.map_eq_some_iff] at R bj
     obtain ⟨p,ai,rfl⟩:=R
     obtain ⟨q,bc,rfl⟩:=bj
     rw [ai] at bc;simp at bc;subst bc
     exact h.eval p)
    have e:(cj.toList.map a.eval).toArray=cj.map a.eval:=by apply Array.ext';rw [Array.toList_map]
    rw [e] at this
    exact this
  ·simp at aw
 | _=>simp [eQ,ao] at aw
theorem Yq {i:Nat}{x:Operand}(h:cJ g s ay a w)(ao:I.op = .extract x i)(aw:eQ P s.E s.aW aU I cM=some bC):Fin P g s a w I bC:=by
 simp only [eQ,ao] at aw
 have R:=h.eval x
 split at aw
 ·rename_i vs gK
  rw [gK] at R
  cases aq:vs[i]? with
  | none=>simp [aq] at aw
  | some v =>
   simp [aq] at aw;subst aw
   obtain ⟨a4,hval,aV,ar⟩:=R.xA
   have dz:i<a4.length:=by
    rcases Nat.lt_or_ge i vs.length with cD|cD
    ·omega
    ·rw [List.getElem?_eq_none cD] at aq;simp at aq
   have hu:a4[i]? = some a4[i]:=List.getElem?_eq_getElem dz
   refine iu (v:=a4[i]) h ?_ rfl (ar i v _ aq hu)
   simp [execOp,ao,hval,Instr.extract,hu]
 ·simp at aw
end
end Go.VL
namespace Go.VL
set_option linter.unusedVariables false
set_option linter.unusedSimpArgs false
open Go
section
variable {P:Program} {g:G} {s:S} {ay:fm} {a:Act} {w:World} {I:Oper} {cM:fz} {aU:Nat} {bC:h4}
theorem rh {t e:TypeId}(h:pj P t=some e):P.underlying t=some (.slice e):=by
 unfold pj at h
 split at h
 ·rename_i eH he;simp at h;subst h;exact he
 ·simp at h
theorem Jr {t:TypeId}{kC:Array Field}(h:fieldsOf P t=some kC):P.underlying t=some (.struct kC):=by
 unfold fieldsOf at h
 split at h
 ·rename_i eH he;simp at h;subst h;exact he
 ·simp at h
theorem NR : ∀(z c:List aB),(qy z c).length=z.length
 | x::z,y::c=>by simp [qy,NR z c]
 | [],_=>by simp [qy]
 | _::_,[]=>by simp [qy]
theorem XG (z:List aB)(cM:fz):(r3 z cM).length=z.length:=by
 unfold r3
 split
 ·exact NR z _
 ·rfl
theorem Yr (x y:aB){w:World}{ok:Nat→Prop}{a4:i7}{bg:iW}{v:Value}(h:Rel w ok a4 bg x v):Rel w ok a4 bg (At x y) v:=by
 unfold At
 split
 ·rw [h.pe];exact .kb _ _ _ (fun _=>rfl)
 ·rw [h.uq];exact .o3 _
 ·rw [h.pe];exact .mI (.kb _ _ _ (fun _=>rfl))
 ·exact h
theorem OT : ∀(z c:List aB) (j:Nat) q,(qy z c)[j]? = some q→ ∃x,z[j]? = some x∧(q=x∨ ∃y,q=At x y)
 | x::z,y::c,0,q,h=>by simp [qy] at h;exact ⟨x,rfl,.inr ⟨y,h.symm⟩⟩
 | x::z,y::c,j+1,q,h=>by
  simp only [qy,List.getElem?_cons_succ] at h
  simpa using OT z c j q h
 | [],c,j,q,h=>by simp [qy] at h
 | x::z,[],j,q,h=>⟨q,by simpa [qy] using h,.inl rfl⟩
theorem ZM (z:List aB)(cM:fz)(j:Nat)(q:aB)(h:(r3 z cM)[j]? = some q): ∃x,z[j]? = some x∧(q=x∨ ∃y,q=At x y):=by
 unfold r3 at h
 split at h
 ·exact OT z _ j q h
 ·exact ⟨q,h,.inl rfl⟩
theorem XH {t:TypeId}{x y:Operand}(h:cJ g s ay a w)(eU:s.aW aU=none)(ao:I.op = .makeSlice t x y)(aw:eQ P s.E s.aW aU I cM=some bC)(cz:∀p∈bC.fv,p):Fin P g s a w I bC:=by
 simp only [eQ,ao] at aw
 have R:=h.eval x
 have a1:=h.eval y
 split at aw
 ·rename_i e mW l ll c he ab3 ab4
  rw [ab3] at R;rw [ab4] at a1
  split at aw
  ·rename_i i z aq cw
   obtain ⟨eA,ez,kz,kX,pB,Ql⟩:=z1 cw
   rw [aq] at kz;simp at kz;subst kz
   simp only [Option.ite_none_right_eq_some,Option.some.injEq] at aw
   obtain ⟨eP,aw⟩:=aw
   subst aw
   have nc:=XG z cM
   have jY : ∀(j:Nat) q,(r3 z cM)[j]? = some q→ ∃v,ez.cells[j]? = some v∧VL.j9 v=true∧ ∀w ok a4 bg,Rel w ok a4 bg q v:=by
    intro j q bc
    obtain ⟨x,dE,nd⟩:=ZM z cM j q bc
    obtain ⟨v,v1,v2,v3⟩:=Ql j x dE
    refine ⟨v,v1,v2,fun w ok a4 bg=> ?_⟩
    rcases nd with rfl|⟨y,rfl⟩
    ·exact v3 w ok a4 bg
    ·exact Yr x y (v3 w ok a4 bg)
   clear Ql
   have h0:0≤l:=cz _ (by simp)
   have h1:l≤c:=cz _ (by simp)
   have o:(i.bytes:Int)*c≤281474976710656:=cz _ (by simp)
   have ae:c<9223372036854775808:=cz _ (by simp)
   have nf:z.length=ez.cells.size:=by rw [pB];simp
   have iS:=run_make (P:=P) w t e i ez (rh he) aq kX mW ll l c h0 h1 o (by omega)
   refine DD (v:= .slice (some ⟨w.heap.size,0,none⟩) l.toNat c.toNat) (ak:=⟨z.length,List.replicate l.toNat (r3 z cM),.live⟩) (c:=madeCells ez.cells (c.toNat*i.size)) (eC:=e) h eU rfl ?_ rfl ?_ ?_ ?_
   ·simp [execOp,ao,R.o1,a1.o1,iS]
   ·intro eH lQ;rw [List.eq_of_mem_replicate lQ];exact nc
   ·intro j q bc
    have aV : ∀eH∈List.replicate l.toNat (r3 z cM),eH.length=z.length:=fun eH lQ=>by rw [List.eq_of_mem_replicate lQ];exact nc
    rcases Nat.eq_zero_or_pos z.length with qN|Ee
    ·have:r3 z cM=[]:=List.length_eq_zero_iff.1 (by omega)
     rw [this] at bc
     simp at bc
    ·rw [oW Ee _ aV,List.getElem?_replicate] at bc
     by_cases aI:j / z.length<l.toNat
     ·rw [if_pos aI] at bc
      simp only [Option.bind_some] at bc
      obtain ⟨v,e1,aC,bR⟩:=jY _ _ bc
      refine ⟨v,?_,aC,bR _ _ _ _⟩
      have dz:j<c.toNat*i.size:=by
       rw [← eP]
       have:j<l.toNat*z.length:=(Nat.div_lt_iff_lt_mul Ee).1 aI
       exact Nat.lt_of_lt_of_le this (Nat.mul_le_mul_right _ (by omega))
      simp only [madeCells]
      rw [Array.getElem?_map,Array.getElem?_range]
      simp only [dz,if_true,Option.map_some]
      rw [nf] at e1
      have hm:j % ez.cells.size<ez.cells.size:=Nat.mod_lt _ (by omega)
      rw [Array.getElem?_eq_getElem hm] at e1
      rw [getElem!_pos ez.cells _ hm];exact e1
     ·rw [if_neg aI] at bc;simp at bc
   ·intro bL kM mN l9 hu cb
    refine Rel.bm hu cb (by omega) (by omega) ⟨?_,.inr (by simp)⟩
    rw [size_madeCells]
    simp only [Nat.zero_add,eP]
  ·simp at aw
 ·simp at aw
theorem XI {t:TypeId}{x:Operand}{f:Nat}(h:cJ g s ay a w)(ao:I.op = .fieldAddr t x f)(aw:eQ P s.E s.aW aU I cM=some bC)(cz:∀p∈bC.fv,p):Fin P g s a w I bC:=by
 simp only [eQ,ao] at aw
 have R:=h.eval x
 split at aw
 ·rename_i kC Bo
  split at aw
  ·rename_i fd te
   split at aw
   ·simp at aw
   ·rename_i Ru
    have aq:(P.info? fd.type).isSome=true:=by
     cases aq:P.info? fd.type with
     | none=>simp [Program.cellsOf,aq] at Ru
     | some i=>rfl
    have iS : ∀A:Addr,A.spot=none→(Instr.fieldAt t (.pointer (some A)) f).run P w = .ok (.pointer (some ⟨A.block,A.off+fd.offset,none⟩)) w:=by
     intro A hA
     have e:A.add fd.offset=⟨A.block,A.off+fd.offset,none⟩:=by
      obtain ⟨b,I,sp⟩:=A
      simp only at hA;subst hA
      exact rf b I _
     simp [Instr.fieldAt,run_underlying (Jr Bo),te,Instr.sureAddr,fieldPlace,ue aq,Ru,e]
    split at aw
    ·rename_i r k i off gK
     rw [gK] at R
     split at aw
     ·rename_i ak ah bo
      split at aw
      ·rename_i c aQ nc
       simp only [Option.some.injEq] at aw;subst aw
       have kc:s.ak r k=some ak:=sS bo fun p ai=>cz p (by simp [ai])
       have qH:=z9 nc fun p ai=>cz p (by simp [ai])
       have fs:=h.obj r k ak kc
       rcases R.xB (iv kc) with h0|⟨b,m,ai,hval⟩
       ·rw [h0] at fs;simp only [jg] at fs;rw [fs] at qH;simp at qH
       ·refine iu (v:= .pointer (some ⟨b,i*ak.sz+(off+fd.offset),none⟩)) h ?_ rfl ?_
        ·simp [execOp,ao,hval,iS,Nat.add_assoc]
        ·exact R.Y0 ((iv kc).trans (by rw [ai])) _
      ·simp at aw
     ·simp at aw
    ·rename_i sz es i off gK
     rw [gK] at R
     simp only [Option.some.injEq] at aw;subst aw
     obtain ⟨d7,b6,aS,hval,ie⟩:=R.xC
     refine iu (v:= .pointer (some ⟨d7,b6+(i*sz+(off+fd.offset)),none⟩)) h ?_ rfl (ie.dY aS)
     simp [execOp,ao,hval,iS,Nat.add_assoc]
    ·simp at aw
  ·simp at aw
 ·simp at aw
theorem XJ {t:TypeId}{x y:Operand}(h:cJ g s ay a w)(ao:I.op = .indexAddr t x y)(aw:eQ P s.E s.aW aU I cM=some bC)(cz:∀p∈bC.fv,p):Fin P g s a w I bC:=by
 simp only [eQ,ao] at aw
 have R:=h.eval x
 have a1:=h.eval y
 split at aw
 ·rename_i e k j he gK
  rw [gK] at a1
  have hu:=rh he
  have iS : ∀(b I len cap:Nat),0≤j→j<len→(P.info? e).isSome=true →
   (Instr.indexAt t (.slice (some ⟨b,I,none⟩) len cap) (.int k j)).run P w = .ok (.pointer (some ⟨b,I+j.toNat*P.cellsOf e,none⟩)) w:=by
   intro b I len cap h0 h1 aq
   have eH:=rf b I (j.toNat*P.cellsOf e)
   simp [Instr.indexAt,asIntOf,run_underlying hu,h0,h1,ue aq,eH]
  have uF : ∀sz,sz=P.cellsOf e→sz≠0→(P.info? e).isSome=true:=by
   intro sz bV cw
   cases aq:P.info? e with
   | none=>simp [Program.cellsOf,aq] at bV;exact absurd bV cw
   | some i=>rfl
  split at aw
  ·rename_i sz es A0
   rw [A0] at R
   simp only [Option.ite_none_right_eq_some,Option.some.injEq] at aw
   obtain ⟨⟨bV,cw⟩,aw⟩:=aw
   subst aw
   have h0:0≤j:=cz _ (by simp)
   have h1:j<es.length:=cz _ (by simp)
   rcases R.rU with ⟨Bp,-⟩|⟨d7,off,c,aS,hval,bf,ie⟩
   ·subst Bp;simp at h1;omega
   ·refine iu (v:= .pointer (some ⟨d7,off+(j.toNat*sz+0),none⟩)) h ?_ rfl (ie.dY aS)
    simp [execOp,ao,hval,a1.o1,iS _ _ _ _ h0 h1 (uF sz bV cw),bV]
  ·rename_i r q bT len A0
   rw [A0] at R
   split at aw
   ·rename_i row dw
    split at aw
    ·rename_i ak ah bo
     simp only [Option.ite_none_right_eq_some,Option.some.injEq] at aw
     obtain ⟨⟨bV,cw⟩,aw⟩:=aw
     subst aw
     have kc:s.ak r q=some ak:=by
      unfold S.ak;rw [dw];exact sS bo fun p ai=>cz p (by simp [ai])
     have h0:0≤j:=cz _ (by simp)
     have h1:j<len:=cz _ (by simp)
     rcases R.Al (iv kc) with ⟨-,-,o,-⟩|⟨b,m,A,c,ai,hval,aV,-,hm⟩
     ·subst o;simp at h1;omega
     ·rcases hm with hm|⟨hA,hm⟩
      ·omega
      ·subst hA
       have jl:=Dr kc
       refine iu (v:= .pointer (some ⟨b,(bT+j.toNat)*ak.sz+0,none⟩)) h ?_ rfl (.ref jl ((iv kc).trans (by rw [ai])))
       simp [execOp,ao,hval,a1.o1,iS _ _ _ _ h0 h1 (uF _ bV cw),bV,Nat.add_mul]
    ·simp at aw
   ·simp at aw
  ·simp at aw
 ·simp at aw
theorem ZN {t:TypeId}{x y:Operand}(h:cJ g s ay a w)(ao:I.op = .index t x y)(aw:eQ P s.E s.aW aU I cM=some bC)(cz:∀p∈bC.fv,p):Fin P g s a w I bC:=by
 simp only [eQ,ao] at aw
 have R:=h.eval x
 have a1:=h.eval y
 split at aw
 ·rename_i b k j hu A0 ab5
  rw [A0] at R;rw [ab5] at a1
  simp only [Option.some.injEq] at aw;subst aw
  have h0:0≤j:=cz _ (by simp)
  have h1:j<b.size:=cz _ (by simp)
  have o:j.toNat<b.size:=by omega
  refine iu (v:= .int .u8 (b[j.toNat]).toNat) h ?_ rfl ?_
  ·simp [execOp,ao,R.xR,a1.o1,Instr.index,asIntOf,run_underlying hu,h0,o]
  ·have e:b.data.toList.getD j.toNat 0=b[j.toNat]:=by
    rw [List.getD_eq_getElem?_getD,Array.getElem?_toList,Array.getElem?_eq_getElem (by simpa using o)];rfl
   show Rel _ _ _ _ (.n .u8 _) _
   rw [e];exact .n _ _
 ·simp at aw
theorem aa8 {c:Call}(h:cJ g s ay a w)(ao:I.op = .call c)(bf:c.callee = .builtin .len)(aw:eQ P s.E s.aW aU I cM=some bC)(cz:∀p∈bC.fv,p):Fin P g s a w I bC:=by
 obtain ⟨Ef,args,mP⟩:=c
 simp only at bf;subst bf
 simp only [eQ,ao] at aw
 have key : ∀(x:Operand) (n:Nat) (t:TypeId) (v:Value),args.toList=[x]→mP = #[t]→bC.val = .n .i64 n→bC.fL=[]→a.eval x=v →
  (Builtin.len_ #[t] I.type #[v]).run P w = .ok (goInt n) w→Fin P g s a w I bC:=by
  intro x n t v hargs lT ar hq bj iS
  subst lT
  refine iu (v:=goInt n) h ?_ hq (by rw [ar];exact .n _ _)
  have bE:args = #[x]:=by apply Array.ext';simpa using hargs
  subst bE
  simp [execOp,ao,resolve,invoke,builtin,bj,iS]
 have hargs : ∀y,args.toList.map (fc s.E)=[y]→ ∃x,args.toList=[x]∧fc s.E x=y:=by
  intro y a1
  match aV:args.toList,a1 with
  | [x],a1=>simp at a1;exact ⟨x,rfl,a1⟩
 have nZ:decide (mP.size=1)=true→ ∃t,mP = #[t]∧mP.getD 0 0=t:=by
  intro eP
  have eP:mP.size=1:=by simpa using eP
  obtain ⟨l⟩:=mP
  match l,eP with
  | [t],_=>exact ⟨t,rfl,rfl⟩
 split at aw
 ·rename_i sz es e hm hu eP
  obtain ⟨x,R,gK⟩:=hargs _ hm
  obtain ⟨t,cb,nx⟩:=nZ eP
  rw [nx] at hu
  simp only [Option.some.injEq] at aw
  have ar:=h.eval x
  rw [gK] at ar
  rcases ar.rU with ⟨Bp,A,c,hval,hA⟩|⟨d7,off,c,aS,hval,-⟩
  ·exact key x es.length t _ R cb (by rw [← aw]) (by rw [← aw]) hval (by subst Bp;simp [Builtin.len_,run_underlying hu])
  ·exact key x es.length t _ R cb (by rw [← aw]) (by rw [← aw]) hval (by simp [Builtin.len_,run_underlying hu])
 ·rename_i r k bT len e hm hu eP
  obtain ⟨x,R,gK⟩:=hargs _ hm
  obtain ⟨t,cb,nx⟩:=nZ eP
  rw [nx] at hu
  split at aw
  ·rename_i row dw
   split at aw
   ·rename_i ak ah bo
    simp only [Option.some.injEq] at aw
    have ar:=h.eval x
    rw [gK] at ar
    have kc:s.ak r k=some ak:=by
     unfold S.ak;rw [dw];exact sS bo fun p ai=>cz p (by rw [← aw];exact ai)
    rcases ar.Al (iv kc) with ⟨-,-,o,hval⟩|⟨b,m,A,c,ai,hval,-⟩
    ·exact key x len t _ R cb (by rw [← aw]) (by rw [← aw]) hval (by subst o;simp [Builtin.len_,run_underlying hu])
    ·exact key x len t _ R cb (by rw [← aw]) (by rw [← aw]) hval (by simp [Builtin.len_,run_underlying hu])
   ·simp at aw
  ·simp at aw
 ·rename_i e hm hu eP
  obtain ⟨x,R,gK⟩:=hargs _ hm
  obtain ⟨t,cb,nx⟩:=nZ eP
  rw [nx] at hu
  simp only [Option.some.injEq] at aw
  have ar:=h.eval x
  rw [gK] at ar
  exact key x 0 t _ R cb (by rw [← aw];rfl) (by rw [← aw]) ar.pe (by simp [Builtin.len_,run_underlying hu])
 ·rename_i b hm hu eP
  obtain ⟨x,R,gK⟩:=hargs _ hm
  obtain ⟨t,cb,nx⟩:=nZ eP
  rw [nx] at hu
  simp only [Option.some.injEq] at aw
  have ar:=h.eval x
  rw [gK] at ar
  exact key x b.size t _ R cb (by rw [← aw]) (by rw [← aw]) ar.xR (by simp [Builtin.len_,run_underlying hu])
 ·simp at aw
theorem C5 {ok:Nat→Prop}{a4:i7}{bg:iW}{d7 off sz:Nat}{es:List (List aB)}(h:n8 w ok a4 bg d7 off sz es)(l n:Nat)(aV:l≤es.length):
 n8 w ok a4 bg d7 (off+l*sz) sz ((es.drop l).take n):=by
 have rs : ∀e∈(es.drop l).take n,e.length=sz:=fun e he=>h.1 e (List.mem_of_mem_drop (List.mem_of_mem_take he))
 refine ⟨rs,fun j x R=> ?_⟩
 rcases Nat.eq_zero_or_pos sz with h0|bV
 ·have e1 : ∀(l:List (List aB)),(∀e∈l,e.length=0)→l.flatten=[]:=by
   intro l aV;induction l with
   | nil=>rfl
   | cons a l ih=>rw [List.flatten_cons,ih fun e he=>aV e (by simp [he])];have:=aV a (by simp);simp_all
  rw [e1 _ (fun e he=>(rs e he).trans h0)] at R;simp at R
 ·rw [oW bV _ rs] at R
  have aI:j / sz<n:=by
   rcases Nat.lt_or_ge (j / sz) n with cD|cD
   ·exact cD
   ·rw [List.getElem?_eq_none (by simp;omega)] at R;simp at R
  rw [List.getElem?_take,if_pos aI,List.getElem?_drop] at R
  obtain ⟨v,e1,aC,bR⟩:=h.2 (l*sz+j) x (by
   rw [oW bV es h.1]
   have gg:(l*sz+j) / sz=l+j / sz:=by rw [Nat.mul_comm,Nat.mul_add_div bV]
   have hj:(l*sz+j) % sz=j % sz:=by rw [Nat.mul_comm,Nat.mul_add_mod]
   rw [gg,hj];exact R)
  exact ⟨v,by rw [Nat.add_assoc];exact e1,aC,bR⟩
theorem C1 {t e:TypeId}(hu:P.underlying t=some (.slice e))(aq:(P.info? e).isSome=true)(A:Option Addr)(len cap:Nat)(bT kz:Option Value)(l h:Nat)
 (Rv:(bT=none∧l=0)∨ ∃k,bT=some (.int k l)) (Rw:(kz=none∧h=len)∨ ∃k,kz=some (.int k h)) (h1:l≤h) (o:h≤len) (ae:len≤cap) :
 (Instr.sliceAt t (.slice A len cap) bT kz none).run P w = .ok (.slice (if cap=l then A else A.map (·.add (l*P.cellsOf e))) (h-l) (cap-l)) w:=by
 have aS : ∀(k:IntKind) (n y:Nat) (code:BoundsCode),n≤y→(Instr.sliceBound (.int k n) y code).run P w = .ok n w:=by
  intro k n y code a5
  simp [Instr.sliceBound,asIntOf,a5]
 rcases Rv with ⟨rfl,rfl⟩|⟨mW,rfl⟩<;>rcases Rw with ⟨rfl,rfl⟩|⟨ll,rfl⟩ <;>
  simp [Instr.sliceAt,Instr.slice,run_underlying hu,Instr.sliceBounds,ue aq,aS,h1,o,ae,Nat.le_trans o ae]
theorem xJ {x:Option Operand}(h:cJ g s ay a w){d n:Nat}{ak:List Prop}(aS:au (x.map (fc s.E)) d=some (n,ak))(cz:∀p∈ak,p):
 (x.map a.eval=none∧n=d)∨ ∃k,x.map a.eval=some (.int k n):=by
 cases x with
 | none=>simp [au] at aS;exact .inl ⟨rfl,aS.1.symm⟩
 | some x =>
  have R:=h.eval x
  simp only [Option.map_some] at aS ⊢
  unfold au at aS
  split at aS
  ·rename_i he;simp at he
  ·rename_i _ k y he
   simp only [Option.some.injEq] at he
   rw [he] at R
   simp only [Option.some.injEq,Prod.mk.injEq] at aS
   obtain ⟨rfl,rfl⟩:=aS
   have h0:0≤y:=cz _ (by simp)
   refine .inr ⟨k,?_⟩
   rw [R.o1,Int.toNat_of_nonneg h0]
  ·simp at aS
theorem ZO {t:TypeId}{x:Operand}{bT aq:Option Operand}(h:cJ g s ay a w)(ao:I.op = .slice t x bT aq none)(aw:eQ P s.E s.aW aU I cM=some bC)(cz:∀p∈bC.fv,p):Fin P g s a w I bC:=by
 simp only [eQ,ao] at aw
 have R:=h.eval x
 have uF : ∀sz e,sz=P.cellsOf e→sz≠0→(P.info? e).isSome=true:=by
  intro sz e bV cw
  cases aq:P.info? e with
  | none=>simp [Program.cellsOf,aq] at bV;exact absurd bV cw
  | some i=>rfl
 split at aw
 ·rename_i e sz es hu gK
  rw [gK] at R
  split at aw
  ·rename_i l ah n aQ aV a5
   simp only [Option.ite_none_right_eq_some,Option.some.injEq] at aw
   obtain ⟨⟨bV,cw⟩,aw⟩:=aw
   subst aw
   have im:=xJ h aV fun p ai=>cz p (by simp [ai])
   have jN:=xJ h a5 fun p ai=>cz p (by simp [ai])
   have h1:l≤n:=cz _ (by simp)
   have o:n≤es.length:=cz _ (by simp)
   rcases R.rU with ⟨Bp,A,c,hval,hA⟩|⟨d7,off,c,aS,hval,bf,ie⟩
   ·subst Bp
    have Bq:n=0:=by simpa using o
    subst Bq
    have ng:l=0:=by omega
    subst ng
    refine iu (v:= .slice (if c=0 then A else A.map (·.add (0*P.cellsOf e))) (0-0) (c-0)) h ?_ rfl ?_
    ·have:=C1 (w:=w) hu (uF sz e bV cw) A 0 c (bT.map a.eval) (aq.map a.eval) 0 0 im jN (Nat.le_refl _) (Nat.le_refl _) (Nat.zero_le _)
     simp only [execOp,ao,hval]
     simp only [Option.map_none,Sem.run_bind,this];rfl
    ·refine .kb sz _ _ fun a5=> ?_
     split at a5
     ·rename_i mn;omega
     ·have:=hA (by simpa using a5)
      omega
   ·have hlen:((es.drop l).take (n-l)).length=n-l:=by simp;omega
    refine iu (v:= .slice (if c=l then some ⟨d7,off,none⟩ else (some (⟨d7,off,none⟩:Addr)).map (·.add (l*P.cellsOf e))) (n-l) (c-l)) h ?_ rfl ?_
    ·have:=C1 (w:=w) hu (uF sz e bV cw) (some ⟨d7,off,none⟩) es.length c (bT.map a.eval) (aq.map a.eval) l n im jN h1 o bf
     simp only [execOp,ao,hval]
     simp only [Option.map_none,Sem.run_bind,this];rfl
    ·by_cases iy:c=l
     ·have:n-l=0:=by omega
      rw [this]
      show Rel _ _ _ _ (.isl sz ((es.drop l).take 0)) _
      rw [List.take_zero]
      exact .kb sz _ _ (fun _=>by omega)
     ·rw [if_neg iy]
      simp only [Option.map_some,rf,← bV]
      have ar:=(C5 ie l (n-l) (by omega)).isl (c:=c-l) ⟨aS.1,fun e he=>aS.2 e (List.mem_of_mem_drop (List.mem_of_mem_take he))⟩ (by rw [hlen];omega)
      rw [hlen] at ar
      exact ar
  ·simp at aw
 ·rename_i e r k Sy len hu gK
  rw [gK] at R
  split at aw
  ·simp at aw
  ·rename_i row dw
   split at aw
   ·simp at aw
   ·rename_i ak Sz bo
    split at aw
    ·rename_i l ah n aQ aV a5
     simp only [Option.ite_none_right_eq_some,Option.some.injEq] at aw
     obtain ⟨⟨bV,cw⟩,aw⟩:=aw
     subst aw
     have kc:s.ak r k=some ak:=by
      unfold S.ak;rw [dw];exact sS bo fun p ai=>cz p (by simp [ai])
     have im:=xJ h aV fun p ai=>cz p (by simp [ai])
     have jN:=xJ h a5 fun p ai=>cz p (by simp [ai])
     have h1:l≤n:=cz _ (by simp)
     have o:n≤len:=cz _ (by simp)
     have jl:=Dr kc
     rcases R.ur (iv kc) with ⟨ai,rfl,rfl,hval⟩|⟨b,m,A,c,ai,hval,qM,si,mb,hm⟩
     ·have Bq:n=0:=by omega
      subst Bq
      have ng:l=0:=by omega
      subst ng
      refine iu (v:= .slice none 0 0) h ?_ rfl (.nn jl ((iv kc).trans (by rw [ai])))
      have:=C1 (w:=w) hu (uF _ e bV cw) none 0 0 (bT.map a.eval) (aq.map a.eval) 0 0 im jN (Nat.le_refl _) (Nat.le_refl _) (Nat.le_refl _)
      simp only [execOp,ao,hval]
      simp only [Option.map_none,Sem.run_bind,this];rfl
     ·refine iu (v:= .slice (if c=l then A else A.map (·.add (l*P.cellsOf e))) (n-l) (c-l)) h ?_ rfl ?_
      ·have:=C1 (w:=w) hu (uF _ e bV cw) A len c (bT.map a.eval) (aq.map a.eval) l n im jN h1 o qM
       simp only [execOp,ao,hval]
       simp only [Option.map_none,Sem.run_bind,this];rfl
      ·refine Rel.bm jl ((iv kc).trans (by rw [ai])) (by omega) (by omega) ?_
       refine ⟨by rw [← mb];congr 1;omega,?_⟩
       by_cases iy:c=l
       ·exact .inl (by omega)
       ·rcases hm with hm|hA
        ·exact .inl (by omega)
        ·refine .inr ?_
         rw [if_neg iy,hA]
         simp only [Option.map_some,rf,← bV,Nat.add_mul]
    ·simp at aw
 ·rename_i b hu gK
  rw [gK] at R
  split at aw
  ·rename_i l ah n aQ aV a5
   simp only [Option.some.injEq] at aw
   subst aw
   have im:=xJ h aV fun p ai=>cz p (by simp [ai])
   have jN:=xJ h a5 fun p ai=>cz p (by simp [ai])
   have h1:l≤n:=cz _ (by simp)
   have o:n≤b.size:=cz _ (by simp)
   refine iu (v:= .string (b.extract l n)) h ?_ rfl (.s _)
   have aS : ∀(k:IntKind) (n y:Nat) (code:BoundsCode),n≤y→(Instr.sliceBound (.int k n) y code).run P w = .ok n w:=by
    intro k n y code a5
    simp [Instr.sliceBound,asIntOf,a5]
   simp only [execOp,ao,R.xR,Option.map_none]
   rcases im with ⟨e1,rfl⟩|⟨mW,e1⟩<;>rcases jN with ⟨aC,rfl⟩|⟨ll,aC⟩<;>rw [e1,aC] <;>
    simp [Instr.sliceAt,Instr.slice,run_underlying hu,Instr.sliceBounds,aS,h1,o]
  ·simp at aw
 ·simp at aw
end
end Go.VL
namespace Go.VL
set_option linter.unusedVariables false
set_option linter.unusedSimpArgs false
open Go
section
variable {P:Program} {g:G} {s:S} {ay:fm} {a:Act} {w:World} {I:Oper} {cM:fz} {aU:Nat} {bC:h4}
theorem Ys {ok:Nat→Prop}{a4:i7}{bg:iW}{t:TypeId}{c:List aB}{off:Nat}{x:aB}{vs:List Value}(aV:vs.length=c.length)
 (jY : ∀(j:Nat) u,vs[j]? = some u→j9 u=true) (ar : ∀(j:Nat) x u,c[j]? = some x→vs[j]? = some u→Rel w ok a4 bg x u)
 (cb:r2 P t c off=some x) : ∃v,(part t vs.toArray off).run P w = .ok v w∧Rel w ok a4 bg x v:=by
 unfold r2 at cb
 split at cb
 ·simp at cb
 ·rename_i aq
  simp only [Bool.not_eq_true',Bool.not_eq_false,Bool.and_eq_true] at aq
  simp only [part,Sem.run_bind,OR aq.1,Result.andThen]
  split at cb
  ·rename_i qG
   rw [qG]
   split at cb
   ·rename_i hle
    simp at cb;subst cb
    have e:(vs.toArray.extract off (off+P.cellsOf t))=((vs.drop off).take (P.cellsOf t)).toArray:=by
     apply Array.ext'
     simp [List.extract_eq_take_drop]
    refine ⟨.agg ((vs.drop off).take (P.cellsOf t)).toArray,by simp [ue aq.2],?_⟩
    refine .agg _ (by simp;omega) ?_ ?_
    ·intro j v bj
     rw [List.getElem?_take] at bj
     split at bj
     ·rw [List.getElem?_drop] at bj;exact jY _ _ bj
     ·simp at bj
    ·intro j y v a1 bj
     rw [List.getElem?_take] at bj a1
     split at bj
     ·rename_i aI
      rw [if_pos aI] at a1
      rw [List.getElem?_drop] at bj a1;exact ar _ _ _ a1 bj
     ·simp at bj
   ·simp at cb
  ·rename_i qG
   have qG:As P t=false:=by simpa using qG
   rw [qG]
   split at cb
   ·rename_i y a1
    split at cb
    ·simp at cb;subst cb
     have x3:off<vs.length:=by
      rcases Nat.lt_or_ge off c.length with h|h
      ·omega
      ·rw [List.getElem?_eq_none h] at a1;simp at a1
     exact ⟨vs[off],by simp [x3],ar off y _ a1 (List.getElem?_eq_getElem x3)⟩
    ·simp at cb
   ·simp at cb
theorem ZP {t:TypeId}{x:Operand}{f:Nat}(h:cJ g s ay a w)(ao:I.op = .field t x f)(aw:eQ P s.E s.aW aU I cM=some bC):Fin P g s a w I bC:=by
 simp only [eQ,ao] at aw
 have R:=h.eval x
 split at aw
 ·rename_i kC Bo
  split at aw
  ·rename_i fd c te gK
   rw [gK] at R
   cases cb:r2 P fd.type c fd.offset with
   | none=>simp [cb] at aw
   | some v =>
    simp [cb] at aw;subst aw
    obtain ⟨vs,hval,aV,bf,ar⟩:=R.Ak
    obtain ⟨u,h1,o⟩:=Ys aV bf ar cb
    refine iu (v:=u) h ?_ rfl o
    simp [execOp,ao,hval,Instr.field,run_underlying (Jr Bo),te,asAgg,h1]
  ·simp at aw
 ·simp at aw
theorem Y2 (off:Nat): ∀(vs:List Value) (n:Nat) (cs:Array Value) (j:Nat),off+n+vs.length≤cs.size →
 ((vs.zipIdx n).foldl (fun cs (x:Value×Nat)=>cs.setIfInBounds (off+x.2) x.1) cs)[j]? = if off+n≤j∧j<off+n+vs.length then vs[j-(off+n)]? else cs[j]? := by
 intro vs
 induction vs with
 | nil=>intro n cs j h;simp;intro h1 o;omega
 | cons v vs ih =>
  intro n cs j h
  simp only [List.length_cons] at h
  simp only [List.zipIdx_cons,List.foldl_cons]
  rw [ih (n+1) _ j (by simp;omega)]
  simp only [List.length_cons,Array.getElem?_setIfInBounds]
  by_cases h1:j=off+n
  ·subst h1
   rw [if_neg (by omega),if_pos rfl,if_pos (by omega),if_pos (by omega)]
   simp
  ·by_cases o:off+(n+1)≤j∧j<off+(n+1)+vs.length
   ·rw [if_pos o,if_pos (by omega)]
    rw [show j-(off+n)=(j-(off+(n+1)))+1 by omega];rfl
   ·rw [if_neg o,if_neg (fun e=>h1 e.symm),if_neg (by omega)]
theorem W8 (off:Nat): ∀(vs:List (Value×Nat)) (cs:Array Value),(vs.foldl (fun cs (x:Value×Nat)=>cs.setIfInBounds (off+x.2) x.1) cs).size=cs.size:=by
 intro vs
 induction vs with
 | nil=>intro cs;rfl
 | cons v vs ih=>intro cs;simp only [List.foldl_cons];rw [ih];simp
def yI (w:World)(ok:Nat→Prop)(a4:i7)(bg:iW)(c:List aB)(cs:Array Value):Prop :=
 cs.size=c.length∧(∀(j:Nat) u,cs[j]? = some u→j9 u=true)∧ ∀(j:Nat) x u,c[j]? = some x→cs[j]? = some u→Rel w ok a4 bg x u
theorem ZQ {ok:Nat→Prop}{a4:i7}{bg:iW}{c:List aB}{cs:Array Value}(h:yI w ok a4 bg c cs){x:aB}{v:Value}{off:Nat}(R:Rel w ok a4 bg x v)(bf:x.xr=true)
 (ib:off+x.cells.length≤c.length):v.cells.size=x.cells.length ∧
   yI w ok a4 bg (setCells c off x.cells) (v.cells.zipIdx.foldl (fun cs (y:Value×Nat)=>cs.setIfInBounds (off+y.2) y.1) cs):=by
 obtain ⟨vs,bj,aV,jY,ar⟩:=R.cellsOf (aB.N7 bf)
 have lT : ∀j,(v.cells.zipIdx.foldl (fun cs (y:Value×Nat)=>cs.setIfInBounds (off+y.2) y.1) cs)[j]? = if off≤j∧j<off+vs.length then vs[j-off]? else cs[j]? := by
  intro j
  rw [bj]
  have:=Y2 off vs 0 cs j (by rw [h.1];omega)
  simp only [Nat.add_zero] at this
  rw [← this,← Array.foldl_toList,Array.toList_zipIdx]
 refine ⟨by rw [bj];simpa using aV,?_,?_,?_⟩
 ·rw [Nv ib,← h.1,← Array.foldl_toList,W8]
 ·intro j u hu
  rw [lT] at hu
  split at hu
  ·exact jY _ _ hu
  ·exact h.2.1 _ _ hu
 ·intro j y u a1 hu
  rw [lT] at hu
  rw [Jq ib] at a1
  by_cases lS:off≤j∧j<off+x.cells.length
  ·rw [if_pos lS] at a1
   rw [if_pos (by rw [aV];exact lS)] at hu
   exact ar _ _ _ a1 hu
  ·rw [if_neg lS] at a1
   rw [if_neg (by rw [aV];exact lS)] at hu
   exact h.2.2 _ _ _ a1 hu
theorem On {ok:Nat→Prop}{a4:i7}{bg:iW}(place:Nat→Option (Nat×Nat)): ∀(l:List (Nat×Nat×aB)) (jM:List (Nat×Value)) (c:List aB) (cs:Array Value) (dF:List aB),
 yI w ok a4 bg c cs→l.length=jM.length →
 (∀(j:Nat) off size x i v,l[j]? = some (off,size,x)→jM[j]? = some (i,v)→place i=some (off,size)∧Rel w ok a4 bg x v) →
 sZ c l=some dF→ ∃mQ,Instr.fill place cs jM=some mQ∧yI w ok a4 bg dF mQ:=by
 intro l
 induction l with
 | nil =>
  intro jM c cs dF h aV _ ck
  have:jM=[]:=List.length_eq_zero_iff.1 (by simpa using aV.symm)
  subst this
  simp [sZ] at ck;subst ck
  exact ⟨cs,rfl,h⟩
 | cons q l ih =>
  intro jM c cs dF h aV ai ck
  obtain ⟨off,size,x⟩:=q
  match jM,aV with
  | (i,v)::jM,aV =>
   obtain ⟨acM,R⟩:=ai 0 off size x i v rfl rfl
   simp only [sZ] at ck
   split at ck
   ·rename_i bf
    simp only [Bool.and_eq_true,decide_eq_true_eq] at bf
    obtain ⟨⟨h1,o⟩,ae⟩:=bf
    obtain ⟨e1,aC⟩:=ZQ h R h1 (off:=off) (by omega)
    obtain ⟨mQ,f1,f2⟩:=ih jM _ _ dF aC (by simpa using aV) (fun j off size x i v a b=>ai (j+1) off size x i v a b) ck
    refine ⟨mQ,?_,f2⟩
    rw [Instr.fill]
    simp only [acM]
    have jz : ¬(decide (v.cells.size≠size) || decide (off+v.cells.size>cs.size))=true:=by simp;rw [e1,h.1];omega
    rw [if_neg jz]
    exact f1
   ·simp at ck
theorem mapM_some {α β:Type}(f:α→β)(p:α→Option β): ∀(l:List α),(∀x∈l,p x=some (f x))→l.mapM p=some (l.map f)
 | [],_=>rfl
 | x::l,h=>by
  rw [List.mapM_cons,h x (by simp),mapM_some f p l fun y a1=>h y (by simp [a1])];rfl
theorem PQ {α β:Type}(p:α→Option β): ∀(l:List α) (gl:List β),l.mapM p=some gl→gl.length=l.length∧ ∀(j:Nat) x y,l[j]? = some x→gl[j]? = some y→p x=some y
 | [],gl,h=>by simp at h;subst h;exact ⟨rfl,fun j x y R=>by simp at R⟩
 | a::l,gl,h=>by
  rw [List.mapM_cons] at h
  cases bE:p a with
  | none=>simp [bE] at h
  | some b =>
   cases aV:l.mapM p with
   | none=>simp [bE,aV] at h
   | some r =>
    simp [bE,aV] at h;subst h
    obtain ⟨h1,o⟩:=PQ p l r aV
    refine ⟨by simp [h1],fun j x y R a1=> ?_⟩
    cases j with
    | zero=>simp at R a1;subst R;subst a1;exact bE
    | succ j=>simp at R a1;exact o j x y R a1
theorem PR {t:TypeId}{z:List aB}(cw:qm P t=some z): ∃i ez,P.info? t=some i∧i.zero=some ez∧ez.cells.size=z.length∧yI w (s.ok g ay w) s.a4 (s.bg ay) z ez.cells:=by
 obtain ⟨i,ez,aq,kX,pB,jY⟩:=z1 cw
 have bV:ez.cells.size=z.length:=by rw [pB];simp
 refine ⟨i,ez,aq,kX,bV,bV,fun j u hu=> ?_,fun j x u R hu=> ?_⟩
 ·have aI:j<z.length:=by
   have:=(Array.getElem?_eq_some_iff.1 hu).1;omega
  obtain ⟨v,e1,aC,-⟩:=jY j z[j] (List.getElem?_eq_getElem aI)
  rw [hu] at e1;simp at e1;subst e1;exact aC
 ·obtain ⟨v,e1,-,bR⟩:=jY j x R
  rw [hu] at e1;simp at e1;subst e1;exact bR _ _ _ _
theorem ZR {t:TypeId}{parts:Array (Nat×Operand)}(h:cJ g s ay a w)(ao:I.op = .build t parts)(aw:eQ P s.E s.aW aU I cM=some bC):Fin P g s a w I bC:=by
 simp only [eQ,ao] at aw
 split at aw
 ·rename_i kC z Bo cw
  split at aw
  ·simp at aw
  ·rename_i nv
   have nv : ∀f∈kC.toList,(P.info? f.type).isSome=true:=by
    rw [Bool.not_eq_false] at nv
    exact List.all_eq_true.1 nv
   split at aw
   ·rename_i l aV
    cases ck:sZ z l with
    | none=>simp [ck] at aw
    | some c =>
     simp [ck] at aw;subst aw
     obtain ⟨it,ez,Br,kX,eP,hcs⟩:=PR (w:=w) (s:=s) (g:=g) (ay:=ay) cw
     obtain ⟨kD,qY⟩:=PQ _ _ _ aV
     have ab6:kC.toList.mapM (fun f=>(P.info? f.type).map fun i=>(f.offset,i.size))=some (kC.toList.map fun f=>(f.offset,P.cellsOf f.type)):=by
      refine mapM_some (fun f:Field=>(f.offset,P.cellsOf f.type)) _ _ fun f ck=> ?_
      have:=nv f ck
      cases aq:P.info? f.type with
      | none=>simp [aq] at this
      | some i=>simp [Program.cellsOf,aq]
     obtain ⟨mQ,f1,f2⟩:=On (w:=w) (ok:=s.ok g ay w) (a4:=s.a4) (bg:=s.bg ay) ((kC.toList.map fun f=>(f.offset,P.cellsOf f.type)).toArray[·]?) l (parts.map fun (i,x)=>(i,a.eval x)).toList z ez.cells c hcs (by simpa using kD) (by
      intro j off size x i v aI bj
      simp only [Array.toList_map,List.getElem?_map,Option.map_eq_some_iff] at bj
      obtain ⟨⟨eA,cH⟩,ai,bj⟩:=bj
      simp only [Prod.mk.injEq] at bj
      obtain ⟨rfl,rfl⟩:=bj
      have:=qY j _ _ ai aI
      simp only [Option.map_eq_some_iff,Prod.mk.injEq] at this
      obtain ⟨fd,h1,o,ae,av⟩:=this
      subst o;subst ae;subst av
      refine ⟨?_,h.eval cH⟩
      rw [List.getElem?_toArray,List.getElem?_map,Array.getElem?_toList,h1];rfl) ck
     have aS:P.built t (parts.map fun (i,x)=>(i,a.eval x)).toList=some mQ:=by
      unfold Program.built
      simp only [Br,Jr Bo,kX,ab6]
      exact f1
     refine iu (v:= .agg mQ) h ?_ rfl ?_
     ·have:=run_build w t _ mQ aS
      simp [execOp,ao,this]
     ·have:=Rel.agg (w:=w) (ok:=s.ok g ay w) (a4:=s.a4) (bg:=s.bg ay) (c:=c) mQ.toList (by simpa using f2.1) (fun j u hu=>f2.2.1 j u (by simpa using hu)) (fun j x u R hu=>f2.2.2 j x u R (by simpa using hu))
      simpa using this
   ·simp at aw
 ·simp at aw
theorem Wj {sz:Nat}{es:List (List aB)}(aV:∀e∈es,e.length=sz){i:Nat}(aq:i<es.length){c:List aB}(bf:c.length=sz):
 setCells es.flatten (i*sz) c=(es.set i c).flatten:=by
 have hlen : ∀(es:List (List aB)),(∀e∈es,e.length=sz)→es.flatten.length=es.length*sz:=by
  intro es
  induction es with
  | nil=>simp
  | cons e es ih =>
   intro h
   rw [List.flatten_cons,List.length_append,ih fun x R=>h x (by simp [R]),h e (by simp),List.length_cons,Nat.add_mul];omega
 have ib:i*sz+c.length≤es.flatten.length:=by
  rw [hlen es aV,bf]
  have:=Nat.mul_le_mul_right sz (show i+1≤es.length by omega)
  rw [Nat.add_mul] at this;omega
 apply List.ext_getElem?
 intro j
 rw [Jq ib,N8 aV (List.getElem?_eq_getElem aq) bf,bf]
theorem Oo {sz:Nat}: ∀(l:List (Nat×aB)) (es gk:List (List aB)),(∀e∈es,e.length=sz)→xQ sz es l=some gk →
 sZ es.flatten (l.map fun p=>(p.1*sz,sz,p.2))=some gk.flatten∧(∀e∈gk,e.length=sz)∧gk.length=es.length
 | [],es,gk,aV,h=>by simp [xQ] at h;subst h;exact ⟨rfl,aV,rfl⟩
 | (i,x)::l,es,gk,aV,h=>by
  simp only [xQ] at h
  split at h
  ·rename_i bf
   simp only [Bool.and_eq_true,decide_eq_true_eq] at bf
   obtain ⟨⟨h1,o⟩,ae⟩:=bf
   have Lc : ∀e∈es.set i x.cells,e.length=sz:=by
    intro e hm
    rcases List.mem_or_eq_of_mem_set hm with cD|cD
    ·exact aV e cD
    ·exact cD▸o
   obtain ⟨gg,hj,di⟩:=Oo l (es.set i x.cells) gk Lc h
   have e:=Wj aV ae o
   have ib:i*sz+sz≤es.flatten.length:=by
    have:(setCells es.flatten (i*sz) x.cells).length=(es.set i x.cells).flatten.length:=by rw [e]
    have bc : ∀(es:List (List aB)),(∀e∈es,e.length=sz)→es.flatten.length=es.length*sz:=by
     intro es
     induction es with
     | nil=>simp
     | cons e es ih =>
      intro h
      rw [List.flatten_cons,List.length_append,ih fun x R=>h x (by simp [R]),h e (by simp),List.length_cons,Nat.add_mul];omega
    rw [bc es aV]
    have:=Nat.mul_le_mul_right sz (show i+1≤es.length by omega)
    rw [Nat.add_mul] at this;omega
   refine ⟨?_,hj,by simpa using di⟩
   simp only [List.map_cons,sZ,h1,o,ib,decide_true,Bool.and_self,if_true]
   rw [e];exact gg
  ·simp at h
theorem Xr {t:TypeId}{len:Nat}{parts:Array (Nat×Operand)}(h:cJ g s ay a w)(eU:s.aW aU=none)(ao:I.op = .buildSlice t len parts)(aw:eQ P s.E s.aW aU I cM=some bC):Fin P g s a w I bC:=by
 simp only [eQ,ao] at aw
 split at aw
 ·rename_i e he
  split at aw
  ·rename_i z cw
   split at aw
   ·simp at aw
   ·rename_i bf
    simp only [not_or,Nat.not_lt,Decidable.not_not] at bf
    obtain ⟨mR,yd,ye⟩:=bf
    split at aw
    ·rename_i es hp
     simp only [Option.some.injEq] at aw;subst aw
     obtain ⟨it,ez,Br,kX,eP,hcs⟩:=PR (w:=w) (s:=s) (g:=g) (ay:=ay) cw
     have jY:P.cellsOf e=it.size:=by simp [Program.cellsOf,Br]
     have Q8 : ∀x∈List.replicate len z,x.length=z.length:=fun x R=>by rw [List.eq_of_mem_replicate R]
     obtain ⟨f1,f2,f3⟩:=Oo _ _ _ Q8 hp
     have qN:yI w (s.ok g ay w) s.a4 (s.bg ay) (List.replicate len z).flatten ((Array.range (len*it.size)).map (ez.cells[· % ez.cells.size]!)):=by
      have Ee:0<z.length:=by omega
      have lT : ∀j,j<len*it.size→((Array.range (len*it.size)).map (ez.cells[· % ez.cells.size]!))[j]? = ez.cells[j % z.length]? := by
       intro j aI
       rw [Array.getElem?_map,Array.getElem?_range]
       simp only [aI,if_true,Option.map_some]
       have hm:j % ez.cells.size<ez.cells.size:=Nat.mod_lt _ (by omega)
       rw [getElem!_pos ez.cells _ hm,← eP,Array.getElem?_eq_getElem hm]
      have dz : ∀(j:Nat) u,((Array.range (len*it.size)).map (ez.cells[· % ez.cells.size]!))[j]? = some u→j<len*it.size:=by
       intro j u hu
       have:=(Array.getElem?_eq_some_iff.1 hu).1
       simpa using this
      refine ⟨by simp [← jY,← yd],fun j u hu=> ?_,fun j x u R hu=> ?_⟩
      ·have aI:=dz j u hu
       rw [lT j aI] at hu
       exact hcs.2.1 _ _ hu
      ·have aI:=dz j u hu
       rw [lT j aI] at hu
       rw [oW Ee _ Q8,List.getElem?_replicate] at R
       split at R
       ·exact hcs.2.2 _ _ _ R hu
       ·simp at R
     obtain ⟨mQ,g1,g2⟩:=On (w:=w) (ok:=s.ok g ay w) (a4:=s.a4) (bg:=s.bg ay) (fun i=>some (i*it.size,it.size)) ((parts.toList.map fun p=>(p.1,fc s.E p.2)).map fun p=>(p.1*z.length,z.length,p.2)) (parts.map fun (i,x)=>(i,a.eval x)).toList _ _ es.flatten qN (by simp) (by
      intro j off size x i v aI bj
      simp only [Array.toList_map,List.getElem?_map,Option.map_eq_some_iff,List.map_map] at bj aI
      obtain ⟨⟨eA,cH⟩,ai,bj⟩:=bj
      obtain ⟨⟨o9,d3⟩,Bl,aI⟩:=aI
      rw [ai] at Bl
      simp only [Option.some.injEq,Prod.mk.injEq] at Bl bj
      obtain ⟨rfl,rfl⟩:=Bl
      obtain ⟨rfl,rfl⟩:=bj
      simp only [Function.comp,Prod.mk.injEq] at aI
      obtain ⟨rfl,rfl,rfl⟩:=aI
      exact ⟨by rw [← jY,← yd],h.eval cH⟩) f1
     have iS:(Instr.buildSlice t len (parts.map fun (i,x)=>(i,a.eval x))).run P w = .ok (.slice (some ⟨w.heap.size,0,none⟩) len len) (w.alloc (.cells mQ e)):=by
      have h1 : ¬len*it.size>2 ^ 24:=by rw [← jY,← yd];omega
      by_cases h0:len*it.size=0
      ·have ng:len=0:=by
        rcases Nat.eq_zero_or_pos len with cD|cD
        ·exact cD
        ·have:0<len*it.size:=Nat.mul_pos cD (by omega)
         omega
       subst ng
       have e0:((Array.range (0*it.size)).map (ez.cells[· % ez.cells.size]!)) = #[]:=by simp
       rw [e0] at g1
       have ai:parts = #[]:=by
        obtain ⟨l⟩:=parts
        match l,hp with
        | [],_=>rfl
        | p::l,hp=>simp [xQ] at hp
       subst ai
       have ab7:mQ = #[]:=by simpa [Instr.fill] using g1.symm
       subst ab7
       simp [Instr.buildSlice,run_underlying (rh he),sizeOf,typeInfo,Br,newRow,Instr.fill]
       rw [Array.range_zero',Array.map_empty]
      ·simp only [Instr.buildSlice,run_underlying (rh he),sizeOf,typeInfo,Br,newRow,zeroValue,kX,Sem.run_bind,Result.andThen_ok,run_program,Sem.run_pure,Sem.run_ite,h1,h0,if_false]
       rw [g1];rfl
     refine DD (v:= .slice (some ⟨w.heap.size,0,none⟩) len len) (ak:=⟨z.length,es,.live⟩) (c:=mQ) (eC:=e) h eU rfl ?_ rfl f2 ?_ ?_
     ·simp [execOp,ao,iS]
     ·intro j x R
      have aI:j<mQ.size:=by
       rw [g2.1]
       rcases Nat.lt_or_ge j es.flatten.length with cD|cD
       ·exact cD
       ·rw [List.getElem?_eq_none cD] at R;simp at R
      have hu:mQ[j]? = some mQ[j]:=Array.getElem?_eq_getElem aI
      exact ⟨_,hu,g2.2.1 _ _ hu,g2.2.2 _ _ _ R hu⟩
     ·intro bL kM mN l9 hu cb
      refine Rel.bm hu cb (Nat.le_refl _) ?_ ⟨?_,.inr (by simp)⟩
      ·have:len≤len*z.length:=Nat.le_mul_of_pos_right _ (by omega)
       omega
      ·rw [g2.1]
       have bc : ∀(es:List (List aB)),(∀e∈es,e.length=z.length)→es.flatten.length=es.length*z.length:=by
        intro es
        induction es with
        | nil=>simp
        | cons e es ih =>
         intro h
         rw [List.flatten_cons,List.length_append,ih fun x R=>h x (by simp [R]),h e (by simp),List.length_cons,Nat.add_mul];omega
       rw [bc es f2,f3];simp
    ·simp at aw
  ·simp at aw
 ·simp at aw
theorem Dj (h:cJ g s ay a w)(eU:s.aW aU=none)(aw:eQ P s.E s.aW aU I cM=some bC)(cz:∀p∈bC.fv,p):Fin P g s a w I bC:=by
 cases ao:I.op with
 | move x=>exact PP h (.inl ao) aw
 | assign x=>exact PP h (.inr ao) aw
 | pick c x y=>exact aaB h ao aw cz
 | alloc t=>exact ZJ h eU ao aw
 | box t x=>exact aa7 h eU ao aw
 | load t x=>exact aaC h ao aw cz
 | store t x y=>exact ZK h ao aw cz
 | nilCheck x=>exact X3 h ao aw cz
 | binOp op t x y da=>exact ZL h ao aw cz
 | unOp op t x=>exact aaD h ao aw
 | convert t da x=>exact Yp h ao aw
 | makeFunc f B6 cj=>exact X4 h ao aw
 | makeSlice t x y=>exact XH h eU ao aw cz
 | fieldAddr t x f=>exact XI h ao aw cz
 | field t x f=>exact ZP h ao aw
 | indexAddr t x y=>exact XJ h ao aw cz
 | index t x y=>exact ZN h ao aw cz
 | extract x i=>exact Yq h ao aw
 | slice t x bT aq L5 =>
  cases L5 with
  | none=>exact ZO h ao aw cz
  | some m=>simp [eQ,ao] at aw
 | build t jM=>exact ZR h ao aw
 | buildSlice t n jM=>exact Xr h eU ao aw
 | call c =>
  obtain ⟨Ef,args,mP⟩:=c
  cases Ef with
  | builtin b=>cases b<;>first|exact aa8 h ao rfl aw cz|simp [eQ,ao] at aw
  | value f=>simp [eQ,ao] at aw
  | invoke r m=>simp [eQ,ao] at aw
 | _=>simp [eQ,ao] at aw
end
end Go.VL
namespace Go.VL
set_option linter.unusedVariables false
set_option linter.unusedSimpArgs false
open Go
def aa9:Option ab→fz
 | some I=> .gi I []
 | none=> .none
def qC (sz:Nat)(aW:Nat→Option (List ab))(a:fz):aB→Option (List (List aB)×List Prop)
 | .isl Eg es=>if Eg=sz then some (es,[]) else none
 | .bm r k bT len=>match oF (aW r) k a with
  | some (ak,ah)=>if ak.sz=sz then some ((ak.es.drop bT).take len,ah++[bT+len≤ak.es.length]) else none
  | none=>none
 | .eT=>some ([],[])
 | .iL=>some ([],[])
 | _=>none
def uB (P:Program)(sz:Nat)(z:List aB)(aW:Nat→Option (List ab))(a:fz)(t da:TypeId)(y:aB):Option (List (List aB)×List Prop) :=
 if t=da then qC sz aW a y else
 match P.underlying da,y with
 | some (.int _),.n .i64 n=>some (List.replicate n.toNat z,[0≤n,n<9223372036854775808])
 | _,_=>none
def ny (P:Program)(E:Nat→aB)(aW:Nat→Option (List ab))(aU:Nat)(b:Builtin)(args:List aB)(mP:List TypeId)(cM:fz):Option h4 :=
 match b,args,mP,cM with
 | .append,[x,y],[t,da],.aJ m I =>
  match pj P t with
  | none=>none
  | some e=>match P.info? e,qm P e with
   | some i,some z =>
    if z.length≠i.size∨i.size=0∨i.bytes=0 then none else
    match uB P i.size z aW (aa9 I) t da y with
    | none=>none
    | some (bB,ah)=>match x with
     | .eT=>some {val:= .bm aU 0 0 m,fL:=[(aU,[⟨i.size,bB,.live⟩])],fv:=ah++[m=bB.length,m*i.bytes≤140737488355328]}
     | .bm r k 0 len=>match aW r with
      | none=>none
      | some row=>match db (some row) k with
       | none=>none
       | some ak=>if ak.cm = .live∧ak.sz=i.size∧aU≠r then
        some {val:= .bm aU 0 0 m,fL:=[(aU,[⟨i.size,ak.es.take len++bB,.live⟩]),(r,row.set k {ak with cm:= .gone})],fv:=ah++[len≤ak.es.length,m=len+bB.length,m*i.bytes≤140737488355328]} else none
     | _=>none
   | _,_=>none
 | .append,[x,y],[t,da],.fQ =>
  match pj P t with
  | none=>none
  | some e=>match P.info? e,qm P e with
   | some i,some z =>
    if z.length≠i.size∨i.size=0∨i.bytes=0 then none else
    match uB P i.size z aW .none t da y with
    | none=>none
    | some (bB,ah)=>match x with
     | .bm r k 0 len=>match aW r with
      | none=>none
      | some row=>match db (some row) k with
       | none=>none
       | some ak=>if ak.cm = .live∧ak.sz=i.size then
        some {val:= .bm r k 0 (len+bB.length),fL:=[(r,row.set k {ak with es:=ak.es.take len++bB})],fv:=ah++[len+bB.length≤ak.es.length,bB.length*i.bytes≤140737488355328]} else none
     | _=>none
   | _,_=>none
 | .copy,[.bm r k 0 len,y],[t,_],_ =>
  match pj P t with
  | none=>none
  | some e=>match P.info? e with
   | none=>none
   | some i=>match qC i.size aW .none y with
    | none=>none
    | some (bB,ah)=>match aW r with
     | none=>none
     | some row=>match db (some row) k with
      | none=>none
      | some ak=>if ak.cm = .live∧ak.sz=i.size∧i.size≠0 then
       some {val:= .n .i64 bB.length,fL:=[(r,row.set k {ak with es:=bB++ak.es.drop bB.length})],fv:=ah++[bB.length≤len,len≤ak.es.length]} else none
 | .clear,[.bm r k 0 len],[t],_ =>
  match pj P t with
  | none=>none
  | some e=>match P.info? e,qm P e with
   | some i,some z=>match aW r with
    | none=>none
    | some row=>match db (some row) k with
     | none=>none
     | some ak=>if ak.cm = .live∧ak.sz=i.size∧z.length=i.size∧i.size≠0 then
      some {val:= .dZ [],fL:=[(r,row.set k {ak with es:=List.replicate len z})],fv:=[ak.es.length=len]} else none
   | _,_=>none
 | .min,[.n k x,.n ea y],_,_=>if k=ea then some {val:= .n k (if y<x then y else x)} else none
 | _,_,_,_=>none
section
variable {g:G} {s:S} {ay:fm} {a:Act} {w bL:World}
theorem cJ.gone (h:cJ g s ay a w){r k:Nat}{l:List ab}{I:ab}(ar:s.aW r=some l)(ao:s.ak r k=some I):
 cJ g (s.setRow r (l.set k {I with cm:= .gone})) ay a w ∧
  ∀x v,Rel w (s.ok g ay w) s.a4 (s.bg ay) x v→Rel w ((s.setRow r (l.set k {I with cm:= .gone})).ok g ay w) (s.setRow r (l.set k {I with cm:= .gone})).a4 ((s.setRow r (l.set k {I with cm:= .gone})).bg ay) x v:=by
 have bo : ∀q j p,(s.setRow r (l.set k {I with cm:= .gone})).ak q j=some p→s.ak q j=some p∧ ¬(q=r∧j=k):=by
  intro q j p ai
  rw [lr] at ai
  by_cases e:q=r
  ·subst e
   rw [if_pos rfl] at ai
   unfold db at ai
   simp only [List.getElem?_set] at ai
   by_cases aC:k=j
   ·subst aC
    by_cases ba:k<l.length
    ·simp [ba] at ai
    ·simp [ba] at ai
   ·rw [if_neg aC] at ai
    refine ⟨?_,fun ft=>aC ft.2.symm⟩
    unfold S.ak;rw [ar];exact ai
  ·rw [if_neg e] at ai
   exact ⟨ai,fun ft=>e ft.1⟩
 have dx:Step g s ay w (s.setRow r (l.set k {I with cm:= .gone})) ay w:=by
  refine ⟨C4 s ar (by simp),fun q j bc=> ?_,fun b aV=> ?_,fun _ _ _=>rfl,Nat.le_refl _⟩
  ·cases ai:(s.setRow r (l.set k {I with cm:= .gone})).ak q j with
   | none=>right;simp [S.bg,ai]
   | some p=>left;simp [S.bg,ai,(bo q j p ai).1]
  ·obtain ⟨q,j,p,m,h1,o,ae⟩:=aV
   exact .inl ⟨q,j,p,m,(bo q j p h1).1,o,ae⟩
 refine ⟨{toh3:=⟨?_,?_,?_,h.gQ,h.mlt,h.na,dx.stay h.stay,h.low⟩,env:=fun t=>dx.rel (h.env t),defers:=h.defers,jI:=h.jI},fun x v=>dx.rel⟩
 ·intro q j p ai
  exact dx.obj (fun b m _=>rfl) (h.obj q j p (bo q j p ai).1)
 ·intro q j p hC hN ki b m cy h1 o ae av
  exact h.inj q j p hC hN ki b m cy (bo q j p h1).1 (bo hC hN ki o).1 ae av
 ·intro q j p b m h1 o
  exact h.own q j p b m (bo q j p h1).1 o
theorem cJ.PS (h:cJ g s ay a w){aU sz:Nat}(eU:s.aW aU=none):
 ∃bK,bK aU 0=none∧cJ g (s.setRow aU [⟨sz,[],.live⟩]) bK a w:=by
 have bo : ∀q k,q≠aU→(s.setRow aU [⟨sz,[],.live⟩]).ak q k=s.ak q k:=fun q k bc=>by rw [lr,if_neg bc]
 let bK:fm:=fun q k=>if q=aU then none else ay q k
 have dr : ∀q k,s.a4 q k→q≠aU:=by
  rintro q k bc rfl;exact w1 eU k bc
 have KP : ∀k I,(s.setRow aU [⟨sz,[],.live⟩]).ak aU k=some I→I=⟨sz,[],.live⟩:=by
  intro k I ao
  rw [lr,if_pos rfl,l0] at ao
  split at ao
  ·simp at ao;exact ao.symm
  ·simp at ao
 have dx:Step g s ay w (s.setRow aU [⟨sz,[],.live⟩]) bK w:=by
  refine ⟨fun q k bc=>(m4 _ _ _ _ _).2 (by rw [if_neg (dr q k bc)];exact bc),fun q k bc=> .inl ?_,fun b aV=> ?_,fun _ _ _=>rfl,Nat.le_refl _⟩
  ·simp [S.bg,bo q k (dr q k bc),bK,dr q k bc]
  ·obtain ⟨q,k,I,m,h1,o,ae⟩:=aV
   by_cases e:q=aU
   ·subst e;simp [bK] at ae
   ·rw [bo q k e] at h1
    simp only [bK,if_neg e] at ae
    exact .inl ⟨q,k,I,m,h1,o,ae⟩
 refine ⟨bK,by simp [bK],{toh3:=⟨?_,?_,?_,h.gQ,h.mlt,h.na,dx.stay h.stay,h.low⟩,env:=fun t=>dx.rel (h.env t),defers:=h.defers,jI:=h.jI}⟩
 ·intro q k I ao
  by_cases e:q=aU
  ·subst e
   rw [KP k I ao]
   simp [bK,jg]
  ·rw [bo q k e] at ao
   have:=dx.obj (fun b m _=>rfl) (h.obj q k I ao)
   simpa [bK,e] using this
 ·intro q k I hC ea b6 b m cy h1 o ae av
  have e:q≠aU:=by rintro rfl;simp [bK] at ae
  have eH:hC≠aU:=by rintro rfl;simp [bK] at av
  rw [bo q k e] at h1
  rw [bo hC ea eH] at o
  simp only [bK,if_neg e] at ae
  simp only [bK,if_neg eH] at av
  exact h.inj q k I hC ea b6 b m cy h1 o ae av
 ·intro q k I b m h1 o
  have e:q≠aU:=by rintro rfl;simp [bK] at o
  rw [bo q k e] at h1
  simp only [bK,if_neg e] at o
  exact h.own q k I b m h1 o
theorem cJ.turn (h:cJ g s ay a w){r k b m aU:Nat}{l:List ab}{I:ab}(ar:s.aW r=some l)(ao:s.ak r k=some I)(ba:I.cm = .live)(ai:ay r k=some (b,m))
 (eU:s.aW aU=none) (b6:ab) (oL:b6.cm = .live) (c:Array Value) (eC:TypeId)
 (hw:bL.heap[b]? = some (.cells c eC (0,0))) (eP:bL.heap.size=w.heap.size) (uA : ∀q,q≠b→bL.heap[q]? = w.heap[q]?)
 (p6:bL.os=w.os) (La:bL.tape=w.tape) (KM:bL.output=w.output) (hm:c.size=m) (hlen : ∀e∈b6.es,e.length=b6.sz)
 (bf : ∀(j:Nat) x,b6.es.flatten[j]? = some x→ ∃v,c[j]? = some v∧j9 v=true∧Rel w (s.ok g ay w) s.a4 (s.bg ay) x v) :
 ∃bK,bK aU 0=some (b,m)∧cJ g ((s.setRow aU [b6]).setRow r (l.set k {I with cm:= .gone})) bK a bL:=by
 have dr:r≠aU:=by rintro rfl;rw [eU] at ar;simp at ar
 have Q9 : ∀k,¬s.a4 aU k:=w1 eU
 let bO:=(s.setRow aU [b6]).setRow r (l.set k {I with cm:= .gone})
 let bK:fm:=ay.set aU 0 (some (b,m))
 have bo : ∀q j p,bO.ak q j=some p→(q=aU∧j=0∧p=b6)∨(q≠aU∧s.ak q j=some p∧ ¬(q=r∧j=k)):=by
  intro q j p bc
  rw [lr] at bc
  by_cases e:q=r
  ·subst e
   rw [if_pos rfl] at bc
   unfold db at bc
   simp only [List.getElem?_set] at bc
   by_cases aC:k=j
   ·subst aC
    by_cases ba:k<l.length<;>simp [ba] at bc
   ·rw [if_neg aC] at bc
    refine .inr ⟨dr,?_,fun ft=>aC ft.2.symm⟩
    unfold S.ak;rw [ar];exact bc
  ·rw [if_neg e,lr] at bc
   by_cases aC:q=aU
   ·subst aC
    rw [if_pos rfl,l0] at bc
    split at bc
    ·rename_i h0;simp at bc;exact .inl ⟨rfl,h0.1,bc.symm⟩
    ·simp at bc
   ·rw [if_neg aC] at bc
    exact .inr ⟨aC,bc,fun ft=>e ft.1⟩
 have lD : ∀q j,q≠aU→bK q j=ay q j:=fun q j bc=>by simp [bK,fm.set,bc]
 have yf:bK aU 0=some (b,m):=by simp [bK,fm.set]
 have pi:s.lJ ay b:=⟨r,k,I,m,ao,ba,ai⟩
 have jl : ∀q j,s.a4 q j→bO.a4 q j:=fun q j bc=>by
  have e:q≠aU:=fun e=>Q9 j (e▸bc)
  rw [m4,m4,if_neg e]
  by_cases aC:q=r
  ·subst aC;rw [if_pos rfl];simpa [S.a4,ar] using bc
  ·rw [if_neg aC];exact bc
 have dx:Step g s ay w bO bK bL:=by
  refine ⟨jl,fun q j bc=> ?_,fun q aV=> ?_,fun q bc aV=>uA q fun e=>aV (e▸pi),Nat.le_of_eq eP.symm⟩
  ·have nd:q≠aU:=fun e=>Q9 j (e▸bc)
   cases kp:bO.ak q j with
   | none=>right;simp [S.bg,kp]
   | some p =>
    left
    rcases bo q j p kp with ⟨e,-⟩|⟨-,aC,-⟩
    ·exact absurd e nd
    ·simp [S.bg,kp,aC,lD q j nd]
  ·obtain ⟨hC,j,p,cy,h1,o,ae⟩:=aV
   rcases bo hC j p h1 with ⟨rfl,rfl,rfl⟩|⟨e1,aC,-⟩
   ·rw [yf] at ae;simp at ae;exact .inl (ae.1▸pi)
   ·rw [lD hC j e1] at ae;exact .inl ⟨hC,j,p,cy,aC,o,ae⟩
 refine ⟨bK,yf,{toh3:=⟨?_,?_,?_,?_,h.mlt,h.na,dx.stay h.stay,h.low⟩,env:=fun t=>dx.rel (h.env t),defers:=h.defers,jI:=h.jI}⟩
 ·intro q j p kp
  rcases bo q j p kp with ⟨rfl,rfl,rfl⟩|⟨e1,aC,bR⟩
  ·rw [yf]
   exact ⟨c,eC,hw,hm,hlen,fun i x R=>let ⟨v,f1,f2,f3⟩:=bf i x R;⟨v,f1,f2,dx.rel f3⟩⟩
  ·rw [lD q j e1]
   refine dx.obj (fun kj cy kW=>uA kj ?_) (h.obj q j p aC)
   rintro rfl
   exact bR (h.inj q j p r k I kj cy m aC ao kW ai)
 ·intro q j p hC hN ki kj ik hf h1 o ae av
  rcases bo q j p h1 with ⟨rfl,rfl,rfl⟩|⟨e1,aC,bR⟩<;>rcases bo hC hN ki o with ⟨rfl,rfl,rfl⟩|⟨mS,o5,Bs⟩
  ·exact ⟨rfl,rfl⟩
  ·rw [yf] at ae;simp at ae
   rw [lD hC hN mS] at av
   obtain ⟨rfl,rfl⟩:=ae
   exact absurd (h.inj hC hN ki r k I b hf m o5 ao av ai) Bs
  ·rw [yf] at av;simp at av
   rw [lD q j e1] at ae
   obtain ⟨rfl,rfl⟩:=av
   exact absurd (h.inj q j p r k I b ik m aC ao ae ai) bR
  ·rw [lD q j e1] at ae;rw [lD hC hN mS] at av
   exact h.inj q j p hC hN ki kj ik hf aC o5 ae av
 ·intro q j p kj cy h1 o
  rcases bo q j p h1 with ⟨rfl,rfl,rfl⟩|⟨e1,aC,-⟩
  ·rw [yf] at o;simp at o
   rw [← o.1]
   exact h.own r k I b m ao ai
  ·rw [lD q j e1] at o;exact h.own q j p kj cy aC o
 ·refine h.gQ.step p6 La KM (Nat.le_of_eq eP.symm) fun kj qL kW=>uA kj ?_
  rintro rfl
  rcases h.own r k I kj m ao ai with h1|h1
  ·omega
  ·exact kW h1
theorem n8.nw {ok:Nat→Prop}{a4:i7}{bg:iW}{d7 I sz:Nat}{es:List (List aB)}(h:n8 w ok a4 bg d7 I sz es):
 ∃vs:List Value,vs.length=es.length*sz∧(∀(j:Nat) u,vs[j]? = some u→w.cell? ((⟨d7,I,none⟩:Addr).add j)=some u)∧(∀u∈vs,u.oneCell'=true) ∧
  ∀(j:Nat) x u,es.flatten[j]? = some x→vs[j]? = some u→Rel w ok a4 bg x u:=by
 have jJ:es.flatten.length=es.length*sz:=by
  have : ∀(es:List (List aB)),(∀e∈es,e.length=sz)→es.flatten.length=es.length*sz:=by
   intro es
   induction es with
   | nil=>intro _;simp
   | cons e es ih =>
    intro ft
    rw [List.flatten_cons,List.length_append,ih fun x R=>ft x (by simp [R]),ft e (by simp),List.length_cons,Nat.add_mul];omega
  exact this es h.1
 have R : ∀i,i<es.length*sz→ ∃v,∀x,es.flatten[i]? = some x→w.cell? ⟨d7,I+i,none⟩=some v∧j9 v=true∧Rel w ok a4 bg x v:=by
  intro i aq
  have aI:=List.getElem?_eq_getElem (l:=es.flatten) (i:=i) (by omega)
  obtain ⟨v,h1⟩:=h.2 i _ aI
  exact ⟨v,fun x R=>by rw [aI] at R;simp at R;subst R;exact h1⟩
 let vs:List Value:=(List.range (es.length*sz)).map fun i=>if aq:i<es.length*sz then (R i aq).choose else undef
 have pr:vs.length=es.length*sz:=by simp [vs]
 have lT : ∀(i:Nat) u x,vs[i]? = some u→es.flatten[i]? = some x→w.cell? ⟨d7,I+i,none⟩=some u∧j9 u=true∧Rel w ok a4 bg x u:=by
  intro i u x hu sj
  have aq:i<es.length*sz:=by
   rcases Nat.lt_or_ge i vs.length with cD|cD
   ·omega
   ·rw [List.getElem?_eq_none cD] at hu;simp at hu
  simp only [vs,List.getElem?_map,List.getElem?_range aq,Option.map_some,dif_pos aq,Option.some.injEq] at hu
  subst hu
  exact (R i aq).choose_spec x sj
 have hex : ∀(i:Nat) u,vs[i]? = some u→ ∃x,es.flatten[i]? = some x:=by
  intro i u hu
  have aq:i<es.flatten.length:=by
   rcases Nat.lt_or_ge i vs.length with cD|cD
   ·omega
   ·rw [List.getElem?_eq_none cD] at hu;simp at hu
  exact ⟨_,List.getElem?_eq_getElem aq⟩
 refine ⟨vs,pr,fun j u hu=> ?_,fun u hu=> ?_,fun j x u dE hu=>(lT j u x hu dE).2.2⟩
 ·obtain ⟨x,sj⟩:=hex j u hu
  rw [rf];exact (lT j u x hu sj).1
 ·obtain ⟨j,aI⟩:=List.getElem?_of_mem hu
  obtain ⟨x,sj⟩:=hex j u aI
  exact (lT j u x aI sj).2.1
theorem W9 {es bB:List (List aB)}{sz:Nat}{xs news:List Value}(R:xs.length=es.length*sz)(he:∀e∈es,e.length=sz){j:Nat}{x:aB}(h:(es++bB).flatten[j]? = some x)
 {ok:Nat→Prop} {a4:i7} {bg:iW} (h1 : ∀(j:Nat) x u,es.flatten[j]? = some x→xs[j]? = some u→Rel w ok a4 bg x u) (o : ∀(j:Nat) x u,bB.flatten[j]? = some x→news[j]? = some u→Rel w ok a4 bg x u)
 {u:Value} (hu:(xs++news)[j]? = some u):Rel w ok a4 bg x u:=by
 have jJ:es.flatten.length=es.length*sz:=by
  have : ∀(es:List (List aB)),(∀e∈es,e.length=sz)→es.flatten.length=es.length*sz:=by
   intro es
   induction es with
   | nil=>intro _;simp
   | cons e es ih =>
    intro ft
    rw [List.flatten_cons,List.length_append,ih fun x R=>ft x (by simp [R]),ft e (by simp),List.length_cons,Nat.add_mul];omega
  exact this es he
 rw [List.flatten_append,List.getElem?_append] at h
 rw [List.getElem?_append] at hu
 by_cases aI:j<es.flatten.length
 ·rw [if_pos aI] at h
  rw [if_pos (by omega)] at hu
  exact h1 j x u h hu
 ·rw [if_neg aI] at h
  rw [if_neg (by omega)] at hu
  rw [jJ] at h
  rw [R] at hu
  exact o _ x u h hu
variable {P:Program}
theorem Pl (h:cJ g s ay a w){sz:Nat}{x:aB}{fq:fz}{bB:List (List aB)}{ak:List Prop}(he:qC sz s.aW fq x=some (bB,ak))(bo:∀p∈ak,p){v:Value}(bj:Rel w (s.ok g ay w) s.a4 (s.bg ay) x v):
 ∃A c,v = .slice A bB.length c∧(∀e∈bB,e.length=sz)∧(bB.length=0∨ ∃d7 off,A=some ⟨d7,off,none⟩∧n8 w (s.ok g ay w) s.a4 (s.bg ay) d7 off sz bB):=by
 cases x with
 | isl Eg es =>
  simp only [qC] at he
  split at he
  ·rename_i bV
   subst bV
   simp only [Option.some.injEq,Prod.mk.injEq] at he
   obtain ⟨rfl,rfl⟩:=he
   rcases bj.rU with ⟨rfl,A,c,rfl,-⟩|⟨d7,off,c,-,rfl,-,ie⟩
   ·exact ⟨A,c,rfl,by simp,.inl rfl⟩
   ·exact ⟨_,c,rfl,ie.1,.inr ⟨d7,off,rfl,ie⟩⟩
  ·simp at he
 | bm r k bT len =>
  simp only [qC] at he
  split at he
  ·rename_i nh ah kc
   split at he
   ·rename_i bV
    simp only [Option.some.injEq,Prod.mk.injEq] at he
    obtain ⟨rfl,rfl⟩:=he
    have ib:bT+len≤nh.es.length:=bo _ (by simp)
    have ao:s.ak r k=some nh:=sS kc (fun p ai=>bo p (by simp [ai]))
    have fs:=h.obj r k nh ao
    have aV:((nh.es.drop bT).take len).length=len:=by simp;omega
    rcases bj.Al (iv ao) with ⟨-,rfl,rfl,rfl⟩|⟨b,m,A,c,ai,rfl,qM,-,hm⟩
    ·exact ⟨none,0,by simp,by simp,.inl (by simp)⟩
    ·rw [ai] at fs
     have ie:=fs.rd
     subst bV
     have uN:=C5 ie bT len (by omega)
     refine ⟨A,c,by rw [aV],uN.1,?_⟩
     rcases hm with rfl|⟨rfl,-⟩
     ·left;rw [aV];omega
     ·right
      rw [Nat.zero_add] at uN
      exact ⟨b,_,rfl,uN⟩
   ·simp at he
  ·simp at he
 | eT =>
  simp only [qC,Option.some.injEq,Prod.mk.injEq] at he
  obtain ⟨rfl,rfl⟩:=he
  rw [bj.pe]
  exact ⟨none,0,rfl,by simp,.inl rfl⟩
 | iL =>
  simp only [qC,Option.some.injEq,Prod.mk.injEq] at he
  obtain ⟨rfl,rfl⟩:=he
  obtain ⟨A,c,rfl⟩:=bj.DC
  exact ⟨some A,c,rfl,by simp,.inl rfl⟩
 | _=>simp [qC] at he
structure KQ (P:Program) (w:World) (t da eC e:TypeId) (i:TypeInfo) (ez nk:Value) (n:Nat) (vs:List Value):Prop where
 zero:n=0→ ∀(B:Option Addr) (len cap:Nat),len≤cap→(Builtin.append_ #[t,da] eC #[.slice B len cap,nk]).run P w = .ok (.slice B len cap) w
 nil:0<n→(n:Int)≤9223372036854775807→n*i.bytes≤140737488355328 →
  (Builtin.append_ #[t,da] eC #[.slice none 0 0,nk]).run P w = .ok (.slice (some ⟨w.heap.size,0,none⟩) n (grownCap w n 0 e)) (w.drew.alloc (.cells (vs.toArray++Builtin.zeroCells ez.cells (grownCap w n 0 e-n)) e))
 room:0<n→ ∀(g iK lO:Nat) (lA:Array Value) (eH:TypeId),w.heap[g]? = some (.cells lA eH (0,0))→iK+n≤lO→iK*i.size+vs.length≤lA.size→n*i.bytes≤140737488355328 →
  (Builtin.append_ #[t,da] eC #[.slice (some ⟨g,0,none⟩) iK lO,nk]).run P w = .ok (.slice (some ⟨g,0,none⟩) (iK+n) lO) (w.setRow g (lA.toList.take (iK*i.size)++vs++lA.toList.drop (iK*i.size+vs.length)).toArray)
 grow:0<n→ ∀(b:Addr) (iK lO:Nat) (uO:List Value),uO.length=iK*i.size→(∀(j:Nat) v,uO[j]? = some v→w.cell? (b.add j)=some v)→lO<iK+n→((iK+n:Nat):Int)≤9223372036854775807→Builtin.nextslicecap (iK+n) lO*i.bytes≤281474976710656→n*i.bytes≤140737488355328 →
  (Builtin.append_ #[t,da] eC #[.slice (some b) iK lO,nk]).run P w = .ok (.slice (some ⟨w.heap.size,0,none⟩) (iK+n) (grownCap w (iK+n) lO e))
    (w.drew.alloc (.cells (uO.toArray++vs.toArray++Builtin.zeroCells ez.cells (grownCap w (iK+n) lO e-(iK+n))) e))
theorem Wk (t eC e:TypeId)(i:TypeInfo)(cb:P.underlying t=some (.slice e))(aq:P.info? e=some i)
 (g iK lO:Nat) (lA:Array Value) (eH:TypeId) (dI:w.heap[g]? = some (.cells lA eH (0,0)))
 (a:Addr) (m c:Nat) (news:List Value) (aV:news.length=m*i.size) (abG : ∀j u,news[j]? = some u→w.cell? (a.add j)=some u) (h1 : ∀u∈news,u.oneCell'=true)
 (r4:iK+m≤lO) (ib:iK*i.size+news.length≤lA.size) :
 (Builtin.append_ #[t,t] eC #[.slice (some ⟨g,0,none⟩) iK lO,.slice (some a) m c]).run P w =
   .ok (.slice (some ⟨g,0,none⟩) (iK+m) lO) (w.setRow g (lA.toList.take (iK*i.size)++news++lA.toList.drop (iK*i.size+news.length)).toArray):=by
 have ck:=run_firstCells_some (P:=P) w i.size m a m c news aV abG
 have ma:=run_storeCells_at P g (iK*i.size) eH news 0 lA w dI (by simpa using ib) h1
 simp only [Nat.add_zero] at ma
 simp [Builtin.append_,run_underlying cb,sizeOf,typeInfo,aq,Builtin.lenOf,r4,ck,Addr.add_lit,ma]
theorem Oq {t eC e:TypeId}{i:TypeInfo}{ez:Value}(cb:P.underlying t=some (.slice e))(aq:P.info? e=some i)(cw:i.zero=some ez){A:Option Addr}{n c:Nat}{vs:List Value}(aV:vs.length=n*i.size)
 (hA:n=0∨ ∃a,A=some a∧ ∀(j:Nat) u,vs[j]? = some u→w.cell? (a.add j)=some u) (h1 : ∀u∈vs,u.oneCell'=true):KQ P w t t eC e i ez (.slice A n c) n vs where
 zero:=fun h0 B len cap A1=>by
  subst h0
  cases A<;>cases B<;>simp [Builtin.append_,run_underlying cb,sizeOf,typeInfo,aq,Builtin.lenOf,A1,Builtin.firstCells,loadCells,loadCellsFrom,storeCells]
 nil:=fun h0 uS yg=>by
  obtain ⟨a,rfl,bE⟩:=hA.resolve_left (by omega)
  exact run_append_nil (P:=P) w t eC e i ez cb aq cw a n c vs aV bE h0 uS (by omega)
 room:=fun a5 g iK lO lA eH dI r4 ib _=>by
  obtain ⟨a,rfl,bE⟩:=hA.resolve_left (by omega)
  exact Wk t eC e i cb aq g iK lO lA eH dI a n c vs aV bE h1 r4 ib
 grow:=fun a5 b iK lO uO ao hold dI uS ib _=>by
  obtain ⟨a,rfl,bE⟩:=hA.resolve_left (by omega)
  exact run_append_grow (P:=P) w t eC e i ez cb aq cw b iK lO uO ao hold a n c vs aV bE dI uS ib
theorem Yt {t da eC e:TypeId}{i:TypeInfo}{ez:Value}{k:IntKind}(cb:P.underlying t=some (.slice e))(nx:P.underlying da=some (.int k))(aq:P.info? e=some i)(cw:i.zero=some ez)(lB:ez.cells.size=i.size){m:Nat}(afs:(m:Int)<9223372036854775808)
 (h1 : ∀u∈(Builtin.zeroCells ez.cells m).toList,u.oneCell'=true):KQ P w t da eC e i ez (.int .i64 m) m (Builtin.zeroCells ez.cells m).toList:=by
 have hw:IntKind.i64.wrap (m:Int)=m:=by simp [IntKind.wrap,IntKind.bits,IntKind.signed];omega
 have m8 : ¬((m:Int)<0):=by omega
 have qN : ∀cy,cy*i.size=0→Builtin.zeroCells ez.cells cy = #[]:=fun cy hm=>by
  apply Array.eq_empty_of_size_eq_zero
  rw [size_zeroCells,lB,hm]
 have Eh : ∀bL:World,(if m*i.size=0 then (pure #[]:Sem (Array Value)) else do pure (Builtin.zeroCells (← zeroValue e).cells m)).run P bL = .ok (Builtin.zeroCells ez.cells m) bL:=fun bL=>by
  split
  ·rename_i hm;rw [qN _ hm];rfl
  ·simp [zeroValue,typeInfo,aq,cw]
 have KR : ∀b:Nat,m*b≤140737488355328→ ¬(281474976710656<(m:Int)*(b:Int)):=fun b aS=>by
  have:((m*b:Nat):Int)≤140737488355328:=by omega
  rw [Int.natCast_mul] at this
  omega
 refine ⟨fun a5 B len cap A1=> ?_,fun a5 uS yg=> ?_,fun a5 g iK lO lA eH dI r4 ib yg=> ?_,fun a5 b iK lO uO ao hold dI uS ib yg=> ?_⟩
 ·subst a5
  have Le:IntKind.i64.wrap 0=0:=by simpa using hw
  cases B<;>simp [Builtin.append_,run_underlying cb,run_underlying nx,sizeOf,typeInfo,aq,A1,asInt,asIntOf,Le,storeCells]
 ·have Ei : ¬m=0:=by omega
  have A2 : ¬(9223372036854775807<(m:Int)):=by omega
  have s6:=KR _ yg
  have A3 : ¬(281474976710656<Builtin.nextslicecap m 0*i.bytes):=by rw [nextslicecap_zero a5];omega
  have o:=Eh w.drew
  by_cases hm:m*i.size=0
  ·simp [Builtin.append_,run_underlying cb,run_underlying nx,sizeOf,typeInfo,zeroValue,aq,cw,asInt,asIntOf,hw,m8,s6,Ei,A2,A3,Question.forced,run_firstCells_none,newRow,grownCap,hm,qN _ hm]
  ·simp [Builtin.append_,run_underlying cb,run_underlying nx,sizeOf,typeInfo,zeroValue,aq,cw,asInt,asIntOf,hw,m8,s6,Ei,A2,A3,Question.forced,run_firstCells_none,newRow,grownCap,hm]
 ·have s6:=KR _ yg
  have ma:=run_storeCells_at P g (iK*i.size) eH (Builtin.zeroCells ez.cells m).toList 0 lA w dI (by simpa using ib) h1
  simp only [Nat.add_zero] at ma
  by_cases hm:m*i.size=0
  ·rw [qN _ hm] at ma
   have ab8:(storeCells ⟨g,iK*i.size,none⟩ []).run P w = .ok () (w.setRow g lA):=by simpa using ma
   simp [Builtin.append_,run_underlying cb,run_underlying nx,sizeOf,typeInfo,zeroValue,aq,cw,asInt,asIntOf,hw,m8,s6,r4,hm,qN _ hm,Addr.add_lit,ab8]
  ·simp [Builtin.append_,run_underlying cb,run_underlying nx,sizeOf,typeInfo,zeroValue,aq,cw,asInt,asIntOf,hw,m8,s6,r4,hm,Addr.add_lit,ma]
 ·have s6:=KR _ yg
  have Rx : ¬(iK+m≤lO):=by omega
  have A2 : ¬(9223372036854775807<((iK:Int)+(m:Int))):=by omega
  have A3 : ¬(281474976710656<Builtin.nextslicecap (iK+m) lO*i.bytes):=by omega
  have Ry:=run_firstCells_some (P:=P) w.drew i.size iK b iK lO uO ao (by simpa using hold)
  by_cases hm:m*i.size=0
  ·simp [Builtin.append_,run_underlying cb,run_underlying nx,sizeOf,typeInfo,zeroValue,aq,cw,asInt,asIntOf,hw,m8,s6,Rx,A2,A3,Question.forced,Ry,newRow,grownCap,hm,qN _ hm]
  ·simp [Builtin.append_,run_underlying cb,run_underlying nx,sizeOf,typeInfo,zeroValue,aq,cw,asInt,asIntOf,hw,m8,s6,Rx,A2,A3,Question.forced,Ry,newRow,grownCap,hm]
theorem IY {aU:Nat}{e:TypeId}{v:Value}{i:TypeInfo}{m:Nat}(h:cJ g s ay a w)(eU:s.aW aU=none){es:List (List aB)}(hlen:∀x∈es,x.length=i.size)(hm:m=es.length)
 {nw:List Value} {st:Array Value} {cap:Nat} (pr:nw.length=es.length*i.size) (lN : ∀u∈nw,u.oneCell'=true) (acN:st.size=(cap-m)*i.size) (A1:m≤cap) (ab9:cap<9223372036854775808)
 (fs : ∀(j:Nat) x u,es.flatten[j]? = some x→nw[j]? = some u→Rel w (s.ok g ay w) s.a4 (s.bg ay) x u)
 (bj:v = .slice (some ⟨w.heap.size,0,none⟩) m cap) :
 ∃bK,cJ g (s.setRow aU [⟨i.size,es,.live⟩]) bK a (w.drew.alloc (.cells (nw.toArray++st) e)) ∧
  Rel (w.drew.alloc (.cells (nw.toArray++st) e)) ((s.setRow aU [⟨i.size,es,.live⟩]).ok g bK (w.drew.alloc (.cells (nw.toArray++st) e))) (s.setRow aU [⟨i.size,es,.live⟩]).a4 ((s.setRow aU [⟨i.size,es,.live⟩]).bg bK) (.bm aU 0 0 m) v:=by
 have bG:=h.drew
 have jJ:es.flatten.length=es.length*i.size:=by
  have : ∀(es:List (List aB)),(∀e∈es,e.length=i.size)→es.flatten.length=es.length*i.size:=by
   intro es
   induction es with
   | nil=>intro _;simp
   | cons e es ih =>
    intro ft
    rw [List.flatten_cons,List.length_append,ih fun x R=>ft x (by simp [R]),ft e (by simp),List.length_cons,Nat.add_mul];omega
  exact this es hlen
 obtain ⟨bK,p1,hg,-⟩:=bG.alloc eU ⟨i.size,es,.live⟩ rfl (nw.toArray++st) e hlen (fun j x R=>by
  have aI:j<nw.length:=by
   rcases Nat.lt_or_ge j es.flatten.length with cD|cD
   ·omega
   ·rw [List.getElem?_eq_none cD] at R;simp at R
  refine ⟨nw[j],?_,lN _ (List.getElem_mem aI),?_⟩
  ·rw [Array.getElem?_append_left (by simpa using aI)]
   simp [aI]
  ·exact (fs j x _ R (List.getElem?_eq_getElem aI)).drew)
 refine ⟨bK,hg,?_⟩
 subst bj
 have ao:(s.setRow aU [⟨i.size,es,.live⟩]).ak aU 0=some ⟨i.size,es,.live⟩:=by rw [lr,if_pos rfl,l0];simp
 refine Rel.bm (sz:=i.size) (d7:=w.heap.size) (m:=(nw.toArray++st).size) ((m4 _ _ _ _ _).2 (by simp)) ?_ A1 ab9 ⟨?_,.inr (by simp)⟩
 ·rw [iv ao,p1];rfl
 ·simp only [Array.size_append,List.size_toArray,acN,pr,Nat.zero_add]
  rw [← hm,← Nat.add_mul]
  congr 1;omega
section
variable {I:Oper} {cM:fz} {aU:Nat} {bC:h4}
theorem OU (h:cJ g s ay a w){t da eC e:TypeId}{i:TypeInfo}{z:List aB}(hu:P.underlying t=some (.slice e))(aq:P.info? e=some i)(cw:qm P e=some z)(nf:z.length=i.size)(j0:i.size≠0)
 {y:aB} {fq:fz} {bB:List (List aB)} {ak:List Prop} (he:uB P i.size z s.aW fq t da y=some (bB,ak)) (bo : ∀p∈ak,p) {nk:Value} (a1:Rel w (s.ok g ay w) s.a4 (s.bg ay) y nk) :
 ∃ez vs,i.zero=some ez∧ez.cells.size=i.size∧KQ P w t da eC e i ez nk bB.length vs∧(∀x∈bB,x.length=i.size)∧vs.length=bB.length*i.size∧(∀u∈vs,u.oneCell'=true) ∧
  ∀(j:Nat) x u,bB.flatten[j]? = some x→vs[j]? = some u→Rel w (s.ok g ay w) s.a4 (s.bg ay) x u:=by
 obtain ⟨eA,ez,kz,kX,pB,tf⟩:=z1 cw
 rw [aq] at kz;simp at kz;subst kz
 have lB:ez.cells.size=i.size:=by rw [← nf,pB];simp
 unfold uB at he
 split at he
 ·rename_i acO
  subst acO
  obtain ⟨A,c,rfl,hlen,Lf⟩:=Pl h he bo a1
  rcases Lf with h0|⟨d7,off,rfl,ie⟩
  ·have:bB=[]:=List.length_eq_zero_iff.1 h0
   subst this
   exact ⟨ez,[],kX,lB,Oq hu aq kX (by simp) (.inl rfl) (by simp),hlen,by simp,by simp,by simp⟩
  ·obtain ⟨vs,v1,v2,v3,v4⟩:=ie.nw
   exact ⟨ez,vs,kX,lB,Oq hu aq kX v1 (.inr ⟨_,rfl,v2⟩) v3,hlen,v1,v3,v4⟩
 ·split at he
  ·rename_i k n ba
   simp only [Option.some.injEq,Prod.mk.injEq] at he
   obtain ⟨rfl,rfl⟩:=he
   have h0:0≤n:=bo _ (by simp)
   have uS:n<9223372036854775808:=bo _ (by simp)
   obtain ⟨m,rfl⟩:=Int.eq_ofNat_of_zero_le h0
   have acP:nk = .int .i64 m:=by cases a1;rfl
   subst acP
   have lT : ∀(j:Nat) u,(Builtin.zeroCells ez.cells m).toList[j]? = some u→ez.cells[j % i.size]? = some u:=by
    intro j u nz
    have aI:=(List.getElem?_eq_some_iff.1 nz).1
    rw [Array.length_toList,size_zeroCells,lB] at aI
    have dz:j % i.size<ez.cells.size:=by rw [lB];exact Nat.mod_lt _ (by omega)
    rw [Array.getElem?_toList,Builtin.zeroCells,Array.getElem?_map,lB,Array.getElem?_range] at nz
    rw [if_pos aI] at nz
    simp only [Option.map_some,Option.some.injEq] at nz
    rw [← nz,Array.getElem?_eq_getElem dz,getElem!_pos ez.cells _ dz]
   refine ⟨ez,(Builtin.zeroCells ez.cells m).toList,kX,lB,?_,?_,?_,?_,?_⟩
   ·simp only [List.length_replicate,Int.toNat_natCast]
    refine Yt hu ba aq kX lB (by omega) fun u qO=> ?_
    obtain ⟨j,aI⟩:=List.getElem?_of_mem qO
    have h1:=lT j u aI
    have dz:j % i.size<z.length:=by rw [nf];exact Nat.mod_lt _ (by omega)
    obtain ⟨v,v1,v2,-⟩:=tf _ _ (List.getElem?_eq_getElem dz)
    rw [h1] at v1
    obtain rfl:=Option.some.inj v1
    exact v2
   ·intro x R
    rw [List.mem_replicate] at R
    rw [R.2,nf]
   ·rw [Array.length_toList,size_zeroCells,lB];simp
   ·intro u qO
    obtain ⟨j,aI⟩:=List.getElem?_of_mem qO
    have h1:=lT j u aI
    have dz:j % i.size<z.length:=by rw [nf];exact Nat.mod_lt _ (by omega)
    obtain ⟨v,v1,v2,-⟩:=tf _ _ (List.getElem?_eq_getElem dz)
    rw [h1] at v1
    obtain rfl:=Option.some.inj v1
    exact v2
   ·intro j x u R nz
    rw [oW (sz:=i.size) (by omega) _ (fun eH lQ=>by rw [List.mem_replicate] at lQ;rw [lQ.2,nf])] at R
    have h1:=lT j u nz
    cases bc:(List.replicate (Int.toNat (m:Int)) z)[j / i.size]? with
    | none=>rw [bc] at R;simp at R
    | some eH =>
     have:=List.mem_of_getElem? bc
     rw [List.mem_replicate] at this
     rw [bc,this.2] at R
     simp only [Option.bind_some] at R
     obtain ⟨v,v1,-,v3⟩:=tf _ _ R
     rw [h1] at v1
     obtain rfl:=Option.some.inj v1
     exact v3 _ _ _ _
  ·simp at he
theorem Yu (h:cJ g s ay a w)(eU:s.aW aU=none){x y:aB}{qZ nk:Value}{t da:TypeId}{m:Nat}{L6:Option ab}{eC:TypeId}(aw:ny P s.E s.aW aU .append [x,y] [t,da] (.aJ m L6)=some bC)(cz:∀p∈bC.fv,p)
 (R:Rel w (s.ok g ay w) s.a4 (s.bg ay) x qZ) (a1:Rel w (s.ok g ay w) s.a4 (s.bg ay) y nk) :
 ∃v bL bK,(Builtin.append_ #[t,da] eC #[qZ,nk]).run P w = .ok v bL∧cJ g (s.hU bC.fL) bK a bL∧Rel bL ((s.hU bC.fL).ok g bK bL) (s.hU bC.fL).a4 ((s.hU bC.fL).bg bK) bC.val v:=by
 simp only [ny] at aw
 split at aw
 ·simp at aw
 ·rename_i e he
  have hu:=rh he
  split at aw
  ·rename_i i z aq cw
   split at aw
   ·simp at aw
   ·rename_i bf
    simp only [not_or,Decidable.not_not] at bf
    obtain ⟨nf,j0,yb⟩:=bf
    split at aw
    ·simp at aw
    ·rename_i bB ah qI
     have Ej:=fun ai=>OU (eC:=eC) h hu aq cw nf j0 qI ai a1
     by_cases aba:True
     ·
      split at aw
      ·
       simp only [Option.some.injEq] at aw
       subst aw
       have hm:m=bB.length:=cz _ (by simp)
       have Bt:m*i.bytes≤140737488355328:=cz _ (by simp)
       obtain ⟨ez,vs,kX,lB,hA,hlen,v1,v3,v4⟩:=Ej (fun p ai=>cz p (by simp [ai]))
       clear Ej
       rw [R.pe]
       by_cases h0:bB.length=0
       ·have:bB=[]:=List.length_eq_zero_iff.1 h0
        subst this
        obtain ⟨bK,p1,hg⟩:=h.PS (sz:=i.size) eU
        refine ⟨_,w,bK,hA.zero h0 none 0 0 (Nat.le_refl _),hg,?_⟩
        subst hm
        have ao:(s.setRow aU [⟨i.size,[],.live⟩]).ak aU 0=some ⟨i.size,[],.live⟩:=by rw [lr,if_pos rfl,l0];simp
        exact .nn (sz:=i.size) ((m4 _ _ _ _ _).2 (by simp)) (by show (s.setRow aU [⟨i.size,[],.live⟩]).bg bK aU 0=_;rw [iv ao,p1])
       ··have tg:bB.length*1≤bB.length*i.bytes:=Nat.mul_le_mul_left _ (by omega)
         rw [hm] at Bt
         have iS:=hA.nil (by omega) (by omega) (by omega)
         have Rz:=grownCap_ge w bB.length 0 e
         have hle:=grownCap_le_maxLen w bB.length 0 e (by simp only [maxLen];omega)
         simp only [maxLen] at hle
         obtain ⟨bK,q1,aY⟩:=IY (e:=e) (i:=i) (m:=m) (nw:=vs) (st:=Builtin.zeroCells ez.cells (grownCap w bB.length 0 e-bB.length)) (cap:=grownCap w bB.length 0 e) h eU hlen hm v1 v3
          (by rw [size_zeroCells,lB,hm]) (by omega) (by omega) v4 rfl
         refine ⟨.slice (some ⟨w.heap.size,0,none⟩) m (grownCap w bB.length 0 e),_,bK,?_,q1,aY⟩
         rw [hm];exact iS
      ·
       rename_i r k len
       split at aw
       ·simp at aw
       ·rename_i row dw
        split at aw
        ·simp at aw
        ·rename_i ak bo
         split at aw
         ·rename_i uT
          obtain ⟨nA,eP,dr⟩:=uT
          simp only [Option.some.injEq] at aw
          subst aw
          have ao:s.ak r k=some ak:=by unfold S.ak;rw [dw];exact bo
          have ib:len≤ak.es.length:=cz _ (by simp)
          have hm:m=len+bB.length:=cz _ (by simp)
          have Bt:m*i.bytes≤140737488355328:=cz _ (by simp)
          have tg:m*1≤m*i.bytes:=Nat.mul_le_mul_left _ (Nat.one_le_iff_ne_zero.2 yb)
          obtain ⟨ez,vs,kX,lB,hA,hlen,v1,v3,v4⟩:=Ej (fun p ai=>cz p (by simp [ai]))
          clear Ej
          have afB:bB.length*i.bytes≤m*i.bytes:=Nat.mul_le_mul_right _ (by omega)
          have fs:=h.obj r k ak ao
          have Lg:(ak.es.take len).length=len:=by simp;omega
          have rp:(s.setRow aU [⟨i.size,ak.es.take len++bB,.live⟩]).aW r=some row:=by simp [S.setRow,Ne.symm dr,dw]
          have ps : ∀bK:fm,((s.setRow aU [⟨i.size,ak.es.take len++bB,.live⟩]).setRow r (row.set k {ak with cm:= .gone})).ak aU 0=some ⟨i.size,ak.es.take len++bB,.live⟩:=by
           intro _
           rw [lr,if_neg dr,lr,if_pos rfl,l0];simp
          have A4:((s.setRow aU [⟨i.size,ak.es.take len++bB,.live⟩]).setRow r (row.set k {ak with cm:= .gone})).a4 aU 0:=by rw [m4,if_neg dr,m4,if_pos rfl];simp
          show ∃v bL bK,_∧cJ g ((s.setRow aU [⟨i.size,ak.es.take len++bB,.live⟩]).setRow r (row.set k {ak with cm:= .gone})) bK a bL∧_
          rcases R.ur (iv ao) with ⟨ai,-,rfl,rfl⟩|⟨b,M,n9,ks,ai,rfl,qM,si,ec,mb⟩
          ·
           rw [ai] at fs
           simp only [jg] at fs
           have hp:ak.es.take 0++bB=bB:=by simp
           by_cases h0:bB.length=0
           ·have:bB=[]:=List.length_eq_zero_iff.1 h0
            subst this
            obtain ⟨bK,p1,hg⟩:=h.PS (sz:=i.size) eU
            have pt:(s.setRow aU [⟨i.size,[],.live⟩]).ak r k=some ak:=by rw [lr,if_neg (Ne.symm dr)];exact ao
            have abH:(s.setRow aU [⟨i.size,[],.live⟩]).aW r=some row:=by simp [S.setRow,Ne.symm dr,dw]
            obtain ⟨rB,-⟩:=hg.gone abH pt
            have A5:ak.es.take 0++([]:List (List aB))=[]:=by simp
            rw [A5]
            rw [A5] at A4 ps
            refine ⟨_,w,bK,hA.zero h0 none 0 0 (Nat.le_refl _),rB,?_⟩
            subst hm
            exact .nn (sz:=i.size) A4 ((iv (ps bK)).trans (by rw [p1]))
           ··have kW:m=bB.length:=by omega
             have iS:=hA.nil (by omega) (by omega) (by omega)
             have Rz:=grownCap_ge w bB.length 0 e
             have hle:=grownCap_le_maxLen w bB.length 0 e (by simp only [maxLen];omega)
             simp only [maxLen] at hle
             obtain ⟨bK,q1,aY⟩:=IY (e:=e) (i:=i) (m:=m) (nw:=vs) (st:=Builtin.zeroCells ez.cells (grownCap w bB.length 0 e-bB.length)) (cap:=grownCap w bB.length 0 e) h eU hlen kW v1 v3
              (by rw [size_zeroCells,lB,kW]) (by omega) (by omega) v4 rfl
             rw [hp]
             rw [hp] at rp
             have pt:(s.setRow aU [⟨i.size,bB,.live⟩]).ak r k=some ak:=by rw [lr,if_neg (Ne.symm dr)];exact ao
             obtain ⟨rB,B7⟩:=q1.gone rp pt
             refine ⟨.slice (some ⟨w.heap.size,0,none⟩) m (grownCap w bB.length 0 e),_,bK,?_,rB,B7 _ _ aY⟩
             rw [kW];exact iS
          ·
           rw [ai] at fs
           have abI:=fs
           obtain ⟨cj,mm,g1,g2,g3,g4⟩:=fs
           have A6 : ∀e∈ak.es.take len++bB,e.length=i.size:=by
            intro eH lQ
            rw [List.mem_append] at lQ
            rcases lQ with cD|cD
            ·rw [g3 eH (List.mem_of_mem_take cD),eP]
            ·exact hlen eH cD
           have jJ : ∀(es:List (List aB)),(∀e∈es,e.length=i.size)→es.flatten.length=es.length*i.size:=by
            intro es
            induction es with
            | nil=>intro _;simp
            | cons e es ih =>
             intro ft
             rw [List.flatten_cons,List.length_append,ih fun x R=>ft x (by simp [R]),ft e (by simp),List.length_cons,Nat.add_mul];omega
           by_cases h0:bB.length=0
           ·
            have:bB=[]:=List.length_eq_zero_iff.1 h0
            subst this
            have A5:ak.es.take len++([]:List (List aB))=ak.es.take len:=by simp
            rw [A5]
            rw [A5] at A4 ps A6
            obtain ⟨bK,p1,hg⟩:=h.turn dw ao nA ai eU ⟨i.size,ak.es.take len,.live⟩ rfl cj mm g1 rfl (fun _ _=>rfl) rfl rfl rfl g2 A6 (fun j q bc=>by
             refine g4 j q ?_
             have aI:j<(ak.es.take len).flatten.length:=by
              rcases Nat.lt_or_ge j (ak.es.take len).flatten.length with cD|cD
              ·exact cD
              ·rw [List.getElem?_eq_none cD] at bc;simp at bc
             have RA:ak.es.flatten=(ak.es.take len).flatten++(ak.es.drop len).flatten:=by rw [← List.flatten_append,List.take_append_drop]
             rw [RA,List.getElem?_append_left aI];exact bc)
            refine ⟨_,w,bK,hA.zero h0 n9 len ks qM,hg,?_⟩
            have kW:m=len:=by simpa using hm
            subst kW
            refine .bm (sz:=i.size) (d7:=b) (m:=M) A4 ((iv (ps bK)).trans (by rw [p1])) qM si ?_
            rw [← eP];exact ⟨ec,mb⟩
           ··
             have hold : ∃xs:List Value,xs.length=len*i.size∧(∀(j:Nat) u,xs[j]? = some u→w.cell? ((⟨b,0,none⟩:Addr).add j)=some u)∧(∀u∈xs,u.oneCell'=true) ∧
              ∀(j:Nat) x u,(ak.es.take len).flatten[j]? = some x→xs[j]? = some u→Rel w (s.ok g ay w) s.a4 (s.bg ay) x u:=by
              have Ra:=C5 abI.rd 0 len (by omega)
              simp only [List.drop_zero,Nat.zero_mul,Nat.add_zero] at Ra
              obtain ⟨xs,x1,d3,aE,gh⟩:=Ra.nw
              exact ⟨xs,by rw [x1,Lg,eP],d3,aE,gh⟩
             obtain ⟨xs,x1,d3,aE,gh⟩:=hold
             have acQ:xs.length=(ak.es.take len).length*i.size:=by rw [Lg];exact x1
             have PT : ∀(j:Nat) x u,(ak.es.take len++bB).flatten[j]? = some x→(xs++vs)[j]? = some u→Rel w (s.ok g ay w) s.a4 (s.bg ay) x u :=
              fun j x u acR nz=>W9 acQ (fun eH lQ=>by rw [g3 eH (List.mem_of_mem_take lQ),eP]) acR gh v4 nz
             have A7:(ak.es.take len++bB).length=m:=by rw [List.length_append,Lg];exact hm.symm
             by_cases r4:len+bB.length≤ks
             ·
              rcases mb with rfl|rfl
              ·omega
              ·rw [Nat.zero_mul] at *
               rw [Nat.zero_add] at ec
               have abb:len*i.size+vs.length≤cj.size:=by
                rw [v1,g2,← ec,eP,← Nat.add_mul];exact Nat.mul_le_mul_right _ r4
               have iS:=hA.room (by omega) b len ks cj mm g1 r4 abb (by omega)
               have aca:(w.setRow b (cj.toList.take (len*i.size)++vs++cj.toList.drop (len*i.size+vs.length)).toArray).heap.size=w.heap.size:=size_setRow _ _ _
               have RB:xs=cj.toList.take (len*i.size):=by
                apply List.ext_getElem?
                intro j
                rw [List.getElem?_take]
                by_cases aI:j<len*i.size
                ·rw [if_pos aI]
                 have th:j<xs.length:=by omega
                 have:=d3 j _ (List.getElem?_eq_getElem th)
                 rw [rf,cell_of_row w b (0+j) cj mm (0,0) g1,Nat.zero_add] at this
                 rw [List.getElem?_eq_getElem th,← this,Array.getElem?_toList]
                ·rw [if_neg aI,List.getElem?_eq_none (by omega)]
               obtain ⟨bK,p1,hg⟩:=h.turn dw ao nA ai eU ⟨i.size,ak.es.take len++bB,.live⟩ rfl _ mm (setRow_heap w b cj _ mm _ g1) aca (fun q bc=>setRow_other w b q _ bc) rfl rfl rfl
                (by rw [← g2];simp;omega) A6 (fun j q bc=>by
                  have aI:j<(xs++vs).length:=by
                   have:j<(ak.es.take len++bB).flatten.length:=by
                    rcases Nat.lt_or_ge j (ak.es.take len++bB).flatten.length with cD|cD
                    ·exact cD
                    ·rw [List.getElem?_eq_none cD] at bc;simp at bc
                   rw [jJ _ A6,A7] at this
                   rw [List.length_append,x1,v1,← Nat.add_mul,← hm];exact this
                  refine ⟨(xs++vs)[j],?_,?_,PT j q _ bc (List.getElem?_eq_getElem aI)⟩
                  ·rw [List.getElem?_toArray,List.getElem?_append_left (by rw [← RB];exact aI),← RB]
                   exact List.getElem?_eq_getElem aI
                  ·have:=List.getElem_mem aI
                   rw [List.mem_append] at this
                   rcases this with cD|cD
                   ·exact aE _ cD
                   ·exact v3 _ cD)
               refine ⟨_,_,bK,iS,hg,?_⟩
               rw [← hm]
               refine .bm (sz:=i.size) (d7:=b) (m:=M) A4 ((iv (ps bK)).trans (by rw [p1])) (by omega) si ⟨?_,.inr (by simp)⟩
               rw [Nat.zero_add,← eP];exact ec
             ·
              have hA : ∃vg:Addr,(n9=some vg∧ ∀(j:Nat) u,xs[j]? = some u→w.cell? (vg.add j)=some u)∨(n9=none∧len=0∧ks=0):=by
               cases n9 with
               | none =>
                refine ⟨⟨0,0,none⟩,.inr ⟨rfl,?_⟩⟩
                rcases mb with cD|cD
                ·omega
                ·simp at cD
               | some vg =>
                refine ⟨vg,.inl ⟨rfl,?_⟩⟩
                rcases mb with cD|cD
                ·have:len=0:=by omega
                 have:xs=[]:=List.length_eq_zero_iff.1 (by rw [x1,this];simp)
                 intro j u aI
                 rw [this] at aI;simp at aI
                ·simp at cD;subst cD;exact d3
              have Rz:=grownCap_ge w (len+bB.length) ks e
              have hle:=grownCap_le_maxLen w (len+bB.length) ks e (by simp only [maxLen];omega)
              simp only [maxLen] at hle
              have iS:(Builtin.append_ #[t,da] eC #[.slice n9 len ks,nk]).run P w = .ok (.slice (some ⟨w.heap.size,0,none⟩) (len+bB.length) (grownCap w (len+bB.length) ks e))
               (w.drew.alloc (.cells ((xs++vs).toArray++Builtin.zeroCells ez.cells (grownCap w (len+bB.length) ks e-(len+bB.length))) e)):=by
               have acb:(xs++vs).toArray=xs.toArray++vs.toArray:=by apply Array.ext';simp
               rw [acb]
               obtain ⟨vg,⟨rfl,acS⟩|⟨rfl,ng,mn⟩⟩:=hA
               ·exact hA.grow (by omega) vg len ks xs x1 acS (by omega) (by omega) (growslice_fits (by omega) (by rw [← hm];exact Bt)) (by omega)
               ·subst ng;subst mn
                have acT:xs=[]:=List.length_eq_zero_iff.1 (by rw [x1];simp)
                subst acT
                have:=hA.nil (by omega) (by omega) (by omega)
                simpa using this
              obtain ⟨bK,q1,aY⟩:=IY (e:=e) (i:=i) (m:=m) (nw:=xs++vs) (st:=Builtin.zeroCells ez.cells (grownCap w (len+bB.length) ks e-(len+bB.length))) (cap:=grownCap w (len+bB.length) ks e) h eU A6 A7.symm
               (by rw [List.length_append,x1,v1,A7,hm,Nat.add_mul]) (fun u hu=>by
                 rw [List.mem_append] at hu
                 rcases hu with cD|cD
                 ·exact aE _ cD
                 ·exact v3 _ cD) (by rw [size_zeroCells,lB,hm]) (by omega) (by omega) PT rfl
              have pt:(s.setRow aU [⟨i.size,ak.es.take len++bB,.live⟩]).ak r k=some ak:=by rw [lr,if_neg (Ne.symm dr)];exact ao
              obtain ⟨rB,B7⟩:=q1.gone rp pt
              refine ⟨.slice (some ⟨w.heap.size,0,none⟩) m (grownCap w (len+bB.length) ks e),_,bK,?_,rB,B7 _ _ aY⟩
              rw [hm];exact iS
         ·simp at aw
      ·simp at aw
     ·exact absurd trivial aba
  ·simp at aw
end
end
section
variable {P:Program} {g:G} {s:S} {ay:fm} {a:Act} {w:World}
theorem Ae {sz:Nat}: ∀ {es:List (List aB)},(∀e∈es,e.length=sz)→es.flatten.length=es.length*sz
 | [],_=>by simp
 | e::es,h=>by
  rw [List.flatten_cons,List.length_append,Ae fun x R=>h x (by simp [R]),h e (by simp),List.length_cons,Nat.add_mul];omega
theorem cJ.putAt (h:cJ g s ay a w){r k p b M:Nat}{row:List ab}{ak:ab}(ar:s.aW r=some row)(ao:s.ak r k=some ak)(ba:ak.cm = .live)(lD:ay r k=some (b,M)){bB gk:List (List aB)}{vs:List Value}
 (hlen : ∀x∈bB,x.length=ak.sz) (v1:vs.length=bB.length*ak.sz) (v3 : ∀u∈vs,u.oneCell'=true) (v4 : ∀(j:Nat) x u,bB.flatten[j]? = some x→vs[j]? = some u→Rel w (s.ok g ay w) s.a4 (s.bg ay) x u)
 (ai:p+bB.length≤ak.es.length) (q:Nat) (hp:gk=(ak.es.take p++bB++ak.es.drop (p+bB.length)).take q) :
 ∃cj mm,w.heap[b]? = some (.cells cj mm (0,0))∧cj.size=M∧ak.es.length*ak.sz≤M∧p*ak.sz+vs.length≤cj.size ∧
  cJ g (s.setRow r (row.set k {ak with es:=gk})) ay a (w.setRow b (cj.toList.take (p*ak.sz)++vs++cj.toList.drop (p*ak.sz+vs.length)).toArray) ∧
  ∀x v,Rel w (s.ok g ay w) s.a4 (s.bg ay) x v→Rel (w.setRow b (cj.toList.take (p*ak.sz)++vs++cj.toList.drop (p*ak.sz+vs.length)).toArray) ((s.setRow r (row.set k {ak with es:=gk})).ok g ay (w.setRow b (cj.toList.take (p*ak.sz)++vs++cj.toList.drop (p*ak.sz+vs.length)).toArray)) (s.setRow r (row.set k {ak with es:=gk})).a4 ((s.setRow r (row.set k {ak with es:=gk})).bg ay) x v:=by
 have fs:=h.obj r k ak ao
 rw [lD] at fs
 obtain ⟨cj,mm,g1,g2,g3,g4⟩:=fs
 have jJ:=Ae g3
 have ec:ak.es.length*ak.sz≤M:=by
  rcases Nat.eq_zero_or_pos ak.es.flatten.length with h0|j0
  ·omega
  ·obtain ⟨v,e1,-⟩:=g4 (ak.es.flatten.length-1) _ (List.getElem?_eq_getElem (by omega))
   have:=(Array.getElem?_eq_some_iff.1 e1).1
   omega
 have hmul:p*ak.sz+bB.length*ak.sz≤ak.es.length*ak.sz:=by rw [← Nat.add_mul];exact Nat.mul_le_mul_right _ ai
 have ib:p*ak.sz+vs.length≤cj.size:=by omega
 refine ⟨cj,mm,g1,g2,ec,ib,?_⟩
 have acd : ∀e∈ak.es.take p++bB++ak.es.drop (p+bB.length),e.length=ak.sz:=by
  intro e he
  simp only [List.mem_append] at he
  rcases he with (he|he)|he
  ·exact g3 e (List.mem_of_mem_take he)
  ·exact hlen e he
  ·exact g3 e (List.mem_of_mem_drop he)
 have hA:(ak.es.take p).flatten.length=p*ak.sz:=by rw [Ae fun e he=>g3 e (List.mem_of_mem_take he),List.length_take];congr 1;omega
 have gY:(ak.es.take (p+bB.length)).flatten.length=p*ak.sz+bB.length*ak.sz:=by rw [Ae fun e he=>g3 e (List.mem_of_mem_take he),List.length_take,← Nat.add_mul];congr 1;omega
 have ad8:bB.flatten.length=bB.length*ak.sz:=Ae hlen
 have h1 : ∀j,j<p*ak.sz→(ak.es.take p).flatten[j]? = ak.es.flatten[j]? := fun j aI=>by
  conv=>rhs;rw [← List.take_append_drop p ak.es,List.flatten_append,List.getElem?_append_left (by omega)]
 have o : ∀j,(ak.es.drop (p+bB.length)).flatten[j]? = ak.es.flatten[p*ak.sz+bB.length*ak.sz+j]? := fun j=>by
  conv=>rhs;rw [← List.take_append_drop (p+bB.length) ak.es,List.flatten_append,List.getElem?_append_right (by omega),gY]
  congr 1;omega
 refine h.write ar ao ba lD gk _ mm (setRow_heap w b cj _ mm _ g1) (size_setRow _ _ _) (fun q bc=>setRow_other w b q _ bc) rfl rfl rfl (by rw [← g2];simp;omega) ?_ ?_
 ·intro e he
  rw [hp] at he
  exact acd e (List.mem_of_mem_take he)
 ·intro j x R
  have dE:(ak.es.take p++bB++ak.es.drop (p+bB.length)).flatten[j]? = some x:=by
   rw [hp] at R
   have aI:=(List.getElem?_eq_some_iff.1 R).1
   conv=>lhs;rw [← List.take_append_drop q (ak.es.take p++bB++ak.es.drop (p+bB.length)),List.flatten_append,List.getElem?_append_left aI]
   exact R
  rw [List.flatten_append,List.flatten_append] at dE
  simp only [List.getElem?_toArray]
  have iy:(cj.toList.take (p*ak.sz)).length=p*ak.sz:=by rw [List.length_take,Array.length_toList];omega
  by_cases bw:j<p*ak.sz
  ·rw [List.append_assoc,List.getElem?_append_left (by omega),h1 j bw] at dE
   obtain ⟨v,e1,aC,bR⟩:=g4 j x dE
   refine ⟨v,?_,aC,bR⟩
   rw [List.append_assoc,List.getElem?_append_left (by omega),List.getElem?_take,if_pos bw,Array.getElem?_toList];exact e1
  ·by_cases cd:j<p*ak.sz+vs.length
   ·rw [List.append_assoc,List.getElem?_append_right (by omega),hA,List.getElem?_append_left (by omega)] at dE
    have bj:j-p*ak.sz<vs.length:=by omega
    refine ⟨vs[j-p*ak.sz],?_,v3 _ (List.getElem_mem bj),v4 _ _ _ dE (List.getElem?_eq_getElem bj)⟩
    rw [List.append_assoc,List.getElem?_append_right (by omega),iy,List.getElem?_append_left (by omega)]
    exact List.getElem?_eq_getElem bj
   ·rw [List.getElem?_append_right (by rw [List.length_append];omega),List.length_append,hA,ad8,o] at dE
    rw [show p*ak.sz+bB.length*ak.sz+(j-(p*ak.sz+bB.length*ak.sz))=j by omega] at dE
    obtain ⟨v,e1,aC,bR⟩:=g4 j x dE
    refine ⟨v,?_,aC,bR⟩
    rw [List.getElem?_append_right (by rw [List.length_append];omega),List.length_append,iy,List.getElem?_drop,Array.getElem?_toList]
    rw [show p*ak.sz+vs.length+(j-(p*ak.sz+vs.length))=j by omega];exact e1
end
section
variable {P:Program} {g:G} {s:S} {ay:fm} {a:Act} {w:World} {aU:Nat} {bC:h4}
theorem aaE (h:cJ g s ay a w){x y:aB}{qZ nk:Value}{t da eC:TypeId}(aw:ny P s.E s.aW aU .append [x,y] [t,da] .fQ=some bC)(cz:∀p∈bC.fv,p)
 (R:Rel w (s.ok g ay w) s.a4 (s.bg ay) x qZ) (a1:Rel w (s.ok g ay w) s.a4 (s.bg ay) y nk) :
 ∃v bL,(Builtin.append_ #[t,da] eC #[qZ,nk]).run P w = .ok v bL∧cJ g (s.hU bC.fL) ay a bL∧Rel bL ((s.hU bC.fL).ok g ay bL) (s.hU bC.fL).a4 ((s.hU bC.fL).bg ay) bC.val v:=by
 simp only [ny] at aw
 split at aw
 ·simp at aw
 ·rename_i e he
  have hu:=rh he
  split at aw
  ·rename_i i z aq cw
   split at aw
   ·simp at aw
   ·rename_i bf
    simp only [not_or,Decidable.not_not] at bf
    obtain ⟨nf,j0,yb⟩:=bf
    split at aw
    ·simp at aw
    ·rename_i bB ah qI
     split at aw
     ·rename_i r k len
      split at aw
      ·simp at aw
      ·rename_i row dw
       split at aw
       ·simp at aw
       ·rename_i ak bo
        split at aw
        ·rename_i uT
         obtain ⟨nA,eP⟩:=uT
         simp only [Option.some.injEq] at aw
         subst aw
         have ao:s.ak r k=some ak:=by unfold S.ak;rw [dw];exact bo
         have ib:len+bB.length≤ak.es.length:=cz _ (by simp)
         have Bt:bB.length*i.bytes≤140737488355328:=cz _ (by simp)
         obtain ⟨ez,vs,kX,lB,hA,hlen,v1,v3,v4⟩:=OU (eC:=eC) h hu aq cw nf j0 qI (fun p ai=>cz p (by simp [ai])) a1
         rw [← eP] at v1
         have QN : ∀x∈bB,x.length=ak.sz:=fun x R=>by rw [hlen x R,eP]
         have hp:ak.es.take len++bB=(ak.es.take len++bB++ak.es.drop (len+bB.length)).take (len+bB.length) :=
          (List.take_left' (by rw [List.length_append,List.length_take];omega)).symm
         rcases R.ur (iv ao) with ⟨ai,-,rfl,rfl⟩|⟨b,M,n9,ks,ai,rfl,qM,si,ec,mb⟩
         ·have fs:=h.obj r k ak ao
          rw [ai] at fs
          simp only [jg] at fs
          rw [fs] at ib
          have h0:bB.length=0:=by simp at ib;exact List.length_eq_zero_iff.2 ib
          have uU:bB=[]:=List.length_eq_zero_iff.1 h0
          subst uU
          have k8:row.set k {ak with es:=ak.es.take 0++[]}=row:=by
           have h1:({ak with es:=ak.es.take 0++[]}:ab)=ak:=by cases ak;simp only [] at fs;subst fs;rfl
           rw [h1]
           have o:row[k]? = some ak:=by
            unfold db at bo
            simp only at bo
            split at bo
            ·rename_i b6 dR
             split at bo
             ·simp at bo
             ·simp at bo;rw [← bo];exact dR
            ·simp at bo
           exact List.ext_getElem? fun j=>by
            rw [List.getElem?_set]
            split
            ·rename_i e;subst e
             have:=(List.getElem?_eq_some_iff.1 o).1
             rw [if_pos this,o]
            ·rfl
          refine ⟨_,w,hA.zero h0 none 0 0 (Nat.le_refl _),?_⟩
          have ek:s.setRow r row=s:=by
           have:(fun q=>if q=r then some row else s.aW q)=s.aW:=by
            funext q;split
            ·rename_i e;rw [e,dw]
            ·rfl
           show ({s with aW:=_}:S)=s
           rw [this]
          show cJ g (s.setRow r (row.set k {ak with es:=ak.es.take 0++[]})) ay a w∧Rel w ((s.setRow r (row.set k {ak with es:=ak.es.take 0++[]})).ok g ay w) (s.setRow r (row.set k {ak with es:=ak.es.take 0++[]})).a4 ((s.setRow r (row.set k {ak with es:=ak.es.take 0++[]})).bg ay) (.bm r k 0 0) (.slice none 0 0)
          rw [k8,ek]
          exact ⟨h,R⟩
         ·obtain ⟨cj,mm,bw,cd,jq,pC,oa,q2⟩:=h.putAt dw ao nA ai QN v1 v3 v4 ib (len+bB.length) hp
          have hle:ak.es.length≤ks:=by
           rw [Nat.zero_add] at ec
           rw [← ec] at jq
           exact Nat.le_of_mul_le_mul_right jq (by omega)
          by_cases mn:ks=0
          ·have h0:bB.length=0:=by omega
           have ng:len=0:=by omega
           subst ng
           have uU:bB=[]:=List.length_eq_zero_iff.1 h0
           subst uU
           have Lh:vs=[]:=List.length_eq_zero_iff.1 (by simpa using v1)
           subst Lh
           have hw:w.setRow b (cj.toList.take (0*ak.sz)++[]++cj.toList.drop (0*ak.sz+0)).toArray=w:=by
            simp only [Nat.zero_mul,List.take_zero,List.nil_append,Nat.zero_add,List.drop_zero,Array.toArray_toList]
            exact setRow_self w b cj mm (0,0) bw
           simp only [List.length_nil] at oa q2
           rw [hw] at oa q2
           exact ⟨_,w,hA.zero h0 n9 0 ks (Nat.zero_le _),oa,q2 _ _ R⟩
          ·have Bu:n9=some ⟨b,0,none⟩:=by
            rcases mb with cD|cD
            ·exact absurd cD mn
            ·simpa using cD
           subst Bu
           by_cases h0:bB.length=0
           ·have uU:bB=[]:=List.length_eq_zero_iff.1 h0
            subst uU
            have Lh:vs=[]:=List.length_eq_zero_iff.1 (by simpa using v1)
            subst Lh
            have hw:w.setRow b (cj.toList.take (len*ak.sz)++[]++cj.toList.drop (len*ak.sz+0)).toArray=w:=by
             simp only [List.append_nil,Nat.add_zero,List.take_append_drop,Array.toArray_toList]
             exact setRow_self w b cj mm (0,0) bw
            simp only [List.length_nil] at oa q2
            rw [hw] at oa q2
            exact ⟨_,w,hA.zero h0 _ len ks qM,oa,q2 _ _ R⟩
           ·have iS:=hA.room (by omega) b len ks cj mm bw (by omega) (by rw [← eP];exact pC) Bt
            rw [← eP] at iS
            refine ⟨_,_,iS,oa,?_⟩
            have AZ:(s.setRow r (row.set k {ak with es:=ak.es.take len++bB})).ak r k=some {ak with es:=ak.es.take len++bB}:=by
             rw [lr,if_pos rfl,Pj row k ak _ bo (by simp [nA]),if_pos rfl]
            show Rel _ ((s.setRow r (row.set k {ak with es:=ak.es.take len++bB})).ok g ay _) (s.setRow r (row.set k {ak with es:=ak.es.take len++bB})).a4 ((s.setRow r (row.set k {ak with es:=ak.es.take len++bB})).bg ay) (.bm r k 0 (len+bB.length)) _
            refine .bm (sz:=ak.sz) (d7:=b) (m:=M) (Dr AZ) ((iv AZ).trans (by rw [ai])) (by omega) si ⟨ec,.inr (by simp)⟩
        ·simp at aw
     ·simp at aw
  ·simp at aw
end
section
variable {P:Program} {g:G} {s:S} {ay:fm} {a:Act} {w:World} {aU:Nat} {bC:h4}
theorem N9 {s:S}{r k:Nat}{row:List ab}{ak:ab}(ar:s.aW r=some row)(ao:db (some row) k=some ak):s.setRow r (row.set k ak)=s:=by
 have o:row[k]? = some ak:=by
  unfold db at ao
  simp only at ao
  split at ao
  ·rename_i b6 dR
   split at ao
   ·simp at ao
   ·simp at ao;rw [← ao];exact dR
  ·simp at ao
 have ae:row.set k ak=row:=List.ext_getElem? fun j=>by
  rw [List.getElem?_set]
  split
  ·rename_i e;subst e
   have:=(List.getElem?_eq_some_iff.1 o).1
   rw [if_pos this,o]
  ·rfl
 rw [ae]
 have:(fun q=>if q=r then some row else s.aW q)=s.aW:=by
  funext q;split
  ·rename_i e;rw [e,ar]
  ·rfl
 show ({s with aW:=_}:S)=s
 rw [this]
theorem Yv {e:TypeId}{i:TypeInfo}{z:List aB}{ez:Value}(lB:ez.cells.size=i.size)(nf:z.length=i.size)(j0:i.size≠0)
 (tf : ∀(j:Nat) x,z[j]? = some x→ ∃v,ez.cells[j]? = some v∧j9 v=true∧ ∀(w:World) (ok:Nat→Prop) (a4:i7) (bg:iW),Rel w ok a4 bg x v) (m:Nat) :
 (Builtin.zeroCells ez.cells m).toList.length=m*i.size∧(∀u∈(Builtin.zeroCells ez.cells m).toList,u.oneCell'=true) ∧
   ∀(j:Nat) x u,(List.replicate m z).flatten[j]? = some x→(Builtin.zeroCells ez.cells m).toList[j]? = some u→ ∀(w:World) (ok:Nat→Prop) (a4:i7) (bg:iW),Rel w ok a4 bg x u:=by
 have lT : ∀(j:Nat) u,(Builtin.zeroCells ez.cells m).toList[j]? = some u→ez.cells[j % i.size]? = some u:=by
  intro j u nz
  have aI:=(List.getElem?_eq_some_iff.1 nz).1
  rw [Array.length_toList,size_zeroCells,lB] at aI
  have dz:j % i.size<ez.cells.size:=by rw [lB];exact Nat.mod_lt _ (by omega)
  rw [Array.getElem?_toList,Builtin.zeroCells,Array.getElem?_map,lB,Array.getElem?_range] at nz
  rw [if_pos aI] at nz
  simp only [Option.map_some,Option.some.injEq] at nz
  rw [← nz,Array.getElem?_eq_getElem dz,getElem!_pos ez.cells _ dz]
 refine ⟨?_,?_,?_⟩
 ·rw [Array.length_toList,size_zeroCells,lB]
 ·intro u qO
  obtain ⟨j,aI⟩:=List.getElem?_of_mem qO
  have h1:=lT j u aI
  have dz:j % i.size<z.length:=by rw [nf];exact Nat.mod_lt _ (by omega)
  obtain ⟨v,v1,v2,-⟩:=tf _ _ (List.getElem?_eq_getElem dz)
  rw [h1] at v1
  obtain rfl:=Option.some.inj v1
  exact v2
 ·intro j x u R nz
  rw [oW (sz:=i.size) (by omega) _ (fun eH lQ=>by rw [List.mem_replicate] at lQ;rw [lQ.2,nf])] at R
  have h1:=lT j u nz
  cases bc:(List.replicate m z)[j / i.size]? with
  | none=>rw [bc] at R;simp at R
  | some eH =>
   have:=List.mem_of_getElem? bc
   rw [List.mem_replicate] at this
   rw [bc,this.2] at R
   simp only [Option.bind_some] at R
   obtain ⟨v,v1,-,v3⟩:=tf _ _ R
   rw [h1] at v1
   obtain rfl:=Option.some.inj v1
   exact v3
theorem ZS (h:cJ g s ay a w){r k len:Nat}{y:aB}{qZ nk:Value}{t da eC:TypeId}{cM:fz}(aw:ny P s.E s.aW aU .copy [.bm r k 0 len,y] [t,da] cM=some bC)(cz:∀p∈bC.fv,p)
 (R:Rel w (s.ok g ay w) s.a4 (s.bg ay) (.bm r k 0 len) qZ) (a1:Rel w (s.ok g ay w) s.a4 (s.bg ay) y nk) :
 ∃n bL,(Builtin.copy_ #[t,da] eC #[qZ,nk]).run P w = .ok (goInt n) bL∧cJ g (s.hU bC.fL) ay a bL∧bC.val = .n .i64 n:=by
 simp only [ny] at aw
 split at aw
 ·simp at aw
 ·rename_i e he
  have hu:=rh he
  split at aw
  ·simp at aw
  ·rename_i i aq
   split at aw
   ·simp at aw
   ·rename_i bB ah qI
    split at aw
    ·simp at aw
    ·rename_i row dw
     split at aw
     ·simp at aw
     ·rename_i ak bo
      split at aw
      ·rename_i uT
       obtain ⟨nA,eP,j0⟩:=uT
       simp only [Option.some.injEq] at aw
       subst aw
       have ao:s.ak r k=some ak:=by unfold S.ak;rw [dw];exact bo
       have ib:bB.length≤len:=cz _ (by simp)
       have hle:len≤ak.es.length:=cz _ (by simp)
       obtain ⟨A,c,rfl,hlen,Lf⟩:=Pl h qI (fun p ai=>cz p (by simp [ai])) a1
       show ∃n bL,_∧cJ g (s.setRow r (row.set k {ak with es:=bB++ak.es.drop bB.length})) ay a bL∧_
       by_cases h0:bB.length=0
       ·have uU:bB=[]:=List.length_eq_zero_iff.1 h0
        subst uU
        refine ⟨0,w,?_,?_,rfl⟩
        ·rcases R.ur (iv ao) with ⟨-,-,rfl,rfl⟩|⟨b,M,n9,ks,-,rfl,-,-,-,-⟩
         ·cases A<;>simp [Builtin.copy_,run_underlying hu,sizeOf,typeInfo,aq,Builtin.lenOf,Builtin.firstCells,loadCells,loadCellsFrom]
         ·cases A<;>cases n9<;>simp [Builtin.copy_,run_underlying hu,sizeOf,typeInfo,aq,Builtin.lenOf,Builtin.firstCells,loadCells,loadCellsFrom,storeCells]
        ·rw [show ({ak with es:=[]++ak.es.drop ([]:List (List aB)).length}:ab)=ak from rfl,N9 dw bo];exact h
       ·obtain ⟨d7,off,rfl,ie⟩:=Lf.resolve_left h0
        obtain ⟨vs,v1,v2,v3,v4⟩:=ie.nw
        rw [← eP] at v1
        rcases R.ur (iv ao) with ⟨-,-,rfl,-⟩|⟨b,M,n9,ks,ai,rfl,qM,si,ec,mb⟩
        ·exact absurd (Nat.le_zero.1 ib) h0
        ·have Bu:n9=some ⟨b,0,none⟩:=by
          rcases mb with cD|cD
          ·exact absurd (show bB.length=0 by omega) h0
          ·simpa using cD
         subst Bu
         obtain ⟨cj,mm,bw,cd,jq,pC,oa,-⟩:=h.putAt (p:=0) dw ao nA ai (fun x R=>by rw [hlen x R,eP]) v1 v3 v4 (by omega) ak.es.length (gk:=bB++ak.es.drop bB.length)
          (by rw [List.take_zero,List.nil_append,Nat.zero_add];exact (List.take_of_length_le (by simp;omega)).symm)
         simp only [Nat.zero_mul,Nat.zero_add,List.take_zero,List.nil_append] at pC oa
         have aV:=run_firstCells_some (P:=P) w i.size bB.length ⟨d7,off,none⟩ bB.length c vs (by rw [v1,eP]) v2
         have ma:=run_storeCells_at P b 0 mm vs 0 cj w bw (by simpa using pC) v3
         simp only [Nat.add_zero,List.take_zero,List.nil_append,Nat.zero_add] at ma
         refine ⟨bB.length,_,?_,oa,rfl⟩
         simp [Builtin.copy_,run_underlying hu,sizeOf,typeInfo,aq,Builtin.lenOf,Nat.min_eq_left ib,aV,ma]
      ·simp at aw
theorem Y3 (h:cJ g s ay a w){r k len:Nat}{qZ:Value}{t eC:TypeId}{cM:fz}(aw:ny P s.E s.aW aU .clear [.bm r k 0 len] [t] cM=some bC)(cz:∀p∈bC.fv,p)
 (R:Rel w (s.ok g ay w) s.a4 (s.bg ay) (.bm r k 0 len) qZ) :
 ∃bL,(Builtin.clear_ #[t] eC #[qZ]).run P w = .ok (.tuple #[]) bL∧cJ g (s.hU bC.fL) ay a bL∧bC.val = .dZ []:=by
 simp only [ny] at aw
 split at aw
 ·simp at aw
 ·rename_i e he
  have hu:=rh he
  split at aw
  ·rename_i i z aq cw
   split at aw
   ·simp at aw
   ·rename_i row dw
    split at aw
    ·simp at aw
    ·rename_i ak bo
     split at aw
     ·rename_i uT
      obtain ⟨nA,eP,nf,j0⟩:=uT
      simp only [Option.some.injEq] at aw
      subst aw
      have ao:s.ak r k=some ak:=by unfold S.ak;rw [dw];exact bo
      have hle:ak.es.length=len:=cz _ (by simp)
      show ∃bL,_∧cJ g (s.setRow r (row.set k {ak with es:=List.replicate len z})) ay a bL∧_
      by_cases h0:len=0
      ·subst h0
       refine ⟨w,?_,?_,rfl⟩
       ·rcases R.ur (iv ao) with ⟨-,-,-,rfl⟩|⟨b,M,n9,ks,-,rfl,-,-,-,-⟩
        ·simp [Builtin.clear_,run_underlying hu]
        ·cases n9<;>simp [Builtin.clear_,run_underlying hu]
       ·rw [show ({ak with es:=List.replicate 0 z}:ab)=ak by rw [List.replicate_zero,← List.length_eq_zero_iff.1 hle],N9 dw bo];exact h
      ·obtain ⟨eA,ez,kz,kX,pB,tf⟩:=z1 cw
       rw [aq] at kz;simp at kz;subst kz
       have lB:ez.cells.size=i.size:=by rw [← nf,pB];simp
       rcases R.ur (iv ao) with ⟨-,-,rfl,-⟩|⟨b,M,n9,ks,ai,rfl,qM,si,ec,mb⟩
       ·exact absurd rfl h0
       ·have Bu:n9=some ⟨b,0,none⟩:=by
         rcases mb with cD|cD
         ·exact absurd (show len=0 by omega) h0
         ·simpa using cD
        subst Bu
        obtain ⟨v1,v3,v4⟩:=Yv (e:=e) lB nf j0 tf len
        rw [← eP] at v1
        obtain ⟨cj,mm,bw,cd,jq,pC,oa,-⟩:=h.putAt (p:=0) (bB:=List.replicate len z) dw ao nA ai (fun x R=>by rw [List.mem_replicate] at R;rw [R.2,nf,eP]) (by simpa using v1) v3 (fun j x u h1 o=>v4 j x u h1 o _ _ _ _)
         (by simp;omega) len (gk:=List.replicate len z)
         (by simp [hle])
        simp only [Nat.zero_mul,Nat.zero_add,List.take_zero,List.nil_append] at pC oa
        have ma:=run_storeCells_at P b 0 mm (Builtin.zeroCells ez.cells len).toList 0 cj w bw (by simpa using pC) v3
        simp only [Nat.add_zero,List.take_zero,List.nil_append,Nat.zero_add] at ma
        refine ⟨_,?_,oa,rfl⟩
        cases len with
        | zero=>exact absurd rfl h0
        | succ n=>simp [Builtin.clear_,run_underlying hu,zeroValue,typeInfo,aq,kX,ma]
     ·simp at aw
  ·simp at aw
end
section
variable {g:G} {s:S} {ay:fm} {a:Act} {w:World}
def lK (row:List ab):List ab:=row.map fun I=>if I.cm = .live then {I with cm:= .iT} else I
theorem Pm (row:List ab)(k:Nat):db (some (lK row)) k=(db (some row) k).map fun I=>if I.cm = .live then {I with cm:= .iT} else I:=by
 simp only [db,lK,List.getElem?_map]
 cases row[k]? with
 | none=>rfl
 | some I =>
  obtain ⟨sz,es,cm⟩:=I
  cases cm<;>simp
theorem cJ.freeze (h:cJ g s ay a w){r:Nat}{row:List ab}(ar:s.aW r=some row):cJ g (s.setRow r (lK row)) ay a w:=by
 have bo : ∀q k I,(s.setRow r (lK row)).ak q k=some I→ ∃p,s.ak q k=some p∧I.sz=p.sz∧I.es=p.es∧(I.cm = .live→p.cm = .live∧q≠r):=by
  intro q k I ao
  by_cases e:q=r
  ·subst e
   have:(s.setRow q (lK row)).aW q=some (lK row):=by simp [S.setRow]
   unfold S.ak at ao
   rw [this,Pm] at ao
   rw [Option.map_eq_some_iff] at ao
   obtain ⟨p,ai,rfl⟩:=ao
   refine ⟨p,by unfold S.ak;rw [ar];exact ai,?_⟩
   split<;>simp_all
  ·have:(s.setRow r (lK row)).aW q=s.aW q:=by simp [S.setRow,e]
   unfold S.ak at ao
   rw [this] at ao
   exact ⟨I,ao,rfl,rfl,fun aV=>⟨aV,e⟩⟩
 have jl : ∀q k,s.a4 q k→(s.setRow r (lK row)).a4 q k:=C4 s ar (by simp [lK])
 have lb : ∀q k,(s.setRow r (lK row)).bg ay q k=s.bg ay q k:=by
  intro q k
  by_cases e:q=r
  ·subst e
   simp only [S.bg,S.ak]
   have:(s.setRow q (lK row)).aW q=some (lK row):=by simp [S.setRow]
   rw [this,Pm,ar]
   cases db (some row) k with
   | none=>rfl
   | some I=>simp only [Option.map_some,Option.some.injEq,Prod.mk.injEq,and_true];split<;>rfl
  ·have:(s.setRow r (lK row)).aW q=s.aW q:=by simp [S.setRow,e]
   simp [S.bg,S.ak,this]
 have dx:Step g s ay w (s.setRow r (lK row)) ay w:=⟨jl,fun q k _=> .inl (lb q k),fun b aV=>by
  obtain ⟨q,k,I,m,h1,o,ae⟩:=aV
  obtain ⟨p,p1,hg,rB,B7⟩:=bo q k I h1
  exact .inl ⟨q,k,p,m,p1,(B7 o).1,ae⟩,fun _ _ _=>rfl,Nat.le_refl _⟩
 refine {toh3:=⟨?_,?_,?_,h.gQ,h.mlt,h.na,?_,h.low⟩,env:=fun t=>dx.rel (h.env t),defers:=h.defers,jI:=h.jI}
 ·intro q k I ao
  obtain ⟨p,p1,hg,rB,-⟩:=bo q k I ao
  have ai:=dx.obj (fun b m _=>rfl) (h.obj q k p p1)
  cases lD:ay q k with
  | none=>rw [lD] at ai;simp only [jg] at ai ⊢;rw [rB];exact ai
  | some x =>
   obtain ⟨b,m⟩:=x
   rw [lD] at ai
   obtain ⟨c,eC,e1,aC,bR,c9⟩:=ai
   exact ⟨c,eC,e1,aC,by rw [hg,rB];exact bR,by rw [rB];exact c9⟩
 ·intro q k I hC ea b6 b m cy h1 o ae av
  obtain ⟨p,p1,-⟩:=bo q k I h1
  obtain ⟨ki,acU,-⟩:=bo hC ea b6 o
  exact h.inj q k p hC ea ki b m cy p1 acU ae av
 ·intro q k I b m h1 o
  obtain ⟨p,p1,-⟩:=bo q k I h1
  exact h.own q k p b m p1 o
 ·intro j k aI
  obtain ⟨e1,aC⟩:=h.stay j k aI
  exact ⟨jl j k e1,by rw [lb];exact aC⟩
end
def xK (P:Program)(t:TypeId):Bool :=
 match P.underlying t with
 | some (.pointer _)=>true
 | _=>false
def yh (P:Program)(E:Nat→aB)(aW:Nat→Option (List ab))(aU:Nat)(I:Oper)(cM:fz):Option h4 :=
 match I.op with
 | .call {callee:= .builtin b,args,argTypes}=>match b with
  | .len=>eQ P E aW aU I cM
  | b=>ny P E aW aU b (args.toList.map (fc E)) argTypes.toList cM
 | .binOp op t x y _=>match cM,op,fc E x,fc E y with
  | .fQ,.eql,.isl _ es,.eT=>if (pj P t).isSome then some {val:= .b false,fv:=[es≠[]]} else none
  | .fQ,.neq,.isl _ es,.eT=>if (pj P t).isSome then some {val:= .b true,fv:=[es≠[]]} else none
  | .fQ,.eql,.j1 _ none,.h2=>if xK P t then some {val:= .b true} else none
  | .fQ,.neq,.j1 _ none,.h2=>if xK P t then some {val:= .b false} else none
  | .fQ,.eql,.j1 _ (some _),.h2=>if xK P t then some {val:= .b false} else none
  | .fQ,.neq,.j1 _ (some _),.h2=>if xK P t then some {val:= .b true} else none
  | .fQ,_,_,_=>none
  | _,_,_,_=>eQ P E aW aU I cM
 | .nilCheck x=>match cM,fc E x with
  | .fQ,.j1 sz (some c)=>some {val:= .dY sz [c] 0 0}
  | .fQ,_=>none
  | _,_=>eQ P E aW aU I cM
 | _=>eQ P E aW aU I cM
section
variable {P:Program} {g:G} {s:S} {ay:fm} {a:Act} {w:World} {I:Oper} {cM:fz} {aU:Nat} {bC:h4}
theorem DE {args:Array Operand}{E:Nat→aB}{x y:aB}(h:args.toList.map (fc E)=[x,y]): ∃p q,args = #[p,q]∧fc E p=x∧fc E q=y:=by
 obtain ⟨l⟩:=args
 match l,h with
 | [p,q],h=>simp at h;exact ⟨p,q,rfl,h.1,h.2⟩
theorem aaF {args:Array Operand}{E:Nat→aB}{x:aB}(h:args.toList.map (fc E)=[x]): ∃p,args = #[p]∧fc E p=x:=by
 obtain ⟨l⟩:=args
 match l,h with
 | [p],h=>simp at h;exact ⟨p,rfl,h⟩
theorem Dk {t:TypeId}(h:xK P t=true): ∃e,P.underlying t=some (.pointer e):=by
 unfold xK at h
 split at h
 ·rename_i e he;exact ⟨e,he⟩
 ·simp at h
theorem Y4 (h:cJ g s ay a w)(eU:s.aW aU=none)(aw:yh P s.E s.aW aU I cM=some bC)(cz:∀p∈bC.fv,p):Fin P g s a w I bC:=by
 unfold yh at aw
 split at aw
 ·rename_i b args mP ao
  split at aw
  ·exact Dj h eU aw cz
  ·rename_i b aS
   unfold ny at aw
   split at aw
   ·rename_i x y t da m L6 hargs nZ
    have uG:ny P s.E s.aW aU .append [x,y] [t,da] (.aJ m L6)=some bC:=aw
    obtain ⟨p,q,rfl,rfl,rfl⟩:=DE hargs
    obtain ⟨l⟩:=mP
    simp only at nZ
    subst nZ
    obtain ⟨v,bL,bK,h1,o,ae⟩:=Yu (eC:=I.type) h eU uG cz (h.eval p) (h.eval q)
    exact ⟨v,bL,bK,.inl (by simp [execOp,ao,resolve,invoke,builtin,h1]),o,ae⟩
   ·rename_i x y t da hargs nZ
    have uG:ny P s.E s.aW aU .append [x,y] [t,da] .fQ=some bC:=aw
    obtain ⟨p,q,rfl,rfl,rfl⟩:=DE hargs
    obtain ⟨l⟩:=mP
    simp only at nZ
    subst nZ
    obtain ⟨v,bL,h1,o,ae⟩:=aaE (eC:=I.type) h uG cz (h.eval p) (h.eval q)
    exact ⟨v,bL,ay,.inl (by simp [execOp,ao,resolve,invoke,builtin,h1]),o,ae⟩
   ·rename_i cM r k len y t da hargs nZ
    have uG:ny P s.E s.aW aU .copy [.bm r k 0 len,y] [t,da] cM=some bC:=aw
    obtain ⟨p,q,rfl,ai,rfl⟩:=DE hargs
    obtain ⟨l⟩:=mP
    simp only at nZ
    subst nZ
    have R:=h.eval p
    rw [ai] at R
    obtain ⟨n,bL,h1,o,ae⟩:=ZS (eC:=I.type) h uG cz R (h.eval q)
    refine ⟨goInt n,bL,ay,.inl (by simp [execOp,ao,resolve,invoke,builtin,h1]),o,?_⟩
    rw [ae];exact .n _ _
   ·rename_i cM r k len t hargs nZ
    have uG:ny P s.E s.aW aU .clear [.bm r k 0 len] [t] cM=some bC:=aw
    obtain ⟨p,rfl,ai⟩:=aaF hargs
    obtain ⟨l⟩:=mP
    simp only at nZ
    subst nZ
    have R:=h.eval p
    rw [ai] at R
    obtain ⟨bL,h1,o,ae⟩:=Y3 (eC:=I.type) h uG cz R
    refine ⟨.tuple #[],bL,ay,.inl (by simp [execOp,ao,resolve,invoke,builtin,h1]),o,?_⟩
    rw [ae];exact .dZ [] rfl (fun j x u aI=>by simp at aI)
   ·rename_i k x ea y hargs
    split at aw
    ·rename_i ba
     simp only [Option.some.injEq] at aw
     subst aw;subst ba
     obtain ⟨p,q,rfl,ai,bc⟩:=DE hargs
     have R:=h.eval p
     have a1:=h.eval q
     rw [ai] at R;rw [bc] at a1
     refine iu (v:= .int k (if y<x then y else x)) h ?_ rfl (.n _ _)
     simp [execOp,ao,resolve,invoke,builtin,Builtin.min_,R.o1,a1.o1,Builtin.min2]
    ·simp at aw
   ·simp at aw
 ·rename_i op t x y da ao
  split at aw
  ·rename_i sz es R a1
   split at aw
   ·rename_i he
    obtain ⟨e,he⟩:=Option.isSome_iff_exists.1 he
    simp only [Option.some.injEq] at aw
    subst aw
    have h1:=h.eval x
    have o:=h.eval y
    rw [R] at h1;rw [a1] at o
    have dr:es≠[]:=cz _ (by simp)
    refine iu (v:= .bool false) h ?_ rfl (.b _)
    simp only [execOp,ao]
    rw [Sem.run_bind,(Qk (w:=w) (rh he) dr h1 o x y).1];rfl
   ·simp at aw
  ·rename_i sz es R a1
   split at aw
   ·rename_i he
    obtain ⟨e,he⟩:=Option.isSome_iff_exists.1 he
    simp only [Option.some.injEq] at aw
    subst aw
    have h1:=h.eval x
    have o:=h.eval y
    rw [R] at h1;rw [a1] at o
    have dr:es≠[]:=cz _ (by simp)
    refine iu (v:= .bool true) h ?_ rfl (.b _)
    simp only [execOp,ao]
    rw [Sem.run_bind,(Qk (w:=w) (rh he) dr h1 o x y).2];rfl
   ·simp at aw
  ·rename_i sz R a1
   split at aw
   ·rename_i cb
    obtain ⟨e,he⟩:=Dk cb
    simp only [Option.some.injEq] at aw
    subst aw
    have h1:=h.eval x
    have o:=h.eval y
    rw [R] at h1;rw [a1] at o
    have p7:Rel w (s.ok g ay w) s.a4 (s.bg ay) .h2 (a.eval x):=by rw [h1.Pk];exact .h2
    refine iu (v:= .bool true) h ?_ rfl (.b _)
    simp only [execOp,ao]
    rw [Sem.run_bind,(xv (w:=w) (r:=true) (by simp [ru,he]) p7 o x y).1];rfl
   ·simp at aw
  ·rename_i sz R a1
   split at aw
   ·rename_i cb
    obtain ⟨e,he⟩:=Dk cb
    simp only [Option.some.injEq] at aw
    subst aw
    have h1:=h.eval x
    have o:=h.eval y
    rw [R] at h1;rw [a1] at o
    have p7:Rel w (s.ok g ay w) s.a4 (s.bg ay) .h2 (a.eval x):=by rw [h1.Pk];exact .h2
    refine iu (v:= .bool false) h ?_ rfl (.b _)
    simp only [execOp,ao]
    rw [Sem.run_bind,(xv (w:=w) (r:=true) (by simp [ru,he]) p7 o x y).2];rfl
   ·simp at aw
  ·rename_i sz c R a1
   split at aw
   ·rename_i cb
    obtain ⟨e,he⟩:=Dk cb
    simp only [Option.some.injEq] at aw
    subst aw
    have h1:=h.eval x
    have o:=h.eval y
    rw [R] at h1;rw [a1] at o
    refine iu (v:= .bool false) h ?_ rfl (.b _)
    simp only [execOp,ao]
    rw [Sem.run_bind,(xv (w:=w) (r:=false) (by simp [ru,he]) h1.JR o x y).1];rfl
   ·simp at aw
  ·rename_i sz c R a1
   split at aw
   ·rename_i cb
    obtain ⟨e,he⟩:=Dk cb
    simp only [Option.some.injEq] at aw
    subst aw
    have h1:=h.eval x
    have o:=h.eval y
    rw [R] at h1;rw [a1] at o
    refine iu (v:= .bool true) h ?_ rfl (.b _)
    simp only [execOp,ao]
    rw [Sem.run_bind,(xv (w:=w) (r:=false) (by simp [ru,he]) h1.JR o x y).2];rfl
   ·simp at aw
  ·simp at aw
  ·exact Dj h eU aw cz
 ·rename_i x ao
  split at aw
  ·rename_i sz c R
   simp only [Option.some.injEq] at aw
   subst aw
   have h1:=h.eval x
   rw [R] at h1
   have o:=h1.JR
   obtain ⟨d7,off,aS,hval,ie⟩:=o.xC
   refine iu (v:=a.eval x) h ?_ rfl o
   rw [hval]
   simp only [execOp,ao,hval]
   rfl
  ·simp at aw
  ·exact Dj h eU aw cz
 ·exact Dj h eU aw cz
end
end Go.VL
namespace Go.VL
set_option linter.unusedVariables false
set_option linter.unusedSimpArgs false
open Go
theorem rL {es:List (List aB)}{j:Nat}{x:aB}(h:es.flatten[j]? = some x): ∃e∈es,x∈e:=by
 have:=List.mem_of_getElem? h
 rw [List.mem_flatten] at this
 obtain ⟨e,he,R⟩:=this
 exact ⟨e,he,R⟩
theorem Rel.pure {w:World}{ok kM:Nat→Prop}{a4 mN:i7}{bg l9:iW}{x:aB}{v:Value}(h:Rel w ok a4 bg x v)(ai:Pure x)(mO:∀b,ok b→kM b):Rel w kM mN l9 x v:=by
 induction h with
 | dead v=>exact .dead v
 | b x=>exact .b x
 | n k x=>exact .n k x
 | s x=>exact .s x
 | h2=>exact .h2
 | eT=>exact .eT
 | iL a c=>exact .iL a c
 | pg=>cases ai
 | ref=>cases ai
 | m5=>cases ai
 | nn=>cases ai
 | bm=>cases ai
 | mI=>cases ai
 | nu=>cases ai
 | kb sz a c h=>exact .kb sz a c h
 | isl cs aS nB aV bf hw iy ar ih =>
  cases ai with
  | isl h=>exact .isl cs (mO _ aS) nB aV bf hw iy fun j x R=>ih j x R (by obtain ⟨e,he,p8⟩:=rL R;exact h e he x p8)
 | dY cs aS nB aV hw iy ar ih =>
  cases ai with
  | dY h=>exact .dY cs (mO _ aS) nB aV hw iy fun j x R=>ih j x R (by obtain ⟨e,he,p8⟩:=rL R;exact h e he x p8)
 | o3 sz=>exact .o3 sz
 | oE h ih =>
  cases ai with
  | oE ai=>exact .oE (ih (.dY fun e he x R=>by rw [List.mem_singleton] at he;subst he;exact ai x R))
 | agg vs aV iy ar ih =>
  cases ai with
  | agg h=>exact .agg vs aV iy fun j x v R bj=>ih j x v R bj (h x (List.mem_of_getElem? R))
 | dZ vs aV ar ih =>
  cases ai with
  | dZ h=>exact .dZ vs aV fun j x v R bj=>ih j x v R bj (h x (List.mem_of_getElem? R))
 | fn vs aV ar ih =>
  cases ai with
  | fn h=>exact .fn vs aV fun j x v R bj=>ih j x v R bj (h x (List.mem_of_getElem? R))
abbrev gC:=Nat→Nat→Option (Nat×Nat)
structure Down (q:aB→Prop):Prop where
 agg : ∀c x,q (.agg c)→x∈c→q x
 dZ : ∀c x,q (.dZ c)→x∈c→q x
 fn : ∀f c x,q (.fn f c)→x∈c→q x
inductive hD (s:S) (a0:gC) (bY:f9→Bool) (q:aB→Prop):aB→aB→Prop
 | dead (x:aB):hD s a0 bY q x .dead
 | pure {x:aB} (h:Pure x) (bc:q x):hD s a0 bY q x x
 | eT (sz:Nat):hD s a0 bY q .eT (.isl sz [])
 | iL (sz:Nat):hD s a0 bY q .iL (.isl sz [])
 | DW (sz:Nat):hD s a0 bY q .h2 (.j1 sz none)
 | j1 {sz:Nat} {x:aB} {c:List aB} (h:hD s a0 bY q x (.dY sz [c] 0 0)):hD s a0 bY q x (.j1 sz (some c))
 | ref {r k j eA:Nat} (i off:Nat) (h:a0 j eA=some (r,k)) (hu:s.a4 r k):hD s a0 bY q (.ref r k i off) (.ref j eA i off)
 | bm {r k j eA:Nat} (bT len:Nat) (h:a0 j eA=some (r,k)) (hu:s.a4 r k):hD s a0 bY q (.bm r k bT len) (.bm j eA bT len)
 | mI (r c sz:Nat):hD s a0 bY q (.iM r c sz none) (.isl sz [])
 | nu {r c sz k n:Nat} {cH:aB} (h:hD s a0 bY q (.bm r (k+c) 0 n) cH):hD s a0 bY q (.iM r c sz (some (k,n))) cH
 | iM {r eD c dF sz:Nat} (h:Option (Nat×Nat)) (hm : ∀k,a0 eD (k+dF)=some (r,k+c)):hD s a0 bY q (.iM r c sz h) (.iM eD dF sz h)
 | dY {r k:Nat} {I:ab} {gk:List (List aB)} (i off:Nat) (ao:s.ak r k=some I) (bE:bY I.cm=true) (ar:(∀j i,a0 j i≠some (r,k))) (dr:I.es≠[]) (ai:jF gk) (hle : ∀e∈gk,e.length=I.sz) (aV:gk.length=I.es.length)
  (h : ∀(j:Nat) x cH,I.es.flatten[j]? = some x→gk.flatten[j]? = some cH→hD s a0 bY q x cH):hD s a0 bY q (.ref r k i off) (.dY I.sz gk i off)
 | isl {r k bT len:Nat} {I:ab} {gk:List (List aB)} (ao:s.ak r k=some I) (bE:bY I.cm=true) (ar:(∀j i,a0 j i≠some (r,k))) (ib:bT+len≤I.es.length) (ai:jF gk) (hle : ∀e∈gk,e.length=I.sz) (aV:gk.length=len)
  (h : ∀(j:Nat) x cH,((I.es.drop bT).take len).flatten[j]? = some x→gk.flatten[j]? = some cH→hD s a0 bY q x cH):hD s a0 bY q (.bm r k bT len) (.isl I.sz gk)
 | agg {c dF:List aB} (aV:dF.length=c.length) (h : ∀(j:Nat) x cH,c[j]? = some x→dF[j]? = some cH→hD s a0 bY q x cH):hD s a0 bY q (.agg c) (.agg dF)
 | dZ {c dF:List aB} (aV:dF.length=c.length) (h : ∀(j:Nat) x cH,c[j]? = some x→dF[j]? = some cH→hD s a0 bY q x cH):hD s a0 bY q (.dZ c) (.dZ dF)
 | fn {f:Nat} {c dF:List aB} (aV:dF.length=c.length) (h : ∀(j:Nat) x cH,c[j]? = some x→dF[j]? = some cH→hD s a0 bY q x cH):hD s a0 bY q (.fn f c) (.fn f dF)
theorem q8 {sz:Nat}: ∀(es:List (List aB)),(∀e∈es,e.length=sz)→es.flatten.length=es.length*sz
 | [],_=>by simp
 | e::es,h=>by
  rw [List.flatten_cons,List.length_append,q8 es fun x R=>h x (by simp [R]),h e (by simp),List.length_cons,Nat.add_mul];omega
theorem fB {α:Type}{l:List α}{j:Nat}{x:α}(h:l[j]? = some x):j<l.length:=by
 rcases Nat.lt_or_ge j l.length with cD|cD
 ·exact cD
 ·rw [List.getElem?_eq_none cD] at h;simp at h
theorem hD.rel {g:G}{s:S}{ay:fm}{w:World}{a0:gC}{bY:f9→Bool}{q:aB→Prop}(ec:h3 g s ay w){kM:Nat→Prop}{mN:i7}{l9:iW}
 (H1 : ∀x v,q x→Pure x→Rel w (s.ok g ay w) s.a4 (s.bg ay) x v→Rel w kM mN l9 x v)
 (EQ : ∀r k I b m,s.ak r k=some I→bY I.cm=true→(∀j i,a0 j i≠some (r,k))→ay r k=some (b,m)→kM b)
 (B8 : ∀j i r k,a0 j i=some (r,k)→s.a4 r k→mN j i∧(l9 j i=s.bg ay r k∨l9 j i=none)) {x cH:aB} (bV:hD s a0 bY q x cH) :
 ∀ {v:Value},Rel w (s.ok g ay w) s.a4 (s.bg ay) x v→Rel w kM mN l9 cH v:=by
 induction bV with
 | dead x=>intro v _;exact .dead v
 | pure ai bc=>intro v ar;exact H1 _ v bc ai ar
 | eT sz=>intro v ar;rw [ar.pe];exact .kb sz none 0 (fun _=>rfl)
 | iL sz=>intro v ar;obtain ⟨a,c,rfl⟩:=ar.DC;exact .kb sz (some a) c (fun h=>by simp at h)
 | DW sz=>intro v ar;rw [ar.uq];exact .o3 sz
 | j1 h ih=>intro v ar;exact .oE (ih ar)
 | @ref r k j eA i off aI hu =>
  intro v ar
  obtain ⟨h1,o⟩:=B8 j eA r k aI hu
  cases ar with
  | pg a n2 a5 =>
   refine .pg a h1 fun sz p=> ?_
   rcases o with e|e<;>rw [e]
   ·exact a5 sz p
   ·simp
  | ref n2 cb =>
   rcases o with e|e
   ·exact .ref h1 (e.trans cb)
   ·exact .pg _ h1 fun sz p=>by rw [e];simp
 | @bm r k j eA bT len aI hu =>
  intro v ar
  obtain ⟨h1,o⟩:=B8 j eA r k aI hu
  cases ar with
  | m5 a l c n2 a5 =>
   refine .m5 a l c h1 ?_
   rcases o with e|e<;>rw [e]
   exact a5
  | nn n2 cb =>
   rcases o with e|e
   ·exact .nn h1 (e.trans cb)
   ·exact .m5 _ _ _ h1 e
  | bm n2 cb aV bf hm =>
   rcases o with e|e
   ·exact .bm h1 (e.trans cb) aV bf hm
   ·exact .m5 _ _ _ h1 e
 | mI r c sz =>
  intro v ar
  cases ar with
  | mI h0 =>
   rcases h0.rU with ⟨-,a,c,rfl,bE⟩|⟨d7,off,c,-,rfl,-⟩
   ·exact .kb sz a c bE
   ·exact .kb sz _ c (fun h=>by simp at h)
 | nu h ih =>
  intro v ar
  cases ar with
  | nu h0=>exact ih h0
 | @iM r eD c dF sz h hm =>
  intro v ar
  cases ar with
  | mI h0 =>
   rcases h0.rU with ⟨-,a,c,rfl,bE⟩|⟨d7,off,c,-,rfl,-⟩
   ·exact .mI (.kb sz a c bE)
   ·exact .mI (.kb sz _ c (fun h=>by simp at h))
  | @nu _ _ _ k n _ h0 =>
   refine .nu ?_
   cases h0 with
   | m5 a l bw n2 a5 =>
    obtain ⟨h1,o⟩:=B8 _ _ _ _ (hm k) n2
    refine .m5 a l bw h1 ?_
    rcases o with e|e<;>rw [e]
    exact a5
   | nn n2 cb =>
    obtain ⟨h1,o⟩:=B8 _ _ _ _ (hm k) n2
    rcases o with e|e
    ·exact .nn h1 (e.trans cb)
    ·exact .m5 _ _ _ h1 e
   | bm n2 cb aV bf mb =>
    obtain ⟨h1,o⟩:=B8 _ _ _ _ (hm k) n2
    rcases o with e|e
    ·exact .bm h1 (e.trans cb) aV bf mb
    ·exact .m5 _ _ _ h1 e
 | @dY r k I gk i off ao bE ar dr Li hle aV h ih =>
  intro v bj
  have fs:=ec.obj r k I ao
  rcases bj.xB (iv ao) with h0|⟨b,m,ai,hval⟩
  ·rw [h0] at fs;exact absurd fs dr
  ·rw [ai] at fs
   have ie:=fs.rd
   rw [hval]
   have jJ:gk.flatten.length=I.es.flatten.length:=by rw [q8 gk hle,q8 I.es ie.1,aV]
   have uN:n8 w kM mN l9 b 0 I.sz gk:=by
    refine ⟨hle,fun j cH dE=> ?_⟩
    have dz:j<I.es.flatten.length:=by rw [← jJ];exact fB dE
    have R:I.es.flatten[j]? = some I.es.flatten[j]:=List.getElem?_eq_getElem dz
    obtain ⟨u,e1,aC,bR⟩:=ie.2 j _ R
    exact ⟨u,e1,aC,ih j _ cH R dE bR⟩
   have:=uN.dY (i:=i) (off:=off) ⟨EQ r k I b m ao bE ar ai,Li⟩
   rw [Nat.zero_add] at this
   exact this
 | @isl r k bT len I gk ao bE ar ib Li hle aV h ih =>
  intro v bj
  have fs:=ec.obj r k I ao
  rcases bj.Al (iv ao) with ⟨ai,rfl,rfl,hval⟩|⟨b,m,A,c,ai,hval,qM,si,hm⟩
  ·have:gk=[]:=List.length_eq_zero_iff.1 aV
   subst this
   rw [hval];exact .kb _ none 0 (fun _=>rfl)
  ·rw [ai] at fs
   rw [hval]
   rcases Nat.eq_zero_or_pos len with h0|j0
   ·subst h0
    have:gk=[]:=List.length_eq_zero_iff.1 aV
    subst this
    exact .kb _ A c (fun a5=>by rcases hm with h1|⟨h1,-⟩<;>simp_all)
   ·rcases hm with hm|⟨hA,hm⟩
    ·omega
    ·subst hA
     have ie:=C5 fs.rd bT len (by omega)
     rw [Nat.zero_add] at ie
     have jJ:gk.flatten.length=((I.es.drop bT).take len).flatten.length:=by
      rw [q8 gk hle,q8 _ ie.1,aV,List.length_take,List.length_drop,Nat.min_eq_left (by omega)]
     have uN:n8 w kM mN l9 b (bT*I.sz) I.sz gk:=by
      refine ⟨hle,fun j cH dE=> ?_⟩
      have dz:j<((I.es.drop bT).take len).flatten.length:=by rw [← jJ];exact fB dE
      have R:=List.getElem?_eq_getElem dz
      obtain ⟨u,e1,aC,bR⟩:=ie.2 j _ R
      exact ⟨u,e1,aC,ih j _ cH R dE bR⟩
     have:=uN.isl (c:=c) ⟨EQ r k I b m ao bE ar ai,Li⟩ (by omega)
     rw [aV] at this
     exact this
 | @agg c dF aV h ih =>
  intro v bj
  obtain ⟨vs,rfl,h1,o,ae⟩:=bj.Ak
  refine .agg vs (by omega) o fun j cH u dE hu=> ?_
  have dz:j<c.length:=by have:=fB dE;omega
  exact ih j _ cH (List.getElem?_eq_getElem dz) dE (ae j _ u (List.getElem?_eq_getElem dz) hu)
 | @dZ c dF aV h ih =>
  intro v bj
  obtain ⟨vs,rfl,h1,ae⟩:=bj.xA
  refine .dZ vs (by omega) fun j cH u dE hu=> ?_
  have dz:j<c.length:=by have:=fB dE;omega
  exact ih j _ cH (List.getElem?_eq_getElem dz) dE (ae j _ u (List.getElem?_eq_getElem dz) hu)
 | @fn f c dF aV h ih =>
  intro v bj
  obtain ⟨vs,rfl,h1,ae⟩:=bj.DN
  refine .fn vs (by omega) fun j cH u dE hu=> ?_
  have dz:j<c.length:=by have:=fB dE;omega
  exact ih j _ cH (List.getElem?_eq_getElem dz) dE (ae j _ u (List.getElem?_eq_getElem dz) hu)
structure n3 (s:S) (a0:gC) (bY:f9→Bool) (q:aB→Prop) (I b6:ab):Prop where
 sz:b6.sz=I.sz
 cm:b6.cm=I.cm∨(b6.cm = .iT∧I.cm = .live)∨b6.cm = .gone
 len:b6.es.length=I.es.length
 each : ∀e∈b6.es,e.length=I.sz
 at_ : ∀(j:Nat) x cH,I.es.flatten[j]? = some x→b6.es.flatten[j]? = some cH→hD s a0 bY q x cH
structure pu (s:S) (a0:gC) (bY:f9→Bool) (q:aB→Prop) (hF:Nat→Option (List ab)):Prop where
 inj : ∀j i hN eA p,a0 j i=some p→a0 hN eA=some p→j=hN∧i=eA
 at_ : ∀j i b6,db (hF j) i=some b6→ ∃r k I,a0 j i=some (r,k)∧s.ak r k=some I∧n3 s a0 bY q I b6
 a4 : ∀j i r k,a0 j i=some (r,k)→s.a4 r k→i<((hF j).getD []).length
def jK (ay:fm)(a0:gC):fm:=fun j i=>match a0 j i with
 | some (r,k)=>ay r k
 | none=>none
theorem xL {ay:fm}{a0:gC}{j i r k:Nat}(h:a0 j i=some (r,k)):jK ay a0 j i=ay r k:=by simp [jK,h]
def lU (_:aB):Prop:=True
theorem abJ:Down lU:=⟨fun _ _ _ _=>trivial,fun _ _ _ _=>trivial,fun _ _ _ _ _=>trivial⟩
section
variable {g:G} {s:S} {ay:fm} {w:World} {a0:gC} {bY:f9→Bool} {q:aB→Prop} {bO:S}
theorem pu.ak (h:pu s a0 bY q bO.aW){j i:Nat}{b6:ab}(ao:bO.ak j i=some b6): ∃r k I,a0 j i=some (r,k)∧s.ak r k=some I∧n3 s a0 bY q I b6:=h.at_ j i b6 ao
theorem PU {I b6:ab}(h:n3 s a0 bY q I b6)(aV:b6.cm = .live):I.cm = .live:=by
 rcases h.cm with e|⟨e,-⟩|e
 ·exact e.symm.trans aV
 ·rw [e] at aV;simp at aV
 ·rw [e] at aV;simp at aV
theorem pu.live (h:pu s a0 bY q bO.aW)(b:Nat)(aV:bO.lJ (jK ay a0) b): ∃r k I m,s.ak r k=some I∧I.cm = .live∧ay r k=some (b,m)∧ ∃j i,a0 j i=some (r,k):=by
 obtain ⟨j,i,b6,m,h1,o,ae⟩:=aV
 obtain ⟨r,k,I,e1,aC,bR⟩:=h.ak h1
 rw [xL e1] at ae
 exact ⟨r,k,I,m,aC,PU bR o,ae,j,i,e1⟩
theorem pu.Ek (h:pu s a0 bY q bO.aW){j i r k:Nat}(aI:a0 j i=some (r,k)):bO.bg (jK ay a0) j i=s.bg ay r k∨bO.bg (jK ay a0) j i=none:=by
 cases ao:bO.ak j i with
 | none=>right;simp [S.bg,ao]
 | some b6 =>
  obtain ⟨eD,ea,I,e1,aC,bR⟩:=h.ak ao
  rw [aI] at e1;simp only [Option.some.injEq,Prod.mk.injEq] at e1
  obtain ⟨rfl,rfl⟩:=e1
  left
  rw [iv ao,iv aC,bR.sz,xL aI]
theorem h3.L7 (ec:h3 g s ay w)(h:pu s a0 bY q bO.aW){fX:G}(ba:AY fX w)(AH:∀j k,fX.oK j k→bO.a4 j k∧(bO.bg (jK ay a0) j k=fX.qK j k∨bO.bg (jK ay a0) j k=none))(A8:∀j k,fX.oK j k→j<fX.m)
 (ace : ∀b,fX.o8 b→b<fX.mv.heap.size) (halt : ∀b,fX.A b→b<fX.mv.heap.size)
 (KS : ∀r k I b m,(∃j i,a0 j i=some (r,k))→s.ak r k=some I→ay r k=some (b,m)→fX.mv.heap.size≤b∨fX.o8 b)
 (H1 : ∀b,s.ok g ay w b→bO.ok fX (jK ay a0) w b)
 (EQ : ∀r k I b m,s.ak r k=some I→bY I.cm=true→(∀j i,a0 j i≠some (r,k))→ay r k=some (b,m)→bO.ok fX (jK ay a0) w b) :
 h3 fX bO (jK ay a0) w∧ ∀ {x cH:aB} {v:Value},hD s a0 bY q x cH→Rel w (s.ok g ay w) s.a4 (s.bg ay) x v→Rel w (bO.ok fX (jK ay a0) w) bO.a4 (bO.bg (jK ay a0)) cH v:=by
 have fs : ∀ {x cH:aB} {v:Value},hD s a0 bY q x cH→Rel w (s.ok g ay w) s.a4 (s.bg ay) x v→Rel w (bO.ok fX (jK ay a0) w) bO.a4 (bO.bg (jK ay a0)) cH v :=
  fun bV ar=>bV.rel ec (fun x v _ ai ar=>ar.pure ai H1) EQ (fun j i r k aI hu=>⟨h.a4 j i r k aI hu,h.Ek aI⟩) ar
 refine ⟨⟨?_,?_,?_,ba,ace,halt,AH,A8⟩,fs⟩
 ·intro j k b6 dR
  obtain ⟨r,ea,I,e1,aC,bR⟩:=h.ak dR
  have bo:=ec.obj r ea I aC
  rw [xL e1]
  cases ai:ay r ea with
  | none =>
   rw [ai] at bo
   simp only [jg] at bo ⊢
   apply List.length_eq_zero_iff.1
   rw [bR.len,bo];rfl
  | some q =>
   obtain ⟨b,m⟩:=q
   rw [ai] at bo
   obtain ⟨c,eC,h1,o,ae,av⟩:=bo
   have jJ:b6.es.flatten.length=I.es.flatten.length:=by rw [q8 _ bR.each,q8 _ ae,bR.len]
   refine ⟨c,eC,h1,o,by rw [bR.sz];exact bR.each,fun i cH dE=> ?_⟩
   have dz:i<I.es.flatten.length:=by rw [← jJ];exact fB dE
   have R:=List.getElem?_eq_getElem dz
   obtain ⟨u,f1,f2,f3⟩:=av i _ R
   exact ⟨u,f1,f2,fs (bR.at_ i _ cH R dE) f3⟩
 ·intro j k I hN ea b6 b m cy h1 o ae av
  obtain ⟨r,mW,p,e1,aC,-⟩:=h.ak h1
  obtain ⟨eD,acV,ki,mS,o5,-⟩:=h.ak o
  rw [xL e1] at ae
  rw [xL mS] at av
  obtain ⟨rfl,rfl⟩:=ec.inj r mW p eD acV ki b m cy aC o5 ae av
  exact h.inj _ _ _ _ _ e1 mS
 ·intro j k I b m h1 o
  obtain ⟨r,mW,p,e1,aC,-⟩:=h.ak h1
  rw [xL e1] at o
  exact KS r mW p b m ⟨j,k,e1⟩ aC o
theorem cJ.PV {a:Act}(h:cJ g s ay a w)(cX:pu s a0 (fun _=>true) q bO.aW)(ek:∀t,hD s a0 (fun _=>true) q (s.E t) (bO.E t))(A9:∀j k,g.oK j k→a0 j k=some (j,k)):cJ g bO (jK ay a0) a w:=by
 have jz : ∀b,bO.lJ (jK ay a0) b→s.lJ ay b:=fun b aV=>by
  obtain ⟨r,k,I,m,h1,o,ae,-⟩:=cX.live b aV
  exact ⟨r,k,I,m,h1,o,ae⟩
 have AH : ∀j k,g.oK j k→bO.a4 j k∧(bO.bg (jK ay a0) j k=g.qK j k∨bO.bg (jK ay a0) j k=none):=by
  intro j k aI
  obtain ⟨e1,aC⟩:=h.stay j k aI
  refine ⟨cX.a4 j k j k (A9 j k aI) e1,?_⟩
  rcases cX.Ek (ay:=ay) (A9 j k aI) with e|e
  ·rw [e];exact aC
  ·exact .inr e
 obtain ⟨h1,o⟩:=h.toh3.L7 cX h.gQ AH h.low h.mlt h.na (fun r k I b m _ ao ai=>h.own r k I b m ao ai)
  (fun b aS=>⟨aS.1,aS.2.1,fun aV=>aS.2.2 (jz b aV)⟩)
  (fun r k I b m ao _ ar ai=>by
    have bo:=h.obj r k I ao
    rw [ai] at bo
    obtain ⟨c,eC,e1,-⟩:=bo
    refine ⟨(Array.getElem?_eq_some_iff.1 e1).1,?_,fun aV=> ?_⟩
    ·rcases h.own r k I b m ao ai with e|e
     ·exact .inr (.inl e)
     ·exact .inr (.inr e)
    ·obtain ⟨eD,ea,b6,cy,f1,f2,f3,⟨L8,B9,f4⟩⟩:=cX.live b aV
     obtain ⟨rfl,rfl⟩:=h.inj r k I eD ea b6 b m cy ao f1 ai f3
     exact ar L8 B9 f4)
 exact {toh3:=h1,env:=fun t=>o (ek t) (h.env t),defers:=h.defers,jI:=h.jI}
end
end Go.VL
namespace Go.VL
set_option linter.unusedVariables false
set_option linter.unusedSimpArgs false
open Go
def eZ (T:List (List ab)):S:={E:=fun _=> .dead,aW:=fun r=>T[r]?}
def abK (P:Program)(f:FuncId)(args:List aB)(T:List (List ab))(r:aB)(iq:List (List ab)):Prop :=
 ∀(g:G) (ay:fm) (w:World) (vs:Array Value),g.mv=w→g.m=T.length→g.oK=(eZ T).a4→g.qK=(eZ T).bg ay→h3 g (eZ T) ay w→vs.size=args.length →
  (∀(j:Nat) x v,args[j]? = some x→vs[j]? = some v→Rel w ((eZ T).ok g ay w) (eZ T).a4 ((eZ T).bg ay) x v) →
  Calls P f vs w fun e bL=> ∃v bK,e = .returned v∧h3 g (eZ iq) bK bL∧Rel bL ((eZ iq).ok g bK bL) (eZ iq).a4 ((eZ iq).bg bK) r v
inductive b9:aB→Prop
 | dead:b9 .dead
 | b (x:Bool):b9 (.b x)
 | n (k:IntKind) (x:Int):b9 (.n k x)
 | s (x:ByteArray):b9 (.s x)
 | h2:b9 .h2
 | eT:b9 .eT
 | iL:b9 .iL
 | kb (sz:Nat):b9 (.isl sz [])
 | ref (r k i off:Nat):b9 (.ref r k i off)
 | bm (r k bT len:Nat):b9 (.bm r k bT len)
 | iM (r c sz:Nat) (h:Option (Nat×Nat)):b9 (.iM r c sz h)
 | agg {c:List aB} (h : ∀x∈c,b9 x):b9 (.agg c)
 | dZ {c:List aB} (h : ∀x∈c,b9 x):b9 (.dZ c)
theorem abL:Down b9:=⟨fun _ _ h R=>by cases h with|agg h=>exact h _ R,fun _ _ h R=>by cases h with|dZ h=>exact h _ R,fun _ _ _ h=>by cases h⟩
theorem Rel.fE {w bL:World}{ok kM:Nat→Prop}{a4 mN:i7}{bg l9:iW}{x:aB}(bV:b9 x): ∀ {v:Value},Pure x→Rel w ok a4 bg x v→Rel bL kM mN l9 x v:=by
 induction bV with
 | dead=>intro v _ h;exact .dead v
 | b x=>intro v _ h;rw [h.s0];exact .b x
 | n k x=>intro v _ h;rw [h.o1];exact .n k x
 | s x=>intro v _ h;rw [h.xR];exact .s x
 | h2=>intro v _ h;rw [h.uq];exact .h2
 | eT=>intro v _ h;rw [h.pe];exact .eT
 | iL=>intro v _ h;obtain ⟨a,c,rfl⟩:=h.DC;exact .iL a c
 | kb sz =>
  intro v _ h
  rcases h.rU with ⟨-,a,c,rfl,bE⟩|⟨d7,off,c,-,rfl,-⟩
  ·exact .kb sz a c bE
  ·exact .kb sz _ c (fun h=>by simp at h)
 | ref=>intro v ai;cases ai
 | bm=>intro v ai;cases ai
 | iM=>intro v ai;cases ai
 | @agg c bf ih =>
  intro v ai h
  obtain ⟨vs,rfl,h1,o,ae⟩:=h.Ak
  cases ai with
  | agg ai=>exact .agg vs h1 o fun j x u R hu=>ih x (List.mem_of_getElem? R) (ai x (List.mem_of_getElem? R)) (ae j x u R hu)
 | @dZ c bf ih =>
  intro v ai h
  obtain ⟨vs,rfl,h1,ae⟩:=h.xA
  cases ai with
  | dZ ai=>exact .dZ vs h1 fun j x u R hu=>ih x (List.mem_of_getElem? R) (ai x (List.mem_of_getElem? R)) (ae j x u R hu)
section
variable {P:Program} {g:G} {s:S} {ay:fm} {a:Act} {w:World}
theorem Au (h:h3 g s ay w){r k b m:Nat}{I:ab}(ao:s.ak r k=some I)(ai:ay r k=some (b,m)):b<w.heap.size:=by
 have:=h.obj r k I ao
 rw [ai] at this
 obtain ⟨c,eC,e,-⟩:=this
 exact (Array.getElem?_eq_some_iff.1 e).1
theorem abc (h:h3 g s ay w){r k b m:Nat}{I:ab}(ao:s.ak r k=some I)(ba:I.cm = .iT)(ai:ay r k=some (b,m)):s.ok g ay w b:=by
 refine ⟨Au h ao ai,?_,?_⟩
 ·rcases h.own r k I b m ao ai with e|e
  ·exact .inr (.inl e)
  ·exact .inr (.inr e)
 ·rintro ⟨eD,ea,b6,cy,h1,o,ae⟩
  obtain ⟨rfl,rfl⟩:=h.inj r k I eD ea b6 b m cy ao h1 ai ae
  rw [ao] at h1;simp at h1;subst h1;rw [ba] at o;simp at o
theorem enter (h:h3 g s ay w){a0:gC}{bY:f9→Bool}{q:aB→Prop}{T:List (List ab)}(A:Nat→Prop)
 (hA : ∀b,A b→b<w.heap.size) (Lj : ∀b,s.ok g ay w b→A b)
 (Lk : ∀r k I b m,s.ak r k=some I→bY I.cm=true→ay r k=some (b,m)→A b)
 (cX:pu s a0 bY q (eZ T).aW) (pi : ∀r k I,(∃j i,a0 j i=some (r,k))→s.ak r k=some I→I.cm = .live) :
 ∃fX:G,fX.mv=w∧fX.A=A∧fX.m=T.length∧fX.oK=(eZ T).a4∧fX.qK=(eZ T).bg (jK ay a0) ∧
  (fX.o8=fun b=> ∃r k I m,(∃j i,a0 j i=some (r,k))∧s.ak r k=some I∧ay r k=some (b,m))∧h3 fX (eZ T) (jK ay a0) w ∧
  ∀ {x cH:aB} {v:Value},hD s a0 bY q x cH→Rel w (s.ok g ay w) s.a4 (s.bg ay) x v→Rel w ((eZ T).ok fX (jK ay a0) w) (eZ T).a4 ((eZ T).bg (jK ay a0)) cH v:=by
 let fX:G:={mv:=w,A:=A,o8:=fun b=> ∃r k I m,(∃j i,a0 j i=some (r,k))∧s.ak r k=some I∧ay r k=some (b,m),N:=0,m:=T.length,oK:=(eZ T).a4,qK:=(eZ T).bg (jK ay a0)}
 refine ⟨fX,rfl,rfl,rfl,rfl,rfl,rfl,?_⟩
 have jz : ∀b,(eZ T).lJ (jK ay a0) b→ ∃r k I m,s.ak r k=some I∧I.cm = .live∧ay r k=some (b,m)∧ ∃j i,a0 j i=some (r,k):=fun b aV=>cX.live b aV
 refine h3.L7 (bO:=eZ T) (fX:=fX) h cX ⟨rfl,rfl,rfl,Nat.le_refl _,fun _ _ _=>rfl⟩ (fun j k aI=>⟨aI,.inl rfl⟩) ?_ ?_ hA ?_ ?_ ?_
 ·intro j k aI
  have aI:k<((T[j]?).getD []).length:=aI
  rcases Nat.lt_or_ge j T.length with h1|h1
  ·exact h1
  ·rw [List.getElem?_eq_none h1] at aI;simp at aI
 ·rintro b ⟨r,k,I,m,-,ao,ai⟩
  exact Au h ao ai
 ·intro r k I b m hm ao ai
  exact .inr ⟨r,k,I,m,hm,ao,ai⟩
 ·intro b aS
  refine ⟨aS.1,.inl (Lj b aS),fun aV=> ?_⟩
  obtain ⟨r,k,I,m,h1,o,ae,-⟩:=jz b aV
  exact aS.2.2 ⟨r,k,I,m,h1,o,ae⟩
 ·intro r k I b m ao bE ar ai
  refine ⟨Au h ao ai,.inl (Lk r k I b m ao bE ai),fun aV=> ?_⟩
  obtain ⟨eD,ea,b6,cy,h1,o,ae,⟨j,i,aI⟩⟩:=jz b aV
  obtain ⟨rfl,rfl⟩:=h.inj r k I eD ea b6 b m cy ao h1 ai ae
  exact ar j i aI
theorem leave (h:cJ g s ay a w){bL:World}{a0 kE:gC}{bY:f9→Bool}{q0 q:aB→Prop}{fX:G}{T fw:List (List ab)}{kN:fm}
 (dI:fX.mv=w) (hA:(∀b,fX.A b→s.ok g ay w b)∨(∀x,q x→b9 x)) (uV:fX.oK=(eZ T).a4) (lb:fX.qK=(eZ T).bg (jK ay a0))
 (ec:fX.o8=fun b=> ∃r k I m,(∃j i,a0 j i=some (r,k))∧s.ak r k=some I∧ay r k=some (b,m))
 (pi : ∀r k I,(∃j i,a0 j i=some (r,k))→s.ak r k=some I→I.cm = .live)
 (cX:pu s a0 bY q0 (eZ T).aW) (h1:h3 fX (eZ fw) kN bL)
 (AJ : ∀j i r k,a0 j i=some (r,k)→kE r k=some (j,i)) (D3 : ∀r k j i,kE r k=some (j,i)→a0 j i=some (r,k)∨ ¬s.a4 r k)
 (acf : ∀r k eD ea p,kE r k=some p→kE eD ea=some p→r=eD∧k=ea)
 {s2:S} (ek:s2.E=s.E)
 (bo : ∀r k I,s2.ak r k=some I→(∃j i p,kE r k=some (j,i)∧(eZ fw).ak j i=some p∧n3 (eZ fw) kE (fun _=>false) q p I)∨(kE r k=none∧s.ak r k=some I))
 (jl : ∀r k,s.a4 r k→s2.a4 r k) (acg : ∀r k j i,kE r k=some (j,i)→(eZ fw).a4 j i→s2.a4 r k)
 {x cH:aB} {v:Value} (R:hD (eZ fw) kE (fun _=>false) q x cH) (bj:Rel bL ((eZ fw).ok fX kN bL) (eZ fw).a4 ((eZ fw).bg kN) x v) :
 ∃lm,cJ g s2 lm a bL∧Rel bL (s2.ok g lm bL) s2.a4 (s2.bg lm) cH v:=by
 let lm:fm:=fun r k=>match kE r k with|some (j,i)=>kN j i|none=>ay r k
 have p1 : ∀r k j i,kE r k=some (j,i)→lm r k=kN j i:=fun r k j i e=>by simp [lm,e]
 have hg : ∀r k,kE r k=none→lm r k=ay r k:=fun r k e=>by simp [lm,e]
 have ba:=h1.gQ
 have eP:w.heap.size≤bL.heap.size:=by have:=ba.size;rw [dI] at this;exact this
 have sc : ∀b,b<w.heap.size→ ¬fX.o8 b→bL.heap[b]? = w.heap[b]? := fun b aS kW=>by
  have:=ba.block b (by rw [dI];exact aS) kW
  rw [dI] at this;exact this
 have El : ∀j k p b m,(eZ fw).ak j k=some p→kN j k=some (b,m)→w.heap.size≤b∨ ∃r ea I cy,(∃j i,a0 j i=some (r,ea))∧s.ak r ea=some I∧ay r ea=some (b,cy):=by
  intro j k p b m ai aS
  rcases h1.own j k p b m ai aS with e|e
  ·rw [dI] at e;exact .inl e
  ·rw [ec] at e;exact .inr e
 have hold : ∀q k I b m,kE q k=none→s.ak q k=some I→ay q k=some (b,m)→b<w.heap.size∧ ¬fX.o8 b:=by
  intro q k I b m bc ao ai
  refine ⟨Au h.toh3 ao ai,fun kW=> ?_⟩
  rw [ec] at kW
  obtain ⟨r,ea,b6,cy,⟨j,i,ar⟩,dR,nB⟩:=kW
  obtain ⟨rfl,rfl⟩:=h.inj q k I r ea b6 b m cy ao dR ai nB
  rw [AJ _ _ _ _ ar] at bc;simp at bc
 have Qm : ∀b,s2.lJ lm b→(eZ fw).lJ kN b∨(∃q k I m,kE q k=none∧s.ak q k=some I∧I.cm = .live∧ay q k=some (b,m)):=by
  rintro b ⟨q,k,I,m,ao,nA,ai⟩
  rcases bo q k I ao with ⟨j,i,p,e1,aC,bR⟩|⟨e1,aC⟩
  ·rw [p1 _ _ _ _ e1] at ai
   exact .inl ⟨j,i,p,m,aC,PU bR nA,ai⟩
  ·rw [hg _ _ e1] at ai
   exact .inr ⟨q,k,I,m,e1,aC,nA,ai⟩
 have mO : ∀b,s.ok g ay w b→s2.ok g lm bL b:=by
  intro b aS
  refine ⟨Nat.lt_of_lt_of_le aS.1 eP,aS.2.1,fun aV=> ?_⟩
  rcases Qm b aV with ⟨j,k,p,m,e1,aC,bR⟩|⟨q,k,I,m,e1,aC,bR,c9⟩
  ·rcases El j k p b m e1 bR with e|⟨r,ea,I,cy,ar,ao,ai⟩
   ·have:=aS.1;omega
   ·exact aS.2.2 ⟨r,ea,I,cy,ao,pi r ea I ar ao,ai⟩
  ·exact aS.2.2 ⟨q,k,I,m,aC,bR,c9⟩
 have Rb : ∀r k,s.a4 r k→s2.bg lm r k=s.bg ay r k∨s2.bg lm r k=none:=by
  intro r k ar
  cases ao:s2.ak r k with
  | none=>right;simp [S.bg,ao]
  | some I =>
   left
   rcases bo r k I ao with ⟨j,i,p,e1,aC,bR⟩|⟨e1,aC⟩
   ·rcases D3 r k j i e1 with aI|aI
    ·have ma:=(h1.stay j i (by rw [uV];exact cX.a4 _ _ _ _ aI ar)).2
     rw [lb,iv aC] at ma
     have ma:some (p.sz,kN j i)=(eZ T).bg (jK ay a0) j i:=by
      rcases ma with e|e
      ·exact e
      ·simp at e
     have:=cX.Ek (bO:=eZ T) (ay:=ay) aI
     rw [← ma] at this
     rw [iv ao,bR.sz,p1 _ _ _ _ e1]
     rcases this with e|e
     ·exact e
     ·simp at e
    ·exact absurd ar aI
   ·rw [iv ao,iv aC,hg _ _ e1]
 have abM : ∀b,s.ok g ay w b→bL.heap[b]? = w.heap[b]? := by
  intro b aS
  refine sc b aS.1 fun kW=> ?_
  rw [ec] at kW
  obtain ⟨r,ea,I,cy,ar,ao,ai⟩:=kW
  exact aS.2.2 ⟨r,ea,I,cy,ao,pi r ea I ar ao,ai⟩
 have fs : ∀ {y:aB} {u:Value},Rel w (s.ok g ay w) s.a4 (s.bg ay) y u→Rel bL (s2.ok g lm bL) s2.a4 (s2.bg lm) y u :=
  fun ar=>ar.mono mO abM jl Rb
 have ach:(∀b,fX.A b→s.ok g ay w b)→ ∀b,(eZ fw).ok fX kN bL b→s2.ok g lm bL b:=by
  intro hA b aS
  have KS:g.A b∨g.mv.heap.size≤b∨g.o8 b:=by
   rcases aS.2.1 with e|e|e
   ·exact (hA b e).2.1
   ·rw [dI] at e;exact .inr (.inl (Nat.le_trans h.gQ.size e))
   ·rw [ec] at e
    obtain ⟨r,k,I,m,-,ao,ai⟩:=e
    rcases h.own r k I b m ao ai with e|e
    ·exact .inr (.inl e)
    ·exact .inr (.inr e)
  refine ⟨aS.1,KS,fun aV=> ?_⟩
  rcases Qm b aV with e|⟨q,k,I,m,e1,aC,bR,c9⟩
  ·exact aS.2.2 e
  ·have bc:=hold q k I b m e1 aC c9
   rcases aS.2.1 with e|e|e
   ·exact (hA b e).2.2 ⟨q,k,I,m,aC,bR,c9⟩
   ·rw [dI] at e;omega
   ·exact bc.2 e
 have QO : ∀ {y lW:aB} {u:Value},hD (eZ fw) kE (fun _=>false) q y lW→Rel bL ((eZ fw).ok fX kN bL) (eZ fw).a4 ((eZ fw).bg kN) y u→Rel bL (s2.ok g lm bL) s2.a4 (s2.bg lm) lW u:=by
  intro y lW u bV ar
  refine bV.rel h1 (fun x v bc ai ar=> ?_) (fun _ _ _ _ _ _ bE _ _=>by simp at bE) ?_ ar
  ·rcases hA with hA|hA
   ·exact ar.pure ai (ach hA)
   ·exact ar.fE (hA x bc) ai
  ·intro r k j i bc aI
   refine ⟨acg r k j i bc aI,?_⟩
   cases ao:s2.ak r k with
   | none=>right;simp [S.bg,ao]
   | some I =>
    left
    rcases bo r k I ao with ⟨hN,eA,p,e1,aC,bR⟩|⟨e1,-⟩
    ·rw [bc] at e1;simp only [Option.some.injEq,Prod.mk.injEq] at e1
     obtain ⟨rfl,rfl⟩:=e1
     rw [iv ao,iv aC,bR.sz,p1 _ _ _ _ bc]
    ·rw [bc] at e1;simp at e1
 refine ⟨lm,{toh3:=⟨?_,?_,?_,?_,h.mlt,h.na,?_,h.low⟩,env:=fun t=>by rw [ek];exact fs (h.env t),defers:=h.defers,jI:=h.jI},QO R bj⟩
 ·intro q k I ao
  rcases bo q k I ao with ⟨j,i,p,e1,aC,bR⟩|⟨e1,aC⟩
  ·have ai:=h1.obj j i p aC
   rw [p1 _ _ _ _ e1]
   cases kp:kN j i with
   | none =>
    rw [kp] at ai
    simp only [jg] at ai ⊢
    apply List.length_eq_zero_iff.1
    rw [bR.len,ai];rfl
   | some su =>
    obtain ⟨b,m⟩:=su
    rw [kp] at ai
    obtain ⟨c,eC,f1,f2,f3,f4⟩:=ai
    have jJ:I.es.flatten.length=p.es.flatten.length:=by rw [q8 _ bR.each,q8 _ f3,bR.len]
    refine ⟨c,eC,f1,f2,by rw [bR.sz];exact bR.each,fun i cH dE=> ?_⟩
    have dz:i<p.es.flatten.length:=by rw [← jJ];exact fB dE
    have kq:=List.getElem?_eq_getElem dz
    obtain ⟨u,ln,nH,gM⟩:=f4 i _ kq
    exact ⟨u,ln,nH,QO (bR.at_ i _ cH kq dE) gM⟩
  ·have ai:=h.obj q k I aC
   rw [hg _ _ e1]
   cases kp:ay q k with
   | none=>rw [kp] at ai;exact ai
   | some su =>
    obtain ⟨b,m⟩:=su
    rw [kp] at ai
    obtain ⟨c,eC,f1,f2,f3,f4⟩:=ai
    obtain ⟨tg,Ll⟩:=hold q k I b m e1 aC kp
    refine ⟨c,eC,(sc b tg Ll).trans f1,f2,f3,fun i cH dE=> ?_⟩
    obtain ⟨u,ln,nH,gM⟩:=f4 i cH dE
    exact ⟨u,ln,nH,fs gM⟩
 ·intro q k I hC ea b6 b m cy o ae av aA
  rcases bo q k I o with ⟨j,i,p,e1,aC,bR⟩|⟨e1,aC⟩<;>rcases bo hC ea b6 ae with ⟨hN,eA,ki,mS,o5,Bs⟩|⟨mS,o5⟩
  ·rw [p1 _ _ _ _ e1] at av;rw [p1 _ _ _ _ mS] at aA
   obtain ⟨rfl,rfl⟩:=h1.inj j i p hN eA ki b m cy aC o5 av aA
   exact acf _ _ _ _ _ e1 mS
  ·rw [p1 _ _ _ _ e1] at av;rw [hg _ _ mS] at aA
   obtain ⟨f1,f2⟩:=hold hC ea b6 b cy mS o5 aA
   rcases El j i p b m aC av with e|e
   ·omega
   ·exact absurd (by rw [ec];exact e) f2
  ·rw [hg _ _ e1] at av;rw [p1 _ _ _ _ mS] at aA
   obtain ⟨f1,f2⟩:=hold q k I b m e1 aC av
   rcases El hN eA ki b cy o5 aA with e|e
   ·omega
   ·exact absurd (by rw [ec];exact e) f2
  ·rw [hg _ _ e1] at av;rw [hg _ _ mS] at aA
   exact h.inj q k I hC ea b6 b m cy aC o5 av aA
 ·intro q k I b m o av
  rcases bo q k I o with ⟨j,i,p,e1,aC,bR⟩|⟨e1,aC⟩
  ·rw [p1 _ _ _ _ e1] at av
   rcases El j i p b m aC av with e|⟨r,ea,b6,cy,ar,ao,ai⟩
   ·exact .inl (Nat.le_trans h.gQ.size e)
   ·exact h.own r ea b6 b cy ao ai
  ·rw [hg _ _ e1] at av;exact h.own q k I b m aC av
 ·have e1:=ba.os;have aC:=ba.tape;have bR:=ba.output
  rw [dI] at e1 aC bR
  refine h.gQ.step e1 aC bR eP fun b aS nC=>sc b (Nat.lt_of_lt_of_le aS h.gQ.size) fun kW=> ?_
  rw [ec] at kW
  obtain ⟨r,k,I,m,-,ao,ai⟩:=kW
  rcases h.own r k I b m ao ai with e|e
  ·omega
  ·exact nC e
 ·intro j k aI
  obtain ⟨e1,aC⟩:=h.stay j k aI
  refine ⟨jl j k e1,?_⟩
  rcases Rb j k e1 with e|e
  ·rw [e];exact aC
  ·exact .inr e
def kA (a b n:Nat):aB→aB
 | .ref r k i off=>if r=a then .ref b (n+k) i off else .ref r k i off
 | .bm r k bT len=>if r=a then .bm b (n+k) bT len else .bm r k bT len
 | .iM r c sz h=>if r=a then .iM b (n+c) sz h else .iM r c sz h
 | .agg c=> .agg (yi c)
 | .dZ c=> .dZ (yi c)
 | x=>x
where yi:List aB→List aB
 | []=>[]
 | x::l=>kA a b n x::yi l
def mc (a b n:Nat)(I:ab):ab:={I with es:=I.es.map fun e=>e.map (kA a b n)}
def qD (I:ab):ab:=⟨0,[],.gone⟩
theorem DO (a b n:Nat): ∀l:List aB,kA.yi a b n l=l.map (kA a b n)
 | []=>rfl
 | x::l=>by rw [kA.yi,DO a b n l];rfl
theorem kn (l:List ab)(k:Nat):db (some l) k=(l[k]?).bind fun I=>if I.cm = .gone then none else some I:=by
 unfold db
 cases h:l[k]? <;> simp [h]
theorem map_flatten {es:List (List aB)}(f:aB→aB):(es.map fun e=>e.map f).flatten=es.flatten.map f:=by
 induction es with
 | nil=>rfl
 | cons e es ih=>rw [List.map_cons,List.flatten_cons,List.flatten_cons,List.map_append,ih]
theorem cJ.merge (h:cJ g s ay a w){r eD:Nat}{l gl:List ab}(ar:s.aW r=some l)(hq:s.aW eD=some gl)(dr:eD≠r):
 ∃bK,cJ g ((s.setRow eD (gl.map qD)).setRow r (l++gl.map (mc eD r l.length))) bK a w ∧
  ∀x v,Rel w (s.ok g ay w) s.a4 (s.bg ay) x v→Rel w (((s.setRow eD (gl.map qD)).setRow r (l++gl.map (mc eD r l.length))).ok g bK w)
   ((s.setRow eD (gl.map qD)).setRow r (l++gl.map (mc eD r l.length))).a4 (((s.setRow eD (gl.map qD)).setRow r (l++gl.map (mc eD r l.length))).bg bK) (kA eD r l.length x) v:=by
 generalize sk:(s.setRow eD (gl.map qD)).setRow r (l++gl.map (mc eD r l.length))=s2
 let bK:fm:=fun q k=>if q=r∧l.length≤k then ay eD (k-l.length) else ay q k
 have bo : ∀q k I,s2.ak q k=some I→(q=r∧l.length≤k∧ ∃p,s.ak eD (k-l.length)=some p∧I=mc eD r l.length p∧bK q k=ay eD (k-l.length)) ∨
  (q≠eD∧s.ak q k=some I∧bK q k=ay q k∧ ¬(q=r∧l.length≤k)):=by
  intro q k I ao
  subst sk
  rw [lr] at ao
  by_cases e:q=r
  ·subst e
   rw [if_pos rfl] at ao
   by_cases ba:l.length≤k
   ·left
    refine ⟨rfl,ba,?_⟩
    rw [kn,List.getElem?_append_right ba,List.getElem?_map] at ao
    cases ai:gl[k-l.length]? with
    | none=>rw [ai] at ao;simp at ao
    | some p =>
     rw [ai] at ao
     simp only [Option.map_some,Option.bind_some] at ao
     split at ao
     ·simp at ao
     ·rename_i dI
      simp only [Option.some.injEq] at ao
      refine ⟨p,?_,ao.symm,by simp [bK,ba]⟩
      unfold S.ak
      rw [hq,kn,ai,Option.bind_some,if_neg (by simpa [mc] using dI)]
   ·right
    refine ⟨Ne.symm dr,?_,by simp [bK,ba],fun ft=>ba ft.2⟩
    unfold S.ak
    rw [ar,kn]
    rw [kn,List.getElem?_append_left (by omega)] at ao
    exact ao
  ·rw [if_neg e,lr] at ao
   by_cases aC:q=eD
   ·subst aC
    rw [if_pos rfl,kn,List.getElem?_map] at ao
    cases ai:gl[k]? with
    | none=>rw [ai] at ao;simp at ao
    | some p=>rw [ai] at ao;simp [qD] at ao
   ·rw [if_neg aC] at ao
    exact .inr ⟨aC,ao,by simp [bK,e],fun ft=>e ft.1⟩
 have jl : ∀q k,s.a4 q k→s2.a4 q k:=by
  intro q k bc
  subst sk
  rw [m4]
  by_cases e:q=r
  ·subst e;rw [if_pos rfl];simp [S.a4,ar] at bc;simp;omega
  ·rw [if_neg e,m4]
   by_cases aC:q=eD
   ·subst aC;rw [if_pos rfl];simpa [S.a4,hq] using bc
   ·rw [if_neg aC];exact bc
 have Ba : ∀k,s.a4 eD k→s2.a4 r (l.length+k):=by
  intro k bc
  subst sk
  rw [m4,if_pos rfl]
  simp [S.a4,hq] at bc
  simp;omega
 have Bb : ∀k,s2.bg bK r (l.length+k)=s.bg ay eD k:=by
  intro k
  subst sk
  simp only [S.bg]
  rw [lr,if_pos rfl]
  unfold S.ak
  rw [hq,kn,kn,List.getElem?_append_right (by omega),List.getElem?_map,show l.length+k-l.length=k by omega]
  cases ai:gl[k]? with
  | none=>simp
  | some p =>
   simp only [Option.map_some,Option.bind_some]
   by_cases dI:p.cm = .gone
   ·rw [if_pos dI,if_pos (by simpa [mc] using dI)];rfl
   ·rw [if_neg dI,if_neg (by simpa [mc] using dI)]
    simp [bK,mc]
 have lb : ∀q k,s.a4 q k→s2.bg bK q k=s.bg ay q k∨s2.bg bK q k=none:=by
  intro q k bc
  cases ao:s2.ak q k with
  | none=>right;simp [S.bg,ao]
  | some I =>
   left
   rcases bo q k I ao with ⟨rfl,aC,-⟩|⟨-,aC,bR,-⟩
   ·simp [S.a4,ar] at bc;omega
   ·rw [iv ao,iv aC,bR]
 have pi : ∀b,s2.lJ bK b→s.lJ ay b:=by
  rintro b ⟨q,k,I,m,h1,o,ae⟩
  rcases bo q k I h1 with ⟨-,-,p,e1,aC,bR⟩|⟨-,e1,aC,-⟩
  ·rw [bR] at ae;subst aC;exact ⟨eD,_,p,m,e1,o,ae⟩
  ·rw [aC] at ae;exact ⟨q,k,I,m,e1,o,ae⟩
 have dx:Step g s ay w s2 bK w:=⟨jl,lb,fun b aV=> .inl (pi b aV),fun _ _ _=>rfl,Nat.le_refl _⟩
 have Bv : ∀x v,Rel w (s.ok g ay w) s.a4 (s.bg ay) x v→Rel w (s2.ok g bK w) s2.a4 (s2.bg bK) (kA eD r l.length x) v:=by
  intro x v lc
  induction lc with
  | dead v=>exact .dead v
  | b x=>exact .b x
  | n k x=>exact .n k x
  | s x=>exact .s x
  | h2=>exact .h2
  | eT=>exact .eT
  | iL a c=>exact .iL a c
  | @pg r1 k i off a hu ft =>
   unfold kA
   split
   ·rename_i e;subst e
    exact .pg a (Ba k hu) (by rw [Bb];exact ft)
   ·exact dx.rel (.pg a hu ft)
  | @ref r1 k i off sz d7 m hu ft =>
   unfold kA
   split
   ·rename_i e;subst e
    exact .ref (Ba k hu) (by rw [Bb];exact ft)
   ·exact dx.rel (.ref hu ft)
  | @m5 r1 k bT len a bw cd hu ft =>
   unfold kA
   split
   ·rename_i e;subst e
    exact .m5 a bw cd (Ba k hu) (by rw [Bb];exact ft)
   ·exact dx.rel (.m5 a bw cd hu ft)
  | @nn r1 k sz hu ft =>
   unfold kA
   split
   ·rename_i e;subst e
    exact .nn (Ba k hu) (by rw [Bb];exact ft)
   ·exact dx.rel (.nn hu ft)
  | @bm r1 k bT len sz d7 m c a hu ft aV bf mb =>
   unfold kA
   split
   ·rename_i e;subst e
    exact .bm (Ba k hu) (by rw [Bb];exact ft) aV bf mb
   ·exact dx.rel (.bm hu ft aV bf mb)
  | @mI r1 c sz v h0 ih =>
   unfold kA
   split
   ·exact .mI (dx.rel h0)
   ·exact dx.rel (.mI h0)
  | @nu r1 c sz k n v h0 ih =>
   unfold kA
   split
   ·rename_i e;subst e
    unfold kA at ih
    rw [if_pos rfl] at ih
    exact .nu (by rw [show k+(l.length+c)=l.length+(k+c) by omega];exact ih)
   ·exact dx.rel (.nu h0)
  | kb sz a c h=>exact .kb sz a c h
  | isl cs aS ai aV bf hw iy lc ih=>exact dx.rel (.isl cs aS ai aV bf hw iy lc)
  | dY cs aS ai aV hw iy lc ih=>exact dx.rel (.dY cs aS ai aV hw iy lc)
  | o3 sz=>exact .o3 sz
  | oE h0 ih=>exact dx.rel (.oE h0)
  | agg vs aV iy lc ih =>
   unfold kA
   rw [DO]
   refine .agg vs (by simpa using aV) iy fun j x v R bj=> ?_
   rw [List.getElem?_map,Option.map_eq_some_iff] at R
   obtain ⟨y,a1,rfl⟩:=R
   exact ih j y v a1 bj
  | dZ vs aV lc ih =>
   unfold kA
   rw [DO]
   refine .dZ vs (by simpa using aV) fun j x v R bj=> ?_
   rw [List.getElem?_map,Option.map_eq_some_iff] at R
   obtain ⟨y,a1,rfl⟩:=R
   exact ih j y v a1 bj
  | fn vs aV lc ih=>exact dx.rel (.fn vs aV lc)
 refine ⟨bK,{toh3:=⟨?_,?_,?_,h.gQ,h.mlt,h.na,?_,h.low⟩,env:=fun t=>by rw [show s2.E=s.E by rw [← sk];rfl];exact dx.rel (h.env t),defers:=h.defers,jI:=h.jI},Bv⟩
 ·intro q k I ao
  rcases bo q k I ao with ⟨-,-,p,e1,aC,bR⟩|⟨-,e1,aC,-⟩
  ·rw [bR]
   subst aC
   have ai:=h.obj eD _ p e1
   cases kp:ay eD (k-l.length) with
   | none=>rw [kp] at ai;simp only [jg] at ai ⊢;simp [mc,ai]
   | some su =>
    obtain ⟨b,m⟩:=su
    rw [kp] at ai
    obtain ⟨c,eC,f1,f2,f3,f4⟩:=ai
    refine ⟨c,eC,f1,f2,?_,fun j x R=> ?_⟩
    ·intro e he
     simp only [mc,List.mem_map] at he
     obtain ⟨eH,lQ,rfl⟩:=he
     simpa [mc] using f3 eH lQ
    ·simp only [mc] at R
     rw [map_flatten,List.getElem?_map,Option.map_eq_some_iff] at R
     obtain ⟨y,a1,rfl⟩:=R
     obtain ⟨u,ln,nH,gM⟩:=f4 j y a1
     exact ⟨u,ln,nH,Bv y u gM⟩
  ·rw [aC]
   exact dx.obj (fun b m _=>rfl) (h.obj q k I e1)
 ·intro q k I q1 mW ah b m cy h1 o ae av
  rcases bo q k I h1 with ⟨rfl,f1,p,e1,aC,bR⟩|⟨f1,e1,aC,f2⟩<;>rcases bo q1 mW ah o with ⟨rfl,yj,ki,mS,o5,Bs⟩|⟨yj,mS,o5,afC⟩
  ·rw [bR] at ae;rw [Bs] at av
   obtain ⟨-,e⟩:=h.inj _ _ _ _ _ _ b m cy e1 mS ae av
   exact ⟨rfl,by omega⟩
  ·rw [bR] at ae;rw [o5] at av
   obtain ⟨e,-⟩:=h.inj _ _ _ _ _ _ b m cy e1 mS ae av
   exact absurd e.symm yj
  ·rw [aC] at ae;rw [Bs] at av
   obtain ⟨e,-⟩:=h.inj _ _ _ _ _ _ b m cy e1 mS ae av
   exact absurd e f1
  ·rw [aC] at ae;rw [o5] at av
   exact h.inj _ _ _ _ _ _ b m cy e1 mS ae av
 ·intro q k I b m h1 o
  rcases bo q k I h1 with ⟨-,-,p,e1,aC,bR⟩|⟨-,e1,aC,-⟩
  ·rw [bR] at o;exact h.own eD _ p b m e1 o
  ·rw [aC] at o;exact h.own q k I b m e1 o
 ·exact dx.stay h.stay
end
end Go.VL
namespace Go.VL
set_option linter.unusedVariables false
set_option linter.unusedSimpArgs false
open Go
def aB.iH:aB→Bool
 | .dead | .b _ | .n .. | .s _ | .h2 | .eT | .iL | .isl .. | .dY .. | .j1 .. => true
 | _=>false
def aB.Av:aB→Bool
 | .agg c=>c.all aB.iH
 | .fn _ c=>c.all aB.iH
 | x=>x.iH
def aB.QP:aB→Bool
 | .dZ c=>c.all aB.Av
 | x=>x.Av
section
variable {w:World} {ok:Nat→Prop} {a4:i7} {bg:iW}
theorem Rel.xS {x:aB}{v:Value}(h:Rel w ok a4 bg x v)(a5:x.iH=true):Pure x:=by
 cases h with
 | dead=>exact .dead
 | b=>exact .b _
 | n=>exact .n _ _
 | s=>exact .s _
 | h2=>exact .h2
 | eT=>exact .eT
 | iL=>exact .iL
 | kb=>exact .isl (by simp)
 | isl cs aS ai=>exact .isl ai
 | dY cs aS ai=>exact .dY ai
 | o3 sz=>exact .o3 sz
 | oE h=>cases h with|dY cs aS ai=>exact .oE fun x R=>ai _ (List.mem_singleton.2 rfl) x R
 | _=>simp [aB.iH] at a5
theorem Ot {c:List aB}{vs:List Value}(aV:vs.length=c.length)(ar:∀(j:Nat) x u,c[j]? = some x→vs[j]? = some u→Rel w ok a4 bg x u)
 (a5:c.all aB.iH=true) : ∀x∈c,Pure x:=by
 intro x R
 obtain ⟨j,aI⟩:=List.getElem?_of_mem R
 have dz:j<vs.length:=by have:=fB aI;omega
 exact (ar j x _ aI (List.getElem?_eq_getElem dz)).xS (List.all_eq_true.1 a5 x R)
theorem Rel.DX {x:aB}{v:Value}(h:Rel w ok a4 bg x v)(a5:x.Av=true):Pure x:=by
 cases h with
 | agg vs aV bf ar=>exact .agg (Ot aV ar a5)
 | fn vs aV ar=>exact .fn (Ot aV ar a5)
 | dead=>exact .dead
 | b=>exact .b _
 | n=>exact .n _ _
 | s=>exact .s _
 | h2=>exact .h2
 | eT=>exact .eT
 | iL=>exact .iL
 | kb=>exact .isl (by simp)
 | isl cs aS ai=>exact .isl ai
 | dY cs aS ai=>exact .dY ai
 | o3 sz=>exact .o3 sz
 | oE h=>cases h with|dY cs aS ai=>exact .oE fun x R=>ai _ (List.mem_singleton.2 rfl) x R
 | _=>simp [aB.Av,aB.iH] at a5
theorem Rel.abN {x:aB}{v:Value}(h:Rel w ok a4 bg x v)(a5:x.QP=true):Pure x:=by
 by_cases cb : ∃c,x = .dZ c
 ·obtain ⟨c,rfl⟩:=cb
  obtain ⟨vs,rfl,aV,ar⟩:=h.xA
  refine .dZ fun x R=> ?_
  obtain ⟨j,aI⟩:=List.getElem?_of_mem R
  have dz:j<vs.length:=by have:=fB aI;omega
  exact (ar j x _ aI (List.getElem?_eq_getElem dz)).DX (List.all_eq_true.1 a5 x R)
 ·refine h.DX ?_
  cases x<;>first|exact a5|exact absurd ⟨_,rfl⟩ cb
end
def cv:List Nat→Nat→Option Nat
 | [],_=>none
 | x::l,r=>if x=r then some 0 else (cv l r).map (· + 1)
theorem Ou : ∀ {l:List Nat} {r j:Nat},cv l r=some j→l[j]? = some r
 | x::l,r,j,h=>by
  unfold cv at h
  split at h
  ·simp at h;subst h;simp [*]
  ·rw [Option.map_eq_some_iff] at h
   obtain ⟨i,aq,rfl⟩:=h
   simpa using Ou aq
theorem Ov : ∀ {l:List Nat} {r j:Nat},l.Nodup→l[j]? = some r→cv l r=some j
 | x::l,r,j,a5,h=>by
  rw [List.nodup_cons] at a5
  unfold cv
  cases j with
  | zero=>simp at h;simp [h]
  | succ j =>
   simp at h
   have:x≠r:=by rintro rfl;exact a5.1 (List.mem_of_getElem? h)
   rw [if_neg this,Ov a5.2 h];rfl
def Bw (dy:Nat)(ix:List ab)(bY:f9→Bool)(x cH:aB):Prop :=
 (cH=x∧x.iH=true)∨(∃c sz,x = .iM dy c sz none∧cH = .isl sz [])∨ ∃k bT len I,(x = .bm dy k bT len∨ ∃c sz i9,k=i9+c∧bT=0∧x = .iM dy c sz (some (i9,len)))∧db (some ix) k=some I∧bY I.cm=true∧bT+len≤I.es.length ∧
   jF ((I.es.drop bT).take len)∧cH = .isl I.sz ((I.es.drop bT).take len)
def Ca (dy:Nat)(ix:List ab)(bY:f9→Bool)(sz:Nat)(es gk:List (List aB)):Prop :=
 gk.length=es.length∧(∀e∈gk,e.length=sz)∧ ∀(j:Nat) x cH,es.flatten[j]? = some x→gk.flatten[j]? = some cH→Bw dy ix bY x cH
def lv (aW:Nat→Option (List ab))(b8:Nat→Option Nat)(a0:gC)(bY:f9→Bool):ss→aB→Option (aB×List Prop)
 | .id,x=>if x.iH then some (x,[]) else
  match x with
  | .ref r k i off=>match b8 r with
   | some j=>some (.ref j k i off,[])
   | none=>none
  | .bm r k bT len=>match b8 r with
   | some j=>some (.bm j k bT len,[])
   | none=>none
  | .iM r c sz h=>match b8 r with
   | some j=>some (.iM j c sz h,[])
   | none=>none
  | _=>none
 | .jW sz,.eT=>some (.isl sz [],[])
 | .jW sz,.iL=>some (.isl sz [],[])
 | .e5 gk,.bm r k bT len=>match db (aW r) k with
  | some I=>if bY I.cm && (b8 r).isNone then some (.isl I.sz gk,[gk=(I.es.drop bT).take len,bT+len≤I.es.length,jF gk]) else none
  | none=>none
 | .jM,_=>some (.dead,[])
 | .cL y,x=>if x.iH then some (y,[x=y]) else none
 | .len n,.bm r k bT len=>match b8 r with
  | some j=>some (.bm j k bT n,[len=n])
  | none=>none
 | .L4 sz,x=>match x with
  | .h2=>some (.j1 sz none,[])
  | .dY Eg [c] 0 0=>if Eg=sz then some (.j1 sz (some c),[]) else none
  | _=>none
 | .at_ j i n,.bm r k bT len=>some (.bm j i bT n,[a0 j i=some (r,k),len=n])
 | .at_ j i _,.ref r k x y=>some (.ref j i x y,[a0 j i=some (r,k)])
 | .view dy I gk,.bm r k bT len=>match aW r,aW dy with
  | some row,some ix=>if (b8 r).isNone && (b8 dy).isNone then
   some (.isl I.sz gk,[db (some row) k=some I,bY I.cm=true,bT+len≤I.es.length,jF gk,Ca dy ix bY I.sz ((I.es.drop bT).take len) gk]) else none
  | _,_=>none
 | _,_=>none
def lx {α β:Type}(f:α→β→Option (β×List Prop)):List α→List β→Option (List β×List Prop)
 | [],[]=>some ([],[])
 | a::l,b::m=>match f a b,lx f l m with
  | some (kj,ah),some (cy,aQ)=>some (kj::cy,ah++aQ)
  | _,_=>none
 | _,_=>none
def nT (aW:Nat→Option (List ab))(b8:Nat→Option Nat)(a0:gC)(bY:f9→Bool):yH→aB→Option (aB×List Prop)
 | .dK c,x=>if x.Av then (match c with | .id=>some (x,[]) | .jM=>some (.dead,[]) | .cL y=>some (y,[x=y])|c=>lv aW b8 a0 bY c x) else lv aW b8 a0 bY c x
 | .agg l,.agg c=>match lx (lv aW b8 a0 bY) l c with
  | some (dF,ak)=>some (.agg dF,ak)
  | none=>none
 | .ptr l,.ref r k i off=>match db (aW r) k with
  | some I=>match I.es with
   | [c]=>if bY I.cm && (b8 r).isNone then
    match lx (lv aW b8 a0 bY) l c with
    | some (dF,ak)=>some (.dY I.sz [dF] i off,ak++[jF [dF]])
    | none=>none
    else none
   | _=>none
  | none=>none
 | .KN l,x=>match x with
  | .ref r k 0 0=>match db (aW r) k with
   | some I=>match I.es with
    | [c]=>if bY I.cm && (b8 r).isNone then
     match lx (lv aW b8 a0 bY) l c with
     | some (dF,ak)=>some (.j1 I.sz (some dF),ak++[jF [dF]])
     | none=>none
     else none
    | _=>none
   | none=>none
  | _=>none
 | _,_=>none
def nq (aW:Nat→Option (List ab))(b8:Nat→Option Nat)(a0:gC)(bY:f9→Bool):lj→aB→Option (aB×List Prop)
 | .bw c,x=>if x.QP then (match c with | .dK .id=>some (x,[])|c=>nT aW b8 a0 bY c x) else nT aW b8 a0 bY c x
 | .comp l,.dZ c=>match lx (nT aW b8 a0 bY) l c with
  | some (dF,ak)=>some (.dZ dF,ak)
  | none=>none
 | .comp l,.fn f c=>match lx (nT aW b8 a0 bY) l c with
  | some (dF,ak)=>some (.fn f dF,ak)
  | none=>none
 | _,_=>none
def sR (row:List ab):Prop:= ∀I∈row,jF I.es∧I.cm = .live
def ly (row:List ab):Prop:= ∀I∈row,I.cm = .live∨I.cm = .gone
def nD (b8:Nat→Option Nat):aB→aB
 | .ref r k i off=>match b8 r with|some j=> .ref j k i off|none=> .dead
 | .bm r k bT len=>match b8 r with|some j=> .bm j k bT len|none=> .dead
 | .iM r c sz h=>match b8 r with|some j=> .iM j c sz h|none=> .dead
 | x=>if x.iH then x else .dead
def gG (b8:Nat→Option Nat)(I:ab):ab:={I with es:=I.es.map fun e=>e.map (nD b8)}
def i2 (aW:Nat→Option (List ab))(b8:Nat→Option Nat)(a0:gC)(bY:f9→Bool):iA→List ab→Option (List ab×List Prop)
 | .pure,row=>some (row,[sR row])
 | .cL dX,row=>some (dX,[row=dX,sR dX])
 | .bD dX,row=>some (dX,[dX=row.map (gG b8),ly row])
 | .box l,[I]=>match I.es with
  | [c]=>if I.cm = .live then match lx (lv aW b8 a0 bY) l c with
   | some (dF,ak)=>some ([{I with es:=[dF]}],ak)
   | none=>none
   else none
  | _=>none
 | _,_=>none
structure sv (q:aB→Prop) (bY:f9→Bool):Prop extends Down q where
 all : ∀k,bY k=true→ ∀x,q x
theorem ti (bY:f9→Bool):sv lU bY:={toDown:=abJ,all:=fun _ _ _=>trivial}
theorem acW:sv b9 (fun _=>false):={toDown:=abL,all:=fun _ h=>by simp at h}
structure mx (s:S) (a0:gC) (b8:Nat→Option Nat) (bY:f9→Bool):Prop where
 aq : ∀r j,b8 r=some j→ ∀k,a0 j k=some (r,k)
 a5 : ∀r,b8 r=none→ ∀k I,s.ak r k=some I→bY I.cm=true→ ∀j i,a0 j i≠some (r,k)
section
variable {g:G} {s:S} {ay:fm} {w:World} {a0:gC} {b8:Nat→Option Nat} {bY:f9→Bool} {q:aB→Prop}
theorem Ds {α β:Type}(f:α→β→Option (β×List Prop)): ∀(l:List α) (m cy:List β) (ak:List Prop),lx f l m=some (cy,ak) →
 cy.length=m.length∧l.length=m.length∧ ∀(j:Nat) b kj,m[j]? = some b→cy[j]? = some kj→ ∃x b6,l[j]? = some x∧f x b=some (kj,b6)∧ ∀p∈b6,p∈ak
 | [],[],cy,ak,h=>by
  simp [lx] at h;obtain ⟨rfl,rfl⟩:=h
  exact ⟨rfl,rfl,fun j b kj aS=>by simp at aS⟩
 | [],_::_,_,_,h=>by simp [lx] at h
 | _::_,[],_,_,h=>by simp [lx] at h
 | x::l,b::m,cy,ak,h=>by
  simp only [lx] at h
  split at h
  ·rename_i kj ah hf aQ h1 o
   simp only [Option.some.injEq,Prod.mk.injEq] at h
   obtain ⟨rfl,rfl⟩:=h
   obtain ⟨e1,aC,bR⟩:=Ds f l m hf aQ o
   refine ⟨by simp [e1],by simp [aC],fun j c dF bf sg=> ?_⟩
   cases j with
   | zero =>
    simp at bf sg;subst bf;subst sg
    exact ⟨x,ah,rfl,h1,fun p ai=>by simp [ai]⟩
   | succ j =>
    simp at bf sg
    obtain ⟨y,b6,f1,f2,f3⟩:=bR j c dF bf sg
    exact ⟨y,b6,by simpa using f1,f2,fun p ai=>by simp [f3 p ai]⟩
  ·simp at h
theorem JS (ec:h3 g s ay w)(H:mx s a0 b8 bY)(bG:sv q bY){c:ss}{x cH:aB}{ak:List Prop}(h:lv s.aW b8 a0 bY c x=some (cH,ak))(bo:∀p∈ak,p)
 (bc:q x) {v:Value} (ar:Rel w (s.ok g ay w) s.a4 (s.bg ay) x v):hD s a0 bY q x cH:=by
 have jl : ∀ {r k bT len:Nat},x = .bm r k bT len→s.a4 r k:=by
  intro r k bT len e;subst e;cases ar<;>assumption
 cases c with
 | id =>
  simp only [lv] at h
  split at h
  ·rename_i a5
   simp only [Option.some.injEq,Prod.mk.injEq] at h
   obtain ⟨rfl,rfl⟩:=h
   exact .pure (ar.xS a5) bc
  ·split at h
   ·rename_i r k i off _
    split at h
    ·rename_i j aI
     simp only [Option.some.injEq,Prod.mk.injEq] at h
     obtain ⟨rfl,rfl⟩:=h
     exact .ref i off (H.aq r j aI k) (by cases ar<;>assumption)
    ·simp at h
   ·rename_i r k bT len _
    split at h
    ·rename_i j aI
     simp only [Option.some.injEq,Prod.mk.injEq] at h
     obtain ⟨rfl,rfl⟩:=h
     exact .bm bT len (H.aq r j aI k) (jl rfl)
    ·simp at h
   ·rename_i r c sz ft _
    split at h
    ·rename_i j aI
     simp only [Option.some.injEq,Prod.mk.injEq] at h
     obtain ⟨rfl,rfl⟩:=h
     exact .iM ft (fun k=>H.aq r j aI _)
    ·simp at h
   ·simp at h
 | jW sz =>
  cases x<;>simp [lv] at h
  ·obtain ⟨rfl,rfl⟩:=h
   exact .eT sz
  ·obtain ⟨rfl,rfl⟩:=h
   exact .iL sz
 | e5 gk =>
  cases x<;>simp only [lv,reduceCtorEq] at h
  rename_i r k bT len
  split at h
  ·rename_i I ao
   split at h
   ·rename_i bf
    simp only [Bool.and_eq_true,Option.isNone_iff_eq_none] at bf
    simp only [Option.some.injEq,Prod.mk.injEq] at h
    obtain ⟨rfl,rfl⟩:=h
    have h1:gk=(I.es.drop bT).take len:=bo _ (by simp)
    have o:bT+len≤I.es.length:=bo _ (by simp)
    have ae:jF gk:=bo _ (by simp)
    have dR:s.ak r k=some I:=ao
    have hlen : ∀e∈I.es,e.length=I.sz:=by
     have fy:=ec.obj r k I dR
     cases ai:ay r k with
     | none=>rw [ai] at fy;simp only [jg] at fy;rw [fy];simp
     | some q=>rw [ai] at fy;obtain ⟨_,_,_,_,e,_⟩:=fy;exact e
    refine .isl dR bf.1 (H.a5 r bf.2 k I dR bf.1) o ae ?_ ?_ ?_
    ·rw [h1];exact fun e he=>hlen e (List.mem_of_mem_drop (List.mem_of_mem_take he))
    ·rw [h1];simp;omega
    ·intro j y lW a1 nE
     rw [h1] at nE
     rw [a1] at nE;simp at nE;subst nE
     rw [h1] at ae
     obtain ⟨e,he,Bx⟩:=rL a1
     exact .pure (ae e he y Bx) (bG.all _ bf.1 y)
   ·simp at h
  ·simp at h
 | jM =>
  simp only [lv,Option.some.injEq,Prod.mk.injEq] at h
  obtain ⟨rfl,rfl⟩:=h
  exact .dead x
 | cL y =>
  simp only [lv] at h
  split at h
  ·rename_i a5
   simp only [Option.some.injEq,Prod.mk.injEq] at h
   obtain ⟨rfl,rfl⟩:=h
   have e:x=y:=bo _ (by simp)
   subst e
   exact .pure (ar.xS a5) bc
  ·simp at h
 | len n =>
  cases x<;>simp only [lv,reduceCtorEq] at h
  rename_i r k bT len
  split at h
  ·rename_i j aI
   simp only [Option.some.injEq,Prod.mk.injEq] at h
   obtain ⟨rfl,rfl⟩:=h
   have e:len=n:=bo _ (by simp)
   subst e
   exact .bm bT len (H.aq r j aI k) (jl rfl)
  ·simp at h
 | at_ j i n =>
  cases x<;>simp only [lv,reduceCtorEq] at h
  ·rename_i r k x y
   simp only [Option.some.injEq,Prod.mk.injEq] at h
   obtain ⟨rfl,rfl⟩:=h
   exact .ref x y (bo _ (List.mem_cons_self)) (by cases ar<;>assumption)
  ·rename_i r k bT len
   simp only [Option.some.injEq,Prod.mk.injEq] at h
   obtain ⟨rfl,rfl⟩:=h
   have e:len=n:=bo _ (by simp)
   subst e
   exact .bm bT len (bo _ (List.mem_cons_self)) (jl rfl)
 | view dy I gk =>
  cases x<;>simp only [lv,reduceCtorEq] at h
  rename_i r k bT len
  split at h
  ·rename_i row ix dw abO
   split at h
   ·rename_i bf
    simp only [Bool.and_eq_true,Option.isNone_iff_eq_none] at bf
    simp only [Option.some.injEq,Prod.mk.injEq] at h
    obtain ⟨rfl,rfl⟩:=h
    have h1:db (some row) k=some I:=bo _ (by simp)
    have o:bY I.cm=true:=bo _ (by simp)
    have ae:bT+len≤I.es.length:=bo _ (by simp)
    have av:jF gk:=bo _ (by simp)
    have aA:Ca dy ix bY I.sz ((I.es.drop bT).take len) gk:=bo _ (by simp)
    have dR:s.ak r k=some I:=by unfold S.ak;rw [dw];exact h1
    obtain ⟨d1,d2,L9⟩:=aA
    refine .isl dR o (H.a5 r bf.1 k I dR o) ae av d2 (by rw [d1];simp;omega) fun j y lW a1 nE=> ?_
    rcases L9 j y lW a1 nE with ⟨rfl,a5⟩|⟨cd,RC,rfl,rfl⟩|⟨ll,Em,D4,p,Bz,e1,aC,bR,c9,rfl⟩
    ·obtain ⟨e,he,Bx⟩:=rL nE
     exact .pure (av e he lW Bx) (bG.all _ o _)
    ·exact .mI _ _ _
    ·have nB:s.ak dy ll=some p:=by unfold S.ak;rw [abO];exact e1
     have hlen : ∀e∈p.es,e.length=p.sz:=by
      have fy:=ec.obj dy ll p nB
      cases ai:ay dy ll with
      | none=>rw [ai] at fy;simp only [jg] at fy;rw [fy];simp
      | some q=>rw [ai] at fy;obtain ⟨_,_,_,_,e,_⟩:=fy;exact e
     have QQ:hD s a0 bY q (.bm dy ll Em D4) (.isl p.sz ((p.es.drop Em).take D4)):=by
      refine .isl nB aC (H.a5 dy bf.2 ll p nB aC) bR c9 (fun e he=>hlen e (List.mem_of_mem_drop (List.mem_of_mem_take he))) (by simp;omega) fun j z agk cw uW=> ?_
      rw [cw] at uW;simp at uW;subst uW
      obtain ⟨e,he,acX⟩:=rL cw
      exact .pure (c9 e he z acX) (bG.all _ aC _)
     rcases Bz with rfl|⟨dK,afD,i9,rfl,rfl,rfl⟩
     ·exact QQ
     ·exact .nu QQ
   ·simp at h
  ·simp at h
 | L4 sz =>
  simp only [lv] at h
  split at h
  ·simp only [Option.some.injEq,Prod.mk.injEq] at h
   obtain ⟨rfl,rfl⟩:=h
   exact .DW _
  ·split at h
   ·rename_i e;subst e
    simp only [Option.some.injEq,Prod.mk.injEq] at h
    obtain ⟨rfl,rfl⟩:=h
    exact .j1 (.pure (ar.xS rfl) bc)
   ·simp at h
  ·simp at h
theorem Aa (ec:h3 g s ay w)(H:mx s a0 b8 bY)(bG:sv q bY){l:List ss}{c dF:List aB}{ak:List Prop}(h:lx (lv s.aW b8 a0 bY) l c=some (dF,ak))(bo:∀p∈ak,p)
 (bc : ∀x∈c,q x) {vs:List Value} (aV:vs.length=c.length) (ar : ∀(j:Nat) x u,c[j]? = some x→vs[j]? = some u→Rel w (s.ok g ay w) s.a4 (s.bg ay) x u) :
 dF.length=c.length∧ ∀(j:Nat) x cH,c[j]? = some x→dF[j]? = some cH→hD s a0 bY q x cH:=by
 obtain ⟨e1,aC,bR⟩:=Ds _ l c dF ak h
 refine ⟨e1,fun j x cH R dE=> ?_⟩
 obtain ⟨y,b6,f1,f2,f3⟩:=bR j x cH R dE
 have dz:j<vs.length:=by have:=fB R;omega
 exact JS ec H bG f2 (fun p ai=>bo p (f3 p ai)) (bc x (List.mem_of_getElem? R)) (ar j x _ R (List.getElem?_eq_getElem dz))
theorem JT (ec:h3 g s ay w)(H:mx s a0 b8 bY)(bG:sv q bY){c:yH}{x cH:aB}{ak:List Prop}(h:nT s.aW b8 a0 bY c x=some (cH,ak))(bo:∀p∈ak,p)
 (bc:q x) {v:Value} (ar:Rel w (s.ok g ay w) s.a4 (s.bg ay) x v):hD s a0 bY q x cH:=by
 cases c with
 | dK c =>
  simp only [nT] at h
  split at h
  ·rename_i a5
   split at h
   ·simp only [Option.some.injEq,Prod.mk.injEq] at h
    obtain ⟨rfl,rfl⟩:=h
    exact .pure (ar.DX a5) bc
   ·simp only [Option.some.injEq,Prod.mk.injEq] at h
    obtain ⟨rfl,rfl⟩:=h
    exact .dead _
   ·simp only [Option.some.injEq,Prod.mk.injEq] at h
    obtain ⟨rfl,rfl⟩:=h
    have e:=bo _ (List.mem_singleton.2 rfl)
    subst e
    exact .pure (ar.DX a5) bc
   ·exact JS ec H bG h bo bc ar
  ·exact JS ec H bG h bo bc ar
 | agg l =>
  cases x<;>simp only [nT,reduceCtorEq] at h
  rename_i c
  split at h
  ·rename_i dF nh bf
   simp only [Option.some.injEq,Prod.mk.injEq] at h
   obtain ⟨rfl,rfl⟩:=h
   obtain ⟨vs,rfl,aV,-,BA⟩:=ar.Ak
   obtain ⟨e1,aC⟩:=Aa ec H bG bf bo (fun y a1=>bG.agg _ _ bc a1) aV BA
   exact .agg e1 aC
  ·simp at h
 | ptr l =>
  cases x<;>simp only [nT,reduceCtorEq] at h
  rename_i r k i off
  split at h
  ·rename_i I ao
   split at h
   ·rename_i c hp
    split at h
    ·rename_i bf
     simp only [Bool.and_eq_true,Option.isNone_iff_eq_none] at bf
     split at h
     ·rename_i dF nh iy
      simp only [Option.some.injEq,Prod.mk.injEq] at h
      obtain ⟨rfl,rfl⟩:=h
      have dR:s.ak r k=some I:=ao
      have fy:=ec.obj r k I dR
      cases ai:ay r k with
      | none=>rw [ai] at fy;simp only [jg] at fy;rw [hp] at fy;simp at fy
      | some q =>
       obtain ⟨b,m⟩:=q
       rw [ai] at fy
       obtain ⟨cj,eC,g1,g2,g3,g4⟩:=fy
       have KT:c.length=I.sz:=g3 c (by rw [hp];simp)
       have jJ:I.es.flatten=c:=by rw [hp];simp
       have hcs : ∀j:Nat,j<c.length→ ∃u,cj[j]? = some u∧Rel w (s.ok g ay w) s.a4 (s.bg ay) c[j]! u:=by
        intro j aI
        obtain ⟨u,ln,-,gM⟩:=g4 j c[j] (by rw [jJ];exact List.getElem?_eq_getElem aI)
        exact ⟨u,ln,by rw [getElem!_pos c j aI];exact gM⟩
       obtain ⟨e1,aC⟩:=Aa (vs:=(List.range c.length).map fun j=>(cj[j]?).getD undef) ec H bG iy (fun p ai=>bo p (by simp [ai])) (fun y _=>bG.all _ bf.1 y) (by simp) (by
        intro j y u a1 hu
        have aI:=fB a1
        rw [List.getElem?_map,List.getElem?_range aI] at hu
        simp only [Option.map_some,Option.some.injEq] at hu
        obtain ⟨pD,ln,gM⟩:=hcs j aI
        rw [ln] at hu;simp at hu;subst hu
        rw [List.getElem?_eq_getElem aI] at a1;simp at a1;subst a1
        rw [getElem!_pos c j aI] at gM;exact gM)
       have r5:jF [dF]:=bo _ (by simp)
       refine .dY i off dR bf.1 (H.a5 r bf.2 k I dR bf.1) (by rw [hp];simp) r5 (by simp;omega) (by rw [hp];rfl) ?_
       ·intro j y lW a1 nE
        rw [jJ] at a1
        simp only [List.flatten_cons,List.flatten_nil,List.append_nil] at nE
        exact aC j y lW a1 nE
     ·simp at h
    ·simp at h
   ·simp at h
  ·simp at h
 | KN l =>
  simp only [nT] at h
  split at h
  ·rename_i r k
   split at h
   ·rename_i I ao
    split at h
    ·rename_i c hp
     split at h
     ·rename_i bf
      simp only [Bool.and_eq_true,Option.isNone_iff_eq_none] at bf
      split at h
      ·rename_i dF nh iy
       simp only [Option.some.injEq,Prod.mk.injEq] at h
       obtain ⟨rfl,rfl⟩:=h
       have dR:s.ak r k=some I:=ao
       have fy:=ec.obj r k I dR
       cases ai:ay r k with
       | none=>rw [ai] at fy;simp only [jg] at fy;rw [hp] at fy;simp at fy
       | some q =>
        obtain ⟨b,m⟩:=q
        rw [ai] at fy
        obtain ⟨cj,eC,g1,g2,g3,g4⟩:=fy
        have KT:c.length=I.sz:=g3 c (by rw [hp];simp)
        have jJ:I.es.flatten=c:=by rw [hp];simp
        have hcs : ∀j:Nat,j<c.length→ ∃u,cj[j]? = some u∧Rel w (s.ok g ay w) s.a4 (s.bg ay) c[j]! u:=by
         intro j aI
         obtain ⟨u,ln,-,gM⟩:=g4 j c[j] (by rw [jJ];exact List.getElem?_eq_getElem aI)
         exact ⟨u,ln,by rw [getElem!_pos c j aI];exact gM⟩
        obtain ⟨e1,aC⟩:=Aa (vs:=(List.range c.length).map fun j=>(cj[j]?).getD undef) ec H bG iy (fun p ai=>bo p (by simp [ai])) (fun y _=>bG.all _ bf.1 y) (by simp) (by
         intro j y u a1 hu
         have aI:=fB a1
         rw [List.getElem?_map,List.getElem?_range aI] at hu
         simp only [Option.map_some,Option.some.injEq] at hu
         obtain ⟨pD,ln,gM⟩:=hcs j aI
         rw [ln] at hu;simp at hu;subst hu
         rw [List.getElem?_eq_getElem aI] at a1;simp at a1;subst a1
         rw [getElem!_pos c j aI] at gM;exact gM)
        have r5:jF [dF]:=bo _ (by simp)
        refine .j1 (.dY 0 0 dR bf.1 (H.a5 r bf.2 k I dR bf.1) (by rw [hp];simp) r5 (by simp;omega) (by rw [hp];rfl) ?_)
        ·intro j y lW a1 nE
         rw [jJ] at a1
         simp only [List.flatten_cons,List.flatten_nil,List.append_nil] at nE
         exact aC j y lW a1 nE
      ·simp at h
     ·simp at h
    ·simp at h
   ·simp at h
  ·simp at h
theorem Af (ec:h3 g s ay w)(H:mx s a0 b8 bY)(bG:sv q bY){c:lj}{x cH:aB}{ak:List Prop}(h:nq s.aW b8 a0 bY c x=some (cH,ak))(bo:∀p∈ak,p)
 (bc:q x) {v:Value} (ar:Rel w (s.ok g ay w) s.a4 (s.bg ay) x v):hD s a0 bY q x cH:=by
 have key : ∀(l:List yH) (c dF:List aB) (nh:List Prop) (vs:List Value),lx (nT s.aW b8 a0 bY) l c=some (dF,nh)→(∀p∈nh,p)→(∀x∈c,q x)→vs.length=c.length →
  (∀(j:Nat) x u,c[j]? = some x→vs[j]? = some u→Rel w (s.ok g ay w) s.a4 (s.bg ay) x u)→dF.length=c.length∧ ∀(j:Nat) x cH,c[j]? = some x→dF[j]? = some cH→hD s a0 bY q x cH:=by
  intro l c dF nh vs h bo bc aV ar
  obtain ⟨e1,aC,bR⟩:=Ds _ l c dF nh h
  refine ⟨e1,fun j x cH R dE=> ?_⟩
  obtain ⟨y,b6,f1,f2,f3⟩:=bR j x cH R dE
  have dz:j<vs.length:=by have:=fB R;omega
  exact JT ec H bG f2 (fun p ai=>bo p (f3 p ai)) (bc x (List.mem_of_getElem? R)) (ar j x _ R (List.getElem?_eq_getElem dz))
 cases c with
 | bw c =>
  simp only [nq] at h
  split at h
  ·rename_i a5
   split at h
   ·simp only [Option.some.injEq,Prod.mk.injEq] at h
    obtain ⟨rfl,rfl⟩:=h
    exact .pure (ar.abN a5) bc
   ·exact JT ec H bG h bo bc ar
  ·exact JT ec H bG h bo bc ar
 | comp l =>
  cases x<;>simp only [nq,reduceCtorEq] at h
  ·rename_i c
   split at h
   ·rename_i dF nh bf
    simp only [Option.some.injEq,Prod.mk.injEq] at h
    obtain ⟨rfl,rfl⟩:=h
    obtain ⟨vs,rfl,aV,BA⟩:=ar.xA
    obtain ⟨e1,aC⟩:=key l c dF nh vs bf bo (fun y a1=>bG.dZ _ _ bc a1) aV BA
    exact .dZ e1 aC
   ·simp at h
  ·rename_i f c
   split at h
   ·rename_i dF nh bf
    simp only [Option.some.injEq,Prod.mk.injEq] at h
    obtain ⟨rfl,rfl⟩:=h
    obtain ⟨vs,rfl,aV,BA⟩:=ar.DN
    obtain ⟨e1,aC⟩:=key l c dF nh vs bf bo (fun y a1=>bG.fn _ _ _ bc a1) aV BA
    exact .fn e1 aC
   ·simp at h
theorem QR (ec:h3 g s ay w)(H:mx s a0 b8 bY){r:Nat}{j7:Nat→Nat}{row:List ab}(dw:∀k I,db (some row) k=some I→s.ak r (j7 k)=some I)
 (bc : ∀k I,db (some row) k=some I→ ∀e∈I.es,∀x∈e,q x) :
 ∀(k:Nat) b6,db (some (row.map (gG b8))) k=some b6→ ∃I,db (some row) k=some I∧n3 s a0 bY q I b6:=by
 intro k b6 dR
 rw [kn,List.getElem?_map] at dR
 cases ba:row[k]? with
 | none=>rw [ba] at dR;simp at dR
 | some I =>
  rw [ba] at dR
  simp only [Option.map_some,Option.bind_some] at dR
  split at dR
  ·simp at dR
  ·rename_i dI
   simp only [Option.some.injEq] at dR
   subst dR
   have ao:db (some row) k=some I:=by rw [kn,ba,Option.bind_some,if_neg (by simpa [gG] using dI)]
   have bV:s.ak r (j7 k)=some I:=dw k I ao
   refine ⟨I,ao,?_⟩
   have fy:=ec.obj r (j7 k) I bV
   have hlen : ∀e∈I.es,e.length=I.sz:=by
    cases ai:ay r (j7 k) with
    | none=>rw [ai] at fy;simp only [jg] at fy;rw [fy];simp
    | some q=>rw [ai] at fy;obtain ⟨_,_,_,_,e,_⟩:=fy;exact e
   refine ⟨rfl,.inl rfl,by simp [gG],?_,fun j x cH R dE=> ?_⟩
   ·intro e he
    simp only [gG,List.mem_map] at he
    obtain ⟨eH,lQ,rfl⟩:=he
    simpa using hlen eH lQ
   ·simp only [gG] at dE
    rw [map_flatten,List.getElem?_map,R] at dE
    simp only [Option.map_some,Option.some.injEq] at dE
    subst dE
    obtain ⟨e,he,p8⟩:=rL R
    have acY:=bc k I ao e he x p8
    cases ai:ay r (j7 k) with
    | none=>rw [ai] at fy;simp only [jg] at fy;rw [fy] at R;simp at R
    | some su =>
     obtain ⟨b,m⟩:=su
     rw [ai] at fy
     obtain ⟨c,eC,f1,f2,f3,f4⟩:=fy
     obtain ⟨u,ln,nH,gM⟩:=f4 j x R
     cases x with
     | ref b5 ll o9 aci =>
      cases cb:b8 b5 with
      | none=>simp only [nD,cb];exact .dead _
      | some vh=>simp only [nD,cb];exact .ref o9 aci (H.aq _ _ cb _) (by cases gM<;>assumption)
     | bm b5 ll Em D4 =>
      cases cb:b8 b5 with
      | none=>simp only [nD,cb];exact .dead _
      | some vh=>simp only [nD,cb];exact .bm Em D4 (H.aq _ _ cb _) (by cases gM<;>assumption)
     | iM b5 cd RC o =>
      cases cb:b8 b5 with
      | none=>simp only [nD,cb];exact .dead _
      | some vh=>simp only [nD,cb];exact .iM o (fun k=>H.aq _ _ cb _)
     | _ =>
      simp only [nD]
      split
      ·rename_i a5;exact .pure (gM.xS a5) acY
      ·exact .dead _
theorem Dt (ec:h3 g s ay w)(H:mx s a0 b8 bY)(bG:sv q bY){c:iA}{r:Nat}{j7:Nat→Nat}{row dX:List ab}{ak:List Prop}(dw:∀k I,db (some row) k=some I→s.ak r (j7 k)=some I)
 (h:i2 s.aW b8 a0 bY c row=some (dX,ak)) (bo : ∀p∈ak,p) (bc : ∀k I,db (some row) k=some I→ ∀e∈I.es,∀x∈e,q x) :
 dX.length=row.length∧(∀k I,db (some row) k=some I→I.cm = .live) ∧
 ∀(k:Nat) b6,db (some dX) k=some b6→ ∃I,db (some row) k=some I∧n3 s a0 bY q I b6:=by
 have hlen : ∀k I,db (some row) k=some I→ ∀e∈I.es,e.length=I.sz:=by
  intro k I ao
  have dR:s.ak r (j7 k)=some I:=dw k I ao
  have fy:=ec.obj r (j7 k) I dR
  cases ai:ay r (j7 k) with
  | none=>rw [ai] at fy;simp only [jg] at fy;rw [fy];simp
  | some q=>rw [ai] at fy;obtain ⟨_,_,_,_,e,_⟩:=fy;exact e
 have r5:sR row→(∀k I,db (some row) k=some I→I.cm = .live) ∧
  ∀(k:Nat) b6,db (some row) k=some b6→ ∃I,db (some row) k=some I∧n3 s a0 bY q I b6:=by
  intro ai
  have rs : ∀k I,db (some row) k=some I→I∈row:=by
   intro k I ao
   unfold db at ao
   simp only at ao
   split at ao
   ·rename_i b6 dR
    split at ao
    ·simp at ao
    ·simp at ao;subst ao;exact List.mem_of_getElem? dR
   ·simp at ao
  refine ⟨fun k I ao=>(ai I (rs k I ao)).2,fun k I ao=>⟨I,ao,rfl,.inl rfl,rfl,hlen k I ao,fun j x cH R dE=> ?_⟩⟩
  rw [R] at dE;simp at dE;subst dE
  obtain ⟨e,he,p8⟩:=rL R
  exact .pure ((ai I (rs k I ao)).1 e he x p8) (bc k I ao e he x p8)
 cases c with
 | pure =>
  simp only [i2,Option.some.injEq,Prod.mk.injEq] at h
  obtain ⟨rfl,rfl⟩:=h
  exact ⟨rfl,r5 (bo _ (by simp))⟩
 | cL aG =>
  simp only [i2,Option.some.injEq,Prod.mk.injEq] at h
  obtain ⟨rfl,rfl⟩:=h
  have e:row=aG:=bo _ (by simp)
  subst e
  exact ⟨rfl,r5 (bo _ (by simp))⟩
 | bD aG =>
  simp only [i2,Option.some.injEq,Prod.mk.injEq] at h
  obtain ⟨rfl,rfl⟩:=h
  have e:aG=row.map (gG b8):=bo _ (by simp)
  have Lm:ly row:=bo _ (by simp)
  subst e
  refine ⟨by simp,fun k I ao=>by
   unfold db at ao
   simp only at ao
   split at ao
   ·rename_i b6 dR
    split at ao
    ·simp at ao
    ·rename_i dI
     simp at ao;subst ao
     exact (Lm _ (List.mem_of_getElem? dR)).resolve_right dI
   ·simp at ao,QR ec H dw bc⟩
 | rx aG=>cases row with
  | nil=>simp [i2] at h
  | cons I l=>cases l<;>simp [i2] at h
 | drop=>cases row with
  | nil=>simp [i2] at h
  | cons I l=>cases l<;>simp [i2] at h
 | box l =>
  match row,h with
  | [I],h =>
   simp only [i2] at h
   split at h
   ·rename_i c hp
    split at h
    ·rename_i nA
     split at h
     ·rename_i dF nh bf
      simp only [Option.some.injEq,Prod.mk.injEq] at h
      obtain ⟨rfl,rfl⟩:=h
      have h0:db (some [I]) 0=some I:=by rw [l0];simp [nA]
      refine ⟨rfl,fun k p ai=> ?_,fun k p ai=> ?_⟩
      ·rw [l0] at ai
       split at ai
       ·simp at ai;subst ai;exact nA
       ·simp at ai
      ·rw [l0] at ai
       split at ai
       ·rename_i sl
        obtain ⟨rfl,-⟩:=sl
        simp only [Option.some.injEq] at ai;subst ai
        refine ⟨I,h0,?_⟩
        have dR:s.ak r (j7 0)=some I:=dw 0 I h0
        have fy:=ec.obj r (j7 0) I dR
        cases kp:ay r (j7 0) with
        | none=>rw [kp] at fy;simp only [jg] at fy;rw [hp] at fy;simp at fy
        | some q =>
         obtain ⟨b,m⟩:=q
         rw [kp] at fy
         obtain ⟨cj,eC,g1,g2,g3,g4⟩:=fy
         have KT:c.length=I.sz:=g3 c (by rw [hp];simp)
         have jJ:I.es.flatten=c:=by rw [hp];simp
         obtain ⟨e1,aC⟩:=Aa (vs:=(List.range c.length).map fun j=>(cj[j]?).getD undef) ec H bG bf bo (fun y a1=>bc 0 I h0 c (by rw [hp];simp) y a1) (by simp) (by
          intro j y u a1 hu
          have aI:=fB a1
          rw [List.getElem?_map,List.getElem?_range aI] at hu
          simp only [Option.map_some,Option.some.injEq] at hu
          obtain ⟨pD,ln,-,gM⟩:=g4 j y (by rw [jJ];exact a1)
          rw [ln] at hu;simp at hu;subst hu
          exact gM)
         refine ⟨rfl,.inl rfl,by simp [hp],by simp;omega,fun j x cH R dE=> ?_⟩
         rw [jJ] at R
         simp only [List.flatten_cons,List.flatten_nil,List.append_nil] at dE
         exact aC j x cH R dE
       ·simp at ai
     ·simp at h
    ·simp at h
   ·simp at h
  | [],h=>simp [i2] at h
  | _::_::_,h=>simp [i2] at h
end
end Go.VL
namespace Go.VL
set_option linter.unusedVariables false
set_option linter.unusedSimpArgs false
open Go
def Du (P:Program)(f:FuncId):Prop:= ∃fn,P.funcs[f]? = some fn∧(fn.name == "runtime.NumGoroutine")=false∧fn.body.isSome=true
def Con (P:Program)(f:FuncId)(args:List aB)(T:List (List ab))(r:aB)(iq:List (List ab)):Prop:=Du P f∧abK P f args T r iq
def r6 (k:f9):Bool:=k = .iT
def i3 (_:f9):Bool:=true
def kK (_:f9):Bool:=false
def Src.r:Src→Nat
 | .row r=>r
 | .ak r _ _=>r
def Src.has:Src→Nat→Nat→Prop
 | .row r,q,_=>q=r
 | .ak r k _,q,ea=>q=r∧ea=k
def Src.mw:Src→Nat→Nat
 | .row _,k=>k
 | .ak ..,_=>0
def ld (l:List Src):gC:=fun j i=>match l[j]? with
 | some (.row r)=>some (r,i)
 | some (.ak r k _)=>if i=0 then some (r,k) else none
 | none=>none
def oG (n:Nat):List Src→Nat→Option Nat
 | [],_=>none
 | .row r::l,q=>if r=q then some n else oG (n+1) l q
 | .ak .. :: l,q=>oG (n+1) l q
def jm (n:Nat):List Src→gC
 | [],_,_=>none
 | .row r::l,q,k=>if q=r then some (n,k) else jm (n+1) l q k
 | .ak r ea _::l,q,k=>if q=r∧k=ea then some (n,0) else jm (n+1) l q k
def r7 (l:List Src):Nat→Option Nat:=fun j=>match l[j]? with
 | some (.row r)=>some r
 | _=>none
def apart:Src→Src→Option (List Prop)
 | .ak r k _,.ak eD ea _=>if r=eD then some [k≠ea] else some []
 | a,b=>if a.r=b.r then none else some []
def DP (a:Src):List Src→Option (List Prop)
 | []=>some []
 | b::l=>match apart a b,DP a l with
  | some x,some y=>some (x++y)
  | _,_=>none
def DY:List Src→Option (List Prop)
 | []=>some []
 | a::l=>match DP a l,DY l with
  | some x,some y=>some (x++y)
  | _,_=>none
def Bc (l:List Src):Prop:=l.Pairwise fun a b=> ∀r k,¬(a.has r k∧b.has r k)
theorem ZT {a b:Src}{ak:List Prop}(h:apart a b=some ak)(bo:∀p∈ak,p): ∀r k,¬(a.has r k∧b.has r k):=by
 rintro r k ⟨h1,o⟩
 have ar : ∀c:Src,c.has r k→c.r=r:=fun c bf=>by
  cases c with
  | row r0=>exact Eq.symm bf
  | ak r0 i9 lo=>exact Eq.symm bf.1
 have e:=(ar a h1).trans (ar b o).symm
 cases a with
 | row r0=>simp only [apart] at h;rw [if_pos e] at h;simp at h
 | ak r0 i9 lo =>
  cases b with
  | row r1=>simp only [apart] at h;rw [if_pos e] at h;simp at h
  | ak r1 mW ah =>
   simp only [apart] at h
   rw [if_pos (show r0=r1 from e)] at h
   simp only [Option.some.injEq] at h
   subst h
   exact bo _ (List.mem_singleton.2 rfl) (h1.2.symm.trans o.2)
theorem OV {a:Src}: ∀ {l:List Src} {ak:List Prop},DP a l=some ak→(∀p∈ak,p)→ ∀b∈l,∀r k,¬(a.has r k∧b.has r k)
 | [],_,_,_,_,aS=>by simp at aS
 | b::l,ak,h,bo,c,bf=>by
  simp only [DP] at h
  split at h
  ·rename_i x y h1 o
   simp only [Option.some.injEq] at h;subst h
   rcases List.mem_cons.1 bf with rfl|bf
   ·exact ZT h1 fun p ai=>bo p (by simp [ai])
   ·exact OV o (fun p ai=>bo p (by simp [ai])) c bf
  ·simp at h
theorem Pn : ∀ {l:List Src} {ak:List Prop},DY l=some ak→(∀p∈ak,p)→Bc l
 | [],_,_,_=>List.Pairwise.nil
 | a::l,ak,h,bo=>by
  simp only [DY] at h
  split at h
  ·rename_i x y h1 o
   simp only [Option.some.injEq] at h;subst h
   exact List.pairwise_cons.2 ⟨OV h1 fun p ai=>bo p (by simp [ai]),Pn o fun p ai=>bo p (by simp [ai])⟩
  ·simp at h
theorem sT {l:List Src}{j i r k:Nat}:ld l j i=some (r,k)↔ ∃a,l[j]? = some a∧a.has r k∧i=a.mw k:=by
 unfold ld
 cases h:l[j]? with
 | none=>simp
 | some a =>
  cases a with
  | row r0 =>
   simp only [Option.some.injEq,Prod.mk.injEq,exists_eq_left',Src.has,Src.mw]
   constructor<;>rintro ⟨a,b⟩<;>exact ⟨a.symm,b⟩
  | ak r0 i9 I =>
   simp only [Option.some.injEq,exists_eq_left',Src.has,Src.mw]
   by_cases e:i=0
   ·rw [if_pos e];simp only [Option.some.injEq,Prod.mk.injEq,e,and_true];constructor<;>rintro ⟨a,b⟩<;>exact ⟨a.symm,b.symm⟩
   ·rw [if_neg e];simp [e]
theorem us : ∀ {l:List Src} {n r k j i:Nat},jm n l r k=some (j,i)→ ∃a,n≤j∧l[j-n]? = some a∧a.has r k∧i=a.mw k
 | [],_,_,_,_,_,h=>by simp [jm] at h
 | .row r0::l,n,r,k,j,i,h=>by
  simp only [jm] at h
  split at h
  ·rename_i e
   simp only [Option.some.injEq,Prod.mk.injEq] at h
   obtain ⟨rfl,rfl⟩:=h
   exact ⟨.row r0,Nat.le_refl _,by simp,e,rfl⟩
  ·obtain ⟨a,h1,o,ae,av⟩:=us h
   exact ⟨a,by omega,by rw [show j-n=(j-(n+1))+1 by omega,List.getElem?_cons_succ];exact o,ae,av⟩
 | .ak r0 i9 I::l,n,r,k,j,i,h=>by
  simp only [jm] at h
  split at h
  ·rename_i e
   simp only [Option.some.injEq,Prod.mk.injEq] at h
   obtain ⟨rfl,rfl⟩:=h
   exact ⟨.ak r0 i9 I,Nat.le_refl _,by simp,e,rfl⟩
  ·obtain ⟨a,h1,o,ae,av⟩:=us h
   exact ⟨a,by omega,by rw [show j-n=(j-(n+1))+1 by omega,List.getElem?_cons_succ];exact o,ae,av⟩
theorem ri (n:Nat)(a:Src)(l:List Src)(r k:Nat)(h:¬a.has r k):jm n (a::l) r k=jm (n+1) l r k:=by
 cases a<;>simp only [jm,Src.has] at h ⊢ <;> rw [if_neg h]
theorem ZU (n:Nat)(a:Src)(l:List Src)(r k:Nat)(h:a.has r k):jm n (a::l) r k=some (n,a.mw k):=by
 cases a<;>simp only [jm,Src.has,Src.mw] at h ⊢ <;> rw [if_pos h]
theorem Aw : ∀ {l:List Src} {n r k j:Nat} {a:Src},Bc l→l[j]? = some a→a.has r k→jm n l r k=some (n+j,a.mw k)
 | b::l,n,r,k,0,a,_,h,bE=>by
  simp at h;subst h
  exact ZU n b l r k bE
 | b::l,n,r,k,j+1,a,bG,h,bE=>by
  simp at h
  have bG:=List.pairwise_cons.1 bG
  rw [ri n b l r k fun aS=>bG.1 a (List.mem_of_getElem? h) r k ⟨aS,bE⟩,Aw (j:=j) bG.2 h bE]
  congr 2;omega
theorem abe {a:Src}{r k eD ea:Nat}(h:a.has r k)(cD:a.has eD ea)(e:a.mw k=a.mw ea):r=eD∧k=ea:=by
 cases a<;>simp only [Src.has,Src.mw] at h cD e<;>omega
theorem aaG {l:List Src}{n r k eD ea:Nat}{p:Nat×Nat}(h:jm n l r k=some p)(cD:jm n l eD ea=some p):r=eD∧k=ea:=by
 obtain ⟨j,i⟩:=p
 obtain ⟨a,h1,o,ae,av⟩:=us h
 obtain ⟨dC,p7,Ln,acZ,afE⟩:=us cD
 rw [o] at Ln;simp at Ln;subst Ln
 exact abe ae acZ (by omega)
theorem JH : ∀ {l:List Src} {n r j:Nat},oG n l r=some j→n≤j∧l[j-n]? = some (.row r)
 | [],_,_,_,h=>by simp [oG] at h
 | .row r0::l,n,r,j,h=>by
  simp only [oG] at h
  split at h
  ·rename_i e;simp at h;subst h;subst e;exact ⟨Nat.le_refl _,by simp⟩
  ·obtain ⟨h1,o⟩:=JH h
   exact ⟨by omega,by rw [show j-n=(j-(n+1))+1 by omega,List.getElem?_cons_succ];exact o⟩
 | .ak r0 i9 I::l,n,r,j,h=>by
  simp only [oG] at h
  obtain ⟨h1,o⟩:=JH h
  exact ⟨by omega,by rw [show j-n=(j-(n+1))+1 by omega,List.getElem?_cons_succ];exact o⟩
theorem OW : ∀ {l:List Src} {n r:Nat},oG n l r=none→Src.row r ∉ l
 | [],_,_,_=>by simp
 | .row r0::l,n,r,h=>by
  simp only [oG] at h
  split at h
  ·simp at h
  ·rename_i e
   simp only [List.mem_cons,Src.row.injEq,not_or]
   exact ⟨fun h=>e h.symm,OW h⟩
 | .ak r0 i9 I::l,n,r,h=>by
  simp only [oG] at h
  simp only [List.mem_cons,reduceCtorEq,false_or]
  exact OW h
def l3 (aW:Nat→Option (List ab))(b8:Nat→Option Nat)(a0:gC):List Src→List iA→Option (List (List ab)×List Prop)
 | [],[]=>some ([],[])
 | .row r::l,c::dp=>match aW r with
  | some row=>match i2 aW b8 a0 r6 c row,l3 aW b8 a0 l dp with
   | some (dX,ah),some (T,aQ)=>some (dX::T,ah++aQ)
   | _,_=>none
  | none=>none
 | .ak r k I::l,c::dp=>match aW r with
  | some row=>match i2 aW b8 a0 r6 c [I],l3 aW b8 a0 l dp with
   | some (dX,ah),some (T,aQ)=>some (dX::T,(db (some row) k=some I)::(ah++aQ))
   | _,_=>none
  | none=>none
 | _,_=>none
def kR (vi:Nat→Option (List ab))(b8:Nat→Option Nat)(kE:gC):(Nat→Option (List ab))→List Src→List iA→List (List ab)→Option (List (Nat×List ab)×List Prop)
 | _,[],[],[]=>some ([],[])
 | aW,.row q::l,c::dp,row::T=>match i2 vi b8 kE kK c row with
  | some (dX,ah)=>match kR vi b8 kE (fun x=>if x=q then some dX else aW x) l dp T with
   | some (u,aQ)=>some ((q,dX)::u,ah++aQ)
   | none=>none
  | none=>none
 | aW,.ak q k _::l,c::dp,row::T=>match aW q with
  | some lA=>match i2 vi b8 kE kK c row with
   | some ([b6],ah)=>match kR vi b8 kE (fun x=>if x=q then some (lA.set k b6) else aW x) l dp T with
    | some (u,aQ)=>some ((q,lA.set k b6)::u,ah++aQ)
    | none=>none
   | _=>none
  | none=>none
 | _,_,_,_=>none
def n4 (T:List (List ab)):Prop:= ∀row∈T,∀I∈row,∀e∈I.es,∀x∈e,b9 x
def xT (P:Program)(aW:Nat→Option (List ab))(aU:Nat)(f:FuncId)(args:List aB)(cj:B5):Option h4 :=
 let l:=if cj.fw.length=cj.a0.length then cj.a0 else cj.a0++[.row aU]
 match DY cj.a0 with
 | none=>none
 | some lo =>
  if cj.a0.any (fun a=>decide (a.r=aU)) then none else
  if cj.fE then
   match cj.a0 with
   | [] =>
    match lx (nq aW (fun _=>none) (ld []) i3) cj.ac args,nq (fun j=>cj.fw[j]?) (r7 l) (jm 0 l) kK cj.h6 cj.r,
     kR (fun j=>cj.fw[j]?) (r7 l) (jm 0 l) aW l cj.ke cj.fw with
    | some (pY,ah),some (eD,fF),some (u,eR)=>some {val:=eD,fL:=u,fv:=ah++fF++eR++[Con P f pY [] cj.r cj.fw,b9 cj.r]++(if cj.fw.isEmpty then [] else [n4 cj.fw])}
    | _,_,_=>none
   | _=>none
  else
   match lx (nq aW (oG 0 cj.a0) (ld cj.a0) r6) cj.ac args,l3 aW (oG 0 cj.a0) (ld cj.a0) cj.a0 cj.dp,
    nq (fun j=>cj.fw[j]?) (r7 l) (jm 0 l) kK cj.h6 cj.r,kR (fun j=>cj.fw[j]?) (r7 l) (jm 0 l) aW l cj.ke cj.fw with
   | some (pY,ah),some (T,aQ),some (eD,fF),some (u,eR) =>
    some {val:=eD,fL:=u,fv:=lo++ah++aQ++fF++eR++[Con P f pY T cj.r cj.fw]}
   | _,_,_,_=>none
theorem Ow {aW:Nat→Option (List ab)}{b8:Nat→Option Nat}{a0:gC}{bY:f9→Bool}{c:iA}{row dX:List ab}{ak:List Prop}(h:i2 aW b8 a0 bY c row=some (dX,ak))(bo:∀p∈ak,p):
 ∀k I,db (some row) k=some I→I.cm = .live:=by
 have rs : ∀k I,db (some row) k=some I→I∈row∧I.cm≠ .gone:=by
  intro k I ao
  rw [kn] at ao
  cases ba:row[k]? with
  | none=>rw [ba] at ao;simp at ao
  | some p =>
   rw [ba,Option.bind_some] at ao
   split at ao
   ·simp at ao
   ·rename_i e;simp at ao;subst ao;exact ⟨List.mem_of_getElem? ba,e⟩
 intro k I ao
 obtain ⟨h1,o⟩:=rs k I ao
 cases c with
 | pure =>
  simp only [i2,Option.some.injEq,Prod.mk.injEq] at h
  obtain ⟨rfl,rfl⟩:=h
  exact ((bo _ (List.mem_singleton.2 rfl):sR row) I h1).2
 | cL aG =>
  simp only [i2,Option.some.injEq,Prod.mk.injEq] at h
  obtain ⟨rfl,rfl⟩:=h
  have e:row=aG:=bo _ (by simp)
  have ai:sR aG:=bo _ (by simp)
  exact (ai I (e▸h1)).2
 | bD aG =>
  simp only [i2,Option.some.injEq,Prod.mk.injEq] at h
  obtain ⟨rfl,rfl⟩:=h
  have ai:ly row:=bo _ (by simp)
  exact (ai I h1).resolve_right o
 | rx aG=>cases row with
  | nil=>simp [i2] at h
  | cons I l=>cases l<;>simp [i2] at h
 | drop=>cases row with
  | nil=>simp [i2] at h
  | cons I l=>cases l<;>simp [i2] at h
 | box l =>
  match row,h,h1 with
  | [p],h,h1 =>
   simp only [i2] at h
   rw [List.mem_singleton] at h1;subst h1
   split at h
   ·split at h
    ·rename_i e;exact e
    ·simp at h
   ·simp at h
  | [],h,_=>simp [i2] at h
  | _::_::_,h,_=>simp [i2] at h
section
variable {P:Program} {g:G} {s:S} {ay:fm} {a:Act} {w:World}
theorem JI (ec:h3 g s ay w){a0:gC}{b8:Nat→Option Nat}(H:mx s a0 b8 r6): ∀(l:List Src) (dp:List iA) (T:List (List ab)) (ak:List Prop),
 l3 s.aW b8 a0 l dp=some (T,ak)→(∀p∈ak,p)→T.length=l.length∧ ∀(j:Nat) dX b,T[j]? = some dX→l[j]? = some b →
  (∀r k I,b.has r k→s.ak r k=some I→I.cm = .live)∧(∀r k,b.has r k→s.a4 r k→b.mw k<dX.length) ∧
  (∀r k I,b = .ak r k I→s.ak r k=some I) ∧
  ∀(i:Nat) b6,db (some dX) i=some b6→ ∃r k I,b.has r k∧i=b.mw k∧s.ak r k=some I∧n3 s a0 r6 lU I b6
 | [],[],T,ak,h,_=>by
  simp [l3] at h;obtain ⟨rfl,rfl⟩:=h
  exact ⟨rfl,fun j dX r aI=>by simp at aI⟩
 | .row r::l,c::dp,T,ak,h,bo=>by
  simp only [l3] at h
  split at h
  ·rename_i row dw
   split at h
   ·rename_i ap ah mX aQ h1 o
    simp only [Option.some.injEq,Prod.mk.injEq] at h
    obtain ⟨rfl,rfl⟩:=h
    obtain ⟨e1,aC⟩:=JI ec H l dp mX aQ o (fun p ai=>bo p (by simp [ai]))
    have kc : ∀k,s.ak r k=db (some row) k:=fun k=>by unfold S.ak;rw [dw]
    obtain ⟨f0,f1,f2⟩:=Dt (q:=lU) (j7:=id) ec H (ti _) (fun k I ao=>(kc k).trans ao) h1 (fun p ai=>bo p (by simp [ai])) (fun _ _ _ _ _ _ _=>trivial)
    refine ⟨by simp [e1],fun j dX b aI aS=> ?_⟩
    cases j with
    | zero =>
     simp at aI aS;subst aI;subst aS
     refine ⟨fun q k I bc ao=> ?_,fun q k bc hu=> ?_,fun _ _ _ e=>by simp at e,fun i b6 dR=> ?_⟩
     ·have bc:q=r:=bc
      subst bc;rw [kc] at ao;exact f1 k I ao
     ·have bc:q=r:=bc
      subst bc;rw [f0];simpa [S.a4,dw,Src.mw] using hu
     ·obtain ⟨I,g1,g2⟩:=f2 i b6 dR
      exact ⟨r,i,I,rfl,rfl,(kc i).trans g1,g2⟩
    | succ j=>simp at aI aS;exact aC j dX b aI aS
   ·simp at h
  ·simp at h
 | .ak r i9 lo::l,c::dp,T,ak,h,bo=>by
  simp only [l3] at h
  split at h
  ·rename_i row dw
   split at h
   ·rename_i ap ah mX aQ h1 o
    simp only [Option.some.injEq,Prod.mk.injEq] at h
    obtain ⟨rfl,rfl⟩:=h
    obtain ⟨e1,aC⟩:=JI ec H l dp mX aQ o (fun p ai=>bo p (by simp [ai]))
    have ao:s.ak r i9=some lo:=by unfold S.ak;rw [dw];exact bo _ (by simp)
    have lN : ∀k I,db (some [lo]) k=some I→k=0∧I=lo:=fun k I ba=>by
     rw [l0] at ba;split at ba
     ·rename_i e;simp at ba;exact ⟨e.1,ba.symm⟩
     ·simp at ba
    have Lo:lo.cm≠ .gone:=by
     unfold S.ak at ao;rw [dw,kn] at ao
     cases ba:row[i9]? with
     | none=>rw [ba] at ao;simp at ao
     | some p =>
      rw [ba,Option.bind_some] at ao;split at ao
      ·simp at ao
      ·rename_i e;simp at ao;subst ao;exact e
    obtain ⟨f0,f1,f2⟩:=Dt (q:=lU) (j7:=fun _=>i9) (r:=r) ec H (ti _) (fun k I ba=>by rw [(lN k I ba).2];exact ao) h1 (fun p ai=>bo p (by simp [ai])) (fun _ _ _ _ _ _ _=>trivial)
    refine ⟨by simp [e1],fun j dX b aI aS=> ?_⟩
    cases j with
    | zero =>
     simp at aI aS;subst aI;subst aS
     refine ⟨fun q k I bc pt=> ?_,fun q k bc hu=> ?_,fun eD ea b6 e=> ?_,fun i b6 dR=> ?_⟩
     ·obtain ⟨rfl,rfl⟩:q=r∧k=i9:=bc
      rw [ao] at pt;simp at pt;subst pt
      exact f1 0 lo (by rw [l0];simp [Lo])
     ·rw [f0];simp [Src.mw]
     ·cases e;exact ao
     ·obtain ⟨I,g1,g2⟩:=f2 i b6 dR
      obtain ⟨rfl,rfl⟩:=lN i I g1
      exact ⟨r,i9,I,⟨rfl,rfl⟩,rfl,ao,g2⟩
    | succ j=>simp at aI aS;exact aC j dX b aI aS
   ·simp at h
  ·simp at h
 | [],_::_,_,_,h,_=>by simp [l3] at h
 | .row _::_,[],_,_,h,_=>by simp [l3] at h
 | .ak .. :: _,[],_,_,h,_=>by simp [l3] at h
theorem Jz {fX:G}{s1:S}{kN:fm}{bL:World}(ec:h3 fX s1 kN bL){kE:gC}{q:aB→Prop}{b8:Nat→Option Nat}(H:mx s1 kE b8 kK)(bG:sv q kK)
 (bc : ∀j i I,s1.ak j i=some I→ ∀e∈I.es,∀x∈e,q x) :
 ∀(l:List Src) (dp:List iA) (T:List (List ab)) (u:List (Nat×List ab)) (ak:List Prop) (n:Nat) (s:S),Bc l→(∀j row,T[j]? = some row→s1.aW (n+j)=some row) →
 (∀r k j i,jm n l r k=some (j,i)→s.a4 r k→s1.a4 j i)→(∀r k I,Src.ak r k I∈l→s.a4 r k) →
 kR s1.aW b8 kE s.aW l dp T=some (u,ak)→(∀p∈ak,p)→T.length=l.length∧(s.hU u).E=s.E ∧
  (∀r k I,(s.hU u).ak r k=some I→(∃j i p,jm n l r k=some (j,i)∧s1.ak j i=some p∧n3 s1 kE kK q p I)∨(jm n l r k=none∧s.ak r k=some I)) ∧
  (∀r k,s.a4 r k→(s.hU u).a4 r k)∧(∀r k j i,jm n l r k=some (j,i)→s1.a4 j i→(s.hU u).a4 r k)
 | [],[],[],u,ak,n,s,_,_,_,_,h,_=>by
  simp [kR] at h;obtain ⟨rfl,rfl⟩:=h
  exact ⟨rfl,rfl,fun r k I ao=> .inr ⟨rfl,ao⟩,fun r k h=>h,fun r k j i h=>by simp [jm] at h⟩
 | .row q0::l,c::dp,row::T,u,ak,n,s,rC,iP,hu,qO,h,bo=>by
  simp only [kR] at h
  split at h
  ·rename_i dX ah h1
   split at h
   ·rename_i nH aQ o
    simp only [Option.some.injEq,Prod.mk.injEq] at h
    obtain ⟨rfl,rfl⟩:=h
    have BB:=List.pairwise_cons.1 rC
    have hX:s1.aW n=some row:=iP 0 row rfl
    have uP : ∀k,s1.ak n k=db (some row) k:=fun k=>by unfold S.ak;rw [hX]
    obtain ⟨f0,f1,f2⟩:=Dt (q:=q) (j7:=id) (r:=n) ec H bG (fun k I ao=>(uP k).trans ao) h1 (fun p ai=>bo p (by simp [ai])) (fun k I ao=>bc n k I ((uP k).trans ao))
    have jz : ∀k j i,jm (n+1) l q0 k≠some (j,i):=fun k j i hm=>by
     obtain ⟨b,ik,hf,qf,Ma⟩:=us hm
     exact BB.1 b (List.mem_of_getElem? hf) q0 k ⟨rfl,qf⟩
    have x5 : ∀r k,s.a4 r k→(s.setRow q0 dX).a4 r k:=fun r k ba=>by
     rw [m4]
     by_cases e:r=q0
     ·subst e;rw [if_pos rfl,f0]
      have:=hu r k n k (by simp [jm]) ba
      simpa [S.a4,hX] using this
     ·rw [if_neg e];exact ba
    obtain ⟨e1,aC,bR,c9,dn⟩:=Jz ec H bG bc l dp T nH aQ (n+1) (s.setRow q0 dX) BB.2 (fun j row aI=>by rw [Nat.add_assoc,Nat.add_comm 1 j];exact iP (j+1) row (by simpa using aI))
     (fun r k j i hm ba=>by
       have dr:r≠q0:=by rintro rfl;exact jz _ _ _ hm
       refine hu r k j i ?_ (by rw [m4,if_neg dr] at ba;exact ba)
       rw [ri n (.row q0) l r k dr];exact hm)
     (fun r k I hm=>x5 r k (qO r k I (by simp [hm]))) o (fun p ai=>bo p (by simp [ai]))
    refine ⟨by simp [e1],aC,fun r k I ao=> ?_,fun r k ba=>c9 r k (x5 r k ba),fun r k j i hm ba=> ?_⟩
    ·rcases bR r k I ao with ⟨j,i,p,ik,hf,qf⟩|⟨ik,hf⟩
     ·have dr:r≠q0:=by rintro rfl;exact jz _ _ _ ik
      exact .inl ⟨j,i,p,by rw [ri n (.row q0) l r k dr];exact ik,hf,qf⟩
     ·rw [lr] at hf
      by_cases e:r=q0
      ·subst e
       rw [if_pos rfl] at hf
       obtain ⟨p,g1,g2⟩:=f2 k I hf
       exact .inl ⟨n,k,p,by simp [jm],(uP k).trans g1,g2⟩
      ·rw [if_neg e] at hf
       exact .inr ⟨by rw [ri n (.row q0) l r k e];exact ik,hf⟩
    ·by_cases e:r=q0
     ·subst e
      simp only [jm,if_true] at hm
      simp only [Option.some.injEq,Prod.mk.injEq] at hm
      obtain ⟨rfl,rfl⟩:=hm
      refine c9 r k ?_
      rw [m4,if_pos rfl,f0]
      simpa [S.a4,hX] using ba
     ·rw [ri n (.row q0) l r k e] at hm
      exact dn r k j i hm ba
   ·simp at h
  ·simp at h
 | .ak q0 i9 lo::l,c::dp,row::T,u,ak,n,s,rC,iP,hu,qO,h,bo=>by
  simp only [kR] at h
  split at h
  ·rename_i lA D5
   split at h
   ·rename_i b6 ah h1
    split at h
    ·rename_i nH aQ o
     simp only [Option.some.injEq,Prod.mk.injEq] at h
     obtain ⟨rfl,rfl⟩:=h
     have BB:=List.pairwise_cons.1 rC
     have hX:s1.aW n=some row:=iP 0 row rfl
     have uP : ∀k,s1.ak n k=db (some row) k:=fun k=>by unfold S.ak;rw [hX]
     obtain ⟨f0,f1,f2⟩:=Dt (q:=q) (j7:=id) (r:=n) ec H bG (fun k I ao=>(uP k).trans ao) h1 (fun p ai=>bo p (by simp [ai])) (fun k I ao=>bc n k I ((uP k).trans ao))
     have jz : ∀j i,jm (n+1) l q0 i9≠some (j,i):=fun j i hm=>by
      obtain ⟨b,ik,hf,qf,Ma⟩:=us hm
      exact BB.1 b (List.mem_of_getElem? hf) q0 i9 ⟨⟨rfl,rfl⟩,qf⟩
     have x5 : ∀r k,s.a4 r k→(s.setRow q0 (lA.set i9 b6)).a4 r k:=C4 s D5 (by simp)
     have sl:i9<lA.length:=by have:=qO q0 i9 lo (by simp);simpa [S.a4,D5] using this
     obtain ⟨e1,aC,bR,c9,dn⟩:=Jz ec H bG bc l dp T nH aQ (n+1) (s.setRow q0 (lA.set i9 b6)) BB.2 (fun j row aI=>by rw [Nat.add_assoc,Nat.add_comm 1 j];exact iP (j+1) row (by simpa using aI))
      (fun r k j i hm ba=>by
        have dr : ¬(Src.ak q0 i9 lo).has r k:=by rintro ⟨rfl,rfl⟩;exact jz _ _ hm
        refine hu r k j i (by rw [ri n _ l r k dr];exact hm) ?_
        rw [m4] at ba
        split at ba
        ·rename_i e;subst e;simpa [S.a4,D5] using ba
        ·exact ba)
      (fun r k I hm=>x5 r k (qO r k I (by simp [hm]))) o (fun p ai=>bo p (by simp [ai]))
     refine ⟨by simp [e1],aC,fun r k I ao=> ?_,fun r k ba=>c9 r k (x5 r k ba),fun r k j i hm ba=> ?_⟩
     ·rcases bR r k I ao with ⟨j,i,p,ik,hf,qf⟩|⟨ik,hf⟩
      ·have dr : ¬(Src.ak q0 i9 lo).has r k:=by rintro ⟨rfl,rfl⟩;exact jz _ _ ik
       exact .inl ⟨j,i,p,by rw [ri n _ l r k dr];exact ik,hf,qf⟩
      ·rw [lr] at hf
       by_cases e:r=q0
       ·subst e
        rw [if_pos rfl,kn,List.getElem?_set] at hf
        by_cases aC:i9=k
        ·subst aC
         rw [if_pos rfl,if_pos sl,Option.bind_some] at hf
         have qf:db (some [b6]) 0=some I:=by rw [kn];exact hf
         obtain ⟨p,g1,g2⟩:=f2 0 I qf
         exact .inl ⟨n,0,p,by simp [jm],(uP 0).trans g1,g2⟩
        ·rw [if_neg aC] at hf
         have dr : ¬(Src.ak r i9 lo).has r k:=by rintro ⟨-,rfl⟩;exact aC rfl
         exact .inr ⟨by rw [ri n _ l r k dr];exact ik,by unfold S.ak;rw [D5,kn];exact hf⟩
       ·rw [if_neg e] at hf
        have dr : ¬(Src.ak q0 i9 lo).has r k:=by rintro ⟨rfl,-⟩;exact e rfl
        exact .inr ⟨by rw [ri n _ l r k dr];exact ik,hf⟩
     ·by_cases e:(Src.ak q0 i9 lo).has r k
      ·obtain ⟨rfl,rfl⟩:=e
       exact c9 r k (x5 r k (qO r k lo (by simp)))
      ·rw [ri n _ l r k e] at hm
       exact dn r k j i hm ba
    ·simp at h
   ·simp at h
  ·simp at h
 | [],[],_::_,_,_,_,_,_,_,_,_,h,_=>by simp [kR] at h
 | [],_::_,_,_,_,_,_,_,_,_,_,h,_=>by simp [kR] at h
 | .row _::_,[],_,_,_,_,_,_,_,_,_,h,_=>by simp [kR] at h
 | .ak .. :: _,[],_,_,_,_,_,_,_,_,_,h,_=>by simp [kR] at h
 | .row _::_,_::_,[],_,_,_,_,_,_,_,_,h,_=>by simp [kR] at h
 | .ak .. :: _,_::_,[],_,_,_,_,_,_,_,_,h,_=>by simp [kR] at h
theorem Po (h:cJ g s ay a w){aU:Nat}(eU:s.aW aU=none){f:FuncId}{args:List aB}{cj:B5}{l:List Src}(ng:l=if cj.fw.length=cj.a0.length then cj.a0 else cj.a0++[.row aU])
 (rC:Bc cj.a0) (uX : ∀a∈cj.a0,a.r≠aU) {bY:f9→Bool} {A:Nat→Prop} {q:aB→Prop} {T:List (List ab)} {b8:Nat→Option Nat}
 (hA : ∀b,A b→b<w.heap.size) (Lj : ∀b,s.ok g ay w b→A b) (Lk : ∀r k I b m,s.ak r k=some I→bY I.cm=true→ay r k=some (b,m)→A b)
 (ac0:(∀b,A b→s.ok g ay w b)∨(∀x,q x→b9 x)) (bG:sv q kK) (ER:mx s (ld cj.a0) b8 bY)
 (cX:pu s (ld cj.a0) bY lU (eZ T).aW) (pi : ∀r k I,(∃j i,ld cj.a0 j i=some (r,k))→s.ak r k=some I→I.cm = .live) (hex : ∀r k I,Src.ak r k I∈cj.a0→s.a4 r k)
 {pY:List aB} {ah:List Prop} (mR:lx (nq s.aW b8 (ld cj.a0) bY) cj.ac args=some (pY,ah)) (qP : ∀p∈ah,p)
 {eD:aB} {fF:List Prop} (ye:nq (fun j=>cj.fw[j]?) (r7 l) (jm 0 l) kK cj.h6 cj.r=some (eD,fF)) (Lp : ∀p∈fF,p)
 {u:List (Nat×List ab)} {eR:List Prop} (BC:kR (fun j=>cj.fw[j]?) (r7 l) (jm 0 l) s.aW l cj.ke cj.fw=some (u,eR)) (ac1 : ∀p∈eR,p)
 (x6:Con P f pY T cj.r cj.fw) (ac2:q cj.r) (ac3 : ∀j i I,(eZ cj.fw).ak j i=some I→ ∀e∈I.es,∀x∈e,q x)
 {vs:List Value} (aV:vs.length=args.length) (hargs : ∀(j:Nat) x v,args[j]? = some x→vs[j]? = some v→Rel w (s.ok g ay w) s.a4 (s.bg ay) x v) :
 Du P f∧Calls P f vs.toArray w fun e bL=> ∃v bK,e = .returned v∧cJ g (s.hU u) bK a bL∧Rel bL ((s.hU u).ok g bK bL) (s.hU u).a4 ((s.hU u).bg bK) eD v:=by
 have Lq:Bc l:=by
  subst ng
  split
  ·exact rC
  ·refine List.pairwise_append.2 ⟨rC,List.pairwise_singleton _ _,fun b aS c bf r k ft=> ?_⟩
   rw [List.mem_singleton] at bf;subst bf
   have h1:r=aU:=ft.2
   subst h1
   cases b with
   | row r0=>exact uX _ aS (Eq.symm ft.1)
   | ak r0 i9 lo=>exact uX _ aS (Eq.symm ft.1.1)
 have RD : ∀(j:Nat) b,cj.a0[j]? = some b→l[j]? = some b:=by
  intro j b aI
  subst ng
  split
  ·exact aI
  ·rw [List.getElem?_append_left (fB aI)];exact aI
 have RE : ∀(j:Nat) b,l[j]? = some b→cj.a0[j]? = some b∨b = .row aU:=by
  intro j b aI
  subst ng
  split at aI
  ·exact .inl aI
  ·rw [List.getElem?_append] at aI
   split at aI
   ·exact .inl aI
   ·right
    have:=fB aI
    simp at this
    rw [show j-cj.a0.length=0 by omega] at aI
    simpa using aI.symm
 refine ⟨x6.1,?_⟩
 obtain ⟨fX,q1,aY,bJ,Mb,bS,cA,d4,fP⟩:=enter h.toh3 A hA Lj Lk cX pi
 obtain ⟨e1,aC,bR⟩:=Ds _ _ _ _ _ mR
 have:=x6.2 fX (jK ay (ld cj.a0)) w vs.toArray q1 bJ Mb bS d4 (by simp [aV,e1]) (by
  intro j cH v dE bj
  have aI:j<args.length:=by have:=fB dE;omega
  have R:=List.getElem?_eq_getElem aI
  obtain ⟨c,b6,f1,f2,f3⟩:=bR j _ cH R dE
  have Bm:vs[j]? = some v:=by simpa using bj
  exact fP (Af h.toh3 ER (ti _) f2 (fun p ai=>qP p (f3 p ai)) trivial (hargs j _ v R Bm)) (hargs j _ v R Bm))
 refine this.mono fun e bL Bk=> ?_
 obtain ⟨v,kN,rfl,En,bj⟩:=Bk
 have SB:mx (eZ cj.fw) (jm 0 l) (r7 l) kK:=by
  refine ⟨fun j r aI k=> ?_,fun _ _ _ _ _ bE=>by simp [kK] at bE⟩
  unfold r7 at aI
  split at aI
  ·rename_i r0 lc
   simp at aI;subst aI
   have:=Aw (n:=0) (r:=r0) (k:=k) Lq lc rfl
   simpa [Src.mw] using this
  ·simp at aI
 have AJ : ∀j i r k,ld cj.a0 j i=some (r,k)→jm 0 l r k=some (j,i):=fun j i r k hm=>by
  obtain ⟨b,ik,hf,rfl⟩:=sT.1 hm
  have:=Aw (n:=0) Lq (RD j b ik) hf
  simpa using this
 have D3 : ∀r k j i,jm 0 l r k=some (j,i)→ld cj.a0 j i=some (r,k)∨ ¬s.a4 r k:=fun r k j i hm=>by
  obtain ⟨b,-,hf,qf,Ma⟩:=us hm
  rcases RE j b (by simpa using hf) with e|e
  ·exact .inl (sT.2 ⟨b,e,qf,Ma⟩)
  ·subst e
   have:r=aU:=qf
   subst this
   exact .inr (w1 eU k)
 obtain ⟨ln,nH,gM,ad9,aea⟩:=Jz (s1:=eZ cj.fw) En SB bG ac3 l cj.ke cj.fw u eR 0 s Lq (fun j row aI=>by simpa [eZ] using aI)
  (fun r k j i hm ba=>by
    rcases D3 r k j i hm with e|e
    ·exact (En.stay j i (by rw [Mb];exact cX.a4 _ _ _ _ e ba)).1
    ·exact absurd ba e)
  (fun r k I hm=>by
    obtain ⟨j,aI⟩:=List.getElem?_of_mem hm
    rcases RE j _ aI with e|e
    ·exact hex r k I (List.mem_of_getElem? e)
    ·cases e) BC ac1
 obtain ⟨lm,f1,f2⟩:=leave (q0:=lU) (q:=q) h q1 (by rw [aY];exact ac0) Mb bS cA pi cX En AJ D3 (fun r k eD ea p=>aaG) (s2:=s.hU u) nH gM ad9 aea
  (Af En SB bG ye Lp ac2 bj) bj
 exact ⟨v,lm,rfl,f1,f2⟩
theorem X5 (h:cJ g s ay a w){aU:Nat}(eU:s.aW aU=none){f:FuncId}{args:List aB}{cj:B5}{bC:h4}(aw:xT P s.aW aU f args cj=some bC)(cz:∀p∈bC.fv,p)
 {vs:List Value} (aV:vs.length=args.length) (hargs : ∀(j:Nat) x v,args[j]? = some x→vs[j]? = some v→Rel w (s.ok g ay w) s.a4 (s.bg ay) x v) :
 Du P f∧Calls P f vs.toArray w fun e bL=> ∃v bK,e = .returned v∧cJ g (s.hU bC.fL) bK a bL∧Rel bL ((s.hU bC.fL).ok g bK bL) (s.hU bC.fL).a4 ((s.hU bC.fL).bg bK) bC.val v:=by
 unfold xT at aw
 simp only at aw
 generalize ng:(if cj.fw.length=cj.a0.length then cj.a0 else cj.a0++[.row aU])=l at aw
 split at aw
 ·simp at aw
 ·rename_i lo sm
  split at aw
  ·simp at aw
  ·rename_i acj
   have uX : ∀a∈cj.a0,a.r≠aU:=fun b aS e=>acj (List.any_eq_true.2 ⟨b,aS,by simpa using e⟩)
   split at aw
   ·
    split at aw
    ·rename_i tj
     split at aw
     ·rename_i pY ah eD fF u eR mR ye BC
      simp only [Option.some.injEq] at aw
      subst aw
      have x6:Con P f pY [] cj.r cj.fw:=cz _ (by simp)
      have BD:b9 cj.r:=cz _ (by simp)
      have ack:n4 cj.fw:=by
       by_cases e:cj.fw=[]
       ·rw [e];intro row dw;simp at dw
       ·exact cz _ (by
         have:cj.fw.isEmpty=false:=by simpa [List.isEmpty_iff] using e
         simp [this])
      refine Po (bY:=i3) (A:=fun b=>b<w.heap.size) (q:=b9) (T:=[]) (b8:=fun _=>none) h eU ng.symm (by rw [tj];exact List.Pairwise.nil) uX (fun _ aS=>aS) (fun b aS=>aS.1)
       (fun r k I b m ao _ ai=>Au h.toh3 ao ai) (.inr fun _ R=>R) acW ?_ ?_ ?_ ?_ (by rw [tj];exact mR) (fun p ai=>cz p (by simp [ai])) ye (fun p ai=>cz p (by simp [ai])) BC (fun p ai=>cz p (by simp [ai])) x6 BD ?_ aV hargs
      ·refine ⟨fun _ _ e=>by simp at e,fun r _ k I _ _ j i e=> ?_⟩
       rw [tj] at e;simp [ld] at e
      ·refine ⟨fun j i hN eA p e=> ?_,fun j i b6 e=> ?_,fun j i r k e=> ?_⟩
       ·rw [tj] at e;simp [ld] at e
       ·simp [eZ,db] at e
       ·rw [tj] at e;simp [ld] at e
      ·rintro r k I ⟨j,i,e⟩
       rw [tj] at e;simp [ld] at e
      ·rintro r k I e
       rw [tj] at e;simp at e
      ·intro j i I ao e he x R
       have ao:db (cj.fw[j]?) i=some I:=ao
       cases ar:cj.fw[j]? with
       | none=>rw [ar] at ao;simp [db] at ao
       | some row =>
        rw [ar,kn] at ao
        cases ba:row[i]? with
        | none=>rw [ba] at ao;simp at ao
        | some p =>
         rw [ba,Option.bind_some] at ao
         split at ao
         ·simp at ao
         ·simp at ao;subst ao
          exact ack row (List.mem_of_getElem? ar) p (List.mem_of_getElem? ba) e he x R
     ·simp at aw
    ·simp at aw
   ·split at aw
    ·rename_i pY ah T aQ eD fF u eR mR yd ye BC
     simp only [Option.some.injEq] at aw
     subst aw
     have rC:=Pn sm fun p ai=>cz p (by simp [ai])
     have x6:Con P f pY T cj.r cj.fw:=cz _ (by simp)
     have aq : ∀r j,oG 0 cj.a0 r=some j→ ∀k,ld cj.a0 j k=some (r,k):=fun r j aI k=>by
      obtain ⟨-,o⟩:=JH aI
      simp only [ld,show cj.a0[j]? = some (.row r) by simpa using o]
     have Lm : ∀(l:List Src) (dp:List iA) (T:List (List ab)) (ak:List Prop),l3 s.aW (oG 0 cj.a0) (ld cj.a0) l dp=some (T,ak)→(∀p∈ak,p) →
      ∀b∈l,∀r k I,b.has r k→s.ak r k=some I→I.cm≠ .iT:=by
      intro l
      induction l with
      | nil=>intro _ _ _ _ _ b aS;simp at aS
      | cons b l ih =>
       intro dp T ak h0 bo c bf r k I ft ao
       cases dp with
       | nil=>cases b<;>simp [l3] at h0
       | cons dK dp =>
        cases b with
        | row r0 =>
         simp only [l3] at h0
         split at h0
         ·rename_i row dw
          split at h0
          ·rename_i ap p1 mX hg h1 o
           simp only [Option.some.injEq,Prod.mk.injEq] at h0
           obtain ⟨rfl,rfl⟩:=h0
           rcases List.mem_cons.1 bf with rfl|bf
           ·have e:r=r0:=ft
            subst e
            have dR:db (some row) k=some I:=by unfold S.ak at ao;rw [dw] at ao;exact ao
            have:=Ow h1 (fun p ai=>bo p (by simp [ai])) k I dR
            rw [this];simp
           ·exact ih dp mX hg o (fun p ai=>bo p (by simp [ai])) c bf r k I ft ao
          ·simp at h0
         ·simp at h0
        | ak r0 i9 lo =>
         simp only [l3] at h0
         split at h0
         ·rename_i row dw
          split at h0
          ·rename_i ap p1 mX hg h1 o
           simp only [Option.some.injEq,Prod.mk.injEq] at h0
           obtain ⟨rfl,rfl⟩:=h0
           rcases List.mem_cons.1 bf with rfl|bf
           ·obtain ⟨rfl,rfl⟩:=ft
            have qP:db (some row) k=some lo:=bo _ (by simp)
            have dR:db (some row) k=some I:=by unfold S.ak at ao;rw [dw] at ao;exact ao
            rw [qP] at dR;simp at dR;subst dR
            have Lo:lo.cm≠ .gone:=by
             rw [kn] at qP
             cases ba:row[k]? with
             | none=>rw [ba] at qP;simp at qP
             | some p =>
              rw [ba,Option.bind_some] at qP;split at qP
              ·simp at qP
              ·rename_i e;simp at qP;subst qP;exact e
            have:=Ow h1 (fun p ai=>bo p (by simp [ai])) 0 lo (by rw [l0];simp [Lo])
            rw [this];simp
           ·exact ih dp mX hg o (fun p ai=>bo p (by simp [ai])) c bf r k I ft ao
          ·simp at h0
         ·simp at h0
     have ER:mx s (ld cj.a0) (oG 0 cj.a0) r6:=by
      refine ⟨aq,fun r ar k I ao bE j i hm=> ?_⟩
      obtain ⟨b,ik,hf,-⟩:=sT.1 hm
      exact Lm cj.a0 cj.dp T aQ yd (fun p ai=>cz p (by simp [ai])) b (List.mem_of_getElem? ik) r k I hf ao (by simpa [r6] using bE)
     obtain ⟨t1,t2⟩:=JI h.toh3 ER cj.a0 cj.dp T aQ yd (fun p ai=>cz p (by simp [ai]))
     have lT : ∀j b,cj.a0[j]? = some b→ ∃dX,T[j]? = some dX:=fun j b aI=>by
      have:j<T.length:=by have:=fB aI;omega
      exact ⟨_,List.getElem?_eq_getElem this⟩
     refine Po (bY:=r6) (A:=s.ok g ay w) (q:=lU) (T:=T) h eU ng.symm rC uX (fun b aS=>aS.1) (fun b aS=>aS)
      (fun r k I b m ao ba ai=>abc h.toh3 ao (by simpa [r6] using ba) ai) (.inl fun _ aS=>aS) (ti _) ER ?_ ?_ ?_ mR (fun p ai=>cz p (by simp [ai])) ye (fun p ai=>cz p (by simp [ai])) BC
      (fun p ai=>cz p (by simp [ai])) x6 trivial (fun _ _ _ _ _ _ _ _=>trivial) aV hargs
     ·refine ⟨fun j i hN eA p e eH=> ?_,fun j i b6 dR=> ?_,fun j i r k e hu=> ?_⟩
      ·obtain ⟨r,k⟩:=p
       obtain ⟨b,ik,hf,rfl⟩:=sT.1 e
       obtain ⟨kj,ac4,ac5,rfl⟩:=sT.1 eH
       have e1:=Aw (n:=0) rC ik hf
       have aC:=Aw (n:=0) rC ac4 ac5
       rw [e1] at aC
       simpa using aC
      ·have aI:j<T.length:=by
        rcases Nat.lt_or_ge j T.length with e|e
        ·exact e
        ·have:(eZ T).aW j=none:=List.getElem?_eq_none e
         rw [this] at dR;simp [db] at dR
       have RF:T[j]? = some T[j]:=List.getElem?_eq_getElem aI
       have RG:cj.a0[j]? = some (cj.a0[j]'(by omega)):=List.getElem?_eq_getElem (by omega)
       have pt:db (some T[j]) i=some b6:=by have:(eZ T).aW j=some T[j]:=RF;rw [this] at dR;exact dR
       obtain ⟨r,k,I,n1,kO,aeb,aec⟩:=(t2 j _ _ RF RG).2.2.2 i b6 pt
       exact ⟨r,k,I,sT.2 ⟨_,RG,n1,kO⟩,aeb,aec⟩
      ·obtain ⟨b,ik,hf,rfl⟩:=sT.1 e
       obtain ⟨dX,rp⟩:=lT j b ik
       have:=(t2 j dX b rp ik).2.1 r k hf hu
       show b.mw k<((T[j]?).getD []).length
       rw [rp];exact this
     ·rintro r k I ⟨j,i,e⟩ ao
      obtain ⟨b,ik,hf,-⟩:=sT.1 e
      obtain ⟨dX,rp⟩:=lT j b ik
      exact (t2 j dX b rp ik).1 r k I hf ao
     ·intro r k I hm
      obtain ⟨j,aI⟩:=List.getElem?_of_mem hm
      obtain ⟨dX,rp⟩:=lT j _ aI
      exact Dr ((t2 j dX _ rp aI).2.2.1 r k I rfl)
    ·simp at aw
end
end Go.VL
