/- Lemmas, plain functions of the program, and what they answer. No condition. -/
import Derived.Below
import Derived.Eval
import Derived.KernelRfl
import Derived.Laws.Append
import Derived.Laws.AppendOwn
import Derived.Laws.BytesString
import Derived.Laws.Cells
import Derived.Laws.CopyRow
import Derived.Laws.Entries
import Derived.Laws.MakeOwn
import Derived.Laws.OwnMore
import Derived.Laws.Rows
import Derived.Laws.Slices
import Derived.Laws.Tables
import Derived.Orders
namespace Go.VL
set_option linter.unusedVariables false
set_option linter.unusedSimpArgs false
open Go
inductive aB where
 | dead
 | b (x:Bool)
 | n (k:IntKind) (x:Int)
 | s (x:ByteArray)
 | h6
 | eU
 | iQ
 | ref (r k i off:Nat)
 | bm (r k bU len:Nat)
 | iR (r c sz:Nat) (h:Option (Nat×Nat))
 | isl (sz:Nat) (es:List (List aB))
 | d6 (sz:Nat) (es:List (List aB)) (i off:Nat)
 | j7 (sz:Nat) (c:Option (List aB))
 | agg (c:List aB)
 | d7 (vs:List aB)
 | fn (f:Nat) (cap:List aB)
 deriving Inhabited
inductive gf where
 | live|iY|gone
 deriving DecidableEq,Inhabited
structure ab where
 sz:Nat
 es:List (List aB)
 cw:gf
 deriving Inhabited
structure S where
 E:Nat→aB
 aX:Nat→Option (List ab)
abbrev ke (v:Value):Bool:=v.oneCell'
abbrev fo:=Nat→Nat→Option (Nat×Nat)
abbrev i4:=Nat→Nat→Option (Nat×Option (Nat×Nat))
abbrev jf:=Nat→Nat→Prop
inductive Pure:aB→Prop
 | dead:Pure .dead
 | b (x:Bool):Pure (.b x)
 | n (k:IntKind) (x:Int):Pure (.n k x)
 | s (x:ByteArray):Pure (.s x)
 | h6:Pure .h6
 | eU:Pure .eU
 | iQ:Pure .iQ
 | isl {sz:Nat} {es:List (List aB)} (h : ∀e∈es,∀x∈e,Pure x):Pure (.isl sz es)
 | d6 {sz i off:Nat} {es:List (List aB)} (h : ∀e∈es,∀x∈e,Pure x):Pure (.d6 sz es i off)
 | pb (sz:Nat):Pure (.j7 sz none)
 | oJ {sz:Nat} {c:List aB} (h : ∀x∈c,Pure x):Pure (.j7 sz (some c))
 | agg {c:List aB} (h : ∀x∈c,Pure x):Pure (.agg c)
 | d7 {c:List aB} (h : ∀x∈c,Pure x):Pure (.d7 c)
 | fn {f:Nat} {c:List aB} (h : ∀x∈c,Pure x):Pure (.fn f c)
def jM (es:List (List aB)):Prop:= ∀e∈es,∀x∈e,Pure x
inductive Rel (w:World) (ok:Nat→Prop) (a5:jf) (bi:i4):aB→Value→Prop
 | dead (v:Value):Rel w ok a5 bi .dead v
 | b (x:Bool):Rel w ok a5 bi (.b x) (.bool x)
 | n (k:IntKind) (x:Int):Rel w ok a5 bi (.n k x) (.int k x)
 | s (x:ByteArray):Rel w ok a5 bi (.s x) (.string x)
 | h6:Rel w ok a5 bi .h6 (.pointer none)
 | eU:Rel w ok a5 bi .eU (.slice none 0 0)
 | iQ (a:Addr) (c:Nat):Rel w ok a5 bi .iQ (.slice (some a) 0 c)
 | pu {r k i off:Nat} (a:Option Addr) (hu:a5 r k) (h : ∀sz p,bi r k≠some (sz,some p)):Rel w ok a5 bi (.ref r k i off) (.pointer a)
 | ref {r k i off sz eb m:Nat} (hu:a5 r k) (h:bi r k=some (sz,some (eb,m))):Rel w ok a5 bi (.ref r k i off) (.pointer (some ⟨eb,i*sz+off,none⟩))
 | m8 {r k bU len:Nat} (a:Option Addr) (l c:Nat) (hu:a5 r k) (h:bi r k=none):Rel w ok a5 bi (.bm r k bU len) (.slice a l c)
 | nr {r k sz:Nat} (hu:a5 r k) (h:bi r k=some (sz,none)):Rel w ok a5 bi (.bm r k 0 0) (.slice none 0 0)
 | bm {r k bU len sz eb m c:Nat} {a:Option Addr} (hu:a5 r k) (h:bi r k=some (sz,some (eb,m))) (aT:len≤c) (bf:c<9223372036854775808)
  (hm:(bU+c)*sz=m∧(c=0∨a=some ⟨eb,bU*sz,none⟩)):Rel w ok a5 bi (.bm r k bU len) (.slice a len c)
 | mL {r c sz:Nat} {v:Value} (h:Rel w ok a5 bi (.isl sz []) v):Rel w ok a5 bi (.iR r c sz none) v
 | nx {r c sz k n:Nat} {v:Value} (h:Rel w ok a5 bi (.bm r (k+c) 0 n) v):Rel w ok a5 bi (.iR r c sz (some (k,n))) v
 | kg (sz:Nat) (a:Option Addr) (c:Nat) (h:a=none→c=0):Rel w ok a5 bi (.isl sz []) (.slice a 0 c)
 | isl {sz:Nat} {es:List (List aB)} {eb off c:Nat} (cs:Nat→Value) (aR:ok eb) (ai:jM es) (aT : ∀e∈es,e.length=sz) (bf:es.length≤c)
  (hw : ∀(j:Nat) x,es.flatten[j]? = some x→w.cell? ⟨eb,off+j,none⟩=some (cs j)) (j4 : ∀(j:Nat) x,es.flatten[j]? = some x→ke (cs j)=true)
  (ao : ∀(j:Nat) x,es.flatten[j]? = some x→Rel w ok a5 bi x (cs j)):Rel w ok a5 bi (.isl sz es) (.slice (some ⟨eb,off,none⟩) es.length c)
 | d6 {sz:Nat} {es:List (List aB)} {eb I i off:Nat} (cs:Nat→Value) (aR:ok eb) (ai:jM es) (aT : ∀e∈es,e.length=sz)
  (hw : ∀(j:Nat) x,es.flatten[j]? = some x→w.cell? ⟨eb,I+j,none⟩=some (cs j)) (j4 : ∀(j:Nat) x,es.flatten[j]? = some x→ke (cs j)=true)
  (ao : ∀(j:Nat) x,es.flatten[j]? = some x→Rel w ok a5 bi x (cs j)):Rel w ok a5 bi (.d6 sz es i off) (.pointer (some ⟨eb,I+(i*sz+off),none⟩))
 | pb (sz:Nat):Rel w ok a5 bi (.j7 sz none) (.pointer none)
 | oJ {sz:Nat} {c:List aB} {v:Value} (h:Rel w ok a5 bi (.d6 sz [c] 0 0) v):Rel w ok a5 bi (.j7 sz (some c)) v
 | agg {c:List aB} (vs:List Value) (aT:vs.length=c.length) (j4 : ∀(j:Nat) v,vs[j]? = some v→ke v=true)
  (ao : ∀(j:Nat) x v,c[j]? = some x→vs[j]? = some v→Rel w ok a5 bi x v):Rel w ok a5 bi (.agg c) (.agg vs.toArray)
 | d7 {c:List aB} (vs:List Value) (aT:vs.length=c.length)
  (ao : ∀(j:Nat) x v,c[j]? = some x→vs[j]? = some v→Rel w ok a5 bi x v):Rel w ok a5 bi (.d7 c) (.tuple vs.toArray)
 | fn {f:Nat} {c:List aB} (vs:List Value) (aT:vs.length=c.length)
  (ao : ∀(j:Nat) x v,c[j]? = some x→vs[j]? = some v→Rel w ok a5 bi x v):Rel w ok a5 bi (.fn f c) (.func (.func f) #[] vs.toArray)
theorem Rel.mono {w bL:World}{ok kQ:Nat→Prop}{a5 mQ:jf}{bi mc:i4}{a:aB}{v:Value}(h:Rel w ok a5 bi a v)
 (mR : ∀b,ok b→kQ b) (hw : ∀b,ok b→bL.heap[b]? = w.heap[b]?)
 (jt : ∀r k,a5 r k→mQ r k) (lg : ∀r k,a5 r k→mc r k=bi r k∨mc r k=none):Rel bL kQ mQ mc a v:=by
 have j4 : ∀b I,ok b→bL.cell? ⟨b,I,none⟩=w.cell? ⟨b,I,none⟩:=fun b I aR=>World.cell?_of_block (hw b aR)
 induction h with
 | dead v=>exact .dead v
 | b x=>exact .b x
 | n k x=>exact .n k x
 | s x=>exact .s x
 | h6=>exact .h6
 | eU=>exact .eU
 | iQ a c=>exact .iQ a c
 | @pu r k i off a hu h =>
  refine .pu a (jt r k hu) fun sz p=> ?_
  rcases lg r k hu with e|e<;>rw [e]
  ·exact h sz p
  ·simp
 | @ref r k i off sz eb m hu h =>
  rcases lg r k hu with e|e
  ·exact .ref (jt r k hu) (e.trans h)
  ·exact .pu _ (jt r k hu) fun sz p=>by rw [e];simp
 | @m8 r k bU len a l c hu h=>exact .m8 a l c (jt r k hu) (by rcases lg r k hu with e|e<;>rw [e];exact h)
 | @nr r k sz hu h =>
  rcases lg r k hu with e|e
  ·exact .nr (jt r k hu) (e.trans h)
  ·exact .m8 _ _ _ (jt r k hu) e
 | @bm r k bU len sz eb m c a hu h aT bf hm =>
  rcases lg r k hu with e|e
  ·exact .bm (jt r k hu) (e.trans h) aT bf hm
  ·exact .m8 _ _ _ (jt r k hu) e
 | mL h ih=>exact .mL ih
 | nx h ih=>exact .nx ih
 | kg sz a c h=>exact .kg sz a c h
 | isl cs aR ai aT bf BC iB ao ih=>exact .isl cs (mR _ aR) ai aT bf (fun j x U=>(j4 _ _ aR).trans (BC j x U)) iB ih
 | d6 cs aR ai aT BC iB ao ih=>exact .d6 cs (mR _ aR) ai aT (fun j x U=>(j4 _ _ aR).trans (BC j x U)) iB ih
 | pb sz=>exact .pb sz
 | oJ h ih=>exact .oJ ih
 | agg vs aT iB ao ih=>exact .agg vs aT iB ih
 | d7 vs aT ao ih=>exact .d7 vs aT ih
 | fn vs aT ao ih=>exact .fn vs aT ih
structure G where
 my:World
 A:Nat→Prop
 pj:Nat→Prop
 N:Nat
 m:Nat
 oQ:jf
 qX:i4
def S.a5 (s:S)(r k:Nat):Prop:=k<((s.aX r).getD []).length
def dg (row:Option (List ab))(k:Nat):Option ab :=
 match row with
 | some l=>match l[k]? with
  | some I=>if I.cw = .gone then none else some I
  | none=>none
 | none=>none
def S.ak (s:S)(r k:Nat):Option ab:=dg (s.aX r) k
def S.bi (s:S)(ay:fo):i4:=fun r k=>(s.ak r k).map fun I=>(I.sz,ay r k)
def S.lN (s:S)(ay:fo)(b:Nat):Prop:= ∃r k I m,s.ak r k=some I∧I.cw = .live∧ay r k=some (b,m)
def S.ok (s:S)(g:G)(ay:fo)(w:World)(b:Nat):Prop :=
 b<w.heap.size∧(g.A b∨g.my.heap.size≤b∨g.pj b)∧ ¬s.lN ay b
def jo (w:World)(ok:Nat→Prop)(a5:jf)(bi:i4)(I:ab):Option (Nat×Nat)→Prop
 | none=>I.es=[]
 | some (eb,m)=> ∃c eE,w.heap[eb]? = some (.cells c eE (0,0))∧c.size=m∧(∀e∈I.es,e.length=I.sz) ∧
  ∀(j:Nat) x,I.es.flatten[j]? = some x→ ∃v,c[j]? = some v∧ke v=true∧Rel w ok a5 bi x v
structure Be (g:G) (w:World):Prop where
 os:w.os=g.my.os
 tape:w.tape=g.my.tape
 output:w.output=g.my.output
 size:g.my.heap.size≤w.heap.size
 block : ∀b,b<g.my.heap.size→ ¬g.pj b→w.heap[b]? = g.my.heap[b]?
structure h7 (g:G) (s:S) (ay:fo) (w:World):Prop where
 obj : ∀r k I,s.ak r k=some I→jo w (s.ok g ay w) s.a5 (s.bi ay) I (ay r k)
 inj : ∀r k I eF dU b8 b m bA,s.ak r k=some I→s.ak eF dU=some b8→ay r k=some (b,m)→ay eF dU=some (b,bA)→r=eF∧k=dU
 own : ∀r k I b m,s.ak r k=some I→ay r k=some (b,m)→g.my.heap.size≤b∨g.pj b
 gL:Be g w
 mlt : ∀b,g.pj b→b<g.my.heap.size
 nd : ∀b,g.A b→b<g.my.heap.size
 stay : ∀j k,g.oQ j k→s.a5 j k∧(s.bi ay j k=g.qX j k∨s.bi ay j k=none)
 low : ∀j k,g.oQ j k→j<g.m
structure cM (g:G) (s:S) (ay:fo) (a:Act) (w:World):Prop extends h7 g s ay w where
 env : ∀t,Rel w (s.ok g ay w) s.a5 (s.bi ay) (s.E t) (a.tmps.getD t undef)
 defers:a.defers=[]
 jO:g.N≤a.tmps.size
def ofValue:Value→aB
 | .bool x=> .b x
 | .int k x=> .n k x
 | .string x=> .s x
 | .pointer none=> .h6
 | .slice none 0 0=> .eU
 | _=> .dead
theorem Oq {w:World}{ok:Nat→Prop}{a5:jf}{bi:i4}(v:Value):Rel w ok a5 bi (ofValue v) v:=by
 unfold ofValue
 split<;>constructor
def fg (E:Nat→aB):Operand→aB
 | .tmp t=>E t
 | .const v=>ofValue v
 | .global _=> .dead
 | .func f=> .fn f []
theorem cM.eval {g:G}{s:S}{ay:fo}{a:Act}{w:World}(h:cM g s ay a w)(x:Operand):
 Rel w (s.ok g ay w) s.a5 (s.bi ay) (fg s.E x) (a.eval x):=by
 cases x with
 | tmp t=>exact h.env t
 | const v=>exact Oq v
 | global g=>exact .dead _
 | func f=>exact .fn [] rfl (fun j x v U=>by simp at U)
def aB.cells:aB→List aB
 | .agg c=>c
 | x=>[x]
def aB.one:aB→Bool
 | .dead | .agg _ | .d7 _=>false
 | _=>true
def aB.xN:aB→Bool
 | .dead | .d7 _=>false
 | _=>true
theorem aB.Ot {v:aB}(h:v.xN=true):v.one=true∨ ∃c,v = .agg c:=by
 cases v<;>first|exact .inl rfl|exact .inr ⟨_,rfl⟩|simp [aB.xN] at h
theorem Rel.ke {w:World}{ok:Nat→Prop}{a5:jf}{bi:i4}{a:aB}{v:Value}(h:Rel w ok a5 bi a v)(bF:a.one=true):ke v=true:=by
 cases h with
 | oJ h=>cases h;rfl
 | mL h=>cases h<;>rfl
 | nx h=>cases h<;>rfl
 | _=>first|rfl|simp [aB.one] at bF
theorem Rel.cellsOf {w:World}{ok:Nat→Prop}{a5:jf}{bi:i4}{a:aB}{v:Value}(h:Rel w ok a5 bi a v)(bF:a.one=true∨ ∃c,a = .agg c):
 ∃vs:List Value,v.cells=vs.toArray∧vs.length=a.cells.length∧(∀(j:Nat) x,vs[j]? = some x→VL.ke x=true) ∧
  ∀(j:Nat) x u,a.cells[j]? = some x→vs[j]? = some u→Rel w ok a5 bi x u:=by
 rcases bF with bF|⟨c,rfl⟩
 ·have bf:=h.ke bF
  refine ⟨[v],?_,?_,?_,?_⟩
  ·cases v<;>first|rfl|simp [VL.ke,Value.oneCell'] at bf
  ·cases a<;>first|rfl|simp [aB.one] at bF
  ·intro j x U
   cases j with
   | zero=>simp at U;subst U;exact bf
   | succ j=>simp at U
  ·intro j x u U hu
   have e:a.cells=[a]:=by cases a<;>first|rfl|simp [aB.one] at bF
   rw [e] at U
   cases j with
   | zero=>simp at U hu;subst U;subst hu;exact h
   | succ j=>simp at U
 ·cases h with
  | agg vs aT j4 ao=>exact ⟨vs,rfl,aT,j4,ao⟩
end Go.VL
namespace Go.VL
set_option linter.unusedVariables false
set_option linter.unusedSimpArgs false
open Go
def S.put (s:S)(dst:Option Tmp)(v:aB):S :=
 match dst with
 | some t=>{s with E:=fun u=>if u=t then v else s.E u}
 | none=>s
def S.setRow (s:S)(r:Nat)(row:List ab):S:={s with aX:=fun q=>if q=r then some row else s.aX q}
@[simp] theorem S.tb (s:S) (dst:Option Tmp) (v:aB):(s.put dst v).aX=s.aX:=by cases dst<;>rfl
@[simp] theorem S.afm (s:S) (r:Nat) (row:List ab):(s.setRow r row).E=s.E:=rfl
theorem Ar {s bQ:S}(h:bQ.aX=s.aX):bQ.ak=s.ak:=by funext r k;simp [S.ak,h]
theorem xO {s bQ:S}(h:bQ.aX=s.aX):bQ.a5=s.a5:=by funext r k;simp [S.a5,h]
theorem xP {s bQ:S}(h:bQ.aX=s.aX)(ay:fo):bQ.bi ay=s.bi ay:=by unfold S.bi;rw [Ar h]
theorem X4 {s bQ:S}(h:bQ.aX=s.aX)(ay:fo):bQ.lN ay=s.lN ay:=by unfold S.lN;rw [Ar h]
theorem As {s bQ:S}(h:bQ.aX=s.aX)(g:G)(ay:fo)(w:World):bQ.ok g ay w=s.ok g ay w:=by
 funext b;unfold S.ok;rw [X4 h]
theorem h7.congr {g:G}{s bQ:S}{ay:fo}{w:World}(h:h7 g s ay w)(e:bQ.aX=s.aX):h7 g bQ ay w where
 obj:=by rw [Ar e,xO e,xP e,As e];exact h.obj
 inj:=by rw [Ar e];exact h.inj
 own:=by rw [Ar e];exact h.own
 gL:=h.gL
 mlt:=h.mlt
 nd:=h.nd
 stay:=by rw [xO e,xP e];exact h.stay
 low:=h.low
theorem Z7 (a:Act)(dst:Option Tmp)(v:Value)(t:Nat)(eP:∀d,dst=some d→d<a.tmps.size):
 (a.put dst v).tmps.getD t undef=if dst=some t then v else a.tmps.getD t undef:=by
 cases dst with
 | none=>simp [Act.put]
 | some d =>
  have:=eP d rfl
  simp only [Act.put,Array.getD_eq_getD_getElem?,Array.getElem?_setIfInBounds,Option.some.injEq]
  by_cases e:d=t
  ·subst e;simp [this]
  ·simp [e]
theorem cM.put {g:G}{s:S}{ay:fo}{a:Act}{w:World}(h:cM g s ay a w)(dst:Option Tmp){x:aB}{v:Value}
 (bE : ∀d,dst=some d→d<g.N) (ao:Rel w (s.ok g ay w) s.a5 (s.bi ay) x v):cM g (s.put dst x) ay (a.put dst v) w where
 toh7:=h.toh7.congr (S.tb s dst x)
 env:=by
  have e:=S.tb s dst x
  rw [As e,xO e,xP e]
  intro t
  rw [Z7 a dst v t fun d qi=>Nat.lt_of_lt_of_le (bE d qi) h.jO]
  cases dst with
  | none=>simpa [S.put] using h.env t
  | some d =>
   simp only [S.put,Option.some.injEq]
   by_cases e:t=d
   ·subst e;simpa using ao
   ·rw [if_neg e,if_neg (Ne.symm e)];exact h.env t
 defers:=by cases dst<;>exact h.defers
 jO:=by cases dst<;>simpa [Act.put] using h.jO
structure Step (g:G) (s:S) (ay:fo) (w:World) (bQ:S) (bK:fo) (bL:World):Prop where
 a5 : ∀r k,s.a5 r k→bQ.a5 r k
 bi : ∀r k,s.a5 r k→bQ.bi bK r k=s.bi ay r k∨bQ.bi bK r k=none
 live : ∀b,bQ.lN bK b→s.lN ay b∨w.heap.size≤b
 heap : ∀b,b<w.heap.size→ ¬s.lN ay b→bL.heap[b]? = w.heap[b]?
 size:w.heap.size≤bL.heap.size
theorem Step.ok {g:G}{s bQ:S}{ay bK:fo}{w bL:World}(h:Step g s ay w bQ bK bL)(b:Nat)(aR:s.ok g ay w b):bQ.ok g bK bL b :=
 ⟨Nat.lt_of_lt_of_le aR.1 h.size,aR.2.1,fun aT=>by
  rcases h.live b aT with h1|h1
  ·exact aR.2.2 h1
  ·exact absurd aR.1 (by omega)⟩
theorem Step.rel {g:G}{s bQ:S}{ay bK:fo}{w bL:World}(h:Step g s ay w bQ bK bL){x:aB}{v:Value}
 (ao:Rel w (s.ok g ay w) s.a5 (s.bi ay) x v):Rel bL (bQ.ok g bK bL) bQ.a5 (bQ.bi bK) x v :=
 ao.mono h.ok (fun b aR=>h.heap b aR.1 aR.2.2) h.a5 h.bi
theorem Step.obj {g:G}{s bQ:S}{ay bK:fo}{w bL:World}(h:Step g s ay w bQ bK bL){I:ab}{p:Option (Nat×Nat)}
 (ai : ∀b m,p=some (b,m)→bL.heap[b]? = w.heap[b]?) (ap:jo w (s.ok g ay w) s.a5 (s.bi ay) I p) :
 jo bL (bQ.ok g bK bL) bQ.a5 (bQ.bi bK) I p:=by
 cases p with
 | none=>exact ap
 | some q =>
  obtain ⟨b,m⟩:=q
  obtain ⟨c,eE,h1,o,ae,au⟩:=ap
  refine ⟨c,eE,(ai b m rfl).trans h1,o,ae,fun j x U=> ?_⟩
  obtain ⟨v,e1,aE,bT⟩:=au j x U
  exact ⟨v,e1,aE,h.rel bT⟩
theorem Step.stay {g:G}{s bQ:S}{ay bK:fo}{w bL:World}(h:Step g s ay w bQ bK bL)
 (bS : ∀j k,g.oQ j k→s.a5 j k∧(s.bi ay j k=g.qX j k∨s.bi ay j k=none)) : ∀j k,g.oQ j k→bQ.a5 j k∧(bQ.bi bK j k=g.qX j k∨bQ.bi bK j k=none):=by
 intro j k aC
 obtain ⟨h1,o⟩:=bS j k aC
 refine ⟨h.a5 j k h1,?_⟩
 rcases h.bi j k h1 with e|e
 ·rw [e];exact o
 ·exact .inr e
theorem Be.step {g:G}{w bL:World}(h:Be g w)(h1:bL.os=w.os)(o:bL.tape=w.tape)(ae:bL.output=w.output)(au:w.heap.size≤bL.heap.size)
 (aA : ∀b,b<g.my.heap.size→ ¬g.pj b→bL.heap[b]? = w.heap[b]?):Be g bL :=
 ⟨h1.trans h.os,o.trans h.tape,ae.trans h.output,Nat.le_trans h.size au,fun b aR hm=>(aA b aR hm).trans (h.block b aR hm)⟩
theorem lv (s:S)(r:Nat)(row:List ab)(q k:Nat):(s.setRow r row).ak q k=if q=r then dg (some row) k else s.ak q k:=by
 unfold S.ak S.setRow
 by_cases e:q=r<;>simp [e]
theorem m7 (s:S)(r:Nat)(row:List ab)(q k:Nat):(s.setRow r row).a5 q k↔(if q=r then k<row.length else s.a5 q k):=by
 unfold S.a5 S.setRow
 by_cases e:q=r<;>simp [e]
theorem DM {s:S}{r k:Nat}{I:ab}(h:s.ak r k=some I):s.a5 r k:=by
 unfold S.ak dg at h
 unfold S.a5
 cases ao:s.aX r with
 | none=>rw [ao] at h;simp at h
 | some l =>
  rw [ao] at h
  simp only at h
  rcases Nat.lt_or_ge k l.length with h1|h1
  ·simpa using h1
  ·rw [List.getElem?_eq_none h1] at h;simp at h
theorem xo {s:S}{r:Nat}(h:s.aX r=none)(k:Nat): ¬s.a5 r k:=by simp [S.a5,h]
theorem Dp (s:S){r:Nat}{l row:List ab}(ao:s.aX r=some l)(aT:l.length≤row.length)(q k:Nat)(h:s.a5 q k):(s.setRow r row).a5 q k:=by
 rw [m7]
 by_cases e:q=r
 ·subst e;rw [if_pos rfl];simp [S.a5,ao] at h;omega
 ·rw [if_neg e];exact h
theorem ae5 {s:S}{r:Nat}(h:s.aX r=none)(k:Nat):s.ak r k=none:=by simp [S.ak,h,dg]
def fo.set (ay:fo)(r k:Nat)(p:Option (Nat×Nat)):fo:=fun q j=>if q=r∧j=k then p else ay q j
theorem l3 (I:ab)(k:Nat):dg (some [I]) k=if k=0∧I.cw≠ .gone then some I else none:=by
 unfold dg
 cases k with
 | zero=>by_cases h:I.cw = .gone<;>simp [h]
 | succ k=>simp
theorem Rel.drew {w:World}{ok:Nat→Prop}{a5:jf}{bi:i4}{x:aB}{v:Value}(h:Rel w ok a5 bi x v):Rel w.drew ok a5 bi x v :=
 h.mono (fun _ h=>h) (fun _ _=>rfl) (fun _ _ h=>h) (fun _ _ _=> .inl rfl)
theorem jo.drew {w:World}{ok:Nat→Prop}{a5:jf}{bi:i4}{I:ab}{p:Option (Nat×Nat)}(h:jo w ok a5 bi I p):jo w.drew ok a5 bi I p:=by
 cases p with
 | none=>exact h
 | some q =>
  obtain ⟨c,eE,h1,o,ae,au⟩:=h
  exact ⟨c,eE,h1,o,ae,fun j x U=>let ⟨v,a,b,c⟩:=au j x U;⟨v,a,b,c.drew⟩⟩
theorem h7.drew {g:G}{s:S}{ay:fo}{w:World}(h:h7 g s ay w):h7 g s ay w.drew :=
 {obj:=fun r k I ap=>(h.obj r k I ap).drew,inj:=h.inj,own:=h.own,gL:=⟨h.gL.os,h.gL.tape,h.gL.output,h.gL.size,h.gL.block⟩,mlt:=h.mlt,nd:=h.nd,stay:=h.stay,low:=h.low}
theorem cM.drew {g:G}{s:S}{ay:fo}{a:Act}{w:World}(h:cM g s ay a w):cM g s ay a w.drew where
 toh7:=h.toh7.drew
 env:=fun t=>(h.env t).drew
 defers:=h.defers
 jO:=h.jO
theorem cM.alloc {g:G}{s:S}{ay:fo}{a:Act}{w:World}(h:cM g s ay a w){r:Nat}(ao:s.aX r=none)(I:ab)(a6:I.cw = .live)
 (c:Array Value) (eE:TypeId) (hlen : ∀e∈I.es,e.length=I.sz)
 (bf : ∀(j:Nat) x,I.es.flatten[j]? = some x→ ∃v,c[j]? = some v∧ke v=true∧Rel w (s.ok g ay w) s.a5 (s.bi ay) x v) :
 ∃bK,bK r 0=some (w.heap.size,c.size)∧cM g (s.setRow r [I]) bK a (w.alloc (.cells c eE)) ∧
  ∀x v,Rel w (s.ok g ay w) s.a5 (s.bi ay) x v→Rel (w.alloc (.cells c eE)) ((s.setRow r [I]).ok g bK (w.alloc (.cells c eE))) (s.setRow r [I]).a5 ((s.setRow r [I]).bi bK) x v:=by
 have lG : ∀q k,q≠r→(ay.set r 0 (some (w.heap.size,c.size))) q k=ay q k:=fun q k a7=>by simp [fo.set,a7]
 have bo : ∀q k,q≠r→(s.setRow r [I]).ak q k=s.ak q k:=fun q k a7=>by rw [lv,if_neg a7]
 have yl : ∀k,(s.setRow r [I]).ak r k=if k=0 then some I else none:=fun k=>by
  rw [lv,if_pos rfl,l3];simp [a6]
 have sr : ∀q k p b m,s.ak q k=some p→ay q k=some (b,m)→b<w.heap.size:=fun q k p b m ai a7=>by
  have:=h.obj q k p ai
  rw [a7] at this
  obtain ⟨dL,mq,fw,_⟩:=this
  exact (Array.getElem?_eq_some_iff.1 fw).1
 have c8:Step g s ay w (s.setRow r [I]) (ay.set r 0 (some (w.heap.size,c.size))) (w.alloc (.cells c eE)):=by
  refine ⟨fun q k a7=>(m7 _ _ _ _ _).2 (by rw [if_neg (by rintro rfl;exact xo ao k a7)];exact a7),fun q k a7=> ?_,fun b aR=> ?_,fun b aR _=>heap_alloc_old w _ b aR,by simp⟩
  ·have c4:q≠r:=by rintro rfl;exact xo ao k a7
   left
   simp only [S.bi,bo q k c4,lG q k c4]
  ·obtain ⟨q,k,p,m,h1,o,ae⟩:=aR
   by_cases e:q=r
   ·subst e
    rw [yl] at h1
    by_cases e0:k=0
    ·subst e0;simp [fo.set] at ae;right;omega
    ·simp [e0] at h1
   ·rw [bo q k e] at h1;rw [lG q k e] at ae
    exact .inl ⟨q,k,p,m,h1,o,ae⟩
 refine ⟨ay.set r 0 (some (w.heap.size,c.size)),by simp [fo.set],?_,fun x v=>c8.rel⟩
 refine {toh7:=⟨?_,?_,?_,?_,h.mlt,h.nd,c8.stay h.stay,h.low⟩,env:=fun t=>c8.rel (h.env t),defers:=h.defers,jO:=h.jO}
 ·intro q k p ai
  by_cases e:q=r
  ·subst e
   rw [yl] at ai
   by_cases e0:k=0
   ·subst e0
    simp at ai
    subst ai
    simp only [fo.set,and_self,if_true]
    exact ⟨c,eE,heap_alloc_new w _,rfl,hlen,fun j x U=>let ⟨v,e1,aE,bT⟩:=bf j x U;⟨v,e1,aE,c8.rel bT⟩⟩
   ·simp [e0] at ai
  ·rw [bo q k e] at ai
   rw [lG q k e]
   exact c8.obj (fun b m hm=>heap_alloc_old w _ b (sr q k p b m ai hm)) (h.obj q k p ai)
 ·intro q k p hF dU kn b m bA h1 o ae au
  by_cases e:q=r<;>by_cases ep:hF=r
  ·subst e;subst ep
   rw [yl] at h1 o
   by_cases e0:k=0<;>by_cases e1:dU=0<;>simp [e0,e1] at h1 o
   exact ⟨rfl,by omega⟩
  ·subst e
   rw [yl] at h1;rw [bo _ _ ep] at o;rw [lG _ _ ep] at au
   by_cases e0:k=0<;>simp [e0] at h1
   subst e0
   simp [fo.set] at ae
   have:=sr hF dU kn b bA o au
   omega
  ·subst ep
   rw [bo _ _ e] at h1;rw [yl] at o;rw [lG _ _ e] at ae
   by_cases e0:dU=0<;>simp [e0] at o
   subst e0
   simp [fo.set] at au
   have:=sr q k p b m h1 ae
   omega
  ·rw [bo _ _ e] at h1;rw [bo _ _ ep] at o;rw [lG _ _ e] at ae;rw [lG _ _ ep] at au
   exact h.inj q k p hF dU kn b m bA h1 o ae au
 ·intro q k p b m h1 o
  by_cases e:q=r
  ·subst e
   rw [yl] at h1
   by_cases e0:k=0<;>simp [e0] at h1
   subst e0
   simp [fo.set] at o
   left
   have:=h.gL.size
   omega
  ·rw [bo _ _ e] at h1;rw [lG _ _ e] at o
   exact h.own q k p b m h1 o
 ·exact h.gL.step rfl rfl rfl (by simp) fun b aR _=>heap_alloc_old w _ b (Nat.lt_of_lt_of_le aR h.gL.size)
theorem PC (l:List ab)(k:Nat)(I b8:ab)(h:dg (some l) k=some I)(a6:b8.cw≠ .gone)(j:Nat):
 dg (some (l.set k b8)) j=if j=k then some b8 else dg (some l) j:=by
 unfold dg at *
 have dE:k<l.length:=by
  rcases Nat.lt_or_ge k l.length with h1|h1
  ·exact h1
  ·simp [List.getElem?_eq_none h1] at h
 by_cases e:j=k
 ·subst e;simp [dE,a6]
 ·simp only [List.getElem?_set,if_neg (Ne.symm e),if_neg e]
theorem cM.write {g:G}{s:S}{ay:fo}{a:Act}{w bL:World}(h:cM g s ay a w){r k b m:Nat}{l:List ab}{I:ab}(ao:s.aX r=some l)(ap:s.ak r k=some I)
 (a6:I.cw = .live) (ai:ay r k=some (b,m)) (es:List (List aB)) (c:Array Value) (eE:TypeId)
 (hw:bL.heap[b]? = some (.cells c eE (0,0))) (eP:bL.heap.size=w.heap.size) (uK : ∀q,q≠b→bL.heap[q]? = w.heap[q]?)
 (qj:bL.os=w.os) (Lx:bL.tape=w.tape) (La:bL.output=w.output) (hm:c.size=m)
 (hlen : ∀e∈es,e.length=I.sz)
 (bf : ∀(j:Nat) x,es.flatten[j]? = some x→ ∃v,c[j]? = some v∧ke v=true∧Rel w (s.ok g ay w) s.a5 (s.bi ay) x v) :
 cM g (s.setRow r (l.set k {I with es})) ay a bL ∧
  ∀x v,Rel w (s.ok g ay w) s.a5 (s.bi ay) x v→Rel bL ((s.setRow r (l.set k {I with es})).ok g ay bL) (s.setRow r (l.set k {I with es})).a5 ((s.setRow r (l.set k {I with es})).bi ay) x v:=by
 have hI:({I with es}:ab).cw≠ .gone:=by rw [a6];simp
 have bo : ∀q j,(s.setRow r (l.set k {I with es})).ak q j=if q=r∧j=k then some {I with es} else s.ak q j:=by
  intro q j
  rw [lv]
  by_cases e:q=r
  ·subst e
   have dW:dg (some l) k=some I:=by rw [← ao];exact ap
   rw [if_pos rfl,PC l k I _ dW hI]
   by_cases aE:j=k<;>simp [aE,S.ak,ao]
  ·simp [e]
 have pw:s.lN ay b:=⟨r,k,I,m,ap,a6,ai⟩
 have c8:Step g s ay w (s.setRow r (l.set k {I with es})) ay bL:=by
  refine ⟨Dp s ao (by simp),fun q j a7=> .inl ?_,fun q a7=> ?_,fun q a7 aT=>uK q fun e=>aT (e▸pw),Nat.le_of_eq eP.symm⟩
  ·simp only [S.bi,bo]
   by_cases e:q=r∧j=k
   ·obtain ⟨rfl,rfl⟩:=e;simp [ap]
   ·rw [if_neg e]
  ·obtain ⟨hF,j,p,bA,h1,o,ae⟩:=a7
   rw [bo] at h1
   by_cases e:hF=r∧j=k
   ·obtain ⟨rfl,rfl⟩:=e
    exact .inl ⟨hF,j,I,bA,ap,a6,ae⟩
   ·rw [if_neg e] at h1
    exact .inl ⟨hF,j,p,bA,h1,o,ae⟩
 refine ⟨{toh7:=⟨?_,?_,?_,?_,h.mlt,h.nd,c8.stay h.stay,h.low⟩,env:=fun t=>c8.rel (h.env t),defers:=h.defers,jO:=h.jO},fun x v=>c8.rel⟩
 ·intro q j p ku
  rw [bo] at ku
  by_cases e:q=r∧j=k
  ·obtain ⟨rfl,rfl⟩:=e
   simp at ku
   subst ku
   rw [ai]
   exact ⟨c,eE,hw,hm,hlen,fun j x U=>let ⟨v,e1,aE,bT⟩:=bf j x U;⟨v,e1,aE,c8.rel bT⟩⟩
  ·rw [if_neg e] at ku
   refine c8.obj (fun ko bA k1=>uK ko ?_) (h.obj q j p ku)
   rintro rfl
   exact e (h.inj q j p r k I ko bA m ku ap k1 ai)
 ·intro q j p hF hP kn ko ir hh h1 o ae au
  have key : ∀q j p,(s.setRow r (l.set k {I with es})).ak q j=some p→ ∃kn,s.ak q j=some kn:=by
   intro q j p a7
   rw [bo] at a7
   by_cases e:q=r∧j=k
   ·obtain ⟨rfl,rfl⟩:=e;exact ⟨I,ap⟩
   ·rw [if_neg e] at a7;exact ⟨p,a7⟩
  obtain ⟨p1,RL⟩:=key q j p h1
  obtain ⟨hi,BD⟩:=key hF hP kn o
  exact h.inj q j p1 hF hP hi ko ir hh RL BD ae au
 ·intro q j p ko bA h1 o
  rw [bo] at h1
  by_cases e:q=r∧j=k
  ·obtain ⟨rfl,rfl⟩:=e;exact h.own q j I ko bA ap o
  ·rw [if_neg e] at h1;exact h.own q j p ko bA h1 o
 ·refine h.gL.step qj Lx La (Nat.le_of_eq eP.symm) fun ko pe k1=>uK ko ?_
  rintro rfl
  rcases h.own r k I ko m ap ai with h1|h1
  ·omega
  ·exact k1 h1
end Go.VL
namespace Go.VL
set_option linter.unusedVariables false
set_option linter.unusedSimpArgs false
open Go
inductive sI where
 | id
 | e7 (es:List (List aB))
 | j2 (sz:Nat)
 | jS
 | cO (x:aB)
 | len (n:Nat)
 | Mo (sz:Nat)
 | at_ (j i n:Nat)
 | view (dD:Nat) (I:ab) (es:List (List aB))
 deriving Inhabited
inductive yZ where
 | dM (c:sI)
 | ptr (l:List sI)
 | Lb (l:List sI)
 | agg (l:List sI)
 deriving Inhabited
inductive lm where
 | bx (c:yZ)
 | comp (l:List yZ)
 deriving Inhabited
inductive iD where
 | pure
 | box (l:List sI)
 | cO (row:List ab)
 | bG (row:List ab)
 | rx (row:List ab)
 | drop
 deriving Inhabited
structure nf where
 bE:List (Nat×Nat):=[]
 iE:Option (Nat×Nat):=none
 deriving DecidableEq
inductive Src where
 | row (r:Nat)
 | ak (r k:Nat) (I:ab)
 deriving Inhabited
structure Cp where
 a0:List Src:=[]
 dv:List iD:=[]
 ac:List lm
 r:aB
 fy:List (List ab):=[]
 ib:lm:= .bx (.dM .id)
 kj:List iD:=[]
 fU:List Nat:=[]
 fP:Bool:=true
inductive fB where
 | none
 | aa (t:Bool)
 | b7 (c:List aB)
 | gj (I:ab) (c:List aB)
 | fV
 | call (c:Cp)
 | aJ (m:Nat) (I:Option ab:=Option.none)
 | j8 (t:Nat) (v:aB) (a:fB)
 | vA (r:Nat) (a:fB)
 | tE (r n:Nat) (a:fB)
structure h8 where
 val:aB
 fO:List (Nat×List ab):=[]
 fx:List Prop:=[]
def AK (P:Program)(t:TypeId):Bool :=
 match P.underlying t with
 | some (.struct _)|some (.array _ _)=>true
 | _=>false
def ym (nl:List Int):ByteArray:=nl.foldl (fun r n=>r.push (UInt8.ofNat n.toNat)) ByteArray.empty
def bytesOf:List (List aB)→Option (List Int)
 | []=>some []
 | [.n .u8 n]::es=>(bytesOf es).map (n :: ·)
 | _=>none
def elemAt (es:List (List aB))(i:Nat):fB→Option (List aB×List Prop)
 | .b7 c=>some (c,[es[i]? = some c])
 | .gj _ c=>some (c,[es[i]? = some c])
 | _=>match es[i]? with
  | some c=>some (c,[])
  | none=>none
def oK (row:Option (List ab))(k:Nat):fB→Option (ab×List Prop)
 | .gj I _=>match row with
  | some row=>some (I,[dg (some row) k=some I])
  | none=>none
 | _=>match dg row k with
  | some I=>some (I,[])
  | none=>none
def sf (P:Program)(t:TypeId)(c:List aB)(off:Nat):Option aB :=
 if !((P.underlying t).isSome && (P.info? t).isSome) then none else
 if AK P t then (if off+P.cellsOf t≤c.length then some (.agg ((c.drop off).take (P.cellsOf t))) else none)
 else match c[off]? with
  | some x=>if x.one then some x else none
  | none=>none
def Lc (op:BinOp)(x y:aB):Option (aB×List Prop) :=
 match x,y with
 | .n k a,.n dU b =>
  match op with
  | .shl=>some (.n k (k.wrap (a*2 ^ (min b.toNat k.bits))),[0≤b])
  | .shr=>some (.n k (a.fdiv (2 ^ (min b.toNat k.bits))),[0≤b])
  | _=>if k≠dU then none else
   match op with
   | .add=>some (.n k (k.wrap (a+b)),[])
   | .sub=>some (.n k (k.wrap (a-b)),[])
   | .mul=>some (.n k (k.wrap (a*b)),[])
   | .quo=>some (.n k (k.wrap (a.tdiv b)),[b≠0])
   | .rem=>some (.n k (a.tmod b),[b≠0])
   | .and=>some (.n k (k.wrap ((BitVec.ofInt k.bits a &&& BitVec.ofInt k.bits b).toNat)),[])
   | .or=>some (.n k (k.wrap ((BitVec.ofInt k.bits a ||| BitVec.ofInt k.bits b).toNat)),[])
   | .xor=>some (.n k (k.wrap ((BitVec.ofInt k.bits a ^^^ BitVec.ofInt k.bits b).toNat)),[])
   | .eql=>some (.b (a == b),[])
   | .neq=>some (.b (a != b),[])
   | .lss=>some (.b (decide (a<b)),[])
   | .leq=>some (.b (decide (a≤b)),[])
   | .gtr=>some (.b (decide (b<a)),[])
   | .geq=>some (.b (decide (b≤a)),[])
   | _=>none
 | .s a,.s b =>
  match op with
  | .add=>some (.s (a++b),[a.size+b.size<9223372036854775808])
  | .eql=>some (.b (a.toList == b.toList),[])
  | .neq=>some (.b (!(a.toList == b.toList)),[])
  | _=>none
 | _,_=>none
def rJ (P:Program)(t:TypeId)(x y:aB):Option Bool :=
 match P.underlying t,x,y with
 | some .bool,.b a,.b c=>some (a == c)
 | some (.pointer _),.h6,.h6=>some true
 | some (.pointer _),.d6 ..,.h6=>some false
 | some (.pointer _),.h6,.d6 .. => some false
 | some (.slice _),.eU,.eU=>some true
 | some (.slice _),.iQ,.eU=>some false
 | _,_,_=>none
def Ly (op:UnOp)(x:aB):Option aB :=
 match op,x with
 | .neg,.n k a=>some (.n k (k.wrap (0-a)))
 | .not,.b a=>some (.b (!a))
 | _,_=>none
def fieldsOf (P:Program)(t:TypeId):Option (Array Field) :=
 match P.underlying t with
 | some (.struct kH)=>some kH
 | _=>none
def px (P:Program)(t:TypeId):Option TypeId :=
 match P.underlying t with
 | some (.slice e)=>some e
 | _=>none
def qA (P:Program)(t:TypeId):Option (List aB) :=
 match P.info? t with
 | some i=>match i.zero with
  | some v=>if v.cells.toList.all (·.oneCell') then some (v.cells.toList.map ofValue) else none
  | none=>none
 | none=>none
def AL:aB→aB→aB
 | .eU,.isl sz []=> .isl sz []
 | .h6,.j7 sz none=> .j7 sz none
 | .eU,.iR r c sz none=> .iR r c sz none
 | x,_=>x
def qN:List aB→List aB→List aB
 | x::z,y::c=>AL x y::qN z c
 | z,_=>z
def sg (z:List aB):fB→List aB
 | .b7 c=>qN z c
 | _=>z
def setCells (c:List aB)(off:Nat)(vs:List aB):List aB:=c.take off++vs++c.drop (off+vs.length)
def tc:List aB→List (Nat×Nat×aB)→Option (List aB)
 | c,[]=>some c
 | c,(off,size,x)::rest =>
  if x.xN && x.cells.length=size && decide (off+size≤c.length) then tc (setCells c off x.cells) rest else none
def yd (sz:Nat):List (List aB)→List (Nat×aB)→Option (List (List aB))
 | es,[]=>some es
 | es,(i,x)::rest=>if x.xN && x.cells.length=sz && decide (i<es.length) then yd sz (es.set i x.cells) rest else none
def ar:Option aB→Nat→Option (Nat×List Prop)
 | none,d=>some (d,[])
 | some (.n _ x),_=>some (x.toNat,[0≤x])
 | _,_=>none
def eQ (P:Program)(E:Nat→aB)(aX:Nat→Option (List ab))(aV:Nat)(I:Oper)(cP:fB):Option h8 :=
 let iu:=fg E
 match I.op with
 | .move x | .assign x=>some {val:=iu x}
 | .pick c a b =>
  match iu c,cP with
  | .b x,.aa t=>some {val:=if t then iu a else iu b,fx:=[x=t]}
  | .b true,_=>some {val:=iu a}
  | .b false,_=>some {val:=iu b}
  | _,_=>none
 | .alloc t =>
  match qA P t with
  | some c=>some {val:= .ref aV 0 0 0,fO:=[(aV,[⟨c.length,[c],.live⟩])]}
  | none=>none
 | .box _ x =>
  match iu x with
  | .agg c=>some {val:= .ref aV 0 0 0,fO:=[(aV,[⟨c.length,[c],.live⟩])]}
  | v=>if v.one then some {val:= .ref aV 0 0 0,fO:=[(aV,[⟨1,[[v]],.live⟩])]} else none
 | .load t x =>
  match iu x with
  | .ref r k i off =>
   match oK (aX r) k cP with
   | some (ak,cb)=>match elemAt ak.es i cP with
    | some (c,aQ)=>match sf P t c off with
     | some v=>some {val:=v,fx:=cb++aQ}
     | none=>none
    | none=>none
   | none=>none
  | .d6 _ es i off =>
   match elemAt es i cP with
   | some (c,aQ)=>match sf P t c off with
    | some v=>some {val:=v,fx:=aQ}
    | none=>none
   | none=>none
  | _=>none
 | .store t x y =>
  match iu x with
  | .ref r k i off =>
   match aX r with
   | none=>none
   | some row =>
   match oK (some row) k cP with
   | some (ak,cb) =>
    if ak.cw≠ .live then none else
    let v:=iu y
    if v.xN=false then none else
    if v.cells.length≠P.cellsOf t∨(P.info? t).isSome=false then none else
    match cP with
    | .fV=>if off=0 then some {val:= .dead,fO:=[(r,row.set k {ak with es:=ak.es.set i v.cells})],fx:=cb++[i<ak.es.length,v.cells.length=ak.sz]} else none
    | _=>match elemAt ak.es i cP with
     | some (c,aQ)=>if off+v.cells.length≤c.length then some {val:= .dead,fO:=[(r,row.set k {ak with es:=ak.es.set i (setCells c off v.cells)})],fx:=cb++aQ} else none
     | none=>none
   | none=>none
  | _=>none
 | .nilCheck x =>
  match iu x with
  | .ref r k i off=>match oK (aX r) k cP with
   | some (ak,cb)=>match elemAt ak.es i cP with
    | some (_,aQ)=>some {val:= .ref r k i off,fx:=cb++aQ}
    | none=>none
   | none=>none
  | .d6 sz es i off=>some {val:= .d6 sz es i off}
  | .fn f c=>some {val:= .fn f c}
  | _=>none
 | .binOp op t x y _ =>
  match Lc op (iu x) (iu y) with
  | some (v,ak)=>some {val:=v,fx:=ak}
  | none=>match op with
   | .eql=>(rJ P t (iu x) (iu y)).map fun r=>{val:= .b r}
   | .neq=>(rJ P t (iu x) (iu y)).map fun r=>{val:= .b (!r)}
   | _=>none
 | .unOp op _ x=>(Ly op (iu x)).map fun v=>{val:=v}
 | .convert src dst x =>
  match P.underlying dst,iu x with
  | some (.int k),.n _ a=>if (P.underlying src).isSome then some {val:= .n k (k.wrap a)} else none
  | some .string,.bm r k bU len =>
   match (px P src).bind P.underlying,dg (aX r) k with
   | some (.int .u8),some ak=>match bytesOf ((ak.es.drop bU).take len) with
    | some nl=>if bU+len≤ak.es.length∧ak.sz=1 then some {val:= .s (ym nl)} else none
    | none=>none
   | _,_=>none
  | _,_=>none
 | .makeFunc (.func f) first captured =>
  if first.size=0 then some {val:= .fn f (captured.toList.map iu)} else none
 | .makeSlice t l c =>
  match px P t,iu l,iu c with
  | some e,.n _ l,.n _ c =>
   match P.info? e,qA P e with
   | some i,some z=>if z.length=i.size then some {val:= .bm aV 0 0 l.toNat,fO:=[(aV,[⟨z.length,List.replicate l.toNat (sg z cP),.live⟩])],fx:=[0≤l,l≤c,(i.bytes:Int)*c≤281474976710656,c<9223372036854775808]} else none
   | _,_=>none
  | _,_,_=>none
 | .fieldAddr t x f =>
  match fieldsOf P t with
  | some kH=>match kH[f]? with
   | some fd=>if P.cellsOf fd.type=0 then none else
    match iu x with
    | .ref r k i off=>match oK (aX r) k cP with
     | some (ak,cb)=>match elemAt ak.es i cP with
      | some (_,aQ)=>some {val:= .ref r k i (off+fd.offset),fx:=cb++aQ}
      | none=>none
     | none=>none
    | .d6 sz es i off=>some {val:= .d6 sz es i (off+fd.offset)}
    | _=>none
   | none=>none
  | none=>none
 | .field t x f =>
  match fieldsOf P t with
  | some kH=>match kH[f]?,iu x with
   | some fd,.agg c=>(sf P fd.type c fd.offset).map fun v=>{val:=v}
   | _,_=>none
  | none=>none
 | .indexAddr t x mz =>
  match px P t,iu mz with
  | some e,.n _ j =>
   match iu x with
   | .isl sz es=>if sz=P.cellsOf e∧sz≠0 then some {val:= .d6 sz es j.toNat 0,fx:=[0≤j,j<es.length]} else none
   | .bm r k bU len=>match aX r with
    | some row=>match oK (some row) k cP with
     | some (ak,cb)=>if ak.sz=P.cellsOf e∧ak.sz≠0 then some {val:= .ref r k (bU+j.toNat) 0,fx:=cb++[0≤j,j<len]} else none
     | none=>none
    | none=>none
   | _=>none
  | _,_=>none
 | .index t x mz =>
  match P.underlying t,iu x,iu mz with
  | some .string,.s s,.n _ j=>some {val:= .n .u8 (s.data.toList.getD j.toNat 0).toNat,fx:=[0≤j,j<s.size]}
  | _,_,_=>none
 | .extract x i =>
  match iu x with
  | .d7 vs=>(vs[i]?).map fun v=>{val:=v}
  | _=>none
 | .slice t x bU ah none =>
  match P.underlying t,iu x with
  | some (.slice e),.isl sz es =>
   match ar (bU.map iu) 0,ar (ah.map iu) es.length with
   | some (l,cb),some (h,aQ)=>if sz=P.cellsOf e∧sz≠0 then some {val:= .isl sz ((es.drop l).take (h-l)),fx:=cb++aQ++[l≤h,h≤es.length]} else none
   | _,_=>none
  | some (.slice e),.bm r k SV len =>
   match aX r with
   | none=>none
   | some row=>match oK (some row) k cP with
    | none=>none
    | some (ak,SW) =>
     match ar (bU.map iu) 0,ar (ah.map iu) len with
     | some (l,cb),some (h,aQ)=>if ak.sz=P.cellsOf e∧ak.sz≠0 then some {val:= .bm r k (SV+l) (h-l),fx:=SW++cb++aQ++[l≤h,h≤len]} else none
     | _,_=>none
  | some .string,.s s =>
   match ar (bU.map iu) 0,ar (ah.map iu) s.size with
   | some (l,cb),some (h,aQ)=>some {val:= .s (s.extract l h),fx:=cb++aQ++[l≤h,h≤s.size]}
   | _,_=>none
  | _,_=>none
 | .build t parts =>
  match fieldsOf P t,qA P t with
  | some kH,some z =>
   if kH.toList.all (fun f=>(P.info? f.type).isSome)=false then none else
   match parts.toList.mapM fun (p:Nat×Operand)=>(kH[p.1]?).map fun fd=>(fd.offset,P.cellsOf fd.type,iu p.2) with
   | some l=>(tc z l).map fun c=>{val:= .agg c}
   | none=>none
  | _,_=>none
 | .buildSlice t len parts =>
  match px P t with
  | some e=>match qA P e with
   | some z =>
    if len*z.length>16777216∨z.length≠P.cellsOf e∨z.length=0 then none else
    match yd z.length (List.replicate len z) (parts.toList.map fun p=>(p.1,iu p.2)) with
    | some es=>some {val:= .bm aV 0 0 len,fO:=[(aV,[⟨z.length,es,.live⟩])]}
    | none=>none
   | none=>none
  | none=>none
 | .call {callee:= .builtin .len,args,argTypes} =>
  match args.toList.map iu,P.underlying (argTypes.getD 0 0),decide (argTypes.size=1) with
  | [.isl _ es],some (.slice _),true=>some {val:= .n .i64 es.length}
  | [.bm r k _ len],some (.slice _),true=>match aX r with
   | some row=>match oK (some row) k cP with
    | some (_,cb)=>some {val:= .n .i64 len,fx:=cb}
    | none=>none
   | none=>none
  | [.eU],some (.slice _),true=>some {val:= .n .i64 0}
  | [.s x],some .string,true=>some {val:= .n .i64 x.size}
  | _,_,_=>none
 | _=>none
end Go.VL
namespace Go.VL
set_option linter.unusedVariables false
set_option linter.unusedSimpArgs false
open Go
theorem o3 {α:Type}{sz:Nat}(bS:0<sz): ∀(es:List (List α)) (_ : ∀e∈es,e.length=sz) (j:Nat),
 es.flatten[j]? = (es[j / sz]?).bind (·[j % sz]?)
 | [],_,j=>by simp
 | e::es,h,j=>by
  have he:e.length=sz:=h e (by simp)
  rw [List.flatten_cons,List.getElem?_append]
  by_cases aC:j<sz
  ·rw [if_pos (by omega),Nat.div_eq_of_lt aC,Nat.mod_eq_of_lt aC];simp
  ·rw [if_neg (by omega),he,o3 bS es (fun ep lS=>h ep (by simp [lS])) (j-sz)]
   have h1:j / sz=(j-sz) / sz+1:=Nat.div_eq_sub_div bS (by omega)
   have o:j % sz=(j-sz) % sz:=Nat.mod_eq_sub_mod (by omega)
   rw [h1,o];simp
theorem Ag {α:Type}{sz:Nat}{es:List (List α)}(aT:∀e∈es,e.length=sz){i:Nat}{c:List α}(he:es[i]? = some c){j:Nat}(aC:j<sz):
 es.flatten[i*sz+j]? = c[j]? := by
 have bS:0<sz:=by omega
 rw [o3 bS es aT]
 have h1:(i*sz+j) / sz=i:=by
  rw [Nat.mul_comm,Nat.mul_add_div bS,Nat.div_eq_of_lt aC];omega
 have o:(i*sz+j) % sz=j:=by
  rw [Nat.mul_comm,Nat.mul_add_mod,Nat.mod_eq_of_lt aC]
 rw [h1,o,he];rfl
theorem Ou {α:Type}{sz:Nat}{es:List (List α)}(aT:∀e∈es,e.length=sz){i:Nat}{c dL:List α}(he:es[i]? = some c)(bf:dL.length=sz)(j:Nat):
 (es.set i dL).flatten[j]? = if i*sz≤j∧j<i*sz+sz then dL[j-i*sz]? else es.flatten[j]? := by
 rcases Nat.eq_zero_or_pos sz with h0|bS
 ·subst h0
  have e1 : ∀(l:List (List α)),(∀e∈l,e.length=0)→l.flatten=[]:=by
   intro l aT;induction l with
   | nil=>rfl
   | cons a l ih=>rw [List.flatten_cons,ih fun e he=>aT e (by simp [he])];have:=aT a (by simp);simp_all
  rw [e1 _ aT,e1 (es.set i dL) (by
   intro e hm
   rcases List.mem_or_eq_of_mem_set hm with h|h
   ·exact aT e h
   ·exact h▸bf)]
  simp
 ·have Lz : ∀e∈es.set i dL,e.length=sz:=by
   intro e hm
   rcases List.mem_or_eq_of_mem_set hm with h|h
   ·exact aT e h
   ·exact h▸bf
  have ah:i<es.length:=by
   rcases Nat.lt_or_ge i es.length with h|h
   ·exact h
   ·rw [List.getElem?_eq_none h] at he;simp at he
  rw [o3 bS _ Lz,o3 bS _ aT]
  by_cases a7:j / sz=i
  ·have h1:i*sz≤j∧j<i*sz+sz:=by
    subst a7
    constructor
    ·exact Nat.div_mul_le_self j sz
    ·have:=Nat.lt_div_mul_add (a:=j) bS;omega
   rw [if_pos h1,a7,List.getElem?_set_self ah]
   have:j % sz=j-i*sz:=by
    subst a7;have:=Nat.div_add_mod j sz;rw [Nat.mul_comm] at this;omega
   simp [this]
  ·have h1 : ¬(i*sz≤j∧j<i*sz+sz):=by
    rintro ⟨a,b⟩
    apply a7
    obtain ⟨d,rfl⟩ : ∃d,j=i*sz+d:=⟨j-i*sz,by omega⟩
    rw [Nat.mul_comm i sz,Nat.mul_add_div bS,Nat.div_eq_of_lt (by omega)]
    omega
   rw [if_neg h1,List.getElem?_set_ne (Ne.symm a7)]
def ob (w:World)(ok:Nat→Prop)(a5:jf)(bi:i4)(eb I sz:Nat)(es:List (List aB)):Prop :=
 (∀e∈es,e.length=sz)∧ ∀(j:Nat) x,es.flatten[j]? = some x→ ∃v,w.cell? ⟨eb,I+j,none⟩=some v∧ke v=true∧Rel w ok a5 bi x v
theorem jo.rd {w:World}{ok:Nat→Prop}{a5:jf}{bi:i4}{I:ab}{eb m:Nat}(h:jo w ok a5 bi I (some (eb,m))):ob w ok a5 bi eb 0 I.sz I.es:=by
 obtain ⟨c,eE,h1,o,ae,au⟩:=h
 refine ⟨ae,fun j x U=> ?_⟩
 obtain ⟨v,e1,aE,bT⟩:=au j x U
 exact ⟨v,by rw [cell_of_row w eb (0+j) c eE (0,0) h1,Nat.zero_add];exact e1,aE,bT⟩
theorem afd {w:World}{ok:Nat→Prop}{a5:jf}{bi:i4}{x:aB}{v:Value}(h:Rel w ok a5 bi x v)(ap:x.one=true):v.oneCell'=true:=h.ke ap
theorem Pa {P:Program}{t:TypeId}(h:(P.underlying t).isSome=true)(w:World):(isAgg t).run P w = .ok (AK P t) w:=by
 cases bE:P.underlying t with
 | none=>simp [bE] at h
 | some d=>cases d<;>simp [isAgg,AK,run_underlying bE,bE]
theorem uo {P:Program}{t:TypeId}(h:(P.info? t).isSome=true)(w:World):(sizeOf t).run P w = .ok (P.cellsOf t) w:=by
 cases ah:P.info? t with
 | none=>simp [ah] at h
 | some i=>simp [sizeOf,typeInfo,ah,Program.cellsOf]
theorem rv (b I n:Nat):(⟨b,I,none⟩:Addr).add n=⟨b,I+n,none⟩:=by unfold Addr.add;split<;>simp_all
theorem JV {P:Program}{w:World}{ok:Nat→Prop}{a5:jf}{bi:i4}{eb I sz i off:Nat}{es:List (List aB)}{c:List aB}{t:TypeId}{x:aB}
 (im:ob w ok a5 bi eb I sz es) (he:es[i]? = some c) (cf:sf P t c off=some x) :
 ∃v,(Instr.loadAt t (.pointer (some ⟨eb,I+(i*sz+off),none⟩))).run P w = .ok v w∧Rel w ok a5 bi x v:=by
 have hlen:c.length=sz:=im.1 c (List.mem_of_getElem? he)
 unfold sf at cf
 split at cf
 ·simp at cf
 ·rename_i ah
  simp only [Bool.not_eq_true',Bool.not_eq_false,Bool.and_eq_true] at ah
  have j4 : ∀j,j<sz→ ∃y v,c[j]? = some y∧w.cell? ⟨eb,I+(i*sz+j),none⟩=some v∧ke v=true∧Rel w ok a5 bi y v:=by
   intro j aC
   have aW:c[j]? = some c[j]:=List.getElem?_eq_getElem (by omega)
   obtain ⟨v,e1,aE,bT⟩:=im.2 (i*sz+j) c[j] (by rw [Ag im.1 he aC,aW])
   exact ⟨_,v,aW,e1,aE,bT⟩
  simp only [Instr.loadAt,Instr.sureAddr,loadVar,Sem.run_bind,Sem.run_pure,Result.andThen,Pa ah.1,uo ah.2]
  split at cf
  ·rename_i qU
   rw [qU]
   split at cf
   ·rename_i hle
    simp at cf;subst cf
    have aT:=run_loadCells (P:=P) w ⟨eb,I+(i*sz+off),none⟩ (P.cellsOf t) (fun j=>(w.cell? ⟨eb,I+(i*sz+(off+j)),none⟩).getD undef) (by
     intro j aC
     obtain ⟨y,v,-,e1,-,-⟩:=j4 (off+j) (by omega)
     rw [rv,show I+(i*sz+off)+j=I+(i*sz+(off+j)) by omega,e1];rfl)
    refine ⟨.agg (List.map (fun j=>(w.cell? ⟨eb,I+(i*sz+(off+j)),none⟩).getD undef) (List.range (P.cellsOf t))).toArray,by simp [aT,Result.andThen,uo ah.2],?_⟩
    refine .agg _ (by simp;omega) ?_ ?_
    ·intro j v bh
     rw [List.getElem?_map,Option.map_eq_some_iff] at bh
     obtain ⟨q,lT,rfl⟩:=bh
     obtain ⟨n4,ys⟩:=List.getElem?_eq_some_iff.1 lT
     have a7:j<P.cellsOf t:=by simpa using n4
     obtain rfl:j=q:=by simpa using ys
     obtain ⟨y,v,-,e1,aE,-⟩:=j4 (off+j) (by omega)
     rw [e1];exact aE
    ·intro j y v aW bh
     rw [List.getElem?_map,Option.map_eq_some_iff] at bh
     obtain ⟨q,lT,rfl⟩:=bh
     obtain ⟨n4,ys⟩:=List.getElem?_eq_some_iff.1 lT
     have a7:j<P.cellsOf t:=by simpa using n4
     obtain rfl:j=q:=by simpa using ys
     rw [List.getElem?_take,if_pos a7,List.getElem?_drop] at aW
     obtain ⟨lY,v,h0,e1,aE,bT⟩:=j4 (off+j) (by omega)
     rw [h0] at aW;simp at aW;subst aW
     rw [e1];exact bT
   ·simp at cf
  ·rename_i qU
   have qU:AK P t=false:=by simpa using qU
   rw [qU]
   split at cf
   ·rename_i y aW
    split at cf
    ·simp at cf;subst cf
     have yn:off<sz:=by
      rcases Nat.lt_or_ge off c.length with h|h
      ·omega
      ·rw [List.getElem?_eq_none h] at aW;simp at aW
     obtain ⟨lY,v,h0,e1,aE,bT⟩:=j4 off yn
     rw [h0] at aW;simp at aW;subst aW
     exact ⟨v,by simp [e1],bT⟩
    ·simp at cf
   ·simp at cf
theorem NR {c:List aB}{off:Nat}{vs:List aB}(h:off+vs.length≤c.length):(setCells c off vs).length=c.length:=by
 simp [setCells];omega
theorem JN {c:List aB}{off:Nat}{vs:List aB}(h:off+vs.length≤c.length)(j:Nat):
 (setCells c off vs)[j]? = if off≤j∧j<off+vs.length then vs[j-off]? else c[j]? := by
 unfold setCells
 rw [List.append_assoc,List.getElem?_append]
 have h1:(c.take off).length=off:=by simp;omega
 rw [h1]
 by_cases a:j<off
 ·rw [if_pos a,if_neg (by omega),List.getElem?_take,if_pos a]
 ·rw [if_neg a,List.getElem?_append]
  by_cases b:j<off+vs.length
  ·rw [if_pos (by omega),if_pos ⟨by omega,b⟩]
  ·rw [if_neg (by omega),if_neg (by omega),List.getElem?_drop]
   congr 1;omega
theorem abA {c:Array Value}{p:Nat}{vs:List Value}(h:p+vs.length≤c.size)(j:Nat):
 (c.toList.take p++vs++c.toList.drop (p+vs.length)).toArray[j]? = if p≤j∧j<p+vs.length then vs[j-p]? else c[j]? := by
 rw [List.getElem?_toArray,List.append_assoc,List.getElem?_append]
 have h1:(c.toList.take p).length=p:=by simp;omega
 rw [h1]
 by_cases a:j<p
 ·rw [if_pos a,if_neg (by omega),List.getElem?_take,if_pos a,Array.getElem?_toList]
 ·rw [if_neg a,List.getElem?_append]
  by_cases b:j<p+vs.length
  ·rw [if_pos (by omega),if_pos ⟨by omega,b⟩]
  ·rw [if_neg (by omega),if_neg (by omega),List.getElem?_drop,Array.getElem?_toList]
   congr 1;omega
theorem Ys {P:Program}{g:G}{s:S}{ay:fo}{a:Act}{w:World}(h:cM g s ay a w){r k b m i off:Nat}{l:List ab}{I:ab}{c:List aB}
 (ao:s.aX r=some l) (ap:s.ak r k=some I) (a6:I.cw = .live) (ai:ay r k=some (b,m)) (he:I.es[i]? = some c)
 {t:TypeId} (LA:(P.info? t).isSome=true) {x:aB} {v:Value} (U:Rel w (s.ok g ay w) s.a5 (s.bi ay) x v) (lQ:x.one=true∨ ∃c,x = .agg c)
 (eP:x.cells.length=P.cellsOf t) (ik:off+x.cells.length≤c.length) :
 ∃bL,(Instr.storeAt t (.pointer (some ⟨b,i*I.sz+off,none⟩)) v).run P w = .ok () bL ∧
  cM g (s.setRow r (l.set k {I with es:=I.es.set i (setCells c off x.cells)})) ay a bL:=by
 obtain ⟨vs,bh,pB,j4,fv⟩:=U.cellsOf lQ
 have bo:=h.obj r k I ap
 rw [ai] at bo
 obtain ⟨cr,eE,h1,o,ae,au⟩:=bo
 have hlen:c.length=I.sz:=ae c (List.mem_of_getElem? he)
 have yo:i*I.sz+off+vs.length≤cr.size:=by
  rcases Nat.eq_zero_or_pos I.sz with cC|cC
  ·have:off=0:=by omega
   have:vs.length=0:=by omega
   rw [cC];omega
  ·have aT:I.es.flatten[i*I.sz+(I.sz-1)]? = some (c[I.sz-1]'(by omega)):=by
    rw [Ag ae he (by omega)];exact List.getElem?_eq_getElem (by omega)
   obtain ⟨SX,e1,-,-⟩:=au _ _ aT
   have:=(Array.getElem?_eq_some_iff.1 e1).1
   omega
 have me:=run_storeCells_at P b (i*I.sz+off) eE vs 0 cr w h1 (by simpa using yo) (fun SX BE=>by
  obtain ⟨q,a7⟩:=List.getElem?_of_mem BE
  exact j4 q SX a7)
 simp only [Nat.add_zero] at me
 have iW:(Instr.storeAt t (.pointer (some ⟨b,i*I.sz+off,none⟩)) v).run P w =
  .ok () (w.setRow b (cr.toList.take (i*I.sz+off)++vs++cr.toList.drop (i*I.sz+off+vs.length)).toArray):=by
  have bS:v.cells.size=P.cellsOf t:=by rw [bh];simpa using pB.trans eP
  simp only [Instr.storeAt,Instr.sureAddr,storeVar,Sem.run_bind,Sem.run_pure,Result.andThen,uo LA,bS,ne_eq,not_true_eq_false,if_false]
  rw [bh]
  simpa using me
 refine ⟨_,iW,?_⟩
 have acw:(w.setRow b (cr.toList.take (i*I.sz+off)++vs++cr.toList.drop (i*I.sz+off+vs.length)).toArray).heap.size=w.heap.size:=size_setRow _ _ _
 have sw:(setCells c off x.cells).length=I.sz:=by rw [NR ik];exact hlen
 refine (h.write ao ap a6 ai _ _ eE (setRow_heap w b cr _ eE _ h1) acw (fun q a7=>setRow_other w b q _ a7) rfl rfl rfl ?_ ?_ ?_).1
 ·simp;omega
 ·intro e hm
  rcases List.mem_or_eq_of_mem_set hm with cI|cI
  ·exact ae e cI
  ·exact cI▸sw
 ·intro j y aW
  rw [abA yo]
  rw [Ou ae he sw] at aW
  by_cases lU:i*I.sz≤j∧j<i*I.sz+I.sz
  ·rw [if_pos lU,JN ik] at aW
   by_cases Ro:off≤j-i*I.sz∧j-i*I.sz<off+x.cells.length
   ·rw [if_pos Ro] at aW
    rw [if_pos ⟨by omega,by omega⟩]
    have a7:j-(i*I.sz+off)<vs.length:=by omega
    refine ⟨vs[j-(i*I.sz+off)],List.getElem?_eq_getElem a7,j4 _ _ (List.getElem?_eq_getElem a7),fv (j-i*I.sz-off) y _ aW ?_⟩
    rw [show j-i*I.sz-off=j-(i*I.sz+off) by omega]
    exact List.getElem?_eq_getElem a7
   ·rw [if_neg Ro] at aW
    rw [if_neg (by omega)]
    refine au j y ?_
    rw [show j=i*I.sz+(j-i*I.sz) by omega,Ag ae he (by omega)]
    exact aW
  ·rw [if_neg lU] at aW
   rw [if_neg (by rw [pB];omega)]
   exact au j y aW
end Go.VL
namespace Go.VL
set_option linter.unusedVariables false
set_option linter.unusedSimpArgs false
open Go
def S.h2 (s:S)(u:List (Nat×List ab)):S:=u.foldl (fun s p=>s.setRow p.1 p.2) s
@[simp] theorem S.afn (s:S):s.h2 []=s:=rfl
@[simp] theorem S.afo (s:S) (p:Nat×List ab):s.h2 [p]=s.setRow p.1 p.2:=rfl
section
variable {w:World} {ok:Nat→Prop} {a5:jf} {bi:i4} {v:Value}
theorem Rel.td {x:Bool}(h:Rel w ok a5 bi (.b x) v):v = .bool x:=by cases h;rfl
theorem Rel.o9 {k:IntKind}{x:Int}(h:Rel w ok a5 bi (.n k x) v):v = .int k x:=by cases h;rfl
theorem Rel.ye {x:ByteArray}(h:Rel w ok a5 bi (.s x) v):v = .string x:=by cases h;rfl
theorem Rel.uB (h:Rel w ok a5 bi .h6 v):v = .pointer none:=by cases h;rfl
theorem Rel.ps (h:Rel w ok a5 bi .eU v):v = .slice none 0 0:=by cases h;rfl
theorem Rel.DX (h:Rel w ok a5 bi .iQ v): ∃a c,v = .slice (some a) 0 c:=by cases h;exact ⟨_,_,rfl⟩
theorem Rel.PD {sz:Nat}(h:Rel w ok a5 bi (.j7 sz none) v):v = .pointer none:=by cases h;rfl
theorem Rel.Kd {sz:Nat}{c:List aB}(h:Rel w ok a5 bi (.j7 sz (some c)) v):Rel w ok a5 bi (.d6 sz [c] 0 0) v:=by cases h;assumption
theorem Rel.D9 {f:Nat}{c:List aB}(h:Rel w ok a5 bi (.fn f c) v): ∃vs:List Value,v = .func (.func f) #[] vs.toArray∧vs.length=c.length ∧
 ∀(j:Nat) x u,c[j]? = some x→vs[j]? = some u→Rel w ok a5 bi x u:=by
 cases h with|fn vs aT ao=>exact ⟨vs,rfl,aT,ao⟩
theorem Rel.AA {c:List aB}(h:Rel w ok a5 bi (.agg c) v): ∃vs:List Value,v = .agg vs.toArray∧vs.length=c.length∧(∀(j:Nat) u,vs[j]? = some u→VL.ke u=true) ∧
 ∀(j:Nat) x u,c[j]? = some x→vs[j]? = some u→Rel w ok a5 bi x u:=by
 cases h with|agg vs aT bf ao=>exact ⟨vs,rfl,aT,bf,ao⟩
theorem Rel.xV {c:List aB}(h:Rel w ok a5 bi (.d7 c) v): ∃vs:List Value,v = .tuple vs.toArray∧vs.length=c.length ∧
 ∀(j:Nat) x u,c[j]? = some x→vs[j]? = some u→Rel w ok a5 bi x u:=by
 cases h with|d7 vs aT ao=>exact ⟨vs,rfl,aT,ao⟩
theorem Rel.xW {r k i off sz:Nat}{p:Option (Nat×Nat)}(h:Rel w ok a5 bi (.ref r k i off) v)(cf:bi r k=some (sz,p)):
 p=none∨ ∃b m,p=some (b,m)∧v = .pointer (some ⟨b,i*sz+off,none⟩):=by
 cases h with
 | pu a hu a3 =>
  cases p with
  | none=>exact .inl rfl
  | some q=>exact absurd cf (a3 _ _)
 | ref hu h =>
  rw [cf] at h
  simp only [Option.some.injEq,Prod.mk.injEq] at h
  obtain ⟨rfl,rfl⟩:=h
  exact .inr ⟨_,_,rfl,rfl⟩
theorem Rel.aft {r k i off:Nat}(h:Rel w ok a5 bi (.ref r k i off) v): ∃a,v = .pointer a:=by
 cases h with
 | pu a=>exact ⟨a,rfl⟩
 | ref=>exact ⟨_,rfl⟩
theorem Rel.Zq {r k i off sz b m:Nat}(h:Rel w ok a5 bi (.ref r k i off) v)(cf:bi r k=some (sz,some (b,m)))(Rp:Nat):
 Rel w ok a5 bi (.ref r k i Rp) (.pointer (some ⟨b,i*sz+Rp,none⟩)):=by
 cases h with
 | pu a hu a3=>exact absurd cf (a3 _ _)
 | ref hu h=>exact .ref hu cf
theorem Rel.xX {sz i off:Nat}{es:List (List aB)}(h:Rel w ok a5 bi (.d6 sz es i off) v): ∃eb I,(ok eb∧jM es)∧v = .pointer (some ⟨eb,I+(i*sz+off),none⟩)∧ob w ok a5 bi eb I sz es:=by
 cases h with
 | d6 cs aR ai aT hw bf ao=>exact ⟨_,_,⟨aR,ai⟩,rfl,aT,fun j x U=>⟨cs j,hw j x U,bf j x U,ao j x U⟩⟩
theorem Rel.AB {r k bU len sz:Nat}{p:Option (Nat×Nat)}(h:Rel w ok a5 bi (.bm r k bU len) v)(cf:bi r k=some (sz,p)):
 (p=none∧bU=0∧len=0∧v = .slice none 0 0)∨ ∃b m a c,p=some (b,m)∧v = .slice a len c∧len≤c∧c<9223372036854775808∧(c=0∨(a=some ⟨b,bU*sz,none⟩∧(bU+c)*sz=m)):=by
 cases h with
 | m8 a l c hu a3=>rw [cf] at a3;simp at a3
 | nr hu h =>
  rw [cf] at h
  simp only [Option.some.injEq,Prod.mk.injEq] at h
  exact .inl ⟨h.2,rfl,rfl,rfl⟩
 | bm hu h aT bf hm =>
  rw [cf] at h
  simp only [Option.some.injEq,Prod.mk.injEq] at h
  obtain ⟨rfl,rfl⟩:=h
  exact .inr ⟨_,_,_,_,rfl,rfl,aT,bf,hm.2.imp id fun e=>⟨e,hm.1⟩⟩
theorem Rel.uC {r k bU len sz:Nat}{p:Option (Nat×Nat)}(h:Rel w ok a5 bi (.bm r k bU len) v)(cf:bi r k=some (sz,p)):
 (p=none∧bU=0∧len=0∧v = .slice none 0 0)∨ ∃b m a c,p=some (b,m)∧v = .slice a len c∧len≤c∧c<9223372036854775808∧(bU+c)*sz=m∧(c=0∨a=some ⟨b,bU*sz,none⟩):=by
 cases h with
 | m8 a l c hu a3=>rw [cf] at a3;simp at a3
 | nr hu h =>
  rw [cf] at h
  simp only [Option.some.injEq,Prod.mk.injEq] at h
  exact .inl ⟨h.2,rfl,rfl,rfl⟩
 | bm hu h aT bf hm =>
  rw [cf] at h
  simp only [Option.some.injEq,Prod.mk.injEq] at h
  obtain ⟨rfl,rfl⟩:=h
  exact .inr ⟨_,_,_,_,rfl,rfl,aT,bf,hm⟩
theorem Rel.afe {r k bU len:Nat}(h:Rel w ok a5 bi (.bm r k bU len) v): ∃a l c,v = .slice a l c:=by
 cases h<;>exact ⟨_,_,_,rfl⟩
theorem Rel.r9 {sz:Nat}{es:List (List aB)}(h:Rel w ok a5 bi (.isl sz es) v):
 (es=[]∧ ∃a c,v = .slice a 0 c∧(a=none→c=0))∨ ∃eb off c,(ok eb∧jM es)∧v = .slice (some ⟨eb,off,none⟩) es.length c∧es.length≤c∧ob w ok a5 bi eb off sz es:=by
 cases h with
 | kg sz a c h=>exact .inl ⟨rfl,a,c,rfl,h⟩
 | isl cs aR ai aT bf hw iB ao=>exact .inr ⟨_,_,_,⟨aR,ai⟩,rfl,bf,aT,fun j x U=>⟨cs j,hw j x U,iB j x U,ao j x U⟩⟩
theorem ob.isl {eb off c sz:Nat}{es:List (List aB)}(h:ob w ok a5 bi eb off sz es)(aR:ok eb∧jM es)(bf:es.length≤c):Rel w ok a5 bi (.isl sz es) (.slice (some ⟨eb,off,none⟩) es.length c):=by
 have U : ∀j:Nat,∃v,∀x,es.flatten[j]? = some x→w.cell? ⟨eb,off+j,none⟩=some v∧VL.ke v=true∧Rel w ok a5 bi x v:=by
  intro j
  cases aC:es.flatten[j]? with
  | none=>exact ⟨undef,fun x U=>by simp at U⟩
  | some y =>
   obtain ⟨v,h1⟩:=h.2 j y aC
   exact ⟨v,fun x U=>by simp at U;subst U;exact h1⟩
 exact .isl (fun j=>(U j).choose) aR.1 aR.2 h.1 bf (fun j x aC=>((U j).choose_spec x aC).1) (fun j x aC=>((U j).choose_spec x aC).2.1) (fun j x aC=>((U j).choose_spec x aC).2.2)
theorem ob.d6 {eb I i off sz:Nat}{es:List (List aB)}(h:ob w ok a5 bi eb I sz es)(aR:ok eb∧jM es):Rel w ok a5 bi (.d6 sz es i off) (.pointer (some ⟨eb,I+(i*sz+off),none⟩)):=by
 have U : ∀j:Nat,∃v,∀x,es.flatten[j]? = some x→w.cell? ⟨eb,I+j,none⟩=some v∧VL.ke v=true∧Rel w ok a5 bi x v:=by
  intro j
  cases aC:es.flatten[j]? with
  | none=>exact ⟨undef,fun x U=>by simp at U⟩
  | some y =>
   obtain ⟨v,h1⟩:=h.2 j y aC
   exact ⟨v,fun x U=>by simp at U;subst U;exact h1⟩
 exact .d6 (fun j=>(U j).choose) aR.1 aR.2 h.1 (fun j x aC=>((U j).choose_spec x aC).1) (fun j x aC=>((U j).choose_spec x aC).2.1) (fun j x aC=>((U j).choose_spec x aC).2.2)
end
def Fin (P:Program)(g:G)(s:S)(a:Act)(w:World)(I:Oper)(bD:h8):Prop :=
 ∃v bL bK,((execOp a.eval I).run P w = .ok (.value v) bL∨((execOp a.eval I).run P w = .ok .skip bL∧v=undef)) ∧
  cM g (s.h2 bD.fO) bK a bL∧Rel bL ((s.h2 bD.fO).ok g bK bL) (s.h2 bD.fO).a5 ((s.h2 bD.fO).bi bK) bD.val v
section
variable {P:Program} {g:G} {s:S} {ay:fo} {a:Act} {w:World} {I:Oper} {cP:fB} {aV:Nat} {bD:h8}
theorem iy (h:cM g s ay a w){v:Value}(iW:(execOp a.eval I).run P w = .ok (.value v) w)(hu:bD.fO=[])
 (ao:Rel w (s.ok g ay w) s.a5 (s.bi ay) bD.val v):Fin P g s a w I bD :=
 ⟨v,w,ay,.inl iW,by rw [hu];exact h,by rw [hu];exact ao⟩
theorem P8 {x:Operand}(h:cM g s ay a w)(ap:I.op = .move x∨I.op = .assign x)(aw:eQ P s.E s.aX aV I cP=some bD):Fin P g s a w I bD:=by
 have:bD={val:=fg s.E x}:=by rcases ap with ap|ap<;>simp [eQ,ap] at aw<;>exact aw.symm
 subst this
 refine iy (v:=a.eval x) h ?_ rfl (h.eval x)
 rcases ap with ap|ap<;>simp [execOp,ap]
theorem aa2 {c x y:Operand}(h:cM g s ay a w)(ap:I.op = .pick c x y)(aw:eQ P s.E s.aX aV I cP=some bD)(cF:∀p∈bD.fx,p):Fin P g s a w I bD:=by
 have bf:=h.eval c
 simp only [eQ,ap] at aw
 have key : ∀t:Bool,fg s.E c = .b t→bD.fO=[]→bD.val=(if t then fg s.E x else fg s.E y)→Fin P g s a w I bD:=by
  intro t cf hu bh
  rw [cf] at bf
  have e:a.eval c = .bool t:=bf.td
  refine iy (v:=if t then a.eval x else a.eval y) h (by simp [execOp,ap,e,asBool]) hu ?_
  rw [bh];cases t
  ·exact h.eval y
  ·exact h.eval x
 split at aw
 ·rename_i z t cC
  simp at aw;subst aw
  have e:z=t:=cF _ (by simp)
  subst e
  exact key z cC rfl rfl
 ·rename_i cC _;simp at aw;subst aw;exact key true cC rfl rfl
 ·rename_i cC _;simp at aw;subst aw;exact key false cC rfl rfl
 ·simp at aw
theorem DY (h:cM g s ay a w)(eV:s.aX aV=none){v:Value}{ak:ab}{c:Array Value}{eE:TypeId}(a6:ak.cw = .live)
 (iW:(execOp a.eval I).run P w = .ok (.value v) (w.alloc (.cells c eE))) (hu:bD.fO=[(aV,[ak])]) (hlen : ∀e∈ak.es,e.length=ak.sz)
 (bf : ∀(j:Nat) x,ak.es.flatten[j]? = some x→ ∃v,c[j]? = some v∧ke v=true∧Rel w (s.ok g ay w) s.a5 (s.bi ay) x v)
 (hval : ∀(bL:World) (kQ:Nat→Prop) (mQ:jf) (mc:i4),mQ aV 0→mc aV 0=some (ak.sz,some (w.heap.size,c.size))→Rel bL kQ mQ mc bD.val v):Fin P g s a w I bD:=by
 obtain ⟨bK,ai,bS,-⟩:=h.alloc eV ak a6 c eE hlen bf
 have h1:(s.setRow aV [ak]).a5 aV 0:=by rw [m7];simp
 have o:(s.setRow aV [ak]).bi bK aV 0=some (ak.sz,some (w.heap.size,c.size)):=by simp [S.bi,lv,l3,a6,ai]
 exact ⟨v,_,bK,.inl iW,by rw [hu];exact bS,by rw [hu];exact hval _ _ _ _ h1 o⟩
theorem Ah {t:TypeId}{z:List aB}(cC:qA P t=some z): ∃i eC,P.info? t=some i∧i.zero=some eC∧z=eC.cells.toList.map ofValue ∧
 ∀(j:Nat) x,z[j]? = some x→ ∃v,eC.cells[j]? = some v∧ke v=true∧ ∀(w:World) (ok:Nat→Prop) (a5:jf) (bi:i4),Rel w ok a5 bi x v:=by
 unfold qA at cC
 cases ah:P.info? t with
 | none=>simp [ah] at cC
 | some i =>
  cases k2:i.zero with
  | none=>simp [ah,k2] at cC
  | some eC =>
   simp only [ah,k2] at cC
   split at cC
   ·rename_i ny
    simp only [Option.some.injEq] at cC
    refine ⟨i,eC,rfl,k2,cC.symm,fun j x U=> ?_⟩
    subst cC
    rw [List.getElem?_map,Option.map_eq_some_iff] at U
    obtain ⟨v,bh,rfl⟩:=U
    refine ⟨v,by rw [← Array.getElem?_toList];exact bh,?_,fun w ok a5 bi=>Oq v⟩
    exact List.all_eq_true.1 ny v (List.mem_of_getElem? bh)
   ·simp at cC
theorem Z8 {t:TypeId}(h:cM g s ay a w)(eV:s.aX aV=none)(ap:I.op = .alloc t)(aw:eQ P s.E s.aX aV I cP=some bD):Fin P g s a w I bD:=by
 simp only [eQ,ap] at aw
 split at aw
 ·rename_i z cC
  obtain ⟨i,eC,ah,k2,e,j4⟩:=Ah cC
  simp only [Option.some.injEq] at aw
  subst aw
  refine DY (v:= .pointer (some ⟨w.heap.size,0,none⟩)) (c:=eC.cells) (eE:=t) (ak:=⟨z.length,[z],.live⟩) h eV rfl ?_ rfl (by simp) ?_ ?_
  ·simp [execOp,ap,Instr.alloc,zeroValue,typeInfo,ah,k2,newVar,newRow]
  ·intro j x U
   simp only [List.flatten_cons,List.flatten_nil,List.append_nil] at U
   obtain ⟨v,h1,o,ae⟩:=j4 j x U
   exact ⟨v,h1,o,ae _ _ _ _⟩
  ·intro bL kQ mQ mc hu cf
   have:=Rel.ref (w:=bL) (ok:=kQ) (i:=0) (off:=0) hu cf
   simpa using this
 ·simp at aw
theorem abB {t:TypeId}{x:Operand}(h:cM g s ay a w)(eV:s.aX aV=none)(ap:I.op = .box t x)(aw:eQ P s.E s.aX aV I cP=some bD):Fin P g s a w I bD:=by
 simp only [eQ,ap] at aw
 have U:=h.eval x
 have key : ∀ak:ab,ak.cw = .live→ak.es=[(fg s.E x).cells]→ak.sz=(fg s.E x).cells.length→((fg s.E x).one=true∨ ∃c,fg s.E x = .agg c) →
  bD.fO=[(aV,[ak])]→bD.val = .ref aV 0 0 0→Fin P g s a w I bD:=by
  intro ak a6 hr eP lQ hu bh
  obtain ⟨vs,e1,aE,bT,de⟩:=U.cellsOf lQ
  refine DY (v:= .pointer (some ⟨w.heap.size,0,none⟩)) (c:=(a.eval x).cells) (eE:=t) h eV a6 ?_ hu ?_ ?_ ?_
  ·simp [execOp,ap,Instr.box,newVar,newRow]
  ·intro e he;rw [hr] at he;simp at he;rw [he,eP]
  ·intro j y aW
   rw [hr] at aW
   simp only [List.flatten_cons,List.flatten_nil,List.append_nil] at aW
   have aC:j<vs.length:=by
    rcases Nat.lt_or_ge j (fg s.E x).cells.length with cI|cI
    ·omega
    ·rw [List.getElem?_eq_none cI] at aW;simp at aW
   refine ⟨vs[j],by rw [e1];simp [aC],bT j _ (List.getElem?_eq_getElem aC),de j y _ aW (List.getElem?_eq_getElem aC)⟩
  ·intro bL kQ mQ mc n5 cf
   have:=Rel.ref (w:=bL) (ok:=kQ) (i:=0) (off:=0) n5 cf
   rw [bh];simpa using this
 split at aw
 ·rename_i c bf
  simp only [Option.some.injEq] at aw
  subst aw
  exact key _ rfl (by rw [bf];rfl) (by rw [bf];rfl) (.inr ⟨c,bf⟩) rfl rfl
 ·split at aw
  ·rename_i lQ
   simp only [Option.some.injEq] at aw
   subst aw
   have e:(fg s.E x).cells=[fg s.E x]:=by
    generalize fg s.E x=y at lQ
    cases y<;>first|rfl|simp [aB.one] at lQ
   exact key _ rfl (by rw [e]) (by rw [e];rfl) (.inl lQ) rfl rfl
  ·simp at aw
theorem iz {s:S}{ay:fo}{r k:Nat}{ak:ab}(h:s.ak r k=some ak):s.bi ay r k=some (ak.sz,ay r k):=by simp [S.bi,h]
theorem s5 {row:Option (List ab)}{k:Nat}{ak:ab}{cb:List Prop}(h:oK row k cP=some (ak,cb))(cF:∀p∈cb,p):dg row k=some ak:=by
 unfold oK at h
 split at h
 ·split at h
  ·simp at h;obtain ⟨rfl,rfl⟩:=h;exact cF _ (by simp)
  ·simp at h
 ·split at h
  ·rename_i cI;simp at h;obtain ⟨rfl,rfl⟩:=h;exact cI
  ·simp at h
theorem Ao {es:List (List aB)}{i:Nat}{c:List aB}{cb:List Prop}(h:elemAt es i cP=some (c,cb))(cF:∀p∈cb,p):es[i]? = some c:=by
 unfold elemAt at h
 split at h
 ·simp at h;obtain ⟨rfl,rfl⟩:=h;exact cF _ (by simp)
 ·simp at h;obtain ⟨rfl,rfl⟩:=h;exact cF _ (by simp)
 ·split at h
  ·rename_i cI;simp at h;obtain ⟨rfl,rfl⟩:=h;exact cI
  ·simp at h
theorem aa3 {t:TypeId}{x:Operand}(h:cM g s ay a w)(ap:I.op = .load t x)(aw:eQ P s.E s.aX aV I cP=some bD)(cF:∀p∈bD.fx,p):Fin P g s a w I bD:=by
 simp only [eQ,ap] at aw
 have U:=h.eval x
 split at aw
 ·rename_i r k i off gN
  rw [gN] at U
  split at aw
  ·rename_i ak cb bo
   split at aw
   ·rename_i c aQ ng
    split at aw
    ·rename_i v bh
     simp only [Option.some.injEq] at aw
     subst aw
     have kh:s.ak r k=some ak:=s5 bo fun p ai=>cF p (by simp [ai])
     have qV:=Ao ng fun p ai=>cF p (by simp [ai])
     have fv:=h.obj r k ak kh
     rcases U.xW (iz kh) with h0|⟨b,m,ai,hval⟩
     ·rw [h0] at fv
      simp only [jo] at fv
      rw [fv] at qV;simp at qV
     ·rw [ai] at fv
      obtain ⟨u,h1,o⟩:=JV (P:=P) fv.rd qV bh
      refine iy (v:=u) h ?_ rfl o
      rw [Nat.zero_add] at h1
      simp [execOp,ap,hval,h1]
    ·simp at aw
   ·simp at aw
  ·simp at aw
 ·rename_i sz es i off gN
  rw [gN] at U
  split at aw
  ·rename_i c aQ ng
   split at aw
   ·rename_i v bh
    simp only [Option.some.injEq] at aw
    subst aw
    have qV:=Ao ng fun p ai=>cF p (by simp [ai])
    obtain ⟨eb,b8,aR,hval,im⟩:=U.xX
    obtain ⟨u,h1,o⟩:=JV (P:=P) im qV bh
    refine iy (v:=u) h ?_ rfl o
    simp [execOp,ap,hval,h1]
   ·simp at aw
  ·simp at aw
 ·simp at aw
end
end Go.VL
namespace Go.VL
set_option linter.unusedVariables false
set_option linter.unusedSimpArgs false
open Go
section
variable {P:Program} {g:G} {s:S} {ay:fo} {a:Act} {w:World} {I:Oper} {cP:fB} {aV:Nat} {bD:h8}
theorem Pb (h:cM g s ay a w){r k i off:Nat}{row:List ab}{ak:ab}{c:List aB}{t:TypeId}{x y:Operand}(ap:I.op = .store t x y)
 (gN:fg s.E x = .ref r k i off) (dC:s.aX r=some row) (bo:s.ak r k=some ak) (a6:ak.cw = .live) (ng:ak.es[i]? = some c)
 (lQ:(fg s.E y).one=true∨ ∃c,fg s.E y = .agg c) (eP:(fg s.E y).cells.length=P.cellsOf t) (LA:(P.info? t).isSome=true)
 (ik:off+(fg s.E y).cells.length≤c.length) (aw:bD.val = .dead) (hu:bD.fO=[(r,row.set k {ak with es:=ak.es.set i (setCells c off (fg s.E y).cells)})]):Fin P g s a w I bD:=by
 have U:=h.eval x
 rw [gN] at U
 have fv:=h.obj r k ak bo
 rcases U.xW (iz bo) with h0|⟨b,m,ai,hval⟩
 ·rw [h0] at fv;simp only [jo] at fv;rw [fv] at ng;simp at ng
 ·obtain ⟨bL,h1,o⟩:=Ys (P:=P) h dC bo a6 ai ng LA (h.eval y) lQ eP ik
  refine ⟨undef,bL,ay,.inr ⟨?_,rfl⟩,by rw [hu];exact o,by rw [aw];exact .dead _⟩
  simp [execOp,ap,hval,h1]
theorem Z9 {t:TypeId}{x y:Operand}(h:cM g s ay a w)(ap:I.op = .store t x y)(aw:eQ P s.E s.aX aV I cP=some bD)(cF:∀p∈bD.fx,p):Fin P g s a w I bD:=by
 simp only [eQ,ap] at aw
 split at aw
 ·rename_i r k i off gN
  split at aw
  ·simp at aw
  ·rename_i row dC
   split at aw
   ·rename_i ak cb acx
    split at aw
    ·simp at aw
    ·rename_i a6
     have a6:ak.cw = .live:=by simpa using a6
     split at aw
     ·simp at aw
     ·rename_i lQ
      have lQ:=aB.Ot (by simpa using lQ)
      split at aw
      ·simp at aw
      ·rename_i eP
       simp only [not_or,Decidable.not_not,Bool.not_eq_false] at eP
       have kh:(∀p∈cb,p)→s.ak r k=some ak:=fun bF=>by
        have:=s5 acx bF
        unfold S.ak;rw [dC];exact this
       split at aw
       ·split at aw
        ·rename_i yn
         simp only [Option.some.injEq] at aw
         subst aw;subst yn
         have dE:i<ak.es.length:=cF _ (by simp)
         have iB:(fg s.E y).cells.length=ak.sz:=cF _ (by simp)
         have Bf:=kh fun p ai=>cF p (by simp [ai])
         have hlen:(ak.es[i]).length=ak.sz:=by
          have fv:=h.obj r k ak Bf
          cases ai:ay r k with
          | none=>rw [ai] at fv;simp only [jo] at fv;rw [fv] at dE;simp at dE
          | some q =>
           rw [ai] at fv
           obtain ⟨_,_,_,_,ae,_⟩:=fv
           exact ae _ (List.getElem_mem dE)
         refine Pb h ap gN dC Bf a6 (c:=ak.es[i]) (List.getElem?_eq_getElem dE) lQ eP.1 eP.2 (by omega) rfl ?_
         have e:setCells ak.es[i] 0 (fg s.E y).cells=(fg s.E y).cells:=by
          simp [setCells,hlen,iB]
         rw [e]
        ·simp at aw
       ·split at aw
        ·rename_i c aQ ng
         split at aw
         ·rename_i ik
          simp only [Option.some.injEq] at aw
          subst aw
          exact Pb h ap gN dC (kh fun p ai=>cF p (by simp [ai])) a6 (Ao ng fun p ai=>cF p (by simp [ai])) lQ eP.1 eP.2 ik rfl rfl
         ·simp at aw
        ·simp at aw
   ·simp at aw
 ·simp at aw
theorem Yt {x:Operand}(h:cM g s ay a w)(ap:I.op = .nilCheck x)(aw:eQ P s.E s.aX aV I cP=some bD)(cF:∀p∈bD.fx,p):Fin P g s a w I bD:=by
 simp only [eQ,ap] at aw
 have U:=h.eval x
 split at aw
 ·rename_i r k i off gN
  rw [gN] at U
  split at aw
  ·rename_i ak cb bo
   split at aw
   ·rename_i c aQ ng
    simp only [Option.some.injEq] at aw
    subst aw
    have kh:s.ak r k=some ak:=s5 bo fun p ai=>cF p (by simp [ai])
    have qV:=Ao ng fun p ai=>cF p (by simp [ai])
    have fv:=h.obj r k ak kh
    rcases U.xW (iz kh) with h0|⟨b,m,ai,hval⟩
    ·rw [h0] at fv;simp only [jo] at fv;rw [fv] at qV;simp at qV
    ·refine iy (v:=a.eval x) h ?_ rfl U
     simp [execOp,ap,hval]
   ·simp at aw
  ·simp at aw
 ·rename_i sz es i off gN
  rw [gN] at U
  simp only [Option.some.injEq] at aw
  subst aw
  obtain ⟨eb,b8,aR,hval,im⟩:=U.xX
  refine iy (v:=a.eval x) h ?_ rfl U
  simp [execOp,ap,hval]
 ·rename_i f c gN
  rw [gN] at U
  simp only [Option.some.injEq] at aw
  subst aw
  obtain ⟨vs,hval,-⟩:=U.D9
  refine iy (v:=a.eval x) h ?_ rfl U
  simp [execOp,ap,hval]
 ·simp at aw
theorem Zr {op:BinOp}{t:TypeId}{x y z:aB}{ak:List Prop}(aw:Lc op x y=some (z,ak))(cF:∀p∈ak,p)
 {ok:Nat→Prop} {a5:jf} {bi:i4} {k3 k4:Value} (U:Rel w ok a5 bi x k3) (aW:Rel w ok a5 bi y k4) (p q:Operand) :
 ∃v,((do eqGuard op t p q k3 k4;binOp op t k3 k4):Sem Value).run P w = .ok v w∧Rel w ok a5 bi z v:=by
 unfold Lc at aw
 split at aw
 ·rename_i k n dU nm
  have hQ:=U.o9;have i5:=aW.o9
  subst hQ;subst i5
  have dt : ∀op,eqGuard op t p q (.int k n) (.int dU nm)=pure ():=fun op=>eqGuard_at_int ..
  simp only [Sem.run_bind,dt,Sem.run_pure,Result.andThen_ok]
  split at aw
  ·simp only [Option.some.injEq,Prod.mk.injEq] at aw
   obtain ⟨rfl,rfl⟩:=aw
   have h0:0≤nm:=cF _ (by simp)
   exact ⟨_,by simp [binOp,Op.shift,show ¬nm<0 by omega],.n _ _⟩
  ·simp only [Option.some.injEq,Prod.mk.injEq] at aw
   obtain ⟨rfl,rfl⟩:=aw
   have h0:0≤nm:=cF _ (by simp)
   exact ⟨_,by simp [binOp,Op.shift,show ¬nm<0 by omega],.n _ _⟩
  ·split at aw
   ·simp at aw
   ·rename_i a6
    have a6:k=dU:=by simpa using a6
    subst a6
    split at aw<;>simp only [Option.some.injEq,Prod.mk.injEq,reduceCtorEq] at aw
    all_goals (obtain ⟨rfl,rfl⟩:=aw)
    case h_4|h_5 =>
     have h0:nm≠0:=cF _ (by simp)
     exact ⟨_,by simp [binOp,Op.intDiv,h0],.n _ _⟩
    all_goals first
     | (refine ⟨_,?_,.n _ _⟩;rw [binOp_add];rfl)
     | (refine ⟨_,?_,.n _ _⟩;rw [binOp_sub];rfl)
     | (refine ⟨_,?_,.n _ _⟩;rw [binOp_mul];rfl)
     | (refine ⟨_,?_,.n _ _⟩;rw [binOp_and];rfl)
     | (refine ⟨_,?_,.n _ _⟩;rw [binOp_or];rfl)
     | (refine ⟨_,?_,.n _ _⟩;rw [binOp_xor];rfl)
     | (refine ⟨_,?_,.b _⟩;simp [binOp,Op.intCmp];done)
 ·rename_i cK lY
  have hQ:=U.ye;have i5:=aW.ye
  subst hQ;subst i5
  have dt : ∀op,eqGuard op t p q (.string cK) (.string lY)=pure ():=fun op=>eqGuard_at_string ..
  simp only [Sem.run_bind,dt,Sem.run_pure,Result.andThen_ok]
  split at aw<;>simp only [Option.some.injEq,Prod.mk.injEq,reduceCtorEq] at aw
  all_goals (obtain ⟨rfl,rfl⟩:=aw)
  ·have h0:cK.size+lY.size<9223372036854775808:=cF _ (by simp)
   refine ⟨_,?_,.s _⟩
   have h1 : ¬((cK.size+lY.size:Nat):Int)>IntKind.i64.max:=by rw [IntKind.max_i64];omega
   rw [IntKind.max_i64] at h1
   simp [binOp,Op.stringOp]
   omega
  ·exact ⟨_,by simp [binOp,Op.stringOp],.b _⟩
  ·exact ⟨_,by simp [binOp,Op.stringOp],.b _⟩
 ·simp at aw
theorem uw (t:TypeId)(x y:Value):Op.equal t x y=Op.equalIn (9999+1) t x y:=rfl
theorem zX {t:TypeId}{a b:Bool}(d:Nat)(bE:P.underlying t=some .bool):(Op.equalIn (d+1) t (.bool a) (.bool b)).run P w = .ok (a == b) w:=by
 unfold Op.equalIn;simp [run_underlying bE]
theorem Ai {t e:TypeId}(d:Nat)(bE:P.underlying t=some (.pointer e)):(Op.equalIn (d+1) t (.pointer none) (.pointer none)).run P w = .ok true w:=by
 unfold Op.equalIn;simp [run_underlying bE]
theorem Aj {t e:TypeId}{a:Addr}(d:Nat)(bE:P.underlying t=some (.pointer e)):(Op.equalIn (d+1) t (.pointer (some a)) (.pointer none)).run P w = .ok false w:=by
 unfold Op.equalIn;simp [run_underlying bE]
theorem Ak {t e:TypeId}{a:Addr}(d:Nat)(bE:P.underlying t=some (.pointer e)):(Op.equalIn (d+1) t (.pointer none) (.pointer (some a))).run P w = .ok false w:=by
 unfold Op.equalIn;simp [run_underlying bE]
theorem Al {t e:TypeId}(d:Nat)(bE:P.underlying t=some (.slice e)):(Op.equalIn (d+1) t (.slice none 0 0) (.slice none 0 0)).run P w = .ok true w:=by
 unfold Op.equalIn;simp [run_underlying bE]
theorem OJ {t e:TypeId}{a:Addr}{c:Nat}(d:Nat)(bE:P.underlying t=some (.slice e))(n:Nat):(Op.equalIn (d+1) t (.slice (some a) n c) (.slice none 0 0)).run P w = .ok false w:=by
 unfold Op.equalIn;simp [run_underlying bE]
theorem xQ {t:TypeId}{x y:aB}{r:Bool}(aw:rJ P t x y=some r)
 {ok:Nat→Prop} {a5:jf} {bi:i4} {k3 k4:Value} (U:Rel w ok a5 bi x k3) (aW:Rel w ok a5 bi y k4) (p q:Operand) :
 ((do eqGuard .eql t p q k3 k4;binOp .eql t k3 k4):Sem Value).run P w = .ok (.bool r) w ∧
 ((do eqGuard .neq t p q k3 k4;binOp .neq t k3 k4):Sem Value).run P w = .ok (.bool !r) w:=by
 have key : ∀b:Bool,(∀op,eqGuard op t p q k3 k4=pure ())→binOp .eql t k3 k4=(do pure (.bool (← Op.equal t k3 k4)))→binOp .neq t k3 k4=(do pure (.bool (!(← Op.equal t k3 k4)))) →
  (Op.equal t k3 k4).run P w = .ok b w→((do eqGuard .eql t p q k3 k4;binOp .eql t k3 k4):Sem Value).run P w = .ok (.bool b) w ∧
  ((do eqGuard .neq t p q k3 k4;binOp .neq t k3 k4):Sem Value).run P w = .ok (.bool !b) w:=by
  intro b dt h1 o ae
  constructor
  ·rw [dt,h1];simp [ae]
  ·rw [dt,o];simp [ae]
 unfold rJ at aw
 split at aw
 ·rename_i cK lY bE
  simp only [Option.some.injEq] at aw;subst aw
  have hQ:=U.td;have i5:=aW.td
  subst hQ;subst i5
  exact key _ (fun op=>eqGuard_at_bool ..) rfl rfl (by rw [uw];first|exact zX _ bE|exact Ai _ bE|exact Aj _ bE|exact Ak _ bE|exact Al _ bE)
 ·rename_i e bE
  simp only [Option.some.injEq] at aw;subst aw
  have hQ:=U.uB;have i5:=aW.uB
  subst hQ;subst i5
  exact key _ (fun op=>eqGuard_at_pointer ..) rfl rfl (by rw [uw];first|exact zX _ bE|exact Ai _ bE|exact Aj _ bE|exact Ak _ bE|exact Al _ bE)
 ·rename_i e sz es i off bE
  simp only [Option.some.injEq] at aw;subst aw
  obtain ⟨eb,b8,-,hQ,-⟩:=U.xX
  have i5:=aW.uB
  subst hQ;subst i5
  exact key _ (fun op=>eqGuard_at_pointer ..) rfl rfl (by rw [uw];first|exact zX _ bE|exact Ai _ bE|exact Aj _ bE|exact Ak _ bE|exact Al _ bE)
 ·rename_i e sz es i off bE
  simp only [Option.some.injEq] at aw;subst aw
  obtain ⟨eb,b8,-,i5,-⟩:=aW.xX
  have hQ:=U.uB
  subst hQ;subst i5
  exact key _ (fun op=>eqGuard_at_pointer ..) rfl rfl (by rw [uw];first|exact zX _ bE|exact Ai _ bE|exact Aj _ bE|exact Ak _ bE|exact Al _ bE)
 ·rename_i e bE
  simp only [Option.some.injEq] at aw;subst aw
  have hQ:=U.ps;have i5:=aW.ps
  subst hQ;subst i5
  exact key _ (fun op=>eqGuard_at_slice ..) rfl rfl (by rw [uw];first|exact zX _ bE|exact Ai _ bE|exact Aj _ bE|exact Ak _ bE|exact Al _ bE)
 ·rename_i e bE
  simp only [Option.some.injEq] at aw;subst aw
  obtain ⟨vB,c,hQ⟩:=U.DX
  have i5:=aW.ps
  subst hQ;subst i5
  exact key _ (fun op=>eqGuard_at_slice ..) rfl rfl (by rw [uw];exact OJ _ bE 0)
 ·simp at aw
theorem QD {t e:TypeId}(bE:P.underlying t=some (.slice e)){sz:Nat}{es:List (List aB)}(c4:es≠[])
 {ok:Nat→Prop} {a5:jf} {bi:i4} {k3 k4:Value} (U:Rel w ok a5 bi (.isl sz es) k3) (aW:Rel w ok a5 bi .eU k4) (p q:Operand) :
 ((do eqGuard .eql t p q k3 k4;binOp .eql t k3 k4):Sem Value).run P w = .ok (.bool false) w ∧
 ((do eqGuard .neq t p q k3 k4;binOp .neq t k3 k4):Sem Value).run P w = .ok (.bool true) w:=by
 rcases U.r9 with ⟨h0,-⟩|⟨eb,off,c,-,hQ,-⟩
 ·exact absurd h0 c4
 ·have i5:=aW.ps
  subst hQ;subst i5
  have ae:(Op.equal t (.slice (some ⟨eb,off,none⟩) es.length c) (.slice none 0 0)).run P w = .ok false w:=by rw [uw];exact OJ _ bE _
  have dt : ∀op,eqGuard op t p q (.slice (some ⟨eb,off,none⟩) es.length c) (.slice none 0 0)=pure ():=fun op=>eqGuard_at_slice ..
  have h1:binOp .eql t (.slice (some ⟨eb,off,none⟩) es.length c) (.slice none 0 0)=(do pure (.bool (← Op.equal t (.slice (some ⟨eb,off,none⟩) es.length c) (.slice none 0 0)))):=rfl
  have o:binOp .neq t (.slice (some ⟨eb,off,none⟩) es.length c) (.slice none 0 0)=(do pure (.bool (!(← Op.equal t (.slice (some ⟨eb,off,none⟩) es.length c) (.slice none 0 0))))):=rfl
  constructor
  ·rw [dt,h1];simp [ae]
  ·rw [dt,o];simp [ae]
theorem aaa {op:BinOp}{t df:TypeId}{x y:Operand}(h:cM g s ay a w)(ap:I.op = .binOp op t x y df)(aw:eQ P s.E s.aX aV I cP=some bD)(cF:∀p∈bD.fx,p):Fin P g s a w I bD:=by
 simp only [eQ,ap] at aw
 have U:=h.eval x
 have aW:=h.eval y
 split at aw
 ·rename_i v ak aR
  simp only [Option.some.injEq] at aw
  subst aw
  obtain ⟨u,h1,o⟩:=Zr (P:=P) (t:=t) aR cF U aW x y
  refine iy (v:=u) h ?_ rfl o
  simp only [execOp,ap]
  rw [Sem.run_bind,h1];rfl
 ·split at aw
  ·cases he:rJ P t (fg s.E x) (fg s.E y) with
   | none=>simp [he] at aw
   | some r =>
    simp [he] at aw;subst aw
    refine iy (v:= .bool r) h ?_ rfl (.b r)
    simp only [execOp,ap]
    rw [Sem.run_bind,(xQ (w:=w) he U aW x y).1];rfl
  ·cases he:rJ P t (fg s.E x) (fg s.E y) with
   | none=>simp [he] at aw
   | some r =>
    simp [he] at aw;subst aw
    refine iy (v:= .bool !r) h ?_ rfl (.b _)
    simp only [execOp,ap]
    rw [Sem.run_bind,(xQ (w:=w) he U aW x y).2];rfl
  ·simp at aw
theorem aa4 {op:UnOp}{t:TypeId}{x:Operand}(h:cM g s ay a w)(ap:I.op = .unOp op t x)(aw:eQ P s.E s.aX aV I cP=some bD):Fin P g s a w I bD:=by
 simp only [eQ,ap] at aw
 have U:=h.eval x
 cases he:Ly op (fg s.E x) with
 | none=>simp [he] at aw
 | some v =>
  simp [he] at aw;subst aw
  unfold Ly at he
  split at he
  ·rename_i k n gN
   rw [gN] at U
   simp only [Option.some.injEq] at he;subst he
   refine iy (v:= .int k (k.wrap (0-n))) h ?_ rfl (.n _ _)
   simp [execOp,ap,U.o9,Op.unary,Op.intArith]
  ·rename_i b gN
   rw [gN] at U
   simp only [Option.some.injEq] at he;subst he
   refine iy (v:= .bool !b) h ?_ rfl (.b _)
   simp [execOp,ap,U.td,Op.unary]
  ·simp at he
theorem YP {t df:TypeId}{x:Operand}(h:cM g s ay a w)(ap:I.op = .convert t df x)(aw:eQ P s.E s.aX aV I cP=some bD):Fin P g s a w I bD:=by
 simp only [eQ,ap] at aw
 have U:=h.eval x
 split at aw
 ·rename_i k dU n bE gN
  rw [gN] at U
  split at aw
  case isFalse=>simp at aw
  rename_i bS
  simp only [Option.some.injEq] at aw
  subst aw
  refine iy (v:= .int k (k.wrap n)) h ?_ rfl (.n _ _)
  cases RM:P.underlying t with
  | none=>simp [RM] at bS
  | some d=>simp [execOp,ap,U.o9,convert,run_underlying bE,run_underlying RM,Conv.intToInt]
 ·rename_i r k bU len bE gN
  rw [gN] at U
  split at aw
  ·rename_i ak Eo bo
   split at aw
   ·rename_i nl BF
    split at aw
    ·rename_i bf
     simp only [Option.some.injEq] at aw
     subst aw
     obtain ⟨e,bS,he⟩ : ∃e,P.underlying t=some (.slice e)∧P.underlying e=some (.int .u8):=by
      unfold px at Eo
      split at Eo
      ·rename_i e bS;exact ⟨e,bS,Eo⟩
      ·simp at Eo
     have dW:s.ak r k=some ak:=bo
     have fv:=h.obj r k ak dW
     have hzero : ∀(k5:Option Addr) (c:Nat),len=0→(convert t df (.slice k5 0 c)).run P w = .ok (.string (ym nl)) w:=by
      intro k5 c h0
      subst h0
      have:nl=[]:=by simpa [bytesOf] using BF
      subst this
      cases k5 with
      | none=>rw [run_convert_bytes_string w t df e none 0 c bS he bE];simp [Conv.bytesToString,ym]
      | some k5 =>
       rw [run_convert_bytes_string w t df e (some k5) 0 c bS he bE,run_bytesToString w k5 0 c [] (by
        have:=run_loadCells_list (P:=P) w k5 [] (fun j v aC=>by simp at aC)
        simpa using this)]
       rfl
     rcases U.AB (iz dW) with ⟨ai,rfl,rfl,hval⟩|⟨b,m,A,c,ai,hval,qY,sx,hm⟩
     ·refine iy (v:= .string (ym nl)) h ?_ rfl (.s _)
      simp [execOp,ap,hval,hzero none 0 rfl]
     ·refine iy (v:= .string (ym nl)) h ?_ rfl (.s _)
      by_cases h0:len=0
      ·subst h0;simp [execOp,ap,hval,hzero A c rfl]
      ·rcases hm with hm|⟨hA,hm⟩
       ·omega
       ·subst hA
        rw [ai] at fv
        have im:=fv.rd
        have yt : ∀(es:List (List aB)) (nl:List Int),bytesOf es=some nl→es.length=nl.length∧ ∀(i:Nat) n,nl[i]? = some n→es[i]? = some [.n .u8 n]:=by
         intro es
         induction es with
         | nil=>intro nl h;simp [bytesOf] at h;subst h;exact ⟨rfl,fun i n ah=>by simp at ah⟩
         | cons x es ih =>
          intro nl h
          unfold bytesOf at h
          split at h
          ·simp at *
          ·rename_i ln af5 yu
           simp only [List.cons.injEq] at yu
           obtain ⟨rfl,rfl⟩:=yu
           rw [Option.map_eq_some_iff] at h
           obtain ⟨fS,Ez,rfl⟩:=h
           obtain ⟨e1,aE⟩:=ih fS Ez
           refine ⟨by simp [e1],fun i n ah=> ?_⟩
           cases i with
           | zero=>simp at ah;subst ah;rfl
           | succ i=>simpa using aE i n (by simpa using ah)
          ·simp at h
        obtain ⟨e1,aE⟩:=yt _ _ BF
        have hlen:nl.length=len:=by rw [← e1];simp;omega
        have KW:(loadCells ⟨b,bU*ak.sz,none⟩ len).run P w = .ok (nl.map (Value.int .u8)).toArray w:=by
         have:=run_loadCells_list (P:=P) w ⟨b,bU*ak.sz,none⟩ (nl.map (Value.int .u8)) (fun j v aC=>by
          rw [List.getElem?_map,Option.map_eq_some_iff] at aC
          obtain ⟨n,a3,rfl⟩:=aC
          have lU:=aE j n a3
          have u4:j<len:=by rw [← hlen];exact (List.getElem?_eq_some_iff.1 a3).1
          rw [List.getElem?_take_of_lt u4,List.getElem?_drop] at lU
          obtain ⟨v,v1,v2,v3⟩:=im.2 ((bU+j)*ak.sz+0) (.n .u8 n) (by rw [Ag im.1 lU (by omega)];rfl)
          have bh:=v3.o9
          subst bh
          rw [rv,← v1,bf.2]
          congr 2
          omega)
         rw [List.length_map,hlen] at this
         exact this
        have o:=run_bytesToString w ⟨b,bU*ak.sz,none⟩ len c nl KW
        rw [← run_convert_bytes_string w t df e _ len c bS he bE] at o
        simp [execOp,ap,hval,o,ym]
    ·simp at aw
   ·simp at aw
  ·simp at aw
 ·simp at aw
theorem Yu {f:Fn}{Cq cr:Array Operand}(h:cM g s ay a w)(ap:I.op = .makeFunc f Cq cr)(aw:eQ P s.E s.aX aV I cP=some bD):Fin P g s a w I bD:=by
 cases f with
 | func n =>
  simp only [eQ,ap] at aw
  split at aw
  ·rename_i adf
   simp only [Option.some.injEq] at aw;subst aw
   refine iy (v:= .func (.func n) #[] (cr.map a.eval)) h ?_ rfl ?_
   ·have:Cq = #[]:=by simpa using adf
    subst this
    simp [execOp,ap,Instr.makeFunc]
   ·have:=Rel.fn (f:=n) (c:=cr.toList.map (fg s.E)) (w:=w) (ok:=s.ok g ay w) (a5:=s.a5) (bi:=s.bi ay) (cr.toList.map a.eval) (by simp) (by
     intro j x v U bh
     rw [List.getElem?_map,Option.map_eq_some_iff] at U bh
     obtain ⟨p,ai,rfl⟩:=U
     obtain ⟨q,a7,rfl⟩:=bh
     rw [ai] at a7;simp at a7;subst a7
     exact h.eval p)
    have e:(cr.toList.map a.eval).toArray=cr.map a.eval:=by apply Array.ext';rw [Array.toList_map]
    rw [e] at this
    exact this
  ·simp at aw
 | _=>simp [eQ,ap] at aw
theorem YQ {i:Nat}{x:Operand}(h:cM g s ay a w)(ap:I.op = .extract x i)(aw:eQ P s.E s.aX aV I cP=some bD):Fin P g s a w I bD:=by
 simp only [eQ,ap] at aw
 have U:=h.eval x
 split at aw
 ·rename_i vs gN
  rw [gN] at U
  cases ah:vs[i]? with
  | none=>simp [ah] at aw
  | some v =>
   simp [ah] at aw;subst aw
   obtain ⟨a5,hval,aT,ao⟩:=U.xV
   have dE:i<a5.length:=by
    rcases Nat.lt_or_ge i vs.length with cI|cI
    ·omega
    ·rw [List.getElem?_eq_none cI] at ah;simp at ah
   have hu:a5[i]? = some a5[i]:=List.getElem?_eq_getElem dE
   refine iy (v:=a5[i]) h ?_ rfl (ao i v _ ah hu)
   simp [execOp,ap,hval,Instr.extract,hu]
 ·simp at aw
end
end Go.VL
namespace Go.VL
set_option linter.unusedVariables false
set_option linter.unusedSimpArgs false
open Go
section
variable {P:Program} {g:G} {s:S} {ay:fo} {a:Act} {w:World} {I:Oper} {cP:fB} {aV:Nat} {bD:h8}
theorem ry {t e:TypeId}(h:px P t=some e):P.underlying t=some (.slice e):=by
 unfold px at h
 split at h
 ·rename_i ep he;simp at h;subst h;exact he
 ·simp at h
theorem JO {t:TypeId}{kH:Array Field}(h:fieldsOf P t=some kH):P.underlying t=some (.struct kH):=by
 unfold fieldsOf at h
 split at h
 ·rename_i ep he;simp at h;subst h;exact he
 ·simp at h
theorem Ob : ∀(z c:List aB),(qN z c).length=z.length
 | x::z,y::c=>by simp [qN,Ob z c]
 | [],_=>by simp [qN]
 | _::_,[]=>by simp [qN]
theorem X5 (z:List aB)(cP:fB):(sg z cP).length=z.length:=by
 unfold sg
 split
 ·exact Ob z _
 ·rfl
theorem YR (x y:aB){w:World}{ok:Nat→Prop}{a5:jf}{bi:i4}{v:Value}(h:Rel w ok a5 bi x v):Rel w ok a5 bi (AL x y) v:=by
 unfold AL
 split
 ·rw [h.ps];exact .kg _ _ _ (fun _=>rfl)
 ·rw [h.uB];exact .pb _
 ·rw [h.ps];exact .mL (.kg _ _ _ (fun _=>rfl))
 ·exact h
theorem Pc : ∀(z c:List aB) (j:Nat) q,(qN z c)[j]? = some q→ ∃x,z[j]? = some x∧(q=x∨ ∃y,q=AL x y)
 | x::z,y::c,0,q,h=>by simp [qN] at h;exact ⟨x,rfl,.inr ⟨y,h.symm⟩⟩
 | x::z,y::c,j+1,q,h=>by
  simp only [qN,List.getElem?_cons_succ] at h
  simpa using Pc z c j q h
 | [],c,j,q,h=>by simp [qN] at h
 | x::z,[],j,q,h=>⟨q,by simpa [qN] using h,.inl rfl⟩
theorem aab (z:List aB)(cP:fB)(j:Nat)(q:aB)(h:(sg z cP)[j]? = some q): ∃x,z[j]? = some x∧(q=x∨ ∃y,q=AL x y):=by
 unfold sg at h
 split at h
 ·exact Pc z _ j q h
 ·exact ⟨q,h,.inl rfl⟩
theorem X6 {t:TypeId}{x y:Operand}(h:cM g s ay a w)(eV:s.aX aV=none)(ap:I.op = .makeSlice t x y)(aw:eQ P s.E s.aX aV I cP=some bD)(cF:∀p∈bD.fx,p):Fin P g s a w I bD:=by
 simp only [eQ,ap] at aw
 have U:=h.eval x
 have aW:=h.eval y
 split at aw
 ·rename_i e lZ l kI c he acy acz
  rw [acy] at U;rw [acz] at aW
  split at aw
  ·rename_i i z ah cC
   obtain ⟨eD,eC,kE,k2,pM,QE⟩:=Ah cC
   rw [ah] at kE;simp at kE;subst kE
   simp only [Option.ite_none_right_eq_some,Option.some.injEq] at aw
   obtain ⟨eP,aw⟩:=aw
   subst aw
   have ng:=X5 z cP
   have j4 : ∀(j:Nat) q,(sg z cP)[j]? = some q→ ∃v,eC.cells[j]? = some v∧VL.ke v=true∧ ∀w ok a5 bi,Rel w ok a5 bi q v:=by
    intro j q a7
    obtain ⟨x,dK,nh⟩:=aab z cP j q a7
    obtain ⟨v,v1,v2,v3⟩:=QE j x dK
    refine ⟨v,v1,v2,fun w ok a5 bi=> ?_⟩
    rcases nh with rfl|⟨y,rfl⟩
    ·exact v3 w ok a5 bi
    ·exact YR x y (v3 w ok a5 bi)
   clear QE
   have h0:0≤l:=cF _ (by simp)
   have h1:l≤c:=cF _ (by simp)
   have o:(i.bytes:Int)*c≤281474976710656:=cF _ (by simp)
   have ae:c<9223372036854775808:=cF _ (by simp)
   have ni:z.length=eC.cells.size:=by rw [pM];simp
   have iW:=run_make (P:=P) w t e i eC (ry he) ah k2 lZ kI l c h0 h1 o (by omega)
   refine DY (v:= .slice (some ⟨w.heap.size,0,none⟩) l.toNat c.toNat) (ak:=⟨z.length,List.replicate l.toNat (sg z cP),.live⟩) (c:=madeCells eC.cells (c.toNat*i.size)) (eE:=e) h eV rfl ?_ rfl ?_ ?_ ?_
   ·simp [execOp,ap,U.o9,aW.o9,iW]
   ·intro ep lS;rw [List.eq_of_mem_replicate lS];exact ng
   ·intro j q a7
    have aT : ∀ep∈List.replicate l.toNat (sg z cP),ep.length=z.length:=fun ep lS=>by rw [List.eq_of_mem_replicate lS];exact ng
    rcases Nat.eq_zero_or_pos z.length with qZ|EA
    ·have:sg z cP=[]:=List.length_eq_zero_iff.1 (by omega)
     rw [this] at a7
     simp at a7
    ·rw [o3 EA _ aT,List.getElem?_replicate] at a7
     by_cases aC:j / z.length<l.toNat
     ·rw [if_pos aC] at a7
      simp only [Option.bind_some] at a7
      obtain ⟨v,e1,aE,bT⟩:=j4 _ _ a7
      refine ⟨v,?_,aE,bT _ _ _ _⟩
      have dE:j<c.toNat*i.size:=by
       rw [← eP]
       have:j<l.toNat*z.length:=(Nat.div_lt_iff_lt_mul EA).1 aC
       exact Nat.lt_of_lt_of_le this (Nat.mul_le_mul_right _ (by omega))
      simp only [madeCells]
      rw [Array.getElem?_map,Array.getElem?_range]
      simp only [dE,if_true,Option.map_some]
      rw [ni] at e1
      have hm:j % eC.cells.size<eC.cells.size:=Nat.mod_lt _ (by omega)
      rw [Array.getElem?_eq_getElem hm] at e1
      rw [getElem!_pos eC.cells _ hm];exact e1
     ·rw [if_neg aC] at a7;simp at a7
   ·intro bL kQ mQ mc hu cf
    refine Rel.bm hu cf (by omega) (by omega) ⟨?_,.inr (by simp)⟩
    rw [size_madeCells]
    simp only [Nat.zero_add,eP]
  ·simp at aw
 ·simp at aw
theorem X7 {t:TypeId}{x:Operand}{f:Nat}(h:cM g s ay a w)(ap:I.op = .fieldAddr t x f)(aw:eQ P s.E s.aX aV I cP=some bD)(cF:∀p∈bD.fx,p):Fin P g s a w I bD:=by
 simp only [eQ,ap] at aw
 have U:=h.eval x
 split at aw
 ·rename_i kH BG
  split at aw
  ·rename_i fd tr
   split at aw
   ·simp at aw
   ·rename_i RN
    have ah:(P.info? fd.type).isSome=true:=by
     cases ah:P.info? fd.type with
     | none=>simp [Program.cellsOf,ah] at RN
     | some i=>rfl
    have iW : ∀A:Addr,A.spot=none→(Instr.fieldAt t (.pointer (some A)) f).run P w = .ok (.pointer (some ⟨A.block,A.off+fd.offset,none⟩)) w:=by
     intro A hA
     have e:A.add fd.offset=⟨A.block,A.off+fd.offset,none⟩:=by
      obtain ⟨b,I,sp⟩:=A
      simp only at hA;subst hA
      exact rv b I _
     simp [Instr.fieldAt,run_underlying (JO BG),tr,Instr.sureAddr,fieldPlace,uo ah,RN,e]
    split at aw
    ·rename_i r k i off gN
     rw [gN] at U
     split at aw
     ·rename_i ak cb bo
      split at aw
      ·rename_i c aQ ng
       simp only [Option.some.injEq] at aw;subst aw
       have kh:s.ak r k=some ak:=s5 bo fun p ai=>cF p (by simp [ai])
       have qV:=Ao ng fun p ai=>cF p (by simp [ai])
       have fv:=h.obj r k ak kh
       rcases U.xW (iz kh) with h0|⟨b,m,ai,hval⟩
       ·rw [h0] at fv;simp only [jo] at fv;rw [fv] at qV;simp at qV
       ·refine iy (v:= .pointer (some ⟨b,i*ak.sz+(off+fd.offset),none⟩)) h ?_ rfl ?_
        ·simp [execOp,ap,hval,iW,Nat.add_assoc]
        ·exact U.Zq ((iz kh).trans (by rw [ai])) _
      ·simp at aw
     ·simp at aw
    ·rename_i sz es i off gN
     rw [gN] at U
     simp only [Option.some.injEq] at aw;subst aw
     obtain ⟨eb,b8,aR,hval,im⟩:=U.xX
     refine iy (v:= .pointer (some ⟨eb,b8+(i*sz+(off+fd.offset)),none⟩)) h ?_ rfl (im.d6 aR)
     simp [execOp,ap,hval,iW,Nat.add_assoc]
    ·simp at aw
  ·simp at aw
 ·simp at aw
theorem X8 {t:TypeId}{x y:Operand}(h:cM g s ay a w)(ap:I.op = .indexAddr t x y)(aw:eQ P s.E s.aX aV I cP=some bD)(cF:∀p∈bD.fx,p):Fin P g s a w I bD:=by
 simp only [eQ,ap] at aw
 have U:=h.eval x
 have aW:=h.eval y
 split at aw
 ·rename_i e k j he gN
  rw [gN] at aW
  have hu:=ry he
  have iW : ∀(b I len cap:Nat),0≤j→j<len→(P.info? e).isSome=true →
   (Instr.indexAt t (.slice (some ⟨b,I,none⟩) len cap) (.int k j)).run P w = .ok (.pointer (some ⟨b,I+j.toNat*P.cellsOf e,none⟩)) w:=by
   intro b I len cap h0 h1 ah
   have ep:=rv b I (j.toNat*P.cellsOf e)
   simp [Instr.indexAt,asIntOf,run_underlying hu,h0,h1,uo ah,ep]
  have uQ : ∀sz,sz=P.cellsOf e→sz≠0→(P.info? e).isSome=true:=by
   intro sz bS cC
   cases ah:P.info? e with
   | none=>simp [Program.cellsOf,ah] at bS;exact absurd bS cC
   | some i=>rfl
  split at aw
  ·rename_i sz es Bg
   rw [Bg] at U
   simp only [Option.ite_none_right_eq_some,Option.some.injEq] at aw
   obtain ⟨⟨bS,cC⟩,aw⟩:=aw
   subst aw
   have h0:0≤j:=cF _ (by simp)
   have h1:j<es.length:=cF _ (by simp)
   rcases U.r9 with ⟨BH,-⟩|⟨eb,off,c,aR,hval,bf,im⟩
   ·subst BH;simp at h1;omega
   ·refine iy (v:= .pointer (some ⟨eb,off+(j.toNat*sz+0),none⟩)) h ?_ rfl (im.d6 aR)
    simp [execOp,ap,hval,aW.o9,iW _ _ _ _ h0 h1 (uQ sz bS cC),bS]
  ·rename_i r q bU len Bg
   rw [Bg] at U
   split at aw
   ·rename_i row dC
    split at aw
    ·rename_i ak cb bo
     simp only [Option.ite_none_right_eq_some,Option.some.injEq] at aw
     obtain ⟨⟨bS,cC⟩,aw⟩:=aw
     subst aw
     have kh:s.ak r q=some ak:=by
      unfold S.ak;rw [dC];exact s5 bo fun p ai=>cF p (by simp [ai])
     have h0:0≤j:=cF _ (by simp)
     have h1:j<len:=cF _ (by simp)
     rcases U.AB (iz kh) with ⟨-,-,o,-⟩|⟨b,m,A,c,ai,hval,aT,-,hm⟩
     ·subst o;simp at h1;omega
     ·rcases hm with hm|⟨hA,hm⟩
      ·omega
      ·subst hA
       have jt:=DM kh
       refine iy (v:= .pointer (some ⟨b,(bU+j.toNat)*ak.sz+0,none⟩)) h ?_ rfl (.ref jt ((iz kh).trans (by rw [ai])))
       simp [execOp,ap,hval,aW.o9,iW _ _ _ _ h0 h1 (uQ _ bS cC),bS,Nat.add_mul]
    ·simp at aw
   ·simp at aw
  ·simp at aw
 ·simp at aw
theorem aac {t:TypeId}{x y:Operand}(h:cM g s ay a w)(ap:I.op = .index t x y)(aw:eQ P s.E s.aX aV I cP=some bD)(cF:∀p∈bD.fx,p):Fin P g s a w I bD:=by
 simp only [eQ,ap] at aw
 have U:=h.eval x
 have aW:=h.eval y
 split at aw
 ·rename_i b k j hu Bg acA
  rw [Bg] at U;rw [acA] at aW
  simp only [Option.some.injEq] at aw;subst aw
  have h0:0≤j:=cF _ (by simp)
  have h1:j<b.size:=cF _ (by simp)
  have o:j.toNat<b.size:=by omega
  refine iy (v:= .int .u8 (b[j.toNat]).toNat) h ?_ rfl ?_
  ·simp [execOp,ap,U.ye,aW.o9,Instr.index,asIntOf,run_underlying hu,h0,o]
  ·have e:b.data.toList.getD j.toNat 0=b[j.toNat]:=by
    rw [List.getD_eq_getElem?_getD,Array.getElem?_toList,Array.getElem?_eq_getElem (by simpa using o)];rfl
   show Rel _ _ _ _ (.n .u8 _) _
   rw [e];exact .n _ _
 ·simp at aw
theorem abC {c:Call}(h:cM g s ay a w)(ap:I.op = .call c)(bf:c.callee = .builtin .len)(aw:eQ P s.E s.aX aV I cP=some bD)(cF:∀p∈bD.fx,p):Fin P g s a w I bD:=by
 obtain ⟨EB,args,mS⟩:=c
 simp only at bf;subst bf
 simp only [eQ,ap] at aw
 have key : ∀(x:Operand) (n:Nat) (t:TypeId) (v:Value),args.toList=[x]→mS = #[t]→bD.val = .n .i64 n→bD.fO=[]→a.eval x=v →
  (Builtin.len_ #[t] I.type #[v]).run P w = .ok (goInt n) w→Fin P g s a w I bD:=by
  intro x n t v hargs lV ao hs bh iW
  subst lV
  refine iy (v:=goInt n) h ?_ hs (by rw [ao];exact .n _ _)
  have bF:args = #[x]:=by apply Array.ext';simpa using hargs
  subst bF
  simp [execOp,ap,resolve,invoke,builtin,bh,iW]
 have hargs : ∀y,args.toList.map (fg s.E)=[y]→ ∃x,args.toList=[x]∧fg s.E x=y:=by
  intro y aW
  match aT:args.toList,aW with
  | [x],aW=>simp at aW;exact ⟨x,rfl,aW⟩
 have n3:decide (mS.size=1)=true→ ∃t,mS = #[t]∧mS.getD 0 0=t:=by
  intro eP
  have eP:mS.size=1:=by simpa using eP
  obtain ⟨l⟩:=mS
  match l,eP with
  | [t],_=>exact ⟨t,rfl,rfl⟩
 split at aw
 ·rename_i sz es e hm hu eP
  obtain ⟨x,U,gN⟩:=hargs _ hm
  obtain ⟨t,cf,nA⟩:=n3 eP
  rw [nA] at hu
  simp only [Option.some.injEq] at aw
  have ao:=h.eval x
  rw [gN] at ao
  rcases ao.r9 with ⟨BH,A,c,hval,hA⟩|⟨eb,off,c,aR,hval,-⟩
  ·exact key x es.length t _ U cf (by rw [← aw]) (by rw [← aw]) hval (by subst BH;simp [Builtin.len_,run_underlying hu])
  ·exact key x es.length t _ U cf (by rw [← aw]) (by rw [← aw]) hval (by simp [Builtin.len_,run_underlying hu])
 ·rename_i r k bU len e hm hu eP
  obtain ⟨x,U,gN⟩:=hargs _ hm
  obtain ⟨t,cf,nA⟩:=n3 eP
  rw [nA] at hu
  split at aw
  ·rename_i row dC
   split at aw
   ·rename_i ak cb bo
    simp only [Option.some.injEq] at aw
    have ao:=h.eval x
    rw [gN] at ao
    have kh:s.ak r k=some ak:=by
     unfold S.ak;rw [dC];exact s5 bo fun p ai=>cF p (by rw [← aw];exact ai)
    rcases ao.AB (iz kh) with ⟨-,-,o,hval⟩|⟨b,m,A,c,ai,hval,-⟩
    ·exact key x len t _ U cf (by rw [← aw]) (by rw [← aw]) hval (by subst o;simp [Builtin.len_,run_underlying hu])
    ·exact key x len t _ U cf (by rw [← aw]) (by rw [← aw]) hval (by simp [Builtin.len_,run_underlying hu])
   ·simp at aw
  ·simp at aw
 ·rename_i e hm hu eP
  obtain ⟨x,U,gN⟩:=hargs _ hm
  obtain ⟨t,cf,nA⟩:=n3 eP
  rw [nA] at hu
  simp only [Option.some.injEq] at aw
  have ao:=h.eval x
  rw [gN] at ao
  exact key x 0 t _ U cf (by rw [← aw];rfl) (by rw [← aw]) ao.ps (by simp [Builtin.len_,run_underlying hu])
 ·rename_i b hm hu eP
  obtain ⟨x,U,gN⟩:=hargs _ hm
  obtain ⟨t,cf,nA⟩:=n3 eP
  rw [nA] at hu
  simp only [Option.some.injEq] at aw
  have ao:=h.eval x
  rw [gN] at ao
  exact key x b.size t _ U cf (by rw [← aw]) (by rw [← aw]) ao.ye (by simp [Builtin.len_,run_underlying hu])
 ·simp at aw
theorem Dq {ok:Nat→Prop}{a5:jf}{bi:i4}{eb off sz:Nat}{es:List (List aB)}(h:ob w ok a5 bi eb off sz es)(l n:Nat)(aT:l≤es.length):
 ob w ok a5 bi eb (off+l*sz) sz ((es.drop l).take n):=by
 have rH : ∀e∈(es.drop l).take n,e.length=sz:=fun e he=>h.1 e (List.mem_of_mem_drop (List.mem_of_mem_take he))
 refine ⟨rH,fun j x U=> ?_⟩
 rcases Nat.eq_zero_or_pos sz with h0|bS
 ·have e1 : ∀(l:List (List aB)),(∀e∈l,e.length=0)→l.flatten=[]:=by
   intro l aT;induction l with
   | nil=>rfl
   | cons a l ih=>rw [List.flatten_cons,ih fun e he=>aT e (by simp [he])];have:=aT a (by simp);simp_all
  rw [e1 _ (fun e he=>(rH e he).trans h0)] at U;simp at U
 ·rw [o3 bS _ rH] at U
  have aC:j / sz<n:=by
   rcases Nat.lt_or_ge (j / sz) n with cI|cI
   ·exact cI
   ·rw [List.getElem?_eq_none (by simp;omega)] at U;simp at U
  rw [List.getElem?_take,if_pos aC,List.getElem?_drop] at U
  obtain ⟨v,e1,aE,bT⟩:=h.2 (l*sz+j) x (by
   rw [o3 bS es h.1]
   have gi:(l*sz+j) / sz=l+j / sz:=by rw [Nat.mul_comm,Nat.mul_add_div bS]
   have hn:(l*sz+j) % sz=j % sz:=by rw [Nat.mul_comm,Nat.mul_add_mod]
   rw [gi,hn];exact U)
  exact ⟨v,by rw [Nat.add_assoc];exact e1,aE,bT⟩
theorem Dl {t e:TypeId}(hu:P.underlying t=some (.slice e))(ah:(P.info? e).isSome=true)(A:Option Addr)(len cap:Nat)(bU kE:Option Value)(l h:Nat)
 (RO:(bU=none∧l=0)∨ ∃k,bU=some (.int k l)) (RP:(kE=none∧h=len)∨ ∃k,kE=some (.int k h)) (h1:l≤h) (o:h≤len) (ae:len≤cap) :
 (Instr.sliceAt t (.slice A len cap) bU kE none).run P w = .ok (.slice (if cap=l then A else A.map (·.add (l*P.cellsOf e))) (h-l) (cap-l)) w:=by
 have aR : ∀(k:IntKind) (n y:Nat) (code:BoundsCode),n≤y→(Instr.sliceBound (.int k n) y code).run P w = .ok n w:=by
  intro k n y code a3
  simp [Instr.sliceBound,asIntOf,a3]
 rcases RO with ⟨rfl,rfl⟩|⟨lZ,rfl⟩<;>rcases RP with ⟨rfl,rfl⟩|⟨kI,rfl⟩ <;>
  simp [Instr.sliceAt,Instr.slice,run_underlying hu,Instr.sliceBounds,uo ah,aR,h1,o,ae,Nat.le_trans o ae]
theorem x6 {x:Option Operand}(h:cM g s ay a w){d n:Nat}{ak:List Prop}(aR:ar (x.map (fg s.E)) d=some (n,ak))(cF:∀p∈ak,p):
 (x.map a.eval=none∧n=d)∨ ∃k,x.map a.eval=some (.int k n):=by
 cases x with
 | none=>simp [ar] at aR;exact .inl ⟨rfl,aR.1.symm⟩
 | some x =>
  have U:=h.eval x
  simp only [Option.map_some] at aR ⊢
  unfold ar at aR
  split at aR
  ·rename_i he;simp at he
  ·rename_i _ k y he
   simp only [Option.some.injEq] at he
   rw [he] at U
   simp only [Option.some.injEq,Prod.mk.injEq] at aR
   obtain ⟨rfl,rfl⟩:=aR
   have h0:0≤y:=cF _ (by simp)
   refine .inr ⟨k,?_⟩
   rw [U.o9,Int.toNat_of_nonneg h0]
  ·simp at aR
theorem aad {t:TypeId}{x:Operand}{bU ah:Option Operand}(h:cM g s ay a w)(ap:I.op = .slice t x bU ah none)(aw:eQ P s.E s.aX aV I cP=some bD)(cF:∀p∈bD.fx,p):Fin P g s a w I bD:=by
 simp only [eQ,ap] at aw
 have U:=h.eval x
 have uQ : ∀sz e,sz=P.cellsOf e→sz≠0→(P.info? e).isSome=true:=by
  intro sz e bS cC
  cases ah:P.info? e with
  | none=>simp [Program.cellsOf,ah] at bS;exact absurd bS cC
  | some i=>rfl
 split at aw
 ·rename_i e sz es hu gN
  rw [gN] at U
  split at aw
  ·rename_i l cb n aQ aT a3
   simp only [Option.ite_none_right_eq_some,Option.some.injEq] at aw
   obtain ⟨⟨bS,cC⟩,aw⟩:=aw
   subst aw
   have iv:=x6 h aT fun p ai=>cF p (by simp [ai])
   have jT:=x6 h a3 fun p ai=>cF p (by simp [ai])
   have h1:l≤n:=cF _ (by simp)
   have o:n≤es.length:=cF _ (by simp)
   rcases U.r9 with ⟨BH,A,c,hval,hA⟩|⟨eb,off,c,aR,hval,bf,im⟩
   ·subst BH
    have BI:n=0:=by simpa using o
    subst BI
    have nj:l=0:=by omega
    subst nj
    refine iy (v:= .slice (if c=0 then A else A.map (·.add (0*P.cellsOf e))) (0-0) (c-0)) h ?_ rfl ?_
    ·have:=Dl (w:=w) hu (uQ sz e bS cC) A 0 c (bU.map a.eval) (ah.map a.eval) 0 0 iv jT (Nat.le_refl _) (Nat.le_refl _) (Nat.zero_le _)
     simp only [execOp,ap,hval]
     simp only [Option.map_none,Sem.run_bind,this];rfl
    ·refine .kg sz _ _ fun a3=> ?_
     split at a3
     ·rename_i mr;omega
     ·have:=hA (by simpa using a3)
      omega
   ·have hlen:((es.drop l).take (n-l)).length=n-l:=by simp;omega
    refine iy (v:= .slice (if c=l then some ⟨eb,off,none⟩ else (some (⟨eb,off,none⟩:Addr)).map (·.add (l*P.cellsOf e))) (n-l) (c-l)) h ?_ rfl ?_
    ·have:=Dl (w:=w) hu (uQ sz e bS cC) (some ⟨eb,off,none⟩) es.length c (bU.map a.eval) (ah.map a.eval) l n iv jT h1 o bf
     simp only [execOp,ap,hval]
     simp only [Option.map_none,Sem.run_bind,this];rfl
    ·by_cases iB:c=l
     ·have:n-l=0:=by omega
      rw [this]
      show Rel _ _ _ _ (.isl sz ((es.drop l).take 0)) _
      rw [List.take_zero]
      exact .kg sz _ _ (fun _=>by omega)
     ·rw [if_neg iB]
      simp only [Option.map_some,rv,← bS]
      have ao:=(Dq im l (n-l) (by omega)).isl (c:=c-l) ⟨aR.1,fun e he=>aR.2 e (List.mem_of_mem_drop (List.mem_of_mem_take he))⟩ (by rw [hlen];omega)
      rw [hlen] at ao
      exact ao
  ·simp at aw
 ·rename_i e r k SV len hu gN
  rw [gN] at U
  split at aw
  ·simp at aw
  ·rename_i row dC
   split at aw
   ·simp at aw
   ·rename_i ak SW bo
    split at aw
    ·rename_i l cb n aQ aT a3
     simp only [Option.ite_none_right_eq_some,Option.some.injEq] at aw
     obtain ⟨⟨bS,cC⟩,aw⟩:=aw
     subst aw
     have kh:s.ak r k=some ak:=by
      unfold S.ak;rw [dC];exact s5 bo fun p ai=>cF p (by simp [ai])
     have iv:=x6 h aT fun p ai=>cF p (by simp [ai])
     have jT:=x6 h a3 fun p ai=>cF p (by simp [ai])
     have h1:l≤n:=cF _ (by simp)
     have o:n≤len:=cF _ (by simp)
     have jt:=DM kh
     rcases U.uC (iz kh) with ⟨ai,rfl,rfl,hval⟩|⟨b,m,A,c,ai,hval,qY,sx,mf,hm⟩
     ·have BI:n=0:=by omega
      subst BI
      have nj:l=0:=by omega
      subst nj
      refine iy (v:= .slice none 0 0) h ?_ rfl (.nr jt ((iz kh).trans (by rw [ai])))
      have:=Dl (w:=w) hu (uQ _ e bS cC) none 0 0 (bU.map a.eval) (ah.map a.eval) 0 0 iv jT (Nat.le_refl _) (Nat.le_refl _) (Nat.le_refl _)
      simp only [execOp,ap,hval]
      simp only [Option.map_none,Sem.run_bind,this];rfl
     ·refine iy (v:= .slice (if c=l then A else A.map (·.add (l*P.cellsOf e))) (n-l) (c-l)) h ?_ rfl ?_
      ·have:=Dl (w:=w) hu (uQ _ e bS cC) A len c (bU.map a.eval) (ah.map a.eval) l n iv jT h1 o qY
       simp only [execOp,ap,hval]
       simp only [Option.map_none,Sem.run_bind,this];rfl
      ·refine Rel.bm jt ((iz kh).trans (by rw [ai])) (by omega) (by omega) ?_
       refine ⟨by rw [← mf];congr 1;omega,?_⟩
       by_cases iB:c=l
       ·exact .inl (by omega)
       ·rcases hm with hm|hA
        ·exact .inl (by omega)
        ·refine .inr ?_
         rw [if_neg iB,hA]
         simp only [Option.map_some,rv,← bS,Nat.add_mul]
    ·simp at aw
 ·rename_i b hu gN
  rw [gN] at U
  split at aw
  ·rename_i l cb n aQ aT a3
   simp only [Option.some.injEq] at aw
   subst aw
   have iv:=x6 h aT fun p ai=>cF p (by simp [ai])
   have jT:=x6 h a3 fun p ai=>cF p (by simp [ai])
   have h1:l≤n:=cF _ (by simp)
   have o:n≤b.size:=cF _ (by simp)
   refine iy (v:= .string (b.extract l n)) h ?_ rfl (.s _)
   have aR : ∀(k:IntKind) (n y:Nat) (code:BoundsCode),n≤y→(Instr.sliceBound (.int k n) y code).run P w = .ok n w:=by
    intro k n y code a3
    simp [Instr.sliceBound,asIntOf,a3]
   simp only [execOp,ap,U.ye,Option.map_none]
   rcases iv with ⟨e1,rfl⟩|⟨lZ,e1⟩<;>rcases jT with ⟨aE,rfl⟩|⟨kI,aE⟩<;>rw [e1,aE] <;>
    simp [Instr.sliceAt,Instr.slice,run_underlying hu,Instr.sliceBounds,aR,h1,o]
  ·simp at aw
 ·simp at aw
end
end Go.VL
namespace Go.VL
set_option linter.unusedVariables false
set_option linter.unusedSimpArgs false
open Go
section
variable {P:Program} {g:G} {s:S} {ay:fo} {a:Act} {w:World} {I:Oper} {cP:fB} {aV:Nat} {bD:h8}
theorem YS {ok:Nat→Prop}{a5:jf}{bi:i4}{t:TypeId}{c:List aB}{off:Nat}{x:aB}{vs:List Value}(aT:vs.length=c.length)
 (j4 : ∀(j:Nat) u,vs[j]? = some u→ke u=true) (ao : ∀(j:Nat) x u,c[j]? = some x→vs[j]? = some u→Rel w ok a5 bi x u)
 (cf:sf P t c off=some x) : ∃v,(part t vs.toArray off).run P w = .ok v w∧Rel w ok a5 bi x v:=by
 unfold sf at cf
 split at cf
 ·simp at cf
 ·rename_i ah
  simp only [Bool.not_eq_true',Bool.not_eq_false,Bool.and_eq_true] at ah
  simp only [part,Sem.run_bind,Pa ah.1,Result.andThen]
  split at cf
  ·rename_i qU
   rw [qU]
   split at cf
   ·rename_i hle
    simp at cf;subst cf
    have e:(vs.toArray.extract off (off+P.cellsOf t))=((vs.drop off).take (P.cellsOf t)).toArray:=by
     apply Array.ext'
     simp [List.extract_eq_take_drop]
    refine ⟨.agg ((vs.drop off).take (P.cellsOf t)).toArray,by simp [uo ah.2],?_⟩
    refine .agg _ (by simp;omega) ?_ ?_
    ·intro j v bh
     rw [List.getElem?_take] at bh
     split at bh
     ·rw [List.getElem?_drop] at bh;exact j4 _ _ bh
     ·simp at bh
    ·intro j y v aW bh
     rw [List.getElem?_take] at bh aW
     split at bh
     ·rename_i aC
      rw [if_pos aC] at aW
      rw [List.getElem?_drop] at bh aW;exact ao _ _ _ aW bh
     ·simp at bh
   ·simp at cf
  ·rename_i qU
   have qU:AK P t=false:=by simpa using qU
   rw [qU]
   split at cf
   ·rename_i y aW
    split at cf
    ·simp at cf;subst cf
     have yn:off<vs.length:=by
      rcases Nat.lt_or_ge off c.length with h|h
      ·omega
      ·rw [List.getElem?_eq_none h] at aW;simp at aW
     exact ⟨vs[off],by simp [yn],ao off y _ aW (List.getElem?_eq_getElem yn)⟩
    ·simp at cf
   ·simp at cf
theorem aae {t:TypeId}{x:Operand}{f:Nat}(h:cM g s ay a w)(ap:I.op = .field t x f)(aw:eQ P s.E s.aX aV I cP=some bD):Fin P g s a w I bD:=by
 simp only [eQ,ap] at aw
 have U:=h.eval x
 split at aw
 ·rename_i kH BG
  split at aw
  ·rename_i fd c tr gN
   rw [gN] at U
   cases cf:sf P fd.type c fd.offset with
   | none=>simp [cf] at aw
   | some v =>
    simp [cf] at aw;subst aw
    obtain ⟨vs,hval,aT,bf,ao⟩:=U.AA
    obtain ⟨u,h1,o⟩:=YS aT bf ao cf
    refine iy (v:=u) h ?_ rfl o
    simp [execOp,ap,hval,Instr.field,run_underlying (JO BG),tr,asAgg,h1]
  ·simp at aw
 ·simp at aw
theorem Zs (off:Nat): ∀(vs:List Value) (n:Nat) (cs:Array Value) (j:Nat),off+n+vs.length≤cs.size →
 ((vs.zipIdx n).foldl (fun cs (x:Value×Nat)=>cs.setIfInBounds (off+x.2) x.1) cs)[j]? = if off+n≤j∧j<off+n+vs.length then vs[j-(off+n)]? else cs[j]? := by
 intro vs
 induction vs with
 | nil=>intro n cs j h;simp;intro h1 o;omega
 | cons v vs ih =>
  intro n cs j h
  simp only [List.length_cons] at h
  simp only [List.zipIdx_cons,List.foldl_cons]
  rw [ih (n+1) _ j (by simp;omega)]
  simp only [List.length_cons,Array.getElem?_setIfInBounds]
  by_cases h1:j=off+n
  ·subst h1
   rw [if_neg (by omega),if_pos rfl,if_pos (by omega),if_pos (by omega)]
   simp
  ·by_cases o:off+(n+1)≤j∧j<off+(n+1)+vs.length
   ·rw [if_pos o,if_pos (by omega)]
    rw [show j-(off+n)=(j-(off+(n+1)))+1 by omega];rfl
   ·rw [if_neg o,if_neg (fun e=>h1 e.symm),if_neg (by omega)]
theorem Xw (off:Nat): ∀(vs:List (Value×Nat)) (cs:Array Value),(vs.foldl (fun cs (x:Value×Nat)=>cs.setIfInBounds (off+x.2) x.1) cs).size=cs.size:=by
 intro vs
 induction vs with
 | nil=>intro cs;rfl
 | cons v vs ih=>intro cs;simp only [List.foldl_cons];rw [ih];simp
def y0 (w:World)(ok:Nat→Prop)(a5:jf)(bi:i4)(c:List aB)(cs:Array Value):Prop :=
 cs.size=c.length∧(∀(j:Nat) u,cs[j]? = some u→ke u=true)∧ ∀(j:Nat) x u,c[j]? = some x→cs[j]? = some u→Rel w ok a5 bi x u
theorem aaf {ok:Nat→Prop}{a5:jf}{bi:i4}{c:List aB}{cs:Array Value}(h:y0 w ok a5 bi c cs){x:aB}{v:Value}{off:Nat}(U:Rel w ok a5 bi x v)(bf:x.xN=true)
 (ik:off+x.cells.length≤c.length):v.cells.size=x.cells.length ∧
   y0 w ok a5 bi (setCells c off x.cells) (v.cells.zipIdx.foldl (fun cs (y:Value×Nat)=>cs.setIfInBounds (off+y.2) y.1) cs):=by
 obtain ⟨vs,bh,aT,j4,ao⟩:=U.cellsOf (aB.Ot bf)
 have lV : ∀j,(v.cells.zipIdx.foldl (fun cs (y:Value×Nat)=>cs.setIfInBounds (off+y.2) y.1) cs)[j]? = if off≤j∧j<off+vs.length then vs[j-off]? else cs[j]? := by
  intro j
  rw [bh]
  have:=Zs off vs 0 cs j (by rw [h.1];omega)
  simp only [Nat.add_zero] at this
  rw [← this,← Array.foldl_toList,Array.toList_zipIdx]
 refine ⟨by rw [bh];simpa using aT,?_,?_,?_⟩
 ·rw [NR ik,← h.1,← Array.foldl_toList,Xw]
 ·intro j u hu
  rw [lV] at hu
  split at hu
  ·exact j4 _ _ hu
  ·exact h.2.1 _ _ hu
 ·intro j y u aW hu
  rw [lV] at hu
  rw [JN ik] at aW
  by_cases lU:off≤j∧j<off+x.cells.length
  ·rw [if_pos lU] at aW
   rw [if_pos (by rw [aT];exact lU)] at hu
   exact ao _ _ _ aW hu
  ·rw [if_neg lU] at aW
   rw [if_neg (by rw [aT];exact lU)] at hu
   exact h.2.2 _ _ _ aW hu
theorem OK {ok:Nat→Prop}{a5:jf}{bi:i4}(place:Nat→Option (Nat×Nat)): ∀(l:List (Nat×Nat×aB)) (jS:List (Nat×Value)) (c:List aB) (cs:Array Value) (dL:List aB),
 y0 w ok a5 bi c cs→l.length=jS.length →
 (∀(j:Nat) off size x i v,l[j]? = some (off,size,x)→jS[j]? = some (i,v)→place i=some (off,size)∧Rel w ok a5 bi x v) →
 tc c l=some dL→ ∃mT,Instr.fill place cs jS=some mT∧y0 w ok a5 bi dL mT:=by
 intro l
 induction l with
 | nil =>
  intro jS c cs dL h aT _ cg
  have:jS=[]:=List.length_eq_zero_iff.1 (by simpa using aT.symm)
  subst this
  simp [tc] at cg;subst cg
  exact ⟨cs,rfl,h⟩
 | cons q l ih =>
  intro jS c cs dL h aT ai cg
  obtain ⟨off,size,x⟩:=q
  match jS,aT with
  | (i,v)::jS,aT =>
   obtain ⟨adg,U⟩:=ai 0 off size x i v rfl rfl
   simp only [tc] at cg
   split at cg
   ·rename_i bf
    simp only [Bool.and_eq_true,decide_eq_true_eq] at bf
    obtain ⟨⟨h1,o⟩,ae⟩:=bf
    obtain ⟨e1,aE⟩:=aaf h U h1 (off:=off) (by omega)
    obtain ⟨mT,f1,f2⟩:=ih jS _ _ dL aE (by simpa using aT) (fun j off size x i v a b=>ai (j+1) off size x i v a b) cg
    refine ⟨mT,?_,f2⟩
    rw [Instr.fill]
    simp only [adg]
    have hI : ¬(decide (v.cells.size≠size) || decide (off+v.cells.size>cs.size))=true:=by simp;rw [e1,h.1];omega
    rw [if_neg hI]
    exact f1
   ·simp at cg
theorem mapM_some {α β:Type}(f:α→β)(p:α→Option β): ∀(l:List α),(∀x∈l,p x=some (f x))→l.mapM p=some (l.map f)
 | [],_=>rfl
 | x::l,h=>by
  rw [List.mapM_cons,h x (by simp),mapM_some f p l fun y aW=>h y (by simp [aW])];rfl
theorem P9 {α β:Type}(p:α→Option β): ∀(l:List α) (gm:List β),l.mapM p=some gm→gm.length=l.length∧ ∀(j:Nat) x y,l[j]? = some x→gm[j]? = some y→p x=some y
 | [],gm,h=>by simp at h;subst h;exact ⟨rfl,fun j x y U=>by simp at U⟩
 | a::l,gm,h=>by
  rw [List.mapM_cons] at h
  cases bF:p a with
  | none=>simp [bF] at h
  | some b =>
   cases aT:l.mapM p with
   | none=>simp [bF,aT] at h
   | some r =>
    simp [bF,aT] at h;subst h
    obtain ⟨h1,o⟩:=P9 p l r aT
    refine ⟨by simp [h1],fun j x y U aW=> ?_⟩
    cases j with
    | zero=>simp at U aW;subst U;subst aW;exact bF
    | succ j=>simp at U aW;exact o j x y U aW
theorem Qa {t:TypeId}{z:List aB}(cC:qA P t=some z): ∃i eC,P.info? t=some i∧i.zero=some eC∧eC.cells.size=z.length∧y0 w (s.ok g ay w) s.a5 (s.bi ay) z eC.cells:=by
 obtain ⟨i,eC,ah,k2,pM,j4⟩:=Ah cC
 have bS:eC.cells.size=z.length:=by rw [pM];simp
 refine ⟨i,eC,ah,k2,bS,bS,fun j u hu=> ?_,fun j x u U hu=> ?_⟩
 ·have aC:j<z.length:=by
   have:=(Array.getElem?_eq_some_iff.1 hu).1;omega
  obtain ⟨v,e1,aE,-⟩:=j4 j z[j] (List.getElem?_eq_getElem aC)
  rw [hu] at e1;simp at e1;subst e1;exact aE
 ·obtain ⟨v,e1,-,bT⟩:=j4 j x U
  rw [hu] at e1;simp at e1;subst e1;exact bT _ _ _ _
theorem aag {t:TypeId}{parts:Array (Nat×Operand)}(h:cM g s ay a w)(ap:I.op = .build t parts)(aw:eQ P s.E s.aX aV I cP=some bD):Fin P g s a w I bD:=by
 simp only [eQ,ap] at aw
 split at aw
 ·rename_i kH z BG cC
  split at aw
  ·simp at aw
  ·rename_i ny
   have ny : ∀f∈kH.toList,(P.info? f.type).isSome=true:=by
    rw [Bool.not_eq_false] at ny
    exact List.all_eq_true.1 ny
   split at aw
   ·rename_i l aT
    cases cg:tc z l with
    | none=>simp [cg] at aw
    | some c =>
     simp [cg] at aw;subst aw
     obtain ⟨it,eC,BJ,k2,eP,hcs⟩:=Qa (w:=w) (s:=s) (g:=g) (ay:=ay) cC
     obtain ⟨nK,qt⟩:=P9 _ _ _ aT
     have acB:kH.toList.mapM (fun f=>(P.info? f.type).map fun i=>(f.offset,i.size))=some (kH.toList.map fun f=>(f.offset,P.cellsOf f.type)):=by
      refine mapM_some (fun f:Field=>(f.offset,P.cellsOf f.type)) _ _ fun f cg=> ?_
      have:=ny f cg
      cases ah:P.info? f.type with
      | none=>simp [ah] at this
      | some i=>simp [Program.cellsOf,ah]
     obtain ⟨mT,f1,f2⟩:=OK (w:=w) (ok:=s.ok g ay w) (a5:=s.a5) (bi:=s.bi ay) ((kH.toList.map fun f=>(f.offset,P.cellsOf f.type)).toArray[·]?) l (parts.map fun (i,x)=>(i,a.eval x)).toList z eC.cells c hcs (by simpa using nK) (by
      intro j off size x i v aC bh
      simp only [Array.toList_map,List.getElem?_map,Option.map_eq_some_iff] at bh
      obtain ⟨⟨eD,cK⟩,ai,bh⟩:=bh
      simp only [Prod.mk.injEq] at bh
      obtain ⟨rfl,rfl⟩:=bh
      have:=qt j _ _ ai aC
      simp only [Option.map_eq_some_iff,Prod.mk.injEq] at this
      obtain ⟨fd,h1,o,ae,au⟩:=this
      subst o;subst ae;subst au
      refine ⟨?_,h.eval cK⟩
      rw [List.getElem?_toArray,List.getElem?_map,Array.getElem?_toList,h1];rfl) cg
     have aR:P.built t (parts.map fun (i,x)=>(i,a.eval x)).toList=some mT:=by
      unfold Program.built
      simp only [BJ,JO BG,k2,acB]
      exact f1
     refine iy (v:= .agg mT) h ?_ rfl ?_
     ·have:=run_build w t _ mT aR
      simp [execOp,ap,this]
     ·have:=Rel.agg (w:=w) (ok:=s.ok g ay w) (a5:=s.a5) (bi:=s.bi ay) (c:=c) mT.toList (by simpa using f2.1) (fun j u hu=>f2.2.1 j u (by simpa using hu)) (fun j x u U hu=>f2.2.2 j x u U (by simpa using hu))
      simpa using this
   ·simp at aw
 ·simp at aw
theorem WH {sz:Nat}{es:List (List aB)}(aT:∀e∈es,e.length=sz){i:Nat}(ah:i<es.length){c:List aB}(bf:c.length=sz):
 setCells es.flatten (i*sz) c=(es.set i c).flatten:=by
 have hlen : ∀(es:List (List aB)),(∀e∈es,e.length=sz)→es.flatten.length=es.length*sz:=by
  intro es
  induction es with
  | nil=>simp
  | cons e es ih =>
   intro h
   rw [List.flatten_cons,List.length_append,ih fun x U=>h x (by simp [U]),h e (by simp),List.length_cons,Nat.add_mul];omega
 have ik:i*sz+c.length≤es.flatten.length:=by
  rw [hlen es aT,bf]
  have:=Nat.mul_le_mul_right sz (show i+1≤es.length by omega)
  rw [Nat.add_mul] at this;omega
 apply List.ext_getElem?
 intro j
 rw [JN ik,Ou aT (List.getElem?_eq_getElem ah) bf,bf]
theorem OL {sz:Nat}: ∀(l:List (Nat×aB)) (es gl:List (List aB)),(∀e∈es,e.length=sz)→yd sz es l=some gl →
 tc es.flatten (l.map fun p=>(p.1*sz,sz,p.2))=some gl.flatten∧(∀e∈gl,e.length=sz)∧gl.length=es.length
 | [],es,gl,aT,h=>by simp [yd] at h;subst h;exact ⟨rfl,aT,rfl⟩
 | (i,x)::l,es,gl,aT,h=>by
  simp only [yd] at h
  split at h
  ·rename_i bf
   simp only [Bool.and_eq_true,decide_eq_true_eq] at bf
   obtain ⟨⟨h1,o⟩,ae⟩:=bf
   have Lz : ∀e∈es.set i x.cells,e.length=sz:=by
    intro e hm
    rcases List.mem_or_eq_of_mem_set hm with cI|cI
    ·exact aT e cI
    ·exact cI▸o
   obtain ⟨gi,hn,dp⟩:=OL l (es.set i x.cells) gl Lz h
   have e:=WH aT ae o
   have ik:i*sz+sz≤es.flatten.length:=by
    have:(setCells es.flatten (i*sz) x.cells).length=(es.set i x.cells).flatten.length:=by rw [e]
    have a7 : ∀(es:List (List aB)),(∀e∈es,e.length=sz)→es.flatten.length=es.length*sz:=by
     intro es
     induction es with
     | nil=>simp
     | cons e es ih =>
      intro h
      rw [List.flatten_cons,List.length_append,ih fun x U=>h x (by simp [U]),h e (by simp),List.length_cons,Nat.add_mul];omega
    rw [a7 es aT]
    have:=Nat.mul_le_mul_right sz (show i+1≤es.length by omega)
    rw [Nat.add_mul] at this;omega
   refine ⟨?_,hn,by simpa using dp⟩
   simp only [List.map_cons,tc,h1,o,ik,decide_true,Bool.and_self,if_true]
   rw [e];exact gi
  ·simp at h
theorem XQ {t:TypeId}{len:Nat}{parts:Array (Nat×Operand)}(h:cM g s ay a w)(eV:s.aX aV=none)(ap:I.op = .buildSlice t len parts)(aw:eQ P s.E s.aX aV I cP=some bD):Fin P g s a w I bD:=by
 simp only [eQ,ap] at aw
 split at aw
 ·rename_i e he
  split at aw
  ·rename_i z cC
   split at aw
   ·simp at aw
   ·rename_i bf
    simp only [not_or,Nat.not_lt,Decidable.not_not] at bf
    obtain ⟨mU,yv,yw⟩:=bf
    split at aw
    ·rename_i es hr
     simp only [Option.some.injEq] at aw;subst aw
     obtain ⟨it,eC,BJ,k2,eP,hcs⟩:=Qa (w:=w) (s:=s) (g:=g) (ay:=ay) cC
     have j4:P.cellsOf e=it.size:=by simp [Program.cellsOf,BJ]
     have Rq : ∀x∈List.replicate len z,x.length=z.length:=fun x U=>by rw [List.eq_of_mem_replicate U]
     obtain ⟨f1,f2,f3⟩:=OL _ _ _ Rq hr
     have qZ:y0 w (s.ok g ay w) s.a5 (s.bi ay) (List.replicate len z).flatten ((Array.range (len*it.size)).map (eC.cells[· % eC.cells.size]!)):=by
      have EA:0<z.length:=by omega
      have lV : ∀j,j<len*it.size→((Array.range (len*it.size)).map (eC.cells[· % eC.cells.size]!))[j]? = eC.cells[j % z.length]? := by
       intro j aC
       rw [Array.getElem?_map,Array.getElem?_range]
       simp only [aC,if_true,Option.map_some]
       have hm:j % eC.cells.size<eC.cells.size:=Nat.mod_lt _ (by omega)
       rw [getElem!_pos eC.cells _ hm,← eP,Array.getElem?_eq_getElem hm]
      have dE : ∀(j:Nat) u,((Array.range (len*it.size)).map (eC.cells[· % eC.cells.size]!))[j]? = some u→j<len*it.size:=by
       intro j u hu
       have:=(Array.getElem?_eq_some_iff.1 hu).1
       simpa using this
      refine ⟨by simp [← j4,← yv],fun j u hu=> ?_,fun j x u U hu=> ?_⟩
      ·have aC:=dE j u hu
       rw [lV j aC] at hu
       exact hcs.2.1 _ _ hu
      ·have aC:=dE j u hu
       rw [lV j aC] at hu
       rw [o3 EA _ Rq,List.getElem?_replicate] at U
       split at U
       ·exact hcs.2.2 _ _ _ U hu
       ·simp at U
     obtain ⟨mT,g1,g2⟩:=OK (w:=w) (ok:=s.ok g ay w) (a5:=s.a5) (bi:=s.bi ay) (fun i=>some (i*it.size,it.size)) ((parts.toList.map fun p=>(p.1,fg s.E p.2)).map fun p=>(p.1*z.length,z.length,p.2)) (parts.map fun (i,x)=>(i,a.eval x)).toList _ _ es.flatten qZ (by simp) (by
      intro j off size x i v aC bh
      simp only [Array.toList_map,List.getElem?_map,Option.map_eq_some_iff,List.map_map] at bh aC
      obtain ⟨⟨eD,cK⟩,ai,bh⟩:=bh
      obtain ⟨⟨pk,d8⟩,BD,aC⟩:=aC
      rw [ai] at BD
      simp only [Option.some.injEq,Prod.mk.injEq] at BD bh
      obtain ⟨rfl,rfl⟩:=BD
      obtain ⟨rfl,rfl⟩:=bh
      simp only [Function.comp,Prod.mk.injEq] at aC
      obtain ⟨rfl,rfl,rfl⟩:=aC
      exact ⟨by rw [← j4,← yv],h.eval cK⟩) f1
     have iW:(Instr.buildSlice t len (parts.map fun (i,x)=>(i,a.eval x))).run P w = .ok (.slice (some ⟨w.heap.size,0,none⟩) len len) (w.alloc (.cells mT e)):=by
      have h1 : ¬len*it.size>2 ^ 24:=by rw [← j4,← yv];omega
      by_cases h0:len*it.size=0
      ·have nj:len=0:=by
        rcases Nat.eq_zero_or_pos len with cI|cI
        ·exact cI
        ·have:0<len*it.size:=Nat.mul_pos cI (by omega)
         omega
       subst nj
       have e0:((Array.range (0*it.size)).map (eC.cells[· % eC.cells.size]!)) = #[]:=by simp
       rw [e0] at g1
       have ai:parts = #[]:=by
        obtain ⟨l⟩:=parts
        match l,hr with
        | [],_=>rfl
        | p::l,hr=>simp [yd] at hr
       subst ai
       have acC:mT = #[]:=by simpa [Instr.fill] using g1.symm
       subst acC
       simp [Instr.buildSlice,run_underlying (ry he),sizeOf,typeInfo,BJ,newRow,Instr.fill]
       rw [Array.range_zero',Array.map_empty]
      ·simp only [Instr.buildSlice,run_underlying (ry he),sizeOf,typeInfo,BJ,newRow,zeroValue,k2,Sem.run_bind,Result.andThen_ok,run_program,Sem.run_pure,Sem.run_ite,h1,h0,if_false]
       rw [g1];rfl
     refine DY (v:= .slice (some ⟨w.heap.size,0,none⟩) len len) (ak:=⟨z.length,es,.live⟩) (c:=mT) (eE:=e) h eV rfl ?_ rfl f2 ?_ ?_
     ·simp [execOp,ap,iW]
     ·intro j x U
      have aC:j<mT.size:=by
       rw [g2.1]
       rcases Nat.lt_or_ge j es.flatten.length with cI|cI
       ·exact cI
       ·rw [List.getElem?_eq_none cI] at U;simp at U
      have hu:mT[j]? = some mT[j]:=Array.getElem?_eq_getElem aC
      exact ⟨_,hu,g2.2.1 _ _ hu,g2.2.2 _ _ _ U hu⟩
     ·intro bL kQ mQ mc hu cf
      refine Rel.bm hu cf (Nat.le_refl _) ?_ ⟨?_,.inr (by simp)⟩
      ·have:len≤len*z.length:=Nat.le_mul_of_pos_right _ (by omega)
       omega
      ·rw [g2.1]
       have a7 : ∀(es:List (List aB)),(∀e∈es,e.length=z.length)→es.flatten.length=es.length*z.length:=by
        intro es
        induction es with
        | nil=>simp
        | cons e es ih =>
         intro h
         rw [List.flatten_cons,List.length_append,ih fun x U=>h x (by simp [U]),h e (by simp),List.length_cons,Nat.add_mul];omega
       rw [a7 es f2,f3];simp
    ·simp at aw
  ·simp at aw
 ·simp at aw
theorem DE (h:cM g s ay a w)(eV:s.aX aV=none)(aw:eQ P s.E s.aX aV I cP=some bD)(cF:∀p∈bD.fx,p):Fin P g s a w I bD:=by
 cases ap:I.op with
 | move x=>exact P8 h (.inl ap) aw
 | assign x=>exact P8 h (.inr ap) aw
 | pick c x y=>exact aa2 h ap aw cF
 | alloc t=>exact Z8 h eV ap aw
 | box t x=>exact abB h eV ap aw
 | load t x=>exact aa3 h ap aw cF
 | store t x y=>exact Z9 h ap aw cF
 | nilCheck x=>exact Yt h ap aw cF
 | binOp op t x y df=>exact aaa h ap aw cF
 | unOp op t x=>exact aa4 h ap aw
 | convert t df x=>exact YP h ap aw
 | makeFunc f Cq cr=>exact Yu h ap aw
 | makeSlice t x y=>exact X6 h eV ap aw cF
 | fieldAddr t x f=>exact X7 h ap aw cF
 | field t x f=>exact aae h ap aw
 | indexAddr t x y=>exact X8 h ap aw cF
 | index t x y=>exact aac h ap aw cF
 | extract x i=>exact YQ h ap aw
 | slice t x bU ah Mp =>
  cases Mp with
  | none=>exact aad h ap aw cF
  | some m=>simp [eQ,ap] at aw
 | build t jS=>exact aag h ap aw
 | buildSlice t n jS=>exact XQ h eV ap aw
 | call c =>
  obtain ⟨EB,args,mS⟩:=c
  cases EB with
  | builtin b=>cases b<;>first|exact abC h ap rfl aw cF|simp [eQ,ap] at aw
  | value f=>simp [eQ,ap] at aw
  | invoke r m=>simp [eQ,ap] at aw
 | _=>simp [eQ,ap] at aw
end
end Go.VL
namespace Go.VL
set_option linter.unusedVariables false
set_option linter.unusedSimpArgs false
open Go
def abD:Option ab→fB
 | some I=> .gj I []
 | none=> .none
def qR (sz:Nat)(aX:Nat→Option (List ab))(a:fB):aB→Option (List (List aB)×List Prop)
 | .isl EC es=>if EC=sz then some (es,[]) else none
 | .bm r k bU len=>match oK (aX r) k a with
  | some (ak,cb)=>if ak.sz=sz then some ((ak.es.drop bU).take len,cb++[bU+len≤ak.es.length]) else none
  | none=>none
 | .eU=>some ([],[])
 | .iQ=>some ([],[])
 | _=>none
def uL (P:Program)(sz:Nat)(z:List aB)(aX:Nat→Option (List ab))(a:fB)(t df:TypeId)(y:aB):Option (List (List aB)×List Prop) :=
 if t=df then qR sz aX a y else
 match P.underlying df,y with
 | some (.int _),.n .i64 n=>some (List.replicate n.toNat z,[0≤n,n<9223372036854775808])
 | _,_=>none
def nB (P:Program)(E:Nat→aB)(aX:Nat→Option (List ab))(aV:Nat)(b:Builtin)(args:List aB)(mS:List TypeId)(cP:fB):Option h8 :=
 match b,args,mS,cP with
 | .append,[x,y],[t,df],.aJ m I =>
  match px P t with
  | none=>none
  | some e=>match P.info? e,qA P e with
   | some i,some z =>
    if z.length≠i.size∨i.size=0∨i.bytes=0 then none else
    match uL P i.size z aX (abD I) t df y with
    | none=>none
    | some (bC,cb)=>match x with
     | .eU=>some {val:= .bm aV 0 0 m,fO:=[(aV,[⟨i.size,bC,.live⟩])],fx:=cb++[m=bC.length,m*i.bytes≤140737488355328]}
     | .bm r k 0 len=>match aX r with
      | none=>none
      | some row=>match dg (some row) k with
       | none=>none
       | some ak=>if ak.cw = .live∧ak.sz=i.size∧aV≠r then
        some {val:= .bm aV 0 0 m,fO:=[(aV,[⟨i.size,ak.es.take len++bC,.live⟩]),(r,row.set k {ak with cw:= .gone})],fx:=cb++[len≤ak.es.length,m=len+bC.length,m*i.bytes≤140737488355328]} else none
     | _=>none
   | _,_=>none
 | .append,[x,y],[t,df],.fV =>
  match px P t with
  | none=>none
  | some e=>match P.info? e,qA P e with
   | some i,some z =>
    if z.length≠i.size∨i.size=0∨i.bytes=0 then none else
    match uL P i.size z aX .none t df y with
    | none=>none
    | some (bC,cb)=>match x with
     | .bm r k 0 len=>match aX r with
      | none=>none
      | some row=>match dg (some row) k with
       | none=>none
       | some ak=>if ak.cw = .live∧ak.sz=i.size then
        some {val:= .bm r k 0 (len+bC.length),fO:=[(r,row.set k {ak with es:=ak.es.take len++bC})],fx:=cb++[len+bC.length≤ak.es.length,bC.length*i.bytes≤140737488355328]} else none
     | _=>none
   | _,_=>none
 | .copy,[.bm r k 0 len,y],[t,_],_ =>
  match px P t with
  | none=>none
  | some e=>match P.info? e with
   | none=>none
   | some i=>match qR i.size aX .none y with
    | none=>none
    | some (bC,cb)=>match aX r with
     | none=>none
     | some row=>match dg (some row) k with
      | none=>none
      | some ak=>if ak.cw = .live∧ak.sz=i.size∧i.size≠0 then
       some {val:= .n .i64 bC.length,fO:=[(r,row.set k {ak with es:=bC++ak.es.drop bC.length})],fx:=cb++[bC.length≤len,len≤ak.es.length]} else none
 | .clear,[.bm r k 0 len],[t],_ =>
  match px P t with
  | none=>none
  | some e=>match P.info? e,qA P e with
   | some i,some z=>match aX r with
    | none=>none
    | some row=>match dg (some row) k with
     | none=>none
     | some ak=>if ak.cw = .live∧ak.sz=i.size∧z.length=i.size∧i.size≠0 then
      some {val:= .d7 [],fO:=[(r,row.set k {ak with es:=List.replicate len z})],fx:=[ak.es.length=len]} else none
   | _,_=>none
 | .min,[.n k x,.n dU y],_,_=>if k=dU then some {val:= .n k (if y<x then y else x)} else none
 | _,_,_,_=>none
section
variable {g:G} {s:S} {ay:fo} {a:Act} {w bL:World}
theorem cM.gone (h:cM g s ay a w){r k:Nat}{l:List ab}{I:ab}(ao:s.aX r=some l)(ap:s.ak r k=some I):
 cM g (s.setRow r (l.set k {I with cw:= .gone})) ay a w ∧
  ∀x v,Rel w (s.ok g ay w) s.a5 (s.bi ay) x v→Rel w ((s.setRow r (l.set k {I with cw:= .gone})).ok g ay w) (s.setRow r (l.set k {I with cw:= .gone})).a5 ((s.setRow r (l.set k {I with cw:= .gone})).bi ay) x v:=by
 have bo : ∀q j p,(s.setRow r (l.set k {I with cw:= .gone})).ak q j=some p→s.ak q j=some p∧ ¬(q=r∧j=k):=by
  intro q j p ai
  rw [lv] at ai
  by_cases e:q=r
  ·subst e
   rw [if_pos rfl] at ai
   unfold dg at ai
   simp only [List.getElem?_set] at ai
   by_cases aE:k=j
   ·subst aE
    by_cases a6:k<l.length
    ·simp [a6] at ai
    ·simp [a6] at ai
   ·rw [if_neg aE] at ai
    refine ⟨?_,fun fw=>aE fw.2.symm⟩
    unfold S.ak;rw [ao];exact ai
  ·rw [if_neg e] at ai
   exact ⟨ai,fun fw=>e fw.1⟩
 have c8:Step g s ay w (s.setRow r (l.set k {I with cw:= .gone})) ay w:=by
  refine ⟨Dp s ao (by simp),fun q j a7=> ?_,fun b aT=> ?_,fun _ _ _=>rfl,Nat.le_refl _⟩
  ·cases ai:(s.setRow r (l.set k {I with cw:= .gone})).ak q j with
   | none=>right;simp [S.bi,ai]
   | some p=>left;simp [S.bi,ai,(bo q j p ai).1]
  ·obtain ⟨q,j,p,m,h1,o,ae⟩:=aT
   exact .inl ⟨q,j,p,m,(bo q j p h1).1,o,ae⟩
 refine ⟨{toh7:=⟨?_,?_,?_,h.gL,h.mlt,h.nd,c8.stay h.stay,h.low⟩,env:=fun t=>c8.rel (h.env t),defers:=h.defers,jO:=h.jO},fun x v=>c8.rel⟩
 ·intro q j p ai
  exact c8.obj (fun b m _=>rfl) (h.obj q j p (bo q j p ai).1)
 ·intro q j p hF hP kn b m bA h1 o ae au
  exact h.inj q j p hF hP kn b m bA (bo q j p h1).1 (bo hF hP kn o).1 ae au
 ·intro q j p b m h1 o
  exact h.own q j p b m (bo q j p h1).1 o
theorem cM.Qb (h:cM g s ay a w){aV sz:Nat}(eV:s.aX aV=none):
 ∃bK,bK aV 0=none∧cM g (s.setRow aV [⟨sz,[],.live⟩]) bK a w:=by
 have bo : ∀q k,q≠aV→(s.setRow aV [⟨sz,[],.live⟩]).ak q k=s.ak q k:=fun q k a7=>by rw [lv,if_neg a7]
 let bK:fo:=fun q k=>if q=aV then none else ay q k
 have c4 : ∀q k,s.a5 q k→q≠aV:=by
  rintro q k a7 rfl;exact xo eV k a7
 have Ld : ∀k I,(s.setRow aV [⟨sz,[],.live⟩]).ak aV k=some I→I=⟨sz,[],.live⟩:=by
  intro k I ap
  rw [lv,if_pos rfl,l3] at ap
  split at ap
  ·simp at ap;exact ap.symm
  ·simp at ap
 have c8:Step g s ay w (s.setRow aV [⟨sz,[],.live⟩]) bK w:=by
  refine ⟨fun q k a7=>(m7 _ _ _ _ _).2 (by rw [if_neg (c4 q k a7)];exact a7),fun q k a7=> .inl ?_,fun b aT=> ?_,fun _ _ _=>rfl,Nat.le_refl _⟩
  ·simp [S.bi,bo q k (c4 q k a7),bK,c4 q k a7]
  ·obtain ⟨q,k,I,m,h1,o,ae⟩:=aT
   by_cases e:q=aV
   ·subst e;simp [bK] at ae
   ·rw [bo q k e] at h1
    simp only [bK,if_neg e] at ae
    exact .inl ⟨q,k,I,m,h1,o,ae⟩
 refine ⟨bK,by simp [bK],{toh7:=⟨?_,?_,?_,h.gL,h.mlt,h.nd,c8.stay h.stay,h.low⟩,env:=fun t=>c8.rel (h.env t),defers:=h.defers,jO:=h.jO}⟩
 ·intro q k I ap
  by_cases e:q=aV
  ·subst e
   rw [Ld k I ap]
   simp [bK,jo]
  ·rw [bo q k e] at ap
   have:=c8.obj (fun b m _=>rfl) (h.obj q k I ap)
   simpa [bK,e] using this
 ·intro q k I hF dU b8 b m bA h1 o ae au
  have e:q≠aV:=by rintro rfl;simp [bK] at ae
  have ep:hF≠aV:=by rintro rfl;simp [bK] at au
  rw [bo q k e] at h1
  rw [bo hF dU ep] at o
  simp only [bK,if_neg e] at ae
  simp only [bK,if_neg ep] at au
  exact h.inj q k I hF dU b8 b m bA h1 o ae au
 ·intro q k I b m h1 o
  have e:q≠aV:=by rintro rfl;simp [bK] at o
  rw [bo q k e] at h1
  simp only [bK,if_neg e] at o
  exact h.own q k I b m h1 o
theorem cM.turn (h:cM g s ay a w){r k b m aV:Nat}{l:List ab}{I:ab}(ao:s.aX r=some l)(ap:s.ak r k=some I)(a6:I.cw = .live)(ai:ay r k=some (b,m))
 (eV:s.aX aV=none) (b8:ab) (mV:b8.cw = .live) (c:Array Value) (eE:TypeId)
 (hw:bL.heap[b]? = some (.cells c eE (0,0))) (eP:bL.heap.size=w.heap.size) (uK : ∀q,q≠b→bL.heap[q]? = w.heap[q]?)
 (qj:bL.os=w.os) (Lx:bL.tape=w.tape) (La:bL.output=w.output) (hm:c.size=m) (hlen : ∀e∈b8.es,e.length=b8.sz)
 (bf : ∀(j:Nat) x,b8.es.flatten[j]? = some x→ ∃v,c[j]? = some v∧ke v=true∧Rel w (s.ok g ay w) s.a5 (s.bi ay) x v) :
 ∃bK,bK aV 0=some (b,m)∧cM g ((s.setRow aV [b8]).setRow r (l.set k {I with cw:= .gone})) bK a bL:=by
 have c4:r≠aV:=by rintro rfl;rw [eV] at ao;simp at ao
 have Rr : ∀k,¬s.a5 aV k:=xo eV
 let bQ:=(s.setRow aV [b8]).setRow r (l.set k {I with cw:= .gone})
 let bK:fo:=ay.set aV 0 (some (b,m))
 have bo : ∀q j p,bQ.ak q j=some p→(q=aV∧j=0∧p=b8)∨(q≠aV∧s.ak q j=some p∧ ¬(q=r∧j=k)):=by
  intro q j p a7
  rw [lv] at a7
  by_cases e:q=r
  ·subst e
   rw [if_pos rfl] at a7
   unfold dg at a7
   simp only [List.getElem?_set] at a7
   by_cases aE:k=j
   ·subst aE
    by_cases a6:k<l.length<;>simp [a6] at a7
   ·rw [if_neg aE] at a7
    refine .inr ⟨c4,?_,fun fw=>aE fw.2.symm⟩
    unfold S.ak;rw [ao];exact a7
  ·rw [if_neg e,lv] at a7
   by_cases aE:q=aV
   ·subst aE
    rw [if_pos rfl,l3] at a7
    split at a7
    ·rename_i h0;simp at a7;exact .inl ⟨rfl,h0.1,a7.symm⟩
    ·simp at a7
   ·rw [if_neg aE] at a7
    exact .inr ⟨aE,a7,fun fw=>e fw.1⟩
 have lG : ∀q j,q≠aV→bK q j=ay q j:=fun q j a7=>by simp [bK,fo.set,a7]
 have yx:bK aV 0=some (b,m):=by simp [bK,fo.set]
 have pw:s.lN ay b:=⟨r,k,I,m,ap,a6,ai⟩
 have jt : ∀q j,s.a5 q j→bQ.a5 q j:=fun q j a7=>by
  have e:q≠aV:=fun e=>Rr j (e▸a7)
  rw [m7,m7,if_neg e]
  by_cases aE:q=r
  ·subst aE;rw [if_pos rfl];simpa [S.a5,ao] using a7
  ·rw [if_neg aE];exact a7
 have c8:Step g s ay w bQ bK bL:=by
  refine ⟨jt,fun q j a7=> ?_,fun q aT=> ?_,fun q a7 aT=>uK q fun e=>aT (e▸pw),Nat.le_of_eq eP.symm⟩
  ·have nh:q≠aV:=fun e=>Rr j (e▸a7)
   cases ku:bQ.ak q j with
   | none=>right;simp [S.bi,ku]
   | some p =>
    left
    rcases bo q j p ku with ⟨e,-⟩|⟨-,aE,-⟩
    ·exact absurd e nh
    ·simp [S.bi,ku,aE,lG q j nh]
  ·obtain ⟨hF,j,p,bA,h1,o,ae⟩:=aT
   rcases bo hF j p h1 with ⟨rfl,rfl,rfl⟩|⟨e1,aE,-⟩
   ·rw [yx] at ae;simp at ae;exact .inl (ae.1▸pw)
   ·rw [lG hF j e1] at ae;exact .inl ⟨hF,j,p,bA,aE,o,ae⟩
 refine ⟨bK,yx,{toh7:=⟨?_,?_,?_,?_,h.mlt,h.nd,c8.stay h.stay,h.low⟩,env:=fun t=>c8.rel (h.env t),defers:=h.defers,jO:=h.jO}⟩
 ·intro q j p ku
  rcases bo q j p ku with ⟨rfl,rfl,rfl⟩|⟨e1,aE,bT⟩
  ·rw [yx]
   exact ⟨c,eE,hw,hm,hlen,fun i x U=>let ⟨v,f1,f2,f3⟩:=bf i x U;⟨v,f1,f2,c8.rel f3⟩⟩
  ·rw [lG q j e1]
   refine c8.obj (fun ko bA k1=>uK ko ?_) (h.obj q j p aE)
   rintro rfl
   exact bT (h.inj q j p r k I ko bA m aE ap k1 ai)
 ·intro q j p hF hP kn ko ir hh h1 o ae au
  rcases bo q j p h1 with ⟨rfl,rfl,rfl⟩|⟨e1,aE,bT⟩<;>rcases bo hF hP kn o with ⟨rfl,rfl,rfl⟩|⟨mW,pf,BK⟩
  ·exact ⟨rfl,rfl⟩
  ·rw [yx] at ae;simp at ae
   rw [lG hF hP mW] at au
   obtain ⟨rfl,rfl⟩:=ae
   exact absurd (h.inj hF hP kn r k I b hh m pf ap au ai) BK
  ·rw [yx] at au;simp at au
   rw [lG q j e1] at ae
   obtain ⟨rfl,rfl⟩:=au
   exact absurd (h.inj q j p r k I b ir m aE ap ae ai) bT
  ·rw [lG q j e1] at ae;rw [lG hF hP mW] at au
   exact h.inj q j p hF hP kn ko ir hh aE pf ae au
 ·intro q j p ko bA h1 o
  rcases bo q j p h1 with ⟨rfl,rfl,rfl⟩|⟨e1,aE,-⟩
  ·rw [yx] at o;simp at o
   rw [← o.1]
   exact h.own r k I b m ap ai
  ·rw [lG q j e1] at o;exact h.own q j p ko bA aE o
 ·refine h.gL.step qj Lx La (Nat.le_of_eq eP.symm) fun ko pe k1=>uK ko ?_
  rintro rfl
  rcases h.own r k I ko m ap ai with h1|h1
  ·omega
  ·exact k1 h1
theorem ob.nz {ok:Nat→Prop}{a5:jf}{bi:i4}{eb I sz:Nat}{es:List (List aB)}(h:ob w ok a5 bi eb I sz es):
 ∃vs:List Value,vs.length=es.length*sz∧(∀(j:Nat) u,vs[j]? = some u→w.cell? ((⟨eb,I,none⟩:Addr).add j)=some u)∧(∀u∈vs,u.oneCell'=true) ∧
  ∀(j:Nat) x u,es.flatten[j]? = some x→vs[j]? = some u→Rel w ok a5 bi x u:=by
 have jP:es.flatten.length=es.length*sz:=by
  have : ∀(es:List (List aB)),(∀e∈es,e.length=sz)→es.flatten.length=es.length*sz:=by
   intro es
   induction es with
   | nil=>intro _;simp
   | cons e es ih =>
    intro fw
    rw [List.flatten_cons,List.length_append,ih fun x U=>fw x (by simp [U]),fw e (by simp),List.length_cons,Nat.add_mul];omega
  exact this es h.1
 have U : ∀i,i<es.length*sz→ ∃v,∀x,es.flatten[i]? = some x→w.cell? ⟨eb,I+i,none⟩=some v∧ke v=true∧Rel w ok a5 bi x v:=by
  intro i ah
  have aC:=List.getElem?_eq_getElem (l:=es.flatten) (i:=i) (by omega)
  obtain ⟨v,h1⟩:=h.2 i _ aC
  exact ⟨v,fun x U=>by rw [aC] at U;simp at U;subst U;exact h1⟩
 let vs:List Value:=(List.range (es.length*sz)).map fun i=>if ah:i<es.length*sz then (U i ah).choose else undef
 have pB:vs.length=es.length*sz:=by simp [vs]
 have lV : ∀(i:Nat) u x,vs[i]? = some u→es.flatten[i]? = some x→w.cell? ⟨eb,I+i,none⟩=some u∧ke u=true∧Rel w ok a5 bi x u:=by
  intro i u x hu sy
  have ah:i<es.length*sz:=by
   rcases Nat.lt_or_ge i vs.length with cI|cI
   ·omega
   ·rw [List.getElem?_eq_none cI] at hu;simp at hu
  simp only [vs,List.getElem?_map,List.getElem?_range ah,Option.map_some,dif_pos ah,Option.some.injEq] at hu
  subst hu
  exact (U i ah).choose_spec x sy
 have hex : ∀(i:Nat) u,vs[i]? = some u→ ∃x,es.flatten[i]? = some x:=by
  intro i u hu
  have ah:i<es.flatten.length:=by
   rcases Nat.lt_or_ge i vs.length with cI|cI
   ·omega
   ·rw [List.getElem?_eq_none cI] at hu;simp at hu
  exact ⟨_,List.getElem?_eq_getElem ah⟩
 refine ⟨vs,pB,fun j u hu=> ?_,fun u hu=> ?_,fun j x u dK hu=>(lV j u x hu dK).2.2⟩
 ·obtain ⟨x,sy⟩:=hex j u hu
  rw [rv];exact (lV j u x hu sy).1
 ·obtain ⟨j,aC⟩:=List.getElem?_of_mem hu
  obtain ⟨x,sy⟩:=hex j u aC
  exact (lV j u x aC sy).2.1
theorem Xx {es bC:List (List aB)}{sz:Nat}{xs news:List Value}(U:xs.length=es.length*sz)(he:∀e∈es,e.length=sz){j:Nat}{x:aB}(h:(es++bC).flatten[j]? = some x)
 {ok:Nat→Prop} {a5:jf} {bi:i4} (h1 : ∀(j:Nat) x u,es.flatten[j]? = some x→xs[j]? = some u→Rel w ok a5 bi x u) (o : ∀(j:Nat) x u,bC.flatten[j]? = some x→news[j]? = some u→Rel w ok a5 bi x u)
 {u:Value} (hu:(xs++news)[j]? = some u):Rel w ok a5 bi x u:=by
 have jP:es.flatten.length=es.length*sz:=by
  have : ∀(es:List (List aB)),(∀e∈es,e.length=sz)→es.flatten.length=es.length*sz:=by
   intro es
   induction es with
   | nil=>intro _;simp
   | cons e es ih =>
    intro fw
    rw [List.flatten_cons,List.length_append,ih fun x U=>fw x (by simp [U]),fw e (by simp),List.length_cons,Nat.add_mul];omega
  exact this es he
 rw [List.flatten_append,List.getElem?_append] at h
 rw [List.getElem?_append] at hu
 by_cases aC:j<es.flatten.length
 ·rw [if_pos aC] at h
  rw [if_pos (by omega)] at hu
  exact h1 j x u h hu
 ·rw [if_neg aC] at h
  rw [if_neg (by omega)] at hu
  rw [jP] at h
  rw [U] at hu
  exact o _ x u h hu
variable {P:Program}
theorem PE (h:cM g s ay a w){sz:Nat}{x:aB}{ft:fB}{bC:List (List aB)}{ak:List Prop}(he:qR sz s.aX ft x=some (bC,ak))(bo:∀p∈ak,p){v:Value}(bh:Rel w (s.ok g ay w) s.a5 (s.bi ay) x v):
 ∃A c,v = .slice A bC.length c∧(∀e∈bC,e.length=sz)∧(bC.length=0∨ ∃eb off,A=some ⟨eb,off,none⟩∧ob w (s.ok g ay w) s.a5 (s.bi ay) eb off sz bC):=by
 cases x with
 | isl EC es =>
  simp only [qR] at he
  split at he
  ·rename_i bS
   subst bS
   simp only [Option.some.injEq,Prod.mk.injEq] at he
   obtain ⟨rfl,rfl⟩:=he
   rcases bh.r9 with ⟨rfl,A,c,rfl,-⟩|⟨eb,off,c,-,rfl,-,im⟩
   ·exact ⟨A,c,rfl,by simp,.inl rfl⟩
   ·exact ⟨_,c,rfl,im.1,.inr ⟨eb,off,rfl,im⟩⟩
  ·simp at he
 | bm r k bU len =>
  simp only [qR] at he
  split at he
  ·rename_i nk cb kh
   split at he
   ·rename_i bS
    simp only [Option.some.injEq,Prod.mk.injEq] at he
    obtain ⟨rfl,rfl⟩:=he
    have ik:bU+len≤nk.es.length:=bo _ (by simp)
    have ap:s.ak r k=some nk:=s5 kh (fun p ai=>bo p (by simp [ai]))
    have fv:=h.obj r k nk ap
    have aT:((nk.es.drop bU).take len).length=len:=by simp;omega
    rcases bh.AB (iz ap) with ⟨-,rfl,rfl,rfl⟩|⟨b,m,A,c,ai,rfl,qY,-,hm⟩
    ·exact ⟨none,0,by simp,by simp,.inl (by simp)⟩
    ·rw [ai] at fv
     have im:=fv.rd
     subst bS
     have uZ:=Dq im bU len (by omega)
     refine ⟨A,c,by rw [aT],uZ.1,?_⟩
     rcases hm with rfl|⟨rfl,-⟩
     ·left;rw [aT];omega
     ·right
      rw [Nat.zero_add] at uZ
      exact ⟨b,_,rfl,uZ⟩
   ·simp at he
  ·simp at he
 | eU =>
  simp only [qR,Option.some.injEq,Prod.mk.injEq] at he
  obtain ⟨rfl,rfl⟩:=he
  rw [bh.ps]
  exact ⟨none,0,rfl,by simp,.inl rfl⟩
 | iQ =>
  simp only [qR,Option.some.injEq,Prod.mk.injEq] at he
  obtain ⟨rfl,rfl⟩:=he
  obtain ⟨A,c,rfl⟩:=bh.DX
  exact ⟨some A,c,rfl,by simp,.inl rfl⟩
 | _=>simp [qR] at he
structure Le (P:Program) (w:World) (t df eE e:TypeId) (i:TypeInfo) (eC nn:Value) (n:Nat) (vs:List Value):Prop where
 zero:n=0→ ∀(B:Option Addr) (len cap:Nat),len≤cap→(Builtin.append_ #[t,df] eE #[.slice B len cap,nn]).run P w = .ok (.slice B len cap) w
 nil:0<n→(n:Int)≤9223372036854775807→n*i.bytes≤140737488355328 →
  (Builtin.append_ #[t,df] eE #[.slice none 0 0,nn]).run P w = .ok (.slice (some ⟨w.heap.size,0,none⟩) n (grownCap w n 0 e)) (w.drew.alloc (.cells (vs.toArray++Builtin.zeroCells eC.cells (grownCap w n 0 e-n)) e))
 room:0<n→ ∀(g iP lR:Nat) (lC:Array Value) (ep:TypeId),w.heap[g]? = some (.cells lC ep (0,0))→iP+n≤lR→iP*i.size+vs.length≤lC.size→n*i.bytes≤140737488355328 →
  (Builtin.append_ #[t,df] eE #[.slice (some ⟨g,0,none⟩) iP lR,nn]).run P w = .ok (.slice (some ⟨g,0,none⟩) (iP+n) lR) (w.setRow g (lC.toList.take (iP*i.size)++vs++lC.toList.drop (iP*i.size+vs.length)).toArray)
 grow:0<n→ ∀(b:Addr) (iP lR:Nat) (u0:List Value),u0.length=iP*i.size→(∀(j:Nat) v,u0[j]? = some v→w.cell? (b.add j)=some v)→lR<iP+n→((iP+n:Nat):Int)≤9223372036854775807→Builtin.nextslicecap (iP+n) lR*i.bytes≤281474976710656→n*i.bytes≤140737488355328 →
  (Builtin.append_ #[t,df] eE #[.slice (some b) iP lR,nn]).run P w = .ok (.slice (some ⟨w.heap.size,0,none⟩) (iP+n) (grownCap w (iP+n) lR e))
    (w.drew.alloc (.cells (u0.toArray++vs.toArray++Builtin.zeroCells eC.cells (grownCap w (iP+n) lR e-(iP+n))) e))
theorem WI (t eE e:TypeId)(i:TypeInfo)(cf:P.underlying t=some (.slice e))(ah:P.info? e=some i)
 (g iP lR:Nat) (lC:Array Value) (ep:TypeId) (dt:w.heap[g]? = some (.cells lC ep (0,0)))
 (a:Addr) (m c:Nat) (news:List Value) (aT:news.length=m*i.size) (ab8 : ∀j u,news[j]? = some u→w.cell? (a.add j)=some u) (h1 : ∀u∈news,u.oneCell'=true)
 (si:iP+m≤lR) (ik:iP*i.size+news.length≤lC.size) :
 (Builtin.append_ #[t,t] eE #[.slice (some ⟨g,0,none⟩) iP lR,.slice (some a) m c]).run P w =
   .ok (.slice (some ⟨g,0,none⟩) (iP+m) lR) (w.setRow g (lC.toList.take (iP*i.size)++news++lC.toList.drop (iP*i.size+news.length)).toArray):=by
 have cg:=run_firstCells_some (P:=P) w i.size m a m c news aT ab8
 have me:=run_storeCells_at P g (iP*i.size) ep news 0 lC w dt (by simpa using ik) h1
 simp only [Nat.add_zero] at me
 simp [Builtin.append_,run_underlying cf,sizeOf,typeInfo,ah,Builtin.lenOf,si,cg,Addr.add_lit,me]
theorem OM {t eE e:TypeId}{i:TypeInfo}{eC:Value}(cf:P.underlying t=some (.slice e))(ah:P.info? e=some i)(cC:i.zero=some eC){A:Option Addr}{n c:Nat}{vs:List Value}(aT:vs.length=n*i.size)
 (hA:n=0∨ ∃a,A=some a∧ ∀(j:Nat) u,vs[j]? = some u→w.cell? (a.add j)=some u) (h1 : ∀u∈vs,u.oneCell'=true):Le P w t t eE e i eC (.slice A n c) n vs where
 zero:=fun h0 B len cap Bh=>by
  subst h0
  cases A<;>cases B<;>simp [Builtin.append_,run_underlying cf,sizeOf,typeInfo,ah,Builtin.lenOf,Bh,Builtin.firstCells,loadCells,loadCellsFrom,storeCells]
 nil:=fun h0 u5 yy=>by
  obtain ⟨a,rfl,bF⟩:=hA.resolve_left (by omega)
  exact run_append_nil (P:=P) w t eE e i eC cf ah cC a n c vs aT bF h0 u5 (by omega)
 room:=fun a3 g iP lR lC ep dt si ik _=>by
  obtain ⟨a,rfl,bF⟩:=hA.resolve_left (by omega)
  exact WI t eE e i cf ah g iP lR lC ep dt a n c vs aT bF h1 si ik
 grow:=fun a3 b iP lR u0 ap hold dt u5 ik _=>by
  obtain ⟨a,rfl,bF⟩:=hA.resolve_left (by omega)
  exact run_append_grow (P:=P) w t eE e i eC cf ah cC b iP lR u0 ap hold a n c vs aT bF dt u5 ik
theorem YT {t df eE e:TypeId}{i:TypeInfo}{eC:Value}{k:IntKind}(cf:P.underlying t=some (.slice e))(nA:P.underlying df=some (.int k))(ah:P.info? e=some i)(cC:i.zero=some eC)(lD:eC.cells.size=i.size){m:Nat}(afW:(m:Int)<9223372036854775808)
 (h1 : ∀u∈(Builtin.zeroCells eC.cells m).toList,u.oneCell'=true):Le P w t df eE e i eC (.int .i64 m) m (Builtin.zeroCells eC.cells m).toList:=by
 have hw:IntKind.i64.wrap (m:Int)=m:=by simp [IntKind.wrap,IntKind.bits,IntKind.signed];omega
 have nb : ¬((m:Int)<0):=by omega
 have qZ : ∀bA,bA*i.size=0→Builtin.zeroCells eC.cells bA = #[]:=fun bA hm=>by
  apply Array.eq_empty_of_size_eq_zero
  rw [size_zeroCells,lD,hm]
 have ED : ∀bL:World,(if m*i.size=0 then (pure #[]:Sem (Array Value)) else do pure (Builtin.zeroCells (← zeroValue e).cells m)).run P bL = .ok (Builtin.zeroCells eC.cells m) bL:=fun bL=>by
  split
  ·rename_i hm;rw [qZ _ hm];rfl
  ·simp [zeroValue,typeInfo,ah,cC]
 have Lf : ∀b:Nat,m*b≤140737488355328→ ¬(281474976710656<(m:Int)*(b:Int)):=fun b aR=>by
  have:((m*b:Nat):Int)≤140737488355328:=by omega
  rw [Int.natCast_mul] at this
  omega
 refine ⟨fun a3 B len cap Bh=> ?_,fun a3 u5 yy=> ?_,fun a3 g iP lR lC ep dt si ik yy=> ?_,fun a3 b iP lR u0 ap hold dt u5 ik yy=> ?_⟩
 ·subst a3
  have LB:IntKind.i64.wrap 0=0:=by simpa using hw
  cases B<;>simp [Builtin.append_,run_underlying cf,run_underlying nA,sizeOf,typeInfo,ah,Bh,asInt,asIntOf,LB,storeCells]
 ·have EE : ¬m=0:=by omega
  have Bi : ¬(9223372036854775807<(m:Int)):=by omega
  have th:=Lf _ yy
  have Bj : ¬(281474976710656<Builtin.nextslicecap m 0*i.bytes):=by rw [nextslicecap_zero a3];omega
  have o:=ED w.drew
  by_cases hm:m*i.size=0
  ·simp [Builtin.append_,run_underlying cf,run_underlying nA,sizeOf,typeInfo,zeroValue,ah,cC,asInt,asIntOf,hw,nb,th,EE,Bi,Bj,Question.forced,run_firstCells_none,newRow,grownCap,hm,qZ _ hm]
  ·simp [Builtin.append_,run_underlying cf,run_underlying nA,sizeOf,typeInfo,zeroValue,ah,cC,asInt,asIntOf,hw,nb,th,EE,Bi,Bj,Question.forced,run_firstCells_none,newRow,grownCap,hm]
 ·have th:=Lf _ yy
  have me:=run_storeCells_at P g (iP*i.size) ep (Builtin.zeroCells eC.cells m).toList 0 lC w dt (by simpa using ik) h1
  simp only [Nat.add_zero] at me
  by_cases hm:m*i.size=0
  ·rw [qZ _ hm] at me
   have acD:(storeCells ⟨g,iP*i.size,none⟩ []).run P w = .ok () (w.setRow g lC):=by simpa using me
   simp [Builtin.append_,run_underlying cf,run_underlying nA,sizeOf,typeInfo,zeroValue,ah,cC,asInt,asIntOf,hw,nb,th,si,hm,qZ _ hm,Addr.add_lit,acD]
  ·simp [Builtin.append_,run_underlying cf,run_underlying nA,sizeOf,typeInfo,zeroValue,ah,cC,asInt,asIntOf,hw,nb,th,si,hm,Addr.add_lit,me]
 ·have th:=Lf _ yy
  have RQ : ¬(iP+m≤lR):=by omega
  have Bi : ¬(9223372036854775807<((iP:Int)+(m:Int))):=by omega
  have Bj : ¬(281474976710656<Builtin.nextslicecap (iP+m) lR*i.bytes):=by omega
  have RR:=run_firstCells_some (P:=P) w.drew i.size iP b iP lR u0 ap (by simpa using hold)
  by_cases hm:m*i.size=0
  ·simp [Builtin.append_,run_underlying cf,run_underlying nA,sizeOf,typeInfo,zeroValue,ah,cC,asInt,asIntOf,hw,nb,th,RQ,Bi,Bj,Question.forced,RR,newRow,grownCap,hm,qZ _ hm]
  ·simp [Builtin.append_,run_underlying cf,run_underlying nA,sizeOf,typeInfo,zeroValue,ah,cC,asInt,asIntOf,hw,nb,th,RQ,Bi,Bj,Question.forced,RR,newRow,grownCap,hm]
theorem Jk {aV:Nat}{e:TypeId}{v:Value}{i:TypeInfo}{m:Nat}(h:cM g s ay a w)(eV:s.aX aV=none){es:List (List aB)}(hlen:∀x∈es,x.length=i.size)(hm:m=es.length)
 {nz:List Value} {sJ:Array Value} {cap:Nat} (pB:nz.length=es.length*i.size) (lQ : ∀u∈nz,u.oneCell'=true) (adh:sJ.size=(cap-m)*i.size) (Bh:m≤cap) (acE:cap<9223372036854775808)
 (fv : ∀(j:Nat) x u,es.flatten[j]? = some x→nz[j]? = some u→Rel w (s.ok g ay w) s.a5 (s.bi ay) x u)
 (bh:v = .slice (some ⟨w.heap.size,0,none⟩) m cap) :
 ∃bK,cM g (s.setRow aV [⟨i.size,es,.live⟩]) bK a (w.drew.alloc (.cells (nz.toArray++sJ) e)) ∧
  Rel (w.drew.alloc (.cells (nz.toArray++sJ) e)) ((s.setRow aV [⟨i.size,es,.live⟩]).ok g bK (w.drew.alloc (.cells (nz.toArray++sJ) e))) (s.setRow aV [⟨i.size,es,.live⟩]).a5 ((s.setRow aV [⟨i.size,es,.live⟩]).bi bK) (.bm aV 0 0 m) v:=by
 have bE:=h.drew
 have jP:es.flatten.length=es.length*i.size:=by
  have : ∀(es:List (List aB)),(∀e∈es,e.length=i.size)→es.flatten.length=es.length*i.size:=by
   intro es
   induction es with
   | nil=>intro _;simp
   | cons e es ih =>
    intro fw
    rw [List.flatten_cons,List.length_append,ih fun x U=>fw x (by simp [U]),fw e (by simp),List.length_cons,Nat.add_mul];omega
  exact this es hlen
 obtain ⟨bK,p1,hi,-⟩:=bE.alloc eV ⟨i.size,es,.live⟩ rfl (nz.toArray++sJ) e hlen (fun j x U=>by
  have aC:j<nz.length:=by
   rcases Nat.lt_or_ge j es.flatten.length with cI|cI
   ·omega
   ·rw [List.getElem?_eq_none cI] at U;simp at U
  refine ⟨nz[j],?_,lQ _ (List.getElem_mem aC),?_⟩
  ·rw [Array.getElem?_append_left (by simpa using aC)]
   simp [aC]
  ·exact (fv j x _ U (List.getElem?_eq_getElem aC)).drew)
 refine ⟨bK,hi,?_⟩
 subst bh
 have ap:(s.setRow aV [⟨i.size,es,.live⟩]).ak aV 0=some ⟨i.size,es,.live⟩:=by rw [lv,if_pos rfl,l3];simp
 refine Rel.bm (sz:=i.size) (eb:=w.heap.size) (m:=(nz.toArray++sJ).size) ((m7 _ _ _ _ _).2 (by simp)) ?_ Bh acE ⟨?_,.inr (by simp)⟩
 ·rw [iz ap,p1];rfl
 ·simp only [Array.size_append,List.size_toArray,adh,pB,Nat.zero_add]
  rw [← hm,← Nat.add_mul]
  congr 1;omega
section
variable {I:Oper} {cP:fB} {aV:Nat} {bD:h8}
theorem Pd (h:cM g s ay a w){t df eE e:TypeId}{i:TypeInfo}{z:List aB}(hu:P.underlying t=some (.slice e))(ah:P.info? e=some i)(cC:qA P e=some z)(ni:z.length=i.size)(j6:i.size≠0)
 {y:aB} {ft:fB} {bC:List (List aB)} {ak:List Prop} (he:uL P i.size z s.aX ft t df y=some (bC,ak)) (bo : ∀p∈ak,p) {nn:Value} (aW:Rel w (s.ok g ay w) s.a5 (s.bi ay) y nn) :
 ∃eC vs,i.zero=some eC∧eC.cells.size=i.size∧Le P w t df eE e i eC nn bC.length vs∧(∀x∈bC,x.length=i.size)∧vs.length=bC.length*i.size∧(∀u∈vs,u.oneCell'=true) ∧
  ∀(j:Nat) x u,bC.flatten[j]? = some x→vs[j]? = some u→Rel w (s.ok g ay w) s.a5 (s.bi ay) x u:=by
 obtain ⟨eD,eC,kE,k2,pM,ts⟩:=Ah cC
 rw [ah] at kE;simp at kE;subst kE
 have lD:eC.cells.size=i.size:=by rw [← ni,pM];simp
 unfold uL at he
 split at he
 ·rename_i adi
  subst adi
  obtain ⟨A,c,rfl,hlen,LC⟩:=PE h he bo aW
  rcases LC with h0|⟨eb,off,rfl,im⟩
  ·have:bC=[]:=List.length_eq_zero_iff.1 h0
   subst this
   exact ⟨eC,[],k2,lD,OM hu ah k2 (by simp) (.inl rfl) (by simp),hlen,by simp,by simp,by simp⟩
  ·obtain ⟨vs,v1,v2,v3,v4⟩:=im.nz
   exact ⟨eC,vs,k2,lD,OM hu ah k2 v1 (.inr ⟨_,rfl,v2⟩) v3,hlen,v1,v3,v4⟩
 ·split at he
  ·rename_i k n a6
   simp only [Option.some.injEq,Prod.mk.injEq] at he
   obtain ⟨rfl,rfl⟩:=he
   have h0:0≤n:=bo _ (by simp)
   have u5:n<9223372036854775808:=bo _ (by simp)
   obtain ⟨m,rfl⟩:=Int.eq_ofNat_of_zero_le h0
   have adj:nn = .int .i64 m:=by cases aW;rfl
   subst adj
   have lV : ∀(j:Nat) u,(Builtin.zeroCells eC.cells m).toList[j]? = some u→eC.cells[j % i.size]? = some u:=by
    intro j u nC
    have aC:=(List.getElem?_eq_some_iff.1 nC).1
    rw [Array.length_toList,size_zeroCells,lD] at aC
    have dE:j % i.size<eC.cells.size:=by rw [lD];exact Nat.mod_lt _ (by omega)
    rw [Array.getElem?_toList,Builtin.zeroCells,Array.getElem?_map,lD,Array.getElem?_range] at nC
    rw [if_pos aC] at nC
    simp only [Option.map_some,Option.some.injEq] at nC
    rw [← nC,Array.getElem?_eq_getElem dE,getElem!_pos eC.cells _ dE]
   refine ⟨eC,(Builtin.zeroCells eC.cells m).toList,k2,lD,?_,?_,?_,?_,?_⟩
   ·simp only [List.length_replicate,Int.toNat_natCast]
    refine YT hu a6 ah k2 lD (by omega) fun u q2=> ?_
    obtain ⟨j,aC⟩:=List.getElem?_of_mem q2
    have h1:=lV j u aC
    have dE:j % i.size<z.length:=by rw [ni];exact Nat.mod_lt _ (by omega)
    obtain ⟨v,v1,v2,-⟩:=ts _ _ (List.getElem?_eq_getElem dE)
    rw [h1] at v1
    obtain rfl:=Option.some.inj v1
    exact v2
   ·intro x U
    rw [List.mem_replicate] at U
    rw [U.2,ni]
   ·rw [Array.length_toList,size_zeroCells,lD];simp
   ·intro u q2
    obtain ⟨j,aC⟩:=List.getElem?_of_mem q2
    have h1:=lV j u aC
    have dE:j % i.size<z.length:=by rw [ni];exact Nat.mod_lt _ (by omega)
    obtain ⟨v,v1,v2,-⟩:=ts _ _ (List.getElem?_eq_getElem dE)
    rw [h1] at v1
    obtain rfl:=Option.some.inj v1
    exact v2
   ·intro j x u U nC
    rw [o3 (sz:=i.size) (by omega) _ (fun ep lS=>by rw [List.mem_replicate] at lS;rw [lS.2,ni])] at U
    have h1:=lV j u nC
    cases a7:(List.replicate (Int.toNat (m:Int)) z)[j / i.size]? with
    | none=>rw [a7] at U;simp at U
    | some ep =>
     have:=List.mem_of_getElem? a7
     rw [List.mem_replicate] at this
     rw [a7,this.2] at U
     simp only [Option.bind_some] at U
     obtain ⟨v,v1,-,v3⟩:=ts _ _ U
     rw [h1] at v1
     obtain rfl:=Option.some.inj v1
     exact v3 _ _ _ _
  ·simp at he
theorem YU (h:cM g s ay a w)(eV:s.aX aV=none){x y:aB}{rb nn:Value}{t df:TypeId}{m:Nat}{Mq:Option ab}{eE:TypeId}(aw:nB P s.E s.aX aV .append [x,y] [t,df] (.aJ m Mq)=some bD)(cF:∀p∈bD.fx,p)
 (U:Rel w (s.ok g ay w) s.a5 (s.bi ay) x rb) (aW:Rel w (s.ok g ay w) s.a5 (s.bi ay) y nn) :
 ∃v bL bK,(Builtin.append_ #[t,df] eE #[rb,nn]).run P w = .ok v bL∧cM g (s.h2 bD.fO) bK a bL∧Rel bL ((s.h2 bD.fO).ok g bK bL) (s.h2 bD.fO).a5 ((s.h2 bD.fO).bi bK) bD.val v:=by
 simp only [nB] at aw
 split at aw
 ·simp at aw
 ·rename_i e he
  have hu:=ry he
  split at aw
  ·rename_i i z ah cC
   split at aw
   ·simp at aw
   ·rename_i bf
    simp only [not_or,Decidable.not_not] at bf
    obtain ⟨ni,j6,yt⟩:=bf
    split at aw
    ·simp at aw
    ·rename_i bC cb qW
     have EF:=fun ai=>Pd (eE:=eE) h hu ah cC ni j6 qW ai aW
     by_cases abE:True
     ·
      split at aw
      ·
       simp only [Option.some.injEq] at aw
       subst aw
       have hm:m=bC.length:=cF _ (by simp)
       have BL:m*i.bytes≤140737488355328:=cF _ (by simp)
       obtain ⟨eC,vs,k2,lD,hA,hlen,v1,v3,v4⟩:=EF (fun p ai=>cF p (by simp [ai]))
       clear EF
       rw [U.ps]
       by_cases h0:bC.length=0
       ·have:bC=[]:=List.length_eq_zero_iff.1 h0
        subst this
        obtain ⟨bK,p1,hi⟩:=h.Qb (sz:=i.size) eV
        refine ⟨_,w,bK,hA.zero h0 none 0 0 (Nat.le_refl _),hi,?_⟩
        subst hm
        have ap:(s.setRow aV [⟨i.size,[],.live⟩]).ak aV 0=some ⟨i.size,[],.live⟩:=by rw [lv,if_pos rfl,l3];simp
        exact .nr (sz:=i.size) ((m7 _ _ _ _ _).2 (by simp)) (by show (s.setRow aV [⟨i.size,[],.live⟩]).bi bK aV 0=_;rw [iz ap,p1])
       ··have tt:bC.length*1≤bC.length*i.bytes:=Nat.mul_le_mul_left _ (by omega)
         rw [hm] at BL
         have iW:=hA.nil (by omega) (by omega) (by omega)
         have RS:=grownCap_ge w bC.length 0 e
         have hle:=grownCap_le_maxLen w bC.length 0 e (by simp only [maxLen];omega)
         simp only [maxLen] at hle
         obtain ⟨bK,q1,a1⟩:=Jk (e:=e) (i:=i) (m:=m) (nz:=vs) (sJ:=Builtin.zeroCells eC.cells (grownCap w bC.length 0 e-bC.length)) (cap:=grownCap w bC.length 0 e) h eV hlen hm v1 v3
          (by rw [size_zeroCells,lD,hm]) (by omega) (by omega) v4 rfl
         refine ⟨.slice (some ⟨w.heap.size,0,none⟩) m (grownCap w bC.length 0 e),_,bK,?_,q1,a1⟩
         rw [hm];exact iW
      ·
       rename_i r k len
       split at aw
       ·simp at aw
       ·rename_i row dC
        split at aw
        ·simp at aw
        ·rename_i ak bo
         split at aw
         ·rename_i u6
          obtain ⟨nD,eP,c4⟩:=u6
          simp only [Option.some.injEq] at aw
          subst aw
          have ap:s.ak r k=some ak:=by unfold S.ak;rw [dC];exact bo
          have ik:len≤ak.es.length:=cF _ (by simp)
          have hm:m=len+bC.length:=cF _ (by simp)
          have BL:m*i.bytes≤140737488355328:=cF _ (by simp)
          have tt:m*1≤m*i.bytes:=Nat.mul_le_mul_left _ (Nat.one_le_iff_ne_zero.2 yt)
          obtain ⟨eC,vs,k2,lD,hA,hlen,v1,v3,v4⟩:=EF (fun p ai=>cF p (by simp [ai]))
          clear EF
          have af6:bC.length*i.bytes≤m*i.bytes:=Nat.mul_le_mul_right _ (by omega)
          have fv:=h.obj r k ak ap
          have LD:(ak.es.take len).length=len:=by simp;omega
          have rE:(s.setRow aV [⟨i.size,ak.es.take len++bC,.live⟩]).aX r=some row:=by simp [S.setRow,Ne.symm c4,dC]
          have pC : ∀bK:fo,((s.setRow aV [⟨i.size,ak.es.take len++bC,.live⟩]).setRow r (row.set k {ak with cw:= .gone})).ak aV 0=some ⟨i.size,ak.es.take len++bC,.live⟩:=by
           intro _
           rw [lv,if_neg c4,lv,if_pos rfl,l3];simp
          have Bk:((s.setRow aV [⟨i.size,ak.es.take len++bC,.live⟩]).setRow r (row.set k {ak with cw:= .gone})).a5 aV 0:=by rw [m7,if_neg c4,m7,if_pos rfl];simp
          show ∃v bL bK,_∧cM g ((s.setRow aV [⟨i.size,ak.es.take len++bC,.live⟩]).setRow r (row.set k {ak with cw:= .gone})) bK a bL∧_
          rcases U.uC (iz ap) with ⟨ai,-,rfl,rfl⟩|⟨b,M,lH,kx,ai,rfl,qY,sx,eg,mf⟩
          ·
           rw [ai] at fv
           simp only [jo] at fv
           have hr:ak.es.take 0++bC=bC:=by simp
           by_cases h0:bC.length=0
           ·have:bC=[]:=List.length_eq_zero_iff.1 h0
            subst this
            obtain ⟨bK,p1,hi⟩:=h.Qb (sz:=i.size) eV
            have pD:(s.setRow aV [⟨i.size,[],.live⟩]).ak r k=some ak:=by rw [lv,if_neg (Ne.symm c4)];exact ap
            have ab9:(s.setRow aV [⟨i.size,[],.live⟩]).aX r=some row:=by simp [S.setRow,Ne.symm c4,dC]
            obtain ⟨rO,-⟩:=hi.gone ab9 pD
            have Bl:ak.es.take 0++([]:List (List aB))=[]:=by simp
            rw [Bl]
            rw [Bl] at Bk pC
            refine ⟨_,w,bK,hA.zero h0 none 0 0 (Nat.le_refl _),rO,?_⟩
            subst hm
            exact .nr (sz:=i.size) Bk ((iz (pC bK)).trans (by rw [p1]))
           ··have k1:m=bC.length:=by omega
             have iW:=hA.nil (by omega) (by omega) (by omega)
             have RS:=grownCap_ge w bC.length 0 e
             have hle:=grownCap_le_maxLen w bC.length 0 e (by simp only [maxLen];omega)
             simp only [maxLen] at hle
             obtain ⟨bK,q1,a1⟩:=Jk (e:=e) (i:=i) (m:=m) (nz:=vs) (sJ:=Builtin.zeroCells eC.cells (grownCap w bC.length 0 e-bC.length)) (cap:=grownCap w bC.length 0 e) h eV hlen k1 v1 v3
              (by rw [size_zeroCells,lD,k1]) (by omega) (by omega) v4 rfl
             rw [hr]
             rw [hr] at rE
             have pD:(s.setRow aV [⟨i.size,bC,.live⟩]).ak r k=some ak:=by rw [lv,if_neg (Ne.symm c4)];exact ap
             obtain ⟨rO,Cr⟩:=q1.gone rE pD
             refine ⟨.slice (some ⟨w.heap.size,0,none⟩) m (grownCap w bC.length 0 e),_,bK,?_,rO,Cr _ _ a1⟩
             rw [k1];exact iW
          ·
           rw [ai] at fv
           have aca:=fv
           obtain ⟨cr,mq,g1,g2,g3,g4⟩:=fv
           have Bm : ∀e∈ak.es.take len++bC,e.length=i.size:=by
            intro ep lS
            rw [List.mem_append] at lS
            rcases lS with cI|cI
            ·rw [g3 ep (List.mem_of_mem_take cI),eP]
            ·exact hlen ep cI
           have jP : ∀(es:List (List aB)),(∀e∈es,e.length=i.size)→es.flatten.length=es.length*i.size:=by
            intro es
            induction es with
            | nil=>intro _;simp
            | cons e es ih =>
             intro fw
             rw [List.flatten_cons,List.length_append,ih fun x U=>fw x (by simp [U]),fw e (by simp),List.length_cons,Nat.add_mul];omega
           by_cases h0:bC.length=0
           ·
            have:bC=[]:=List.length_eq_zero_iff.1 h0
            subst this
            have Bl:ak.es.take len++([]:List (List aB))=ak.es.take len:=by simp
            rw [Bl]
            rw [Bl] at Bk pC Bm
            obtain ⟨bK,p1,hi⟩:=h.turn dC ap nD ai eV ⟨i.size,ak.es.take len,.live⟩ rfl cr mq g1 rfl (fun _ _=>rfl) rfl rfl rfl g2 Bm (fun j q a7=>by
             refine g4 j q ?_
             have aC:j<(ak.es.take len).flatten.length:=by
              rcases Nat.lt_or_ge j (ak.es.take len).flatten.length with cI|cI
              ·exact cI
              ·rw [List.getElem?_eq_none cI] at a7;simp at a7
             have RT:ak.es.flatten=(ak.es.take len).flatten++(ak.es.drop len).flatten:=by rw [← List.flatten_append,List.take_append_drop]
             rw [RT,List.getElem?_append_left aC];exact a7)
            refine ⟨_,w,bK,hA.zero h0 lH len kx qY,hi,?_⟩
            have k1:m=len:=by simpa using hm
            subst k1
            refine .bm (sz:=i.size) (eb:=b) (m:=M) Bk ((iz (pC bK)).trans (by rw [p1])) qY sx ?_
            rw [← eP];exact ⟨eg,mf⟩
           ··
             have hold : ∃xs:List Value,xs.length=len*i.size∧(∀(j:Nat) u,xs[j]? = some u→w.cell? ((⟨b,0,none⟩:Addr).add j)=some u)∧(∀u∈xs,u.oneCell'=true) ∧
              ∀(j:Nat) x u,(ak.es.take len).flatten[j]? = some x→xs[j]? = some u→Rel w (s.ok g ay w) s.a5 (s.bi ay) x u:=by
              have Rs:=Dq aca.rd 0 len (by omega)
              simp only [List.drop_zero,Nat.zero_mul,Nat.add_zero] at Rs
              obtain ⟨xs,x1,d8,aD,fD⟩:=Rs.nz
              exact ⟨xs,by rw [x1,LD,eP],d8,aD,fD⟩
             obtain ⟨xs,x1,d8,aD,fD⟩:=hold
             have adk:xs.length=(ak.es.take len).length*i.size:=by rw [LD];exact x1
             have Qc : ∀(j:Nat) x u,(ak.es.take len++bC).flatten[j]? = some x→(xs++vs)[j]? = some u→Rel w (s.ok g ay w) s.a5 (s.bi ay) x u :=
              fun j x u adl nC=>Xx adk (fun ep lS=>by rw [g3 ep (List.mem_of_mem_take lS),eP]) adl fD v4 nC
             have Bn:(ak.es.take len++bC).length=m:=by rw [List.length_append,LD];exact hm.symm
             by_cases si:len+bC.length≤kx
             ·
              rcases mf with rfl|rfl
              ·omega
              ·rw [Nat.zero_mul] at *
               rw [Nat.zero_add] at eg
               have abF:len*i.size+vs.length≤cr.size:=by
                rw [v1,g2,← eg,eP,← Nat.add_mul];exact Nat.mul_le_mul_right _ si
               have iW:=hA.room (by omega) b len kx cr mq g1 si abF (by omega)
               have acF:(w.setRow b (cr.toList.take (len*i.size)++vs++cr.toList.drop (len*i.size+vs.length)).toArray).heap.size=w.heap.size:=size_setRow _ _ _
               have RU:xs=cr.toList.take (len*i.size):=by
                apply List.ext_getElem?
                intro j
                rw [List.getElem?_take]
                by_cases aC:j<len*i.size
                ·rw [if_pos aC]
                 have tu:j<xs.length:=by omega
                 have:=d8 j _ (List.getElem?_eq_getElem tu)
                 rw [rv,cell_of_row w b (0+j) cr mq (0,0) g1,Nat.zero_add] at this
                 rw [List.getElem?_eq_getElem tu,← this,Array.getElem?_toList]
                ·rw [if_neg aC,List.getElem?_eq_none (by omega)]
               obtain ⟨bK,p1,hi⟩:=h.turn dC ap nD ai eV ⟨i.size,ak.es.take len++bC,.live⟩ rfl _ mq (setRow_heap w b cr _ mq _ g1) acF (fun q a7=>setRow_other w b q _ a7) rfl rfl rfl
                (by rw [← g2];simp;omega) Bm (fun j q a7=>by
                  have aC:j<(xs++vs).length:=by
                   have:j<(ak.es.take len++bC).flatten.length:=by
                    rcases Nat.lt_or_ge j (ak.es.take len++bC).flatten.length with cI|cI
                    ·exact cI
                    ·rw [List.getElem?_eq_none cI] at a7;simp at a7
                   rw [jP _ Bm,Bn] at this
                   rw [List.length_append,x1,v1,← Nat.add_mul,← hm];exact this
                  refine ⟨(xs++vs)[j],?_,?_,Qc j q _ a7 (List.getElem?_eq_getElem aC)⟩
                  ·rw [List.getElem?_toArray,List.getElem?_append_left (by rw [← RU];exact aC),← RU]
                   exact List.getElem?_eq_getElem aC
                  ·have:=List.getElem_mem aC
                   rw [List.mem_append] at this
                   rcases this with cI|cI
                   ·exact aD _ cI
                   ·exact v3 _ cI)
               refine ⟨_,_,bK,iW,hi,?_⟩
               rw [← hm]
               refine .bm (sz:=i.size) (eb:=b) (m:=M) Bk ((iz (pC bK)).trans (by rw [p1])) (by omega) sx ⟨?_,.inr (by simp)⟩
               rw [Nat.zero_add,← eP];exact eg
             ·
              have hA : ∃vB:Addr,(lH=some vB∧ ∀(j:Nat) u,xs[j]? = some u→w.cell? (vB.add j)=some u)∨(lH=none∧len=0∧kx=0):=by
               cases lH with
               | none =>
                refine ⟨⟨0,0,none⟩,.inr ⟨rfl,?_⟩⟩
                rcases mf with cI|cI
                ·omega
                ·simp at cI
               | some vB =>
                refine ⟨vB,.inl ⟨rfl,?_⟩⟩
                rcases mf with cI|cI
                ·have:len=0:=by omega
                 have:xs=[]:=List.length_eq_zero_iff.1 (by rw [x1,this];simp)
                 intro j u aC
                 rw [this] at aC;simp at aC
                ·simp at cI;subst cI;exact d8
              have RS:=grownCap_ge w (len+bC.length) kx e
              have hle:=grownCap_le_maxLen w (len+bC.length) kx e (by simp only [maxLen];omega)
              simp only [maxLen] at hle
              have iW:(Builtin.append_ #[t,df] eE #[.slice lH len kx,nn]).run P w = .ok (.slice (some ⟨w.heap.size,0,none⟩) (len+bC.length) (grownCap w (len+bC.length) kx e))
               (w.drew.alloc (.cells ((xs++vs).toArray++Builtin.zeroCells eC.cells (grownCap w (len+bC.length) kx e-(len+bC.length))) e)):=by
               have acG:(xs++vs).toArray=xs.toArray++vs.toArray:=by apply Array.ext';simp
               rw [acG]
               obtain ⟨vB,⟨rfl,adm⟩|⟨rfl,nj,mr⟩⟩:=hA
               ·exact hA.grow (by omega) vB len kx xs x1 adm (by omega) (by omega) (growslice_fits (by omega) (by rw [← hm];exact BL)) (by omega)
               ·subst nj;subst mr
                have adn:xs=[]:=List.length_eq_zero_iff.1 (by rw [x1];simp)
                subst adn
                have:=hA.nil (by omega) (by omega) (by omega)
                simpa using this
              obtain ⟨bK,q1,a1⟩:=Jk (e:=e) (i:=i) (m:=m) (nz:=xs++vs) (sJ:=Builtin.zeroCells eC.cells (grownCap w (len+bC.length) kx e-(len+bC.length))) (cap:=grownCap w (len+bC.length) kx e) h eV Bm Bn.symm
               (by rw [List.length_append,x1,v1,Bn,hm,Nat.add_mul]) (fun u hu=>by
                 rw [List.mem_append] at hu
                 rcases hu with cI|cI
                 ·exact aD _ cI
                 ·exact v3 _ cI) (by rw [size_zeroCells,lD,hm]) (by omega) (by omega) Qc rfl
              have pD:(s.setRow aV [⟨i.size,ak.es.take len++bC,.live⟩]).ak r k=some ak:=by rw [lv,if_neg (Ne.symm c4)];exact ap
              obtain ⟨rO,Cr⟩:=q1.gone rE pD
              refine ⟨.slice (some ⟨w.heap.size,0,none⟩) m (grownCap w (len+bC.length) kx e),_,bK,?_,rO,Cr _ _ a1⟩
              rw [hm];exact iW
         ·simp at aw
      ·simp at aw
     ·exact absurd trivial abE
  ·simp at aw
end
end
section
variable {P:Program} {g:G} {s:S} {ay:fo} {a:Act} {w:World}
theorem At {sz:Nat}: ∀ {es:List (List aB)},(∀e∈es,e.length=sz)→es.flatten.length=es.length*sz
 | [],_=>by simp
 | e::es,h=>by
  rw [List.flatten_cons,List.length_append,At fun x U=>h x (by simp [U]),h e (by simp),List.length_cons,Nat.add_mul];omega
theorem cM.putAt (h:cM g s ay a w){r k p b M:Nat}{row:List ab}{ak:ab}(ao:s.aX r=some row)(ap:s.ak r k=some ak)(a6:ak.cw = .live)(lG:ay r k=some (b,M)){bC gl:List (List aB)}{vs:List Value}
 (hlen : ∀x∈bC,x.length=ak.sz) (v1:vs.length=bC.length*ak.sz) (v3 : ∀u∈vs,u.oneCell'=true) (v4 : ∀(j:Nat) x u,bC.flatten[j]? = some x→vs[j]? = some u→Rel w (s.ok g ay w) s.a5 (s.bi ay) x u)
 (ai:p+bC.length≤ak.es.length) (q:Nat) (hr:gl=(ak.es.take p++bC++ak.es.drop (p+bC.length)).take q) :
 ∃cr mq,w.heap[b]? = some (.cells cr mq (0,0))∧cr.size=M∧ak.es.length*ak.sz≤M∧p*ak.sz+vs.length≤cr.size ∧
  cM g (s.setRow r (row.set k {ak with es:=gl})) ay a (w.setRow b (cr.toList.take (p*ak.sz)++vs++cr.toList.drop (p*ak.sz+vs.length)).toArray) ∧
  ∀x v,Rel w (s.ok g ay w) s.a5 (s.bi ay) x v→Rel (w.setRow b (cr.toList.take (p*ak.sz)++vs++cr.toList.drop (p*ak.sz+vs.length)).toArray) ((s.setRow r (row.set k {ak with es:=gl})).ok g ay (w.setRow b (cr.toList.take (p*ak.sz)++vs++cr.toList.drop (p*ak.sz+vs.length)).toArray)) (s.setRow r (row.set k {ak with es:=gl})).a5 ((s.setRow r (row.set k {ak with es:=gl})).bi ay) x v:=by
 have fv:=h.obj r k ak ap
 rw [lG] at fv
 obtain ⟨cr,mq,g1,g2,g3,g4⟩:=fv
 have jP:=At g3
 have eg:ak.es.length*ak.sz≤M:=by
  rcases Nat.eq_zero_or_pos ak.es.flatten.length with h0|j6
  ·omega
  ·obtain ⟨v,e1,-⟩:=g4 (ak.es.flatten.length-1) _ (List.getElem?_eq_getElem (by omega))
   have:=(Array.getElem?_eq_some_iff.1 e1).1
   omega
 have hmul:p*ak.sz+bC.length*ak.sz≤ak.es.length*ak.sz:=by rw [← Nat.add_mul];exact Nat.mul_le_mul_right _ ai
 have ik:p*ak.sz+vs.length≤cr.size:=by omega
 refine ⟨cr,mq,g1,g2,eg,ik,?_⟩
 have acH : ∀e∈ak.es.take p++bC++ak.es.drop (p+bC.length),e.length=ak.sz:=by
  intro e he
  simp only [List.mem_append] at he
  rcases he with (he|he)|he
  ·exact g3 e (List.mem_of_mem_take he)
  ·exact hlen e he
  ·exact g3 e (List.mem_of_mem_drop he)
 have hA:(ak.es.take p).flatten.length=p*ak.sz:=by rw [At fun e he=>g3 e (List.mem_of_mem_take he),List.length_take];congr 1;omega
 have gH:(ak.es.take (p+bC.length)).flatten.length=p*ak.sz+bC.length*ak.sz:=by rw [At fun e he=>g3 e (List.mem_of_mem_take he),List.length_take,← Nat.add_mul];congr 1;omega
 have aeA:bC.flatten.length=bC.length*ak.sz:=At hlen
 have h1 : ∀j,j<p*ak.sz→(ak.es.take p).flatten[j]? = ak.es.flatten[j]? := fun j aC=>by
  conv=>rhs;rw [← List.take_append_drop p ak.es,List.flatten_append,List.getElem?_append_left (by omega)]
 have o : ∀j,(ak.es.drop (p+bC.length)).flatten[j]? = ak.es.flatten[p*ak.sz+bC.length*ak.sz+j]? := fun j=>by
  conv=>rhs;rw [← List.take_append_drop (p+bC.length) ak.es,List.flatten_append,List.getElem?_append_right (by omega),gH]
  congr 1;omega
 refine h.write ao ap a6 lG gl _ mq (setRow_heap w b cr _ mq _ g1) (size_setRow _ _ _) (fun q a7=>setRow_other w b q _ a7) rfl rfl rfl (by rw [← g2];simp;omega) ?_ ?_
 ·intro e he
  rw [hr] at he
  exact acH e (List.mem_of_mem_take he)
 ·intro j x U
  have dK:(ak.es.take p++bC++ak.es.drop (p+bC.length)).flatten[j]? = some x:=by
   rw [hr] at U
   have aC:=(List.getElem?_eq_some_iff.1 U).1
   conv=>lhs;rw [← List.take_append_drop q (ak.es.take p++bC++ak.es.drop (p+bC.length)),List.flatten_append,List.getElem?_append_left aC]
   exact U
  rw [List.flatten_append,List.flatten_append] at dK
  simp only [List.getElem?_toArray]
  have iB:(cr.toList.take (p*ak.sz)).length=p*ak.sz:=by rw [List.length_take,Array.length_toList];omega
  by_cases bx:j<p*ak.sz
  ·rw [List.append_assoc,List.getElem?_append_left (by omega),h1 j bx] at dK
   obtain ⟨v,e1,aE,bT⟩:=g4 j x dK
   refine ⟨v,?_,aE,bT⟩
   rw [List.append_assoc,List.getElem?_append_left (by omega),List.getElem?_take,if_pos bx,Array.getElem?_toList];exact e1
  ·by_cases ch:j<p*ak.sz+vs.length
   ·rw [List.append_assoc,List.getElem?_append_right (by omega),hA,List.getElem?_append_left (by omega)] at dK
    have bh:j-p*ak.sz<vs.length:=by omega
    refine ⟨vs[j-p*ak.sz],?_,v3 _ (List.getElem_mem bh),v4 _ _ _ dK (List.getElem?_eq_getElem bh)⟩
    rw [List.append_assoc,List.getElem?_append_right (by omega),iB,List.getElem?_append_left (by omega)]
    exact List.getElem?_eq_getElem bh
   ·rw [List.getElem?_append_right (by rw [List.length_append];omega),List.length_append,hA,aeA,o] at dK
    rw [show p*ak.sz+bC.length*ak.sz+(j-(p*ak.sz+bC.length*ak.sz))=j by omega] at dK
    obtain ⟨v,e1,aE,bT⟩:=g4 j x dK
    refine ⟨v,?_,aE,bT⟩
    rw [List.getElem?_append_right (by rw [List.length_append];omega),List.length_append,iB,List.getElem?_drop,Array.getElem?_toList]
    rw [show p*ak.sz+vs.length+(j-(p*ak.sz+vs.length))=j by omega];exact e1
end
section
variable {P:Program} {g:G} {s:S} {ay:fo} {a:Act} {w:World} {aV:Nat} {bD:h8}
theorem aa5 (h:cM g s ay a w){x y:aB}{rb nn:Value}{t df eE:TypeId}(aw:nB P s.E s.aX aV .append [x,y] [t,df] .fV=some bD)(cF:∀p∈bD.fx,p)
 (U:Rel w (s.ok g ay w) s.a5 (s.bi ay) x rb) (aW:Rel w (s.ok g ay w) s.a5 (s.bi ay) y nn) :
 ∃v bL,(Builtin.append_ #[t,df] eE #[rb,nn]).run P w = .ok v bL∧cM g (s.h2 bD.fO) ay a bL∧Rel bL ((s.h2 bD.fO).ok g ay bL) (s.h2 bD.fO).a5 ((s.h2 bD.fO).bi ay) bD.val v:=by
 simp only [nB] at aw
 split at aw
 ·simp at aw
 ·rename_i e he
  have hu:=ry he
  split at aw
  ·rename_i i z ah cC
   split at aw
   ·simp at aw
   ·rename_i bf
    simp only [not_or,Decidable.not_not] at bf
    obtain ⟨ni,j6,yt⟩:=bf
    split at aw
    ·simp at aw
    ·rename_i bC cb qW
     split at aw
     ·rename_i r k len
      split at aw
      ·simp at aw
      ·rename_i row dC
       split at aw
       ·simp at aw
       ·rename_i ak bo
        split at aw
        ·rename_i u6
         obtain ⟨nD,eP⟩:=u6
         simp only [Option.some.injEq] at aw
         subst aw
         have ap:s.ak r k=some ak:=by unfold S.ak;rw [dC];exact bo
         have ik:len+bC.length≤ak.es.length:=cF _ (by simp)
         have BL:bC.length*i.bytes≤140737488355328:=cF _ (by simp)
         obtain ⟨eC,vs,k2,lD,hA,hlen,v1,v3,v4⟩:=Pd (eE:=eE) h hu ah cC ni j6 qW (fun p ai=>cF p (by simp [ai])) aW
         rw [← eP] at v1
         have Q5 : ∀x∈bC,x.length=ak.sz:=fun x U=>by rw [hlen x U,eP]
         have hr:ak.es.take len++bC=(ak.es.take len++bC++ak.es.drop (len+bC.length)).take (len+bC.length) :=
          (List.take_left' (by rw [List.length_append,List.length_take];omega)).symm
         rcases U.uC (iz ap) with ⟨ai,-,rfl,rfl⟩|⟨b,M,lH,kx,ai,rfl,qY,sx,eg,mf⟩
         ·have fv:=h.obj r k ak ap
          rw [ai] at fv
          simp only [jo] at fv
          rw [fv] at ik
          have h0:bC.length=0:=by simp at ik;exact List.length_eq_zero_iff.2 ik
          have u7:bC=[]:=List.length_eq_zero_iff.1 h0
          subst u7
          have lc:row.set k {ak with es:=ak.es.take 0++[]}=row:=by
           have h1:({ak with es:=ak.es.take 0++[]}:ab)=ak:=by cases ak;simp only [] at fv;subst fv;rfl
           rw [h1]
           have o:row[k]? = some ak:=by
            unfold dg at bo
            simp only at bo
            split at bo
            ·rename_i b8 dW
             split at bo
             ·simp at bo
             ·simp at bo;rw [← bo];exact dW
            ·simp at bo
           exact List.ext_getElem? fun j=>by
            rw [List.getElem?_set]
            split
            ·rename_i e;subst e
             have:=(List.getElem?_eq_some_iff.1 o).1
             rw [if_pos this,o]
            ·rfl
          refine ⟨_,w,hA.zero h0 none 0 0 (Nat.le_refl _),?_⟩
          have er:s.setRow r row=s:=by
           have:(fun q=>if q=r then some row else s.aX q)=s.aX:=by
            funext q;split
            ·rename_i e;rw [e,dC]
            ·rfl
           show ({s with aX:=_}:S)=s
           rw [this]
          show cM g (s.setRow r (row.set k {ak with es:=ak.es.take 0++[]})) ay a w∧Rel w ((s.setRow r (row.set k {ak with es:=ak.es.take 0++[]})).ok g ay w) (s.setRow r (row.set k {ak with es:=ak.es.take 0++[]})).a5 ((s.setRow r (row.set k {ak with es:=ak.es.take 0++[]})).bi ay) (.bm r k 0 0) (.slice none 0 0)
          rw [lc,er]
          exact ⟨h,U⟩
         ·obtain ⟨cr,mq,bx,ch,jx,pN,oc,rc⟩:=h.putAt dC ap nD ai Q5 v1 v3 v4 ik (len+bC.length) hr
          have hle:ak.es.length≤kx:=by
           rw [Nat.zero_add] at eg
           rw [← eg] at jx
           exact Nat.le_of_mul_le_mul_right jx (by omega)
          by_cases mr:kx=0
          ·have h0:bC.length=0:=by omega
           have nj:len=0:=by omega
           subst nj
           have u7:bC=[]:=List.length_eq_zero_iff.1 h0
           subst u7
           have LF:vs=[]:=List.length_eq_zero_iff.1 (by simpa using v1)
           subst LF
           have hw:w.setRow b (cr.toList.take (0*ak.sz)++[]++cr.toList.drop (0*ak.sz+0)).toArray=w:=by
            simp only [Nat.zero_mul,List.take_zero,List.nil_append,Nat.zero_add,List.drop_zero,Array.toArray_toList]
            exact setRow_self w b cr mq (0,0) bx
           simp only [List.length_nil] at oc rc
           rw [hw] at oc rc
           exact ⟨_,w,hA.zero h0 lH 0 kx (Nat.zero_le _),oc,rc _ _ U⟩
          ·have BM:lH=some ⟨b,0,none⟩:=by
            rcases mf with cI|cI
            ·exact absurd cI mr
            ·simpa using cI
           subst BM
           by_cases h0:bC.length=0
           ·have u7:bC=[]:=List.length_eq_zero_iff.1 h0
            subst u7
            have LF:vs=[]:=List.length_eq_zero_iff.1 (by simpa using v1)
            subst LF
            have hw:w.setRow b (cr.toList.take (len*ak.sz)++[]++cr.toList.drop (len*ak.sz+0)).toArray=w:=by
             simp only [List.append_nil,Nat.add_zero,List.take_append_drop,Array.toArray_toList]
             exact setRow_self w b cr mq (0,0) bx
            simp only [List.length_nil] at oc rc
            rw [hw] at oc rc
            exact ⟨_,w,hA.zero h0 _ len kx qY,oc,rc _ _ U⟩
           ·have iW:=hA.room (by omega) b len kx cr mq bx (by omega) (by rw [← eP];exact pN) BL
            rw [← eP] at iW
            refine ⟨_,_,iW,oc,?_⟩
            have Bf:(s.setRow r (row.set k {ak with es:=ak.es.take len++bC})).ak r k=some {ak with es:=ak.es.take len++bC}:=by
             rw [lv,if_pos rfl,PC row k ak _ bo (by simp [nD]),if_pos rfl]
            show Rel _ ((s.setRow r (row.set k {ak with es:=ak.es.take len++bC})).ok g ay _) (s.setRow r (row.set k {ak with es:=ak.es.take len++bC})).a5 ((s.setRow r (row.set k {ak with es:=ak.es.take len++bC})).bi ay) (.bm r k 0 (len+bC.length)) _
            refine .bm (sz:=ak.sz) (eb:=b) (m:=M) (DM Bf) ((iz Bf).trans (by rw [ai])) (by omega) sx ⟨eg,.inr (by simp)⟩
        ·simp at aw
     ·simp at aw
  ·simp at aw
end
section
variable {P:Program} {g:G} {s:S} {ay:fo} {a:Act} {w:World} {aV:Nat} {bD:h8}
theorem Ov {s:S}{r k:Nat}{row:List ab}{ak:ab}(ao:s.aX r=some row)(ap:dg (some row) k=some ak):s.setRow r (row.set k ak)=s:=by
 have o:row[k]? = some ak:=by
  unfold dg at ap
  simp only at ap
  split at ap
  ·rename_i b8 dW
   split at ap
   ·simp at ap
   ·simp at ap;rw [← ap];exact dW
  ·simp at ap
 have ae:row.set k ak=row:=List.ext_getElem? fun j=>by
  rw [List.getElem?_set]
  split
  ·rename_i e;subst e
   have:=(List.getElem?_eq_some_iff.1 o).1
   rw [if_pos this,o]
  ·rfl
 rw [ae]
 have:(fun q=>if q=r then some row else s.aX q)=s.aX:=by
  funext q;split
  ·rename_i e;rw [e,ao]
  ·rfl
 show ({s with aX:=_}:S)=s
 rw [this]
theorem YV {e:TypeId}{i:TypeInfo}{z:List aB}{eC:Value}(lD:eC.cells.size=i.size)(ni:z.length=i.size)(j6:i.size≠0)
 (ts : ∀(j:Nat) x,z[j]? = some x→ ∃v,eC.cells[j]? = some v∧ke v=true∧ ∀(w:World) (ok:Nat→Prop) (a5:jf) (bi:i4),Rel w ok a5 bi x v) (m:Nat) :
 (Builtin.zeroCells eC.cells m).toList.length=m*i.size∧(∀u∈(Builtin.zeroCells eC.cells m).toList,u.oneCell'=true) ∧
   ∀(j:Nat) x u,(List.replicate m z).flatten[j]? = some x→(Builtin.zeroCells eC.cells m).toList[j]? = some u→ ∀(w:World) (ok:Nat→Prop) (a5:jf) (bi:i4),Rel w ok a5 bi x u:=by
 have lV : ∀(j:Nat) u,(Builtin.zeroCells eC.cells m).toList[j]? = some u→eC.cells[j % i.size]? = some u:=by
  intro j u nC
  have aC:=(List.getElem?_eq_some_iff.1 nC).1
  rw [Array.length_toList,size_zeroCells,lD] at aC
  have dE:j % i.size<eC.cells.size:=by rw [lD];exact Nat.mod_lt _ (by omega)
  rw [Array.getElem?_toList,Builtin.zeroCells,Array.getElem?_map,lD,Array.getElem?_range] at nC
  rw [if_pos aC] at nC
  simp only [Option.map_some,Option.some.injEq] at nC
  rw [← nC,Array.getElem?_eq_getElem dE,getElem!_pos eC.cells _ dE]
 refine ⟨?_,?_,?_⟩
 ·rw [Array.length_toList,size_zeroCells,lD]
 ·intro u q2
  obtain ⟨j,aC⟩:=List.getElem?_of_mem q2
  have h1:=lV j u aC
  have dE:j % i.size<z.length:=by rw [ni];exact Nat.mod_lt _ (by omega)
  obtain ⟨v,v1,v2,-⟩:=ts _ _ (List.getElem?_eq_getElem dE)
  rw [h1] at v1
  obtain rfl:=Option.some.inj v1
  exact v2
 ·intro j x u U nC
  rw [o3 (sz:=i.size) (by omega) _ (fun ep lS=>by rw [List.mem_replicate] at lS;rw [lS.2,ni])] at U
  have h1:=lV j u nC
  cases a7:(List.replicate m z)[j / i.size]? with
  | none=>rw [a7] at U;simp at U
  | some ep =>
   have:=List.mem_of_getElem? a7
   rw [List.mem_replicate] at this
   rw [a7,this.2] at U
   simp only [Option.bind_some] at U
   obtain ⟨v,v1,-,v3⟩:=ts _ _ U
   rw [h1] at v1
   obtain rfl:=Option.some.inj v1
   exact v3
theorem aah (h:cM g s ay a w){r k len:Nat}{y:aB}{rb nn:Value}{t df eE:TypeId}{cP:fB}(aw:nB P s.E s.aX aV .copy [.bm r k 0 len,y] [t,df] cP=some bD)(cF:∀p∈bD.fx,p)
 (U:Rel w (s.ok g ay w) s.a5 (s.bi ay) (.bm r k 0 len) rb) (aW:Rel w (s.ok g ay w) s.a5 (s.bi ay) y nn) :
 ∃n bL,(Builtin.copy_ #[t,df] eE #[rb,nn]).run P w = .ok (goInt n) bL∧cM g (s.h2 bD.fO) ay a bL∧bD.val = .n .i64 n:=by
 simp only [nB] at aw
 split at aw
 ·simp at aw
 ·rename_i e he
  have hu:=ry he
  split at aw
  ·simp at aw
  ·rename_i i ah
   split at aw
   ·simp at aw
   ·rename_i bC cb qW
    split at aw
    ·simp at aw
    ·rename_i row dC
     split at aw
     ·simp at aw
     ·rename_i ak bo
      split at aw
      ·rename_i u6
       obtain ⟨nD,eP,j6⟩:=u6
       simp only [Option.some.injEq] at aw
       subst aw
       have ap:s.ak r k=some ak:=by unfold S.ak;rw [dC];exact bo
       have ik:bC.length≤len:=cF _ (by simp)
       have hle:len≤ak.es.length:=cF _ (by simp)
       obtain ⟨A,c,rfl,hlen,LC⟩:=PE h qW (fun p ai=>cF p (by simp [ai])) aW
       show ∃n bL,_∧cM g (s.setRow r (row.set k {ak with es:=bC++ak.es.drop bC.length})) ay a bL∧_
       by_cases h0:bC.length=0
       ·have u7:bC=[]:=List.length_eq_zero_iff.1 h0
        subst u7
        refine ⟨0,w,?_,?_,rfl⟩
        ·rcases U.uC (iz ap) with ⟨-,-,rfl,rfl⟩|⟨b,M,lH,kx,-,rfl,-,-,-,-⟩
         ·cases A<;>simp [Builtin.copy_,run_underlying hu,sizeOf,typeInfo,ah,Builtin.lenOf,Builtin.firstCells,loadCells,loadCellsFrom]
         ·cases A<;>cases lH<;>simp [Builtin.copy_,run_underlying hu,sizeOf,typeInfo,ah,Builtin.lenOf,Builtin.firstCells,loadCells,loadCellsFrom,storeCells]
        ·rw [show ({ak with es:=[]++ak.es.drop ([]:List (List aB)).length}:ab)=ak from rfl,Ov dC bo];exact h
       ·obtain ⟨eb,off,rfl,im⟩:=LC.resolve_left h0
        obtain ⟨vs,v1,v2,v3,v4⟩:=im.nz
        rw [← eP] at v1
        rcases U.uC (iz ap) with ⟨-,-,rfl,-⟩|⟨b,M,lH,kx,ai,rfl,qY,sx,eg,mf⟩
        ·exact absurd (Nat.le_zero.1 ik) h0
        ·have BM:lH=some ⟨b,0,none⟩:=by
          rcases mf with cI|cI
          ·exact absurd (show bC.length=0 by omega) h0
          ·simpa using cI
         subst BM
         obtain ⟨cr,mq,bx,ch,jx,pN,oc,-⟩:=h.putAt (p:=0) dC ap nD ai (fun x U=>by rw [hlen x U,eP]) v1 v3 v4 (by omega) ak.es.length (gl:=bC++ak.es.drop bC.length)
          (by rw [List.take_zero,List.nil_append,Nat.zero_add];exact (List.take_of_length_le (by simp;omega)).symm)
         simp only [Nat.zero_mul,Nat.zero_add,List.take_zero,List.nil_append] at pN oc
         have aT:=run_firstCells_some (P:=P) w i.size bC.length ⟨eb,off,none⟩ bC.length c vs (by rw [v1,eP]) v2
         have me:=run_storeCells_at P b 0 mq vs 0 cr w bx (by simpa using pN) v3
         simp only [Nat.add_zero,List.take_zero,List.nil_append,Nat.zero_add] at me
         refine ⟨bC.length,_,?_,oc,rfl⟩
         simp [Builtin.copy_,run_underlying hu,sizeOf,typeInfo,ah,Builtin.lenOf,Nat.min_eq_left ik,aT,me]
      ·simp at aw
theorem Zt (h:cM g s ay a w){r k len:Nat}{rb:Value}{t eE:TypeId}{cP:fB}(aw:nB P s.E s.aX aV .clear [.bm r k 0 len] [t] cP=some bD)(cF:∀p∈bD.fx,p)
 (U:Rel w (s.ok g ay w) s.a5 (s.bi ay) (.bm r k 0 len) rb) :
 ∃bL,(Builtin.clear_ #[t] eE #[rb]).run P w = .ok (.tuple #[]) bL∧cM g (s.h2 bD.fO) ay a bL∧bD.val = .d7 []:=by
 simp only [nB] at aw
 split at aw
 ·simp at aw
 ·rename_i e he
  have hu:=ry he
  split at aw
  ·rename_i i z ah cC
   split at aw
   ·simp at aw
   ·rename_i row dC
    split at aw
    ·simp at aw
    ·rename_i ak bo
     split at aw
     ·rename_i u6
      obtain ⟨nD,eP,ni,j6⟩:=u6
      simp only [Option.some.injEq] at aw
      subst aw
      have ap:s.ak r k=some ak:=by unfold S.ak;rw [dC];exact bo
      have hle:ak.es.length=len:=cF _ (by simp)
      show ∃bL,_∧cM g (s.setRow r (row.set k {ak with es:=List.replicate len z})) ay a bL∧_
      by_cases h0:len=0
      ·subst h0
       refine ⟨w,?_,?_,rfl⟩
       ·rcases U.uC (iz ap) with ⟨-,-,-,rfl⟩|⟨b,M,lH,kx,-,rfl,-,-,-,-⟩
        ·simp [Builtin.clear_,run_underlying hu]
        ·cases lH<;>simp [Builtin.clear_,run_underlying hu]
       ·rw [show ({ak with es:=List.replicate 0 z}:ab)=ak by rw [List.replicate_zero,← List.length_eq_zero_iff.1 hle],Ov dC bo];exact h
      ·obtain ⟨eD,eC,kE,k2,pM,ts⟩:=Ah cC
       rw [ah] at kE;simp at kE;subst kE
       have lD:eC.cells.size=i.size:=by rw [← ni,pM];simp
       rcases U.uC (iz ap) with ⟨-,-,rfl,-⟩|⟨b,M,lH,kx,ai,rfl,qY,sx,eg,mf⟩
       ·exact absurd rfl h0
       ·have BM:lH=some ⟨b,0,none⟩:=by
         rcases mf with cI|cI
         ·exact absurd (show len=0 by omega) h0
         ·simpa using cI
        subst BM
        obtain ⟨v1,v3,v4⟩:=YV (e:=e) lD ni j6 ts len
        rw [← eP] at v1
        obtain ⟨cr,mq,bx,ch,jx,pN,oc,-⟩:=h.putAt (p:=0) (bC:=List.replicate len z) dC ap nD ai (fun x U=>by rw [List.mem_replicate] at U;rw [U.2,ni,eP]) (by simpa using v1) v3 (fun j x u h1 o=>v4 j x u h1 o _ _ _ _)
         (by simp;omega) len (gl:=List.replicate len z)
         (by simp [hle])
        simp only [Nat.zero_mul,Nat.zero_add,List.take_zero,List.nil_append] at pN oc
        have me:=run_storeCells_at P b 0 mq (Builtin.zeroCells eC.cells len).toList 0 cr w bx (by simpa using pN) v3
        simp only [Nat.add_zero,List.take_zero,List.nil_append,Nat.zero_add] at me
        refine ⟨_,?_,oc,rfl⟩
        cases len with
        | zero=>exact absurd rfl h0
        | succ n=>simp [Builtin.clear_,run_underlying hu,zeroValue,typeInfo,ah,k2,me]
     ·simp at aw
  ·simp at aw
end
section
variable {g:G} {s:S} {ay:fo} {a:Act} {w:World}
def lO (row:List ab):List ab:=row.map fun I=>if I.cw = .live then {I with cw:= .iY} else I
theorem PF (row:List ab)(k:Nat):dg (some (lO row)) k=(dg (some row) k).map fun I=>if I.cw = .live then {I with cw:= .iY} else I:=by
 simp only [dg,lO,List.getElem?_map]
 cases row[k]? with
 | none=>rfl
 | some I =>
  obtain ⟨sz,es,cw⟩:=I
  cases cw<;>simp
theorem cM.freeze (h:cM g s ay a w){r:Nat}{row:List ab}(ao:s.aX r=some row):cM g (s.setRow r (lO row)) ay a w:=by
 have bo : ∀q k I,(s.setRow r (lO row)).ak q k=some I→ ∃p,s.ak q k=some p∧I.sz=p.sz∧I.es=p.es∧(I.cw = .live→p.cw = .live∧q≠r):=by
  intro q k I ap
  by_cases e:q=r
  ·subst e
   have:(s.setRow q (lO row)).aX q=some (lO row):=by simp [S.setRow]
   unfold S.ak at ap
   rw [this,PF] at ap
   rw [Option.map_eq_some_iff] at ap
   obtain ⟨p,ai,rfl⟩:=ap
   refine ⟨p,by unfold S.ak;rw [ao];exact ai,?_⟩
   split<;>simp_all
  ·have:(s.setRow r (lO row)).aX q=s.aX q:=by simp [S.setRow,e]
   unfold S.ak at ap
   rw [this] at ap
   exact ⟨I,ap,rfl,rfl,fun aT=>⟨aT,e⟩⟩
 have jt : ∀q k,s.a5 q k→(s.setRow r (lO row)).a5 q k:=Dp s ao (by simp [lO])
 have lg : ∀q k,(s.setRow r (lO row)).bi ay q k=s.bi ay q k:=by
  intro q k
  by_cases e:q=r
  ·subst e
   simp only [S.bi,S.ak]
   have:(s.setRow q (lO row)).aX q=some (lO row):=by simp [S.setRow]
   rw [this,PF,ao]
   cases dg (some row) k with
   | none=>rfl
   | some I=>simp only [Option.map_some,Option.some.injEq,Prod.mk.injEq,and_true];split<;>rfl
  ·have:(s.setRow r (lO row)).aX q=s.aX q:=by simp [S.setRow,e]
   simp [S.bi,S.ak,this]
 have c8:Step g s ay w (s.setRow r (lO row)) ay w:=⟨jt,fun q k _=> .inl (lg q k),fun b aT=>by
  obtain ⟨q,k,I,m,h1,o,ae⟩:=aT
  obtain ⟨p,p1,hi,rO,Cr⟩:=bo q k I h1
  exact .inl ⟨q,k,p,m,p1,(Cr o).1,ae⟩,fun _ _ _=>rfl,Nat.le_refl _⟩
 refine {toh7:=⟨?_,?_,?_,h.gL,h.mlt,h.nd,?_,h.low⟩,env:=fun t=>c8.rel (h.env t),defers:=h.defers,jO:=h.jO}
 ·intro q k I ap
  obtain ⟨p,p1,hi,rO,-⟩:=bo q k I ap
  have ai:=c8.obj (fun b m _=>rfl) (h.obj q k p p1)
  cases lG:ay q k with
  | none=>rw [lG] at ai;simp only [jo] at ai ⊢;rw [rO];exact ai
  | some x =>
   obtain ⟨b,m⟩:=x
   rw [lG] at ai
   obtain ⟨c,eE,e1,aE,bT,de⟩:=ai
   exact ⟨c,eE,e1,aE,by rw [hi,rO];exact bT,by rw [rO];exact de⟩
 ·intro q k I hF dU b8 b m bA h1 o ae au
  obtain ⟨p,p1,-⟩:=bo q k I h1
  obtain ⟨kn,ado,-⟩:=bo hF dU b8 o
  exact h.inj q k p hF dU kn b m bA p1 ado ae au
 ·intro q k I b m h1 o
  obtain ⟨p,p1,-⟩:=bo q k I h1
  exact h.own q k p b m p1 o
 ·intro j k aC
  obtain ⟨e1,aE⟩:=h.stay j k aC
  exact ⟨jt j k e1,by rw [lg];exact aE⟩
end
def x7 (P:Program)(t:TypeId):Bool :=
 match P.underlying t with
 | some (.pointer _)=>true
 | _=>false
def yz (P:Program)(E:Nat→aB)(aX:Nat→Option (List ab))(aV:Nat)(I:Oper)(cP:fB):Option h8 :=
 match I.op with
 | .call {callee:= .builtin b,args,argTypes}=>match b with
  | .len=>eQ P E aX aV I cP
  | b=>nB P E aX aV b (args.toList.map (fg E)) argTypes.toList cP
 | .binOp op t x y _=>match cP,op,fg E x,fg E y with
  | .fV,.eql,.isl _ es,.eU=>if (px P t).isSome then some {val:= .b false,fx:=[es≠[]]} else none
  | .fV,.neq,.isl _ es,.eU=>if (px P t).isSome then some {val:= .b true,fx:=[es≠[]]} else none
  | .fV,.eql,.j7 _ none,.h6=>if x7 P t then some {val:= .b true} else none
  | .fV,.neq,.j7 _ none,.h6=>if x7 P t then some {val:= .b false} else none
  | .fV,.eql,.j7 _ (some _),.h6=>if x7 P t then some {val:= .b false} else none
  | .fV,.neq,.j7 _ (some _),.h6=>if x7 P t then some {val:= .b true} else none
  | .fV,_,_,_=>none
  | _,_,_,_=>eQ P E aX aV I cP
 | .nilCheck x=>match cP,fg E x with
  | .fV,.j7 sz (some c)=>some {val:= .d6 sz [c] 0 0}
  | .fV,_=>none
  | _,_=>eQ P E aX aV I cP
 | _=>eQ P E aX aV I cP
section
variable {P:Program} {g:G} {s:S} {ay:fo} {a:Act} {w:World} {I:Oper} {cP:fB} {aV:Nat} {bD:h8}
theorem DZ {args:Array Operand}{E:Nat→aB}{x y:aB}(h:args.toList.map (fg E)=[x,y]): ∃p q,args = #[p,q]∧fg E p=x∧fg E q=y:=by
 obtain ⟨l⟩:=args
 match l,h with
 | [p,q],h=>simp at h;exact ⟨p,q,rfl,h.1,h.2⟩
theorem aa6 {args:Array Operand}{E:Nat→aB}{x:aB}(h:args.toList.map (fg E)=[x]): ∃p,args = #[p]∧fg E p=x:=by
 obtain ⟨l⟩:=args
 match l,h with
 | [p],h=>simp at h;exact ⟨p,rfl,h⟩
theorem DF {t:TypeId}(h:x7 P t=true): ∃e,P.underlying t=some (.pointer e):=by
 unfold x7 at h
 split at h
 ·rename_i e he;exact ⟨e,he⟩
 ·simp at h
theorem Zu (h:cM g s ay a w)(eV:s.aX aV=none)(aw:yz P s.E s.aX aV I cP=some bD)(cF:∀p∈bD.fx,p):Fin P g s a w I bD:=by
 unfold yz at aw
 split at aw
 ·rename_i b args mS ap
  split at aw
  ·exact DE h eV aw cF
  ·rename_i b aR
   unfold nB at aw
   split at aw
   ·rename_i x y t df m Mq hargs n3
    have uR:nB P s.E s.aX aV .append [x,y] [t,df] (.aJ m Mq)=some bD:=aw
    obtain ⟨p,q,rfl,rfl,rfl⟩:=DZ hargs
    obtain ⟨l⟩:=mS
    simp only at n3
    subst n3
    obtain ⟨v,bL,bK,h1,o,ae⟩:=YU (eE:=I.type) h eV uR cF (h.eval p) (h.eval q)
    exact ⟨v,bL,bK,.inl (by simp [execOp,ap,resolve,invoke,builtin,h1]),o,ae⟩
   ·rename_i x y t df hargs n3
    have uR:nB P s.E s.aX aV .append [x,y] [t,df] .fV=some bD:=aw
    obtain ⟨p,q,rfl,rfl,rfl⟩:=DZ hargs
    obtain ⟨l⟩:=mS
    simp only at n3
    subst n3
    obtain ⟨v,bL,h1,o,ae⟩:=aa5 (eE:=I.type) h uR cF (h.eval p) (h.eval q)
    exact ⟨v,bL,ay,.inl (by simp [execOp,ap,resolve,invoke,builtin,h1]),o,ae⟩
   ·rename_i cP r k len y t df hargs n3
    have uR:nB P s.E s.aX aV .copy [.bm r k 0 len,y] [t,df] cP=some bD:=aw
    obtain ⟨p,q,rfl,ai,rfl⟩:=DZ hargs
    obtain ⟨l⟩:=mS
    simp only at n3
    subst n3
    have U:=h.eval p
    rw [ai] at U
    obtain ⟨n,bL,h1,o,ae⟩:=aah (eE:=I.type) h uR cF U (h.eval q)
    refine ⟨goInt n,bL,ay,.inl (by simp [execOp,ap,resolve,invoke,builtin,h1]),o,?_⟩
    rw [ae];exact .n _ _
   ·rename_i cP r k len t hargs n3
    have uR:nB P s.E s.aX aV .clear [.bm r k 0 len] [t] cP=some bD:=aw
    obtain ⟨p,rfl,ai⟩:=aa6 hargs
    obtain ⟨l⟩:=mS
    simp only at n3
    subst n3
    have U:=h.eval p
    rw [ai] at U
    obtain ⟨bL,h1,o,ae⟩:=Zt (eE:=I.type) h uR cF U
    refine ⟨.tuple #[],bL,ay,.inl (by simp [execOp,ap,resolve,invoke,builtin,h1]),o,?_⟩
    rw [ae];exact .d7 [] rfl (fun j x u aC=>by simp at aC)
   ·rename_i k x dU y hargs
    split at aw
    ·rename_i a6
     simp only [Option.some.injEq] at aw
     subst aw;subst a6
     obtain ⟨p,q,rfl,ai,a7⟩:=DZ hargs
     have U:=h.eval p
     have aW:=h.eval q
     rw [ai] at U;rw [a7] at aW
     refine iy (v:= .int k (if y<x then y else x)) h ?_ rfl (.n _ _)
     simp [execOp,ap,resolve,invoke,builtin,Builtin.min_,U.o9,aW.o9,Builtin.min2]
    ·simp at aw
   ·simp at aw
 ·rename_i op t x y df ap
  split at aw
  ·rename_i sz es U aW
   split at aw
   ·rename_i he
    obtain ⟨e,he⟩:=Option.isSome_iff_exists.1 he
    simp only [Option.some.injEq] at aw
    subst aw
    have h1:=h.eval x
    have o:=h.eval y
    rw [U] at h1;rw [aW] at o
    have c4:es≠[]:=cF _ (by simp)
    refine iy (v:= .bool false) h ?_ rfl (.b _)
    simp only [execOp,ap]
    rw [Sem.run_bind,(QD (w:=w) (ry he) c4 h1 o x y).1];rfl
   ·simp at aw
  ·rename_i sz es U aW
   split at aw
   ·rename_i he
    obtain ⟨e,he⟩:=Option.isSome_iff_exists.1 he
    simp only [Option.some.injEq] at aw
    subst aw
    have h1:=h.eval x
    have o:=h.eval y
    rw [U] at h1;rw [aW] at o
    have c4:es≠[]:=cF _ (by simp)
    refine iy (v:= .bool true) h ?_ rfl (.b _)
    simp only [execOp,ap]
    rw [Sem.run_bind,(QD (w:=w) (ry he) c4 h1 o x y).2];rfl
   ·simp at aw
  ·rename_i sz U aW
   split at aw
   ·rename_i cf
    obtain ⟨e,he⟩:=DF cf
    simp only [Option.some.injEq] at aw
    subst aw
    have h1:=h.eval x
    have o:=h.eval y
    rw [U] at h1;rw [aW] at o
    have qk:Rel w (s.ok g ay w) s.a5 (s.bi ay) .h6 (a.eval x):=by rw [h1.PD];exact .h6
    refine iy (v:= .bool true) h ?_ rfl (.b _)
    simp only [execOp,ap]
    rw [Sem.run_bind,(xQ (w:=w) (r:=true) (by simp [rJ,he]) qk o x y).1];rfl
   ·simp at aw
  ·rename_i sz U aW
   split at aw
   ·rename_i cf
    obtain ⟨e,he⟩:=DF cf
    simp only [Option.some.injEq] at aw
    subst aw
    have h1:=h.eval x
    have o:=h.eval y
    rw [U] at h1;rw [aW] at o
    have qk:Rel w (s.ok g ay w) s.a5 (s.bi ay) .h6 (a.eval x):=by rw [h1.PD];exact .h6
    refine iy (v:= .bool false) h ?_ rfl (.b _)
    simp only [execOp,ap]
    rw [Sem.run_bind,(xQ (w:=w) (r:=true) (by simp [rJ,he]) qk o x y).2];rfl
   ·simp at aw
  ·rename_i sz c U aW
   split at aw
   ·rename_i cf
    obtain ⟨e,he⟩:=DF cf
    simp only [Option.some.injEq] at aw
    subst aw
    have h1:=h.eval x
    have o:=h.eval y
    rw [U] at h1;rw [aW] at o
    refine iy (v:= .bool false) h ?_ rfl (.b _)
    simp only [execOp,ap]
    rw [Sem.run_bind,(xQ (w:=w) (r:=false) (by simp [rJ,he]) h1.Kd o x y).1];rfl
   ·simp at aw
  ·rename_i sz c U aW
   split at aw
   ·rename_i cf
    obtain ⟨e,he⟩:=DF cf
    simp only [Option.some.injEq] at aw
    subst aw
    have h1:=h.eval x
    have o:=h.eval y
    rw [U] at h1;rw [aW] at o
    refine iy (v:= .bool true) h ?_ rfl (.b _)
    simp only [execOp,ap]
    rw [Sem.run_bind,(xQ (w:=w) (r:=false) (by simp [rJ,he]) h1.Kd o x y).2];rfl
   ·simp at aw
  ·simp at aw
  ·exact DE h eV aw cF
 ·rename_i x ap
  split at aw
  ·rename_i sz c U
   simp only [Option.some.injEq] at aw
   subst aw
   have h1:=h.eval x
   rw [U] at h1
   have o:=h1.Kd
   obtain ⟨eb,off,aR,hval,im⟩:=o.xX
   refine iy (v:=a.eval x) h ?_ rfl o
   rw [hval]
   simp only [execOp,ap,hval]
   rfl
  ·simp at aw
  ·exact DE h eV aw cF
 ·exact DE h eV aw cF
end
end Go.VL
namespace Go.VL
set_option linter.unusedVariables false
set_option linter.unusedSimpArgs false
open Go
theorem rX {es:List (List aB)}{j:Nat}{x:aB}(h:es.flatten[j]? = some x): ∃e∈es,x∈e:=by
 have:=List.mem_of_getElem? h
 rw [List.mem_flatten] at this
 obtain ⟨e,he,U⟩:=this
 exact ⟨e,he,U⟩
theorem Rel.pure {w:World}{ok kQ:Nat→Prop}{a5 mQ:jf}{bi mc:i4}{x:aB}{v:Value}(h:Rel w ok a5 bi x v)(ai:Pure x)(mR:∀b,ok b→kQ b):Rel w kQ mQ mc x v:=by
 induction h with
 | dead v=>exact .dead v
 | b x=>exact .b x
 | n k x=>exact .n k x
 | s x=>exact .s x
 | h6=>exact .h6
 | eU=>exact .eU
 | iQ a c=>exact .iQ a c
 | pu=>cases ai
 | ref=>cases ai
 | m8=>cases ai
 | nr=>cases ai
 | bm=>cases ai
 | mL=>cases ai
 | nx=>cases ai
 | kg sz a c h=>exact .kg sz a c h
 | isl cs aR nE aT bf hw iB ao ih =>
  cases ai with
  | isl h=>exact .isl cs (mR _ aR) nE aT bf hw iB fun j x U=>ih j x U (by obtain ⟨e,he,ql⟩:=rX U;exact h e he x ql)
 | d6 cs aR nE aT hw iB ao ih =>
  cases ai with
  | d6 h=>exact .d6 cs (mR _ aR) nE aT hw iB fun j x U=>ih j x U (by obtain ⟨e,he,ql⟩:=rX U;exact h e he x ql)
 | pb sz=>exact .pb sz
 | oJ h ih =>
  cases ai with
  | oJ ai=>exact .oJ (ih (.d6 fun e he x U=>by rw [List.mem_singleton] at he;subst he;exact ai x U))
 | agg vs aT iB ao ih =>
  cases ai with
  | agg h=>exact .agg vs aT iB fun j x v U bh=>ih j x v U bh (h x (List.mem_of_getElem? U))
 | d7 vs aT ao ih =>
  cases ai with
  | d7 h=>exact .d7 vs aT fun j x v U bh=>ih j x v U bh (h x (List.mem_of_getElem? U))
 | fn vs aT ao ih =>
  cases ai with
  | fn h=>exact .fn vs aT fun j x v U bh=>ih j x v U bh (h x (List.mem_of_getElem? U))
abbrev gC:=Nat→Nat→Option (Nat×Nat)
structure Down (q:aB→Prop):Prop where
 agg : ∀c x,q (.agg c)→x∈c→q x
 d7 : ∀c x,q (.d7 c)→x∈c→q x
 fn : ∀f c x,q (.fn f c)→x∈c→q x
inductive hG (s:S) (a0:gC) (bW:gf→Bool) (q:aB→Prop):aB→aB→Prop
 | dead (x:aB):hG s a0 bW q x .dead
 | pure {x:aB} (h:Pure x) (a7:q x):hG s a0 bW q x x
 | eU (sz:Nat):hG s a0 bW q .eU (.isl sz [])
 | iQ (sz:Nat):hG s a0 bW q .iQ (.isl sz [])
 | Ei (sz:Nat):hG s a0 bW q .h6 (.j7 sz none)
 | j7 {sz:Nat} {x:aB} {c:List aB} (h:hG s a0 bW q x (.d6 sz [c] 0 0)):hG s a0 bW q x (.j7 sz (some c))
 | ref {r k j eD:Nat} (i off:Nat) (h:a0 j eD=some (r,k)) (hu:s.a5 r k):hG s a0 bW q (.ref r k i off) (.ref j eD i off)
 | bm {r k j eD:Nat} (bU len:Nat) (h:a0 j eD=some (r,k)) (hu:s.a5 r k):hG s a0 bW q (.bm r k bU len) (.bm j eD bU len)
 | mL (r c sz:Nat):hG s a0 bW q (.iR r c sz none) (.isl sz [])
 | nx {r c sz k n:Nat} {cK:aB} (h:hG s a0 bW q (.bm r (k+c) 0 n) cK):hG s a0 bW q (.iR r c sz (some (k,n))) cK
 | iR {r eF c dL sz:Nat} (h:Option (Nat×Nat)) (hm : ∀k,a0 eF (k+dL)=some (r,k+c)):hG s a0 bW q (.iR r c sz h) (.iR eF dL sz h)
 | d6 {r k:Nat} {I:ab} {gl:List (List aB)} (i off:Nat) (ap:s.ak r k=some I) (bF:bW I.cw=true) (ao:(∀j i,a0 j i≠some (r,k))) (c4:I.es≠[]) (ai:jM gl) (hle : ∀e∈gl,e.length=I.sz) (aT:gl.length=I.es.length)
  (h : ∀(j:Nat) x cK,I.es.flatten[j]? = some x→gl.flatten[j]? = some cK→hG s a0 bW q x cK):hG s a0 bW q (.ref r k i off) (.d6 I.sz gl i off)
 | isl {r k bU len:Nat} {I:ab} {gl:List (List aB)} (ap:s.ak r k=some I) (bF:bW I.cw=true) (ao:(∀j i,a0 j i≠some (r,k))) (ik:bU+len≤I.es.length) (ai:jM gl) (hle : ∀e∈gl,e.length=I.sz) (aT:gl.length=len)
  (h : ∀(j:Nat) x cK,((I.es.drop bU).take len).flatten[j]? = some x→gl.flatten[j]? = some cK→hG s a0 bW q x cK):hG s a0 bW q (.bm r k bU len) (.isl I.sz gl)
 | agg {c dL:List aB} (aT:dL.length=c.length) (h : ∀(j:Nat) x cK,c[j]? = some x→dL[j]? = some cK→hG s a0 bW q x cK):hG s a0 bW q (.agg c) (.agg dL)
 | d7 {c dL:List aB} (aT:dL.length=c.length) (h : ∀(j:Nat) x cK,c[j]? = some x→dL[j]? = some cK→hG s a0 bW q x cK):hG s a0 bW q (.d7 c) (.d7 dL)
 | fn {f:Nat} {c dL:List aB} (aT:dL.length=c.length) (h : ∀(j:Nat) x cK,c[j]? = some x→dL[j]? = some cK→hG s a0 bW q x cK):hG s a0 bW q (.fn f c) (.fn f dL)
theorem rn {sz:Nat}: ∀(es:List (List aB)),(∀e∈es,e.length=sz)→es.flatten.length=es.length*sz
 | [],_=>by simp
 | e::es,h=>by
  rw [List.flatten_cons,List.length_append,rn es fun x U=>h x (by simp [U]),h e (by simp),List.length_cons,Nat.add_mul];omega
theorem fE {α:Type}{l:List α}{j:Nat}{x:α}(h:l[j]? = some x):j<l.length:=by
 rcases Nat.lt_or_ge j l.length with cI|cI
 ·exact cI
 ·rw [List.getElem?_eq_none cI] at h;simp at h
theorem hG.rel {g:G}{s:S}{ay:fo}{w:World}{a0:gC}{bW:gf→Bool}{q:aB→Prop}(eg:h7 g s ay w){kQ:Nat→Prop}{mQ:jf}{mc:i4}
 (H1 : ∀x v,q x→Pure x→Rel w (s.ok g ay w) s.a5 (s.bi ay) x v→Rel w kQ mQ mc x v)
 (Fb : ∀r k I b m,s.ak r k=some I→bW I.cw=true→(∀j i,a0 j i≠some (r,k))→ay r k=some (b,m)→kQ b)
 (Cs : ∀j i r k,a0 j i=some (r,k)→s.a5 r k→mQ j i∧(mc j i=s.bi ay r k∨mc j i=none)) {x cK:aB} (bS:hG s a0 bW q x cK) :
 ∀ {v:Value},Rel w (s.ok g ay w) s.a5 (s.bi ay) x v→Rel w kQ mQ mc cK v:=by
 induction bS with
 | dead x=>intro v _;exact .dead v
 | pure ai a7=>intro v ao;exact H1 _ v a7 ai ao
 | eU sz=>intro v ao;rw [ao.ps];exact .kg sz none 0 (fun _=>rfl)
 | iQ sz=>intro v ao;obtain ⟨a,c,rfl⟩:=ao.DX;exact .kg sz (some a) c (fun h=>by simp at h)
 | Ei sz=>intro v ao;rw [ao.uB];exact .pb sz
 | j7 h ih=>intro v ao;exact .oJ (ih ao)
 | @ref r k j eD i off aC hu =>
  intro v ao
  obtain ⟨h1,o⟩:=Cs j eD r k aC hu
  cases ao with
  | pu a n5 a3 =>
   refine .pu a h1 fun sz p=> ?_
   rcases o with e|e<;>rw [e]
   ·exact a3 sz p
   ·simp
  | ref n5 cf =>
   rcases o with e|e
   ·exact .ref h1 (e.trans cf)
   ·exact .pu _ h1 fun sz p=>by rw [e];simp
 | @bm r k j eD bU len aC hu =>
  intro v ao
  obtain ⟨h1,o⟩:=Cs j eD r k aC hu
  cases ao with
  | m8 a l c n5 a3 =>
   refine .m8 a l c h1 ?_
   rcases o with e|e<;>rw [e]
   exact a3
  | nr n5 cf =>
   rcases o with e|e
   ·exact .nr h1 (e.trans cf)
   ·exact .m8 _ _ _ h1 e
  | bm n5 cf aT bf hm =>
   rcases o with e|e
   ·exact .bm h1 (e.trans cf) aT bf hm
   ·exact .m8 _ _ _ h1 e
 | mL r c sz =>
  intro v ao
  cases ao with
  | mL h0 =>
   rcases h0.r9 with ⟨-,a,c,rfl,bF⟩|⟨eb,off,c,-,rfl,-⟩
   ·exact .kg sz a c bF
   ·exact .kg sz _ c (fun h=>by simp at h)
 | nx h ih =>
  intro v ao
  cases ao with
  | nx h0=>exact ih h0
 | @iR r eF c dL sz h hm =>
  intro v ao
  cases ao with
  | mL h0 =>
   rcases h0.r9 with ⟨-,a,c,rfl,bF⟩|⟨eb,off,c,-,rfl,-⟩
   ·exact .mL (.kg sz a c bF)
   ·exact .mL (.kg sz _ c (fun h=>by simp at h))
  | @nx _ _ _ k n _ h0 =>
   refine .nx ?_
   cases h0 with
   | m8 a l bx n5 a3 =>
    obtain ⟨h1,o⟩:=Cs _ _ _ _ (hm k) n5
    refine .m8 a l bx h1 ?_
    rcases o with e|e<;>rw [e]
    exact a3
   | nr n5 cf =>
    obtain ⟨h1,o⟩:=Cs _ _ _ _ (hm k) n5
    rcases o with e|e
    ·exact .nr h1 (e.trans cf)
    ·exact .m8 _ _ _ h1 e
   | bm n5 cf aT bf mf =>
    obtain ⟨h1,o⟩:=Cs _ _ _ _ (hm k) n5
    rcases o with e|e
    ·exact .bm h1 (e.trans cf) aT bf mf
    ·exact .m8 _ _ _ h1 e
 | @d6 r k I gl i off ap bF ao c4 LG hle aT h ih =>
  intro v bh
  have fv:=eg.obj r k I ap
  rcases bh.xW (iz ap) with h0|⟨b,m,ai,hval⟩
  ·rw [h0] at fv;exact absurd fv c4
  ·rw [ai] at fv
   have im:=fv.rd
   rw [hval]
   have jP:gl.flatten.length=I.es.flatten.length:=by rw [rn gl hle,rn I.es im.1,aT]
   have uZ:ob w kQ mQ mc b 0 I.sz gl:=by
    refine ⟨hle,fun j cK dK=> ?_⟩
    have dE:j<I.es.flatten.length:=by rw [← jP];exact fE dK
    have U:I.es.flatten[j]? = some I.es.flatten[j]:=List.getElem?_eq_getElem dE
    obtain ⟨u,e1,aE,bT⟩:=im.2 j _ U
    exact ⟨u,e1,aE,ih j _ cK U dK bT⟩
   have:=uZ.d6 (i:=i) (off:=off) ⟨Fb r k I b m ap bF ao ai,LG⟩
   rw [Nat.zero_add] at this
   exact this
 | @isl r k bU len I gl ap bF ao ik LG hle aT h ih =>
  intro v bh
  have fv:=eg.obj r k I ap
  rcases bh.AB (iz ap) with ⟨ai,rfl,rfl,hval⟩|⟨b,m,A,c,ai,hval,qY,sx,hm⟩
  ·have:gl=[]:=List.length_eq_zero_iff.1 aT
   subst this
   rw [hval];exact .kg _ none 0 (fun _=>rfl)
  ·rw [ai] at fv
   rw [hval]
   rcases Nat.eq_zero_or_pos len with h0|j6
   ·subst h0
    have:gl=[]:=List.length_eq_zero_iff.1 aT
    subst this
    exact .kg _ A c (fun a3=>by rcases hm with h1|⟨h1,-⟩<;>simp_all)
   ·rcases hm with hm|⟨hA,hm⟩
    ·omega
    ·subst hA
     have im:=Dq fv.rd bU len (by omega)
     rw [Nat.zero_add] at im
     have jP:gl.flatten.length=((I.es.drop bU).take len).flatten.length:=by
      rw [rn gl hle,rn _ im.1,aT,List.length_take,List.length_drop,Nat.min_eq_left (by omega)]
     have uZ:ob w kQ mQ mc b (bU*I.sz) I.sz gl:=by
      refine ⟨hle,fun j cK dK=> ?_⟩
      have dE:j<((I.es.drop bU).take len).flatten.length:=by rw [← jP];exact fE dK
      have U:=List.getElem?_eq_getElem dE
      obtain ⟨u,e1,aE,bT⟩:=im.2 j _ U
      exact ⟨u,e1,aE,ih j _ cK U dK bT⟩
     have:=uZ.isl (c:=c) ⟨Fb r k I b m ap bF ao ai,LG⟩ (by omega)
     rw [aT] at this
     exact this
 | @agg c dL aT h ih =>
  intro v bh
  obtain ⟨vs,rfl,h1,o,ae⟩:=bh.AA
  refine .agg vs (by omega) o fun j cK u dK hu=> ?_
  have dE:j<c.length:=by have:=fE dK;omega
  exact ih j _ cK (List.getElem?_eq_getElem dE) dK (ae j _ u (List.getElem?_eq_getElem dE) hu)
 | @d7 c dL aT h ih =>
  intro v bh
  obtain ⟨vs,rfl,h1,ae⟩:=bh.xV
  refine .d7 vs (by omega) fun j cK u dK hu=> ?_
  have dE:j<c.length:=by have:=fE dK;omega
  exact ih j _ cK (List.getElem?_eq_getElem dE) dK (ae j _ u (List.getElem?_eq_getElem dE) hu)
 | @fn f c dL aT h ih =>
  intro v bh
  obtain ⟨vs,rfl,h1,ae⟩:=bh.D9
  refine .fn vs (by omega) fun j cK u dK hu=> ?_
  have dE:j<c.length:=by have:=fE dK;omega
  exact ih j _ cK (List.getElem?_eq_getElem dE) dK (ae j _ u (List.getElem?_eq_getElem dE) hu)
structure n6 (s:S) (a0:gC) (bW:gf→Bool) (q:aB→Prop) (I b8:ab):Prop where
 sz:b8.sz=I.sz
 cw:b8.cw=I.cw∨(b8.cw = .iY∧I.cw = .live)∨b8.cw = .gone
 len:b8.es.length=I.es.length
 each : ∀e∈b8.es,e.length=I.sz
 at_ : ∀(j:Nat) x cK,I.es.flatten[j]? = some x→b8.es.flatten[j]? = some cK→hG s a0 bW q x cK
structure pE (s:S) (a0:gC) (bW:gf→Bool) (q:aB→Prop) (hJ:Nat→Option (List ab)):Prop where
 inj : ∀j i hP eD p,a0 j i=some p→a0 hP eD=some p→j=hP∧i=eD
 at_ : ∀j i b8,dg (hJ j) i=some b8→ ∃r k I,a0 j i=some (r,k)∧s.ak r k=some I∧n6 s a0 bW q I b8
 a5 : ∀j i r k,a0 j i=some (r,k)→s.a5 r k→i<((hJ j).getD []).length
def jQ (ay:fo)(a0:gC):fo:=fun j i=>match a0 j i with
 | some (r,k)=>ay r k
 | none=>none
theorem x8 {ay:fo}{a0:gC}{j i r k:Nat}(h:a0 j i=some (r,k)):jQ ay a0 j i=ay r k:=by simp [jQ,h]
def lW (_:aB):Prop:=True
theorem acb:Down lW:=⟨fun _ _ _ _=>trivial,fun _ _ _ _=>trivial,fun _ _ _ _ _=>trivial⟩
section
variable {g:G} {s:S} {ay:fo} {w:World} {a0:gC} {bW:gf→Bool} {q:aB→Prop} {bQ:S}
theorem pE.ak (h:pE s a0 bW q bQ.aX){j i:Nat}{b8:ab}(ap:bQ.ak j i=some b8): ∃r k I,a0 j i=some (r,k)∧s.ak r k=some I∧n6 s a0 bW q I b8:=h.at_ j i b8 ap
theorem Qd {I b8:ab}(h:n6 s a0 bW q I b8)(aT:b8.cw = .live):I.cw = .live:=by
 rcases h.cw with e|⟨e,-⟩|e
 ·exact e.symm.trans aT
 ·rw [e] at aT;simp at aT
 ·rw [e] at aT;simp at aT
theorem pE.live (h:pE s a0 bW q bQ.aX)(b:Nat)(aT:bQ.lN (jQ ay a0) b): ∃r k I m,s.ak r k=some I∧I.cw = .live∧ay r k=some (b,m)∧ ∃j i,a0 j i=some (r,k):=by
 obtain ⟨j,i,b8,m,h1,o,ae⟩:=aT
 obtain ⟨r,k,I,e1,aE,bT⟩:=h.ak h1
 rw [x8 e1] at ae
 exact ⟨r,k,I,m,aE,Qd bT o,ae,j,i,e1⟩
theorem pE.EG (h:pE s a0 bW q bQ.aX){j i r k:Nat}(aC:a0 j i=some (r,k)):bQ.bi (jQ ay a0) j i=s.bi ay r k∨bQ.bi (jQ ay a0) j i=none:=by
 cases ap:bQ.ak j i with
 | none=>right;simp [S.bi,ap]
 | some b8 =>
  obtain ⟨eF,dU,I,e1,aE,bT⟩:=h.ak ap
  rw [aC] at e1;simp only [Option.some.injEq,Prod.mk.injEq] at e1
  obtain ⟨rfl,rfl⟩:=e1
  left
  rw [iz ap,iz aE,bT.sz,x8 aC]
theorem h7.Mr (eg:h7 g s ay w)(h:pE s a0 bW q bQ.aX){fX:G}(a6:Be fX w)(AZ:∀j k,fX.oQ j k→bQ.a5 j k∧(bQ.bi (jQ ay a0) j k=fX.qX j k∨bQ.bi (jQ ay a0) j k=none))(Bo:∀j k,fX.oQ j k→j<fX.m)
 (acI : ∀b,fX.pj b→b<fX.my.heap.size) (halt : ∀b,fX.A b→b<fX.my.heap.size)
 (Lg : ∀r k I b m,(∃j i,a0 j i=some (r,k))→s.ak r k=some I→ay r k=some (b,m)→fX.my.heap.size≤b∨fX.pj b)
 (H1 : ∀b,s.ok g ay w b→bQ.ok fX (jQ ay a0) w b)
 (Fb : ∀r k I b m,s.ak r k=some I→bW I.cw=true→(∀j i,a0 j i≠some (r,k))→ay r k=some (b,m)→bQ.ok fX (jQ ay a0) w b) :
 h7 fX bQ (jQ ay a0) w∧ ∀ {x cK:aB} {v:Value},hG s a0 bW q x cK→Rel w (s.ok g ay w) s.a5 (s.bi ay) x v→Rel w (bQ.ok fX (jQ ay a0) w) bQ.a5 (bQ.bi (jQ ay a0)) cK v:=by
 have fv : ∀ {x cK:aB} {v:Value},hG s a0 bW q x cK→Rel w (s.ok g ay w) s.a5 (s.bi ay) x v→Rel w (bQ.ok fX (jQ ay a0) w) bQ.a5 (bQ.bi (jQ ay a0)) cK v :=
  fun bS ao=>bS.rel eg (fun x v _ ai ao=>ao.pure ai H1) Fb (fun j i r k aC hu=>⟨h.a5 j i r k aC hu,h.EG aC⟩) ao
 refine ⟨⟨?_,?_,?_,a6,acI,halt,AZ,Bo⟩,fv⟩
 ·intro j k b8 dW
  obtain ⟨r,dU,I,e1,aE,bT⟩:=h.ak dW
  have bo:=eg.obj r dU I aE
  rw [x8 e1]
  cases ai:ay r dU with
  | none =>
   rw [ai] at bo
   simp only [jo] at bo ⊢
   apply List.length_eq_zero_iff.1
   rw [bT.len,bo];rfl
  | some q =>
   obtain ⟨b,m⟩:=q
   rw [ai] at bo
   obtain ⟨c,eE,h1,o,ae,au⟩:=bo
   have jP:b8.es.flatten.length=I.es.flatten.length:=by rw [rn _ bT.each,rn _ ae,bT.len]
   refine ⟨c,eE,h1,o,by rw [bT.sz];exact bT.each,fun i cK dK=> ?_⟩
   have dE:i<I.es.flatten.length:=by rw [← jP];exact fE dK
   have U:=List.getElem?_eq_getElem dE
   obtain ⟨u,f1,f2,f3⟩:=au i _ U
   exact ⟨u,f1,f2,fv (bT.at_ i _ cK U dK) f3⟩
 ·intro j k I hP dU b8 b m bA h1 o ae au
  obtain ⟨r,lZ,p,e1,aE,-⟩:=h.ak h1
  obtain ⟨eF,adp,kn,mW,pf,-⟩:=h.ak o
  rw [x8 e1] at ae
  rw [x8 mW] at au
  obtain ⟨rfl,rfl⟩:=eg.inj r lZ p eF adp kn b m bA aE pf ae au
  exact h.inj _ _ _ _ _ e1 mW
 ·intro j k I b m h1 o
  obtain ⟨r,lZ,p,e1,aE,-⟩:=h.ak h1
  rw [x8 e1] at o
  exact Lg r lZ p b m ⟨j,k,e1⟩ aE o
theorem cM.Qe {a:Act}(h:cM g s ay a w)(cZ:pE s a0 (fun _=>true) q bQ.aX)(er:∀t,hG s a0 (fun _=>true) q (s.E t) (bQ.E t))(Bp:∀j k,g.oQ j k→a0 j k=some (j,k)):cM g bQ (jQ ay a0) a w:=by
 have hI : ∀b,bQ.lN (jQ ay a0) b→s.lN ay b:=fun b aT=>by
  obtain ⟨r,k,I,m,h1,o,ae,-⟩:=cZ.live b aT
  exact ⟨r,k,I,m,h1,o,ae⟩
 have AZ : ∀j k,g.oQ j k→bQ.a5 j k∧(bQ.bi (jQ ay a0) j k=g.qX j k∨bQ.bi (jQ ay a0) j k=none):=by
  intro j k aC
  obtain ⟨e1,aE⟩:=h.stay j k aC
  refine ⟨cZ.a5 j k j k (Bp j k aC) e1,?_⟩
  rcases cZ.EG (ay:=ay) (Bp j k aC) with e|e
  ·rw [e];exact aE
  ·exact .inr e
 obtain ⟨h1,o⟩:=h.toh7.Mr cZ h.gL AZ h.low h.mlt h.nd (fun r k I b m _ ap ai=>h.own r k I b m ap ai)
  (fun b aR=>⟨aR.1,aR.2.1,fun aT=>aR.2.2 (hI b aT)⟩)
  (fun r k I b m ap _ ao ai=>by
    have bo:=h.obj r k I ap
    rw [ai] at bo
    obtain ⟨c,eE,e1,-⟩:=bo
    refine ⟨(Array.getElem?_eq_some_iff.1 e1).1,?_,fun aT=> ?_⟩
    ·rcases h.own r k I b m ap ai with e|e
     ·exact .inr (.inl e)
     ·exact .inr (.inr e)
    ·obtain ⟨eF,dU,b8,bA,f1,f2,f3,⟨Ms,Ct,f4⟩⟩:=cZ.live b aT
     obtain ⟨rfl,rfl⟩:=h.inj r k I eF dU b8 b m bA ap f1 ai f3
     exact ao Ms Ct f4)
 exact {toh7:=h1,env:=fun t=>o (er t) (h.env t),defers:=h.defers,jO:=h.jO}
end
end Go.VL
namespace Go.VL
set_option linter.unusedVariables false
set_option linter.unusedSimpArgs false
open Go
def e3 (T:List (List ab)):S:={E:=fun _=> .dead,aX:=fun r=>T[r]?}
def acd (P:Program)(f:FuncId)(args:List aB)(T:List (List ab))(r:aB)(iw:List (List ab)):Prop :=
 ∀(g:G) (ay:fo) (w:World) (vs:Array Value),g.my=w→g.m=T.length→g.oQ=(e3 T).a5→g.qX=(e3 T).bi ay→h7 g (e3 T) ay w→vs.size=args.length →
  (∀(j:Nat) x v,args[j]? = some x→vs[j]? = some v→Rel w ((e3 T).ok g ay w) (e3 T).a5 ((e3 T).bi ay) x v) →
  Calls P f vs w fun e bL=> ∃v bK,e = .returned v∧h7 g (e3 iw) bK bL∧Rel bL ((e3 iw).ok g bK bL) (e3 iw).a5 ((e3 iw).bi bK) r v
inductive cc:aB→Prop
 | dead:cc .dead
 | b (x:Bool):cc (.b x)
 | n (k:IntKind) (x:Int):cc (.n k x)
 | s (x:ByteArray):cc (.s x)
 | h6:cc .h6
 | eU:cc .eU
 | iQ:cc .iQ
 | kg (sz:Nat):cc (.isl sz [])
 | ref (r k i off:Nat):cc (.ref r k i off)
 | bm (r k bU len:Nat):cc (.bm r k bU len)
 | iR (r c sz:Nat) (h:Option (Nat×Nat)):cc (.iR r c sz h)
 | agg {c:List aB} (h : ∀x∈c,cc x):cc (.agg c)
 | d7 {c:List aB} (h : ∀x∈c,cc x):cc (.d7 c)
theorem ace:Down cc:=⟨fun _ _ h U=>by cases h with|agg h=>exact h _ U,fun _ _ h U=>by cases h with|d7 h=>exact h _ U,fun _ _ _ h=>by cases h⟩
theorem Rel.fP {w bL:World}{ok kQ:Nat→Prop}{a5 mQ:jf}{bi mc:i4}{x:aB}(bS:cc x): ∀ {v:Value},Pure x→Rel w ok a5 bi x v→Rel bL kQ mQ mc x v:=by
 induction bS with
 | dead=>intro v _ h;exact .dead v
 | b x=>intro v _ h;rw [h.td];exact .b x
 | n k x=>intro v _ h;rw [h.o9];exact .n k x
 | s x=>intro v _ h;rw [h.ye];exact .s x
 | h6=>intro v _ h;rw [h.uB];exact .h6
 | eU=>intro v _ h;rw [h.ps];exact .eU
 | iQ=>intro v _ h;obtain ⟨a,c,rfl⟩:=h.DX;exact .iQ a c
 | kg sz =>
  intro v _ h
  rcases h.r9 with ⟨-,a,c,rfl,bF⟩|⟨eb,off,c,-,rfl,-⟩
  ·exact .kg sz a c bF
  ·exact .kg sz _ c (fun h=>by simp at h)
 | ref=>intro v ai;cases ai
 | bm=>intro v ai;cases ai
 | iR=>intro v ai;cases ai
 | @agg c bf ih =>
  intro v ai h
  obtain ⟨vs,rfl,h1,o,ae⟩:=h.AA
  cases ai with
  | agg ai=>exact .agg vs h1 o fun j x u U hu=>ih x (List.mem_of_getElem? U) (ai x (List.mem_of_getElem? U)) (ae j x u U hu)
 | @d7 c bf ih =>
  intro v ai h
  obtain ⟨vs,rfl,h1,ae⟩:=h.xV
  cases ai with
  | d7 ai=>exact .d7 vs h1 fun j x u U hu=>ih x (List.mem_of_getElem? U) (ai x (List.mem_of_getElem? U)) (ae j x u U hu)
section
variable {P:Program} {g:G} {s:S} {ay:fo} {a:Act} {w:World}
theorem AM (h:h7 g s ay w){r k b m:Nat}{I:ab}(ap:s.ak r k=some I)(ai:ay r k=some (b,m)):b<w.heap.size:=by
 have:=h.obj r k I ap
 rw [ai] at this
 obtain ⟨c,eE,e,-⟩:=this
 exact (Array.getElem?_eq_some_iff.1 e).1
theorem abG (h:h7 g s ay w){r k b m:Nat}{I:ab}(ap:s.ak r k=some I)(a6:I.cw = .iY)(ai:ay r k=some (b,m)):s.ok g ay w b:=by
 refine ⟨AM h ap ai,?_,?_⟩
 ·rcases h.own r k I b m ap ai with e|e
  ·exact .inr (.inl e)
  ·exact .inr (.inr e)
 ·rintro ⟨eF,dU,b8,bA,h1,o,ae⟩
  obtain ⟨rfl,rfl⟩:=h.inj r k I eF dU b8 b m bA ap h1 ai ae
  rw [ap] at h1;simp at h1;subst h1;rw [a6] at o;simp at o
theorem enter (h:h7 g s ay w){a0:gC}{bW:gf→Bool}{q:aB→Prop}{T:List (List ab)}(A:Nat→Prop)
 (hA : ∀b,A b→b<w.heap.size) (LH : ∀b,s.ok g ay w b→A b)
 (LI : ∀r k I b m,s.ak r k=some I→bW I.cw=true→ay r k=some (b,m)→A b)
 (cZ:pE s a0 bW q (e3 T).aX) (pw : ∀r k I,(∃j i,a0 j i=some (r,k))→s.ak r k=some I→I.cw = .live) :
 ∃fX:G,fX.my=w∧fX.A=A∧fX.m=T.length∧fX.oQ=(e3 T).a5∧fX.qX=(e3 T).bi (jQ ay a0) ∧
  (fX.pj=fun b=> ∃r k I m,(∃j i,a0 j i=some (r,k))∧s.ak r k=some I∧ay r k=some (b,m))∧h7 fX (e3 T) (jQ ay a0) w ∧
  ∀ {x cK:aB} {v:Value},hG s a0 bW q x cK→Rel w (s.ok g ay w) s.a5 (s.bi ay) x v→Rel w ((e3 T).ok fX (jQ ay a0) w) (e3 T).a5 ((e3 T).bi (jQ ay a0)) cK v:=by
 let fX:G:={my:=w,A:=A,pj:=fun b=> ∃r k I m,(∃j i,a0 j i=some (r,k))∧s.ak r k=some I∧ay r k=some (b,m),N:=0,m:=T.length,oQ:=(e3 T).a5,qX:=(e3 T).bi (jQ ay a0)}
 refine ⟨fX,rfl,rfl,rfl,rfl,rfl,rfl,?_⟩
 have hI : ∀b,(e3 T).lN (jQ ay a0) b→ ∃r k I m,s.ak r k=some I∧I.cw = .live∧ay r k=some (b,m)∧ ∃j i,a0 j i=some (r,k):=fun b aT=>cZ.live b aT
 refine h7.Mr (bQ:=e3 T) (fX:=fX) h cZ ⟨rfl,rfl,rfl,Nat.le_refl _,fun _ _ _=>rfl⟩ (fun j k aC=>⟨aC,.inl rfl⟩) ?_ ?_ hA ?_ ?_ ?_
 ·intro j k aC
  have aC:k<((T[j]?).getD []).length:=aC
  rcases Nat.lt_or_ge j T.length with h1|h1
  ·exact h1
  ·rw [List.getElem?_eq_none h1] at aC;simp at aC
 ·rintro b ⟨r,k,I,m,-,ap,ai⟩
  exact AM h ap ai
 ·intro r k I b m hm ap ai
  exact .inr ⟨r,k,I,m,hm,ap,ai⟩
 ·intro b aR
  refine ⟨aR.1,.inl (LH b aR),fun aT=> ?_⟩
  obtain ⟨r,k,I,m,h1,o,ae,-⟩:=hI b aT
  exact aR.2.2 ⟨r,k,I,m,h1,o,ae⟩
 ·intro r k I b m ap bF ao ai
  refine ⟨AM h ap ai,.inl (LI r k I b m ap bF ai),fun aT=> ?_⟩
  obtain ⟨eF,dU,b8,bA,h1,o,ae,⟨j,i,aC⟩⟩:=hI b aT
  obtain ⟨rfl,rfl⟩:=h.inj r k I eF dU b8 b m bA ap h1 ai ae
  exact ao j i aC
theorem leave (h:cM g s ay a w){bL:World}{a0 kJ:gC}{bW:gf→Bool}{q0 q:aB→Prop}{fX:G}{T fy:List (List ab)}{kR:fo}
 (dt:fX.my=w) (hA:(∀b,fX.A b→s.ok g ay w b)∨(∀x,q x→cc x)) (u9:fX.oQ=(e3 T).a5) (lg:fX.qX=(e3 T).bi (jQ ay a0))
 (eg:fX.pj=fun b=> ∃r k I m,(∃j i,a0 j i=some (r,k))∧s.ak r k=some I∧ay r k=some (b,m))
 (pw : ∀r k I,(∃j i,a0 j i=some (r,k))→s.ak r k=some I→I.cw = .live)
 (cZ:pE s a0 bW q0 (e3 T).aX) (h1:h7 fX (e3 fy) kR bL)
 (A0 : ∀j i r k,a0 j i=some (r,k)→kJ r k=some (j,i)) (Ep : ∀r k j i,kJ r k=some (j,i)→a0 j i=some (r,k)∨ ¬s.a5 r k)
 (acJ : ∀r k eF dU p,kJ r k=some p→kJ eF dU=some p→r=eF∧k=dU)
 {s2:S} (er:s2.E=s.E)
 (bo : ∀r k I,s2.ak r k=some I→(∃j i p,kJ r k=some (j,i)∧(e3 fy).ak j i=some p∧n6 (e3 fy) kJ (fun _=>false) q p I)∨(kJ r k=none∧s.ak r k=some I))
 (jt : ∀r k,s.a5 r k→s2.a5 r k) (acK : ∀r k j i,kJ r k=some (j,i)→(e3 fy).a5 j i→s2.a5 r k)
 {x cK:aB} {v:Value} (U:hG (e3 fy) kJ (fun _=>false) q x cK) (bh:Rel bL ((e3 fy).ok fX kR bL) (e3 fy).a5 ((e3 fy).bi kR) x v) :
 ∃lo,cM g s2 lo a bL∧Rel bL (s2.ok g lo bL) s2.a5 (s2.bi lo) cK v:=by
 let lo:fo:=fun r k=>match kJ r k with|some (j,i)=>kR j i|none=>ay r k
 have p1 : ∀r k j i,kJ r k=some (j,i)→lo r k=kR j i:=fun r k j i e=>by simp [lo,e]
 have hi : ∀r k,kJ r k=none→lo r k=ay r k:=fun r k e=>by simp [lo,e]
 have a6:=h1.gL
 have eP:w.heap.size≤bL.heap.size:=by have:=a6.size;rw [dt] at this;exact this
 have sr : ∀b,b<w.heap.size→ ¬fX.pj b→bL.heap[b]? = w.heap[b]? := fun b aR k1=>by
  have:=a6.block b (by rw [dt];exact aR) k1
  rw [dt] at this;exact this
 have EH : ∀j k p b m,(e3 fy).ak j k=some p→kR j k=some (b,m)→w.heap.size≤b∨ ∃r dU I bA,(∃j i,a0 j i=some (r,dU))∧s.ak r dU=some I∧ay r dU=some (b,bA):=by
  intro j k p b m ai aR
  rcases h1.own j k p b m ai aR with e|e
  ·rw [dt] at e;exact .inl e
  ·rw [eg] at e;exact .inr e
 have hold : ∀q k I b m,kJ q k=none→s.ak q k=some I→ay q k=some (b,m)→b<w.heap.size∧ ¬fX.pj b:=by
  intro q k I b m a7 ap ai
  refine ⟨AM h.toh7 ap ai,fun k1=> ?_⟩
  rw [eg] at k1
  obtain ⟨r,dU,b8,bA,⟨j,i,ao⟩,dW,nE⟩:=k1
  obtain ⟨rfl,rfl⟩:=h.inj q k I r dU b8 b m bA ap dW ai nE
  rw [A0 _ _ _ _ ao] at a7;simp at a7
 have QF : ∀b,s2.lN lo b→(e3 fy).lN kR b∨(∃q k I m,kJ q k=none∧s.ak q k=some I∧I.cw = .live∧ay q k=some (b,m)):=by
  rintro b ⟨q,k,I,m,ap,nD,ai⟩
  rcases bo q k I ap with ⟨j,i,p,e1,aE,bT⟩|⟨e1,aE⟩
  ·rw [p1 _ _ _ _ e1] at ai
   exact .inl ⟨j,i,p,m,aE,Qd bT nD,ai⟩
  ·rw [hi _ _ e1] at ai
   exact .inr ⟨q,k,I,m,e1,aE,nD,ai⟩
 have mR : ∀b,s.ok g ay w b→s2.ok g lo bL b:=by
  intro b aR
  refine ⟨Nat.lt_of_lt_of_le aR.1 eP,aR.2.1,fun aT=> ?_⟩
  rcases QF b aT with ⟨j,k,p,m,e1,aE,bT⟩|⟨q,k,I,m,e1,aE,bT,de⟩
  ·rcases EH j k p b m e1 bT with e|⟨r,dU,I,bA,ao,ap,ai⟩
   ·have:=aR.1;omega
   ·exact aR.2.2 ⟨r,dU,I,bA,ap,pw r dU I ao ap,ai⟩
  ·exact aR.2.2 ⟨q,k,I,m,aE,bT,de⟩
 have Rt : ∀r k,s.a5 r k→s2.bi lo r k=s.bi ay r k∨s2.bi lo r k=none:=by
  intro r k ao
  cases ap:s2.ak r k with
  | none=>right;simp [S.bi,ap]
  | some I =>
   left
   rcases bo r k I ap with ⟨j,i,p,e1,aE,bT⟩|⟨e1,aE⟩
   ·rcases Ep r k j i e1 with aC|aC
    ·have me:=(h1.stay j i (by rw [u9];exact cZ.a5 _ _ _ _ aC ao)).2
     rw [lg,iz aE] at me
     have me:some (p.sz,kR j i)=(e3 T).bi (jQ ay a0) j i:=by
      rcases me with e|e
      ·exact e
      ·simp at e
     have:=cZ.EG (bQ:=e3 T) (ay:=ay) aC
     rw [← me] at this
     rw [iz ap,bT.sz,p1 _ _ _ _ e1]
     rcases this with e|e
     ·exact e
     ·simp at e
    ·exact absurd ao aC
   ·rw [iz ap,iz aE,hi _ _ e1]
 have acf : ∀b,s.ok g ay w b→bL.heap[b]? = w.heap[b]? := by
  intro b aR
  refine sr b aR.1 fun k1=> ?_
  rw [eg] at k1
  obtain ⟨r,dU,I,bA,ao,ap,ai⟩:=k1
  exact aR.2.2 ⟨r,dU,I,bA,ap,pw r dU I ao ap,ai⟩
 have fv : ∀ {y:aB} {u:Value},Rel w (s.ok g ay w) s.a5 (s.bi ay) y u→Rel bL (s2.ok g lo bL) s2.a5 (s2.bi lo) y u :=
  fun ao=>ao.mono mR acf jt Rt
 have acL:(∀b,fX.A b→s.ok g ay w b)→ ∀b,(e3 fy).ok fX kR bL b→s2.ok g lo bL b:=by
  intro hA b aR
  have Lg:g.A b∨g.my.heap.size≤b∨g.pj b:=by
   rcases aR.2.1 with e|e|e
   ·exact (hA b e).2.1
   ·rw [dt] at e;exact .inr (.inl (Nat.le_trans h.gL.size e))
   ·rw [eg] at e
    obtain ⟨r,k,I,m,-,ap,ai⟩:=e
    rcases h.own r k I b m ap ai with e|e
    ·exact .inr (.inl e)
    ·exact .inr (.inr e)
  refine ⟨aR.1,Lg,fun aT=> ?_⟩
  rcases QF b aT with e|⟨q,k,I,m,e1,aE,bT,de⟩
  ·exact aR.2.2 e
  ·have a7:=hold q k I b m e1 aE de
   rcases aR.2.1 with e|e|e
   ·exact (hA b e).2.2 ⟨q,k,I,m,aE,bT,de⟩
   ·rw [dt] at e;omega
   ·exact a7.2 e
 have Q6 : ∀ {y lY:aB} {u:Value},hG (e3 fy) kJ (fun _=>false) q y lY→Rel bL ((e3 fy).ok fX kR bL) (e3 fy).a5 ((e3 fy).bi kR) y u→Rel bL (s2.ok g lo bL) s2.a5 (s2.bi lo) lY u:=by
  intro y lY u bS ao
  refine bS.rel h1 (fun x v a7 ai ao=> ?_) (fun _ _ _ _ _ _ bF _ _=>by simp at bF) ?_ ao
  ·rcases hA with hA|hA
   ·exact ao.pure ai (acL hA)
   ·exact ao.fP (hA x a7) ai
  ·intro r k j i a7 aC
   refine ⟨acK r k j i a7 aC,?_⟩
   cases ap:s2.ak r k with
   | none=>right;simp [S.bi,ap]
   | some I =>
    left
    rcases bo r k I ap with ⟨hP,eD,p,e1,aE,bT⟩|⟨e1,-⟩
    ·rw [a7] at e1;simp only [Option.some.injEq,Prod.mk.injEq] at e1
     obtain ⟨rfl,rfl⟩:=e1
     rw [iz ap,iz aE,bT.sz,p1 _ _ _ _ a7]
    ·rw [a7] at e1;simp at e1
 refine ⟨lo,{toh7:=⟨?_,?_,?_,?_,h.mlt,h.nd,?_,h.low⟩,env:=fun t=>by rw [er];exact fv (h.env t),defers:=h.defers,jO:=h.jO},Q6 U bh⟩
 ·intro q k I ap
  rcases bo q k I ap with ⟨j,i,p,e1,aE,bT⟩|⟨e1,aE⟩
  ·have ai:=h1.obj j i p aE
   rw [p1 _ _ _ _ e1]
   cases ku:kR j i with
   | none =>
    rw [ku] at ai
    simp only [jo] at ai ⊢
    apply List.length_eq_zero_iff.1
    rw [bT.len,ai];rfl
   | some sK =>
    obtain ⟨b,m⟩:=sK
    rw [ku] at ai
    obtain ⟨c,eE,f1,f2,f3,f4⟩:=ai
    have jP:I.es.flatten.length=p.es.flatten.length:=by rw [rn _ bT.each,rn _ f3,bT.len]
    refine ⟨c,eE,f1,f2,by rw [bT.sz];exact bT.each,fun i cK dK=> ?_⟩
    have dE:i<p.es.flatten.length:=by rw [← jP];exact fE dK
    have kv:=List.getElem?_eq_getElem dE
    obtain ⟨u,lp,nL,gP⟩:=f4 i _ kv
    exact ⟨u,lp,nL,Q6 (bT.at_ i _ cK kv dK) gP⟩
  ·have ai:=h.obj q k I aE
   rw [hi _ _ e1]
   cases ku:ay q k with
   | none=>rw [ku] at ai;exact ai
   | some sK =>
    obtain ⟨b,m⟩:=sK
    rw [ku] at ai
    obtain ⟨c,eE,f1,f2,f3,f4⟩:=ai
    obtain ⟨tt,LJ⟩:=hold q k I b m e1 aE ku
    refine ⟨c,eE,(sr b tt LJ).trans f1,f2,f3,fun i cK dK=> ?_⟩
    obtain ⟨u,lp,nL,gP⟩:=f4 i cK dK
    exact ⟨u,lp,nL,fv gP⟩
 ·intro q k I hF dU b8 b m bA o ae au aA
  rcases bo q k I o with ⟨j,i,p,e1,aE,bT⟩|⟨e1,aE⟩<;>rcases bo hF dU b8 ae with ⟨hP,eD,kn,mW,pf,BK⟩|⟨mW,pf⟩
  ·rw [p1 _ _ _ _ e1] at au;rw [p1 _ _ _ _ mW] at aA
   obtain ⟨rfl,rfl⟩:=h1.inj j i p hP eD kn b m bA aE pf au aA
   exact acJ _ _ _ _ _ e1 mW
  ·rw [p1 _ _ _ _ e1] at au;rw [hi _ _ mW] at aA
   obtain ⟨f1,f2⟩:=hold hF dU b8 b bA mW pf aA
   rcases EH j i p b m aE au with e|e
   ·omega
   ·exact absurd (by rw [eg];exact e) f2
  ·rw [hi _ _ e1] at au;rw [p1 _ _ _ _ mW] at aA
   obtain ⟨f1,f2⟩:=hold q k I b m e1 aE au
   rcases EH hP eD kn b bA pf aA with e|e
   ·omega
   ·exact absurd (by rw [eg];exact e) f2
  ·rw [hi _ _ e1] at au;rw [hi _ _ mW] at aA
   exact h.inj q k I hF dU b8 b m bA aE pf au aA
 ·intro q k I b m o au
  rcases bo q k I o with ⟨j,i,p,e1,aE,bT⟩|⟨e1,aE⟩
  ·rw [p1 _ _ _ _ e1] at au
   rcases EH j i p b m aE au with e|⟨r,dU,b8,bA,ao,ap,ai⟩
   ·exact .inl (Nat.le_trans h.gL.size e)
   ·exact h.own r dU b8 b bA ap ai
  ·rw [hi _ _ e1] at au;exact h.own q k I b m aE au
 ·have e1:=a6.os;have aE:=a6.tape;have bT:=a6.output
  rw [dt] at e1 aE bT
  refine h.gL.step e1 aE bT eP fun b aR nF=>sr b (Nat.lt_of_lt_of_le aR h.gL.size) fun k1=> ?_
  rw [eg] at k1
  obtain ⟨r,k,I,m,-,ap,ai⟩:=k1
  rcases h.own r k I b m ap ai with e|e
  ·omega
  ·exact nF e
 ·intro j k aC
  obtain ⟨e1,aE⟩:=h.stay j k aC
  refine ⟨jt j k e1,?_⟩
  rcases Rt j k e1 with e|e
  ·rw [e];exact aE
  ·exact .inr e
def kF (a b n:Nat):aB→aB
 | .ref r k i off=>if r=a then .ref b (n+k) i off else .ref r k i off
 | .bm r k bU len=>if r=a then .bm b (n+k) bU len else .bm r k bU len
 | .iR r c sz h=>if r=a then .iR b (n+c) sz h else .iR r c sz h
 | .agg c=> .agg (yA c)
 | .d7 c=> .d7 (yA c)
 | x=>x
where yA:List aB→List aB
 | []=>[]
 | x::l=>kF a b n x::yA l
def mg (a b n:Nat)(I:ab):ab:={I with es:=I.es.map fun e=>e.map (kF a b n)}
def qS (I:ab):ab:=⟨0,[],.gone⟩
theorem Ea (a b n:Nat): ∀l:List aB,kF.yA a b n l=l.map (kF a b n)
 | []=>rfl
 | x::l=>by rw [kF.yA,Ea a b n l];rfl
theorem ks (l:List ab)(k:Nat):dg (some l) k=(l[k]?).bind fun I=>if I.cw = .gone then none else some I:=by
 unfold dg
 cases h:l[k]? <;> simp [h]
theorem map_flatten {es:List (List aB)}(f:aB→aB):(es.map fun e=>e.map f).flatten=es.flatten.map f:=by
 induction es with
 | nil=>rfl
 | cons e es ih=>rw [List.map_cons,List.flatten_cons,List.flatten_cons,List.map_append,ih]
theorem cM.merge (h:cM g s ay a w){r eF:Nat}{l gm:List ab}(ao:s.aX r=some l)(hs:s.aX eF=some gm)(c4:eF≠r):
 ∃bK,cM g ((s.setRow eF (gm.map qS)).setRow r (l++gm.map (mg eF r l.length))) bK a w ∧
  ∀x v,Rel w (s.ok g ay w) s.a5 (s.bi ay) x v→Rel w (((s.setRow eF (gm.map qS)).setRow r (l++gm.map (mg eF r l.length))).ok g bK w)
   ((s.setRow eF (gm.map qS)).setRow r (l++gm.map (mg eF r l.length))).a5 (((s.setRow eF (gm.map qS)).setRow r (l++gm.map (mg eF r l.length))).bi bK) (kF eF r l.length x) v:=by
 generalize sA:(s.setRow eF (gm.map qS)).setRow r (l++gm.map (mg eF r l.length))=s2
 let bK:fo:=fun q k=>if q=r∧l.length≤k then ay eF (k-l.length) else ay q k
 have bo : ∀q k I,s2.ak q k=some I→(q=r∧l.length≤k∧ ∃p,s.ak eF (k-l.length)=some p∧I=mg eF r l.length p∧bK q k=ay eF (k-l.length)) ∨
  (q≠eF∧s.ak q k=some I∧bK q k=ay q k∧ ¬(q=r∧l.length≤k)):=by
  intro q k I ap
  subst sA
  rw [lv] at ap
  by_cases e:q=r
  ·subst e
   rw [if_pos rfl] at ap
   by_cases a6:l.length≤k
   ·left
    refine ⟨rfl,a6,?_⟩
    rw [ks,List.getElem?_append_right a6,List.getElem?_map] at ap
    cases ai:gm[k-l.length]? with
    | none=>rw [ai] at ap;simp at ap
    | some p =>
     rw [ai] at ap
     simp only [Option.map_some,Option.bind_some] at ap
     split at ap
     ·simp at ap
     ·rename_i dt
      simp only [Option.some.injEq] at ap
      refine ⟨p,?_,ap.symm,by simp [bK,a6]⟩
      unfold S.ak
      rw [hs,ks,ai,Option.bind_some,if_neg (by simpa [mg] using dt)]
   ·right
    refine ⟨Ne.symm c4,?_,by simp [bK,a6],fun fw=>a6 fw.2⟩
    unfold S.ak
    rw [ao,ks]
    rw [ks,List.getElem?_append_left (by omega)] at ap
    exact ap
  ·rw [if_neg e,lv] at ap
   by_cases aE:q=eF
   ·subst aE
    rw [if_pos rfl,ks,List.getElem?_map] at ap
    cases ai:gm[k]? with
    | none=>rw [ai] at ap;simp at ap
    | some p=>rw [ai] at ap;simp [qS] at ap
   ·rw [if_neg aE] at ap
    exact .inr ⟨aE,ap,by simp [bK,e],fun fw=>e fw.1⟩
 have jt : ∀q k,s.a5 q k→s2.a5 q k:=by
  intro q k a7
  subst sA
  rw [m7]
  by_cases e:q=r
  ·subst e;rw [if_pos rfl];simp [S.a5,ao] at a7;simp;omega
  ·rw [if_neg e,m7]
   by_cases aE:q=eF
   ·subst aE;rw [if_pos rfl];simpa [S.a5,hs] using a7
   ·rw [if_neg aE];exact a7
 have Bq : ∀k,s.a5 eF k→s2.a5 r (l.length+k):=by
  intro k a7
  subst sA
  rw [m7,if_pos rfl]
  simp [S.a5,hs] at a7
  simp;omega
 have Br : ∀k,s2.bi bK r (l.length+k)=s.bi ay eF k:=by
  intro k
  subst sA
  simp only [S.bi]
  rw [lv,if_pos rfl]
  unfold S.ak
  rw [hs,ks,ks,List.getElem?_append_right (by omega),List.getElem?_map,show l.length+k-l.length=k by omega]
  cases ai:gm[k]? with
  | none=>simp
  | some p =>
   simp only [Option.map_some,Option.bind_some]
   by_cases dt:p.cw = .gone
   ·rw [if_pos dt,if_pos (by simpa [mg] using dt)];rfl
   ·rw [if_neg dt,if_neg (by simpa [mg] using dt)]
    simp [bK,mg]
 have lg : ∀q k,s.a5 q k→s2.bi bK q k=s.bi ay q k∨s2.bi bK q k=none:=by
  intro q k a7
  cases ap:s2.ak q k with
  | none=>right;simp [S.bi,ap]
  | some I =>
   left
   rcases bo q k I ap with ⟨rfl,aE,-⟩|⟨-,aE,bT,-⟩
   ·simp [S.a5,ao] at a7;omega
   ·rw [iz ap,iz aE,bT]
 have pw : ∀b,s2.lN bK b→s.lN ay b:=by
  rintro b ⟨q,k,I,m,h1,o,ae⟩
  rcases bo q k I h1 with ⟨-,-,p,e1,aE,bT⟩|⟨-,e1,aE,-⟩
  ·rw [bT] at ae;subst aE;exact ⟨eF,_,p,m,e1,o,ae⟩
  ·rw [aE] at ae;exact ⟨q,k,I,m,e1,o,ae⟩
 have c8:Step g s ay w s2 bK w:=⟨jt,lg,fun b aT=> .inl (pw b aT),fun _ _ _=>rfl,Nat.le_refl _⟩
 have BN : ∀x v,Rel w (s.ok g ay w) s.a5 (s.bi ay) x v→Rel w (s2.ok g bK w) s2.a5 (s2.bi bK) (kF eF r l.length x) v:=by
  intro x v lh
  induction lh with
  | dead v=>exact .dead v
  | b x=>exact .b x
  | n k x=>exact .n k x
  | s x=>exact .s x
  | h6=>exact .h6
  | eU=>exact .eU
  | iQ a c=>exact .iQ a c
  | @pu r1 k i off a hu fw =>
   unfold kF
   split
   ·rename_i e;subst e
    exact .pu a (Bq k hu) (by rw [Br];exact fw)
   ·exact c8.rel (.pu a hu fw)
  | @ref r1 k i off sz eb m hu fw =>
   unfold kF
   split
   ·rename_i e;subst e
    exact .ref (Bq k hu) (by rw [Br];exact fw)
   ·exact c8.rel (.ref hu fw)
  | @m8 r1 k bU len a bx ch hu fw =>
   unfold kF
   split
   ·rename_i e;subst e
    exact .m8 a bx ch (Bq k hu) (by rw [Br];exact fw)
   ·exact c8.rel (.m8 a bx ch hu fw)
  | @nr r1 k sz hu fw =>
   unfold kF
   split
   ·rename_i e;subst e
    exact .nr (Bq k hu) (by rw [Br];exact fw)
   ·exact c8.rel (.nr hu fw)
  | @bm r1 k bU len sz eb m c a hu fw aT bf mf =>
   unfold kF
   split
   ·rename_i e;subst e
    exact .bm (Bq k hu) (by rw [Br];exact fw) aT bf mf
   ·exact c8.rel (.bm hu fw aT bf mf)
  | @mL r1 c sz v h0 ih =>
   unfold kF
   split
   ·exact .mL (c8.rel h0)
   ·exact c8.rel (.mL h0)
  | @nx r1 c sz k n v h0 ih =>
   unfold kF
   split
   ·rename_i e;subst e
    unfold kF at ih
    rw [if_pos rfl] at ih
    exact .nx (by rw [show k+(l.length+c)=l.length+(k+c) by omega];exact ih)
   ·exact c8.rel (.nx h0)
  | kg sz a c h=>exact .kg sz a c h
  | isl cs aR ai aT bf hw iB lh ih=>exact c8.rel (.isl cs aR ai aT bf hw iB lh)
  | d6 cs aR ai aT hw iB lh ih=>exact c8.rel (.d6 cs aR ai aT hw iB lh)
  | pb sz=>exact .pb sz
  | oJ h0 ih=>exact c8.rel (.oJ h0)
  | agg vs aT iB lh ih =>
   unfold kF
   rw [Ea]
   refine .agg vs (by simpa using aT) iB fun j x v U bh=> ?_
   rw [List.getElem?_map,Option.map_eq_some_iff] at U
   obtain ⟨y,aW,rfl⟩:=U
   exact ih j y v aW bh
  | d7 vs aT lh ih =>
   unfold kF
   rw [Ea]
   refine .d7 vs (by simpa using aT) fun j x v U bh=> ?_
   rw [List.getElem?_map,Option.map_eq_some_iff] at U
   obtain ⟨y,aW,rfl⟩:=U
   exact ih j y v aW bh
  | fn vs aT lh ih=>exact c8.rel (.fn vs aT lh)
 refine ⟨bK,{toh7:=⟨?_,?_,?_,h.gL,h.mlt,h.nd,?_,h.low⟩,env:=fun t=>by rw [show s2.E=s.E by rw [← sA];rfl];exact c8.rel (h.env t),defers:=h.defers,jO:=h.jO},BN⟩
 ·intro q k I ap
  rcases bo q k I ap with ⟨-,-,p,e1,aE,bT⟩|⟨-,e1,aE,-⟩
  ·rw [bT]
   subst aE
   have ai:=h.obj eF _ p e1
   cases ku:ay eF (k-l.length) with
   | none=>rw [ku] at ai;simp only [jo] at ai ⊢;simp [mg,ai]
   | some sK =>
    obtain ⟨b,m⟩:=sK
    rw [ku] at ai
    obtain ⟨c,eE,f1,f2,f3,f4⟩:=ai
    refine ⟨c,eE,f1,f2,?_,fun j x U=> ?_⟩
    ·intro e he
     simp only [mg,List.mem_map] at he
     obtain ⟨ep,lS,rfl⟩:=he
     simpa [mg] using f3 ep lS
    ·simp only [mg] at U
     rw [map_flatten,List.getElem?_map,Option.map_eq_some_iff] at U
     obtain ⟨y,aW,rfl⟩:=U
     obtain ⟨u,lp,nL,gP⟩:=f4 j y aW
     exact ⟨u,lp,nL,BN y u gP⟩
  ·rw [aE]
   exact c8.obj (fun b m _=>rfl) (h.obj q k I e1)
 ·intro q k I q1 lZ cb b m bA h1 o ae au
  rcases bo q k I h1 with ⟨rfl,f1,p,e1,aE,bT⟩|⟨f1,e1,aE,f2⟩<;>rcases bo q1 lZ cb o with ⟨rfl,yB,kn,mW,pf,BK⟩|⟨yB,mW,pf,af7⟩
  ·rw [bT] at ae;rw [BK] at au
   obtain ⟨-,e⟩:=h.inj _ _ _ _ _ _ b m bA e1 mW ae au
   exact ⟨rfl,by omega⟩
  ·rw [bT] at ae;rw [pf] at au
   obtain ⟨e,-⟩:=h.inj _ _ _ _ _ _ b m bA e1 mW ae au
   exact absurd e.symm yB
  ·rw [aE] at ae;rw [BK] at au
   obtain ⟨e,-⟩:=h.inj _ _ _ _ _ _ b m bA e1 mW ae au
   exact absurd e f1
  ·rw [aE] at ae;rw [pf] at au
   exact h.inj _ _ _ _ _ _ b m bA e1 mW ae au
 ·intro q k I b m h1 o
  rcases bo q k I h1 with ⟨-,-,p,e1,aE,bT⟩|⟨-,e1,aE,-⟩
  ·rw [bT] at o;exact h.own eF _ p b m e1 o
  ·rw [aE] at o;exact h.own q k I b m e1 o
 ·exact c8.stay h.stay
end
end Go.VL
namespace Go.VL
set_option linter.unusedVariables false
set_option linter.unusedSimpArgs false
open Go
def aB.iM:aB→Bool
 | .dead | .b _ | .n .. | .s _ | .h6 | .eU | .iQ | .isl .. | .d6 .. | .j7 .. => true
 | _=>false
def aB.AN:aB→Bool
 | .agg c=>c.all aB.iM
 | .fn _ c=>c.all aB.iM
 | x=>x.iM
def aB.Q7:aB→Bool
 | .d7 c=>c.all aB.AN
 | x=>x.AN
section
variable {w:World} {ok:Nat→Prop} {a5:jf} {bi:i4}
theorem Rel.yf {x:aB}{v:Value}(h:Rel w ok a5 bi x v)(a3:x.iM=true):Pure x:=by
 cases h with
 | dead=>exact .dead
 | b=>exact .b _
 | n=>exact .n _ _
 | s=>exact .s _
 | h6=>exact .h6
 | eU=>exact .eU
 | iQ=>exact .iQ
 | kg=>exact .isl (by simp)
 | isl cs aR ai=>exact .isl ai
 | d6 cs aR ai=>exact .d6 ai
 | pb sz=>exact .pb sz
 | oJ h=>cases h with|d6 cs aR ai=>exact .oJ fun x U=>ai _ (List.mem_singleton.2 rfl) x U
 | _=>simp [aB.iM] at a3
theorem ON {c:List aB}{vs:List Value}(aT:vs.length=c.length)(ao:∀(j:Nat) x u,c[j]? = some x→vs[j]? = some u→Rel w ok a5 bi x u)
 (a3:c.all aB.iM=true) : ∀x∈c,Pure x:=by
 intro x U
 obtain ⟨j,aC⟩:=List.getElem?_of_mem U
 have dE:j<vs.length:=by have:=fE aC;omega
 exact (ao j x _ aC (List.getElem?_eq_getElem dE)).yf (List.all_eq_true.1 a3 x U)
theorem Rel.Ej {x:aB}{v:Value}(h:Rel w ok a5 bi x v)(a3:x.AN=true):Pure x:=by
 cases h with
 | agg vs aT bf ao=>exact .agg (ON aT ao a3)
 | fn vs aT ao=>exact .fn (ON aT ao a3)
 | dead=>exact .dead
 | b=>exact .b _
 | n=>exact .n _ _
 | s=>exact .s _
 | h6=>exact .h6
 | eU=>exact .eU
 | iQ=>exact .iQ
 | kg=>exact .isl (by simp)
 | isl cs aR ai=>exact .isl ai
 | d6 cs aR ai=>exact .d6 ai
 | pb sz=>exact .pb sz
 | oJ h=>cases h with|d6 cs aR ai=>exact .oJ fun x U=>ai _ (List.mem_singleton.2 rfl) x U
 | _=>simp [aB.AN,aB.iM] at a3
theorem Rel.acg {x:aB}{v:Value}(h:Rel w ok a5 bi x v)(a3:x.Q7=true):Pure x:=by
 by_cases cf : ∃c,x = .d7 c
 ·obtain ⟨c,rfl⟩:=cf
  obtain ⟨vs,rfl,aT,ao⟩:=h.xV
  refine .d7 fun x U=> ?_
  obtain ⟨j,aC⟩:=List.getElem?_of_mem U
  have dE:j<vs.length:=by have:=fE aC;omega
  exact (ao j x _ aC (List.getElem?_eq_getElem dE)).Ej (List.all_eq_true.1 a3 x U)
 ·refine h.Ej ?_
  cases x<;>first|exact a3|exact absurd ⟨_,rfl⟩ cf
end
def bP:List Nat→Nat→Option Nat
 | [],_=>none
 | x::l,r=>if x=r then some 0 else (bP l r).map (· + 1)
theorem OO : ∀ {l:List Nat} {r j:Nat},bP l r=some j→l[j]? = some r
 | x::l,r,j,h=>by
  unfold bP at h
  split at h
  ·simp at h;subst h;simp [*]
  ·rw [Option.map_eq_some_iff] at h
   obtain ⟨i,ah,rfl⟩:=h
   simpa using OO ah
theorem OP : ∀ {l:List Nat} {r j:Nat},l.Nodup→l[j]? = some r→bP l r=some j
 | x::l,r,j,a3,h=>by
  rw [List.nodup_cons] at a3
  unfold bP
  cases j with
  | zero=>simp at h;simp [h]
  | succ j =>
   simp at h
   have:x≠r:=by rintro rfl;exact a3.1 (List.mem_of_getElem? h)
   rw [if_neg this,OP a3.2 h];rfl
def BO (dD:Nat)(iA:List ab)(bW:gf→Bool)(x cK:aB):Prop :=
 (cK=x∧x.iM=true)∨(∃c sz,x = .iR dD c sz none∧cK = .isl sz [])∨ ∃k bU len I,(x = .bm dD k bU len∨ ∃c sz jg,k=jg+c∧bU=0∧x = .iR dD c sz (some (jg,len)))∧dg (some iA) k=some I∧bW I.cw=true∧bU+len≤I.es.length ∧
   jM ((I.es.drop bU).take len)∧cK = .isl I.sz ((I.es.drop bU).take len)
def Cu (dD:Nat)(iA:List ab)(bW:gf→Bool)(sz:Nat)(es gl:List (List aB)):Prop :=
 gl.length=es.length∧(∀e∈gl,e.length=sz)∧ ∀(j:Nat) x cK,es.flatten[j]? = some x→gl.flatten[j]? = some cK→BO dD iA bW x cK
def ly (aX:Nat→Option (List ab))(ca:Nat→Option Nat)(a0:gC)(bW:gf→Bool):sI→aB→Option (aB×List Prop)
 | .id,x=>if x.iM then some (x,[]) else
  match x with
  | .ref r k i off=>match ca r with
   | some j=>some (.ref j k i off,[])
   | none=>none
  | .bm r k bU len=>match ca r with
   | some j=>some (.bm j k bU len,[])
   | none=>none
  | .iR r c sz h=>match ca r with
   | some j=>some (.iR j c sz h,[])
   | none=>none
  | _=>none
 | .j2 sz,.eU=>some (.isl sz [],[])
 | .j2 sz,.iQ=>some (.isl sz [],[])
 | .e7 gl,.bm r k bU len=>match dg (aX r) k with
  | some I=>if bW I.cw && (ca r).isNone then some (.isl I.sz gl,[gl=(I.es.drop bU).take len,bU+len≤I.es.length,jM gl]) else none
  | none=>none
 | .jS,_=>some (.dead,[])
 | .cO y,x=>if x.iM then some (y,[x=y]) else none
 | .len n,.bm r k bU len=>match ca r with
  | some j=>some (.bm j k bU n,[len=n])
  | none=>none
 | .Mo sz,x=>match x with
  | .h6=>some (.j7 sz none,[])
  | .d6 EC [c] 0 0=>if EC=sz then some (.j7 sz (some c),[]) else none
  | _=>none
 | .at_ j i n,.bm r k bU len=>some (.bm j i bU n,[a0 j i=some (r,k),len=n])
 | .at_ j i _,.ref r k x y=>some (.ref j i x y,[a0 j i=some (r,k)])
 | .view dD I gl,.bm r k bU len=>match aX r,aX dD with
  | some row,some iA=>if (ca r).isNone && (ca dD).isNone then
   some (.isl I.sz gl,[dg (some row) k=some I,bW I.cw=true,bU+len≤I.es.length,jM gl,Cu dD iA bW I.sz ((I.es.drop bU).take len) gl]) else none
  | _,_=>none
 | _,_=>none
def lz {α β:Type}(f:α→β→Option (β×List Prop)):List α→List β→Option (List β×List Prop)
 | [],[]=>some ([],[])
 | a::l,b::m=>match f a b,lz f l m with
  | some (ko,cb),some (bA,aQ)=>some (ko::bA,cb++aQ)
  | _,_=>none
 | _,_=>none
def nV (aX:Nat→Option (List ab))(ca:Nat→Option Nat)(a0:gC)(bW:gf→Bool):yZ→aB→Option (aB×List Prop)
 | .dM c,x=>if x.AN then (match c with | .id=>some (x,[]) | .jS=>some (.dead,[]) | .cO y=>some (y,[x=y])|c=>ly aX ca a0 bW c x) else ly aX ca a0 bW c x
 | .agg l,.agg c=>match lz (ly aX ca a0 bW) l c with
  | some (dL,ak)=>some (.agg dL,ak)
  | none=>none
 | .ptr l,.ref r k i off=>match dg (aX r) k with
  | some I=>match I.es with
   | [c]=>if bW I.cw && (ca r).isNone then
    match lz (ly aX ca a0 bW) l c with
    | some (dL,ak)=>some (.d6 I.sz [dL] i off,ak++[jM [dL]])
    | none=>none
    else none
   | _=>none
  | none=>none
 | .Lb l,x=>match x with
  | .ref r k 0 0=>match dg (aX r) k with
   | some I=>match I.es with
    | [c]=>if bW I.cw && (ca r).isNone then
     match lz (ly aX ca a0 bW) l c with
     | some (dL,ak)=>some (.j7 I.sz (some dL),ak++[jM [dL]])
     | none=>none
     else none
    | _=>none
   | none=>none
  | _=>none
 | _,_=>none
def nt (aX:Nat→Option (List ab))(ca:Nat→Option Nat)(a0:gC)(bW:gf→Bool):lm→aB→Option (aB×List Prop)
 | .bx c,x=>if x.Q7 then (match c with | .dM .id=>some (x,[])|c=>nV aX ca a0 bW c x) else nV aX ca a0 bW c x
 | .comp l,.d7 c=>match lz (nV aX ca a0 bW) l c with
  | some (dL,ak)=>some (.d7 dL,ak)
  | none=>none
 | .comp l,.fn f c=>match lz (nV aX ca a0 bW) l c with
  | some (dL,ak)=>some (.fn f dL,ak)
  | none=>none
 | _,_=>none
def s4 (row:List ab):Prop:= ∀I∈row,jM I.es∧I.cw = .live
def lA (row:List ab):Prop:= ∀I∈row,I.cw = .live∨I.cw = .gone
def nG (ca:Nat→Option Nat):aB→aB
 | .ref r k i off=>match ca r with|some j=> .ref j k i off|none=> .dead
 | .bm r k bU len=>match ca r with|some j=> .bm j k bU len|none=> .dead
 | .iR r c sz h=>match ca r with|some j=> .iR j c sz h|none=> .dead
 | x=>if x.iM then x else .dead
def gG (ca:Nat→Option Nat)(I:ab):ab:={I with es:=I.es.map fun e=>e.map (nG ca)}
def i9 (aX:Nat→Option (List ab))(ca:Nat→Option Nat)(a0:gC)(bW:gf→Bool):iD→List ab→Option (List ab×List Prop)
 | .pure,row=>some (row,[s4 row])
 | .cO d5,row=>some (d5,[row=d5,s4 d5])
 | .bG d5,row=>some (d5,[d5=row.map (gG ca),lA row])
 | .box l,[I]=>match I.es with
  | [c]=>if I.cw = .live then match lz (ly aX ca a0 bW) l c with
   | some (dL,ak)=>some ([{I with es:=[dL]}],ak)
   | none=>none
   else none
  | _=>none
 | _,_=>none
structure sL (q:aB→Prop) (bW:gf→Bool):Prop extends Down q where
 all : ∀k,bW k=true→ ∀x,q x
theorem tv (bW:gf→Bool):sL lW bW:={toDown:=acb,all:=fun _ _ _=>trivial}
theorem adq:sL cc (fun _=>false):={toDown:=ace,all:=fun _ h=>by simp at h}
structure mA (s:S) (a0:gC) (ca:Nat→Option Nat) (bW:gf→Bool):Prop where
 ah : ∀r j,ca r=some j→ ∀k,a0 j k=some (r,k)
 a3 : ∀r,ca r=none→ ∀k I,s.ak r k=some I→bW I.cw=true→ ∀j i,a0 j i≠some (r,k)
section
variable {g:G} {s:S} {ay:fo} {w:World} {a0:gC} {ca:Nat→Option Nat} {bW:gf→Bool} {q:aB→Prop}
theorem DN {α β:Type}(f:α→β→Option (β×List Prop)): ∀(l:List α) (m bA:List β) (ak:List Prop),lz f l m=some (bA,ak) →
 bA.length=m.length∧l.length=m.length∧ ∀(j:Nat) b ko,m[j]? = some b→bA[j]? = some ko→ ∃x b8,l[j]? = some x∧f x b=some (ko,b8)∧ ∀p∈b8,p∈ak
 | [],[],bA,ak,h=>by
  simp [lz] at h;obtain ⟨rfl,rfl⟩:=h
  exact ⟨rfl,rfl,fun j b ko aR=>by simp at aR⟩
 | [],_::_,_,_,h=>by simp [lz] at h
 | _::_,[],_,_,h=>by simp [lz] at h
 | x::l,b::m,bA,ak,h=>by
  simp only [lz] at h
  split at h
  ·rename_i ko cb hh aQ h1 o
   simp only [Option.some.injEq,Prod.mk.injEq] at h
   obtain ⟨rfl,rfl⟩:=h
   obtain ⟨e1,aE,bT⟩:=DN f l m hh aQ o
   refine ⟨by simp [e1],by simp [aE],fun j c dL bf sw=> ?_⟩
   cases j with
   | zero =>
    simp at bf sw;subst bf;subst sw
    exact ⟨x,cb,rfl,h1,fun p ai=>by simp [ai]⟩
   | succ j =>
    simp at bf sw
    obtain ⟨y,b8,f1,f2,f3⟩:=bT j c dL bf sw
    exact ⟨y,b8,by simpa using f1,f2,fun p ai=>by simp [f3 p ai]⟩
  ·simp at h
theorem Ke (eg:h7 g s ay w)(H:mA s a0 ca bW)(bE:sL q bW){c:sI}{x cK:aB}{ak:List Prop}(h:ly s.aX ca a0 bW c x=some (cK,ak))(bo:∀p∈ak,p)
 (a7:q x) {v:Value} (ao:Rel w (s.ok g ay w) s.a5 (s.bi ay) x v):hG s a0 bW q x cK:=by
 have jt : ∀ {r k bU len:Nat},x = .bm r k bU len→s.a5 r k:=by
  intro r k bU len e;subst e;cases ao<;>assumption
 cases c with
 | id =>
  simp only [ly] at h
  split at h
  ·rename_i a3
   simp only [Option.some.injEq,Prod.mk.injEq] at h
   obtain ⟨rfl,rfl⟩:=h
   exact .pure (ao.yf a3) a7
  ·split at h
   ·rename_i r k i off _
    split at h
    ·rename_i j aC
     simp only [Option.some.injEq,Prod.mk.injEq] at h
     obtain ⟨rfl,rfl⟩:=h
     exact .ref i off (H.ah r j aC k) (by cases ao<;>assumption)
    ·simp at h
   ·rename_i r k bU len _
    split at h
    ·rename_i j aC
     simp only [Option.some.injEq,Prod.mk.injEq] at h
     obtain ⟨rfl,rfl⟩:=h
     exact .bm bU len (H.ah r j aC k) (jt rfl)
    ·simp at h
   ·rename_i r c sz fw _
    split at h
    ·rename_i j aC
     simp only [Option.some.injEq,Prod.mk.injEq] at h
     obtain ⟨rfl,rfl⟩:=h
     exact .iR fw (fun k=>H.ah r j aC _)
    ·simp at h
   ·simp at h
 | j2 sz =>
  cases x<;>simp [ly] at h
  ·obtain ⟨rfl,rfl⟩:=h
   exact .eU sz
  ·obtain ⟨rfl,rfl⟩:=h
   exact .iQ sz
 | e7 gl =>
  cases x<;>simp only [ly,reduceCtorEq] at h
  rename_i r k bU len
  split at h
  ·rename_i I ap
   split at h
   ·rename_i bf
    simp only [Bool.and_eq_true,Option.isNone_iff_eq_none] at bf
    simp only [Option.some.injEq,Prod.mk.injEq] at h
    obtain ⟨rfl,rfl⟩:=h
    have h1:gl=(I.es.drop bU).take len:=bo _ (by simp)
    have o:bU+len≤I.es.length:=bo _ (by simp)
    have ae:jM gl:=bo _ (by simp)
    have dW:s.ak r k=some I:=ap
    have hlen : ∀e∈I.es,e.length=I.sz:=by
     have fA:=eg.obj r k I dW
     cases ai:ay r k with
     | none=>rw [ai] at fA;simp only [jo] at fA;rw [fA];simp
     | some q=>rw [ai] at fA;obtain ⟨_,_,_,_,e,_⟩:=fA;exact e
    refine .isl dW bf.1 (H.a3 r bf.2 k I dW bf.1) o ae ?_ ?_ ?_
    ·rw [h1];exact fun e he=>hlen e (List.mem_of_mem_drop (List.mem_of_mem_take he))
    ·rw [h1];simp;omega
    ·intro j y lY aW nH
     rw [h1] at nH
     rw [aW] at nH;simp at nH;subst nH
     rw [h1] at ae
     obtain ⟨e,he,BP⟩:=rX aW
     exact .pure (ae e he y BP) (bE.all _ bf.1 y)
   ·simp at h
  ·simp at h
 | jS =>
  simp only [ly,Option.some.injEq,Prod.mk.injEq] at h
  obtain ⟨rfl,rfl⟩:=h
  exact .dead x
 | cO y =>
  simp only [ly] at h
  split at h
  ·rename_i a3
   simp only [Option.some.injEq,Prod.mk.injEq] at h
   obtain ⟨rfl,rfl⟩:=h
   have e:x=y:=bo _ (by simp)
   subst e
   exact .pure (ao.yf a3) a7
  ·simp at h
 | len n =>
  cases x<;>simp only [ly,reduceCtorEq] at h
  rename_i r k bU len
  split at h
  ·rename_i j aC
   simp only [Option.some.injEq,Prod.mk.injEq] at h
   obtain ⟨rfl,rfl⟩:=h
   have e:len=n:=bo _ (by simp)
   subst e
   exact .bm bU len (H.ah r j aC k) (jt rfl)
  ·simp at h
 | at_ j i n =>
  cases x<;>simp only [ly,reduceCtorEq] at h
  ·rename_i r k x y
   simp only [Option.some.injEq,Prod.mk.injEq] at h
   obtain ⟨rfl,rfl⟩:=h
   exact .ref x y (bo _ (List.mem_cons_self)) (by cases ao<;>assumption)
  ·rename_i r k bU len
   simp only [Option.some.injEq,Prod.mk.injEq] at h
   obtain ⟨rfl,rfl⟩:=h
   have e:len=n:=bo _ (by simp)
   subst e
   exact .bm bU len (bo _ (List.mem_cons_self)) (jt rfl)
 | view dD I gl =>
  cases x<;>simp only [ly,reduceCtorEq] at h
  rename_i r k bU len
  split at h
  ·rename_i row iA dC ach
   split at h
   ·rename_i bf
    simp only [Bool.and_eq_true,Option.isNone_iff_eq_none] at bf
    simp only [Option.some.injEq,Prod.mk.injEq] at h
    obtain ⟨rfl,rfl⟩:=h
    have h1:dg (some row) k=some I:=bo _ (by simp)
    have o:bW I.cw=true:=bo _ (by simp)
    have ae:bU+len≤I.es.length:=bo _ (by simp)
    have au:jM gl:=bo _ (by simp)
    have aA:Cu dD iA bW I.sz ((I.es.drop bU).take len) gl:=bo _ (by simp)
    have dW:s.ak r k=some I:=by unfold S.ak;rw [dC];exact h1
    obtain ⟨d1,d2,Mt⟩:=aA
    refine .isl dW o (H.a3 r bf.1 k I dW o) ae au d2 (by rw [d1];simp;omega) fun j y lY aW nH=> ?_
    rcases Mt j y lY aW nH with ⟨rfl,a3⟩|⟨ch,RV,rfl,rfl⟩|⟨kI,EI,Er,p,BQ,e1,aE,bT,de,rfl⟩
    ·obtain ⟨e,he,BP⟩:=rX nH
     exact .pure (au e he lY BP) (bE.all _ o _)
    ·exact .mL _ _ _
    ·have nE:s.ak dD kI=some p:=by unfold S.ak;rw [ach];exact e1
     have hlen : ∀e∈p.es,e.length=p.sz:=by
      have fA:=eg.obj dD kI p nE
      cases ai:ay dD kI with
      | none=>rw [ai] at fA;simp only [jo] at fA;rw [fA];simp
      | some q=>rw [ai] at fA;obtain ⟨_,_,_,_,e,_⟩:=fA;exact e
     have Q8:hG s a0 bW q (.bm dD kI EI Er) (.isl p.sz ((p.es.drop EI).take Er)):=by
      refine .isl nE aE (H.a3 dD bf.2 kI p nE aE) bT de (fun e he=>hlen e (List.mem_of_mem_drop (List.mem_of_mem_take he))) (by simp;omega) fun j z agO cC va=> ?_
      rw [cC] at va;simp at va;subst va
      obtain ⟨e,he,adr⟩:=rX cC
      exact .pure (de e he z adr) (bE.all _ aE _)
     rcases BQ with rfl|⟨dM,af8,jg,rfl,rfl,rfl⟩
     ·exact Q8
     ·exact .nx Q8
   ·simp at h
  ·simp at h
 | Mo sz =>
  simp only [ly] at h
  split at h
  ·simp only [Option.some.injEq,Prod.mk.injEq] at h
   obtain ⟨rfl,rfl⟩:=h
   exact .Ei _
  ·split at h
   ·rename_i e;subst e
    simp only [Option.some.injEq,Prod.mk.injEq] at h
    obtain ⟨rfl,rfl⟩:=h
    exact .j7 (.pure (ao.yf rfl) a7)
   ·simp at h
  ·simp at h
theorem Ap (eg:h7 g s ay w)(H:mA s a0 ca bW)(bE:sL q bW){l:List sI}{c dL:List aB}{ak:List Prop}(h:lz (ly s.aX ca a0 bW) l c=some (dL,ak))(bo:∀p∈ak,p)
 (a7 : ∀x∈c,q x) {vs:List Value} (aT:vs.length=c.length) (ao : ∀(j:Nat) x u,c[j]? = some x→vs[j]? = some u→Rel w (s.ok g ay w) s.a5 (s.bi ay) x u) :
 dL.length=c.length∧ ∀(j:Nat) x cK,c[j]? = some x→dL[j]? = some cK→hG s a0 bW q x cK:=by
 obtain ⟨e1,aE,bT⟩:=DN _ l c dL ak h
 refine ⟨e1,fun j x cK U dK=> ?_⟩
 obtain ⟨y,b8,f1,f2,f3⟩:=bT j x cK U dK
 have dE:j<vs.length:=by have:=fE U;omega
 exact Ke eg H bE f2 (fun p ai=>bo p (f3 p ai)) (a7 x (List.mem_of_getElem? U)) (ao j x _ U (List.getElem?_eq_getElem dE))
theorem Kf (eg:h7 g s ay w)(H:mA s a0 ca bW)(bE:sL q bW){c:yZ}{x cK:aB}{ak:List Prop}(h:nV s.aX ca a0 bW c x=some (cK,ak))(bo:∀p∈ak,p)
 (a7:q x) {v:Value} (ao:Rel w (s.ok g ay w) s.a5 (s.bi ay) x v):hG s a0 bW q x cK:=by
 cases c with
 | dM c =>
  simp only [nV] at h
  split at h
  ·rename_i a3
   split at h
   ·simp only [Option.some.injEq,Prod.mk.injEq] at h
    obtain ⟨rfl,rfl⟩:=h
    exact .pure (ao.Ej a3) a7
   ·simp only [Option.some.injEq,Prod.mk.injEq] at h
    obtain ⟨rfl,rfl⟩:=h
    exact .dead _
   ·simp only [Option.some.injEq,Prod.mk.injEq] at h
    obtain ⟨rfl,rfl⟩:=h
    have e:=bo _ (List.mem_singleton.2 rfl)
    subst e
    exact .pure (ao.Ej a3) a7
   ·exact Ke eg H bE h bo a7 ao
  ·exact Ke eg H bE h bo a7 ao
 | agg l =>
  cases x<;>simp only [nV,reduceCtorEq] at h
  rename_i c
  split at h
  ·rename_i dL nk bf
   simp only [Option.some.injEq,Prod.mk.injEq] at h
   obtain ⟨rfl,rfl⟩:=h
   obtain ⟨vs,rfl,aT,-,BR⟩:=ao.AA
   obtain ⟨e1,aE⟩:=Ap eg H bE bf bo (fun y aW=>bE.agg _ _ a7 aW) aT BR
   exact .agg e1 aE
  ·simp at h
 | ptr l =>
  cases x<;>simp only [nV,reduceCtorEq] at h
  rename_i r k i off
  split at h
  ·rename_i I ap
   split at h
   ·rename_i c hr
    split at h
    ·rename_i bf
     simp only [Bool.and_eq_true,Option.isNone_iff_eq_none] at bf
     split at h
     ·rename_i dL nk iB
      simp only [Option.some.injEq,Prod.mk.injEq] at h
      obtain ⟨rfl,rfl⟩:=h
      have dW:s.ak r k=some I:=ap
      have fA:=eg.obj r k I dW
      cases ai:ay r k with
      | none=>rw [ai] at fA;simp only [jo] at fA;rw [hr] at fA;simp at fA
      | some q =>
       obtain ⟨b,m⟩:=q
       rw [ai] at fA
       obtain ⟨cr,eE,g1,g2,g3,g4⟩:=fA
       have Lh:c.length=I.sz:=g3 c (by rw [hr];simp)
       have jP:I.es.flatten=c:=by rw [hr];simp
       have hcs : ∀j:Nat,j<c.length→ ∃u,cr[j]? = some u∧Rel w (s.ok g ay w) s.a5 (s.bi ay) c[j]! u:=by
        intro j aC
        obtain ⟨u,lp,-,gP⟩:=g4 j c[j] (by rw [jP];exact List.getElem?_eq_getElem aC)
        exact ⟨u,lp,by rw [getElem!_pos c j aC];exact gP⟩
       obtain ⟨e1,aE⟩:=Ap (vs:=(List.range c.length).map fun j=>(cr[j]?).getD undef) eg H bE iB (fun p ai=>bo p (by simp [ai])) (fun y _=>bE.all _ bf.1 y) (by simp) (by
        intro j y u aW hu
        have aC:=fE aW
        rw [List.getElem?_map,List.getElem?_range aC] at hu
        simp only [Option.map_some,Option.some.injEq] at hu
        obtain ⟨pO,lp,gP⟩:=hcs j aC
        rw [lp] at hu;simp at hu;subst hu
        rw [List.getElem?_eq_getElem aC] at aW;simp at aW;subst aW
        rw [getElem!_pos c j aC] at gP;exact gP)
       have sj:jM [dL]:=bo _ (by simp)
       refine .d6 i off dW bf.1 (H.a3 r bf.2 k I dW bf.1) (by rw [hr];simp) sj (by simp;omega) (by rw [hr];rfl) ?_
       ·intro j y lY aW nH
        rw [jP] at aW
        simp only [List.flatten_cons,List.flatten_nil,List.append_nil] at nH
        exact aE j y lY aW nH
     ·simp at h
    ·simp at h
   ·simp at h
  ·simp at h
 | Lb l =>
  simp only [nV] at h
  split at h
  ·rename_i r k
   split at h
   ·rename_i I ap
    split at h
    ·rename_i c hr
     split at h
     ·rename_i bf
      simp only [Bool.and_eq_true,Option.isNone_iff_eq_none] at bf
      split at h
      ·rename_i dL nk iB
       simp only [Option.some.injEq,Prod.mk.injEq] at h
       obtain ⟨rfl,rfl⟩:=h
       have dW:s.ak r k=some I:=ap
       have fA:=eg.obj r k I dW
       cases ai:ay r k with
       | none=>rw [ai] at fA;simp only [jo] at fA;rw [hr] at fA;simp at fA
       | some q =>
        obtain ⟨b,m⟩:=q
        rw [ai] at fA
        obtain ⟨cr,eE,g1,g2,g3,g4⟩:=fA
        have Lh:c.length=I.sz:=g3 c (by rw [hr];simp)
        have jP:I.es.flatten=c:=by rw [hr];simp
        have hcs : ∀j:Nat,j<c.length→ ∃u,cr[j]? = some u∧Rel w (s.ok g ay w) s.a5 (s.bi ay) c[j]! u:=by
         intro j aC
         obtain ⟨u,lp,-,gP⟩:=g4 j c[j] (by rw [jP];exact List.getElem?_eq_getElem aC)
         exact ⟨u,lp,by rw [getElem!_pos c j aC];exact gP⟩
        obtain ⟨e1,aE⟩:=Ap (vs:=(List.range c.length).map fun j=>(cr[j]?).getD undef) eg H bE iB (fun p ai=>bo p (by simp [ai])) (fun y _=>bE.all _ bf.1 y) (by simp) (by
         intro j y u aW hu
         have aC:=fE aW
         rw [List.getElem?_map,List.getElem?_range aC] at hu
         simp only [Option.map_some,Option.some.injEq] at hu
         obtain ⟨pO,lp,gP⟩:=hcs j aC
         rw [lp] at hu;simp at hu;subst hu
         rw [List.getElem?_eq_getElem aC] at aW;simp at aW;subst aW
         rw [getElem!_pos c j aC] at gP;exact gP)
        have sj:jM [dL]:=bo _ (by simp)
        refine .j7 (.d6 0 0 dW bf.1 (H.a3 r bf.2 k I dW bf.1) (by rw [hr];simp) sj (by simp;omega) (by rw [hr];rfl) ?_)
        ·intro j y lY aW nH
         rw [jP] at aW
         simp only [List.flatten_cons,List.flatten_nil,List.append_nil] at nH
         exact aE j y lY aW nH
      ·simp at h
     ·simp at h
    ·simp at h
   ·simp at h
  ·simp at h
theorem Au (eg:h7 g s ay w)(H:mA s a0 ca bW)(bE:sL q bW){c:lm}{x cK:aB}{ak:List Prop}(h:nt s.aX ca a0 bW c x=some (cK,ak))(bo:∀p∈ak,p)
 (a7:q x) {v:Value} (ao:Rel w (s.ok g ay w) s.a5 (s.bi ay) x v):hG s a0 bW q x cK:=by
 have key : ∀(l:List yZ) (c dL:List aB) (nk:List Prop) (vs:List Value),lz (nV s.aX ca a0 bW) l c=some (dL,nk)→(∀p∈nk,p)→(∀x∈c,q x)→vs.length=c.length →
  (∀(j:Nat) x u,c[j]? = some x→vs[j]? = some u→Rel w (s.ok g ay w) s.a5 (s.bi ay) x u)→dL.length=c.length∧ ∀(j:Nat) x cK,c[j]? = some x→dL[j]? = some cK→hG s a0 bW q x cK:=by
  intro l c dL nk vs h bo a7 aT ao
  obtain ⟨e1,aE,bT⟩:=DN _ l c dL nk h
  refine ⟨e1,fun j x cK U dK=> ?_⟩
  obtain ⟨y,b8,f1,f2,f3⟩:=bT j x cK U dK
  have dE:j<vs.length:=by have:=fE U;omega
  exact Kf eg H bE f2 (fun p ai=>bo p (f3 p ai)) (a7 x (List.mem_of_getElem? U)) (ao j x _ U (List.getElem?_eq_getElem dE))
 cases c with
 | bx c =>
  simp only [nt] at h
  split at h
  ·rename_i a3
   split at h
   ·simp only [Option.some.injEq,Prod.mk.injEq] at h
    obtain ⟨rfl,rfl⟩:=h
    exact .pure (ao.acg a3) a7
   ·exact Kf eg H bE h bo a7 ao
  ·exact Kf eg H bE h bo a7 ao
 | comp l =>
  cases x<;>simp only [nt,reduceCtorEq] at h
  ·rename_i c
   split at h
   ·rename_i dL nk bf
    simp only [Option.some.injEq,Prod.mk.injEq] at h
    obtain ⟨rfl,rfl⟩:=h
    obtain ⟨vs,rfl,aT,BR⟩:=ao.xV
    obtain ⟨e1,aE⟩:=key l c dL nk vs bf bo (fun y aW=>bE.d7 _ _ a7 aW) aT BR
    exact .d7 e1 aE
   ·simp at h
  ·rename_i f c
   split at h
   ·rename_i dL nk bf
    simp only [Option.some.injEq,Prod.mk.injEq] at h
    obtain ⟨rfl,rfl⟩:=h
    obtain ⟨vs,rfl,aT,BR⟩:=ao.D9
    obtain ⟨e1,aE⟩:=key l c dL nk vs bf bo (fun y aW=>bE.fn _ _ _ a7 aW) aT BR
    exact .fn e1 aE
   ·simp at h
theorem Q9 (eg:h7 g s ay w)(H:mA s a0 ca bW){r:Nat}{kc:Nat→Nat}{row:List ab}(dC:∀k I,dg (some row) k=some I→s.ak r (kc k)=some I)
 (a7 : ∀k I,dg (some row) k=some I→ ∀e∈I.es,∀x∈e,q x) :
 ∀(k:Nat) b8,dg (some (row.map (gG ca))) k=some b8→ ∃I,dg (some row) k=some I∧n6 s a0 bW q I b8:=by
 intro k b8 dW
 rw [ks,List.getElem?_map] at dW
 cases a6:row[k]? with
 | none=>rw [a6] at dW;simp at dW
 | some I =>
  rw [a6] at dW
  simp only [Option.map_some,Option.bind_some] at dW
  split at dW
  ·simp at dW
  ·rename_i dt
   simp only [Option.some.injEq] at dW
   subst dW
   have ap:dg (some row) k=some I:=by rw [ks,a6,Option.bind_some,if_neg (by simpa [gG] using dt)]
   have bS:s.ak r (kc k)=some I:=dC k I ap
   refine ⟨I,ap,?_⟩
   have fA:=eg.obj r (kc k) I bS
   have hlen : ∀e∈I.es,e.length=I.sz:=by
    cases ai:ay r (kc k) with
    | none=>rw [ai] at fA;simp only [jo] at fA;rw [fA];simp
    | some q=>rw [ai] at fA;obtain ⟨_,_,_,_,e,_⟩:=fA;exact e
   refine ⟨rfl,.inl rfl,by simp [gG],?_,fun j x cK U dK=> ?_⟩
   ·intro e he
    simp only [gG,List.mem_map] at he
    obtain ⟨ep,lS,rfl⟩:=he
    simpa using hlen ep lS
   ·simp only [gG] at dK
    rw [map_flatten,List.getElem?_map,U] at dK
    simp only [Option.map_some,Option.some.injEq] at dK
    subst dK
    obtain ⟨e,he,ql⟩:=rX U
    have ads:=a7 k I ap e he x ql
    cases ai:ay r (kc k) with
    | none=>rw [ai] at fA;simp only [jo] at fA;rw [fA] at U;simp at U
    | some sK =>
     obtain ⟨b,m⟩:=sK
     rw [ai] at fA
     obtain ⟨c,eE,f1,f2,f3,f4⟩:=fA
     obtain ⟨u,lp,nL,gP⟩:=f4 j x U
     cases x with
     | ref b5 kI pk acM =>
      cases cf:ca b5 with
      | none=>simp only [nG,cf];exact .dead _
      | some vC=>simp only [nG,cf];exact .ref pk acM (H.ah _ _ cf _) (by cases gP<;>assumption)
     | bm b5 kI EI Er =>
      cases cf:ca b5 with
      | none=>simp only [nG,cf];exact .dead _
      | some vC=>simp only [nG,cf];exact .bm EI Er (H.ah _ _ cf _) (by cases gP<;>assumption)
     | iR b5 ch RV o =>
      cases cf:ca b5 with
      | none=>simp only [nG,cf];exact .dead _
      | some vC=>simp only [nG,cf];exact .iR o (fun k=>H.ah _ _ cf _)
     | _ =>
      simp only [nG]
      split
      ·rename_i a3;exact .pure (gP.yf a3) ads
      ·exact .dead _
theorem DO (eg:h7 g s ay w)(H:mA s a0 ca bW)(bE:sL q bW){c:iD}{r:Nat}{kc:Nat→Nat}{row d5:List ab}{ak:List Prop}(dC:∀k I,dg (some row) k=some I→s.ak r (kc k)=some I)
 (h:i9 s.aX ca a0 bW c row=some (d5,ak)) (bo : ∀p∈ak,p) (a7 : ∀k I,dg (some row) k=some I→ ∀e∈I.es,∀x∈e,q x) :
 d5.length=row.length∧(∀k I,dg (some row) k=some I→I.cw = .live) ∧
 ∀(k:Nat) b8,dg (some d5) k=some b8→ ∃I,dg (some row) k=some I∧n6 s a0 bW q I b8:=by
 have hlen : ∀k I,dg (some row) k=some I→ ∀e∈I.es,e.length=I.sz:=by
  intro k I ap
  have dW:s.ak r (kc k)=some I:=dC k I ap
  have fA:=eg.obj r (kc k) I dW
  cases ai:ay r (kc k) with
  | none=>rw [ai] at fA;simp only [jo] at fA;rw [fA];simp
  | some q=>rw [ai] at fA;obtain ⟨_,_,_,_,e,_⟩:=fA;exact e
 have sj:s4 row→(∀k I,dg (some row) k=some I→I.cw = .live) ∧
  ∀(k:Nat) b8,dg (some row) k=some b8→ ∃I,dg (some row) k=some I∧n6 s a0 bW q I b8:=by
  intro ai
  have rH : ∀k I,dg (some row) k=some I→I∈row:=by
   intro k I ap
   unfold dg at ap
   simp only at ap
   split at ap
   ·rename_i b8 dW
    split at ap
    ·simp at ap
    ·simp at ap;subst ap;exact List.mem_of_getElem? dW
   ·simp at ap
  refine ⟨fun k I ap=>(ai I (rH k I ap)).2,fun k I ap=>⟨I,ap,rfl,.inl rfl,rfl,hlen k I ap,fun j x cK U dK=> ?_⟩⟩
  rw [U] at dK;simp at dK;subst dK
  obtain ⟨e,he,ql⟩:=rX U
  exact .pure ((ai I (rH k I ap)).1 e he x ql) (a7 k I ap e he x ql)
 cases c with
 | pure =>
  simp only [i9,Option.some.injEq,Prod.mk.injEq] at h
  obtain ⟨rfl,rfl⟩:=h
  exact ⟨rfl,sj (bo _ (by simp))⟩
 | cO aH =>
  simp only [i9,Option.some.injEq,Prod.mk.injEq] at h
  obtain ⟨rfl,rfl⟩:=h
  have e:row=aH:=bo _ (by simp)
  subst e
  exact ⟨rfl,sj (bo _ (by simp))⟩
 | bG aH =>
  simp only [i9,Option.some.injEq,Prod.mk.injEq] at h
  obtain ⟨rfl,rfl⟩:=h
  have e:aH=row.map (gG ca):=bo _ (by simp)
  have LK:lA row:=bo _ (by simp)
  subst e
  refine ⟨by simp,fun k I ap=>by
   unfold dg at ap
   simp only at ap
   split at ap
   ·rename_i b8 dW
    split at ap
    ·simp at ap
    ·rename_i dt
     simp at ap;subst ap
     exact (LK _ (List.mem_of_getElem? dW)).resolve_right dt
   ·simp at ap,Q9 eg H dC a7⟩
 | rx aH=>cases row with
  | nil=>simp [i9] at h
  | cons I l=>cases l<;>simp [i9] at h
 | drop=>cases row with
  | nil=>simp [i9] at h
  | cons I l=>cases l<;>simp [i9] at h
 | box l =>
  match row,h with
  | [I],h =>
   simp only [i9] at h
   split at h
   ·rename_i c hr
    split at h
    ·rename_i nD
     split at h
     ·rename_i dL nk bf
      simp only [Option.some.injEq,Prod.mk.injEq] at h
      obtain ⟨rfl,rfl⟩:=h
      have h0:dg (some [I]) 0=some I:=by rw [l3];simp [nD]
      refine ⟨rfl,fun k p ai=> ?_,fun k p ai=> ?_⟩
      ·rw [l3] at ai
       split at ai
       ·simp at ai;subst ai;exact nD
       ·simp at ai
      ·rw [l3] at ai
       split at ai
       ·rename_i sB
        obtain ⟨rfl,-⟩:=sB
        simp only [Option.some.injEq] at ai;subst ai
        refine ⟨I,h0,?_⟩
        have dW:s.ak r (kc 0)=some I:=dC 0 I h0
        have fA:=eg.obj r (kc 0) I dW
        cases ku:ay r (kc 0) with
        | none=>rw [ku] at fA;simp only [jo] at fA;rw [hr] at fA;simp at fA
        | some q =>
         obtain ⟨b,m⟩:=q
         rw [ku] at fA
         obtain ⟨cr,eE,g1,g2,g3,g4⟩:=fA
         have Lh:c.length=I.sz:=g3 c (by rw [hr];simp)
         have jP:I.es.flatten=c:=by rw [hr];simp
         obtain ⟨e1,aE⟩:=Ap (vs:=(List.range c.length).map fun j=>(cr[j]?).getD undef) eg H bE bf bo (fun y aW=>a7 0 I h0 c (by rw [hr];simp) y aW) (by simp) (by
          intro j y u aW hu
          have aC:=fE aW
          rw [List.getElem?_map,List.getElem?_range aC] at hu
          simp only [Option.map_some,Option.some.injEq] at hu
          obtain ⟨pO,lp,-,gP⟩:=g4 j y (by rw [jP];exact aW)
          rw [lp] at hu;simp at hu;subst hu
          exact gP)
         refine ⟨rfl,.inl rfl,by simp [hr],by simp;omega,fun j x cK U dK=> ?_⟩
         rw [jP] at U
         simp only [List.flatten_cons,List.flatten_nil,List.append_nil] at dK
         exact aE j x cK U dK
       ·simp at ai
     ·simp at h
    ·simp at h
   ·simp at h
  | [],h=>simp [i9] at h
  | _::_::_,h=>simp [i9] at h
end
end Go.VL
namespace Go.VL
set_option linter.unusedVariables false
set_option linter.unusedSimpArgs false
open Go
def DP (P:Program)(f:FuncId):Prop:= ∃fn,P.funcs[f]? = some fn∧(fn.name == "runtime.NumGoroutine")=false∧fn.body.isSome=true
def Con (P:Program)(f:FuncId)(args:List aB)(T:List (List ab))(r:aB)(iw:List (List ab)):Prop:=DP P f∧acd P f args T r iw
def sk (k:gf):Bool:=k = .iY
def ja (_:gf):Bool:=true
def kO (_:gf):Bool:=false
def Src.r:Src→Nat
 | .row r=>r
 | .ak r _ _=>r
def Src.has:Src→Nat→Nat→Prop
 | .row r,q,_=>q=r
 | .ak r k _,q,dU=>q=r∧dU=k
def Src.mz:Src→Nat→Nat
 | .row _,k=>k
 | .ak ..,_=>0
def li (l:List Src):gC:=fun j i=>match l[j]? with
 | some (.row r)=>some (r,i)
 | some (.ak r k _)=>if i=0 then some (r,k) else none
 | none=>none
def oL (n:Nat):List Src→Nat→Option Nat
 | [],_=>none
 | .row r::l,q=>if r=q then some n else oL (n+1) l q
 | .ak .. :: l,q=>oL (n+1) l q
def ju (n:Nat):List Src→gC
 | [],_,_=>none
 | .row r::l,q,k=>if q=r then some (n,k) else ju (n+1) l q k
 | .ak r dU _::l,q,k=>if q=r∧k=dU then some (n,0) else ju (n+1) l q k
def sl (l:List Src):Nat→Option Nat:=fun j=>match l[j]? with
 | some (.row r)=>some r
 | _=>none
def apart:Src→Src→Option (List Prop)
 | .ak r k _,.ak eF dU _=>if r=eF then some [k≠dU] else some []
 | a,b=>if a.r=b.r then none else some []
def Eb (a:Src):List Src→Option (List Prop)
 | []=>some []
 | b::l=>match apart a b,Eb a l with
  | some x,some y=>some (x++y)
  | _,_=>none
def Ek:List Src→Option (List Prop)
 | []=>some []
 | a::l=>match Eb a l,Ek l with
  | some x,some y=>some (x++y)
  | _,_=>none
def Bs (l:List Src):Prop:=l.Pairwise fun a b=> ∀r k,¬(a.has r k∧b.has r k)
theorem aai {a b:Src}{ak:List Prop}(h:apart a b=some ak)(bo:∀p∈ak,p): ∀r k,¬(a.has r k∧b.has r k):=by
 rintro r k ⟨h1,o⟩
 have ao : ∀c:Src,c.has r k→c.r=r:=fun c bf=>by
  cases c with
  | row r0=>exact Eq.symm bf
  | ak r0 jg lq=>exact Eq.symm bf.1
 have e:=(ao a h1).trans (ao b o).symm
 cases a with
 | row r0=>simp only [apart] at h;rw [if_pos e] at h;simp at h
 | ak r0 jg lq =>
  cases b with
  | row r1=>simp only [apart] at h;rw [if_pos e] at h;simp at h
  | ak r1 lZ cb =>
   simp only [apart] at h
   rw [if_pos (show r0=r1 from e)] at h
   simp only [Option.some.injEq] at h
   subst h
   exact bo _ (List.mem_singleton.2 rfl) (h1.2.symm.trans o.2)
theorem Pe {a:Src}: ∀ {l:List Src} {ak:List Prop},Eb a l=some ak→(∀p∈ak,p)→ ∀b∈l,∀r k,¬(a.has r k∧b.has r k)
 | [],_,_,_,_,aR=>by simp at aR
 | b::l,ak,h,bo,c,bf=>by
  simp only [Eb] at h
  split at h
  ·rename_i x y h1 o
   simp only [Option.some.injEq] at h;subst h
   rcases List.mem_cons.1 bf with rfl|bf
   ·exact aai h1 fun p ai=>bo p (by simp [ai])
   ·exact Pe o (fun p ai=>bo p (by simp [ai])) c bf
  ·simp at h
theorem PG : ∀ {l:List Src} {ak:List Prop},Ek l=some ak→(∀p∈ak,p)→Bs l
 | [],_,_,_=>List.Pairwise.nil
 | a::l,ak,h,bo=>by
  simp only [Ek] at h
  split at h
  ·rename_i x y h1 o
   simp only [Option.some.injEq] at h;subst h
   exact List.pairwise_cons.2 ⟨Pe h1 fun p ai=>bo p (by simp [ai]),PG o fun p ai=>bo p (by simp [ai])⟩
  ·simp at h
theorem s6 {l:List Src}{j i r k:Nat}:li l j i=some (r,k)↔ ∃a,l[j]? = some a∧a.has r k∧i=a.mz k:=by
 unfold li
 cases h:l[j]? with
 | none=>simp
 | some a =>
  cases a with
  | row r0 =>
   simp only [Option.some.injEq,Prod.mk.injEq,exists_eq_left',Src.has,Src.mz]
   constructor<;>rintro ⟨a,b⟩<;>exact ⟨a.symm,b⟩
  | ak r0 jg I =>
   simp only [Option.some.injEq,exists_eq_left',Src.has,Src.mz]
   by_cases e:i=0
   ·rw [if_pos e];simp only [Option.some.injEq,Prod.mk.injEq,e,and_true];constructor<;>rintro ⟨a,b⟩<;>exact ⟨a.symm,b.symm⟩
   ·rw [if_neg e];simp [e]
theorem uD : ∀ {l:List Src} {n r k j i:Nat},ju n l r k=some (j,i)→ ∃a,n≤j∧l[j-n]? = some a∧a.has r k∧i=a.mz k
 | [],_,_,_,_,_,h=>by simp [ju] at h
 | .row r0::l,n,r,k,j,i,h=>by
  simp only [ju] at h
  split at h
  ·rename_i e
   simp only [Option.some.injEq,Prod.mk.injEq] at h
   obtain ⟨rfl,rfl⟩:=h
   exact ⟨.row r0,Nat.le_refl _,by simp,e,rfl⟩
  ·obtain ⟨a,h1,o,ae,au⟩:=uD h
   exact ⟨a,by omega,by rw [show j-n=(j-(n+1))+1 by omega,List.getElem?_cons_succ];exact o,ae,au⟩
 | .ak r0 jg I::l,n,r,k,j,i,h=>by
  simp only [ju] at h
  split at h
  ·rename_i e
   simp only [Option.some.injEq,Prod.mk.injEq] at h
   obtain ⟨rfl,rfl⟩:=h
   exact ⟨.ak r0 jg I,Nat.le_refl _,by simp,e,rfl⟩
  ·obtain ⟨a,h1,o,ae,au⟩:=uD h
   exact ⟨a,by omega,by rw [show j-n=(j-(n+1))+1 by omega,List.getElem?_cons_succ];exact o,ae,au⟩
theorem rz (n:Nat)(a:Src)(l:List Src)(r k:Nat)(h:¬a.has r k):ju n (a::l) r k=ju (n+1) l r k:=by
 cases a<;>simp only [ju,Src.has] at h ⊢ <;> rw [if_neg h]
theorem aaj (n:Nat)(a:Src)(l:List Src)(r k:Nat)(h:a.has r k):ju n (a::l) r k=some (n,a.mz k):=by
 cases a<;>simp only [ju,Src.has,Src.mz] at h ⊢ <;> rw [if_pos h]
theorem AO : ∀ {l:List Src} {n r k j:Nat} {a:Src},Bs l→l[j]? = some a→a.has r k→ju n l r k=some (n+j,a.mz k)
 | b::l,n,r,k,0,a,_,h,bF=>by
  simp at h;subst h
  exact aaj n b l r k bF
 | b::l,n,r,k,j+1,a,bE,h,bF=>by
  simp at h
  have bE:=List.pairwise_cons.1 bE
  rw [rz n b l r k fun aR=>bE.1 a (List.mem_of_getElem? h) r k ⟨aR,bF⟩,AO (j:=j) bE.2 h bF]
  congr 2;omega
theorem abI {a:Src}{r k eF dU:Nat}(h:a.has r k)(cI:a.has eF dU)(e:a.mz k=a.mz dU):r=eF∧k=dU:=by
 cases a<;>simp only [Src.has,Src.mz] at h cI e<;>omega
theorem aa7 {l:List Src}{n r k eF dU:Nat}{p:Nat×Nat}(h:ju n l r k=some p)(cI:ju n l eF dU=some p):r=eF∧k=dU:=by
 obtain ⟨j,i⟩:=p
 obtain ⟨a,h1,o,ae,au⟩:=uD h
 obtain ⟨dH,qk,LL,adt,af9⟩:=uD cI
 rw [o] at LL;simp at LL;subst LL
 exact abI ae adt (by omega)
theorem J4 : ∀ {l:List Src} {n r j:Nat},oL n l r=some j→n≤j∧l[j-n]? = some (.row r)
 | [],_,_,_,h=>by simp [oL] at h
 | .row r0::l,n,r,j,h=>by
  simp only [oL] at h
  split at h
  ·rename_i e;simp at h;subst h;subst e;exact ⟨Nat.le_refl _,by simp⟩
  ·obtain ⟨h1,o⟩:=J4 h
   exact ⟨by omega,by rw [show j-n=(j-(n+1))+1 by omega,List.getElem?_cons_succ];exact o⟩
 | .ak r0 jg I::l,n,r,j,h=>by
  simp only [oL] at h
  obtain ⟨h1,o⟩:=J4 h
  exact ⟨by omega,by rw [show j-n=(j-(n+1))+1 by omega,List.getElem?_cons_succ];exact o⟩
theorem Pf : ∀ {l:List Src} {n r:Nat},oL n l r=none→Src.row r ∉ l
 | [],_,_,_=>by simp
 | .row r0::l,n,r,h=>by
  simp only [oL] at h
  split at h
  ·simp at h
  ·rename_i e
   simp only [List.mem_cons,Src.row.injEq,not_or]
   exact ⟨fun h=>e h.symm,Pf h⟩
 | .ak r0 jg I::l,n,r,h=>by
  simp only [oL] at h
  simp only [List.mem_cons,reduceCtorEq,false_or]
  exact Pf h
def l6 (aX:Nat→Option (List ab))(ca:Nat→Option Nat)(a0:gC):List Src→List iD→Option (List (List ab)×List Prop)
 | [],[]=>some ([],[])
 | .row r::l,c::dv=>match aX r with
  | some row=>match i9 aX ca a0 sk c row,l6 aX ca a0 l dv with
   | some (d5,cb),some (T,aQ)=>some (d5::T,cb++aQ)
   | _,_=>none
  | none=>none
 | .ak r k I::l,c::dv=>match aX r with
  | some row=>match i9 aX ca a0 sk c [I],l6 aX ca a0 l dv with
   | some (d5,cb),some (T,aQ)=>some (d5::T,(dg (some row) k=some I)::(cb++aQ))
   | _,_=>none
  | none=>none
 | _,_=>none
def kV (vD:Nat→Option (List ab))(ca:Nat→Option Nat)(kJ:gC):(Nat→Option (List ab))→List Src→List iD→List (List ab)→Option (List (Nat×List ab)×List Prop)
 | _,[],[],[]=>some ([],[])
 | aX,.row q::l,c::dv,row::T=>match i9 vD ca kJ kO c row with
  | some (d5,cb)=>match kV vD ca kJ (fun x=>if x=q then some d5 else aX x) l dv T with
   | some (u,aQ)=>some ((q,d5)::u,cb++aQ)
   | none=>none
  | none=>none
 | aX,.ak q k _::l,c::dv,row::T=>match aX q with
  | some lC=>match i9 vD ca kJ kO c row with
   | some ([b8],cb)=>match kV vD ca kJ (fun x=>if x=q then some (lC.set k b8) else aX x) l dv T with
    | some (u,aQ)=>some ((q,lC.set k b8)::u,cb++aQ)
    | none=>none
   | _=>none
  | none=>none
 | _,_,_,_=>none
def n7 (T:List (List ab)):Prop:= ∀row∈T,∀I∈row,∀e∈I.es,∀x∈e,cc x
def yg (P:Program)(aX:Nat→Option (List ab))(aV:Nat)(f:FuncId)(args:List aB)(cr:Cp):Option h8 :=
 let l:=if cr.fy.length=cr.a0.length then cr.a0 else cr.a0++[.row aV]
 match Ek cr.a0 with
 | none=>none
 | some lq =>
  if cr.a0.any (fun a=>decide (a.r=aV)) then none else
  if cr.fP then
   match cr.a0 with
   | [] =>
    match lz (nt aX (fun _=>none) (li []) ja) cr.ac args,nt (fun j=>cr.fy[j]?) (sl l) (ju 0 l) kO cr.ib cr.r,
     kV (fun j=>cr.fy[j]?) (sl l) (ju 0 l) aX l cr.kj cr.fy with
    | some (qd,cb),some (eF,fH),some (u,eR)=>some {val:=eF,fO:=u,fx:=cb++fH++eR++[Con P f qd [] cr.r cr.fy,cc cr.r]++(if cr.fy.isEmpty then [] else [n7 cr.fy])}
    | _,_,_=>none
   | _=>none
  else
   match lz (nt aX (oL 0 cr.a0) (li cr.a0) sk) cr.ac args,l6 aX (oL 0 cr.a0) (li cr.a0) cr.a0 cr.dv,
    nt (fun j=>cr.fy[j]?) (sl l) (ju 0 l) kO cr.ib cr.r,kV (fun j=>cr.fy[j]?) (sl l) (ju 0 l) aX l cr.kj cr.fy with
   | some (qd,cb),some (T,aQ),some (eF,fH),some (u,eR) =>
    some {val:=eF,fO:=u,fx:=lq++cb++aQ++fH++eR++[Con P f qd T cr.r cr.fy]}
   | _,_,_,_=>none
theorem OQ {aX:Nat→Option (List ab)}{ca:Nat→Option Nat}{a0:gC}{bW:gf→Bool}{c:iD}{row d5:List ab}{ak:List Prop}(h:i9 aX ca a0 bW c row=some (d5,ak))(bo:∀p∈ak,p):
 ∀k I,dg (some row) k=some I→I.cw = .live:=by
 have rH : ∀k I,dg (some row) k=some I→I∈row∧I.cw≠ .gone:=by
  intro k I ap
  rw [ks] at ap
  cases a6:row[k]? with
  | none=>rw [a6] at ap;simp at ap
  | some p =>
   rw [a6,Option.bind_some] at ap
   split at ap
   ·simp at ap
   ·rename_i e;simp at ap;subst ap;exact ⟨List.mem_of_getElem? a6,e⟩
 intro k I ap
 obtain ⟨h1,o⟩:=rH k I ap
 cases c with
 | pure =>
  simp only [i9,Option.some.injEq,Prod.mk.injEq] at h
  obtain ⟨rfl,rfl⟩:=h
  exact ((bo _ (List.mem_singleton.2 rfl):s4 row) I h1).2
 | cO aH =>
  simp only [i9,Option.some.injEq,Prod.mk.injEq] at h
  obtain ⟨rfl,rfl⟩:=h
  have e:row=aH:=bo _ (by simp)
  have ai:s4 aH:=bo _ (by simp)
  exact (ai I (e▸h1)).2
 | bG aH =>
  simp only [i9,Option.some.injEq,Prod.mk.injEq] at h
  obtain ⟨rfl,rfl⟩:=h
  have ai:lA row:=bo _ (by simp)
  exact (ai I h1).resolve_right o
 | rx aH=>cases row with
  | nil=>simp [i9] at h
  | cons I l=>cases l<;>simp [i9] at h
 | drop=>cases row with
  | nil=>simp [i9] at h
  | cons I l=>cases l<;>simp [i9] at h
 | box l =>
  match row,h,h1 with
  | [p],h,h1 =>
   simp only [i9] at h
   rw [List.mem_singleton] at h1;subst h1
   split at h
   ·split at h
    ·rename_i e;exact e
    ·simp at h
   ·simp at h
  | [],h,_=>simp [i9] at h
  | _::_::_,h,_=>simp [i9] at h
section
variable {P:Program} {g:G} {s:S} {ay:fo} {a:Act} {w:World}
theorem J5 (eg:h7 g s ay w){a0:gC}{ca:Nat→Option Nat}(H:mA s a0 ca sk): ∀(l:List Src) (dv:List iD) (T:List (List ab)) (ak:List Prop),
 l6 s.aX ca a0 l dv=some (T,ak)→(∀p∈ak,p)→T.length=l.length∧ ∀(j:Nat) d5 b,T[j]? = some d5→l[j]? = some b →
  (∀r k I,b.has r k→s.ak r k=some I→I.cw = .live)∧(∀r k,b.has r k→s.a5 r k→b.mz k<d5.length) ∧
  (∀r k I,b = .ak r k I→s.ak r k=some I) ∧
  ∀(i:Nat) b8,dg (some d5) i=some b8→ ∃r k I,b.has r k∧i=b.mz k∧s.ak r k=some I∧n6 s a0 sk lW I b8
 | [],[],T,ak,h,_=>by
  simp [l6] at h;obtain ⟨rfl,rfl⟩:=h
  exact ⟨rfl,fun j d5 r aC=>by simp at aC⟩
 | .row r::l,c::dv,T,ak,h,bo=>by
  simp only [l6] at h
  split at h
  ·rename_i row dC
   split at h
   ·rename_i aq cb m0 aQ h1 o
    simp only [Option.some.injEq,Prod.mk.injEq] at h
    obtain ⟨rfl,rfl⟩:=h
    obtain ⟨e1,aE⟩:=J5 eg H l dv m0 aQ o (fun p ai=>bo p (by simp [ai]))
    have kh : ∀k,s.ak r k=dg (some row) k:=fun k=>by unfold S.ak;rw [dC]
    obtain ⟨f0,f1,f2⟩:=DO (q:=lW) (kc:=id) eg H (tv _) (fun k I ap=>(kh k).trans ap) h1 (fun p ai=>bo p (by simp [ai])) (fun _ _ _ _ _ _ _=>trivial)
    refine ⟨by simp [e1],fun j d5 b aC aR=> ?_⟩
    cases j with
    | zero =>
     simp at aC aR;subst aC;subst aR
     refine ⟨fun q k I a7 ap=> ?_,fun q k a7 hu=> ?_,fun _ _ _ e=>by simp at e,fun i b8 dW=> ?_⟩
     ·have a7:q=r:=a7
      subst a7;rw [kh] at ap;exact f1 k I ap
     ·have a7:q=r:=a7
      subst a7;rw [f0];simpa [S.a5,dC,Src.mz] using hu
     ·obtain ⟨I,g1,g2⟩:=f2 i b8 dW
      exact ⟨r,i,I,rfl,rfl,(kh i).trans g1,g2⟩
    | succ j=>simp at aC aR;exact aE j d5 b aC aR
   ·simp at h
  ·simp at h
 | .ak r jg lq::l,c::dv,T,ak,h,bo=>by
  simp only [l6] at h
  split at h
  ·rename_i row dC
   split at h
   ·rename_i aq cb m0 aQ h1 o
    simp only [Option.some.injEq,Prod.mk.injEq] at h
    obtain ⟨rfl,rfl⟩:=h
    obtain ⟨e1,aE⟩:=J5 eg H l dv m0 aQ o (fun p ai=>bo p (by simp [ai]))
    have ap:s.ak r jg=some lq:=by unfold S.ak;rw [dC];exact bo _ (by simp)
    have lQ : ∀k I,dg (some [lq]) k=some I→k=0∧I=lq:=fun k I a6=>by
     rw [l3] at a6;split at a6
     ·rename_i e;simp at a6;exact ⟨e.1,a6.symm⟩
     ·simp at a6
    have LM:lq.cw≠ .gone:=by
     unfold S.ak at ap;rw [dC,ks] at ap
     cases a6:row[jg]? with
     | none=>rw [a6] at ap;simp at ap
     | some p =>
      rw [a6,Option.bind_some] at ap;split at ap
      ·simp at ap
      ·rename_i e;simp at ap;subst ap;exact e
    obtain ⟨f0,f1,f2⟩:=DO (q:=lW) (kc:=fun _=>jg) (r:=r) eg H (tv _) (fun k I a6=>by rw [(lQ k I a6).2];exact ap) h1 (fun p ai=>bo p (by simp [ai])) (fun _ _ _ _ _ _ _=>trivial)
    refine ⟨by simp [e1],fun j d5 b aC aR=> ?_⟩
    cases j with
    | zero =>
     simp at aC aR;subst aC;subst aR
     refine ⟨fun q k I a7 pD=> ?_,fun q k a7 hu=> ?_,fun eF dU b8 e=> ?_,fun i b8 dW=> ?_⟩
     ·obtain ⟨rfl,rfl⟩:q=r∧k=jg:=a7
      rw [ap] at pD;simp at pD;subst pD
      exact f1 0 lq (by rw [l3];simp [LM])
     ·rw [f0];simp [Src.mz]
     ·cases e;exact ap
     ·obtain ⟨I,g1,g2⟩:=f2 i b8 dW
      obtain ⟨rfl,rfl⟩:=lQ i I g1
      exact ⟨r,jg,I,⟨rfl,rfl⟩,rfl,ap,g2⟩
    | succ j=>simp at aC aR;exact aE j d5 b aC aR
   ·simp at h
  ·simp at h
 | [],_::_,_,_,h,_=>by simp [l6] at h
 | .row _::_,[],_,_,h,_=>by simp [l6] at h
 | .ak .. :: _,[],_,_,h,_=>by simp [l6] at h
theorem JW {fX:G}{s1:S}{kR:fo}{bL:World}(eg:h7 fX s1 kR bL){kJ:gC}{q:aB→Prop}{ca:Nat→Option Nat}(H:mA s1 kJ ca kO)(bE:sL q kO)
 (a7 : ∀j i I,s1.ak j i=some I→ ∀e∈I.es,∀x∈e,q x) :
 ∀(l:List Src) (dv:List iD) (T:List (List ab)) (u:List (Nat×List ab)) (ak:List Prop) (n:Nat) (s:S),Bs l→(∀j row,T[j]? = some row→s1.aX (n+j)=some row) →
 (∀r k j i,ju n l r k=some (j,i)→s.a5 r k→s1.a5 j i)→(∀r k I,Src.ak r k I∈l→s.a5 r k) →
 kV s1.aX ca kJ s.aX l dv T=some (u,ak)→(∀p∈ak,p)→T.length=l.length∧(s.h2 u).E=s.E ∧
  (∀r k I,(s.h2 u).ak r k=some I→(∃j i p,ju n l r k=some (j,i)∧s1.ak j i=some p∧n6 s1 kJ kO q p I)∨(ju n l r k=none∧s.ak r k=some I)) ∧
  (∀r k,s.a5 r k→(s.h2 u).a5 r k)∧(∀r k j i,ju n l r k=some (j,i)→s1.a5 j i→(s.h2 u).a5 r k)
 | [],[],[],u,ak,n,s,_,_,_,_,h,_=>by
  simp [kV] at h;obtain ⟨rfl,rfl⟩:=h
  exact ⟨rfl,rfl,fun r k I ap=> .inr ⟨rfl,ap⟩,fun r k h=>h,fun r k j i h=>by simp [ju] at h⟩
 | .row q0::l,c::dv,row::T,u,ak,n,s,rP,ic,hu,q2,h,bo=>by
  simp only [kV] at h
  split at h
  ·rename_i d5 cb h1
   split at h
   ·rename_i nL aQ o
    simp only [Option.some.injEq,Prod.mk.injEq] at h
    obtain ⟨rfl,rfl⟩:=h
    have BS:=List.pairwise_cons.1 rP
    have h3:s1.aX n=some row:=ic 0 row rfl
    have u1 : ∀k,s1.ak n k=dg (some row) k:=fun k=>by unfold S.ak;rw [h3]
    obtain ⟨f0,f1,f2⟩:=DO (q:=q) (kc:=id) (r:=n) eg H bE (fun k I ap=>(u1 k).trans ap) h1 (fun p ai=>bo p (by simp [ai])) (fun k I ap=>a7 n k I ((u1 k).trans ap))
    have hI : ∀k j i,ju (n+1) l q0 k≠some (j,i):=fun k j i hm=>by
     obtain ⟨b,ir,hh,qu,Mu⟩:=uD hm
     exact BS.1 b (List.mem_of_getElem? hh) q0 k ⟨rfl,qu⟩
    have yp : ∀r k,s.a5 r k→(s.setRow q0 d5).a5 r k:=fun r k a6=>by
     rw [m7]
     by_cases e:r=q0
     ·subst e;rw [if_pos rfl,f0]
      have:=hu r k n k (by simp [ju]) a6
      simpa [S.a5,h3] using this
     ·rw [if_neg e];exact a6
    obtain ⟨e1,aE,bT,de,dw⟩:=JW eg H bE a7 l dv T nL aQ (n+1) (s.setRow q0 d5) BS.2 (fun j row aC=>by rw [Nat.add_assoc,Nat.add_comm 1 j];exact ic (j+1) row (by simpa using aC))
     (fun r k j i hm a6=>by
       have c4:r≠q0:=by rintro rfl;exact hI _ _ _ hm
       refine hu r k j i ?_ (by rw [m7,if_neg c4] at a6;exact a6)
       rw [rz n (.row q0) l r k c4];exact hm)
     (fun r k I hm=>yp r k (q2 r k I (by simp [hm]))) o (fun p ai=>bo p (by simp [ai]))
    refine ⟨by simp [e1],aE,fun r k I ap=> ?_,fun r k a6=>de r k (yp r k a6),fun r k j i hm a6=> ?_⟩
    ·rcases bT r k I ap with ⟨j,i,p,ir,hh,qu⟩|⟨ir,hh⟩
     ·have c4:r≠q0:=by rintro rfl;exact hI _ _ _ ir
      exact .inl ⟨j,i,p,by rw [rz n (.row q0) l r k c4];exact ir,hh,qu⟩
     ·rw [lv] at hh
      by_cases e:r=q0
      ·subst e
       rw [if_pos rfl] at hh
       obtain ⟨p,g1,g2⟩:=f2 k I hh
       exact .inl ⟨n,k,p,by simp [ju],(u1 k).trans g1,g2⟩
      ·rw [if_neg e] at hh
       exact .inr ⟨by rw [rz n (.row q0) l r k e];exact ir,hh⟩
    ·by_cases e:r=q0
     ·subst e
      simp only [ju,if_true] at hm
      simp only [Option.some.injEq,Prod.mk.injEq] at hm
      obtain ⟨rfl,rfl⟩:=hm
      refine de r k ?_
      rw [m7,if_pos rfl,f0]
      simpa [S.a5,h3] using a6
     ·rw [rz n (.row q0) l r k e] at hm
      exact dw r k j i hm a6
   ·simp at h
  ·simp at h
 | .ak q0 jg lq::l,c::dv,row::T,u,ak,n,s,rP,ic,hu,q2,h,bo=>by
  simp only [kV] at h
  split at h
  ·rename_i lC Es
   split at h
   ·rename_i b8 cb h1
    split at h
    ·rename_i nL aQ o
     simp only [Option.some.injEq,Prod.mk.injEq] at h
     obtain ⟨rfl,rfl⟩:=h
     have BS:=List.pairwise_cons.1 rP
     have h3:s1.aX n=some row:=ic 0 row rfl
     have u1 : ∀k,s1.ak n k=dg (some row) k:=fun k=>by unfold S.ak;rw [h3]
     obtain ⟨f0,f1,f2⟩:=DO (q:=q) (kc:=id) (r:=n) eg H bE (fun k I ap=>(u1 k).trans ap) h1 (fun p ai=>bo p (by simp [ai])) (fun k I ap=>a7 n k I ((u1 k).trans ap))
     have hI : ∀j i,ju (n+1) l q0 jg≠some (j,i):=fun j i hm=>by
      obtain ⟨b,ir,hh,qu,Mu⟩:=uD hm
      exact BS.1 b (List.mem_of_getElem? hh) q0 jg ⟨⟨rfl,rfl⟩,qu⟩
     have yp : ∀r k,s.a5 r k→(s.setRow q0 (lC.set jg b8)).a5 r k:=Dp s Es (by simp)
     have sB:jg<lC.length:=by have:=q2 q0 jg lq (by simp);simpa [S.a5,Es] using this
     obtain ⟨e1,aE,bT,de,dw⟩:=JW eg H bE a7 l dv T nL aQ (n+1) (s.setRow q0 (lC.set jg b8)) BS.2 (fun j row aC=>by rw [Nat.add_assoc,Nat.add_comm 1 j];exact ic (j+1) row (by simpa using aC))
      (fun r k j i hm a6=>by
        have c4 : ¬(Src.ak q0 jg lq).has r k:=by rintro ⟨rfl,rfl⟩;exact hI _ _ hm
        refine hu r k j i (by rw [rz n _ l r k c4];exact hm) ?_
        rw [m7] at a6
        split at a6
        ·rename_i e;subst e;simpa [S.a5,Es] using a6
        ·exact a6)
      (fun r k I hm=>yp r k (q2 r k I (by simp [hm]))) o (fun p ai=>bo p (by simp [ai]))
     refine ⟨by simp [e1],aE,fun r k I ap=> ?_,fun r k a6=>de r k (yp r k a6),fun r k j i hm a6=> ?_⟩
     ·rcases bT r k I ap with ⟨j,i,p,ir,hh,qu⟩|⟨ir,hh⟩
      ·have c4 : ¬(Src.ak q0 jg lq).has r k:=by rintro ⟨rfl,rfl⟩;exact hI _ _ ir
       exact .inl ⟨j,i,p,by rw [rz n _ l r k c4];exact ir,hh,qu⟩
      ·rw [lv] at hh
       by_cases e:r=q0
       ·subst e
        rw [if_pos rfl,ks,List.getElem?_set] at hh
        by_cases aE:jg=k
        ·subst aE
         rw [if_pos rfl,if_pos sB,Option.bind_some] at hh
         have qu:dg (some [b8]) 0=some I:=by rw [ks];exact hh
         obtain ⟨p,g1,g2⟩:=f2 0 I qu
         exact .inl ⟨n,0,p,by simp [ju],(u1 0).trans g1,g2⟩
        ·rw [if_neg aE] at hh
         have c4 : ¬(Src.ak r jg lq).has r k:=by rintro ⟨-,rfl⟩;exact aE rfl
         exact .inr ⟨by rw [rz n _ l r k c4];exact ir,by unfold S.ak;rw [Es,ks];exact hh⟩
       ·rw [if_neg e] at hh
        have c4 : ¬(Src.ak q0 jg lq).has r k:=by rintro ⟨rfl,-⟩;exact e rfl
        exact .inr ⟨by rw [rz n _ l r k c4];exact ir,hh⟩
     ·by_cases e:(Src.ak q0 jg lq).has r k
      ·obtain ⟨rfl,rfl⟩:=e
       exact de r k (yp r k (q2 r k lq (by simp)))
      ·rw [rz n _ l r k e] at hm
       exact dw r k j i hm a6
    ·simp at h
   ·simp at h
  ·simp at h
 | [],[],_::_,_,_,_,_,_,_,_,_,h,_=>by simp [kV] at h
 | [],_::_,_,_,_,_,_,_,_,_,_,h,_=>by simp [kV] at h
 | .row _::_,[],_,_,_,_,_,_,_,_,_,h,_=>by simp [kV] at h
 | .ak .. :: _,[],_,_,_,_,_,_,_,_,_,h,_=>by simp [kV] at h
 | .row _::_,_::_,[],_,_,_,_,_,_,_,_,h,_=>by simp [kV] at h
 | .ak .. :: _,_::_,[],_,_,_,_,_,_,_,_,h,_=>by simp [kV] at h
theorem PH (h:cM g s ay a w){aV:Nat}(eV:s.aX aV=none){f:FuncId}{args:List aB}{cr:Cp}{l:List Src}(nj:l=if cr.fy.length=cr.a0.length then cr.a0 else cr.a0++[.row aV])
 (rP:Bs cr.a0) (vb : ∀a∈cr.a0,a.r≠aV) {bW:gf→Bool} {A:Nat→Prop} {q:aB→Prop} {T:List (List ab)} {ca:Nat→Option Nat}
 (hA : ∀b,A b→b<w.heap.size) (LH : ∀b,s.ok g ay w b→A b) (LI : ∀r k I b m,s.ak r k=some I→bW I.cw=true→ay r k=some (b,m)→A b)
 (adu:(∀b,A b→s.ok g ay w b)∨(∀x,q x→cc x)) (bE:sL q kO) (Fc:mA s (li cr.a0) ca bW)
 (cZ:pE s (li cr.a0) bW lW (e3 T).aX) (pw : ∀r k I,(∃j i,li cr.a0 j i=some (r,k))→s.ak r k=some I→I.cw = .live) (hex : ∀r k I,Src.ak r k I∈cr.a0→s.a5 r k)
 {qd:List aB} {cb:List Prop} (mU:lz (nt s.aX ca (li cr.a0) bW) cr.ac args=some (qd,cb)) (q3 : ∀p∈cb,p)
 {eF:aB} {fH:List Prop} (yw:nt (fun j=>cr.fy[j]?) (sl l) (ju 0 l) kO cr.ib cr.r=some (eF,fH)) (LN : ∀p∈fH,p)
 {u:List (Nat×List ab)} {eR:List Prop} (BT:kV (fun j=>cr.fy[j]?) (sl l) (ju 0 l) s.aX l cr.kj cr.fy=some (u,eR)) (adv : ∀p∈eR,p)
 (yq:Con P f qd T cr.r cr.fy) (adw:q cr.r) (adx : ∀j i I,(e3 cr.fy).ak j i=some I→ ∀e∈I.es,∀x∈e,q x)
 {vs:List Value} (aT:vs.length=args.length) (hargs : ∀(j:Nat) x v,args[j]? = some x→vs[j]? = some v→Rel w (s.ok g ay w) s.a5 (s.bi ay) x v) :
 DP P f∧Calls P f vs.toArray w fun e bL=> ∃v bK,e = .returned v∧cM g (s.h2 u) bK a bL∧Rel bL ((s.h2 u).ok g bK bL) (s.h2 u).a5 ((s.h2 u).bi bK) eF v:=by
 have LO:Bs l:=by
  subst nj
  split
  ·exact rP
  ·refine List.pairwise_append.2 ⟨rP,List.pairwise_singleton _ _,fun b aR c bf r k fw=> ?_⟩
   rw [List.mem_singleton] at bf;subst bf
   have h1:r=aV:=fw.2
   subst h1
   cases b with
   | row r0=>exact vb _ aR (Eq.symm fw.1)
   | ak r0 jg lq=>exact vb _ aR (Eq.symm fw.1.1)
 have RW : ∀(j:Nat) b,cr.a0[j]? = some b→l[j]? = some b:=by
  intro j b aC
  subst nj
  split
  ·exact aC
  ·rw [List.getElem?_append_left (fE aC)];exact aC
 have RX : ∀(j:Nat) b,l[j]? = some b→cr.a0[j]? = some b∨b = .row aV:=by
  intro j b aC
  subst nj
  split at aC
  ·exact .inl aC
  ·rw [List.getElem?_append] at aC
   split at aC
   ·exact .inl aC
   ·right
    have:=fE aC
    simp at this
    rw [show j-cr.a0.length=0 by omega] at aC
    simpa using aC.symm
 refine ⟨yq.1,?_⟩
 obtain ⟨fX,q1,a1,b0,Mv,ct,dh,fI,hR⟩:=enter h.toh7 A hA LH LI cZ pw
 obtain ⟨e1,aE,bT⟩:=DN _ _ _ _ _ mU
 have:=yq.2 fX (jQ ay (li cr.a0)) w vs.toArray q1 b0 Mv ct fI (by simp [aT,e1]) (by
  intro j cK v dK bh
  have aC:j<args.length:=by have:=fE dK;omega
  have U:=List.getElem?_eq_getElem aC
  obtain ⟨c,b8,f1,f2,f3⟩:=bT j _ cK U dK
  have BE:vs[j]? = some v:=by simpa using bh
  exact hR (Au h.toh7 Fc (tv _) f2 (fun p ai=>q3 p (f3 p ai)) trivial (hargs j _ v U BE)) (hargs j _ v U BE))
 refine this.mono fun e bL BC=> ?_
 obtain ⟨v,kR,rfl,EJ,bh⟩:=BC
 have SY:mA (e3 cr.fy) (ju 0 l) (sl l) kO:=by
  refine ⟨fun j r aC k=> ?_,fun _ _ _ _ _ bF=>by simp [kO] at bF⟩
  unfold sl at aC
  split at aC
  ·rename_i r0 lh
   simp at aC;subst aC
   have:=AO (n:=0) (r:=r0) (k:=k) LO lh rfl
   simpa [Src.mz] using this
  ·simp at aC
 have A0 : ∀j i r k,li cr.a0 j i=some (r,k)→ju 0 l r k=some (j,i):=fun j i r k hm=>by
  obtain ⟨b,ir,hh,rfl⟩:=s6.1 hm
  have:=AO (n:=0) LO (RW j b ir) hh
  simpa using this
 have Ep : ∀r k j i,ju 0 l r k=some (j,i)→li cr.a0 j i=some (r,k)∨ ¬s.a5 r k:=fun r k j i hm=>by
  obtain ⟨b,-,hh,qu,Mu⟩:=uD hm
  rcases RX j b (by simpa using hh) with e|e
  ·exact .inl (s6.2 ⟨b,e,qu,Mu⟩)
  ·subst e
   have:r=aV:=qu
   subst this
   exact .inr (xo eV k)
 obtain ⟨lp,nL,gP,aeB,aeC⟩:=JW (s1:=e3 cr.fy) EJ SY bE adx l cr.kj cr.fy u eR 0 s LO (fun j row aC=>by simpa [e3] using aC)
  (fun r k j i hm a6=>by
    rcases Ep r k j i hm with e|e
    ·exact (EJ.stay j i (by rw [Mv];exact cZ.a5 _ _ _ _ e a6)).1
    ·exact absurd a6 e)
  (fun r k I hm=>by
    obtain ⟨j,aC⟩:=List.getElem?_of_mem hm
    rcases RX j _ aC with e|e
    ·exact hex r k I (List.mem_of_getElem? e)
    ·cases e) BT adv
 obtain ⟨lo,f1,f2⟩:=leave (q0:=lW) (q:=q) h q1 (by rw [a1];exact adu) Mv ct dh pw cZ EJ A0 Ep (fun r k eF dU p=>aa7) (s2:=s.h2 u) nL gP aeB aeC
  (Au EJ SY bE yw LN adw bh) bh
 exact ⟨v,lo,rfl,f1,f2⟩
theorem Yv (h:cM g s ay a w){aV:Nat}(eV:s.aX aV=none){f:FuncId}{args:List aB}{cr:Cp}{bD:h8}(aw:yg P s.aX aV f args cr=some bD)(cF:∀p∈bD.fx,p)
 {vs:List Value} (aT:vs.length=args.length) (hargs : ∀(j:Nat) x v,args[j]? = some x→vs[j]? = some v→Rel w (s.ok g ay w) s.a5 (s.bi ay) x v) :
 DP P f∧Calls P f vs.toArray w fun e bL=> ∃v bK,e = .returned v∧cM g (s.h2 bD.fO) bK a bL∧Rel bL ((s.h2 bD.fO).ok g bK bL) (s.h2 bD.fO).a5 ((s.h2 bD.fO).bi bK) bD.val v:=by
 unfold yg at aw
 simp only at aw
 generalize nj:(if cr.fy.length=cr.a0.length then cr.a0 else cr.a0++[.row aV])=l at aw
 split at aw
 ·simp at aw
 ·rename_i lq sC
  split at aw
  ·simp at aw
  ·rename_i acN
   have vb : ∀a∈cr.a0,a.r≠aV:=fun b aR e=>acN (List.any_eq_true.2 ⟨b,aR,by simpa using e⟩)
   split at aw
   ·
    split at aw
    ·rename_i tw
     split at aw
     ·rename_i qd cb eF fH u eR mU yw BT
      simp only [Option.some.injEq] at aw
      subst aw
      have yq:Con P f qd [] cr.r cr.fy:=cF _ (by simp)
      have BU:cc cr.r:=cF _ (by simp)
      have acO:n7 cr.fy:=by
       by_cases e:cr.fy=[]
       ·rw [e];intro row dC;simp at dC
       ·exact cF _ (by
         have:cr.fy.isEmpty=false:=by simpa [List.isEmpty_iff] using e
         simp [this])
      refine PH (bW:=ja) (A:=fun b=>b<w.heap.size) (q:=cc) (T:=[]) (ca:=fun _=>none) h eV nj.symm (by rw [tw];exact List.Pairwise.nil) vb (fun _ aR=>aR) (fun b aR=>aR.1)
       (fun r k I b m ap _ ai=>AM h.toh7 ap ai) (.inr fun _ U=>U) adq ?_ ?_ ?_ ?_ (by rw [tw];exact mU) (fun p ai=>cF p (by simp [ai])) yw (fun p ai=>cF p (by simp [ai])) BT (fun p ai=>cF p (by simp [ai])) yq BU ?_ aT hargs
      ·refine ⟨fun _ _ e=>by simp at e,fun r _ k I _ _ j i e=> ?_⟩
       rw [tw] at e;simp [li] at e
      ·refine ⟨fun j i hP eD p e=> ?_,fun j i b8 e=> ?_,fun j i r k e=> ?_⟩
       ·rw [tw] at e;simp [li] at e
       ·simp [e3,dg] at e
       ·rw [tw] at e;simp [li] at e
      ·rintro r k I ⟨j,i,e⟩
       rw [tw] at e;simp [li] at e
      ·rintro r k I e
       rw [tw] at e;simp at e
      ·intro j i I ap e he x U
       have ap:dg (cr.fy[j]?) i=some I:=ap
       cases ao:cr.fy[j]? with
       | none=>rw [ao] at ap;simp [dg] at ap
       | some row =>
        rw [ao,ks] at ap
        cases a6:row[i]? with
        | none=>rw [a6] at ap;simp at ap
        | some p =>
         rw [a6,Option.bind_some] at ap
         split at ap
         ·simp at ap
         ·simp at ap;subst ap
          exact acO row (List.mem_of_getElem? ao) p (List.mem_of_getElem? a6) e he x U
     ·simp at aw
    ·simp at aw
   ·split at aw
    ·rename_i qd cb T aQ eF fH u eR mU yv yw BT
     simp only [Option.some.injEq] at aw
     subst aw
     have rP:=PG sC fun p ai=>cF p (by simp [ai])
     have yq:Con P f qd T cr.r cr.fy:=cF _ (by simp)
     have ah : ∀r j,oL 0 cr.a0 r=some j→ ∀k,li cr.a0 j k=some (r,k):=fun r j aC k=>by
      obtain ⟨-,o⟩:=J4 aC
      simp only [li,show cr.a0[j]? = some (.row r) by simpa using o]
     have LK : ∀(l:List Src) (dv:List iD) (T:List (List ab)) (ak:List Prop),l6 s.aX (oL 0 cr.a0) (li cr.a0) l dv=some (T,ak)→(∀p∈ak,p) →
      ∀b∈l,∀r k I,b.has r k→s.ak r k=some I→I.cw≠ .iY:=by
      intro l
      induction l with
      | nil=>intro _ _ _ _ _ b aR;simp at aR
      | cons b l ih =>
       intro dv T ak h0 bo c bf r k I fw ap
       cases dv with
       | nil=>cases b<;>simp [l6] at h0
       | cons dM dv =>
        cases b with
        | row r0 =>
         simp only [l6] at h0
         split at h0
         ·rename_i row dC
          split at h0
          ·rename_i aq p1 m0 hi h1 o
           simp only [Option.some.injEq,Prod.mk.injEq] at h0
           obtain ⟨rfl,rfl⟩:=h0
           rcases List.mem_cons.1 bf with rfl|bf
           ·have e:r=r0:=fw
            subst e
            have dW:dg (some row) k=some I:=by unfold S.ak at ap;rw [dC] at ap;exact ap
            have:=OQ h1 (fun p ai=>bo p (by simp [ai])) k I dW
            rw [this];simp
           ·exact ih dv m0 hi o (fun p ai=>bo p (by simp [ai])) c bf r k I fw ap
          ·simp at h0
         ·simp at h0
        | ak r0 jg lq =>
         simp only [l6] at h0
         split at h0
         ·rename_i row dC
          split at h0
          ·rename_i aq p1 m0 hi h1 o
           simp only [Option.some.injEq,Prod.mk.injEq] at h0
           obtain ⟨rfl,rfl⟩:=h0
           rcases List.mem_cons.1 bf with rfl|bf
           ·obtain ⟨rfl,rfl⟩:=fw
            have q3:dg (some row) k=some lq:=bo _ (by simp)
            have dW:dg (some row) k=some I:=by unfold S.ak at ap;rw [dC] at ap;exact ap
            rw [q3] at dW;simp at dW;subst dW
            have LM:lq.cw≠ .gone:=by
             rw [ks] at q3
             cases a6:row[k]? with
             | none=>rw [a6] at q3;simp at q3
             | some p =>
              rw [a6,Option.bind_some] at q3;split at q3
              ·simp at q3
              ·rename_i e;simp at q3;subst q3;exact e
            have:=OQ h1 (fun p ai=>bo p (by simp [ai])) 0 lq (by rw [l3];simp [LM])
            rw [this];simp
           ·exact ih dv m0 hi o (fun p ai=>bo p (by simp [ai])) c bf r k I fw ap
          ·simp at h0
         ·simp at h0
     have Fc:mA s (li cr.a0) (oL 0 cr.a0) sk:=by
      refine ⟨ah,fun r ao k I ap bF j i hm=> ?_⟩
      obtain ⟨b,ir,hh,-⟩:=s6.1 hm
      exact LK cr.a0 cr.dv T aQ yv (fun p ai=>cF p (by simp [ai])) b (List.mem_of_getElem? ir) r k I hh ap (by simpa [sk] using bF)
     obtain ⟨t1,t2⟩:=J5 h.toh7 Fc cr.a0 cr.dv T aQ yv (fun p ai=>cF p (by simp [ai]))
     have lV : ∀j b,cr.a0[j]? = some b→ ∃d5,T[j]? = some d5:=fun j b aC=>by
      have:j<T.length:=by have:=fE aC;omega
      exact ⟨_,List.getElem?_eq_getElem this⟩
     refine PH (bW:=sk) (A:=s.ok g ay w) (q:=lW) (T:=T) h eV nj.symm rP vb (fun b aR=>aR.1) (fun b aR=>aR)
      (fun r k I b m ap a6 ai=>abG h.toh7 ap (by simpa [sk] using a6) ai) (.inl fun _ aR=>aR) (tv _) Fc ?_ ?_ ?_ mU (fun p ai=>cF p (by simp [ai])) yw (fun p ai=>cF p (by simp [ai])) BT
      (fun p ai=>cF p (by simp [ai])) yq trivial (fun _ _ _ _ _ _ _ _=>trivial) aT hargs
     ·refine ⟨fun j i hP eD p e ep=> ?_,fun j i b8 dW=> ?_,fun j i r k e hu=> ?_⟩
      ·obtain ⟨r,k⟩:=p
       obtain ⟨b,ir,hh,rfl⟩:=s6.1 e
       obtain ⟨ko,ady,adz,rfl⟩:=s6.1 ep
       have e1:=AO (n:=0) rP ir hh
       have aE:=AO (n:=0) rP ady adz
       rw [e1] at aE
       simpa using aE
      ·have aC:j<T.length:=by
        rcases Nat.lt_or_ge j T.length with e|e
        ·exact e
        ·have:(e3 T).aX j=none:=List.getElem?_eq_none e
         rw [this] at dW;simp [dg] at dW
       have RY:T[j]? = some T[j]:=List.getElem?_eq_getElem aC
       have RZ:cr.a0[j]? = some (cr.a0[j]'(by omega)):=List.getElem?_eq_getElem (by omega)
       have pD:dg (some T[j]) i=some b8:=by have:(e3 T).aX j=some T[j]:=RY;rw [this] at dW;exact dW
       obtain ⟨r,k,I,n1,kp,aeD,aeE⟩:=(t2 j _ _ RY RZ).2.2.2 i b8 pD
       exact ⟨r,k,I,s6.2 ⟨_,RZ,n1,kp⟩,aeD,aeE⟩
      ·obtain ⟨b,ir,hh,rfl⟩:=s6.1 e
       obtain ⟨d5,rE⟩:=lV j b ir
       have:=(t2 j d5 b rE ir).2.1 r k hh hu
       show b.mz k<((T[j]?).getD []).length
       rw [rE];exact this
     ·rintro r k I ⟨j,i,e⟩ ap
      obtain ⟨b,ir,hh,-⟩:=s6.1 e
      obtain ⟨d5,rE⟩:=lV j b ir
      exact (t2 j d5 b rE ir).1 r k I hh ap
     ·intro r k I hm
      obtain ⟨j,aC⟩:=List.getElem?_of_mem hm
      obtain ⟨d5,rE⟩:=lV j _ aC
      exact DM ((t2 j d5 _ rE aC).2.2.1 r k I rfl)
    ·simp at aw
end
end Go.VL
